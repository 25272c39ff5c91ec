import Derived.Test.YtkmobminpeiklaaG5
import Derived.Test.YtkmobminpeiklaaG4
import Derived.Test.YtkmobminpeiklaaG3
import Derived.Test.YtkmobminpeiklaaChecked
set_option linter.all false
open List renaming map_cons → Qa, map_nil → Qb, getD_eq_getElem?_getD → Qd, getElem?_cons_zero → Qe, length_cons → Qf, length_nil → Qg, take_succ_cons → Qh, drop_succ_cons → Qj, append_nil → Qk, getElem?_cons_succ → Ql, nil_append → Qm, cons_append → Qn, headD_cons → Qq, drop_zero → Qr, all_nil → Qs, getElem?_nil → Qu, all_cons → Qv, replicate_zero → Qw, take_nil → Qx, length_map → Qy, contains_nil → Q0, take_zero → Q2, isEmpty_nil → Q3, getElem?_eq_getElem → Q4, set_cons_zero → Za, mem_of_getElem? → Zc, contains_cons → Zd, any_nil → Ze, getElem?_map → Zg, set_cons_succ → Zk, drop_nil → Zn, flatMap_cons → Zr, take_length → Zs, flatMap_nil → Zv, isEmpty_cons → Zy, getElem?_of_mem → Z0, getElem?_range → Z3, range → Z5, mem_or_eq_of_mem_set → Z6, any_eq_false → Z7, any_cons → Xa, take_of_length_le → Xc, mem_range → Xe, replicate_succ → Xf, find?_eq_none → Xg, map_map → Xh, all_eq_false → Xi, foldl_append → Xk, flatten_cons → Xl, all_eq_true → Xm, ext_getElem → Xn, length_take → Xo, flatten_nil → Xp, mem_append → Xq
open Nat renaming zero_add → Qi, add_zero → Zm, le_refl → Zt, mul_one → Zu
open Bool renaming false_eq_true → Qc, or_false → Qo, and_self → Qp, and_true → Qt, not_false → Q5, false_and → Q6, not_eq_true' → Q7, not_true → Q9, not_eq_true → Zo, and_eq_true → Zp, not_eq_false' → Zq, decide_eq_true → Zw, true_and → Zx, and_eq_false_iff → Zz, decide_eq_false → Z1, or_eq_false_iff → Z2, true_eq_false → Z4, not_eq_false → Z8, false_or → Z9, not_not → Xj, or_eq_true → Xr, and_false → Xs
open Option renaming getD_none → Q1, getD_some → Q8, map_some → Zh, map_eq_some_iff → Xb
open Int renaming toNat_natCast → Qz, natCast_nonneg → Zb, natCast_zero → Zf, natCast_add → Zi, natCast_one → Zj, lt_irrefl → Zl, le_refl → Xd
set_option linter.unusedSimpArgs false
set_option linter.unusedVariables false
namespace Go.C06
open Go.Fam Go.Proofs
variable {Γ : Gam}
def Qh9 (c : Cane) (w : Span) (ts : List Int) : Nat → Int → Int → Nat → Nat → Int
 | 0, a, _, _, _ => if Qak a w.low w.high = true then 0 else -1
 | n + 1, a, num, f, l => if Qak a w.low w.high = true then 0 else if w.high < a then -1 else
  ((ints 1 (Qbz c num)).find? fun b => (grpF b ts l f).all fun p => decide (0 ≤ Qh9 c w ts n (a + b - Qb0 b (ts.getD p.1 0)) (num + 1) p.1 p.2)).getD (-1)
def Qfc (c : Cane) (w : Span) (ts : List Int) (t : Task) : Int := Qh9 c w ts t.left.toNat t.angle t.number t.first.toNat t.last.toNat
def Qnu (c : Cane) (w : Span) (ts : List Int) (t : Task) (b : Int) : Bool := (grpF b ts t.last.toNat t.first.toNat).all fun p => decide (0 ≤ Qfc c w ts (Qex t b ts p))
theorem Qrl {c : Cane} {w : Span} {ts : List Int} {t : Task} (h : Qak t.angle w.low w.high = true) : Qfc c w ts t = 0 := by
 unfold Qfc
 cases t.left.toNat <;> simp [Qh9, h]
theorem Qrm {c : Cane} {w : Span} {ts : List Int} {t : Task} (h : ¬ Qak t.angle w.low w.high = true) (h2 : t.left = 0 ∨ w.high < t.angle) : Qfc c w ts t = -1 := by
 unfold Qfc
 cases hn : t.left.toNat with
 | zero => simp [Qh9, h]
 | succ n =>
  rcases h2 with h2 | h2
  ·rw [h2] at hn; cases hn
  ·simp [Qh9, h, h2]
theorem Qrk {c : Cane} {w : Span} {ts : List Int} {t : Task} (h : ¬ Qak t.angle w.low w.high = true) (h0 : 0 < t.left) (h2 : ¬ w.high < t.angle) :
  Qfc c w ts t = ((ints 1 (Qbz c t.number)).find? (Qnu c w ts t)).getD (-1) := by
 unfold Qfc
 obtain ⟨n, hn⟩ : ∃ n, t.left.toNat = n + 1 := ⟨t.left.toNat - 1, by omega⟩
 have hn2 : (t.left - 1).toNat = n := by omega
 rw [hn]
 rw [Qh9, if_neg h, if_neg h2]
 unfold Qnu Qfc
 simp only [Qex, hn2, Qz]
theorem Qp2 {α : Type} {p : α → Bool} {l : List α} {i : Nat} {x : α} (hx : l[i]? = some x) (hp : p x = true) (h : ∀ j y, j < i → l[j]? = some y → p y = false) : l.find? p = some x := by
 rw [List.find?_eq_some_iff_getElem]
 obtain ⟨hl, he⟩ := List.getElem?_eq_some_iff.1 hx
 refine ⟨hp, i, hl, he, fun j hj => ?_⟩
 have := h j l[j] hj (Q4 (by omega))
 simp [this]
structure MInv (c : Cane) (w : Span) (ts : List Int) (m : AM Int) : Prop where
 nd : (aks m).Nodup
 five : ∀ k ∈ aks m, k.length = 5
 is : ∀ t v, aget m (Qej t) = some v → v = Qfc c w ts t
theorem Qph {t t' : Task} (h : Qej t = Qej t') : t = t' := by
 cases t; cases t'
 simpa [Qej] using h
theorem MInv.put {c : Cane} {w : Span} {ts : List Int} {m : AM Int} (h : MInv c w ts m) {t : Task} {v : Int} (hv : v = Qfc c w ts t) : MInv c w ts (aput m (Qej t) v) := by
 refine ⟨Qkp h.nd _ _, fun k hk => ?_, fun t' v' hb => ?_⟩
 ·rw [Qh0, Qn2] at hk
  rcases hk with hk | rfl
  ·exact h.five k hk
  ·rfl
 ·rw [Qjo] at hb
  split at hb
  ·rename_i e
   rw [Qph e]
   cases hb
   exact hv
  ·exact h.is t' v' hb
structure D88 where
 c : Cane
 w : Span
 ts : List Int
 m : AM Int
 t : Task
 tl : List Blk
def eA88 (x : D88) : List V := [.ad 2 0 0, .ag (Qbm x.t)]
def Qd1 (c : Cane) (w : Span) (ts : List Int) (m : AM Int) : List Blk := [.hole, .map true (aks m) (avs .i m), .cells 0 (Qca c w ts)]
def eH88 (x : D88) : List Blk := Qd1 x.c x.w x.ts x.m ++ x.tl
def Qr3 (vs : List V) (hp : List Blk) : D88 := match hp with
 | _ :: b :: .cells _ [a1, a2, a3, a4, a5, a6, a7, a8, a9, _] :: tl => ⟨Qcs [a1, a2, a3, a4, a5, a6], Qev [a7, a8], (gR a9).map dI, dAM b, match vs with | [_, .ag t] => Qm4 t | _ => Qm4 [], tl⟩
 | _ => ⟨Qcs [], Qev [], [], [], Qm4 [], []⟩
theorem Qt3 (x : D88) : Qr3 (eA88 x) (eH88 x) = x := by
 obtain ⟨c, w, ts, m, t, tl⟩ := x
 have e1 := Qdm c
 have e2 := Qf2 w
 unfold Qa8 at e1
 unfold Qap at e2
 simp [Qr3, eA88, eH88, Qd1, Qca, e1, e2, gR, Qx5, Function.comp_def, Qix, Qt2]
structure C88 (k : Nat) (x : D88) : Prop where
 c : OkC x.c
 all : ∀ k ∈ x.ts, 0 ≤ k ∧ k ≤ 500
 w : Qb1 x.w 540 = true
 ts : okTs x.ts
 t : OkTask x.ts x.t
 m : MInv x.c x.w x.ts x.m
 k : x.t.left < k
 num : x.t.left + x.t.number ≤ 50
def RB88 (x : D88) (r : V) (hp : List Blk) : Prop := r = .i (Qfc x.c x.w x.ts x.t) ∧ ∃ m', MInv x.c x.w x.ts m' ∧ hp = Qd1 x.c x.w x.ts m' ++ x.tl
def t101 (xs : List V) (hp : List Blk) : Prop × (V → List Blk → Prop) := match xs with
 | [.ad 2 0 0, .ag t, .i b] => (hp.length = 4 ∧ t = Qbm (Qm4 t), fun r hp' => r = .fn 106 [.pa t, .pa [.i b], .ad 4 0 0] ∧ hp' = hp ++ [.cells 0 [.ad 2 0 0]])
 | _ => (False, fun _ _ => False)
theorem W101 (t : Task) (b : Int) (hp : List Blk) (hl : hp.length = 4) (hg : ghO hp = none) : Qco Try.prog 101 [.ad 2 0 0, .ag (Qbm t), .i b] hp fun r hp' => r = .fn 106 [.pa (Qbm t), .pa [.i b], .ad 4 0 0] ∧ hp' = hp ++ [.cells 0 [.ad 2 0 0]] := by
 refine Ql9 Qri hmix Try.func101 cb101 cc101 cs101 (args := [.ad 2 0 0, .ag (Qbm t), .i b]) (hp := hp) (by exact cn101) (by omega) (by decide) ?_
 simp only [rc101, rs101, hl, Qaa, Qab, Qac, Qa7, endK, Qaf, Qa6, Qa2, Fam.step, Qag, Qbi, Qat, nv, evO, opv, qv, V.cells, Qas, Qb2, Qa9, Qa5, Qa3, Qa0, Qa4, ↓reduceIte, Nat.reduceEqDiff, Nat.reduceAdd, Qa, Qb, Qv, Qs, rvs, rv1, resV, vw_i, Qax, zipA, Qi, Qp, Qo, and_self, reduceCtorEq, Qbm]
def alP (c : Cane) (w : Span) (ts : List Int) (bv : List V) : Prop := ∃ m, MInv c w ts m ∧ bv = gB (bV (.map true (aks m) (avs .i m))) c w ts
def t106 (al : List V → Prop) (xs : List V) (hp : List Blk) : Prop × (V → List Blk → Prop) :=
 (∃ c w ts t bend l mp, (∀ bv, al bv → ∃ mp, bv = gB mp c w ts) ∧ OkTask ts t ∧ okTs ts ∧ tame 1000 bend ∧ al (gB mp c w ts) ∧ xs = [.yl l, .pa (Qbm t), .pa [.i bend], .ad 4 0 0] ∧
  hp = .gh [.yl l, .pa (Qbm t), .pa [.i bend], .ad 4 0 0] (some ((.b true :: gB mp c w ts) :: ysG t bend ts t.first.toNat)) :: (gB mp c w ts).map vB, RIt al xs)
noncomputable def H17 : Gam := (H16.extY 106 t106).extH 101 fun xs hp => ((t101 xs hp).1 ∧ ghO hp = none, (t101 xs hp).2)
theorem Qvy : GOk Try.prog H17 := by
 refine (Qri.extY (f := 106) (fun a w => Try.call106 a w) fun al xs hp h => ?_).extH (f := 101) (fun a w => Try.call101 a w) fun xs hp h => ?_
 ·obtain ⟨c, w, ts, t, bend, l, mp, h1, h2, h3, h4, h5, rfl, rfl⟩ := h
  exact W106 al c w ts t bend l mp h1 h2 h3 h4 h5
 ·obtain ⟨h1, hg⟩ := h
  refine ⟨fun r hp' _ y hy => (by rw [hg] at hy; cases hy), ?_⟩
  unfold t101 at h1 ⊢
  split at h1
  ·rename_i t b
   obtain ⟨h1, h2⟩ := h1
   have := W101 (Qm4 t) b hp h1 hg
   rw [← h2] at this
   exact this
  ·exact h1.elim
noncomputable def HP (k : Nat) : Gam := H17.extH 88 (hpG eA88 eH88 Qr3 (C88 k) RB88)
theorem kP (k : Nat) (x : D88) : (HP k).h 88 (eA88 x) (eH88 x) = (C88 k x, RB88 x) :=
 (show (HP k).h 88 _ _ = hpG eA88 eH88 Qr3 (C88 k) RB88 _ _ from rfl).trans (Qpc x (Qt3 x))
theorem Qxc (k : Nat) (t : Task) (b : Int) (hp : List Blk) : (HP k).h 101 [.ad 2 0 0, .ag (Qbm t), .i b] hp = ((hp.length = 4 ∧ Qbm t = Qbm (Qm4 (Qbm t))) ∧ ghO hp = none, fun r hp' => r = .fn 106 [.pa (Qbm t), .pa [.i b], .ad 4 0 0] ∧ hp' = hp ++ [.cells 0 [.ad 2 0 0]]) := rfl
theorem Qst (k : Nat) (n lo hi : Int)  : (HP k) 72 [.i n, .i lo, .i hi] = (True, .b (Qak n lo hi)) := h72 n lo hi
theorem Qof (k : Nat) (c : Cane) (i : Int)  : (HP k) 67 [.ag (Qa8 c), .i i] = (Qdq c i, .i (Qbz c i)) := h67 c i
theorem hPy (k : Nat) (al : List V → Prop) (xs : List V) (hp : List Blk) : (HP k).y 106 al xs hp = t106 al xs hp := rfl
theorem Qr5 : Qau Try.prog 115 5 := Qau.of (fs := _) (show Try.prog.underlying 115 = some (.struct (Try.prog.fieldsOf 115)) by kernel_rfl) (by kernel_rfl) (by kernel_rfl)
theorem Qtj {ts : List Int} {t : Task} {b : Int} {w : Span} (hw : Qb1 w 540 = true) (ht : OkTask ts t) (hts : ∀ k ∈ ts, 0 ≤ k ∧ k ≤ 500) (h0 : 0 < t.left) (hn : t.left + t.number ≤ 50) (ha : t.angle ≤ w.high) (hb : 1 ≤ b ∧ b ≤ 90) {p : Nat × Nat} (hp : p ∈ grpF b ts t.last.toNat t.first.toNat) :
    OkTask ts (Qex t b ts p) := by
  have hin : ∀ (n f : Nat) (p : Nat × Nat), p ∈ grpP b ts t.last.toNat n f → f ≤ p.1 ∧ p.1 ≤ p.2 ∧ p.2 ≤ t.last.toNat := by
    intro n
    induction n with
    | zero => intro f p hp; cases hp
    | succ n ih =>
      intro f p hp
      unfold grpP at hp
      split at hp
      · rename_i hf
        have he := Qm5 (bend := b) (ts := ts) hf
        rcases List.mem_cons.1 hp with rfl | hp
        · exact ⟨Zt _, he.1, he.2⟩
        · have := ih _ p hp
          omega
      · cases hp
  obtain ⟨h1, h2, h3⟩ := hin _ _ p hp
  have hwh : w.high ≤ 540 := by have : ((0 ≤ w.low ∧ w.low ≤ w.high) ∧ w.high ≤ 540) := by simpa [Qb1, Qak] using hw
                                exact this.2
  have k1 := ht.first
  have k2 := ht.last
  have k3 := ht.angle
  have k4 := ht.left
  have k5 := ht.number
  have hx : 0 ≤ ts.getD p.1 0 ∧ ts.getD p.1 0 ≤ 500 := hts _ (Qdn (by omega))
  have hbk := Qjp (b := b) (by omega) hx
  exact ⟨by simp only [Qex]; omega, by simp only [Qex]; omega, by simp only [Qex]; omega, by simp only [Qex]; omega, by simp only [Qex]; omega⟩
set_option maxHeartbeats 2000000 in
theorem W88 (k : Nat) (hG : GOk Try.prog (HP k)) (x : D88) (h : C88 (k + 1) x) (hts : ∀ k ∈ x.ts, 0 ≤ k ∧ k ≤ 500) (hl : x.tl = []) : Qco Try.prog 88 (eA88 x) (eH88 x) (RB88 x) := by
 refine Qnv hG hmix Try.func88 cb88 cc88 cs88 (args := eA88 x) (hp := eH88 x) (by exact cn88) (by simp [eH88, Qd1, hl]) (by decide) ?_
 obtain ⟨c, w, ts, m, t, tl⟩ := x
 simp only at hl
 subst hl
 obtain ⟨hc, _, hw, hts0, ht, hM, hk, hnum⟩ := h
 simp only at hc hw hts hts0 ht hM hk hnum
 have hw2 : (0 ≤ w.low ∧ w.low ≤ w.high) ∧ w.high ≤ 540 := by simpa [Qb1, Qak] using hw
 have hnm : ∀ m : AM Int, Qa5 (avs V.i m) = false := fun m => Qik (fun _ => rfl) m
 have g1 := Qst k t.angle w.low w.high
 have hwin : Qak t.angle w.low w.high = true ∨ ¬ Qak t.angle w.low w.high = true := Classical.em _
 rcases hwin with hwin | hwin
 ·simp only [rc88, rs88, eA88, eH88, Qd1, Qca, Qo5, Zr, Zv, g1, hwin, Qaa, Qbo, Qab, Qah, Qac, Qa7, Qjl, noGo, Qb9, cutH, endK, Qaf, Qa6, Qa2, Fam.step, Qag, Qbi, Qat, runX, eff, Qb8, fpR, fpQ, fpV, Qc5, hits, nv, evO, opv, qv, ldV, curG, Qay, V.cells, Qas, Qb2, Qa9, Qa5, flat, cutV, cutL, cutB, Qa3, Qa0, Qa4, ↓reduceIte, Nat.reduceEqDiff, Nat.reduceAdd, Nat.reduceLT, Nat.reduceLeDiff, Int.reduceNeg, Qa, Qb, Qv, Qs, Qf, Qg, Qj, Qr, Qh, Q2, Qq, Qn, Qm, Qk, Qe, Ql, Qu, Q1, Qw, Q3, rvs, rv1, resV, vw_i, Qax, zipA, beq_self_eq_true, Qi, Zm, Qp, Qt, Q6, Qo, Q9, Q5, Qc, true_and, and_self, implies_true, reduceCtorEq, Ze, Zd, Q0, Qd, Qbm]
  exact ⟨by rw [Qrl hwin], m, hM, by simp [Qd1, Qca, Qaw _ _ _ (hnm m)]⟩
 ·by_cases hno : t.left = 0 ∨ w.high < t.angle
  ·have hpn := Qrm (c := c) (ts := ts) hwin hno
   by_cases h0 : t.left = 0
   ·simp only [rc88, rs88, eA88, eH88, Qd1, Qca, Qo5, Zr, Zv, g1, hwin, h0, Qal, Qaa, Qbo, Qab, Qah, Qac, Qa7, Qjl, noGo, Qb9, cutH, endK, Qaf, Qa6, Qa2, Fam.step, Qag, Qbi, Qbd, Qat, Qb7, ug, runX, eff, Qb8, fpR, fpQ, fpV, Qc5, hits, nv, evO, opv, qv, Qam, binV, ldV, curG, Qay, V.cells, Qas, Qb2, Qa9, Qa5, flat, cutV, cutL, cutB, Qa3, Qa0, Qa4, ↓reduceIte, Nat.reduceEqDiff, Nat.reduceAdd, Nat.reduceLT, Nat.reduceLeDiff, Int.reduceNeg, Qa, Qb, Qv, Qs, Qf, Qg, Qj, Qr, Qh, Q2, Qq, Qn, Qm, Qk, Qe, Ql, Qu, Q1, Qw, Q3, rvs, rv1, resV, vw_i, Qax, zipA, beq_self_eq_true, Qi, Zm, Qp, Qt, Q6, Qo, Q9, Q5, Qc, Z4, decide_true, true_and, and_true, and_self, forall_const, implies_true, reduceCtorEq, Ze, Zd, Q0, beq_false, imp_self, Qd, Qbm]
    exact ⟨by rw [hpn], m, hM, by simp [Qd1, Qca, Qaw _ _ _ (hnm m)]⟩
   ·have h1 : w.high < t.angle := by omega
    simp only [rc88, rs88, eA88, eH88, Qd1, Qca, Qo5, Zr, Zv, g1, hwin, h0, h1, Qal, Qaa, Qbo, Qab, Qah, Qac, Qa7, Qjl, noGo, Qb9, cutH, endK, Qaf, Qa6, Qa2, Fam.step, Qag, Qbi, Qbd, Qat, Qb7, ug, runX, eff, Qb8, fpR, fpQ, fpV, Qc5, hits, nv, evO, opv, qv, Qam, binV, ldV, curG, Qay, V.cells, Qas, Qb2, Qa9, Qa5, flat, cutV, cutL, cutB, Qa3, Qa0, Qa4, ↓reduceIte, Nat.reduceEqDiff, Nat.reduceAdd, Nat.reduceLT, Nat.reduceLeDiff, Int.reduceNeg, Qa, Qb, Qv, Qs, Qf, Qg, Qj, Qr, Qh, Q2, Qq, Qn, Qm, Qk, Qe, Ql, Qu, Q1, Qw, Q3, rvs, rv1, resV, vw_i, Qax, zipA, beq_self_eq_true, Qi, Zm, Qp, Qt, Q6, Qo, Q9, Q5, Qc, decide_true, decide_false, true_and, and_self, forall_const, implies_true, reduceCtorEq, Ze, Zd, Q0, Qd, Qbm]
    exact ⟨by rw [hpn], m, hM, by simp [Qd1, Qca, Qaw _ _ _ (hnm m)]⟩
  ·have h0 : ¬ t.left = 0 := fun e => hno (.inl e)
   have h1 : ¬ w.high < t.angle := fun e => hno (.inr e)
   have hget := Qsy V.i m (Qej t)
   unfold Qej at hget
   have hks : ∀ k ∈ aks m, k.length = 5 := hM.five
   cases hg : aget m (Qej t) with
   | some v =>
    have his := Qpp.2 (show (aget m (Qej t)).isSome = true by rw [hg]; rfl)
    unfold Qej at hg his
    rw [hg, Zh] at hget
    simp only [rc88, rs88, eA88, eH88, Qd1, Qca, Qo5, Zr, Zv, g1, hwin, h0, h1, Qcr, Qr5, hks, hget, his, Qal, Qaa, Qbo, Qab, Qah, Qac, Qa7, Qjl, noGo, Qb9, cutH, lkpV, keyL, Qcr, endK, Qaf, Qa6, Qa2, Fam.step, Qag, Qbi, Qbd, Qat, Qb7, ug, runX, eff, Qb8, fpR, fpQ, fpV, Qc5, hits, nv, evO, opv, qv, Qam, binV, ldV, curG, Qay, V.cells, Qas, Qb2, Qck, Qa9, Qa5, flat, cutV, cutL, cutB, Qa3, Qa0, Qa4, ↓reduceIte, Nat.reduceEqDiff, Nat.reduceAdd, Nat.reduceLT, Nat.reduceLeDiff, Int.reduceNeg, Qa, Qb, Qv, Qs, Qf, Qg, Qj, Qr, Qh, Q2, Qx, Qq, Qn, Qm, Qk, Qe, Ql, Qu, Q8, Q1, Qw, Q3, rvs, rv1, resV, vw_i, Qax, zipA, beq_self_eq_true, Qi, Zm, Qp, Qt, Q6, Qo, Q9, Q5, Qc, decide_true, decide_false, true_and, and_self, forall_const, implies_true, reduceCtorEq, Zh, Ze, Zd, Q0, Qd, Qbm]
    exact ⟨hks, by rw [hM.is t v hg], m, hM, by simp [Qd1, Qca, Qaw _ _ _ (hnm m)]⟩
   | none =>
    have hno2 := Qoi.1 hg
    unfold Qej at hg hno2
    rw [hg, Option.map_none] at hget
    simp only [rc88, rs88, eA88, eH88, Qd1, Qca, Qo5, Zr, Zv, g1, hwin, h0, h1, Qcr, Qr5, hget, hno2, Qal, Qaa, Qbo, Qab, Qah, Qai, Qa7, Qjl, Qb9, cutH, lkpV, keyL, Qcr, Qaf, Qa6, Qa2, Fam.step, Qag, Qbi, Qbd, Qat, Qb7, ug, runX, eff, Qb8, fpR, fpQ, fpV, Qc5, hits, nv, evO, opv, qv, Qam, binV, ldV, curG, Qay, V.cells, Qas, Qb2, Qck, Qa9, Qa5, flat, Qa3, Qa0, Qa4, ↓reduceIte, Nat.reduceEqDiff, Nat.reduceAdd, Nat.reduceLT, Nat.reduceLeDiff, Int.reduceNeg, Qa, Qb, Qv, Qs, Qf, Qg, Qj, Qr, Qh, Qx, Qq, Qn, Qm, Qk, Qe, Ql, Qu, Q8, Q1, Qw, Q3, rv1, resV, vw_i, Qax, zipA, beq_self_eq_true, Qi, Zm, Qp, Qt, Q6, Qo, Q9, Q5, Qc, decide_false, true_and, and_self, forall_const, implies_true, reduceCtorEq, Zh, Ze, Zd, Q0, Qd, Qbm]
    have hgo := Qrk (c := c) (ts := ts) hwin (by have := ht.left; omega) h1
    refine ⟨hks, ?_⟩
    refine Qfd (Qbz c t.number).toNat (fun j y => ⟨lkp [(2, .ad 3 0 0), (3, .pa (Qbm t)), (7, .i (-1)), (8, .i (j + 1)), (62, .u)], [.hole, .map true (aks y) (avs .i y), .cells 0 (Qca c w ts), .cells 0 [.ad 2 0 0]]⟩)
     (fun j y => MInv c w ts y ∧ ∀ i b, i < j → (ints 1 (Qbz c t.number))[i]? = some b → Qnu c w ts t b = false) m ?_ ?_ ?_ ?_
    ·simp only [Zf, Qca, Qaw _ _ _ (hnm m), cutH, kp, cutV, cutL, cutB, Qa0, Qa4, ↓reduceIte, Nat.reduceEqDiff, Nat.reduceLT, Int.reduceNeg, Int.reduceAdd, Qa, Qb, Qh, Qx, Qbm]
    ·exact ⟨hM, fun i b hi => by omega⟩
    ·rintro j y hj ⟨hMy, hbad⟩
     have hj1 := Qgk (lo := 1) (hi := Qbz c t.number) (k := j) (by omega)
     have hle : ((j : Int) + 1) ≤ Qbz c t.number := by omega
     have hm90 := Qmd c t.number
     have g2 := Qof k c t.number
     unfold Qa8 at g2
     have hmo := hc.most (i := t.number) (by have := ht.number; unfold tame; omega)
     have g3 := Qxc k t (j + 1) [.hole, .map true (aks y) (avs .i y), .cells 0 (Qca c w ts), .cells 0 [.ad 2 0 0]]
     unfold Qca Qbm at g3
     simp only [Qca, hle, g2, hmo, g3, Qal, Qbo, Qab, Qah, Qai, Qa7, Qls, ghO, Qb9, cutH, Qaf, Qa6, Qa2, Fam.step, Qag, Qat, runX, eff, Qb8, fpR, fpQ, fpV, Qc5, hits, evO, opv, qv, binV, ldV, curG, Qay, Qa9, Qa5, flat, kp, Qa3, Qa0, Qa4, ↓reduceIte, Nat.reduceEqDiff, Nat.reduceAdd, Nat.reduceLT, Nat.reduceLeDiff, Int.reduceNeg, Qa, Qb, Qs, Qf, Qg, Qj, Qr, Qh, Q2, Qx, Qq, Qn, Qm, Qk, Qe, Ql, Qu, Q1, Qw, Q3, vw_i, Qb3, Qax, beq_self_eq_true, Qi, Zm, Qp, Qt, Q6, Qo, Q9, Q5, Qc, decide_true, true_and, and_true, and_self, implies_true, Ze, Zd, Q0, Qd, Qbm]
     refine ⟨rfl, ?_⟩
     rintro r hp' ⟨rfl, rfl⟩
     obtain ⟨gs, hgs⟩ : ∃ gs, gs = grpF (j + 1) ts t.last.toNat t.first.toNat := ⟨_, rfl⟩
     refine Qsk (gf := 106) (caps := [.pa (Qbm t), .pa [.i (j + 1)], .ad 4 0 0]) ?_ (alP c w ts) (gs.map fun p => ([.ag (Qbm (Qex t (j + 1) ts p))], [])) (bv0 := gB (bV (.map true (aks y) (avs .i y))) c w ts) ?_
      (fun k bv => ∃ m, MInv c w ts m ∧ bv = gB (bV (.map true (aks m) (avs .i m))) c w ts ∧ ∀ p ∈ gs.take k, 0 ≤ Qfc c w ts (Qex t (j + 1) ts p)) ?_ ?_ ?_ ?_ ?_ ?_
     ·simp only [evO, cutV, cutL, Qa0, ↓reduceIte, Nat.reduceEqDiff, Nat.reduceLT, Int.reduceNeg, Qbm]
     ·simp only [gB, Qed, Qaj, Qca, cutH, Qaw _ _ _ (hnm y), Qaj, Qed, cutH, cutV, cutL, cutB, ↓reduceIte, Nat.reduceLT, Qa, Qb, Qh, Qx]
     ·exact ⟨y, hMy, rfl, by simp⟩
     ·rintro i bv ⟨m, h1, h2, _⟩
      exact ⟨m, h1, h2⟩
     ·rintro bv ⟨m, h1, rfl⟩
      refine ⟨rfl, fun hp => ?_⟩
      simp only [gB, Qed, Qaj, Qca, Qaw _ _ _ (hnm m), Qaj, Qed, cutV, cutL, cutB, ↓reduceIte, Nat.reduceLT, Qa, Qb]
     ·intro l
      rw [hPy]
      refine ⟨⟨c, w, ts, t, j + 1, l, bV (.map true (aks y) (avs .i y)), fun bv h => ?_, ht, hts0, by unfold tame; omega, ⟨y, hMy, rfl⟩, rfl, ?_⟩, fun r hp' h => h⟩
      ·obtain ⟨m, _, h2⟩ := h
       exact ⟨_, h2⟩
      ·rw [Xh, hgs]; rfl
     ·rintro i x z bv hx ⟨m1, hM1, rfl, hpos⟩
      rw [Zg, Xb] at hx
      obtain ⟨p, hp, he⟩ := hx
      simp only [Prod.mk.injEq] at he
      obtain ⟨rfl, rfl⟩ := he
      refine ⟨rfl, Zt _, ?_⟩
      have hnx := Qtj (b := j + 1) hw ht hts (by have := ht.left; omega) hnum (by omega) (by omega) (p := p) (by rw [← hgs]; exact Zc hp)
      obtain ⟨nx, hnxe⟩ : ∃ nx, nx = Qex t (j + 1) ts p := ⟨_, rfl⟩
      rw [← hnxe] at hnx ⊢
      have g4 := kP k ⟨c, w, ts, m1, nx, [.cells 0 [.ad 2 0 0], .cells 0 [.ad 2 0 0], .cells 0 (Qbm nx)]⟩
      simp only [eA88, eH88, Qd1, Qca, Qbm, Qn, Qm] at g4
      simp only [gB, Qed, Qaj, Qca, g4, Qal, Qaa, Qab, Qah, Qc8, Qai, Qbb, Qa7, Qls, ↓Qbf, rnQ, updL, Qaj, Qed, putB, Qaf, Qaq, Qa6, Qa2, Fam.step, Qag, Qbi, Qat, putB, nv, sv, evO, opv, qv, binV, ldV, putAt, V.cells, Qas, Qb2, cutV, cutL, Qa3, Qar, Qa0, ↓reduceIte, Nat.reduceEqDiff, Nat.reduceAdd, Nat.reduceLT, Nat.reduceLeDiff, Int.reduceNeg, Qa, Qb, Qv, Qs, Qf, Qg, Qj, Qr, Zn, Qh, Q2, Qx, Qq, Qn, Qm, Qk, Qe, Ql, Za, Zk, Qi, Qp, Qc, true_and, and_self, Zo, Qbm]
      refine ⟨⟨hc, hts, hw, hts0, hnx, hM1, by show nx.left < k; rw [hnxe]; simp only [Qex]; omega, by show nx.left + nx.number ≤ 50; rw [hnxe]; simp only [Qex]; omega⟩, ?_⟩
      intro r hp' hRB
      obtain ⟨rfl, m2, hM2, rfl⟩ : r = .i (Qfc c w ts nx) ∧ ∃ m', MInv c w ts m' ∧ hp' = Qd1 c w ts m' ++ ([.cells 0 [.ad 2 0 0], .cells 0 [.ad 2 0 0], .cells 0 (Qbm nx)] : List Blk) := hRB
      have hbv2 : cutH (5 + 0) (Qd1 c w ts m2 ++ [.cells 0 [.ad 2 0 0], .cells 0 [.ad 2 0 0], .cells 0 (Qbm nx)]) = .hole :: (gB (bV (.map true (aks m2) (avs .i m2))) c w ts ++ []).map vB := by
       simp only [Qd1, gB, Qed, Qaj, Qca, cutH, Qaw _ _ _ (hnm m2), Qaj, Qed, cutH, cutV, cutL, cutB, ↓reduceIte, Nat.reduceLT, Qa, Qb, Qh, Q2, Qn, Qm, Qk, Zm, Qbm]
      simp only [Int.reduceNeg, decide_eq_true_eq, decide_eq_false_iff_not, true_and, Qbm]
      refine ⟨fun hneg => ?_, fun hnn => ?_⟩
      ·refine ⟨gB (bV (.map true (aks m2) (avs .i m2))) c w ts, hbv2, rfl, ⟨m2, hM2, rfl⟩, ?_⟩
       have i2 : inI ((j : Int) + 1 + 1) := by unfold inI; omega
       simp only [gB, Qed, Qaj, Qca, Qaw _ _ _ (hnm m2), Qaa, Qa7, Qci, ↓Qbf, Qaj, Qed, cutH, Qaf, Qaq, Qa6, Qa2, Fam.step, Qag, evO, opv, qv, binV, cutV, cutL, cutB, Qa3, Qa0, Qa4, ↓reduceIte, Nat.reduceEqDiff, Nat.reduceLT, Int.reduceNeg, Qa, Qb, Qr, Qh, Q2, Qx, Qee, true_and]
       refine ⟨i2, m2, ⟨hM2, fun i' b' hi' hb' => ?_⟩, ?_⟩
       ·by_cases e : i' < j
        ·exact hbad i' b' e hb'
        ·have e : i' = j := by omega
         subst e
         rw [hj1] at hb'
         have e2 : b' = (i' : Int) + 1 := by have := Option.some.inj hb'; omega
         subst e2
         unfold Qnu
         rw [← hgs, Xi]
         refine ⟨p, Zc hp, ?_⟩
         rw [← hnxe]
         simpa using hneg
       ·simp only [Zi, Zj, Int.reduceNeg]
      ·refine ⟨gB (bV (.map true (aks m2) (avs .i m2))) c w ts, hbv2, rfl, ⟨m2, hM2, rfl⟩, m2, hM2, rfl, fun p' hp' => ?_⟩
       rw [Qbt hp] at hp'
       rcases Xq.1 hp' with hp' | hp'
       ·exact hpos p' hp'
       ·have : p' = p := by simpa using hp'
        subst this
        rw [← hnxe]
        omega
     ·rintro bv ⟨m1, hM1, rfl, hpos⟩
      rw [Qy, Zs] at hpos
      have hks2 : ∀ k ∈ aks m1, k.length = 5 := hM1.five
      simp only [gB, Qed, Qaj, Qca, Qcr, Qr5, Qaa, Qbo, Qab, Qbb, Qac, Qa7, noGo, ↓Qbf, Qb9, optL, Qaj, Qed, keyL, Qcr, endK, Qaf, Qaq, Qa6, Qa2, Fam.step, Qag, Qat, runX, eff, Qb8, fpR, fpQ, fpV, Qc5, hits, nv, sv, evO, opv, qv, ldV, curG, Qck, cutV, cutL, cutB, Qa3, Qar, Qa0, Qa4, ↓reduceIte, Nat.reduceEqDiff, Nat.reduceAdd, Nat.reduceLT, Nat.reduceLeDiff, Int.reduceNeg, Qa, Qb, Qs, Qf, Qg, Qj, Qr, Qh, Q2, Qx, Qq, Qn, Qm, Qk, Qe, Ql, Qu, Q1, Za, Zk, Qw, Q3, Zy, rvs, rv1, beq_self_eq_true, Qi, Qp, Qt, Zx, Q6, Qo, Z9, Q9, Q5, Qc, true_and, and_self, forall_const, reduceCtorEq, Zh, Xa, Ze, Zd, Q0, Qd]
      have hgd : Qnu c w ts t (j + 1) = true := by
       unfold Qnu
       rw [← hgs, Xm]
       exact fun p hp => by simpa using hpos p hp
      have hpl : ((j : Int) + 1) = Qfc c w ts t := by
       rw [hgo, Qp2 hj1 (by rw [show (1 : Int) + j = j + 1 by omega]; exact hgd) hbad, Q8]
       omega
      refine ⟨hks2, ?_, aput m1 (Qej t) ((j : Int) + 1), hM1.put hpl, ?_⟩
      ·rw [hpl]
      ·have hpv := Qm2 hM1.nd V.i (Qej t) ((j : Int) + 1)
       have hpk := Qh0 m1 (Qej t) ((j : Int) + 1)
       unfold Qej at hpv hpk ⊢
       simp only [Qd1, Qca, hpv, hpk, Qaw _ _ _ (hnm _), Qk]
    ·rintro y ⟨hMy, hbad⟩
     have hgt : ¬ (((Qbz c t.number).toNat : Int) + 1 ≤ Qbz c t.number) := by omega
     have g2 := Qof k c t.number
     unfold Qa8 at g2
     have hmo := hc.most (i := t.number) (by have := ht.number; unfold tame; omega)
     have hks2 : ∀ k ∈ aks y, k.length = 5 := hMy.five
     simp only [Qca, hgt, g2, hmo, Qcr, Qr5, Qaa, Qbo, Qab, Qah, Qbb, Qac, Qa7, noGo, Qb9, optL, keyL, Qcr, endK, Qaf, Qaq, Qa6, Qa2, Fam.step, Qag, Qat, runX, eff, Qb8, fpR, fpQ, fpV, Qc5, hits, nv, sv, evO, opv, qv, binV, ldV, curG, Qay, Qck, Qa9, Qa5, flat, cutV, cutL, cutB, Qa3, Qar, Qa0, Qa4, ↓reduceIte, Nat.reduceEqDiff, Nat.reduceAdd, Nat.reduceLT, Nat.reduceLeDiff, Int.reduceNeg, Qa, Qb, Qs, Qf, Qg, Qj, Qr, Qh, Q2, Qx, Qq, Qn, Qm, Qk, Qe, Ql, Qu, Q1, Za, Zk, Qw, Q3, Zy, rvs, rv1, vw_i, Qb3, Qax, beq_self_eq_true, Qi, Zm, Qp, Qt, Zx, Q6, Qo, Z9, Q9, Q5, Qc, decide_false, true_and, and_self, forall_const, implies_true, Zh, Xa, Ze, Zd, Q0, Qd, Qbm]
     have hpl : (-1 : Int) = Qfc c w ts t := by
      rw [hgo, Xg.2, Q1]
      intro b hb
      obtain ⟨i, hi⟩ := Z0 hb
      have hl := Qao hi
      rw [Qfn] at hl
      have := hbad i b (by omega) hi
      simp [this]
     refine ⟨hks2, ?_, aput y (Qej t) (-1), hMy.put hpl, ?_⟩
     ·rw [hpl]
     ·have hpv := Qm2 hMy.nd V.i (Qej t) (-1)
      have hpk := Qh0 y (Qej t) (-1)
      unfold Qej at hpv hpk ⊢
      simp only [Qd1, Qca, hpv, hpk, Qaw _ _ _ (hnm _), Int.reduceNeg, Qk]
theorem Qpo (n : Nat) (hn : 1 < n) (c : Cane) (w : Span) (ts : List Int) : lowL n (Qca c w ts) = true := by
 simp [lowL, lowV, Qca, hn]
theorem Qtf (n : Nat) (m : AM Int) : lowL n (avs V.i m) = true := by
 unfold avs
 induction m with
 | nil => rfl
 | cons e m ih => simp [lowL, lowV, ih]
theorem W88t (k : Nat) (hG : GOk Try.prog (HP k)) (x : D88) (h : C88 (k + 1) x) : Qco Try.prog 88 (eA88 x) (eH88 x) (RB88 x) := by
 have h1 := W88 k hG ⟨x.c, x.w, x.ts, x.m, x.t, []⟩ ⟨h.c, h.all, h.w, h.ts, h.t, h.m, h.k, h.num⟩ h.all rfl
 have h2 := h1.frame (fun r hp' hr => by obtain ⟨_, m', _, rfl⟩ := hr; simp [eH88, Qd1]) (by simp [eH88, Qd1, eA88, lowL, lowV, Qbm]) (fun b hb => ?_) x.tl
 ·have e : eH88 ⟨x.c, x.w, x.ts, x.m, x.t, []⟩ ++ x.tl = eH88 x := by simp [eH88]
  rw [e] at h2
  intro S w O cargs a1 a2 a3
  refine (h2 S w O cargs a1 a2 a3).mono ?_
  rintro e w' ⟨c, S', O', r, hp', h3, ⟨hp2, ⟨h4, m', h5, h6⟩, h7⟩, h8⟩
  refine ⟨c, S', O', r, hp', h3, ⟨h4, m', h5, ?_⟩, h8⟩
  rw [h7, h6]; simp
 ·have hl : (eH88 ⟨x.c, x.w, x.ts, x.m, x.t, []⟩).length = 3 := by simp [eH88, Qd1]
  rw [hl]
  simp only [eH88, Qd1, Qk, List.mem_cons, List.not_mem_nil, or_false] at hb
  rcases hb with rfl | rfl | rfl
  ·rfl
  ·exact Qtf _ _
  ·exact Qpo _ (by decide) _ _ _
theorem gh88 (x : D88) : ghO (eH88 x) = none := rfl
theorem okHP : ∀ k, GOk Try.prog (HP k) := by
 intro k
 induction k with
 | zero =>
  refine Qvy.extH (f := 88) (fun a w => Try.call88 a w) (Qpd fun x hx => ?_)
  have := hx.k
  have := hx.t.left
  omega
 | succ k ih =>
  refine Qvy.extH (f := 88) (fun a w => Try.call88 a w) (Qpd fun x hx => ⟨fun r hp' hr y hy => ?_, W88t k ih x hx⟩)
  rw [gh88] at hy; cases hy
noncomputable def H18 : Gam := HP 20
theorem Qvz : GOk Try.prog H18 := okHP 20
theorem k88 (x : D88) : H18.h 88 (eA88 x) (eH88 x) = (C88 20 x, RB88 x) := kP 20 x
end Go.C06
set_option linter.unusedSimpArgs false
set_option linter.unusedVariables false
namespace Go.C06
open Go.Fam Go.Proofs
variable {Γ : Gam}
theorem Quh (c : Cane) (w : Span) (l : List Int)  : H18 59 [.ag (Qa8 c), .ag (Qap w), .sl 1 (l.map eI)] = (True, .tp [.sl 1 ((stL c w l).map eI), .i (stE c w l)]) := h59 c w l
def Qry (c : Cane) (n : Nat) : Task := ⟨0, n, 0, 0, (Qa1 c).length - 1⟩
def Qkb (c : Cane) (w : Span) (n : Nat) : Int := Qfc c w (Qa1 c) (Qry c n)
def Qj0 (c : Cane) (w : Span) : Option Nat := (Z5 7).find? fun n => decide (0 ≤ Qkb c w n)
def Qbv (c : Cane) (w : Span) : Int × Int × Int := if stE c w [] = 0 then match Qj0 c w with | some n => (n, Qkb c w n, 0) | none => (0, 0, 3) else (0, 0, stE c w [])
def mV (r : Int × Int × Int) : V := .tp [.i r.1, .i r.2.1, .i r.2.2]
set_option maxHeartbeats 1000000 in
theorem W61 (c : Cane) (w : Span) : Qad Try.prog 61 [.ag (Qa8 c), .ag (Qap w)] (mV (Qbv c w)) := by
 refine Qae Qvz hmix Try.func61 cb61 cc61 cs61 cn61 ?_
 have g1 := Quh c w []
 unfold Qa8 Qap at g1
 simp only [Qb] at g1
 simp only [rc61, rs61, g1, Qal, Qaa, Qab, Qah, Qc8, Qai, Qac, Qa7, Qqf, Qaf, Qa6, Qa2, Fam.step, Qag, Qbi, Qat, nv, evO, opv, qv, binV, ldV, Qay, Qan, putAt, Qaz, V.cells, Qas, Qb2, Qa9, Qa5, flat, Qcc, Qa3, Qa0, Qa4, ↓reduceIte, Nat.reduceEqDiff, Nat.reduceAdd, Nat.reduceLT, Nat.reduceLeDiff, Qa, Qb, Qv, Qs, Qf, Qg, Qj, Qr, Zn, Qh, Q2, Qx, Qn, Qm, Qk, Qe, Ql, Q8, endQ, rvs, rv1, resV, vw_i, vw_z, Qb3, Qax, Qd9, zipA, Qi, Qp, Qt, Qo, Qc, decide_eq_false_iff_not, true_and, and_self, reduceCtorEq, Q7, imp_self, Classical.not_not, Qap, Qa8]
 refine ⟨fun h => ?_, fun h => ?_⟩
 ·have h0 : ¬ stE c w [] = 0 := h
  simp only [mV, Qbv, h0, ↓reduceIte]
 ·obtain ⟨h1, h2, h3, h4, h5, h6, h7⟩ := Qoa h
  have hlen := Qd6 c h1
  have hpos : 0 < (Qa1 c).length := List.length_pos_iff.2 h6
  have hnm : ∀ m : AM Int, Qa5 (avs V.i m) = false := fun m => Qik (fun _ => rfl) m
  simp only [h7]
  refine Qfd 7 (fun n m => ⟨lkp [(7, .sl 1 ((Qa1 c).map eI)), (8, .ad 2 0 0), (26, .i n)], Qd1 c w (Qa1 c) m⟩) (fun n m => MInv c w (Qa1 c) m ∧ ∀ k, k < n → ¬ 0 ≤ Qkb c w k) [] ?_ ?_ ?_ ?_
  ·simp only [Zf, Qd1, Qca, aks, avs, kp, Qa0, Qa4, ↓reduceIte, Nat.reduceEqDiff, Qa, Qb]
  ·exact ⟨⟨by simp [aks], by simp [aks], fun t v hv => by simp [aget] at hv⟩, fun k hk => by omega⟩
  ·rintro n m hn ⟨hM, hbad⟩
   have hlt : (n : Int) < 7 := by omega
   have i1 : inI ((n : Int) + 1) ∧ inI (((Qa1 c).length : Int) - 1) := by unfold inI; omega
   have g2 := k88 ⟨c, w, Qa1 c, m, Qry c n, []⟩
   simp only [eA88, eH88, Qd1, Qca, Qbm, Qry, Qn, Qm] at g2
   simp only [Qd1, Qca, hlt, i1, g2, Qal, Qaa, Qab, Qah, Qc8, Qai, Qac, Qa7, Qls, Qaf, Qaq, Qa6, Qa2, Fam.step, Qag, Qat, evO, opv, qv, binV, ldV, lenV, Qan, putAt, Qaz, V.cells, Qas, kp, Qa3, Qa0, Qa4, ↓reduceIte, Nat.reduceEqDiff, Nat.reduceAdd, Nat.reduceLeDiff, Qa, Qb, Qf, Qg, Qj, Qr, Zn, Qh, Q2, Qn, Qm, Qk, endQ, rvs, rv1, resV, vw_i, Qd9, Qi, decide_true, true_and, and_self, Qy, Zo]
   refine ⟨⟨h1, fun k hk => Qcx h1 hk, h3, ⟨by show (Qa1 c).length ≤ 1000; omega, fun k hk => by have := Qcx h1 hk; unfold tame; omega⟩, ⟨⟨Xd _, show (0 : Int) ≤ 1000 by decide⟩, by show 0 ≤ (n : Int) ∧ (n : Int) ≤ 100; omega, ⟨Xd _, show (0 : Int) ≤ 100 by decide⟩, by show 0 ≤ (0 : Int) ∧ (0 : Int) ≤ (Qa1 c).length - 1; omega, by show ((Qa1 c).length : Int) - 1 < (Qa1 c).length; omega⟩, hM, by show ((n : Int) : Int) < ((20 : Nat) : Int); omega, by show (n : Int) + 0 ≤ 50; omega⟩, ?_⟩
   intro r hp' hRB
   obtain ⟨rfl, m2, hM2, rfl⟩ : r = .i (Qkb c w n) ∧ ∃ m', MInv c w (Qa1 c) m' ∧ hp' = Qd1 c w (Qa1 c) m' ++ ([] : List Blk) := hRB
   simp only [Qk, vw_i, decide_eq_true_eq, decide_eq_false_iff_not, true_and]
   refine ⟨fun hge => ?_, fun hlt2 => ?_⟩
   ·have e : Qj0 c w = some n := by
     unfold Qj0
     refine Qp2 (i := n) (Z3 hn) (by simpa using hge) fun j y hj hy => ?_
     rw [Z3 (by omega)] at hy
     have := hbad j hj
     rw [← Option.some.inj hy]
     simpa using this
    simp only [mV, Qbv, h, e, ↓reduceIte]
   ·refine ⟨m2, ⟨hM2, fun k hk => ?_⟩, ?_⟩
    ·by_cases e : k < n
     ·exact hbad k e
     ·have e : k = n := by omega
      subst e
      omega
    ·simp only [Qd1, Qca, Zi, Zj]
  ·rintro m ⟨hM, hbad⟩
   have h77 : ¬ (((7 : Nat) : Int) < 7) := by decide
   have e : Qj0 c w = none := by
    unfold Qj0
    rw [Xg]
    intro k hk
    have := hbad k (by simpa using hk)
    simpa using this
   simp only [h77, mV, Qbv, h, e, Qaa, Qab, Qah, Qbb, Qac, Qa7, Qaf, Qaq, Qa6, Qa2, Fam.step, Qag, evO, opv, qv, binV, ldV, Qa3, Qa0, Qa4, ↓reduceIte, Nat.reduceEqDiff, Qa, Qb, endQ, rvs, rv1, resV, vw_i, Qd9, Qc, decide_false, and_self]
noncomputable def H19 : Gam := (H18.ext 61 (fnG eCS dCS (fun _ => True) (fun a => Qbv a.1 a.2) mV)).ext 25 (fnG eCS dCS (fun _ => True) (fun a => fewR a.1 a.2) fun r => .tp [.i r.1, .i r.2])
theorem Qtm : GOk Try.prog H19 := (Qvz.ext (f := 61) (fun a w => Try.call61 a w) (Qb6 (e := eCS) (d := dCS) (ok := fun _ => True) (g := fun a => Qbv a.1 a.2) (eb := mV) fun a _ => W61 a.1 a.2)).ext (f := 25) (fun a w => Try.call25 a w)
 (Qb6 (e := eCS) (d := dCS) (ok := fun _ => True) (g := fun a => fewR a.1 a.2) (eb := fun r => .tp [.i r.1, .i r.2]) fun a _ => W25 a.1 a.2)
theorem h61 (c : Cane) (w : Span) : H19 61 [.ag (Qa8 c), .ag (Qap w)] = (True, mV (Qbv c w)) :=
 (show H19 61 _ = fnG eCS dCS (fun _ => True) (fun a => Qbv a.1 a.2) mV (eCS (c, w)) from rfl).trans (Qba _ (Qov _))
theorem h25 (c : Cane) (w : Span) : H19 25 [.ag (Qa8 c), .ag (Qap w)] = (True, .tp [.i (fewR c w).1, .i (fewR c w).2]) :=
 (show H19 25 _ = fnG eCS dCS (fun _ => True) (fun a => fewR a.1 a.2) (fun r => .tp [.i r.1, .i r.2]) (eCS (c, w)) from rfl).trans (Qba _ (Qov _))
theorem W26 (c : Cane) (w : Span) : Qad Try.prog 26 [.ag (Qa8 c), .ag (Qap w)] (.tp [.i (Qbv c w).1, .i (Qbv c w).2.2]) := by
 refine Qae Qtm hmix Try.func26 cb26 cc26 cs26 cn26 ?_
 have g1 := h61 c w
 unfold Qa8 Qap mV at g1
 simp only [rc26, rs26, g1, Qaa, Qab, Qac, Qa7, Qaf, Qa6, Qa2, Fam.step, Qag, evO, opv, qv, ldV, Qay, V.cells, Qas, Qa9, Qa5, flat, Qcc, Qa3, Qa0, Qa4, ↓reduceIte, Nat.reduceEqDiff, Nat.reduceAdd, Nat.reduceLT, Nat.reduceLeDiff, Qa, Qb, Qf, Qg, Qh, Qx, Qk, Qe, Ql, Qu, Q8, endQ, rvs, rv1, resV, vw_i, Qb3, Qax, Qd9, zipA, Qi, Qp, Qo, Qc, and_self, implies_true, reduceCtorEq, Qap, Qa8]
end Go.C06
set_option maxRecDepth 8000
namespace Go.C06
open Go.Fam Go.Proofs
def rc92 : RC := (.seq (.reg false [(cX 1 0), (cQ 2 [] (.mv (kB false)))]) (.keep [1] (.seq (.reg true [(cFa 3 1 0), (cLd 4 3 false 1), (cQ 5 [4] (.call (kF 72) [(.t 4), (kI 0), (kI 999)])), (cN 6 5), (cMv 7 6), (gQ 8 7 false [1] (.fad 1 (.t 1))), (gQ 9 7 false [8] (.ld false 1 (.t 8))), (gQ 10 7 false [9] (.call (kF 72) [(.t 9), (kI 0), (kI 999)])), (gQ 11 7 false [10] (.not (.t 10))), (cQ 12 [7,11] (.pick (.t 7) (kB true) (.t 11))), (cMv 2 12)]) .ret)))
def pu92 : List Nat := [1]
def rs92 : List RV := [.t 2]
theorem cc92 : CCx Try.prog Try.f92 pu92 rc92 := by unfold CCx; kernel_rfl
theorem cb92 : CBx Try.f92 := by unfold CBx; kernel_rfl
theorem cs92 : CSx Try.prog Try.f92 rs92 := by unfold CSx; kernel_rfl
theorem cn92 : 1 ≤ Try.f92.ntmps := by decide
def rc103 : RC := (.seq (.reg false [(cI 4 0)]) (.keep [0,1] (.seq (.seq (.reg false [(cMv 6 0), (cLn 7 6), (cI 8 0)]) (.keep [0,1,7,8] (.block 0 (.loop [0,1,7,8] none (.seq (.reg false [(cB 9 .lss 8 7)]) (.keep [0,1,7,8,9] (.seq (.cond (.t 9) .skip (.exit 0)) (.keep [0,1,7,8] (.seq (.block 1 (.seq (.reg false [(cMv 10 8), (cMv 5 10)]) (.keep [0,1,5,7,8] (.seq (.reg false [(cMv 11 1), (cMv 12 0), (cMv 13 5), (cA 14 2 12 13), (cLd 15 14 true 2), (cQ 16 [11,15] (.call (.t 11) [(.t 15)]))]) (.keep [0,1,5,7,8,16] (.cond (.t 16) (.seq (.reg false [(cMv 17 5), (cMv 4 17)]) .ret) .skip)))))) (.keep [0,1,7,8] (.reg false [(cC 18 .add 8 1), (cMv 8 18)]))))))))))) (.keep [] (.seq (.reg false [(cQ 4 [] (.mv (.k (.i (-1)))))]) .ret)))))
def pu103 : List Nat := []
def rs103 : List RV := [.t 4]
theorem cc103 : CCx Try.prog Try.f103 pu103 rc103 := by unfold CCx; kernel_rfl
theorem cb103 : CBx Try.f103 := by unfold CBx; kernel_rfl
theorem cs103 : CSx Try.prog Try.f103 rs103 := by unfold CSx; kernel_rfl
theorem cn103 : 2 ≤ Try.f103.ntmps := by decide
def rc93 : RC := (.seq (.reg false [(cQ 4 [] (.mv (kB false)))]) (.keep [0,1] (.seq (.reg false [(cMv 5 0), (cMv 6 1), (cQ 7 [5,6] (.call (kF 103) [(.t 5), (.t 6)])), (cC 8 .geq 7 0), (cMv 4 8)]) .ret)))
def pu93 : List Nat := []
def rs93 : List RV := [.t 4]
theorem cc93 : CCx Try.prog Try.f93 pu93 rc93 := by unfold CCx; kernel_rfl
theorem cb93 : CBx Try.f93 := by unfold CBx; kernel_rfl
theorem cs93 : CSx Try.prog Try.f93 rs93 := by unfold CSx; kernel_rfl
theorem cn93 : 2 ≤ Try.f93.ntmps := by decide
def rc74 : RC := (.seq (.reg false [(cX 1 0), (cI 2 0)]) (.keep [1] (.seq (.reg false [(cQ 3 [] (.mv (kF 92)))]) (.keep [1,3] (.seq (.seq (.reg true [(cFa 4 1 0), (cLd 5 4 false 1), (cQ 6 [5] (.call (kF 72) [(.t 5), (kI 1), (kI 7)])), (cN 7 6), (cMv 8 7), (gQ 9 8 false [1] (.fad 1 (.t 1))), (gQ 10 8 false [9] (.ld false 1 (.t 9))), (gQ 11 8 false [10] (.len (.t 10))), (gQ 12 8 false [11] (.bin .gtr (.t 11) (kI 7))), (cQ 13 [8,12] (.pick (.t 8) (kB true) (.t 12))), (cMv 14 13), (gQ 15 14 false [1] (.fad 1 (.t 1))), (gQ 16 14 false [15] (.ld false 1 (.t 15))), (gMv 17 14 false 3), (gQ 18 14 false [16,17] (.call (kF 93) [(.t 16), (.t 17)])), (cQ 19 [14,18] (.pick (.t 14) (kB true) (.t 18)))]) (.keep [19] (.cond (.t 19) (.seq (.reg false [(cI 2 62)]) .ret) .skip))) (.keep [] (.seq (.reg false [(cI 2 0)]) .ret)))))))
def pu74 : List Nat := [1]
def rs74 : List RV := [.t 2]
theorem cc74 : CCx Try.prog Try.f74 pu74 rc74 := by unfold CCx; kernel_rfl
theorem cb74 : CBx Try.f74 := by unfold CBx; kernel_rfl
theorem cs74 : CSx Try.prog Try.f74 rs74 := by unfold CSx; kernel_rfl
theorem cn74 : 1 ≤ Try.f74.ntmps := by decide
def rc78 : RC := (.seq (.reg false [(cQ 2 [] (.mv (.k (.z 1))))]) (.keep [0] (.seq (.reg false [(cMv 5 0), ⟨(some 6), none, [5,5], none, .w (.mks 1 [(.i 0)] (.t 5) (.t 5))⟩, (cMv 3 6)]) (.keep [3] (.seq (.seq (.reg false [(cMv 7 3), (cLn 8 7), (cI 9 0)]) (.keep [3,8,9] (.block 0 (.loop [3,8,9] none (.seq (.reg false [(cB 10 .lss 9 8)]) (.keep [3,8,9,10] (.seq (.cond (.t 10) .skip (.exit 0)) (.keep [3,8,9] (.seq (.block 1 (.seq (.reg false [(cMv 11 9), (cMv 4 11)]) (.keep [3,4,8,9] (.reg false [(cMv 12 3), (cMv 13 4), (cMv 14 4), (cA 15 1 12 13), ⟨none, none, [15,14], none, .w (.st 1 (.t 15) (.t 14))⟩])))) (.keep [3,8,9] (.reg false [(cC 16 .add 9 1), (cMv 9 16)]))))))))))) (.keep [3] (.seq (.reg false [(cMv 17 3), (cMv 2 17)]) .ret)))))))
def pu78 : List Nat := []
def rs78 : List RV := [.t 2]
theorem cc78 : CCx Try.prog Try.f78 pu78 rc78 := by unfold CCx; kernel_rfl
theorem cb78 : CBx Try.f78 := by unfold CBx; kernel_rfl
theorem cs78 : CSx Try.prog Try.f78 rs78 := by unfold CSx; kernel_rfl
theorem cn78 : 1 ≤ Try.f78.ntmps := by decide
def rc79 : RC := (.seq (.reg false [(cX 2 0), (cI 4 0)]) (.keep [1,2,4] (.seq (.reg false [(cQ 5 [] (.mv (.k (.z 1))))]) (.keep [1,2,4,5] (.seq (.seq (.reg false [(cMv 9 1), (cLn 10 9), (cI 11 0)]) (.keep [2,4,5,9,10,11] (.block 0 (.own 5 1 (.loop [2,4,5,9,10,11] none (.seq (.reg false [(cB 12 .lss 11 10)]) (.keep [2,4,5,9,10,11,12] (.seq (.cond (.t 12) .skip (.exit 0)) (.keep [2,4,5,9,10,11] (.seq (.block 1 (.seq (.reg false [(cMv 13 11), (cA 14 1 9 11), (cLd 15 14 false 1), (cMv 6 13), (cMv 7 15)]) (.keep [2,4,5,6,7,9,10,11] (.seq (.reg false [(cI 8 0)]) (.keep [2,4,5,6,7,8,9,10,11] (.seq (.seq (.reg false [(cMv 16 6), (cFa 17 2 0), (cLd 18 17 false 1), (cB 19 .geq 16 18)]) (.keep [2,4,5,6,7,8,9,10,11,19] (.cond (.t 19) (.reg false [(cMv 20 5), (cMv 21 6), (cFa 22 2 0), (cLd 23 22 false 1), (cB 24 .sub 21 23), (cA 25 1 20 24), (cLd 26 25 false 1), (cMv 8 26)]) .skip))) (.keep [2,4,5,6,7,8,9,10,11] (.seq (.reg false [(cMv 27 5), (cMv 28 8), (cFa 29 2 1), (cLd 30 29 false 1), (cMv 31 7), (cA 32 2 30 31), (cFa 33 32 0), (cLd 34 33 false 1), (cB 35 .add 28 34), (cMv 36 4), (cQ 37 [35,36] (.mx (.t 35) (.t 36))), (cQ 38 [37] (.bsl 1 1 [(.i 0)] [(0,1, (.t 37))])), ⟨(some 39), none, [27,38], none, .w (.app 1 (.t 27) (.t 38))⟩, (cMv 5 39)]) (.keep [2,5,6,7,9,10,11] (.any false 0 [⟨(cMv 40 5), [], []⟩, ⟨(cMv 41 6), [], []⟩, ⟨(cA 42 1 40 41), [], [0,1]⟩, ⟨(cLd 43 42 false 1), [], [2,0,1]⟩, ⟨(cFa 44 2 1), [], []⟩, ⟨(cLd 45 44 false 1), [], [4]⟩, ⟨(cMv 46 7), [], []⟩, ⟨(cA 47 2 45 46), [], [5,4,6]⟩, ⟨(cFa 48 47 1), [], [7,5,4,6]⟩, ⟨(cLd 49 48 false 1), [], [8,7,5,4,6]⟩, ⟨(cB 50 .add 43 49), [], [3,2,0,1,9,8,7,5,4,6]⟩, ⟨(cMv 4 50), [], [10,3,2,0,1,9,8,7,5,4,6]⟩])))))))))) (.keep [2,4,5,9,10,11] (.reg false [(cC 51 .add 11 1), (cMv 11 51)])))))))))))) (.keep [4] (.seq (.reg false [(cMv 52 4), (cMv 4 52)]) .ret)))))))
def pu79 : List Nat := [2,38]
def rs79 : List RV := [.t 4]
theorem cc79 : CCx Try.prog Try.f79 pu79 rc79 := by unfold CCx; kernel_rfl
theorem cb79 : CBx Try.f79 := by unfold CBx; kernel_rfl
theorem cs79 : CSx Try.prog Try.f79 rs79 := by unfold CSx; kernel_rfl
theorem cn79 : 2 ≤ Try.f79.ntmps := by decide
def rc97 : RC := (.seq (.reg false [(cQ 6 [] (.mv (kB false)))]) (.keep [0,1,2] (.seq (.seq (.reg false [(cMv 9 1), (cMv 10 0), (cLn 11 10), (cB 12 .eql 9 11)]) (.keep [0,1,2,12] (.cond (.t 12) (.seq (.yrh false [(cMv 13 2), (cMv 14 0)] ⟨(some 15), none, [13,14], none, .o (.t 13) [(.t 14)]⟩ [(cMv 6 15)]) .ret) .skip))) (.keep [0,1,2] (.seq (.seq (.reg false [(cMv 16 1), (cMv 7 16)]) (.keep [0,1,2,7] (.block 0 (.loop [0,1,2,7] none (.seq (.seq (.reg false [(cMv 17 7), (cMv 18 0), (cLn 19 18), (cB 20 .lss 17 19)]) (.keep [0,1,2,7,20] (.cond (.t 20) .skip (.exit 0)))) (.keep [0,1,2,7] (.seq (.block 1 (.seq (.any false 0 [⟨(cMv 23 0), [], []⟩, ⟨(cMv 24 1), [], []⟩, ⟨(cMv 25 0), [], []⟩, ⟨(cMv 26 7), [], []⟩, ⟨(cMv 27 0), [], []⟩, ⟨(cMv 28 7), [], []⟩, ⟨(cA 29 1 27 28), [], [4,5]⟩, ⟨(cLd 30 29 false 1), [], [6,4,5]⟩, ⟨(cMv 31 0), [], []⟩, ⟨(cMv 32 1), [], []⟩, ⟨(cA 33 1 31 32), [], [8,9]⟩, ⟨(cLd 34 33 false 1), [], [10,8,9]⟩, ⟨(cA 35 1 23 24), [], [0,1,4,5,6,7,11,10,8,9]⟩, ⟨⟨none, none, [35,30], none, .w (.st 1 (.t 35) (.t 30))⟩, [2,3], [12,0,1,4,5,6,7,11,10,8,9]⟩, ⟨(cA 36 1 25 26), [], [2,3,0,1,4,5,6,7,8,9,10,11,12,13]⟩, ⟨⟨none, none, [36,34], none, .w (.st 1 (.t 36) (.t 34))⟩, [], [14,2,3,0,1,4,5,6,7,8,9,10,11,12,13]⟩]) (.keep [0,1,2,7] (.seq (.ycl 3 false [(cMv 37 0), (cMv 38 1), (cC 39 .add 38 1), (cMv 40 2)] ⟨(some 41), none, [37,39,40], none, .o (kF 97) [(.t 37), (.t 39), (.t 40)]⟩ [(cMv 8 41)]) (.keep [0,1,2,7,8] (.seq (.any false 0 [⟨(cMv 42 0), [], []⟩, ⟨(cMv 43 1), [], []⟩, ⟨(cMv 44 0), [], []⟩, ⟨(cMv 45 7), [], []⟩, ⟨(cMv 46 0), [], []⟩, ⟨(cMv 47 7), [], []⟩, ⟨(cA 48 1 46 47), [], [4,5]⟩, ⟨(cLd 49 48 false 1), [], [6,4,5]⟩, ⟨(cMv 50 0), [], []⟩, ⟨(cMv 51 1), [], []⟩, ⟨(cA 52 1 50 51), [], [8,9]⟩, ⟨(cLd 53 52 false 1), [], [10,8,9]⟩, ⟨(cA 54 1 42 43), [], [0,1,4,5,6,7,11,10,8,9]⟩, ⟨⟨none, none, [54,49], none, .w (.st 1 (.t 54) (.t 49))⟩, [2,3], [12,0,1,4,5,6,7,11,10,8,9]⟩, ⟨(cA 55 1 44 45), [], [2,3,0,1,4,5,6,7,8,9,10,11,12,13]⟩, ⟨⟨none, none, [55,53], none, .w (.st 1 (.t 55) (.t 53))⟩, [], [14,2,3,0,1,4,5,6,7,8,9,10,11,12,13]⟩]) (.keep [0,1,2,7,8] (.seq (.reg false [(cMv 56 8), (cN 57 56)]) (.keep [0,1,2,7,57] (.cond (.t 57) (.seq (.reg false [(cQ 6 [] (.mv (kB false)))]) .ret) .skip)))))))))) (.keep [0,1,2,7] (.reg false [(cMv 21 7), (cC 22 .add 21 1), (cMv 7 22)]))))))))) (.keep [] (.seq (.reg false [(cQ 6 [] (.mv (kB true)))]) .ret)))))))
def pu97 : List Nat := []
def rs97 : List RV := [.t 6]
theorem cc97 : comp Try.prog pu97 (Try.f97.ntmps, 0) 3 3 rc97 (Try.f97.body.getD .skip) = some rc97 := by kernel_rfl
theorem cb97 : CBx Try.f97 := by unfold CBx; kernel_rfl
theorem cs97 : CSx Try.prog Try.f97 rs97 := by unfold CSx; kernel_rfl
theorem cn97 : 3 ≤ Try.f97.ntmps := by decide
def rc96 : RC := (.ycl 2 false [(cFa 3 1 1), (cLd 4 3 false 1), (cLn 5 4), ⟨(some 6), none, [5], none, .o (kF 78) [(.t 5)]⟩, (cMv 7 0)] ⟨(some 8), none, [6,7], none, .o (kF 97) [(.t 6), (kI 0), (.t 7)]⟩ [])
def pu96 : List Nat := [1000006]
def rs96 : List RV := []
theorem cc96 : comp Try.prog pu96 (Try.f96.ntmps, 0) 2 3 rc96 (Try.f96.body.getD .skip) = some rc96 := by kernel_rfl
theorem cb96 : CBx Try.f96 := by unfold CBx; kernel_rfl
theorem cs96 : CSx Try.prog Try.f96 rs96 := by unfold CSx; kernel_rfl
theorem cn96 : 2 ≤ Try.f96.ntmps := by decide
def rc81 : RC := (.seq (.reg false [(cX 1 0), (cQ 2 [] (.mv (.k .u)))]) (.keep [1] (.seq (.reg false [(cQ 3 [1] (.mkf 96 [(.t 1)])), (cMv 2 3)]) .ret)))
def pu81 : List Nat := [1]
def rs81 : List RV := [.t 2]
theorem cc81 : CCx Try.prog Try.f81 pu81 rc81 := by unfold CCx; kernel_rfl
theorem cb81 : CBx Try.f81 := by unfold CBx; kernel_rfl
theorem cs81 : CSx Try.prog Try.f81 rs81 := by unfold CSx; kernel_rfl
theorem cn81 : 1 ≤ Try.f81.ntmps := by decide
def rc55 : RC := (.dum (.seq (.reg false [(cX 1 0), (cQ 2 [] (.mv (.k (.z 1)))), (cI 3 0)]) (.keep [1,18] (.seq (.seq (.reg false [(cLd 7 1 true 2), (cQ 8 [7] (.call (kF 74) [(.t 7)])), (cMv 4 8)]) (.keep [1,4,18] (.seq (.reg false [(cMv 9 4), (cC 10 .neq 9 0)]) (.keep [1,4,10,18] (.cond (.t 10) (.seq (.reg false [(cMv 11 4), (cQ 2 [] (.mv (.k (.z 1)))), (cMv 3 11)]) .ret) .skip))))) (.keep [1,18] (.seq (.reg false [(cFa 12 1 1), (cLd 13 12 false 1), (cLn 14 13), (cQ 15 [14] (.call (kF 78) [(.t 14)])), ⟨(some 5), none, [], none, .w (.alc [(.z 1)])⟩, ⟨none, none, [5,15], none, .w (.st 1 (.t 5) (.t 15))⟩]) (.keep [1,5,18] (.seq (.seq (.reg false [(cLd 16 1 true 2), (cQ 17 [16] (.call (kF 81) [(.t 16)]))]) (.keep [1,5,17,18] (.block 0 (.rfh (.t 17) [18] 2 1 (.reg false [(cMv 6 18)]) (.block 1 (.seq (.any false 0 [⟨(cLd 19 1 true 2), [], []⟩, ⟨(cMv 20 6), [], []⟩, ⟨(cQ 21 [19,20] (.call (kF 79) [(.t 19), (.t 20)])), [], [0,1]⟩, ⟨(cLd 22 1 true 2), [], []⟩, ⟨(cLd 23 5 false 1), [], []⟩, ⟨(cQ 24 [22,23] (.call (kF 79) [(.t 22), (.t 23)])), [], [3,4,2,0,1]⟩, ⟨(cB 25 .lss 21 24), [], [2,0,1,5,3,4]⟩]) (.keep [5,6,25] (.cond (.t 25) (.reg false [(cMv 26 6), ⟨(some 27), none, [26], none, .o (kF 69) [(.t 26)]⟩, ⟨none, none, [5,27], none, .w (.st 1 (.t 5) (.t 27))⟩]) .skip)))))))) (.keep [5] (.seq (.reg false [(cLd 28 5 false 1), (cMv 2 28), (cI 3 0)]) .ret))))))))))
def pu55 : List Nat := [1000027,1]
def rs55 : List RV := [.t 2, .t 3]
theorem cc55 : CCx Try.prog Try.f55 pu55 rc55 := by unfold CCx; kernel_rfl
theorem cb55 : CBx Try.f55 := by unfold CBx; kernel_rfl
theorem cs55 : CSx Try.prog Try.f55 rs55 := by unfold CSx; kernel_rfl
theorem cn55 : 1 ≤ Try.f55.ntmps := by decide
def rc51 : RC := (.seq (.reg false [(cX 1 0), (cI 2 0), (cI 3 0)]) (.keep [1] (.seq (.reg false [(cLd 7 1 true 2), (cQ 8 [7] (.call (kF 55) [(.t 7)])), (cMv 6 8), (cEx 9 6 0), (cEx 10 6 1), (cMv 4 9), (cMv 5 10)]) (.keep [1,4,5] (.seq (.seq (.reg false [(cMv 11 5), (cC 12 .neq 11 0)]) (.keep [1,4,5,12] (.cond (.t 12) (.seq (.reg false [(cMv 13 5), (cI 2 0), (cMv 3 13)]) .ret) .skip))) (.keep [1,4] (.seq (.reg false [(cLd 14 1 true 2), (cMv 15 4), (cQ 16 [14,15] (.call (kF 79) [(.t 14), (.t 15)])), (cMv 2 16), (cI 3 0)]) .ret)))))))
def pu51 : List Nat := [1]
def rs51 : List RV := [.t 2, .t 3]
theorem cc51 : CCx Try.prog Try.f51 pu51 rc51 := by unfold CCx; kernel_rfl
theorem cb51 : CBx Try.f51 := by unfold CBx; kernel_rfl
theorem cs51 : CSx Try.prog Try.f51 rs51 := by unfold CSx; kernel_rfl
theorem cn51 : 1 ≤ Try.f51.ntmps := by decide
end Go.C06
set_option linter.unusedSimpArgs false
set_option linter.unusedVariables false
namespace Go.C06
open Go.Fam Go.Proofs
variable {Γ : Gam}
theorem Qui (n lo hi : Int)  : H19 72 [.i n, .i lo, .i hi] = (True, .b (Qak n lo hi)) := h72 n lo hi
def Qdo (b : Boil) : Bool := Qak b.soak 0 999 && Qak b.bend 0 999
theorem W92 (b : Boil) : Qad Try.prog 92 [.ag (Qew b)] (.b (!Qdo b)) := by
 refine Qae Qtm hmix Try.func92 cb92 cc92 cs92 cn92 ?_
 simp only [rc92, rs92, Qui, Qaa, Qab, Qac, Qa7, Qaf, Qa6, Qa2, Fam.step, Qag, Qbd, Qb7, ug, evO, opv, qv, Qam, ldV, Qay, V.cells, Qas, Qa9, Qa5, flat, Qa3, Qa0, Qa4, ↓reduceIte, Nat.reduceEqDiff, Nat.reduceAdd, Nat.reduceLT, Nat.reduceLeDiff, Qa, Qb, Qv, Qs, Qf, Qg, Qj, Qr, Qq, Qk, endQ, rvs, rv1, resV, vw_i, vw_b, Qax, zipA, Qi, V.b.injEq, Qp, Qt, Qo, Qc, true_and, and_true, and_self, implies_true, beq_false, Xj, Zq, Q7, Qdv, Z1, imp_self, Qew]
 unfold Qdo
 by_cases h : Qak b.soak 0 999 = true <;> simp [h]
def eO1 (b : Boil) : List V := [.ag (Qew b)]
def dO1 : List V → Boil | [.ag s] => Qot s | _ => Qot []
noncomputable def H20 : Gam := H19.ext 92 (fnG eO1 dO1 (fun _ => True) (fun b => !Qdo b) .b)
theorem Qw0 : GOk Try.prog H20 := Qtm.ext (f := 92) (fun a w => Try.call92 a w) (Qb6 fun a _ => W92 a)
theorem h92 (b : Boil) : H20 92 [.ag (Qew b)] = (True, .b (!Qdo b)) :=
 (show H20 92 _ = fnG eO1 dO1 (fun _ => True) (fun b => !Qdo b) .b (eO1 b) from rfl).trans (Qba _ rfl)
theorem P103 (hG : GOk Try.prog Γ) (l : List Boil) (f : Nat) (hf : f < 1000000) (caps : List V) (p : Boil → Bool) (hv : caps.map (vw [] 8) = caps) (hr : Qa5 caps = false) (hl : l.length < 10000000)
  (h : ∀ x ∈ l, Γ f (V.ag (Qew x) :: caps) = (True, .b (p x))) : Qad Try.prog 103 [.sl 2 (l.map Qew), .fn f caps] (.i (idxOf p l)) := by
 refine Qae hG hmix Try.func103 cb103 cc103 cs103 cn103 ?_
 simp only [rc103, rs103, Qaa, Qab, Qai, Qa7, Qaf, Qa6, Qa2, Fam.step, Qag, evO, opv, qv, lenV, Qa3, Qa0, Qa4, ↓reduceIte, Nat.reduceEqDiff, Int.reduceNeg, Qa, Qb, zipA, Qi, true_and, reduceCtorEq, Qy]
 refine Qcu l.length (fun i => ⟨lkp [(0, .sl 2 (l.map Qew)), (1, .fn f caps), (7, .i l.length), (8, .i i)], []⟩) (fun i => ∀ j x, j < i → l[j]? = some x → p x = false) ?_ ?_ ?_ ?_
 ·simp only [Zf, kp, Qa0, Qa4, ↓reduceIte, Nat.reduceEqDiff, Qa, Qb, reduceCtorEq]
 ·intro j x h; omega
 ·intro i hi hc
  obtain ⟨x, hx⟩ : ∃ x, l[i]? = some x := ⟨_, Q4 hi⟩
  have hlt : (i : Int) < l.length := by omega
  have h3 : inI ((i : Int) + 1) := by unfold inI; omega
  have hp := h x (Zc hx)
  try simp only [Qew] at hp
  simp only [hx, hlt, Zi, Zj, h3, hp, hv, hr, hf, Qal, Qaa, Qab, Qah, Qc8, Qai, Qac, Qa7, Qaf, Qaq, Qa6, Qa2, Fam.step, Qag, evO, opv, qv, binV, ldV, iadV, Qay, Qa9, Qa5, flat, kp, Qa3, Qa0, Qa4, ↓reduceIte, Nat.reduceEqDiff, Nat.reduceAdd, Nat.reduceLeDiff, Int.reduceNeg, Qa, Qb, Qf, Qg, Qh, Qx, Qn, Qm, Q8, endQ, rvs, rv1, resV, vw_i, Qax, Zb, Qi, V.i.injEq, Qo, Qc, decide_true, true_and, and_true, and_self, implies_true, reduceCtorEq, Zh, Qy, Qz, Qd, Zg, Zo, Qew]
  refine ⟨fun e => ?_, fun e => ?_⟩
  ·rw [Qju hx e hc]
  ·intro j y hj hy
   by_cases hji : j < i
   ·exact hc j y hji hy
   ·have : j = i := by omega
    subst this
    rw [hx] at hy; cases hy; exact e
 ·intro hc
  simp only [Qaa, Qab, Qah, Qbb, Qac, Qa7, Qaf, Qaq, Qa6, Qa2, Fam.step, Qag, evO, opv, qv, binV, Qa3, Qa0, Qa4, ↓reduceIte, Nat.reduceEqDiff, Int.reduceNeg, Qa, Qb, endQ, rvs, rv1, resV, vw_i, Zl, V.i.injEq, Qc, decide_false, true_and, and_self, reduceCtorEq]
  exact (Qh4 fun x hx => by
   obtain ⟨j, hj⟩ := Z0 hx
   exact hc j x (by have := Qao hj; exact this) hj).symm
def eOs (l : List Boil) : List V := [.sl 2 (l.map Qew), .fn 92 []]
def dOs : List V → List Boil | [.sl _ l, _] => l.map Qot | _ => []
theorem Qvi (l : List Boil) : dOs (eOs l) = l := by simp [dOs, eOs, Function.comp_def, Qou]
noncomputable def H21 : Gam := H20.ext 103 (fnG eOs dOs (fun l => l.length < 10000000) (idxOf fun b => !Qdo b) .i)
theorem Qw1 : GOk Try.prog H21 := Qw0.ext (f := 103) (fun a w => Try.call103 a w) (Qb6 fun l h => P103 Qw0 l 92 (by decide) [] _ rfl rfl h fun b _ => h92 b)
theorem h103 (l : List Boil) : H21 103 [.sl 2 (l.map Qew), .fn 92 []] = (l.length < 10000000, .i (idxOf (fun b => !Qdo b) l)) :=
 (show H21 103 _ = fnG eOs dOs (fun l => l.length < 10000000) (idxOf fun b => !Qdo b) .i (eOs l) from rfl).trans (Qba _ (Qvi _))
theorem W93 (l : List Boil) (h : l.length < 10000000) : Qad Try.prog 93 [.sl 2 (l.map Qew), .fn 92 []] (.b (l.any fun b => !Qdo b)) := by
 refine Qae Qw1 hmix Try.func93 cb93 cc93 cs93 cn93 ?_
 simp only [rc93, rs93, h103, Qaa, Qab, Qac, Qa7, Qaf, Qa6, Qa2, Fam.step, Qag, evO, opv, qv, binV, Qay, Qa9, Qa5, flat, Qa3, Qa0, Qa4, ↓reduceIte, Nat.reduceEqDiff, Nat.reduceLT, Qa, Qb, Qk, endQ, rvs, rv1, resV, vw_b, Qb3, Qj4, zipA, Qi, V.b.injEq, Qo, Qc, true_and, and_true, and_self, implies_true, reduceCtorEq]
 exact ⟨h, by rw [Qid]⟩
noncomputable def H22 : Gam := H21.ext 93 (fnG eOs dOs (fun l => l.length < 10000000) (fun l => l.any fun b => !Qdo b) .b)
theorem Qpy : GOk Try.prog H22 := Qw1.ext (f := 93) (fun a w => Try.call93 a w) (Qb6 fun l h => W93 l h)
theorem h93 (l : List Boil) : H22 93 [.sl 2 (l.map Qew), .fn 92 []] = (l.length < 10000000, .b (l.any fun b => !Qdo b)) :=
 (show H22 93 _ = fnG eOs dOs (fun l => l.length < 10000000) (fun l => l.any fun b => !Qdo b) .b (eOs l) from rfl).trans (Qba _ (Qvi _))
theorem Quj (n lo hi : Int)  : H22 72 [.i n, .i lo, .i hi] = (True, .b (Qak n lo hi)) := h72 n lo hi
def Qrh (s : Box) : Bool := Qak s.room 1 7 && decide ((s.boils.length : Int) ≤ 7) && !(s.boils.any fun b => !Qdo b)
def boxE (s : Box) : Int := if Qrh s = true then 0 else 62
theorem W74 (s : Box) : Qad Try.prog 74 [.ag (eBox s)] (.i (boxE s)) := by
 refine Qae Qpy hmix Try.func74 cb74 cc74 cs74 cn74 ?_
 simp only [rc74, rs74, Quj, h93, Qal, Qaa, Qab, Qah, Qc8, Qac, Qa7, Qaf, Qa6, Qa2, Fam.step, Qag, Qbd, Qb7, ug, evO, opv, qv, Qam, binV, ldV, lenV, Qay, V.cells, Qas, Qa9, Qa5, flat, Qa3, Qa0, Qa4, ↓reduceIte, Nat.reduceEqDiff, Nat.reduceAdd, Nat.reduceLT, Nat.reduceLeDiff, Qa, Qb, Qv, Qs, Qf, Qg, Qj, Qr, Qq, Qk, endQ, rvs, rv1, resV, vw_i, Qb3, Qax, Qj4, zipA, Qi, V.i.injEq, Qp, Qt, Qo, Qc, true_and, and_true, and_self, implies_true, beq_false, Xj, Zq, Q7, Qdv, Zw, Z1, imp_self, Qy, Zo, eBox]
 unfold boxE Qrh
 by_cases h1 : Qak s.room 1 7 = true
 ·by_cases h2 : (7 : Int) < s.boils.length
  ·have h3 : ¬ (s.boils.length : Int) ≤ 7 := by omega
   simp [h1, h2, h3]
  ·have h3 : (s.boils.length : Int) ≤ 7 := by omega
   have h4 : s.boils.length < 10000000 := by omega
   by_cases h5 : (s.boils.any fun b => !Qdo b) = true <;> simp [h1, h2, h3, h4, h5]
 ·simp [h1]
structure OkX (s : Box) : Prop where
 room : 1 ≤ s.room ∧ s.room ≤ 7
 len : s.boils.length ≤ 7
 boil : ∀ b ∈ s.boils, (0 ≤ b.soak ∧ b.soak ≤ 999) ∧ 0 ≤ b.bend ∧ b.bend ≤ 999
theorem Qs8 {s : Box} : boxE s = 0 ↔ OkX s := by
 have e : boxE s = 0 ↔ Qrh s = true := by unfold boxE; split <;> simp_all
 rw [e]
 unfold Qrh
 simp only [Zp, decide_eq_true_eq, Q7, Z7, Z8, Qdo, Qak]
 constructor
 ·rintro ⟨⟨h1, h2⟩, h3⟩
  exact ⟨h1, by omega, fun b hb => by simpa using h3 b hb⟩
 ·rintro ⟨h1, h2, h3⟩
  exact ⟨⟨h1, by omega⟩, fun b hb => by simpa using h3 b hb⟩
def Qcn (n : Nat) : List Int := (Z5 n).map fun (i : Nat) => (i : Int)
theorem Qp4 (l : List Int) : (l.map eI).flatten = l.map V.i := by
 induction l with
 | nil => rfl
 | cons x l ih => simp [eI] at ih ⊢; exact ih
theorem hdD (l : List Int) (k : Nat) (h : k < l.length) : ((l.map V.i).drop k).headD .u = .i (l.getD k 0) := by
 rw [List.headD_eq_head?_getD, List.head?_drop, Zg, Q4 h, Qd, Q4 h]; rfl
theorem putI (l : List Int) (k : Nat) (x : Int) (h : k < l.length) : (l.map V.i).take k ++ [V.i x] ++ (l.map V.i).drop (k + 1) = (l.set k x).map V.i := by
 have := Qq2 k (.i x) (l.map V.i) (by simpa using h)
 rw [List.map_set, ← this]; rfl
theorem Qon (l : List Int) : Qcy 1 (l.map V.i) 0 l.length = l.map eI := by rw [← Qp4]; exact Qm3 l
theorem Qgp (l : List Int) : Qa5 (l.map V.i) = false := by rw [← Qp4]; exact Qk8 l
def Qey (n k : Nat) : List Int := (Z5 n).map fun (i : Nat) => if i < k then (i : Int) else 0
theorem Qlk {n k : Nat} (h : k < n) : (Qey n k).set k (k : Int) = Qey n (k + 1) := by
 apply Xn (by simp [Qey])
 intro i h1 h2
 simp only [Qey, List.getElem_set, List.getElem_map, List.getElem_range]
 by_cases e : k = i
 ·subst e; simp
 ·rw [if_neg e]
  by_cases h : i < k
  ·rw [if_pos h, if_pos (by omega)]
  ·rw [if_neg h, if_neg (by omega)]
theorem Qpu (n : Nat) : (Qey n 0).map V.i = (List.replicate n [V.i 0]).flatten := by
 induction n with
 | zero => rfl
 | succ n ih =>
  rw [List.replicate_succ', List.flatten_append, ← ih]
  simp [Qey, List.range_succ]
theorem Qpv (n : Nat) : Qey n n = Qcn n := by
 unfold Qey Qcn
 apply List.map_congr_left
 intro i hi
 rw [if_pos (by simpa using hi)]
theorem W78 (n : Nat) (h : n ≤ 1000000) : Qez Try.prog 78 [.i n] (.rf 0 0 0 n 1) [.cells 0 ((Qcn n).map V.i)] := by
 refine Qka Qpy hmix Try.func78 cb78 cc78 cs78 cn78 ?_
 have hn0 : (0 : Int) ≤ n := by omega
 have hn2 : (n : Int) ≤ 2147483648 := by omega
 simp only [rc78, rs78, hn0, Qz, hn2, ← Qpu, Qaa, Qab, Qai, Qa7, Qaf, Qa6, Qa2, Fam.step, Qag, Qbi, Qat, nv, evO, opv, qv, lenV, Qa3, Qa0, Qa4, ↓reduceIte, Nat.reduceEqDiff, Qa, Qb, Qg, Qm, Qe, zipA, true_and, and_true, reduceCtorEq, Qz]
 refine ⟨Xd _, ?_⟩
 refine Qcp n (fun k => ⟨lkp [(3, .rf 0 0 0 n 1), (8, .i n), (9, .i k)], [.cells 0 ((Qey n k).map V.i)]⟩) ?_ ?_ ?_
 ·simp only [Zf, kp, Qa0, Qa4, ↓reduceIte, Nat.reduceEqDiff, Qa, Qb]
 ·intro k hk
  have hlt : (k : Int) < n := by omega
  have h1 : inI ((k : Int) + 1) := by unfold inI; omega
  have hl : ((Qey n k).map V.i).length = n := by simp [Qey]
  have hp := putI (Qey n k) k k (by simp [Qey]; omega)
  rw [Qlk hk] at hp
  simp only [hlt, h1, hl, hp, Zu, Zi, Zj, Qal, Qaa, Qab, Qah, Qai, Qa7, putB, Qaf, Qaq, Qa6, Qa2, Fam.step, Qag, Qbi, Qat, putB, nv, sv, evO, opv, qv, binV, iadV, putAt, V.cells, Qas, Qb2, kp, Qa3, Qar, Qa0, Qa4, ↓reduceIte, Nat.reduceEqDiff, Qa, Qb, Qv, Qs, Qf, Qg, Qe, Za, Zb, Qi, Qp, decide_true, true_and, and_true, and_self, Qz]
  omega
 ·simp only [Zl, Qpv, Qaa, Qab, Qah, Qbb, Qac, Qa7, endO, Qaf, Qaq, Qa6, Qa2, Fam.step, Qag, evO, opv, qv, binV, Qa3, Qa0, Qa4, ↓reduceIte, Nat.reduceEqDiff, Qa, Qb, rvs, rv1, resV, Zl, Qc, decide_false, and_self]
theorem W78p (n : Nat) (h : n ≤ 1000000) : Qad Try.prog 78 [.i n] (.sl 1 ((Qcn n).map eI)) := by
 refine Qae Qpy hmix Try.func78 cb78 cc78 cs78 cn78 ?_
 have hn0 : (0 : Int) ≤ n := by omega
 have hn2 : (n : Int) ≤ 2147483648 := by omega
 simp only [rc78, rs78, hn0, Qz, hn2, ← Qpu, Qaa, Qab, Qai, Qa7, Qaf, Qa6, Qa2, Fam.step, Qag, Qbi, Qat, nv, evO, opv, qv, lenV, Qa3, Qa0, Qa4, ↓reduceIte, Nat.reduceEqDiff, Qa, Qb, Qg, Qm, Qe, zipA, true_and, and_true, reduceCtorEq, Qz]
 refine ⟨Xd _, ?_⟩
 refine Qcp n (fun k => ⟨lkp [(3, .rf 0 0 0 n 1), (8, .i n), (9, .i k)], [.cells 0 ((Qey n k).map V.i)]⟩) ?_ ?_ ?_
 ·simp only [Zf, kp, Qa0, Qa4, ↓reduceIte, Nat.reduceEqDiff, Qa, Qb]
 ·intro k hk
  have hlt : (k : Int) < n := by omega
  have h1 : inI ((k : Int) + 1) := by unfold inI; omega
  have hl : ((Qey n k).map V.i).length = n := by simp [Qey]
  have hp := putI (Qey n k) k k (by simp [Qey]; omega)
  rw [Qlk hk] at hp
  simp only [hlt, h1, hl, hp, Zu, Zi, Zj, Qal, Qaa, Qab, Qah, Qai, Qa7, putB, Qaf, Qaq, Qa6, Qa2, Fam.step, Qag, Qbi, Qat, putB, nv, sv, evO, opv, qv, binV, iadV, putAt, V.cells, Qas, Qb2, kp, Qa3, Qar, Qa0, Qa4, ↓reduceIte, Nat.reduceEqDiff, Qa, Qb, Qv, Qs, Qf, Qg, Qe, Za, Zb, Qi, Qp, decide_true, true_and, and_true, and_self, Qz]
  omega
 ·have hl : ((Qcn n).map V.i).length = n := by simp [Qcn]
  have hl2 : (Qcn n).length = n := by simp [Qcn]
  have hc := Qon (Qcn n)
  rw [hl2] at hc
  simp only [Zl, Qpv, hl, hc, Zu, Zt, vw_I, Qaa, Qab, Qah, Qbb, Qac, Qa7, Qaf, Qaq, Qa6, Qa2, Fam.step, Qag, evO, opv, qv, binV, Qa3, Qa0, Qa4, ↓reduceIte, Nat.reduceEqDiff, Qa, Qb, Qe, endQ, rvs, rv1, resV, Qdd, Zl, Qi, Qc, decide_false, and_self]
end Go.C06
set_option linter.unusedSimpArgs false
set_option linter.unusedVariables false
namespace Go.C06
open Go.Fam Go.Proofs
variable {Γ : Gam}
def Qde (s : Box) (b : Int) : Boil := s.boils.getD b.toNat ⟨0, 0⟩
def qD (s : Box) (a : List Int) : Int := if s.room ≤ (a.length : Int) then a.getD ((a.length : Int) - s.room).toNat 0 else 0
def Qrw (s : Box) (st : List Int × Int) (b : Int) : List Int × Int :=
 (st.1 ++ [max (qD s st.1 + (Qde s b).soak) st.2], max (qD s st.1 + (Qde s b).soak) st.2 + (Qde s b).bend)
def stD (s : Box) (l : List Int) : List Int × Int := l.foldl (Qrw s) ([], 0)
def Qeh (s : Box) (l : List Int) : Int := (stD s l).2
theorem Qne (s : Box) (l : List Int) (b : Int) : stD s (l ++ [b]) = Qrw s (stD s l) b := by unfold stD; rw [Xk]; rfl
theorem Qwj {s : Box} (hs : OkX s) : ∀ l : List Int, (stD s l).1.length = l.length ∧ (∀ x ∈ (stD s l).1, 0 ≤ x ∧ x ≤ 2000 * l.length) ∧ 0 ≤ (stD s l).2 ∧ (stD s l).2 ≤ 2000 * l.length := by
 refine fun l => Qk1 (p := fun l => (stD s l).1.length = l.length ∧ (∀ x ∈ (stD s l).1, 0 ≤ x ∧ x ≤ 2000 * l.length) ∧ 0 ≤ (stD s l).2 ∧ (stD s l).2 ≤ 2000 * l.length) ?_ ?_ l
 ·simp [stD]
 ·rintro l b ⟨h1, h2, h3, h4⟩
  rw [Qne]
  have hb : (0 ≤ (Qde s b).soak ∧ (Qde s b).soak ≤ 999) ∧ 0 ≤ (Qde s b).bend ∧ (Qde s b).bend ≤ 999 := by
   unfold Qde
   rw [Qd]
   cases hx : s.boils[b.toNat]? with
   | none => simp
   | some x => exact hs.boil x (Zc hx)
  have hin : 0 ≤ qD s (stD s l).1 ∧ qD s (stD s l).1 ≤ 2000 * l.length := by
   unfold qD
   split
   ·have hr := hs.room
    exact h2 _ (Qdn (by omega))
   ·omega
  unfold Qrw
  generalize qD s (stD s l).1 = q at hin
  simp only [List.length_append, List.length_singleton, Zi, Zj]
  refine ⟨by omega, fun x hx => ?_, by omega, by omega⟩
  rcases Xq.1 hx with hx | hx
  ·have := h2 x hx; omega
  ·have : x = max (q + (Qde s b).soak) (stD s l).2 := by simpa using hx
   omega
structure OkD (a : Box × List Int) : Prop where
 box : OkX a.1
 len : a.2.length ≤ 1000
 in_ : ∀ b ∈ a.2, 0 ≤ b ∧ b < a.1.boils.length
theorem Qqz {s : Box} {b : Int} (h : 0 ≤ b ∧ b < s.boils.length) : s.boils[b.toNat]? = some (Qde s b) := by
 unfold Qde
 rw [Qd, Q4 (by omega)]; rfl
theorem W79 (s : Box) (l : List Int) (h : OkD (s, l)) : Qad Try.prog 79 [.ag (eBox s), .sl 1 (l.map eI)] (.i (Qeh s l)) := by
 refine Qae Qpy hmix Try.func79 cb79 cc79 cs79 cn79 ?_
 obtain ⟨hs, hl, hin⟩ := h
 simp only at hs hl hin
 simp only [rc79, rs79, Qaa, Qab, Qai, Qa7, Qqg, Qaf, Qa6, Qa2, Fam.step, Qag, evO, opv, qv, lenV, V.cells, Qas, Qa9, Qa5, Qa3, Qa0, Qa4, ↓reduceIte, Nat.reduceEqDiff, Qa, Qb, Qg, Qm, vw_i, Qb3, Qax, zipA, Qi, Qo, true_and, and_self, reduceCtorEq, Qy, eBox]
 refine Qcp l.length (fun i => ⟨lkp [(2, .pa (eBox s)), (4, .i (Qeh s (l.take i))), (5, .rf 0 i 0 i 1), (9, .sl 1 (l.map eI)), (10, .i l.length), (11, .i i)], [.cells i ((stD s (l.take i)).1.map V.i)]⟩) ?_ ?_ ?_
 ·simp only [Zf, Qeh, stD, List.foldl_nil, kp, Qa0, Qa4, ↓reduceIte, Nat.reduceEqDiff, Qa, Qb, Q2, eBox]
 ·intro i hi
  obtain ⟨b, hb⟩ : ∃ b, l[i]? = some b := ⟨_, Q4 hi⟩
  have hbi := hin b (Zc hb)
  have hbg := Qqz hbi
  have hlt : (i : Int) < l.length := by omega
  have h1 : inI ((i : Int) + 1) := by unfold inI; omega
  obtain ⟨k1, k2, k3, k4⟩ := Qwj hs (l.take i)
  have hbo := hs.boil _ (Zc hbg)
  rw [Xo, Nat.min_eq_left (by omega)] at k1 k2 k4
  have hr := hs.room
  have hlen : ((stD s (l.take i)).1.map V.i).length = i := by simpa using k1
  obtain ⟨A, hA⟩ : ∃ A, A = (stD s (l.take i)).1 := ⟨_, rfl⟩
  obtain ⟨B, hB⟩ : ∃ B, B = Qeh s (l.take i) := ⟨_, rfl⟩
  have hB2 : (stD s (l.take i)).2 = B := hB.symm
  rw [← hA] at k1 k2 hlen ⊢
  rw [hB2] at k3 k4
  rw [← hB]
  obtain ⟨o, ho⟩ : ∃ o, o = max (qD s A + (Qde s b).soak) B := ⟨_, rfl⟩
  have hst : stD s (l.take (i + 1)) = (A ++ [o], o + (Qde s b).bend) := by
   rw [Qbt hb, Qne]
   unfold Qrw
   rw [← hA, hB2, ho]
  have hdn : Qeh s (l.take (i + 1)) = o + (Qde s b).bend := by unfold Qeh; rw [hst]
  have happ : A.map V.i ++ [V.i o] = (A ++ [o]).map V.i := by simp
  have hd2 := hdD (A ++ [o]) i (by simp; omega)
  rw [Qf6 (by omega)] at hd2
  have hll : ((A ++ [o]).map V.i).length = i + 1 := by simp; omega
  have hfl : Qc1 (i + 1) := by unfold Qc1; omega
  have hq : 0 ≤ qD s A ∧ qD s A ≤ 2000 * i := by
   unfold qD
   rw [k1]
   split
   ·exact k2 _ (Qdn (by omega))
   ·omega
  have h2 : inI (qD s A + (Qde s b).soak) ∧ inI (o + (Qde s b).bend) := by unfold inI; omega
  have i3 : (i : Int) < ((i + 1 : Nat) : Int) := by omega
  by_cases hrm : s.room ≤ (i : Int)
  ·obtain ⟨k, hk⟩ : ∃ k : Nat, k = ((i : Int) - s.room).toNat := ⟨_, rfl⟩
   have e1 : (i : Int) - s.room = (k : Int) := by omega
   have hkl : k < A.length := by omega
   have hqe : qD s A = A.getD k 0 := by unfold qD; rw [k1, if_pos hrm, hk]
   have hd1 := hdD A k hkl
   rw [← hqe] at hd1
   have i4 : inI (k : Int) ∧ (k : Int) < i ∧ k + 1 ≤ i := by unfold inI; omega
   simp only [hb, hlt, h1, hbg, hrm, hlen, Zu, e1, hd1, i4, h2, ← ho, Xl, Xp, happ, hd2, hll, hfl, hst, hdn, hbi, Zi, Zj, Zt, Qal, Qaa, Qbo, Qab, Qah, Qai, Qa7, Qcf, Qb9, putB, Qaf, Qaq, Qa6, Qa2, Fam.step, Qag, Qbi, Qat, runX, eff, Qb8, fpR, fpQ, fpV, Qc5, hits, putB, nv, sv, Qc9, evO, opv, qv, binV, ldV, iadV, Qan, putAt, Qaz, Qb5, V.cells, Qas, Qb2, Qa9, Qa5, kp, Qa3, Qa0, Qa4, ↓reduceIte, Nat.reduceEqDiff, Nat.reduceAdd, Nat.reduceLeDiff, Qa, Qb, Qv, Qs, Qf, Qg, Qj, Qr, Zn, Qh, Q2, Qx, Qq, Qn, Qm, Qk, Qe, Qu, Q8, Q1, Za, Qw, Xf, Q3, vw_i, Zb, Qi, Qp, Qt, Q6, Qo, Q9, Q5, Qc, decide_true, true_and, and_true, and_self, reduceCtorEq, not_false_eq_true, ne_eq, Zh, Ze, Zd, Q0, Qy, Qz, Qd, Zg, Qew, eBox, eI]
   omega
  ·have hqe : qD s A = 0 := by unfold qD; rw [k1, if_neg hrm]
   rw [hqe] at ho h2
   simp only [hb, hlt, h1, hbg, hrm, hlen, Zu, h2, ← ho, Xl, Xp, happ, hd2, hll, hfl, hst, hdn, hbi, Zi, Zj, Zt, Qal, Qaa, Qbo, Qab, Qah, Qai, Qa7, Qcf, Qb9, putB, Qaf, Qaq, Qa6, Qa2, Fam.step, Qag, Qbi, Qat, runX, eff, Qb8, fpR, fpQ, fpV, Qc5, hits, putB, nv, sv, Qc9, evO, opv, qv, binV, ldV, iadV, Qan, putAt, Qaz, Qb5, V.cells, Qas, Qb2, Qa9, Qa5, kp, Qa3, Qa0, Qa4, ↓reduceIte, Nat.reduceEqDiff, Nat.reduceAdd, Nat.reduceLeDiff, Qa, Qb, Qv, Qs, Qf, Qg, Qj, Qr, Zn, Qh, Q2, Qx, Qq, Qn, Qm, Qk, Qe, Qu, Q8, Q1, Za, Qw, Xf, Q3, vw_i, Zb, Qi, Qp, Qt, Q6, Qo, Q9, Q5, Qc, decide_true, decide_false, true_and, and_true, and_self, reduceCtorEq, not_false_eq_true, ne_eq, Zh, Ze, Zd, Q0, Qy, Qz, Qd, Zg, Qew, eBox, eI]
   omega
 ·simp only [Zl, Zs, Qaa, Qab, Qah, Qbb, Qac, Qa7, Qaf, Qaq, Qa6, Qa2, Fam.step, Qag, evO, opv, qv, binV, Qa3, Qa0, Qa4, ↓reduceIte, Nat.reduceEqDiff, Qa, Qb, endQ, rvs, rv1, resV, vw_i, Zl, Qc, decide_false, and_self, eBox]
def eXL (a : Box × List Int) : List V := [.ag (eBox a.1), .sl 1 (a.2.map eI)]
def dXL : List V → Box × List Int | [.ag s, .sl _ l] => (dBox s, l.map dI) | _ => (dBox [], [])
theorem Qx9 (a : Box × List Int) : dXL (eXL a) = a := by obtain ⟨s, l⟩ := a; simp [dXL, eXL, Qs9, Function.comp_def, Qix]
def eX1 (s : Box) : List V := [.ag (eBox s)]
def dX1 : List V → Box | [.ag s] => dBox s | _ => dBox []
theorem Qr2 (s : Box) : dX1 (eX1 s) = s := by simp [dX1, eX1, Qs9]
def s78 : List V → Prop × V | [.i n] => (0 ≤ n ∧ n ≤ 1000000, .sl 1 ((Qcn n.toNat).map eI)) | _ => (False, .u)
def o78 : List V → Prop × V | [.i n] => (0 ≤ n ∧ n ≤ 1000000, .tp [.rf 0 0 0 n.toNat 1, .tp [bV (.cells 0 ((Qcn n.toNat).map V.i))]]) | _ => (False, .u)
noncomputable def H23 : Gam := (((H22.ext 79 (fnG eXL dXL OkD (fun a => Qeh a.1 a.2) .i)).ext 74 (fnG eX1 dX1 (fun _ => True) boxE .i)).ext 78 s78).ext 1000078 o78
theorem Qrj : GOk Try.prog H23 := by
 have k1 := Qpy.ext (f := 79) (fun a w => Try.call79 a w) (Qb6 (e := eXL) (d := dXL) (ok := OkD) (g := fun a => Qeh a.1 a.2) (eb := .i) fun a h => W79 a.1 a.2 h)
 have k2 := k1.ext (f := 74) (fun a w => Try.call74 a w) (Qb6 (e := eX1) (d := dX1) (ok := fun _ => True) (g := boxE) (eb := .i) fun a h => W74 a)
 have k3 := k2.ext (f := 78) (r := s78) (fun a w => Try.call78 a w) fun vs h => by
  unfold s78 at h ⊢
  split at h
  ·rename_i n
   have := W78p n.toNat (by omega)
   rw [show (n.toNat : Int) = n by omega] at this
   exact this
  ·exact h.elim
 refine k3.extO (f := 78) (r := o78) (fun a w => Try.call78 a w) fun vs v bs h1 h2 => ?_
 unfold o78 at h1 h2
 split at h1
 ·rename_i n
  simp only [V.tp.injEq, List.cons.injEq, and_true] at h2
  rw [← h2.1, ← h2.2]
  have := W78 n.toNat (by omega)
  rw [show (n.toNat : Int) = n by omega] at this
  simpa only [Qa, Qb, Qaj] using this
 ·exact h1.elim
theorem h79 (s : Box) (l : List Int) : H23 79 [.ag (eBox s), .sl 1 (l.map eI)] = (OkD (s, l), .i (Qeh s l)) :=
 (show H23 79 _ = fnG eXL dXL OkD (fun a => Qeh a.1 a.2) .i (eXL (s, l)) from rfl).trans (Qba _ (Qx9 _))
theorem h74 (s : Box) : H23 74 [.ag (eBox s)] = (True, .i (boxE s)) := (show H23 74 _ = fnG eX1 dX1 (fun _ => True) boxE .i (eX1 s) from rfl).trans (Qba _ (Qr2 _))
theorem h78 (n : Int) : H23 78 [.i n] = (0 ≤ n ∧ n ≤ 1000000, .sl 1 ((Qcn n.toNat).map eI)) := rfl
theorem h78o (n : Int) : H23 1000078 [.i n] = (0 ≤ n ∧ n ≤ 1000000, .tp [.rf 0 0 0 n.toNat 1, .tp [bV (.cells 0 ((Qcn n.toNat).map V.i))]]) := rfl
end Go.C06
set_option linter.unusedSimpArgs false
set_option linter.unusedVariables false
namespace Go.C06
open Go.Fam Go.Proofs
variable {Γ : Gam}
def Qhg (L : List Int) (i j : Nat) : List Int := (L.set i (L.getD j 0)).set j (L.getD i 0)
theorem Qea (L : List Int) (i j : Nat) : (Qhg L i j).length = L.length := by simp [Qhg]
theorem Qgw (L : List Int) {i j k : Nat} (hi : i < L.length) (hj : j < L.length) : (Qhg L i j).getD k 0 = if k = j then L.getD i 0 else if k = i then L.getD j 0 else L.getD k 0 := by
 unfold Qhg
 simp only [Qd, List.getElem?_set, List.length_set]
 by_cases e : j = k
 ·subst e; simp [hj]
 ·rw [if_neg e, if_neg (Ne.symm e)]
  by_cases e2 : i = k
  ·subst e2; simp [hi]
  ·rw [if_neg e2, if_neg (Ne.symm e2)]
theorem Qmk (L : List Int) {i j : Nat} (hi : i < L.length) (hj : j < L.length) : Qhg (Qhg L i j) i j = L := by
 apply Xn (by simp [Qea])
 intro k h1 h2
 have e : ∀ (M : List Int) (h : k < M.length), M[k] = M.getD k 0 := fun M h => by rw [Qd, Q4 h]; rfl
 rw [e _ h1, e _ h2, Qgw _ (by rw [Qea]; exact hi) (by rw [Qea]; exact hj), Qgw _ hi hj, Qgw _ hi hj, Qgw _ hi hj]
 by_cases e1 : k = j
 ·subst e1
  simp only [if_true]
  by_cases e2 : i = k
  ·subst e2; simp
  ·rw [if_neg e2]
 ·rw [if_neg e1]
  by_cases e2 : k = i
  ·subst e2; simp
  ·rw [if_neg e2, if_neg e1, if_neg e2]
def Qim : Nat → List Int → Nat → List (List Int)
 | 0, L, _ => [L]
 | k + 1, L, f => (Z5 (k + 1)).flatMap fun i => Qim k (Qhg L f (f + i)) (f + 1)
structure D97 where
 L : List Int
 f : Nat
 caps : List V
 rest : List (List V)
 b0 : V
 l : Nat
def encO (n : Nat) (p : List Int) : List V := gyE [.rf 2 0 0 n 1] [bV (.cells 0 (p.map V.i))]
def eA97 (x : D97) : List V := [.rf 2 0 0 x.L.length 1, .i x.f, .yl x.l]
def eH97 (x : D97) : List Blk := [.gh x.caps (some ((.b true :: [x.b0]) :: ((Qim (x.L.length - x.f) x.L x.f).map (encO x.L.length) ++ x.rest))), vB x.b0, .cells 0 (x.L.map V.i)]
def Qr4 (xs : List V) (hp : List Blk) : D97 := match xs, hp with
 | [_, .i f, .yl l], [.gh caps (some ([_, b0] :: ys)), _, .cells _ cs] => ⟨cs.map gI, f.toNat, caps, ys.drop (Qim ((cs.map gI).length - f.toNat) (cs.map gI) f.toNat).length, b0, l⟩
 | _, _ => ⟨[], 0, [], [], .u, 0⟩
theorem Qvq (L : List Int) : (L.map V.i).map gI = L := by
 rw [Xh]
 exact List.map_id'' (fun _ => rfl) L
theorem Qt4 (x : D97) : Qr4 (eA97 x) (eH97 x) = x := by
 obtain ⟨L, f, caps, rest, b0, l⟩ := x
 simp only [Qr4, eA97, eH97, Qvq, Qz]
 rw [List.drop_append_of_le_length (by simp)]
 simp
structure C97 (k : Nat) (al : List V → Prop) (x : D97) : Prop where
 y : x.caps[0]? = some (.yl x.l)
 f : x.f ≤ x.L.length
 k : x.L.length - x.f < k
 len : x.L.length ≤ 1000
 now : al [x.b0]
 one : ∀ bv, al bv → ∃ b, bv = [b]
def R97 (al : List V → Prop) (x : D97) (r : V) (hp : List Blk) : Prop :=
 ∃ (b : Bool) (b0 : V), al [b0] ∧ r = .b b ∧ hp = [.gh x.caps (some ((.b b :: [b0]) :: if b then x.rest else [])), vB b0, .cells 0 (x.L.map V.i)]
noncomputable def HQ (k : Nat) : Gam := H23.extY 97 fun al => hpG eA97 eH97 Qr4 (C97 k al) (R97 al)
theorem kQ (k : Nat) (al : List V → Prop) (x : D97) : ((HQ k).wal al).y 97 al (eA97 x) (eH97 x) = (C97 k al x, R97 al x) :=
 (show ((HQ k).wal al).y 97 al _ _ = hpG eA97 eH97 Qr4 (C97 k al) (R97 al) _ _ from rfl).trans (Qpc x (Qt4 x))
set_option maxHeartbeats 1000000 in
theorem W97 (k : Nat) (hG : GOk Try.prog (HQ k)) (al : List V → Prop) (x : D97) (h : C97 (k + 1) al x) : Qi1 Try.prog 97 al (eA97 x) (eH97 x) (R97 al x) := by
 refine Qiw (hG.wal al) hmix Try.func97 cb97 (lo := 3) cc97 cs97 (by exact cn97) (by rfl) (by decide) ?_
 obtain ⟨L, f, caps, rest, b0, l⟩ := x
 obtain ⟨hy, hf, hk, hlen, hal, hone⟩ := h
 simp only at hy hf hk hlen hal
 have hyal : ((HQ k).wal al).al = al := rfl
 obtain ⟨n, hn⟩ : ∃ n, n = L.length := ⟨_, rfl⟩
 have hlI : (L.map V.i).length = n := by simp [hn]
 by_cases hfn : f = n
 ·have e0 : (f : Int) = (n : Int) := by omega
  have ey : Qim (n - f) L f = [L] := by rw [hfn, Nat.sub_self]; rfl
  simp only [rc97, rs97, eA97, eH97, ← hn, e0, ey, encO, hy, hyal, Qaj, Qaa, Qab, Qah, Qac, Qa7, Qnd, yres, Qaj, endK, Qaf, Qa6, Qa2, Fam.step, Qag, Qat, Qb7, evO, opv, qv, binV, lenV, Qa3, Qa0, Qa4, ↓reduceIte, Nat.reduceEqDiff, Nat.reduceAdd, Qa, Qb, Qn, Qm, Qe, Ql, rvs, rv1, resV, zipA, Qi, decide_true, true_and, and_self, reduceCtorEq]
  intro b bv' hbv
  obtain ⟨b', rfl⟩ := hone bv' hbv
  refine ⟨b, b', hbv, rfl, ?_⟩
  simp [Qaj]
 ·have e0 : ¬ (f : Int) = (n : Int) := by omega
  simp only [rc97, rs97, eA97, eH97, ← hn, e0, Qal, Qaa, Qab, Qah, Qai, Qa7, Qaf, Qa6, Qa2, Fam.step, Qag, evO, opv, qv, binV, lenV, Qa3, Qa0, Qa4, ↓reduceIte, Nat.reduceEqDiff, Nat.reduceAdd, Qa, Qb, Qe, Ql, rv1, resV, zipA, Qi, Qc, decide_false, true_and, reduceCtorEq]
  obtain ⟨K, hK⟩ : ∃ K, n - f = K + 1 := ⟨n - f - 1, by omega⟩
  obtain ⟨rem, hrem⟩ : ∃ rem : Nat → List (List Int), rem = fun j => ((Z5 (K + 1)).drop j).flatMap fun i => Qim K (Qhg L f (f + i)) (f + 1) := ⟨_, rfl⟩
  have hr0 : Qim (n - f) L f = rem 0 := by rw [hK, hrem]; rfl
  have hrs : ∀ j, j < K + 1 → rem j = Qim K (Qhg L f (f + j)) (f + 1) ++ rem (j + 1) := by
   intro j hj
   rw [hrem]
   simp only
   rw [Qkz (Z3 hj), Zr]
  have hre : rem (K + 1) = [] := by
   rw [hrem]
   simp only
   rw [List.drop_eq_nil_iff.2 (by simp)]; rfl
  have hff : (f : Int) < n := by omega
  refine Qfd (K + 1) (fun j b => ⟨lkp [(0, .rf 2 0 0 n 1), (1, .i f), (2, .yl l), (7, .i (f + j))], [.gh caps (some ((.b true :: [b]) :: ((rem j).map (encO n) ++ rest))), vB b, .cells 0 (L.map V.i)]⟩) (fun j b => al [b]) b0 ?_ hal ?_ ?_
  ·simp only [Zf, Int.add_zero, hr0, kp, Qa0, Qa4, ↓reduceIte, Nat.reduceEqDiff, Qa, Qb, reduceCtorEq]
  ·intro j b hj hb
   obtain ⟨i, hi⟩ : ∃ i, i = f + j := ⟨_, rfl⟩
   have hin : i < n := by omega
   have ei : (f : Int) + j = (i : Int) := by omega
   have hii : (i : Int) < n := by omega
   have i1 : inI ((i : Int) + 1) ∧ inI ((f : Int) + 1) := by unfold inI; omega
   obtain ⟨x, hx⟩ : ∃ x, x = L.getD i 0 := ⟨_, rfl⟩
   obtain ⟨z, hz⟩ : ∃ z, z = L.getD f 0 := ⟨_, rfl⟩
   obtain ⟨M, hM⟩ : ∃ M, M = Qhg L f i := ⟨_, rfl⟩
   have hMl : M.length = n := by rw [hM, Qea]; exact hn.symm
   obtain ⟨x', hx'⟩ : ∃ x, x = M.getD i 0 := ⟨_, rfl⟩
   obtain ⟨z', hz'⟩ : ∃ z, z = M.getD f 0 := ⟨_, rfl⟩
   have d1 := hdD L i (by omega)
   have d2 := hdD L f (by omega)
   have d3 := hdD M i (by omega)
   have d4 := hdD M f (by omega)
   have p1 := putI L f x (by omega)
   have p2 := putI (L.set f x) i z (by simp; omega)
   have p3 := putI M f x' (by omega)
   have p4 := putI (M.set f x') i z' (by simp; omega)
   have hsw : (L.set f x).set i z = M := by rw [hx, hz, hM]; rfl
   have hsw2 : (M.set f x').set i z' = L := by
    rw [hx', hz', hM]
    exact Qmk L (by omega) (by omega)
   rw [hsw] at p2
   rw [hsw2] at p4
   rw [← hx] at d1
   rw [← hz] at d2
   rw [← hx'] at d3
   rw [← hz'] at d4
   have hl1 : ∀ M : List Int, (M.map V.i).length = M.length := fun M => by simp
   have hl3 : (L.set f x).length = n ∧ (M.set f x').length = n := by simp [hn, hMl]
   have g := kQ k al ⟨M, f + 1, caps, (rem (j + 1)).map (encO n) ++ rest, b, l⟩
   simp only [eA97, eH97, hMl] at g
   have hKf : n - (f + 1) = K := by omega
   rw [hKf, ← List.append_assoc, ← List.map_append] at g
   have hrj := hrs j hj
   rw [← hi, ← hM] at hrj
   rw [← hrj] at g
   have eN : ((f + 1 : Nat) : Int) = (f : Int) + 1 := by omega
   rw [eN] at g
   have e5 : (i : Nat) + 1 ≤ n ∧ f + 1 ≤ n := by omega
   simp only [ei, hii, hff, i1, d1, d2, p1, p2, hl1, hl3, ← hn, Zu, e5, hyal, g, Qal, Qaa, Qbo, Qab, Qah, Qc8, Qai, Qac, Qa7, Qqk, Qb9, optL, endK, Qaf, Qaq, Qa6, Qa2, Fam.step, Qag, Qat, runX, eff, Qb8, fpR, fpQ, fpV, Qc5, hits, nv, sv, evO, opv, qv, binV, ldV, iadV, lenV, putAt, V.cells, Qas, Qb2, kp, Qa3, Qar, Qa0, Qa4, ↓reduceIte, Nat.reduceEqDiff, Nat.reduceAdd, Nat.reduceLeDiff, Qa, Qb, Qv, Qs, Qf, Qg, Qn, Qm, Qk, Qe, Ql, Qu, Q8, Q1, Za, Zk, Qw, Q3, Zy, rvs, rv1, Zb, Qi, Qp, Qt, Zx, Q6, Qo, Z9, Q9, Q5, Qc, decide_true, true_and, and_true, and_self, reduceCtorEq, Xa, Ze, Zd, Q0, Q7, Qz, Qd, Zo]
   refine ⟨⟨hy, by show f + 1 ≤ M.length; omega, by show M.length - (f + 1) < k; omega, by show M.length ≤ 1000; omega, hb, hone⟩, ?_⟩
   rintro r hp' ⟨bb, b2, hb2, rfl, rfl⟩
   simp only [d3, d4, p3, p4, hl1, hl3, hMl, e5, Qb9, Qb2, Qv, Qs, Qf, Qg, Qe, Ql, Za, Zk, Zy, Qi, Qp, Xs, Qo, Q5, true_and, and_self, Xa, Ze, Zq, Q7]
   refine ⟨fun e => ?_, fun e => ?_⟩
   ·subst e
    exact ⟨false, b2, hb2, rfl, by simp⟩
   ·subst e
    have e6 : (i : Int) + 1 = f + ((j + 1 : Nat) : Int) := by omega
    exact ⟨b2, hb2, by simp [e6]⟩
  ·intro b hb
   have ef : (f : Int) + ((K + 1 : Nat) : Int) = n := by omega
   simp only [ef, Zl, hre, Qaa, Qab, Qah, Qbb, Qac, Qa7, endK, Qaf, Qaq, Qa6, Qa2, Fam.step, Qag, evO, opv, qv, binV, lenV, Qa3, Qa0, Qa4, ↓reduceIte, Nat.reduceEqDiff, Qa, Qb, Qm, Qe, Ql, rvs, rv1, Zl, Qc, decide_false, true_and, and_self, reduceCtorEq]
   exact ⟨true, b, hb, rfl, by simp⟩
theorem okHQ : ∀ k, GOk Try.prog (HQ k) := by
 intro k
 induction k with
 | zero =>
  refine Qrj.extY (f := 97) (fun a w => Try.call97 a w) fun al => Qvs fun x hx => ?_
  have := hx.k
  omega
 | succ k ih => exact Qrj.extY (f := 97) (fun a w => Try.call97 a w) fun al => Qvs fun x hx => W97 k ih al x hx
def allO (n : Nat) : List (List Int) := Qim n (Qcn n) 0
def it96 (n : Nat) (xs : List V) (b0 : V) : List Blk := [.gh xs (some ((.b true :: [b0]) :: (allO n).map (encO n))), vB b0]
theorem W96 (al : List V → Prop) (s : Box) (l : Nat) (b0 : V) (hn : s.boils.length ≤ 1000) (hal : al [b0]) (hone : ∀ bv, al bv → ∃ b, bv = [b]) :
  Qi1 Try.prog 96 al [.yl l, .pa (eBox s)] (it96 s.boils.length [.yl l, .pa (eBox s)] b0) (RIt al [.yl l, .pa (eBox s)]) := by
 refine Qiw ((okHQ 1001).wal al) hmix Try.func96 cb96 (lo := 2) cc96 cs96 (by exact cn96) (by rfl) (by decide) ?_
 have g1 : ((HQ 1001).wal al) 1000078 [.i s.boils.length] = (0 ≤ (s.boils.length : Int) ∧ (s.boils.length : Int) ≤ 1000000, .tp [.rf 0 0 0 s.boils.length 1, .tp [bV (.cells 0 ((Qcn s.boils.length).map V.i))]]) := h78o s.boils.length
 have hyal : ((HQ 1001).wal al).al = al := rfl
 have hnl : (Qcn s.boils.length).length = s.boils.length := by simp [Qcn]
 have g2 := kQ 1001 al ⟨Qcn s.boils.length, 0, [.yl l, .pa (eBox s)], [], b0, l⟩
 simp only [eA97, eH97, hnl, Qk, Nat.sub_zero, Zf] at g2
 have hin : (s.boils.length : Int) ≤ 1000000 := by omega
 unfold eBox at g2
 simp only [rc96, rs96, it96, g1, hin, hyal, allO, Qbe _ _ (Qgp _), g2, Qqk, Qdc, ocV, nidQ, plO, plQ, plB, Qcd, Qc0, shV, shB, Qaj, endK, Qa6, Qa2, Fam.step, Qag, Qat, evO, opv, qv, ldV, lenV, Qa9, Qa5, Qa3, Qa0, ↓reduceIte, Nat.reduceEqDiff, Nat.reduceAdd, Nat.reduceLT, Nat.reduceLeDiff, Qa, Qb, Qv, Qs, Qf, Qg, Qj, Qr, Qq, Qn, Qm, Qk, rvs, rv1, resV, vw_i, zipA, Zb, Qi, Zm, Qt, Zx, Q6, Qo, Qc, true_and, and_self, reduceCtorEq, Qy, eBox]
 refine ⟨⟨rfl, Nat.zero_le _, by simp [Qcn]; omega, by simp [Qcn]; omega, hal, hone⟩, ?_⟩
 rintro r hp' ⟨b, b2, h1, rfl, rfl⟩
 exact ⟨b, [b2], if b then [] else [], [.cells 0 ((Qcn s.boils.length).map V.i)], by cases b <;> simp, by cases b <;> simp, h1⟩
theorem W81 (s : Box) : Qad Try.prog 81 [.ag (eBox s)] (.fn 96 [.pa (eBox s)]) := by
 refine Qae Qrj hmix Try.func81 cb81 cc81 cs81 cn81 ?_
 simp only [rc81, rs81, Qaa, Qab, Qac, Qa7, Qaf, Qa6, Qa2, Fam.step, Qag, evO, opv, qv, V.cells, Qas, Qa9, Qa5, Qa3, Qa0, Qa4, ↓reduceIte, Nat.reduceEqDiff, Qa, Qb, endQ, rvs, rv1, resV, vw_i, Qb3, Qqt, Qax, Qj4, zipA, Qo, and_self, eBox]
def t96 (al : List V → Prop) (xs : List V) (hp : List Blk) : Prop × (V → List Blk → Prop) :=
 (∃ s l b0, s.boils.length ≤ 1000 ∧ al [b0] ∧ (∀ bv, al bv → ∃ b, bv = [b]) ∧ xs = [.yl l, .pa (eBox s)] ∧ hp = it96 s.boils.length [.yl l, .pa (eBox s)] b0, RIt al xs)
noncomputable def H24 : Gam := (H23.extY 96 t96).ext 81 (fnG eX1 dX1 (fun _ => True) (fun s => s) fun s => .fn 96 [.pa (eBox s)])
theorem Qw2 : GOk Try.prog H24 := by
 refine (Qrj.extY (f := 96) (fun a w => Try.call96 a w) fun al xs hp h => ?_).ext (f := 81) (fun a w => Try.call81 a w) (Qb6 (e := eX1) (d := dX1) (ok := fun _ => True) (g := fun s => s) (eb := fun s => .fn 96 [.pa (eBox s)]) fun s _ => W81 s)
 obtain ⟨s, l, b0, h1, h2, h3, rfl, rfl⟩ := h
 exact W96 al s l b0 h1 h2 h3
theorem h81 (s : Box) : H24 81 [.ag (eBox s)] = (True, .fn 96 [.pa (eBox s)]) :=
 (show H24 81 _ = fnG eX1 dX1 (fun _ => True) (fun s => s) (fun s => .fn 96 [.pa (eBox s)]) (eX1 s) from rfl).trans (Qba _ (Qr2 _))
theorem hQy (al : List V → Prop) (xs : List V) (hp : List Blk) : H24.y 96 al xs hp = t96 al xs hp := rfl
theorem Qul (s : Box)  : H24 74 [.ag (eBox s)] = (True, .i (boxE s)) := h74 s
theorem Qum (n : Int)  : H24 78 [.i n] = (0 ≤ n ∧ n ≤ 1000000, .sl 1 ((Qcn n.toNat).map eI)) := h78 n
theorem Qs3 (s : Box) (l : List Int)  : H24 79 [.ag (eBox s), .sl 1 (l.map eI)] = (OkD (s, l), .i (Qeh s l)) := h79 s l
theorem Quk (l : List Int)  : H24 1000069 [.sl 1 (l.map eI)] = (l.length ≤ 1000000, .tp [.rf 0 1 0 l.length 1, .tp [bV (.cells 1 (l.map eI).flatten)]]) := h69 l
theorem Qpq {L : List Int} {i j : Nat} (hi : i < L.length) (hj : j < L.length) {x : Int} (h : x ∈ Qhg L i j) : x ∈ L := by
 unfold Qhg at h
 rcases Z6 h with h | rfl
 ·rcases Z6 h with h | rfl
  ·exact h
  ·exact Qdn hj
 ·exact Qdn hi
theorem Qn3 : ∀ (k : Nat) (L : List Int) (f : Nat), f + k = L.length → ∀ p ∈ Qim k L f, p.length = L.length ∧ ∀ x ∈ p, x ∈ L
 | 0, L, f, _, p, hp => by
  have : p = L := by simpa [Qim] using hp
  subst this
  exact ⟨rfl, fun _ h => h⟩
 | k + 1, L, f, hf, p, hp => by
  simp only [Qim, List.mem_flatMap, Xe] at hp
  obtain ⟨i, hi, hp⟩ := hp
  obtain ⟨h1, h2⟩ := Qn3 k (Qhg L f (f + i)) (f + 1) (by rw [Qea]; omega) p hp
  rw [Qea] at h1
  exact ⟨h1, fun x hx => Qpq (by omega) (by omega) (h2 x hx)⟩
theorem Qoj {n : Nat} {p : List Int} (hp : p ∈ allO n) : p.length = n ∧ ∀ x ∈ p, 0 ≤ x ∧ x < n := by
 have hl : (Qcn n).length = n := by simp [Qcn]
 obtain ⟨h1, h2⟩ := Qn3 n (Qcn n) 0 (by omega) p hp
 refine ⟨by omega, fun x hx => ?_⟩
 have := h2 x hx
 simp only [Qcn, List.mem_map, Xe] at this
 obtain ⟨i, hi, rfl⟩ := this
 omega
def Qeu (s : Box) (k : Nat) : List Int := ((allO s.boils.length).take k).foldl (fun best p => if Qeh s p < Qeh s best then p else best) (Qcn s.boils.length)
def Qhn (s : Box) : List Int := (allO s.boils.length).foldl (fun best p => if Qeh s p < Qeh s best then p else best) (Qcn s.boils.length)
theorem Qj9 {s : Box} {k : Nat} {p : List Int} (h : (allO s.boils.length)[k]? = some p) : Qeu s (k + 1) = if Qeh s p < Qeh s (Qeu s k) then p else Qeu s k := by
 unfold Qeu
 rw [Qbt h, Xk]; rfl
theorem Qtk (n : Nat) : (Qcn n).length = n ∧ ∀ x ∈ Qcn n, 0 ≤ x ∧ x < n := by
 refine ⟨by simp [Qcn], fun x hx => ?_⟩
 simp only [Qcn, List.mem_map, Xe] at hx
 obtain ⟨i, hi, rfl⟩ := hx
 omega
theorem Qmp (s : Box) : ∀ k, (Qeu s k).length = s.boils.length ∧ ∀ x ∈ Qeu s k, 0 ≤ x ∧ x < s.boils.length := by
 intro k
 induction k with
 | zero => exact Qtk _
 | succ k ih =>
  cases hp : (allO s.boils.length)[k]? with
  | none =>
   have e : Qeu s (k + 1) = Qeu s k := by
    unfold Qeu
    have := List.getElem?_eq_none_iff.1 hp
    rw [Xc (by omega), Xc this]
   rw [e]; exact ih
  | some p =>
   rw [Qj9 hp]
   split
   ·exact Qoj (Zc hp)
   ·exact ih
def Qe5 (s : Box) : List Int × Int := if boxE s = 0 then (Qhn s, 0) else ([], boxE s)
theorem Qru (l : List Int) : Qch (l.map V.i) = true := by induction l <;> simp_all [Qch, Qcd]
set_option maxHeartbeats 1000000 in
theorem W55 (s : Box) : Qad Try.prog 55 [.ag (eBox s)] (.tp [.sl 1 ((Qe5 s).1.map eI), .i (Qe5 s).2]) := by
 refine Qae Qw2 hmix Try.func55 cb55 cc55 cs55 cn55 ?_
 have g1 := Qul s
 have g2 := Qum s.boils.length
 have g3 := h81 s
 unfold eBox at g1 g3
 simp only [rc55, rs55, g1, Qal, Qaa, Qab, Qah, Qc8, Qai, Qac, Qa7, Qqf, putB, Qaf, Qa6, Qa2, Fam.step, Qag, Qbi, Qat, putB, nv, sv, evO, opv, qv, binV, ldV, lenV, Qay, putAt, V.cells, Qas, Qa9, Qa5, flat, Qa3, Qar, Qa0, Qa4, ↓reduceIte, Nat.reduceEqDiff, Nat.reduceAdd, Nat.reduceLT, Nat.reduceLeDiff, Qa, Qb, Qf, Qg, Qj, Qr, Qh, Q2, Qx, Qq, Qn, Qm, Qk, Qe, Ql, Za, Zk, endQ, rvs, rv1, resV, vw_i, vw_z, Qb3, Qax, Qd9, zipA, Qi, Qo, Qc, decide_eq_false_iff_not, true_and, and_true, and_self, false_implies, implies_true, reduceCtorEq, Q7, Qy, Classical.not_not, eBox]
 refine ⟨fun h => ?_, fun h => ?_⟩
 ·simp only [Qe5, if_neg h, Qb]
 ·have hX := Qs8.1 h
  have hl7 := hX.len
  have hin : (s.boils.length : Int) ≤ 1000000 := by omega
  simp only [g2, g3, hin, Qb2, Qv, Qs, Qf, Qg, Qj, Zn, Qk, Zb, Qi, Qp, true_and, and_self, Qz]
  obtain ⟨n, hn⟩ : ∃ n, n = s.boils.length := ⟨_, rfl⟩
  refine Qsk (gf := 96) (caps := [.pa (eBox s)]) ?_ (fun bv => ∃ best : List Int, bv = [bV (.cells 0 [.sl 1 (best.map eI)])]) ((allO n).map fun p => ([.rf 2 0 0 n 1], [bV (.cells 0 (p.map V.i))])) (bv0 := [bV (.cells 0 [.sl 1 ((Qcn n).map eI)])]) ?_
   (fun k bv => bv = [bV (.cells 0 [.sl 1 ((Qeu s k).map eI)])]) ?_ ?_ ?_ ?_ ?_ ?_
  ·simp only [evO, cutV, cutL, Qa0, ↓reduceIte, Nat.reduceEqDiff, eBox]
  ·simp only [Qaj, cutH, hn, Qaj, cutH, cutV, cutL, cutB, Qa, Qb, Qh, Qx]
  ·rw [hn]; rfl
  ·rintro k bv rfl
   exact ⟨_, rfl⟩
  ·rintro bv ⟨best, rfl⟩
   refine ⟨rfl, fun hp => ?_⟩
   simp only [Qaj, Qaj, cutV, cutL, cutB, Qa, Qb]
  ·intro l
   rw [hQy]
   refine ⟨⟨s, l, bV (.cells 0 [.sl 1 ((Qcn n).map eI)]), by omega, ⟨Qcn n, rfl⟩, fun bv h => ?_, rfl, ?_⟩, fun r hp' h => h⟩
   ·obtain ⟨best, rfl⟩ := h
    exact ⟨_, rfl⟩
   ·rw [Xh, ← hn]; rfl
  ·rintro k x z bv hx rfl
   rw [Zg, Xb] at hx
   obtain ⟨p, hp, he⟩ := hx
   simp only [Prod.mk.injEq] at he
   obtain ⟨rfl, rfl⟩ := he
   refine ⟨rfl, Zt _, ?_⟩
   rw [hn] at hp
   have hpi := Qoj (Zc hp)
   have hbi := Qmp s k
   have hbs := Qj9 hp
   have g4 := Qs3 s p
   have g5 := Qs3 s (Qeu s k)
   have g6 := Quk p
   unfold eBox at g4 g5
   have o1 : OkD (s, p) := ⟨hX, by show p.length ≤ 1000; omega, hpi.2⟩
   have o2 : OkD (s, Qeu s k) := ⟨hX, by show (Qeu s k).length ≤ 1000; omega, hbi.2⟩
   have hpl : p.length = n := by omega
   have hck := Qon p
   rw [hpl] at hck
   have hpl2 : (p.map V.i).length = n := by simp [hpl]
   have hfl := Qp4 p
   have hp6 : p.length ≤ 1000000 := by omega
   rw [hpl, hfl] at g6
   have hp6' : n ≤ 1000000 := by omega
   simp only [Qaj, hpl2, Zu, Zt, hck, vw_I, g4, g5, o1, o2, g6, Qru, hp6', Qbe _ _ (Qgp _), Qal, Qaa, Qbo, Qab, Qah, Qc8, Qai, Qa7, ↓Qbf, rnQ, updL, Qdc, ocV, nidQ, plO, plQ, plB, Qb9, Qcd, Qc0, shV, shB, Qaj, putB, Qaf, Qaq, Qa6, Qa2, Fam.step, Qag, Qbi, Qat, runX, eff, Qb8, fpR, fpQ, fpV, Qc5, hits, putB, nv, sv, evO, opv, qv, binV, ldV, Qay, putAt, V.cells, Qas, Qb2, Qa9, Qa5, flat, cutV, cutL, Qa3, Qar, Qa0, Qa4, ↓reduceIte, Nat.reduceEqDiff, Nat.reduceAdd, Nat.reduceLT, Qa, Qb, Qv, Qs, Qf, Qg, Qj, Qr, Zn, Qh, Q2, Qx, Qq, Qn, Qm, Qk, Qe, Ql, Qu, Q1, Za, Zk, Qw, Q3, vw_i, Qb3, Qax, Qdd, Qi, Zm, Qp, Qt, Q6, Xs, Qo, Bool.or_true, Q9, Q5, Qc, decide_eq_true_eq, true_and, and_self, forall_const, implies_true, Ze, Zd, Q0, Qd]
   refine ⟨fun hlt => ?_, fun hge => ?_⟩
   ·refine ⟨[bV (.cells 0 [.sl 1 (p.map eI)])], ?_, rfl, ⟨_, rfl⟩, by rw [hbs, if_pos hlt]⟩
    simp only [Qaj, cutH, hpF, upB, Qec _ _ (Qgp _), Qaw _ _ _ (Qgp _), hpl2, Zu, Zt, hck, vw_I, Qaj, cutH, cutV, cutL, cutB, ↓reduceIte, Nat.reduceAdd, Nat.reduceLT, Qa, Qb, Qj, Qr, Qh, Q2, Qn, Qm, Qe, Ql, Qdd, Qi, and_self]
   ·refine ⟨[bV (.cells 0 [.sl 1 ((Qeu s k).map eI)])], ?_, rfl, ⟨_, rfl⟩, by rw [hbs, if_neg hge]⟩
    simp only [Qaj, cutH, Qaw _ _ _ (Qgp _), Qaj, cutH, cutV, cutL, cutB, Nat.reduceAdd, Qa, Qb, Qh, Qx, Qn, Qm]
  ·rintro bv rfl
   have e : Qeu s ((allO n).map fun p => (([.rf 2 0 0 n 1], [bV (.cells 0 (p.map V.i))]) : List V × List V)).length = Qhn s := by
    unfold Qeu Qhn
    rw [Qy, hn, Zs]
   rw [e]
   simp only [Qaj, Qe5, h, Qaa, Qab, Qac, Qa7, ↓Qbf, Qaj, Qaf, Qaq, Qa6, Qa2, Fam.step, Qag, evO, opv, qv, ldV, cutV, cutL, Qa3, Qa0, Qa4, ↓reduceIte, Nat.reduceEqDiff, Nat.reduceLT, Nat.reduceLeDiff, Qa, Qb, Qf, Qg, Qr, Qq, Qe, Ql, endQ, rvs, rv1, resV, vw_i, Qb3, Qd9, Qi, Qc, and_self]
noncomputable def H25 : Gam := H24.ext 55 (fnG eX1 dX1 (fun _ => True) Qe5 fun r => .tp [.sl 1 (r.1.map eI), .i r.2])
theorem Qw3 : GOk Try.prog H25 := Qw2.ext (f := 55) (fun a w => Try.call55 a w) (Qb6 (e := eX1) (d := dX1) (ok := fun _ => True) (g := Qe5) (eb := fun r => .tp [.sl 1 (r.1.map eI), .i r.2]) fun s _ => W55 s)
theorem h55 (s : Box) : H25 55 [.ag (eBox s)] = (True, .tp [.sl 1 ((Qe5 s).1.map eI), .i (Qe5 s).2]) :=
 (show H25 55 _ = fnG eX1 dX1 (fun _ => True) Qe5 (fun r => .tp [.sl 1 (r.1.map eI), .i r.2]) (eX1 s) from rfl).trans (Qba _ (Qr2 _))
theorem Qun (s : Box) (l : List Int)  : H25 79 [.ag (eBox s), .sl 1 (l.map eI)] = (OkD (s, l), .i (Qeh s l)) := h79 s l
def Qet (s : Box) : Int × Int := if boxE s = 0 then (Qeh s (Qhn s), 0) else (0, boxE s)
theorem Qqy (s : Box) : (Qhn s).length = s.boils.length ∧ ∀ x ∈ Qhn s, 0 ≤ x ∧ x < s.boils.length := by
 have e : Qeu s (allO s.boils.length).length = Qhn s := by unfold Qeu Qhn; rw [Zs]
 rw [← e]; exact Qmp s _
theorem W51 (s : Box) : Qad Try.prog 51 [.ag (eBox s)] (.tp [.i (Qet s).1, .i (Qet s).2]) := by
 refine Qae Qw3 hmix Try.func51 cb51 cc51 cs51 cn51 ?_
 have g1 := h55 s
 have g2 := Qun s (Qhn s)
 unfold eBox at g1 g2
 by_cases h : boxE s = 0
 ·have hX := Qs8.1 h
  have hb := Qqy s
  have hl := hX.len
  have e1 : Qe5 s = (Qhn s, 0) := by unfold Qe5; rw [if_pos h]
  have o1 : OkD (s, Qhn s) := ⟨hX, by show (Qhn s).length ≤ 1000; omega, hb.2⟩
  simp only [rc51, rs51, g1, e1, g2, o1, Qet, h, Qal, Qaa, Qab, Qah, Qac, Qa7, Qaf, Qa6, Qa2, Fam.step, Qag, evO, opv, qv, binV, ldV, Qay, V.cells, Qas, Qa9, Qa5, flat, Qcc, Qa3, Qa0, Qa4, ↓reduceIte, Nat.reduceEqDiff, Nat.reduceAdd, Nat.reduceLT, Nat.reduceLeDiff, Qa, Qb, Qf, Qg, Qh, Qx, Qk, Qe, Ql, Qu, Q8, endQ, rvs, rv1, resV, vw_i, Qb3, Qax, Qd9, zipA, Qi, Qp, Qt, Qo, Q9, Qc, decide_true, and_self, implies_true, imp_self, eBox]
 ·have e1 : Qe5 s = ([], boxE s) := by unfold Qe5; rw [if_neg h]
  simp only [rc51, rs51, g1, e1, h, Qet, Qaa, Qab, Qah, Qac, Qa7, Qaf, Qa6, Qa2, Fam.step, Qag, evO, opv, qv, binV, ldV, Qay, V.cells, Qas, Qa9, Qa5, flat, Qcc, Qa3, Qa0, Qa4, ↓reduceIte, Nat.reduceEqDiff, Nat.reduceAdd, Nat.reduceLT, Nat.reduceLeDiff, Qa, Qb, Qf, Qg, Qh, Qx, Qk, Qe, Ql, Qu, Q8, endQ, rvs, rv1, resV, vw_i, Qb3, Qax, Qd9, zipA, Qi, Qp, Qt, Qo, Q5, Qc, decide_false, and_self, imp_self, eBox]
end Go.C06
set_option maxRecDepth 8000
namespace Go.C06
open Go.Fam Go.Proofs
def rc56 : RC := (.seq (.reg false [(cQ 6 [] (.mv (kB false)))]) (.keep [0,1,2] (.seq (.reg true [(cMv 7 0), (cMv 8 1), (cB 9 .geq 7 8), (cMv 10 9), (gMv 11 10 true 0), (gMv 12 10 true 2), (gQ 13 10 true [11,12] (.bin .leq (.t 11) (.t 12))), (cQ 14 [10,13] (.pick (.t 10) (.t 13) (kB false))), (cMv 6 14)]) .ret)))
def pu56 : List Nat := []
def rs56 : List RV := [.t 6]
theorem cc56 : CCx Try.prog Try.f56 pu56 rc56 := by unfold CCx; kernel_rfl
theorem cb56 : CBx Try.f56 := by unfold CBx; kernel_rfl
theorem cs56 : CSx Try.prog Try.f56 rs56 := by unfold CSx; kernel_rfl
theorem cn56 : 3 ≤ Try.f56.ntmps := by decide
def rc38 : RC := (.seq (.reg false [(cI 4 0)]) (.keep [0,1] (.seq (.reg false [(cMv 5 0), (cMv 6 1), (cB 7 .mul 5 6), (cC 8 .quo 7 1000), (cMv 4 8)]) .ret)))
def pu38 : List Nat := []
def rs38 : List RV := [.t 4]
theorem cc38 : CCx Try.prog Try.f38 pu38 rc38 := by unfold CCx; kernel_rfl
theorem cb38 : CBx Try.f38 := by unfold CBx; kernel_rfl
theorem cs38 : CSx Try.prog Try.f38 rs38 := by unfold CSx; kernel_rfl
theorem cn38 : 2 ≤ Try.f38.ntmps := by decide
def rc37 : RC := (.seq (.reg false [(cX 3 0), (cQ 6 [] (.mv (kB false)))]) (.keep [1,2,3] (.seq (.reg true [(cMv 7 1), (cC 8 .geq 7 1), (cMv 9 8), (gMv 10 9 true 1), (gQ 11 9 true [3] (.fad 4 (.t 3))), (gQ 12 9 true [11] (.ld false 1 (.t 11))), (gQ 13 9 true [3] (.fad 5 (.t 3))), (gQ 14 9 true [13] (.ld false 1 (.t 13))), (gMv 15 9 true 2), (gQ 16 9 true [14,15] (.bin .mul (.t 14) (.t 15))), (gQ 17 9 true [12,16] (.bin .sub (.t 12) (.t 16))), (gQ 18 9 true [10,17] (.bin .leq (.t 10) (.t 17))), (cQ 19 [9,18] (.pick (.t 9) (.t 18) (kB false))), (cMv 6 19)]) .ret)))
def pu37 : List Nat := [3]
def rs37 : List RV := [.t 6]
theorem cc37 : CCx Try.prog Try.f37 pu37 rc37 := by unfold CCx; kernel_rfl
theorem cb37 : CBx Try.f37 := by unfold CBx; kernel_rfl
theorem cs37 : CSx Try.prog Try.f37 rs37 := by unfold CSx; kernel_rfl
theorem cn37 : 3 ≤ Try.f37.ntmps := by decide
def rc16 : RC := (.seq (.reg false [(cX 1 0), (cI 2 0)]) (.keep [1] (.seq (.reg false [(cFa 6 1 0), (cLd 7 6 true 2), ⟨(some 3), none, [], none, .w (.alc [(.i 0), (.i 0)])⟩, ⟨none, none, [3,7], none, .w (.st 2 (.t 3) (.t 7))⟩]) (.keep [1,3] (.seq (.seq (.reg true [(cFa 8 3 0), (cLd 9 8 false 1), (cC 10 .lss 9 0), (cMv 11 10), (gQ 12 11 false [3] (.fad 0 (.t 3))), (gQ 13 11 false [12] (.ld false 1 (.t 12))), (gQ 14 11 false [3] (.fad 1 (.t 3))), (gQ 15 11 false [14] (.ld false 1 (.t 14))), (gQ 16 11 false [13,15] (.bin .gtr (.t 13) (.t 15))), (cQ 17 [11,16] (.pick (.t 11) (kB true) (.t 16))), (cMv 18 17), (gQ 19 18 false [3] (.fad 1 (.t 3))), (gQ 20 18 false [19] (.ld false 1 (.t 19))), (gQ 21 18 false [20] (.bin .gtr (.t 20) (kI 500))), (cQ 22 [18,21] (.pick (.t 18) (kB true) (.t 21))), (cMv 23 22), (gQ 24 23 false [3] (.fad 1 (.t 3))), (gQ 25 23 false [24] (.ld false 1 (.t 24))), (gQ 26 23 false [3] (.fad 0 (.t 3))), (gQ 27 23 false [26] (.ld false 1 (.t 26))), (gQ 28 23 false [25,27] (.bin .sub (.t 25) (.t 27))), (gQ 29 23 false [28] (.bin .gtr (.t 28) (kI 40))), (cQ 30 [23,29] (.pick (.t 23) (kB true) (.t 29))), (cMv 31 30), (gQ 32 31 false [1] (.fad 2 (.t 1))), (gQ 33 31 false [32] (.ld false 1 (.t 32))), (gQ 34 31 false [33] (.len (.t 33))), (gQ 35 31 false [34] (.bin .gtr (.t 34) (kI 8))), (cQ 36 [31,35] (.pick (.t 31) (kB true) (.t 35))), (cMv 37 36), (gQ 38 37 false [1] (.fad 3 (.t 1))), (gQ 39 37 false [38] (.ld false 1 (.t 38))), (gQ 40 37 false [39] (.call (kF 56) [(.t 39), (kI 0), (kI 2)])), (gQ 41 37 false [40] (.not (.t 40))), (cQ 42 [37,41] (.pick (.t 37) (kB true) (.t 41))), (cMv 43 42), (gQ 44 43 false [1] (.fad 4 (.t 1))), (gQ 45 43 false [44] (.ld false 1 (.t 44))), (gQ 46 43 false [45] (.call (kF 56) [(.t 45), (kI 1), (kI 90)])), (gQ 47 43 false [46] (.not (.t 46))), (cQ 48 [43,47] (.pick (.t 43) (kB true) (.t 47))), (cMv 49 48), (gQ 50 49 false [1] (.fad 5 (.t 1))), (gQ 51 49 false [50] (.ld false 1 (.t 50))), (gQ 52 49 false [51] (.call (kF 56) [(.t 51), (kI 0), (kI 90)])), (gQ 53 49 false [52] (.not (.t 52))), (cQ 54 [49,53] (.pick (.t 49) (kB true) (.t 53)))]) (.keep [1,54] (.cond (.t 54) (.seq (.reg false [(cI 2 60)]) .ret) .skip))) (.keep [1] (.seq (.seq (.reg false [(cI 4 0)]) (.keep [1,4] (.block 0 (.loop [1,4] (some 1) (.seq (.seq (.reg false [(cMv 55 4), (cFa 56 1 2), (cLd 57 56 false 1), (cLn 58 57), (cB 59 .lss 55 58)]) (.keep [1,4,59] (.cond (.t 59) .skip (.exit 0)))) (.keep [1,4] (.seq (.block 1 (.seq (.reg false [(cFa 62 1 2), (cLd 63 62 false 1), (cMv 64 4), (cA 65 3 63 64), (cLd 66 65 true 3), ⟨(some 5), none, [], none, .w (.alc [(.i 0), (.i 0), (.i 0)])⟩, ⟨none, none, [5,66], none, .w (.st 3 (.t 5) (.t 66))⟩]) (.keep [1,4,5] (.seq (.reg true [(cFa 67 5 0), (cLd 68 67 false 1), (cQ 69 [68] (.call (kF 56) [(.t 68), (kI 1), (kI 90)])), (cN 70 69), (cMv 71 70), (gQ 72 71 false [5] (.fad 1 (.t 5))), (gQ 73 71 false [72] (.fad 0 (.t 72))), (gQ 74 71 false [73] (.ld false 1 (.t 73))), (gQ 75 71 false [74] (.bin .lss (.t 74) (kI 0))), (cQ 76 [71,75] (.pick (.t 71) (kB true) (.t 75))), (cMv 77 76), (gQ 78 77 false [5] (.fad 1 (.t 5))), (gQ 79 77 false [78] (.fad 0 (.t 78))), (gQ 80 77 false [79] (.ld false 1 (.t 79))), (gQ 81 77 false [5] (.fad 1 (.t 5))), (gQ 82 77 false [81] (.fad 1 (.t 81))), (gQ 83 77 false [82] (.ld false 1 (.t 82))), (gQ 84 77 false [80,83] (.bin .gtr (.t 80) (.t 83))), (cQ 85 [77,84] (.pick (.t 77) (kB true) (.t 84))), (cMv 86 85), (gQ 87 86 false [5] (.fad 1 (.t 5))), (gQ 88 86 false [87] (.fad 1 (.t 87))), (gQ 89 86 false [88] (.ld false 1 (.t 88))), (gQ 90 86 false [89] (.bin .gtr (.t 89) (kI 90))), (cQ 91 [86,90] (.pick (.t 86) (kB true) (.t 90)))]) (.keep [1,4,91] (.cond (.t 91) (.seq (.reg false [(cI 2 60)]) .ret) .skip)))))) (.drp 1 (.keep [1,4] (.reg false [(cMv 60 4), (cC 61 .add 60 1), (cMv 4 61)])))))))))) (.keep [] (.seq (.reg false [(cI 2 0)]) .ret)))))))))
def pu16 : List Nat := [1]
def rs16 : List RV := [.t 2]
theorem cc16 : CCx Try.prog Try.f16 pu16 rc16 := by unfold CCx; kernel_rfl
theorem cb16 : CBx Try.f16 := by unfold CBx; kernel_rfl
theorem cs16 : CSx Try.prog Try.f16 rs16 := by unfold CSx; kernel_rfl
theorem cn16 : 1 ≤ Try.f16.ntmps := by decide
def rc89 : RC := (.seq (.reg false [(cX 1 0), (cQ 2 [] (.mv (kB false)))]) (.keep [1] (.seq (.reg true [(cFa 3 1 0), (cLd 4 3 false 1), (cQ 5 [4] (.bin .leq (kI 0) (.t 4))), (cMv 6 5), (gQ 7 6 true [1] (.fad 0 (.t 1))), (gQ 8 6 true [7] (.ld false 1 (.t 7))), (gQ 9 6 true [1] (.fad 1 (.t 1))), (gQ 10 6 true [9] (.ld false 1 (.t 9))), (gQ 11 6 true [8,10] (.bin .leq (.t 8) (.t 10))), (cQ 12 [6,11] (.pick (.t 6) (.t 11) (kB false))), (cMv 13 12), (gQ 14 13 true [1] (.fad 1 (.t 1))), (gQ 15 13 true [14] (.ld false 1 (.t 14))), (gQ 16 13 true [15] (.bin .leq (.t 15) (kI 540))), (cQ 17 [13,16] (.pick (.t 13) (.t 16) (kB false))), (cMv 2 17)]) .ret)))
def pu89 : List Nat := [1]
def rs89 : List RV := [.t 2]
theorem cc89 : CCx Try.prog Try.f89 pu89 rc89 := by unfold CCx; kernel_rfl
theorem cb89 : CBx Try.f89 := by unfold CBx; kernel_rfl
theorem cs89 : CSx Try.prog Try.f89 rs89 := by unfold CSx; kernel_rfl
theorem cn89 : 1 ≤ Try.f89.ntmps := by decide
def rc15 : RC := (.seq (.reg false [(cX 1 0), (cQ 2 [] (.mv (kB false)))]) (.keep [1] (.seq (.reg false [(cFa 3 1 2), (cLd 4 3 false 1), (cLn 5 4), (cC 6 .gtr 5 60), (cMv 2 6)]) .ret)))
def pu15 : List Nat := [1]
def rs15 : List RV := [.t 2]
theorem cc15 : CCx Try.prog Try.f15 pu15 rc15 := by unfold CCx; kernel_rfl
theorem cb15 : CBx Try.f15 := by unfold CBx; kernel_rfl
theorem cs15 : CSx Try.prog Try.f15 rs15 := by unfold CSx; kernel_rfl
theorem cn15 : 1 ≤ Try.f15.ntmps := by decide
def rc66 : RC := (.seq (.reg false [(cX 2 0), (cI 4 0)]) (.keep [1,2] (.seq (.reg false [(cI 5 0)]) (.keep [1,2,5] (.seq (.seq (.reg false [(cI 6 0)]) (.keep [1,2,5,6] (.block 0 (.loop [1,2,5,6] none (.seq (.seq (.reg false [(cMv 7 6), (cFa 8 2 2), (cLd 9 8 false 1), (cLn 10 9), (cB 11 .lss 7 10)]) (.keep [1,2,5,6,11] (.cond (.t 11) .skip (.exit 0)))) (.keep [1,2,5,6] (.seq (.block 1 (.seq (.any false 0 [⟨(cFa 14 2 2), [], []⟩, ⟨(cLd 15 14 false 1), [], [0]⟩, ⟨(cMv 16 6), [], []⟩, ⟨(cA 17 3 15 16), [], [1,0,2]⟩, ⟨(cFa 18 17 0), [], [3,1,0,2]⟩, ⟨(cLd 19 18 false 1), [], [4,3,1,0,2]⟩, ⟨(cMv 20 1), [], []⟩, ⟨(cQ 21 [19,20] (.call (kF 38) [(.t 19), (.t 20)])), [], [5,4,3,1,0,2,6]⟩, ⟨(cFa 22 2 2), [], []⟩, ⟨(cLd 23 22 false 1), [], [8]⟩, ⟨(cMv 24 6), [], []⟩, ⟨(cA 25 3 23 24), [], [9,8,10]⟩, ⟨(cFa 26 25 1), [], [11,9,8,10]⟩, ⟨(cFa 27 26 0), [], [12,11,9,8,10]⟩, ⟨(cLd 28 27 false 1), [], [13,12,11,9,8,10]⟩, ⟨(cFa 29 2 2), [], []⟩, ⟨(cLd 30 29 false 1), [], [15]⟩, ⟨(cMv 31 6), [], []⟩, ⟨(cA 32 3 30 31), [], [16,15,17]⟩, ⟨(cFa 33 32 1), [], [18,16,15,17]⟩, ⟨(cFa 34 33 1), [], [19,18,16,15,17]⟩, ⟨(cLd 35 34 false 1), [], [20,19,18,16,15,17]⟩, ⟨(cQ 36 [21,28,35] (.call (kF 56) [(.t 21), (.t 28), (.t 35)])), [], [7,5,4,3,1,0,2,6,14,13,12,11,9,8,10,21,20,19,18,16,15,17]⟩, ⟨(cN 37 36), [], [22,7,5,4,3,1,0,2,6,14,13,12,11,9,8,10,21,20,19,18,16,15,17]⟩]) (.keep [1,2,5,6,37] (.cond (.t 37) (.reg false [(cMv 38 5), (cC 39 .add 38 1), (cMv 5 39)]) .skip)))) (.keep [1,2,5,6] (.reg false [(cMv 12 6), (cC 13 .add 12 1), (cMv 6 13)]))))))))) (.keep [5] (.seq (.reg false [(cMv 40 5), (cMv 4 40)]) .ret)))))))
def pu66 : List Nat := [2]
def rs66 : List RV := [.t 4]
theorem cc66 : CCx Try.prog Try.f66 pu66 rc66 := by unfold CCx; kernel_rfl
theorem cb66 : CBx Try.f66 := by unfold CBx; kernel_rfl
theorem cs66 : CSx Try.prog Try.f66 rs66 := by unfold CSx; kernel_rfl
theorem cn66 : 2 ≤ Try.f66.ntmps := by decide
def rc34 : RC := (.seq (.reg false [(cX 2 0), (cQ 4 [] (.mv (kB false)))]) (.keep [1,2] (.seq (.any true 0 [⟨(cMv 5 1), [], []⟩, ⟨(cFa 6 2 0), [], []⟩, ⟨(cFa 7 6 0), [], [1]⟩, ⟨(cLd 8 7 false 1), [], [2,1]⟩, ⟨(cFa 9 2 0), [], []⟩, ⟨(cFa 10 9 1), [], [4]⟩, ⟨(cLd 11 10 false 1), [], [5,4]⟩, ⟨(cQ 12 [5,8,11] (.call (kF 56) [(.t 5), (.t 8), (.t 11)])), [], [0,3,2,1,6,5,4]⟩, ⟨(cMv 13 12), [], [7,0,3,2,1,6,5,4]⟩, ⟨(gQ 14 13 true [2] (.ld true 6 (.t 2))), [], [8,7,0,3,2,1,6,5,4]⟩, ⟨(gMv 15 13 true 1), [], [8,7,0,3,2,1,6,5,4]⟩, ⟨(gQ 16 13 true [14,15] (.call (kF 66) [(.t 14), (.t 15)])), [], [9,8,7,0,3,2,1,6,5,4,10]⟩, ⟨(gQ 17 13 true [2] (.fad 3 (.t 2))), [], [8,7,0,3,2,1,6,5,4]⟩, ⟨(gQ 18 13 true [17] (.ld false 1 (.t 17))), [], [12,8,7,0,3,2,1,6,5,4]⟩, ⟨(gQ 19 13 true [16,18] (.bin .leq (.t 16) (.t 18))), [], [11,9,8,7,0,3,2,1,6,5,4,10,13,12]⟩, ⟨(cQ 20 [13,19] (.pick (.t 13) (.t 19) (kB false))), [], [8,7,0,3,2,1,6,5,4,14,11,9,10,13,12]⟩, ⟨(cMv 4 20), [], [15,8,7,0,3,2,1,6,5,4,14,11,9,10,13,12]⟩]) .ret)))
def pu34 : List Nat := [2]
def rs34 : List RV := [.t 4]
theorem cc34 : CCx Try.prog Try.f34 pu34 rc34 := by unfold CCx; kernel_rfl
theorem cb34 : CBx Try.f34 := by unfold CBx; kernel_rfl
theorem cs34 : CSx Try.prog Try.f34 rs34 := by unfold CSx; kernel_rfl
theorem cn34 : 2 ≤ Try.f34.ntmps := by decide
def rc21 : RC := (.seq (.reg false [(cI 4 0)]) (.keep [0,1] (.seq (.reg false [(cI 5 0)]) (.keep [0,1,5] (.seq (.seq (.reg false [(cI 6 0)]) (.keep [0,1,5,6] (.block 0 (.loop [0,1,5,6] none (.seq (.seq (.reg false [(cMv 7 6), (cMv 8 0), (cLn 9 8), (cB 10 .lss 7 9)]) (.keep [0,1,5,6,10] (.cond (.t 10) .skip (.exit 0)))) (.keep [0,1,5,6] (.seq (.block 1 (.any false 0 [⟨(cMv 13 5), [], []⟩, ⟨(cMv 14 0), [], []⟩, ⟨(cMv 15 6), [], []⟩, ⟨(cA 16 1 14 15), [], [1,2]⟩, ⟨(cLd 17 16 false 1), [], [3,1,2]⟩, ⟨(cMv 18 0), [], []⟩, ⟨(cMv 19 6), [], []⟩, ⟨(cA 20 1 18 19), [], [5,6]⟩, ⟨(cLd 21 20 false 1), [], [7,5,6]⟩, ⟨(cMv 22 1), [], []⟩, ⟨(cQ 23 [21,22] (.call (kF 38) [(.t 21), (.t 22)])), [], [8,7,5,6,9]⟩, ⟨(cB 24 .sub 17 23), [], [4,3,1,2,10,8,7,5,6,9]⟩, ⟨(cB 25 .add 13 24), [], [0,11,4,3,1,2,10,8,7,5,6,9]⟩, ⟨(cMv 5 25), [], [12,0,11,4,3,1,2,10,8,7,5,6,9]⟩])) (.keep [0,1,5,6] (.reg false [(cMv 11 6), (cC 12 .add 11 1), (cMv 6 12)]))))))))) (.keep [5] (.seq (.reg false [(cMv 26 5), (cMv 4 26)]) .ret)))))))
def pu21 : List Nat := []
def rs21 : List RV := [.t 4]
theorem cc21 : CCx Try.prog Try.f21 pu21 rc21 := by unfold CCx; kernel_rfl
theorem cb21 : CBx Try.f21 := by unfold CBx; kernel_rfl
theorem cs21 : CSx Try.prog Try.f21 rs21 := by unfold CSx; kernel_rfl
theorem cn21 : 2 ≤ Try.f21.ntmps := by decide
def rc17 : RC := (.seq (.reg false [(cX 2 0), (cQ 4 [] (.mv (kB false)))]) (.keep [1,2] (.seq (.seq (.reg false [(cI 5 0)]) (.keep [1,2,5] (.block 0 (.loop [1,2,5] none (.seq (.seq (.reg false [(cMv 6 5), (cMv 7 1), (cLn 8 7), (cB 9 .lss 6 8)]) (.keep [1,2,5,9] (.cond (.t 9) .skip (.exit 0)))) (.keep [1,2,5] (.seq (.block 1 (.seq (.any true 0 [⟨(cMv 12 5), [], []⟩, ⟨(cC 13 .geq 12 6), [], [0]⟩, ⟨(cMv 14 13), [], [1,0]⟩, ⟨(gQ 15 14 false [2] (.ld true 6 (.t 2))), [], [2,1,0]⟩, ⟨(gMv 16 14 false 1), [], [2,1,0]⟩, ⟨(gMv 17 14 false 5), [], [2,1,0]⟩, ⟨(gQ 18 14 false [16,17] (.iad 1 (.t 16) (.t 17))), [], [4,2,1,0,5]⟩, ⟨(gQ 19 14 false [18] (.ld false 1 (.t 18))), [], [6,4,2,1,0,5]⟩, ⟨(gMv 20 14 false 5), [], [2,1,0]⟩, ⟨(gQ 21 14 false [15,19,20] (.call (kF 37) [(.t 15), (.t 19), (.t 20)])), [], [3,2,1,0,7,6,4,5,8]⟩, ⟨(gQ 22 14 false [21] (.not (.t 21))), [], [9,3,2,1,0,7,6,4,5,8]⟩, ⟨(cQ 23 [14,22] (.pick (.t 14) (kB true) (.t 22))), [], [2,1,0,10,9,3,7,6,4,5,8]⟩]) (.keep [1,2,5,23] (.cond (.t 23) (.seq (.reg false [(cQ 4 [] (.mv (kB false)))]) .ret) .skip)))) (.keep [1,2,5] (.reg false [(cMv 10 5), (cC 11 .add 10 1), (cMv 5 11)]))))))))) (.keep [] (.seq (.reg false [(cQ 4 [] (.mv (kB true)))]) .ret)))))
def pu17 : List Nat := [2]
def rs17 : List RV := [.t 4]
theorem cc17 : CCx Try.prog Try.f17 pu17 rc17 := by unfold CCx; kernel_rfl
theorem cb17 : CBx Try.f17 := by unfold CBx; kernel_rfl
theorem cs17 : CSx Try.prog Try.f17 rs17 := by unfold CSx; kernel_rfl
theorem cn17 : 2 ≤ Try.f17.ntmps := by decide
def rc57 : RC := (.seq (.reg false [⟨(some 0), none, [], none, .w (.alc [(.i 0), (.i 0), (.z 3), (.i 0), (.i 0), (.i 0)])⟩]) (.keep [0] (.seq (.reg false [(cQ 1 [] (.bld [(.i 0), (.i 0)] [(0,1, (kI 180)), (1,1, (kI 220))])), (cQ 2 [] (.bld [(.i 0), (.i 0)] [(0,1, (kI 10)), (1,1, (kI 10))])), (cQ 3 [2] (.bld [(.i 0), (.i 0), (.i 0)] [(0,1, (kI 50)), (1,2, (.t 2))])), (cQ 4 [3] (.bsl 3 1 [(.i 0), (.i 0), (.i 0)] [(0,3, (.t 3))])), (cQ 5 [1,4] (.bld [(.i 0), (.i 0), (.z 3), (.i 0), (.i 0), (.i 0)] [(0,2, (.t 1)), (2,1, (.t 4)), (4,1, (kI 40)), (5,1, (kI 10))])), ⟨none, none, [0,5], none, .w (.st 6 (.t 0) (.t 5))⟩]) .ret)))
def pu57 : List Nat := [4]
def rs57 : List RV := [.c 0 true 6]
theorem cc57 : CCx Try.prog Try.f57 pu57 rc57 := by unfold CCx; kernel_rfl
theorem cb57 : CBx Try.f57 := by unfold CBx; kernel_rfl
theorem cs57 : CSx Try.prog Try.f57 rs57 := by unfold CSx; kernel_rfl
theorem cn57 : 0 ≤ Try.f57.ntmps := by decide
def rc58 : RC := (.seq (.reg false [⟨(some 0), none, [], none, .w (.alc [(.i 0), (.z 2)])⟩]) (.keep [0] (.seq (.reg false [(cQ 1 [] (.bld [(.i 0), (.i 0)] [(0,1, (kI 10)), (1,1, (kI 5))])), (cQ 2 [] (.bld [(.i 0), (.i 0)] [(0,1, (kI 20)), (1,1, (kI 3))])), (cQ 3 [] (.bld [(.i 0), (.i 0)] [(0,1, (kI 5)), (1,1, (kI 4))])), (cQ 4 [1,2,3] (.bsl 2 3 [(.i 0), (.i 0)] [(0,2, (.t 1)), (2,2, (.t 2)), (4,2, (.t 3))])), (cQ 5 [4] (.bld [(.i 0), (.z 2)] [(0,1, (kI 2)), (1,1, (.t 4))])), ⟨none, none, [0,5], none, .w (.st 2 (.t 0) (.t 5))⟩]) .ret)))
def pu58 : List Nat := [4]
def rs58 : List RV := [.c 0 true 2]
theorem cc58 : CCx Try.prog Try.f58 pu58 rc58 := by unfold CCx; kernel_rfl
theorem cb58 : CBx Try.f58 := by unfold CBx; kernel_rfl
theorem cs58 : CSx Try.prog Try.f58 rs58 := by unfold CSx; kernel_rfl
theorem cn58 : 0 ≤ Try.f58.ntmps := by decide
def rc18 : RC := (.seq (.reg false [(cQ 0 [] (.mv (kB false)))]) (.keep [] (.seq (.reg false [(cQ 12 [] (.call (kF 57) [])), ⟨(some 1), none, [], none, .w (.alc [(.i 0), (.i 0), (.z 3), (.i 0), (.i 0), (.i 0)])⟩, ⟨none, none, [1,12], none, .w (.st 6 (.t 1) (.t 12))⟩]) (.keep [1] (.seq (.reg false [(cLd 14 1 true 6), (cQ 15 [14] (.call (kF 19) [(.t 14)])), (cMv 13 15), (cEx 16 13 0), (cEx 17 13 1), (cMv 2 16), (cMv 3 17)]) (.keep [1,2,3] (.seq (.reg false [(cLd 19 1 true 6), (cQ 20 [] (.bsl 1 1 [(.i 0)] [(0,1, (kI 39))])), (cQ 21 [19,20] (.call (kF 20) [(.t 19), (.t 20)])), (cMv 18 21), (cEx 22 18 0), (cEx 23 18 1), ⟨(some 4), none, [], none, .w (.alc [(.i 0), (.i 0)])⟩, ⟨none, none, [4,22], none, .w (.st 2 (.t 4) (.t 22))⟩, (cMv 5 23)]) (.keep [1,2,3,4,5] (.seq (.reg false [(cLd 25 1 true 6), (cQ 26 [] (.bld [(.i 0), (.i 0)] [(0,1, (kI 31)), (1,1, (kI 31))])), (cQ 27 [25,26] (.call (kF 25) [(.t 25), (.t 26)])), (cMv 24 27), (cEx 28 24 0), (cEx 29 24 1), (cMv 6 28), (cMv 7 29)]) (.keep [1,2,3,4,5,6,7] (.seq (.reg false [(cLd 31 1 true 6), (cQ 32 [] (.bld [(.i 0), (.i 0)] [(0,1, (kI 31)), (1,1, (kI 31))])), (cQ 33 [31,32] (.call (kF 26) [(.t 31), (.t 32)])), (cMv 30 33), (cEx 34 30 0), (cEx 35 30 1), (cMv 8 34), (cMv 9 35)]) (.keep [2,3,4,5,6,7,8,9] (.seq (.reg false [(cQ 37 [] (.call (kF 58) [])), (cQ 38 [37] (.call (kF 51) [(.t 37)])), (cMv 36 38), (cEx 39 36 0), (cEx 40 36 1), (cMv 10 39), (cMv 11 40)]) (.keep [2,3,4,5,6,7,8,9,10,11] (.seq (.reg true [(cMv 41 3), (cC 42 .eql 41 0), (cMv 43 42), (gMv 44 43 true 5), (gQ 45 43 true [44] (.bin .eql (.t 44) (kI 0))), (cQ 46 [43,45] (.pick (.t 43) (.t 45) (kB false))), (cMv 47 46), (gMv 48 47 true 7), (gQ 49 47 true [48] (.bin .eql (.t 48) (kI 0))), (cQ 50 [47,49] (.pick (.t 47) (.t 49) (kB false))), (cMv 51 50), (gMv 52 51 true 9), (gQ 53 51 true [52] (.bin .eql (.t 52) (kI 0))), (cQ 54 [51,53] (.pick (.t 51) (.t 53) (kB false))), (cMv 55 54), (gMv 56 55 true 11), (gQ 57 55 true [56] (.bin .eql (.t 56) (kI 0))), (cQ 58 [55,57] (.pick (.t 55) (.t 57) (kB false))), (cMv 59 58), (gMv 60 59 true 2), (gQ 61 59 true [60] (.len (.t 60))), (gQ 62 59 true [61] (.bin .eql (.t 61) (kI 20))), (cQ 63 [59,62] (.pick (.t 59) (.t 62) (kB false))), (cMv 64 63), (gMv 65 64 true 2), (gQ 66 64 true [65] (.iad 1 (.t 65) (kI 0))), (gQ 67 64 true [66] (.ld false 1 (.t 66))), (gQ 68 64 true [67] (.bin .eql (.t 67) (kI 200))), (cQ 69 [64,68] (.pick (.t 64) (.t 68) (kB false))), (cMv 70 69), (gQ 71 70 true [4] (.ld true 2 (.t 4))), (gQ 72 70 true [] (.bld [(.i 0), (.i 0)] [(0,1, (kI 31)), (1,1, (kI 32))])), (gQ 73 70 true [71,72] (.eqs false 23 (.t 71) (.t 72))), (cQ 74 [70,73] (.pick (.t 70) (.t 73) (kB false))), (cMv 75 74), (gMv 76 75 true 6), (gQ 77 75 true [76] (.bin .eql (.t 76) (kI 2))), (cQ 78 [75,77] (.pick (.t 75) (.t 77) (kB false))), (cMv 79 78), (gMv 80 79 true 8), (gQ 81 79 true [80] (.bin .eql (.t 80) (kI 2))), (cQ 82 [79,81] (.pick (.t 79) (.t 81) (kB false))), (cMv 83 82), (gMv 84 83 true 10), (gQ 85 83 true [84] (.bin .eql (.t 84) (kI 27))), (cQ 86 [83,85] (.pick (.t 83) (.t 85) (kB false))), (cMv 0 86)]) .ret)))))))))))))))
def pu18 : List Nat := [20]
def rs18 : List RV := [.t 0]
theorem cc18 : CCx Try.prog Try.f18 pu18 rc18 := by unfold CCx; kernel_rfl
theorem cb18 : CBx Try.f18 := by unfold CBx; kernel_rfl
theorem cs18 : CSx Try.prog Try.f18 rs18 := by unfold CSx; kernel_rfl
theorem cn18 : 0 ≤ Try.f18.ntmps := by decide
def rc71 : RC := (.seq (.reg false [(cX 1 0), (cQ 2 [] (.mv (.k (.z 1))))]) (.keep [1] (.seq (.reg false [(cQ 3 [] (.mv (.k (.z 1))))]) (.keep [1,3] (.seq (.seq (.reg false [(cFa 5 1 0), (cFa 6 5 0), (cLd 7 6 false 1), (cMv 4 7)]) (.keep [1,3,4] (.block 0 (.own 3 1 (.loop [1,3,4] none (.seq (.seq (.reg false [(cMv 8 4), (cFa 9 1 0), (cFa 10 9 1), (cLd 11 10 false 1), (cB 12 .leq 8 11)]) (.keep [1,3,4,12] (.cond (.t 12) .skip (.exit 0)))) (.keep [1,3,4] (.seq (.block 1 (.seq (.reg false [(cLd 15 1 true 6), (cMv 16 4), (cQ 17 [15,16] (.call (kF 34) [(.t 15), (.t 16)]))]) (.keep [1,3,4,17] (.cond (.t 17) (.reg false [(cMv 18 3), (cMv 19 4), (cQ 20 [19] (.bsl 1 1 [(.i 0)] [(0,1, (.t 19))])), ⟨(some 21), none, [18,20], none, .w (.app 1 (.t 18) (.t 20))⟩, (cMv 3 21)]) .skip)))) (.keep [1,3,4] (.reg false [(cMv 13 4), (cC 14 .add 13 1), (cMv 4 14)])))))))))) (.keep [3] (.seq (.reg false [(cMv 22 3), (cMv 2 22)]) .ret)))))))
def pu71 : List Nat := [1,20]
def rs71 : List RV := [.t 2]
theorem cc71 : CCx Try.prog Try.f71 pu71 rc71 := by unfold CCx; kernel_rfl
theorem cb71 : CBx Try.f71 := by unfold CBx; kernel_rfl
theorem cs71 : CSx Try.prog Try.f71 rs71 := by unfold CSx; kernel_rfl
theorem cn71 : 1 ≤ Try.f71.ntmps := by decide
def rc42 : RC := (.seq (.reg false [(cX 1 0), (cQ 2 [] (.mv (.k (.z 1))))]) (.keep [1] (.seq (.reg false [(cLd 3 1 true 6), (cQ 4 [3] (.call (kF 71) [(.t 3)])), (cMv 2 4)]) .ret)))
def pu42 : List Nat := [1]
def rs42 : List RV := [.t 2]
theorem cc42 : CCx Try.prog Try.f42 pu42 rc42 := by unfold CCx; kernel_rfl
theorem cb42 : CBx Try.f42 := by unfold CBx; kernel_rfl
theorem cs42 : CSx Try.prog Try.f42 rs42 := by unfold CSx; kernel_rfl
theorem cn42 : 1 ≤ Try.f42.ntmps := by decide
def rc62 : RC := (.seq (.reg false [(cX 3 0), (cX 5 2), (cQ 6 [] (.mv (.k (.z 1)))), (cI 7 0)]) (.keep [1,3,5] (.seq (.seq (.reg false [(cLd 12 3 true 6), (cQ 13 [12] (.call (kF 16) [(.t 12)])), (cMv 8 13)]) (.keep [1,3,5,8] (.seq (.reg false [(cMv 14 8), (cC 15 .neq 14 0)]) (.keep [1,3,5,8,15] (.cond (.t 15) (.seq (.reg false [(cMv 16 8), (cQ 6 [] (.mv (.k (.z 1)))), (cMv 7 16)]) .ret) .skip))))) (.keep [1,3,5] (.seq (.seq (.reg true [(cMv 17 1), (cLn 18 17), (cC 19 .gtr 18 6), (cMv 20 19), (gQ 21 20 false [5] (.ld true 2 (.t 5))), (gQ 22 20 false [21] (.call (kF 89) [(.t 21)])), (gQ 23 20 false [22] (.not (.t 22))), (cQ 24 [20,23] (.pick (.t 20) (kB true) (.t 23)))]) (.keep [1,3,24] (.cond (.t 24) (.seq (.reg false [(cQ 6 [] (.mv (.k (.z 1)))), (cI 7 1)]) .ret) .skip))) (.keep [1,3] (.seq (.seq (.reg false [(cI 9 0)]) (.keep [1,3,9] (.block 0 (.loop [1,3,9] none (.seq (.seq (.reg false [(cMv 25 9), (cMv 26 1), (cLn 27 26), (cB 28 .lss 25 27)]) (.keep [1,3,9,28] (.cond (.t 28) .skip (.exit 0)))) (.keep [1,3,9] (.seq (.block 1 (.seq (.reg false [(cMv 31 1), (cMv 32 9), (cA 33 1 31 32), (cLd 34 33 false 1), (cQ 35 [34] (.call (kF 56) [(.t 34), (kI 1), (kI 90)])), (cN 36 35)]) (.keep [1,3,9,36] (.cond (.t 36) (.seq (.reg false [(cQ 6 [] (.mv (.k (.z 1)))), (cI 7 1)]) .ret) .skip)))) (.keep [1,3,9] (.reg false [(cMv 29 9), (cC 30 .add 29 1), (cMv 9 30)]))))))))) (.keep [1,3] (.seq (.seq (.reg false [(cI 10 0)]) (.keep [1,3,10] (.block 2 (.loop [1,3,10] none (.seq (.seq (.reg false [(cMv 37 10), (cMv 38 1), (cLn 39 38), (cB 40 .lss 37 39)]) (.keep [1,3,10,40] (.cond (.t 40) .skip (.exit 2)))) (.keep [1,3,10] (.seq (.block 3 (.seq (.any false 0 [⟨(cLd 43 3 true 6), [], []⟩, ⟨(cMv 44 1), [], []⟩, ⟨(cMv 45 10), [], []⟩, ⟨(cA 46 1 44 45), [], [1,2]⟩, ⟨(cLd 47 46 false 1), [], [3,1,2]⟩, ⟨(cMv 48 10), [], []⟩, ⟨(cQ 49 [43,47,48] (.call (kF 37) [(.t 43), (.t 47), (.t 48)])), [], [0,4,3,1,2,5]⟩, ⟨(cN 50 49), [], [6,0,4,3,1,2,5]⟩]) (.keep [1,3,10,50] (.cond (.t 50) (.seq (.reg false [(cQ 6 [] (.mv (.k (.z 1)))), (cI 7 61)]) .ret) .skip)))) (.keep [1,3,10] (.reg false [(cMv 41 10), (cC 42 .add 41 1), (cMv 10 42)]))))))))) (.keep [3] (.seq (.reg false [(cLd 51 3 true 6), (cQ 52 [51] (.call (kF 71) [(.t 51)])), (cMv 11 52)]) (.keep [11] (.seq (.seq (.reg false [(cMv 53 11), (cLn 54 53), (cC 55 .eql 54 0)]) (.keep [11,55] (.cond (.t 55) (.seq (.reg false [(cQ 6 [] (.mv (.k (.z 1)))), (cI 7 3)]) .ret) .skip))) (.keep [11] (.seq (.reg false [(cMv 56 11), (cMv 6 56), (cI 7 0)]) .ret)))))))))))))))
def pu62 : List Nat := [3,5]
def rs62 : List RV := [.t 6, .t 7]
theorem cc62 : CCx Try.prog Try.f62 pu62 rc62 := by unfold CCx; kernel_rfl
theorem cb62 : CBx Try.f62 := by unfold CBx; kernel_rfl
theorem cs62 : CSx Try.prog Try.f62 rs62 := by unfold CSx; kernel_rfl
theorem cn62 : 3 ≤ Try.f62.ntmps := by decide
def rc70 : RC := (.seq (.reg false [(cX 5 2), (cI 6 0)]) (.keep [0,1,5] (.seq (.reg false [(cI 7 0)]) (.keep [0,1,5,7] (.seq (.seq (.reg false [(cI 8 0)]) (.keep [0,1,5,7,8] (.block 0 (.loop [0,1,5,7,8] none (.seq (.seq (.reg false [(cMv 9 8), (cMv 10 0), (cLn 11 10), (cB 12 .lss 9 11)]) (.keep [0,1,5,7,8,12] (.cond (.t 12) .skip (.exit 0)))) (.keep [0,1,5,7,8] (.seq (.block 1 (.seq (.any false 0 [⟨(cMv 15 1), [], []⟩, ⟨(cMv 16 0), [], []⟩, ⟨(cMv 17 8), [], []⟩, ⟨(cA 18 1 16 17), [], [1,2]⟩, ⟨(cLd 19 18 false 1), [], [3,1,2]⟩, ⟨(cQ 20 [15,19] (.call (kF 21) [(.t 15), (.t 19)])), [], [0,4,3,1,2]⟩, ⟨(cFa 21 5 0), [], []⟩, ⟨(cLd 22 21 false 1), [], [6]⟩, ⟨(cFa 23 5 1), [], []⟩, ⟨(cLd 24 23 false 1), [], [8]⟩, ⟨(cQ 25 [20,22,24] (.call (kF 56) [(.t 20), (.t 22), (.t 24)])), [], [5,0,4,3,1,2,7,6,9,8]⟩]) (.keep [0,1,5,7,8,25] (.cond (.t 25) (.reg false [(cMv 26 7), (cC 27 .add 26 1), (cMv 7 27)]) .skip)))) (.keep [0,1,5,7,8] (.reg false [(cMv 13 8), (cC 14 .add 13 1), (cMv 8 14)]))))))))) (.keep [7] (.seq (.reg false [(cMv 28 7), (cMv 6 28)]) .ret)))))))
def pu70 : List Nat := [5]
def rs70 : List RV := [.t 6]
theorem cc70 : CCx Try.prog Try.f70 pu70 rc70 := by unfold CCx; kernel_rfl
theorem cb70 : CBx Try.f70 := by unfold CBx; kernel_rfl
theorem cs70 : CSx Try.prog Try.f70 rs70 := by unfold CSx; kernel_rfl
theorem cn70 : 3 ≤ Try.f70.ntmps := by decide
def rc40 : RC := (.seq (.reg false [(cX 3 0), (cX 5 2), (cI 6 0), (cI 7 0)]) (.keep [1,3,5] (.seq (.reg false [(cLd 11 3 true 6), (cMv 12 1), (cLd 13 5 true 2), (cQ 14 [11,12,13] (.call (kF 62) [(.t 11), (.t 12), (.t 13)])), (cMv 10 14), (cEx 15 10 0), (cEx 16 10 1), (cMv 8 15), (cMv 9 16)]) (.keep [1,5,8,9] (.seq (.seq (.reg false [(cMv 17 9), (cC 18 .neq 17 0)]) (.keep [1,5,8,9,18] (.cond (.t 18) (.seq (.reg false [(cMv 19 9), (cI 6 0), (cMv 7 19)]) .ret) .skip))) (.keep [1,5,8] (.seq (.seq (.reg false [(cMv 20 8), (cMv 21 1), (cLd 22 5 true 2), (cQ 23 [20,21,22] (.call (kF 70) [(.t 20), (.t 21), (.t 22)]))]) (.keep [8,23] (.block 0 (.seq (.reg false [(cMv 25 8), (cLn 26 25), (cB 27 .eql 23 26), (cMv 24 27)]) (.keep [23,24] (.cond (.t 24) (.seq (.reg false [(cI 6 1), (cI 7 0)]) .ret) (.seq (.reg false [(cC 29 .eql 23 0), (cMv 28 29)]) (.keep [28] (.cond (.t 28) (.seq (.reg false [(cI 6 2), (cI 7 0)]) .ret) .skip))))))))) (.keep [] (.seq (.reg false [(cI 6 3), (cI 7 0)]) .ret)))))))))
def pu40 : List Nat := [3,5]
def rs40 : List RV := [.t 6, .t 7]
theorem cc40 : CCx Try.prog Try.f40 pu40 rc40 := by unfold CCx; kernel_rfl
theorem cb40 : CBx Try.f40 := by unfold CBx; kernel_rfl
theorem cs40 : CSx Try.prog Try.f40 rs40 := by unfold CSx; kernel_rfl
theorem cn40 : 3 ≤ Try.f40.ntmps := by decide
def rc46 : RC := (.seq (.reg false [(cX 2 0), ⟨(some 4), none, [], none, .w (.alc [(.i 0), (.i 0)])⟩, (cI 5 0)]) (.keep [1,2,4] (.seq (.reg false [(cLd 11 2 true 6), (cMv 12 1), (cQ 13 [] (.bld [(.i 0), (.i 0)] [])), (cQ 14 [11,12,13] (.call (kF 62) [(.t 11), (.t 12), (.t 13)])), (cMv 10 14), (cEx 15 10 0), (cEx 16 10 1), (cMv 6 15), (cMv 7 16)]) (.keep [1,4,6,7] (.seq (.seq (.reg false [(cMv 17 7), (cC 18 .neq 17 0)]) (.keep [1,4,6,7,18] (.cond (.t 18) (.seq (.reg false [(cQ 19 [] (.bld [(.i 0), (.i 0)] [])), (cMv 20 7), ⟨none, none, [4,19], none, .w (.st 2 (.t 4) (.t 19))⟩, (cMv 5 20)]) .ret) .skip))) (.keep [1,4,6] (.seq (.any false 1 [⟨(cMv 21 1), [], []⟩, ⟨(cMv 22 6), [], []⟩, ⟨(cQ 23 [22] (.iad 1 (.t 22) (kI 0))), [], [1]⟩, ⟨(cLd 24 23 false 1), [], [2,1]⟩, ⟨(cQ 25 [21,24] (.call (kF 21) [(.t 21), (.t 24)])), [], [0,3,2,1]⟩, ⟨(cMv 26 1), [], []⟩, ⟨(cMv 27 6), [], []⟩, ⟨(cQ 28 [27] (.iad 1 (.t 27) (kI 0))), [], [6]⟩, ⟨(cLd 29 28 false 1), [], [7,6]⟩, ⟨(cQ 30 [26,29] (.call (kF 21) [(.t 26), (.t 29)])), [], [5,8,7,6,4,0,3,2,1]⟩, ⟨(cQ 31 [25,30] (.bld [(.i 0), (.i 0)] [(0,1, (.t 25)), (1,1, (.t 30))])), [], [4,0,3,2,1,9,5,8,7,6]⟩, ⟨⟨(some 8), none, [], (some 0), .w (.alc [(.i 0), (.i 0)])⟩, [0,1,2,3,4,5,6,7,8,9,10], []⟩, ⟨⟨none, none, [8,31], none, .w (.st 2 (.t 8) (.t 31))⟩, [], [11,10,4,0,3,2,1,9,5,8,7,6]⟩]) (.keep [1,4,6,8] (.seq (.seq (.reg false [(cI 9 0)]) (.keep [1,4,6,8,9] (.block 0 (.loop [1,4,6,8,9] none (.seq (.seq (.reg false [(cMv 32 9), (cMv 33 6), (cLn 34 33), (cB 35 .lss 32 34)]) (.keep [1,4,6,8,9,35] (.cond (.t 35) .skip (.exit 0)))) (.keep [1,4,6,8,9] (.seq (.block 1 (.any false 0 [⟨(cFa 38 8 0), [], []⟩, ⟨(cLd 39 38 false 1), [], [0]⟩, ⟨(cMv 40 1), [], []⟩, ⟨(cMv 41 6), [], []⟩, ⟨(cMv 42 9), [], []⟩, ⟨(cA 43 1 41 42), [], [3,4]⟩, ⟨(cLd 44 43 false 1), [], [5,3,4]⟩, ⟨(cQ 45 [40,44] (.call (kF 21) [(.t 40), (.t 44)])), [], [2,6,5,3,4]⟩, ⟨(cQ 46 [39,45] (.mn (.t 39) (.t 45))), [], [1,0,7,2,6,5,3,4]⟩, ⟨(cFa 47 8 1), [], []⟩, ⟨(cLd 48 47 false 1), [], [9]⟩, ⟨(cMv 49 1), [], []⟩, ⟨(cMv 50 6), [], []⟩, ⟨(cMv 51 9), [], []⟩, ⟨(cA 52 1 50 51), [], [12,13]⟩, ⟨(cLd 53 52 false 1), [], [14,12,13]⟩, ⟨(cQ 54 [49,53] (.call (kF 21) [(.t 49), (.t 53)])), [], [11,15,14,12,13,7,2,6,5,3,4]⟩, ⟨(cQ 55 [48,54] (.mx (.t 48) (.t 54))), [], [10,9,16,11,15,14,12,13,7,2,6,5,3,4]⟩, ⟨(cQ 56 [46,55] (.bld [(.i 0), (.i 0)] [(0,1, (.t 46)), (1,1, (.t 55))])), [], [8,1,0,7,2,6,5,3,4,17,10,9,16,11,15,14,12,13]⟩, ⟨⟨none, none, [8,56], none, .w (.st 2 (.t 8) (.t 56))⟩, [], [18,8,1,0,7,2,6,5,3,4,17,10,9,16,11,15,14,12,13]⟩])) (.keep [1,4,6,8,9] (.reg false [(cMv 36 9), (cC 37 .add 36 1), (cMv 9 37)]))))))))) (.keep [4,8] (.seq (.reg false [(cLd 57 8 true 2), ⟨none, none, [4,57], none, .w (.st 2 (.t 4) (.t 57))⟩, (cI 5 0)]) .ret)))))))))))
def pu46 : List Nat := [2]
def rs46 : List RV := [.c 4 true 2, .t 5]
theorem cc46 : CCx Try.prog Try.f46 pu46 rc46 := by unfold CCx; kernel_rfl
theorem cb46 : CBx Try.f46 := by unfold CBx; kernel_rfl
theorem cs46 : CSx Try.prog Try.f46 rs46 := by unfold CSx; kernel_rfl
theorem cn46 : 2 ≤ Try.f46.ntmps := by decide
def rc27 : RC := (.seq (.reg false [(cX 1 0), (cQ 2 [] (.mv (.k (.z 1)))), (cI 3 0)]) (.keep [1] (.seq (.reg false [(cLd 4 1 true 6), (cQ 5 [] (.bld [(.i 0), (.i 0)] [])), (cQ 6 [4,5] (.call (kF 62) [(.t 4), (.k (.z 1)), (.t 5)])), (cEx 7 6 0), (cEx 8 6 1), (cMv 2 7), (cMv 3 8)]) .ret)))
def pu27 : List Nat := [1]
def rs27 : List RV := [.t 2, .t 3]
theorem cc27 : CCx Try.prog Try.f27 pu27 rc27 := by unfold CCx; kernel_rfl
theorem cb27 : CBx Try.f27 := by unfold CBx; kernel_rfl
theorem cs27 : CSx Try.prog Try.f27 rs27 := by unfold CSx; kernel_rfl
theorem cn27 : 1 ≤ Try.f27.ntmps := by decide
def rc24 : RC := (.seq (.reg false [(cX 1 0), ⟨(some 2), none, [], none, .w (.alc [(.i 0), (.i 0), (.z 3), (.i 0), (.i 0), (.i 0)])⟩]) (.keep [1,2] (.seq (.reg false [(cLd 4 1 true 6), ⟨(some 3), none, [], none, .w (.alc [(.i 0), (.i 0), (.z 3), (.i 0), (.i 0), (.i 0)])⟩, ⟨none, none, [3,4], none, .w (.st 6 (.t 3) (.t 4))⟩]) (.keep [1,2,3] (.seq (.reg false [⟨(some 5), none, [], none, .w (.bso 3 0 [(.i 0), (.i 0), (.i 0)] [])⟩, (cFa 6 1 2), (cLd 7 6 false 1), ⟨(some 8), none, [5,7], none, .w (.app 3 (.t 5) (.t 7))⟩, (cFa 9 3 2), ⟨none, none, [9,8], none, .w (.st 1 (.t 9) (.t 8))⟩]) (.keep [2,3] (.seq (.reg false [(cLd 10 3 true 6), ⟨none, none, [2,10], none, .w (.st 6 (.t 2) (.t 10))⟩]) .ret)))))))
def pu24 : List Nat := [1]
def rs24 : List RV := [.c 2 true 6]
theorem cc24 : CCx Try.prog Try.f24 pu24 rc24 := by unfold CCx; kernel_rfl
theorem cb24 : CBx Try.f24 := by unfold CBx; kernel_rfl
theorem cs24 : CSx Try.prog Try.f24 rs24 := by unfold CSx; kernel_rfl
theorem cn24 : 1 ≤ Try.f24.ntmps := by decide
def rc29 : RC := (.seq (.reg false [(cQ 4 [] (.mv (kB false)))]) (.keep [0,1] (.seq (.seq (.reg false [(cMv 6 0), (cLn 7 6), (cMv 8 1), (cLn 9 8), (cB 10 .neq 7 9)]) (.keep [0,1,10] (.cond (.t 10) (.seq (.reg false [(cQ 4 [] (.mv (kB false)))]) .ret) .skip))) (.keep [0,1] (.seq (.seq (.reg false [(cI 5 0)]) (.keep [0,1,5] (.block 0 (.loop [0,1,5] none (.seq (.seq (.reg false [(cMv 11 5), (cMv 12 0), (cLn 13 12), (cB 14 .lss 11 13)]) (.keep [0,1,5,14] (.cond (.t 14) .skip (.exit 0)))) (.keep [0,1,5] (.seq (.block 1 (.seq (.any false 0 [⟨(cMv 17 0), [], []⟩, ⟨(cMv 18 5), [], []⟩, ⟨(cA 19 1 17 18), [], [0,1]⟩, ⟨(cLd 20 19 false 1), [], [2,0,1]⟩, ⟨(cMv 21 1), [], []⟩, ⟨(cMv 22 5), [], []⟩, ⟨(cA 23 1 21 22), [], [4,5]⟩, ⟨(cLd 24 23 false 1), [], [6,4,5]⟩, ⟨(cB 25 .neq 20 24), [], [3,2,0,1,7,6,4,5]⟩]) (.keep [0,1,5,25] (.cond (.t 25) (.seq (.reg false [(cQ 4 [] (.mv (kB false)))]) .ret) .skip)))) (.keep [0,1,5] (.reg false [(cMv 15 5), (cC 16 .add 15 1), (cMv 5 16)]))))))))) (.keep [] (.seq (.reg false [(cQ 4 [] (.mv (kB true)))]) .ret)))))))
def pu29 : List Nat := []
def rs29 : List RV := [.t 4]
theorem cc29 : CCx Try.prog Try.f29 pu29 rc29 := by unfold CCx; kernel_rfl
theorem cb29 : CBx Try.f29 := by unfold CBx; kernel_rfl
theorem cs29 : CSx Try.prog Try.f29 rs29 := by unfold CSx; kernel_rfl
theorem cn29 : 2 ≤ Try.f29.ntmps := by decide
def rc30 : RC := (.seq (.reg false [(cX 2 0), (cX 3 1), (cQ 4 [] (.mv (kB false)))]) (.keep [2,3] (.seq (.seq (.reg true [(cFa 6 2 0), (cLd 7 6 true 2), (cFa 8 3 0), (cLd 9 8 true 2), (cQ 10 [7,9] (.eqs true 23 (.t 7) (.t 9))), (cMv 11 10), (gQ 12 11 false [2] (.fad 3 (.t 2))), (gQ 13 11 false [12] (.ld false 1 (.t 12))), (gQ 14 11 false [3] (.fad 3 (.t 3))), (gQ 15 11 false [14] (.ld false 1 (.t 14))), (gQ 16 11 false [13,15] (.bin .neq (.t 13) (.t 15))), (cQ 17 [11,16] (.pick (.t 11) (kB true) (.t 16))), (cMv 18 17), (gQ 19 18 false [2] (.fad 4 (.t 2))), (gQ 20 18 false [19] (.ld false 1 (.t 19))), (gQ 21 18 false [3] (.fad 4 (.t 3))), (gQ 22 18 false [21] (.ld false 1 (.t 21))), (gQ 23 18 false [20,22] (.bin .neq (.t 20) (.t 22))), (cQ 24 [18,23] (.pick (.t 18) (kB true) (.t 23))), (cMv 25 24), (gQ 26 25 false [2] (.fad 5 (.t 2))), (gQ 27 25 false [26] (.ld false 1 (.t 26))), (gQ 28 25 false [3] (.fad 5 (.t 3))), (gQ 29 25 false [28] (.ld false 1 (.t 28))), (gQ 30 25 false [27,29] (.bin .neq (.t 27) (.t 29))), (cQ 31 [25,30] (.pick (.t 25) (kB true) (.t 30))), (cMv 32 31), (gQ 33 32 false [2] (.fad 2 (.t 2))), (gQ 34 32 false [33] (.ld false 1 (.t 33))), (gQ 35 32 false [34] (.len (.t 34))), (gQ 36 32 false [3] (.fad 2 (.t 3))), (gQ 37 32 false [36] (.ld false 1 (.t 36))), (gQ 38 32 false [37] (.len (.t 37))), (gQ 39 32 false [35,38] (.bin .neq (.t 35) (.t 38))), (cQ 40 [32,39] (.pick (.t 32) (kB true) (.t 39)))]) (.keep [2,3,40] (.cond (.t 40) (.seq (.reg false [(cQ 4 [] (.mv (kB false)))]) .ret) .skip))) (.keep [2,3] (.seq (.seq (.reg false [(cI 5 0)]) (.keep [2,3,5] (.block 0 (.loop [2,3,5] none (.seq (.seq (.reg false [(cMv 41 5), (cFa 42 2 2), (cLd 43 42 false 1), (cLn 44 43), (cB 45 .lss 41 44)]) (.keep [2,3,5,45] (.cond (.t 45) .skip (.exit 0)))) (.keep [2,3,5] (.seq (.block 1 (.seq (.any false 0 [⟨(cFa 48 2 2), [], []⟩, ⟨(cLd 49 48 false 1), [], [0]⟩, ⟨(cMv 50 5), [], []⟩, ⟨(cA 51 3 49 50), [], [1,0,2]⟩, ⟨(cLd 52 51 true 3), [], [3,1,0,2]⟩, ⟨(cFa 53 3 2), [], []⟩, ⟨(cLd 54 53 false 1), [], [5]⟩, ⟨(cMv 55 5), [], []⟩, ⟨(cA 56 3 54 55), [], [6,5,7]⟩, ⟨(cLd 57 56 true 3), [], [8,6,5,7]⟩, ⟨(cQ 58 [52,57] (.eqs true 61 (.t 52) (.t 57))), [], [4,3,1,0,2,9,8,6,5,7]⟩]) (.keep [2,3,5,58] (.cond (.t 58) (.seq (.reg false [(cQ 4 [] (.mv (kB false)))]) .ret) .skip)))) (.keep [2,3,5] (.reg false [(cMv 46 5), (cC 47 .add 46 1), (cMv 5 47)]))))))))) (.keep [] (.seq (.reg false [(cQ 4 [] (.mv (kB true)))]) .ret)))))))
def pu30 : List Nat := [2,3]
def rs30 : List RV := [.t 4]
theorem cc30 : CCx Try.prog Try.f30 pu30 rc30 := by unfold CCx; kernel_rfl
theorem cb30 : CBx Try.f30 := by unfold CBx; kernel_rfl
theorem cs30 : CSx Try.prog Try.f30 rs30 := by unfold CSx; kernel_rfl
theorem cn30 : 2 ≤ Try.f30.ntmps := by decide
def rc31 : RC := (.seq (.reg false [(cX 1 0), (cQ 2 [] (.mv (kB false)))]) (.keep [1] (.seq (.reg true [(cLd 3 1 true 6), (cQ 4 [3] (.call (kF 15) [(.t 3)])), (cMv 5 4), (gQ 6 5 false [1] (.ld true 6 (.t 1))), (gQ 7 5 false [6] (.call (kF 16) [(.t 6)])), (gQ 8 5 false [7] (.bin .eql (.t 7) (kI 0))), (gMv 9 5 false 8), (gQ 10 9 true [1] (.fad 4 (.t 1))), (gQ 11 9 true [10] (.ld false 1 (.t 10))), (gQ 12 9 true [11] (.bin .gtr (.t 11) (kI 3))), (gQ 13 5 false [9,12] (.pick (.t 9) (.t 12) (kB false))), (gMv 14 5 false 13), (gQ 15 14 true [1] (.fad 4 (.t 1))), (gQ 16 14 true [15] (.ld false 1 (.t 15))), (gQ 17 14 true [16] (.bin .gtr (.t 16) (kI 14))), (gMv 18 14 true 17), (gQ 19 18 false [1] (.fad 5 (.t 1))), (gQ 20 18 false [19] (.ld false 1 (.t 19))), (gQ 21 18 false [20] (.bin .mul (kI 4) (.t 20))), (gQ 22 18 false [1] (.fad 4 (.t 1))), (gQ 23 18 false [22] (.ld false 1 (.t 22))), (gQ 24 18 false [21,23] (.bin .lss (.t 21) (.t 23))), (gQ 25 14 true [18,24] (.pick (.t 18) (kB true) (.t 24))), (gQ 26 5 false [14,25] (.pick (.t 14) (.t 25) (kB false))), (cQ 27 [5,26] (.pick (.t 5) (kB true) (.t 26))), (cMv 2 27)]) .ret)))
def pu31 : List Nat := [1]
def rs31 : List RV := [.t 2]
theorem cc31 : CCx Try.prog Try.f31 pu31 rc31 := by unfold CCx; kernel_rfl
theorem cb31 : CBx Try.f31 := by unfold CBx; kernel_rfl
theorem cs31 : CSx Try.prog Try.f31 rs31 := by unfold CSx; kernel_rfl
theorem cn31 : 1 ≤ Try.f31.ntmps := by decide
def rc22 : RC := (.seq (.reg false [(cX 1 0), (cQ 2 [] (.mv (kB false)))]) (.keep [1] (.seq (.reg true [(cLd 3 1 true 6), (cQ 4 [3] (.call (kF 31) [(.t 3)])), (cN 5 4), (cMv 6 5), (gQ 7 6 true [1] (.ld true 6 (.t 1))), (gQ 8 6 true [7] (.call (kF 16) [(.t 7)])), (gQ 9 6 true [8] (.bin .eql (.t 8) (kI 0))), (cQ 10 [6,9] (.pick (.t 6) (.t 9) (kB false))), (cMv 2 10)]) .ret)))
def pu22 : List Nat := [1]
def rs22 : List RV := [.t 2]
theorem cc22 : CCx Try.prog Try.f22 pu22 rc22 := by unfold CCx; kernel_rfl
theorem cb22 : CBx Try.f22 := by unfold CBx; kernel_rfl
theorem cs22 : CSx Try.prog Try.f22 rs22 := by unfold CSx; kernel_rfl
theorem cn22 : 1 ≤ Try.f22.ntmps := by decide
def rc23 : RC := (.seq (.reg false [(cX 1 0), (cQ 2 [] (.mv (kB false)))]) (.keep [1] (.seq (.reg true [(cFa 3 1 0), (cLd 4 3 false 1), (cC 5 .geq 4 0), (cMv 6 5), (gQ 7 6 true [1] (.fad 0 (.t 1))), (gQ 8 6 true [7] (.ld false 1 (.t 7))), (gQ 9 6 true [1] (.fad 1 (.t 1))), (gQ 10 6 true [9] (.ld false 1 (.t 9))), (gQ 11 6 true [8,10] (.bin .leq (.t 8) (.t 10))), (cQ 12 [6,11] (.pick (.t 6) (.t 11) (kB false))), (cMv 13 12), (gQ 14 13 true [1] (.fad 1 (.t 1))), (gQ 15 13 true [14] (.ld false 1 (.t 14))), (gQ 16 13 true [15] (.bin .leq (.t 15) (kI 540))), (cQ 17 [13,16] (.pick (.t 13) (.t 16) (kB false))), (cMv 2 17)]) .ret)))
def pu23 : List Nat := [1]
def rs23 : List RV := [.t 2]
theorem cc23 : CCx Try.prog Try.f23 pu23 rc23 := by unfold CCx; kernel_rfl
theorem cb23 : CBx Try.f23 := by unfold CBx; kernel_rfl
theorem cs23 : CSx Try.prog Try.f23 rs23 := by unfold CSx; kernel_rfl
theorem cn23 : 1 ≤ Try.f23.ntmps := by decide
def rc36 : RC := (.seq (.reg false [(cX 2 0), (cQ 4 [] (.mv (kB false)))]) (.keep [1,2] (.seq (.reg true [(cFa 5 2 0), (cLd 6 5 false 1), (cMv 7 1), (cB 8 .leq 6 7), (cMv 9 8), (gMv 10 9 true 1), (gQ 11 9 true [2] (.fad 1 (.t 2))), (gQ 12 9 true [11] (.ld false 1 (.t 11))), (gQ 13 9 true [10,12] (.bin .leq (.t 10) (.t 12))), (cQ 14 [9,13] (.pick (.t 9) (.t 13) (kB false))), (cMv 4 14)]) .ret)))
def pu36 : List Nat := [2]
def rs36 : List RV := [.t 4]
theorem cc36 : CCx Try.prog Try.f36 pu36 rc36 := by unfold CCx; kernel_rfl
theorem cb36 : CBx Try.f36 := by unfold CBx; kernel_rfl
theorem cs36 : CSx Try.prog Try.f36 rs36 := by unfold CSx; kernel_rfl
theorem cn36 : 2 ≤ Try.f36.ntmps := by decide
def rc44 : RC := (.seq (.reg false [(cQ 4 [] (.mv (kB false)))]) (.keep [0,1] (.seq (.seq (.reg false [(cI 5 0)]) (.keep [0,1,5] (.block 0 (.loop [0,1,5] none (.seq (.seq (.reg false [(cMv 6 5), (cMv 7 0), (cLn 8 7), (cB 9 .lss 6 8)]) (.keep [0,1,5,9] (.cond (.t 9) .skip (.exit 0)))) (.keep [0,1,5] (.seq (.block 1 (.seq (.reg false [(cMv 12 0), (cMv 13 5), (cA 14 1 12 13), (cLd 15 14 false 1), (cMv 16 1), (cB 17 .eql 15 16)]) (.keep [0,1,5,17] (.cond (.t 17) (.seq (.reg false [(cQ 4 [] (.mv (kB true)))]) .ret) .skip)))) (.keep [0,1,5] (.reg false [(cMv 10 5), (cC 11 .add 10 1), (cMv 5 11)]))))))))) (.keep [] (.seq (.reg false [(cQ 4 [] (.mv (kB false)))]) .ret)))))
def pu44 : List Nat := []
def rs44 : List RV := [.t 4]
theorem cc44 : CCx Try.prog Try.f44 pu44 rc44 := by unfold CCx; kernel_rfl
theorem cb44 : CBx Try.f44 := by unfold CBx; kernel_rfl
theorem cs44 : CSx Try.prog Try.f44 rs44 := by unfold CSx; kernel_rfl
theorem cn44 : 2 ≤ Try.f44.ntmps := by decide
def rc45 : RC := (.seq (.reg false [(cX 2 0), (cX 3 1), (cQ 4 [] (.mv (kB false)))]) (.keep [2,3] (.seq (.reg true [(cFa 5 2 0), (cLd 6 5 false 1), (cFa 7 3 0), (cLd 8 7 false 1), (cB 9 .leq 6 8), (cMv 10 9), (gQ 11 10 true [3] (.fad 1 (.t 3))), (gQ 12 10 true [11] (.ld false 1 (.t 11))), (gQ 13 10 true [2] (.fad 1 (.t 2))), (gQ 14 10 true [13] (.ld false 1 (.t 13))), (gQ 15 10 true [12,14] (.bin .leq (.t 12) (.t 14))), (cQ 16 [10,15] (.pick (.t 10) (.t 15) (kB false))), (cMv 4 16)]) .ret)))
def pu45 : List Nat := [2,3]
def rs45 : List RV := [.t 4]
theorem cc45 : CCx Try.prog Try.f45 pu45 rc45 := by unfold CCx; kernel_rfl
theorem cb45 : CBx Try.f45 := by unfold CBx; kernel_rfl
theorem cs45 : CSx Try.prog Try.f45 rs45 := by unfold CSx; kernel_rfl
theorem cn45 : 2 ≤ Try.f45.ntmps := by decide
end Go.C06
set_option linter.unusedSimpArgs false
set_option linter.unusedVariables false
namespace Go.C06
open Go.Fam Go.Proofs
variable {Γ : Gam}
noncomputable def H26 : Gam := ((((H25.ext 51 (fnG eX1 dX1 (fun _ => True) Qet fun r => .tp [.i r.1, .i r.2])).ext 19 (fnG eC1 dC1 (fun _ => True) (fun c => (stL c ⟨0, 0⟩ [], stE c ⟨0, 0⟩ [])) fun r => .tp [.sl 1 (r.1.map eI), .i r.2])).ext 20 (fnG eCL dCL (fun _ => True) (fun a => Qbu a.1 a.2) fun r => .tp [.ag (Qap r.1), .i r.2])).ext 26 (fnG eCS dCS (fun _ => True) (fun a => Qbv a.1 a.2) fun r => .tp [.i r.1, .i r.2.2])).ext 43 (fnG eCLS dCLS (fun _ => True) (fun a => Qbp a.1 a.2.1 a.2.2) fun r => .tp [.i r.1, .i r.2])
theorem Qo3 : GOk Try.prog H26 := by
 have k1 := Qw3.ext (f := 51) (fun a w => Try.call51 a w) (Qb6 (e := eX1) (d := dX1) (ok := fun _ => True) (g := Qet) (eb := fun r => .tp [.i r.1, .i r.2]) fun a _ => W51 a)
 have k2 := k1.ext (f := 19) (fun a w => Try.call19 a w) (Qb6 (e := eC1) (d := dC1) (ok := fun _ => True) (g := fun c => (stL c ⟨0, 0⟩ [], stE c ⟨0, 0⟩ [])) (eb := fun r => .tp [.sl 1 (r.1.map eI), .i r.2]) fun a _ => W19 a)
 have k3 := k2.ext (f := 20) (fun a w => Try.call20 a w) (Qb6 (e := eCL) (d := dCL) (ok := fun _ => True) (g := fun a => Qbu a.1 a.2) (eb := fun r => .tp [.ag (Qap r.1), .i r.2]) fun a _ => W20 a.1 a.2)
 have k4 := k3.ext (f := 26) (fun a w => Try.call26 a w) (Qb6 (e := eCS) (d := dCS) (ok := fun _ => True) (g := fun a => Qbv a.1 a.2) (eb := fun r => .tp [.i r.1, .i r.2.2]) fun a _ => W26 a.1 a.2)
 exact k4.ext (f := 43) (fun a w => Try.call43 a w) (Qb6 (e := eCLS) (d := dCLS) (ok := fun _ => True) (g := fun a => Qbp a.1 a.2.1 a.2.2) (eb := fun r => .tp [.i r.1, .i r.2]) fun a _ => W43 a.1 a.2.1 a.2.2)
theorem h51 (s : Box) : H26 51 [.ag (eBox s)] = (True, .tp [.i (Qet s).1, .i (Qet s).2]) :=
 (show H26 51 _ = fnG eX1 dX1 (fun _ => True) Qet (fun r => .tp [.i r.1, .i r.2]) (eX1 s) from rfl).trans (Qba _ (Qr2 _))
theorem h19 (c : Cane) : H26 19 [.ag (Qa8 c)] = (True, .tp [.sl 1 ((stL c ⟨0, 0⟩ []).map eI), .i (stE c ⟨0, 0⟩ [])]) :=
 (show H26 19 _ = fnG eC1 dC1 (fun _ => True) (fun c => (stL c ⟨0, 0⟩ [], stE c ⟨0, 0⟩ [])) (fun r => .tp [.sl 1 (r.1.map eI), .i r.2]) (eC1 c) from rfl).trans (Qba _ (Qi3 _))
theorem h20 (c : Cane) (l : List Int) : H26 20 [.ag (Qa8 c), .sl 1 (l.map eI)] = (True, .tp [.ag (Qap (Qbu c l).1), .i (Qbu c l).2]) :=
 (show H26 20 _ = fnG eCL dCL (fun _ => True) (fun a => Qbu a.1 a.2) (fun r => .tp [.ag (Qap r.1), .i r.2]) (eCL (c, l)) from rfl).trans (Qba _ (Qvd _))
theorem h26 (c : Cane) (w : Span) : H26 26 [.ag (Qa8 c), .ag (Qap w)] = (True, .tp [.i (Qbv c w).1, .i (Qbv c w).2.2]) :=
 (show H26 26 _ = fnG eCS dCS (fun _ => True) (fun a => Qbv a.1 a.2) (fun r => .tp [.i r.1, .i r.2.2]) (eCS (c, w)) from rfl).trans (Qba _ (Qov _))
theorem h43f (c : Cane) (l : List Int) (w : Span) : H26 43 [.ag (Qa8 c), .sl 1 (l.map eI), .ag (Qap w)] = (True, .tp [.i (Qbp c l w).1, .i (Qbp c l w).2]) :=
 (show H26 43 _ = fnG eCLS dCLS (fun _ => True) (fun a => Qbp a.1 a.2.1 a.2.2) (fun r => .tp [.i r.1, .i r.2]) (eCLS (c, l, w)) from rfl).trans (Qba _ (Qsa _))
theorem W56 (n lo hi : Int) : Qad Try.prog 56 [.i n, .i lo, .i hi] (.b (Qak n lo hi)) := by
 refine Qae Qo3 hmix Try.func56 cb56 cc56 cs56 cn56 ?_
 simp only [rc56, rs56, Qaa, Qab, Qac, Qa7, Qaf, Qa6, Qa2, Fam.step, Qag, Qbd, Qb7, ug, evO, opv, qv, Qam, binV, Qa3, Qa0, Qa4, ↓reduceIte, Nat.reduceEqDiff, Nat.reduceAdd, Qa, Qb, Qv, Qs, endQ, rvs, rv1, resV, vw_b, zipA, Qi, V.b.injEq, Qp, Qt, decide_eq_true_eq, decide_eq_false_iff_not, true_and, and_true, and_self, implies_true, reduceCtorEq, beq_true, Qe2, imp_self]
 by_cases h : lo ≤ n <;> simp [h, Qak]
theorem W38 (b k : Int) (hb : tame 1000000 b) (hk : tame 1000000 k) : Qad Try.prog 38 [.i b, .i k] (.i (Qb0 b k)) := by
 refine Qae Qo3 hmix Try.func38 cb38 cc38 cs38 cn38 ?_
 simp only [rc38, rs38, Qaa, Qab, Qac, Qa7, Qaf, Qa6, Qa2, Fam.step, Qag, evO, opv, qv, binV, Qa3, Qa0, Qa4, ↓reduceIte, Nat.reduceEqDiff, Int.reduceEq, Qa, Qb, endQ, rvs, rv1, resV, vw_i, zipA, Qi, V.i.injEq, true_and, and_self, reduceCtorEq, not_false_eq_true, ne_eq]
 have h1 := Qfq hb hk (by decide) (by decide)
 have h2 := Qkt hb hk
 unfold tame Qb0 at *
 exact ⟨by unfold inI; omega, by unfold inI; omega, rfl⟩
def Qha (c : Cane) (b i : Int) : Bool := decide (1 ≤ b) && decide (b ≤ c.limit - c.tire * i)
theorem W37 (c : Cane) (b i : Int) (h : Qdq c i) : Qad Try.prog 37 [.ag (Qa8 c), .i b, .i i] (.b (Qha c b i)) := by
 refine Qae Qo3 hmix Try.func37 cb37 cc37 cs37 cn37 ?_
 have h1 := Qfq h.1 h.2.2 (by decide) (by decide)
 have h2 := h.2.1
 unfold tame at h1 h2
 have i1 : inI (c.tire * i) := by unfold inI; omega
 have i2 : inI (c.limit - c.tire * i) := by unfold inI; omega
 simp only [rc37, rs37, i1, i2, Qaa, Qab, Qac, Qa7, Qaf, Qa6, Qa2, Fam.step, Qag, Qbd, Qb7, ug, evO, opv, qv, Qam, binV, ldV, V.cells, Qas, Qa9, Qa5, Qa3, Qa0, Qa4, ↓reduceIte, Nat.reduceEqDiff, Nat.reduceAdd, Nat.reduceLeDiff, Qa, Qb, Qv, Qs, Qf, Qg, Qj, Qr, Qq, endQ, rvs, rv1, resV, vw_i, vw_b, Qb3, Qax, zipA, Qi, V.b.injEq, Qp, Qt, Qo, Qc, decide_eq_true_eq, decide_eq_false_iff_not, true_and, and_true, and_self, implies_true, reduceCtorEq, beq_true, Qe2, imp_self, Qa8]
 by_cases h : 1 ≤ b <;> simp [h, Qha]
theorem W89 (w : Span) : Qad Try.prog 89 [.ag (Qap w)] (.b (Qb1 w 540)) := by
 refine Qae Qo3 hmix Try.func89 cb89 cc89 cs89 cn89 ?_
 simp only [rc89, rs89, Qaa, Qab, Qac, Qa7, Qaf, Qa6, Qa2, Fam.step, Qag, Qbd, Qb7, ug, evO, opv, qv, Qam, binV, ldV, V.cells, Qas, Qa9, Qa5, Qa3, Qa0, Qa4, ↓reduceIte, Nat.reduceEqDiff, Nat.reduceAdd, Nat.reduceLeDiff, Qa, Qb, Qv, Qs, Qf, Qg, Qj, Qr, Qq, endQ, rvs, rv1, resV, vw_i, vw_b, Qax, zipA, Qi, V.b.injEq, Qp, Qt, Qo, Qc, decide_eq_true_eq, decide_eq_false_iff_not, true_and, and_true, and_self, implies_true, beq_true, Qe2, Zw, imp_self, Qap]
 by_cases h : 0 ≤ w.low <;> by_cases h2 : w.low ≤ w.high <;> simp [h, h2, Qb1, Qak]
theorem W15 (c : Cane) : Qad Try.prog 15 [.ag (Qa8 c)] (.b (decide ((60 : Int) < c.bents.length))) := by
 refine Qae Qo3 hmix Try.func15 cb15 cc15 cs15 cn15 ?_
 simp only [rc15, rs15, Qaa, Qab, Qac, Qa7, Qaf, Qa6, Qa2, Fam.step, Qag, evO, opv, qv, binV, ldV, lenV, V.cells, Qas, Qa9, Qa5, Qa3, Qa0, Qa4, ↓reduceIte, Nat.reduceEqDiff, Nat.reduceAdd, Nat.reduceLeDiff, Qa, Qb, Qf, Qg, Qj, Qr, Qq, endQ, rvs, rv1, resV, vw_i, vw_b, Qb3, Qax, zipA, Qi, Qo, Qc, and_self, Qy, Qa8]
def s38 : List V → Prop × V | [.i a, .i b] => (tame 1000000 a ∧ tame 1000000 b, .i (Qb0 a b)) | _ => (False, .u)
def s56 : List V → Prop × V | [.i n, .i lo, .i hi] => (True, .b (Qak n lo hi)) | _ => (False, .u)
theorem Qwe (vs : List V) (h : (s38 vs).1) : Qad Try.prog 38 vs (s38 vs).2 := by
 unfold s38 at h ⊢
 split at h
 ·exact W38 _ _ h.1 h.2
 ·exact h.elim
theorem Qwf (vs : List V) (h : (s56 vs).1) : Qad Try.prog 56 vs (s56 vs).2 := by
 unfold s56 at h ⊢
 split at h
 ·exact W56 _ _ _
 ·exact h.elim
def eW1 (w : Span) : List V := [.ag (Qap w)]
def dW1 : List V → Span | [.ag s] => Qev s | _ => Qev []
theorem Qvj (w : Span) : dW1 (eW1 w) = w := by simp [dW1, eW1, Qf2]
def farB (c : Cane) : Bool := decide ((60 : Int) < c.bents.length)
noncomputable def H27 : Gam := ((((H26.ext 38 s38).ext 56 s56).ext 37 (fnG eCII dCII (fun a => Qdq a.1 a.2.2) (fun a => Qha a.1 a.2.1 a.2.2) .b)).ext 89 (fnG eW1 dW1 (fun _ => True) (fun w => Qb1 w 540) .b)).ext 15 (fnG eC1 dC1 (fun _ => True) farB .b)
theorem Qw4 : GOk Try.prog H27 := by
 have k1 := Qo3.ext (f := 38) (r := s38) (fun a w => Try.call38 a w) Qwe
 have k2 := k1.ext (f := 56) (r := s56) (fun a w => Try.call56 a w) Qwf
 have k3 := k2.ext (f := 37) (fun a w => Try.call37 a w) (Qb6 (e := eCII) (d := dCII) (ok := fun a => Qdq a.1 a.2.2) (g := fun a => Qha a.1 a.2.1 a.2.2) (eb := .b) fun a h => W37 a.1 a.2.1 a.2.2 h)
 have k4 := k3.ext (f := 89) (fun a w => Try.call89 a w) (Qb6 (e := eW1) (d := dW1) (ok := fun _ => True) (g := fun w => Qb1 w 540) (eb := .b) fun a _ => W89 a)
 exact k4.ext (f := 15) (fun a w => Try.call15 a w) (Qb6 (e := eC1) (d := dC1) (ok := fun _ => True) (g := farB) (eb := .b) fun a _ => W15 a)
theorem h38 (a b : Int) : H27 38 [.i a, .i b] = (tame 1000000 a ∧ tame 1000000 b, .i (Qb0 a b)) := rfl
theorem h56 (n lo hi : Int) : H27 56 [.i n, .i lo, .i hi] = (True, .b (Qak n lo hi)) := rfl
theorem h37 (c : Cane) (b i : Int) : H27 37 [.ag (Qa8 c), .i b, .i i] = (Qdq c i, .b (Qha c b i)) :=
 (show H27 37 _ = fnG eCII dCII (fun a => Qdq a.1 a.2.2) (fun a => Qha a.1 a.2.1 a.2.2) .b (eCII (c, b, i)) from rfl).trans (Qba _ (Qvc _))
theorem h89 (w : Span) : H27 89 [.ag (Qap w)] = (True, .b (Qb1 w 540)) := (show H27 89 _ = fnG eW1 dW1 (fun _ => True) (fun w => Qb1 w 540) .b (eW1 w) from rfl).trans (Qba _ (Qvj _))
theorem h15 (c : Cane) : H27 15 [.ag (Qa8 c)] = (True, .b (farB c)) := (show H27 15 _ = fnG eC1 dC1 (fun _ => True) farB .b (eC1 c) from rfl).trans (Qba _ (Qi3 _))
theorem W16 (c : Cane) : Qad Try.prog 16 [.ag (Qa8 c)] (.i (Qbx c)) := by
 refine Qae Qw4 hmix Try.func16 cb16 cc16 cs16 cn16 ?_
 have key : Qdp c = (Qb1 c.spring 500 && decide (c.spring.high - c.spring.low ≤ 40) && decide ((c.bents.length : Int) ≤ 8) && Qak c.wrong 0 2 && Qak c.limit 1 90 && Qak c.tire 0 90 && !(c.bents.any fun b => !Qcq b)) := by
  unfold Qdp
  cases (c.bents.any fun b => !Qcq b) <;> simp
 simp only [rc16, rs16, h56, Qal, Qaa, Qab, Qah, Qc8, Qai, Qac, Qa7, putB, Qaf, Qa6, Qa2, Fam.step, Qag, Qbi, Qbd, Qat, Qb7, ug, putB, nv, sv, evO, opv, qv, Qam, binV, ldV, lenV, curG, Qay, putAt, V.cells, Qas, Qb2, Qa9, Qa5, flat, Qa3, Qar, Qa0, Qa4, ↓reduceIte, Nat.reduceEqDiff, Nat.reduceAdd, Nat.reduceLT, Nat.reduceLeDiff, Qa, Qb, Qv, Qs, Qf, Qg, Qj, Qr, Zn, Qh, Q2, Qq, Qm, Qk, Qe, Za, endQ, rvs, rv1, resV, vw_i, Qb3, Qax, zipA, beq_self_eq_true, Qi, Zm, V.i.injEq, Qp, Qt, Qo, Qc, decide_eq_true_eq, decide_eq_false_iff_not, true_and, and_true, and_self, implies_true, beq_false, Q7, Qdv, Zw, imp_self, Qy, Zo, Qa8]
 refine ⟨fun h => ⟨h, ?_⟩, fun h => ?_, fun h => ?_⟩
 ·simp only [Z2, decide_eq_false_iff_not] at h
  unfold inI; omega
 ·have e : ¬ Qdp c = true := by
   rw [key]
   intro h2
   simp only [Zp, decide_eq_true_eq, Qb1, Qak] at h2
   simp only [Xr, decide_eq_true_eq, Q7, Qak, Zz, decide_eq_false_iff_not] at h
   omega
  rw [Qbx, if_neg e]
 ·have hb8 : c.bents.length ≤ 8 ∧ ∀ q, Qdp c = q ↔ (!(c.bents.any fun b => !Qcq b)) = q := by
   simp only [Z2, decide_eq_false_iff_not, Zq, Qak, Zp, decide_eq_true_eq] at h
   refine ⟨by omega, fun q => ?_⟩
   rw [key]
   have e : (Qb1 c.spring 500 && decide (c.spring.high - c.spring.low ≤ 40) && decide ((c.bents.length : Int) ≤ 8) && Qak c.wrong 0 2 && Qak c.limit 1 90 && Qak c.tire 0 90) = true := by
    simp only [Zp, decide_eq_true_eq, Qb1, Qak]
    omega
   rw [e, Zx]
  refine Qcu c.bents.length (fun i => ⟨lkp [(1, .pa (Qa8 c)), (4, .i i)], [.cells 0 [.i c.spring.low, .i c.spring.high]]⟩) (fun i => ∀ (j : Nat) b, j < i → c.bents[j]? = some b → Qcq b = true) ?_ ?_ ?_ ?_
  ·simp only [Zf, cutH, kp, cutV, cutL, cutB, Qa0, Qa4, ↓reduceIte, Nat.reduceEqDiff, Qa, Qb, Qh, Qx, Qa8]
  ·intro j b hj; omega
  ·intro i hi hc
   obtain ⟨b, hb⟩ : ∃ b, c.bents[i]? = some b := ⟨_, Q4 hi⟩
   have hlt : (i : Int) < c.bents.length := by omega
   have h4 : inI ((i : Int) + 1) := by unfold inI; omega
   simp only [hb, hlt, h56, h4, Zi, Zj, Qal, Qaa, Qab, Qah, Qc8, Qai, Qac, Qa7, Qci, ↓Qbf, cutH, putB, Qaf, Qaq, Qa6, Qa2, Fam.step, Qag, Qbi, Qbd, Qat, Qb7, ug, putB, nv, sv, evO, opv, qv, Qam, binV, ldV, iadV, lenV, curG, Qay, putAt, V.cells, Qas, Qb2, Qa9, Qa5, flat, kp, cutV, cutL, cutB, Qa3, Qar, Qa0, Qa4, ↓reduceIte, Nat.reduceEqDiff, Nat.reduceAdd, Nat.reduceLT, Nat.reduceLeDiff, Qa, Qb, Qv, Qs, Qf, Qg, Qj, Qr, Zn, Qh, Q2, Qx, Qq, Qn, Qm, Qk, Qe, Ql, Q8, Za, Zk, endQ, rvs, rv1, resV, vw_i, Zb, beq_self_eq_true, Qi, Zm, V.i.injEq, Qp, Qt, Qo, Qc, decide_true, true_and, and_true, and_self, implies_true, Zh, beq_false, Xj, Zq, Q7, Qdv, Zw, Z1, imp_self, Qy, Qz, Qd, Zg, Zo, eBent, Qa8]
   refine ⟨fun e => ?_, fun e => ?_⟩
   ·have hn : ¬ Qcq b = true := by
     rw [Qh8]
     simp only [Xr, decide_eq_true_eq, Q7, Qak, Zz, decide_eq_false_iff_not] at e
     omega
    have e2 : ¬ Qdp c = true := by
     rw [hb8.2 true]
     simp only [Q7, Z7]
     intro h2
     exact hn (by simpa using h2 b (Zc hb))
    rw [Qbx, if_neg e2]
   ·intro j b' hj hb'
    by_cases hji : j < i
    ·exact hc j b' hji hb'
    ·have : j = i := by omega
     subst this
     rw [hb] at hb'
     cases hb'
     rw [Qh8]
     simp only [Z2, decide_eq_false_iff_not, Zq, Qak, Zp, decide_eq_true_eq] at e
     omega
  ·intro hc
   have e2 : Qdp c = true := by
    rw [hb8.2 true]
    simp only [Q7, Z7]
    intro b hb
    obtain ⟨j, hj⟩ := Z0 hb
    simpa using hc j b (Qao hj) hj
   have h77 : ¬ ((c.bents.length : Int) < c.bents.length) := by omega
   simp only [h77, Qbx, e2, Qaa, Qab, Qah, Qbb, Qac, Qa7, Qaf, Qaq, Qa6, Qa2, Fam.step, Qag, evO, opv, qv, binV, ldV, lenV, Qa3, Qa0, Qa4, ↓reduceIte, Nat.reduceEqDiff, Nat.reduceAdd, Nat.reduceLeDiff, Qa, Qb, Qf, Qg, Qj, Qr, Qq, endQ, rvs, rv1, resV, vw_i, Qi, Qc, decide_false, and_self, Qy, Qa8]
noncomputable def H28 : Gam := H27.ext 16 (fnG eC1 dC1 (fun _ => True) Qbx .i)
theorem Qw5 : GOk Try.prog H28 := Qw4.ext (f := 16) (fun a w => Try.call16 a w) (Qb6 fun c _ => W16 c)
theorem h16 (c : Cane) : H28 16 [.ag (Qa8 c)] = (True, .i (Qbx c)) := (show H28 16 _ = fnG eC1 dC1 (fun _ => True) Qbx .i (eC1 c) from rfl).trans (Qba _ (Qi3 _))
theorem Quo (a b : Int)  : H28 38 [.i a, .i b] = (tame 1000000 a ∧ tame 1000000 b, .i (Qb0 a b)) := h38 a b
theorem Qup (n lo hi : Int)  : H28 56 [.i n, .i lo, .i hi] = (True, .b (Qak n lo hi)) := h56 n lo hi
theorem W66 (c : Cane) (k : Int) (h : OkC c ∧ tame 1000000 k) : Qad Try.prog 66 [.ag (Qa8 c), .i k] (.i (Qf4 c k)) := by
 refine Qae Qw5 hmix Try.func66 cb66 cc66 cs66 cn66 ?_
 have k4 := h.1.bents
 simp only [rc66, rs66, Qaa, Qab, Qai, Qa7, Qaf, Qa6, Qa2, Fam.step, Qag, evO, opv, qv, V.cells, Qas, Qa9, Qa5, Qa3, Qa0, Qa4, ↓reduceIte, Nat.reduceEqDiff, Qa, Qb, vw_i, Qb3, Qax, zipA, Qi, Qo, true_and, and_self, reduceCtorEq, Qa8]
 refine Qcp c.bents.length (fun j => ⟨lkp [(1, .i k), (2, .pa (Qa8 c)), (5, .i ((c.bents.take j).countP (Qby k))), (6, .i j)], []⟩) ?_ ?_ ?_
 ·simp only [Zf, List.countP_nil, kp, Qa0, Qa4, ↓reduceIte, Nat.reduceEqDiff, Qa, Qb, Q2, Qa8]
 ·intro j hj
  obtain ⟨b, hb⟩ : ∃ b, c.bents[j]? = some b := ⟨_, Q4 hj⟩
  have hltj : (j : Int) < c.bents.length := by omega
  have h4 : inI ((j : Int) + 1) := by unfold inI; omega
  have h5 := h.1.bentT (Zc hb)
  have hc : (c.bents.take j).countP (Qby k) ≤ j := Nat.le_trans List.countP_le_length (by simp; omega)
  have h7 : inI (((c.bents.take j).countP (Qby k) : Int) + 1) := by unfold inI; omega
  have hct : ∀ q : Bool, Qby k b = q → ((c.bents.take (j + 1)).countP (Qby k) : Int) = (c.bents.take j).countP (Qby k) + (if q = true then 1 else 0) := by
   rintro q rfl
   rw [Qbt hb, List.countP_append, List.countP_singleton]
   split <;> simp
  simp only [hb, hltj, Quo, Qup, Zi, Zj, Qal, Qaa, Qbo, Qab, Qah, Qc8, Qai, Qa7, Qb9, Qaf, Qaq, Qa6, Qa2, Fam.step, Qag, runX, eff, Qb8, fpR, fpQ, fpV, Qc5, hits, evO, opv, qv, binV, ldV, iadV, lenV, Qay, Qa9, Qa5, flat, kp, Qa3, Qa0, Qa4, ↓reduceIte, Nat.reduceEqDiff, Nat.reduceAdd, Nat.reduceLT, Nat.reduceLeDiff, Qa, Qb, Qs, Qf, Qg, Qj, Qr, Qq, Qn, Qm, Qk, Qu, Q8, Q1, Qw, Q3, vw_i, Zb, Qi, Qp, Qt, Q6, Qo, Q9, Q5, Qc, decide_true, true_and, and_true, and_self, implies_true, Zh, Ze, Q0, Q7, Qy, Qz, Qd, Zg, Z8, eBent, Qa8]
  refine ⟨⟨h5, h.2⟩, fun e => ?_, fun e => ?_⟩
  ·have e2 : Qby k b = true := by simp [Qby, e]
   simp only [h7, h4, hct true e2, ↓reduceIte, and_self]
  ·have e2 : Qby k b = false := by simp [Qby, e]
   simp only [h4, hct false e2, Int.add_zero, ↓reduceIte, Qc, and_self]
 ·simp only [Zs, Qf4, Qaa, Qab, Qah, Qbb, Qac, Qa7, Qaf, Qaq, Qa6, Qa2, Fam.step, Qag, evO, opv, qv, binV, ldV, lenV, Qa3, Qa0, Qa4, ↓reduceIte, Nat.reduceEqDiff, Nat.reduceAdd, Nat.reduceLeDiff, Qa, Qb, Qf, Qg, Qj, Qr, Qq, endQ, rvs, rv1, resV, vw_i, Zl, Qi, Qc, decide_false, and_self, Qy, Qa8]
noncomputable def H29 : Gam := H28.ext 66 (fnG eCI dCI (fun a => OkC a.1 ∧ tame 1000000 a.2) (fun a => (Qf4 a.1 a.2 : Int)) .i)
theorem Qo4 : GOk Try.prog H29 := Qw5.ext (f := 66) (fun a w => Try.call66 a w) (Qb6 (e := eCI) (d := dCI) (ok := fun a => OkC a.1 ∧ tame 1000000 a.2) (g := fun a => (Qf4 a.1 a.2 : Int)) (eb := .i) fun a h => W66 a.1 a.2 h)
theorem h66 (c : Cane) (k : Int) : H29 66 [.ag (Qa8 c), .i k] = (OkC c ∧ tame 1000000 k, .i (Qf4 c k)) :=
 (show H29 66 _ = fnG eCI dCI (fun a => OkC a.1 ∧ tame 1000000 a.2) (fun a => (Qf4 a.1 a.2 : Int)) .i (eCI (c, k)) from rfl).trans (Qba _ (Qt1 _))
theorem Qs4 (n lo hi : Int)  : H29 56 [.i n, .i lo, .i hi] = (True, .b (Qak n lo hi)) := h56 n lo hi
theorem Qur (a b : Int)  : H29 38 [.i a, .i b] = (tame 1000000 a ∧ tame 1000000 b, .i (Qb0 a b)) := h38 a b
theorem Quq (c : Cane) (b i : Int)  : H29 37 [.ag (Qa8 c), .i b, .i i] = (Qdq c i, .b (Qha c b i)) := h37 c b i
def isTB (c : Cane) (k : Int) : Bool := Qak k c.spring.low c.spring.high && Qdt c k
theorem W34 (c : Cane) (k : Int) (h : OkC c) : Qad Try.prog 34 [.ag (Qa8 c), .i k] (.b (isTB c k)) := by
 refine Qae Qo4 hmix Try.func34 cb34 cc34 cs34 cn34 ?_
 have g1 := h66 c k
 unfold Qa8 at g1
 by_cases hw : Qak k c.spring.low c.spring.high = true
 ·have ht : tame 1000000 k := by
   have hw' := hw
   simp only [Qak, Zp, decide_eq_true_eq] at hw'
   have := h.low
   have := h.high
   unfold tame; omega
  simp only [rc34, rs34, Qs4, g1, hw, h, ht, isTB, Qdt, Qaa, Qbo, Qab, Qac, Qa7, Qb9, Qaf, Qa6, Qa2, Fam.step, Qag, Qbd, Qb7, ug, runX, eff, Qb8, fpR, fpQ, fpV, Qc5, hits, evO, opv, qv, Qam, binV, ldV, Qay, V.cells, Qas, Qa9, Qa5, flat, Qa3, Qa0, Qa4, ↓reduceIte, Nat.reduceEqDiff, Nat.reduceAdd, Nat.reduceLT, Nat.reduceLeDiff, Qa, Qb, Qv, Qs, Qf, Qg, Qj, Qr, Qh, Qx, Qq, Qn, Qm, Qk, Qu, Q1, Qw, Q3, endQ, rvs, rv1, resV, vw_i, vw_b, Qb3, Qax, zipA, beq_self_eq_true, Qi, Qp, Qt, Zx, Q6, Qo, Q9, Q5, Qc, Z4, and_self, forall_const, implies_true, reduceCtorEq, Ze, Q0, Qd, Qa8]
 ·simp only [rc34, rs34, Qs4, g1, hw, isTB, Qaa, Qbo, Qab, Qac, Qa7, Qb9, Qaf, Qa6, Qa2, Fam.step, Qag, Qbd, Qb7, ug, runX, eff, Qb8, fpR, fpQ, fpV, Qc5, hits, evO, opv, qv, Qam, binV, ldV, Qay, V.cells, Qas, Qa9, Qa5, flat, Qa3, Qa0, Qa4, ↓reduceIte, Nat.reduceEqDiff, Nat.reduceAdd, Nat.reduceLT, Nat.reduceLeDiff, Qa, Qb, Qv, Qs, Qf, Qg, Qj, Qr, Qh, Qx, Qq, Qn, Qm, Qk, Qu, Q1, Qw, Q3, endQ, rvs, rv1, resV, vw_i, vw_b, Qb3, Qax, zipA, Qi, Qp, Qt, Q6, Qo, Q9, Q5, Qc, true_and, and_true, and_self, false_and, forall_const, implies_true, reduceCtorEq, Ze, Q0, beq_true, imp_self, Qd, Qa8]
theorem W21 (l : List Int) (k : Int) (h : Qd8 l ∧ tame 1000 k) : Qad Try.prog 21 [.sl 1 (l.map eI), .i k] (.i (Qav l k)) := by
 refine Qae Qo4 hmix Try.func21 cb21 cc21 cs21 cn21 ?_
 simp only [rc21, rs21, Qaa, Qab, Qai, Qa7, Qaf, Qa6, Qa2, Fam.step, Qag, evO, opv, qv, Qa3, Qa0, Qa4, ↓reduceIte, Nat.reduceEqDiff, Qa, Qb, zipA, Qi, true_and, reduceCtorEq]
 have hl := h.1.1
 refine Qcp l.length (fun i => ⟨lkp [(0, .sl 1 (l.map eI)), (1, .i k), (5, .i (Qav (l.take i) k)), (6, .i i)], []⟩) ?_ ?_ ?_
 ·simp only [Zf, Qav, List.sum_nil, kp, Qa0, Qa4, ↓reduceIte, Nat.reduceEqDiff, Qa, Qb, Q2, reduceCtorEq]
 ·intro i hi
  obtain ⟨n, hn⟩ : ∃ n, l[i]? = some n := ⟨_, Q4 hi⟩
  have hlt : (i : Int) < l.length := by omega
  have h1 := h.1.2 n (Zc hn)
  have h2 := Qdj h1 h.2
  have h3 := Qj8 h.2 (l := l.take i) fun m hm => h.1.2 m (List.mem_of_mem_take hm)
  rw [Xo] at h3
  have h4 : tame 1000000 n ∧ tame 1000000 k := by have := h.2; unfold tame at *; omega
  have h5 : inI (n - Qb0 n k) ∧ inI (Qav (l.take i) k + (n - Qb0 n k)) ∧ inI ((i : Int) + 1) := by unfold tame at *; unfold inI; omega
  simp only [hn, hlt, Qur, h4, h5, Qj7 hn, Zi, Zj, Qal, Qaa, Qbo, Qab, Qah, Qai, Qa7, Qb9, Qaf, Qaq, Qa6, Qa2, Fam.step, Qag, runX, eff, Qb8, fpR, fpQ, fpV, Qc5, hits, evO, opv, qv, binV, ldV, iadV, lenV, Qay, Qa9, Qa5, flat, kp, Qa3, Qa0, Qa4, ↓reduceIte, Nat.reduceEqDiff, Nat.reduceLT, Nat.reduceLeDiff, Qa, Qb, Qs, Qf, Qg, Qq, Qn, Qm, Qk, Qu, Q8, Q1, Qw, Q3, vw_i, Zb, Qi, Qp, Qt, Q6, Qo, Q9, Q5, Qc, decide_true, and_self, implies_true, reduceCtorEq, Zh, Ze, Q0, Qy, Qz, Qd, Zg, eI]
 ·simp only [Zs, Qaa, Qab, Qah, Qbb, Qac, Qa7, Qaf, Qaq, Qa6, Qa2, Fam.step, Qag, evO, opv, qv, binV, lenV, Qa3, Qa0, Qa4, ↓reduceIte, Nat.reduceEqDiff, Qa, Qb, endQ, rvs, rv1, resV, vw_i, Zl, Qc, decide_false, and_self, reduceCtorEq, Qy]
def areB (c : Cane) (l : List Int) : Bool := decide (l.length ≤ 6) && (Z5 l.length).all fun i => Qha c (l.getD i 0) i
theorem W17 (c : Cane) (l : List Int) (h : OkC c) : Qad Try.prog 17 [.ag (Qa8 c), .sl 1 (l.map eI)] (.b (areB c l)) := by
 refine Qae Qo4 hmix Try.func17 cb17 cc17 cs17 cn17 ?_
 simp only [rc17, rs17, Qaa, Qab, Qai, Qa7, Qaf, Qa6, Qa2, Fam.step, Qag, evO, opv, qv, V.cells, Qas, Qa9, Qa5, Qa3, Qa0, Qa4, ↓reduceIte, Nat.reduceEqDiff, Qa, Qb, vw_i, Qb3, Qax, zipA, Qi, Qo, true_and, and_self, reduceCtorEq, Qa8]
 refine Qcu l.length (fun i => ⟨lkp [(1, .sl 1 (l.map eI)), (2, .pa (Qa8 c)), (5, .i i)], []⟩) (fun i => i ≤ 6 ∧ ∀ j : Nat, j < i → Qha c (l.getD j 0) j = true) ?_ ?_ ?_ ?_
 ·simp only [Zf, kp, Qa0, Qa4, ↓reduceIte, Nat.reduceEqDiff, Qa, Qb, Qa8]
 ·exact ⟨by omega, fun j hj => by omega⟩
 ·rintro i hi ⟨h6, hc⟩
  obtain ⟨n, hn⟩ : ∃ n, l[i]? = some n := ⟨_, Q4 hi⟩
  have hd : l.getD i 0 = n := by rw [Qd, hn]; rfl
  have hlt : (i : Int) < l.length := by omega
  have h4 : inI ((i : Int) + 1) := by unfold inI; omega
  have g1 := Quq c n i
  unfold Qa8 at g1
  have hm := h.most (i := i) (by unfold tame; omega)
  by_cases hi6 : (6 : Int) ≤ i
  ·have e : areB c l = false := by
    have : ¬ l.length ≤ 6 := by omega
    simp [areB, this]
   simp only [hlt, hi6, e, Qal, Qaa, Qbo, Qab, Qah, Qai, Qac, Qa7, Qb9, Qaf, Qaq, Qa6, Qa2, Fam.step, Qag, Qbd, Qb7, ug, runX, eff, Qb8, fpR, fpQ, fpV, Qc5, hits, evO, opv, qv, Qin, binV, ldV, iadV, lenV, Qay, Qa9, Qa5, kp, Qa3, Qa0, Qa4, ↓reduceIte, Nat.reduceEqDiff, Nat.reduceAdd, Nat.reduceLT, Nat.reduceLeDiff, Qa, Qb, Qv, Qs, Qf, Qg, Qh, Qx, Qn, Qm, Qk, Qu, Q1, Qw, Q3, endQ, rvs, rv1, resV, vw_i, vw_b, Qb3, Qax, Zb, Qi, Qp, Qt, Q6, Qo, Z9, Q9, Q5, Qc, Z4, decide_true, true_and, and_true, and_self, false_and, forall_const, implies_true, Ze, Q0, beq_false, imp_self, Qy, Qz, Qd, Zg, Qa8]
  ·simp only [hn, hlt, g1, hm, h4, hi6, Zi, Zj, Qal, Qaa, Qbo, Qab, Qah, Qc8, Qai, Qac, Qa7, Qb9, Qaf, Qaq, Qa6, Qa2, Fam.step, Qag, Qbd, Qb7, ug, runX, eff, Qb8, fpR, fpQ, fpV, Qc5, hits, evO, opv, qv, Qam, binV, ldV, iadV, lenV, Qay, Qa9, Qa5, flat, kp, Qa3, Qa0, Qa4, ↓reduceIte, Nat.reduceEqDiff, Nat.reduceAdd, Nat.reduceLT, Nat.reduceLeDiff, Qa, Qb, Qv, Qs, Qf, Qg, Qh, Qx, Qq, Qn, Qm, Qk, Qu, Q8, Q1, Qw, Q3, endQ, rvs, rv1, resV, vw_i, vw_b, Qb3, Qax, Zb, beq_self_eq_true, Qi, V.b.injEq, Qp, Qt, Q6, Qo, Q9, Q5, Qc, decide_true, decide_false, true_and, and_true, and_self, forall_const, implies_true, Zh, Ze, Q0, Q7, Qy, Qz, Qd, Zg, Z8, Qa8, eI]
   refine ⟨fun hp => ?_, fun hp => ?_⟩
   ·have e : areB c l = false := by
     unfold areB
     rw [Zz]
     right
     rw [Xi]
     exact ⟨i, by simpa using hi, by rw [hd]; simpa using hp⟩
    simp only [e]
   ·refine ⟨by omega, fun j hj => ?_⟩
    by_cases hji : j < i
    ·rw [← Qd]; exact hc j hji
    ·have : j = i := by omega
     subst this
     rw [← Qd, hd]; exact hp
 ·rintro ⟨h6, hc⟩
  have h77 : ¬ ((l.length : Int) < l.length) := by omega
  have e : areB c l = true := by
   unfold areB
   rw [Zp]
   refine ⟨by simpa using h6, ?_⟩
   rw [Xm]
   intro j hj
   exact hc j (by simpa using hj)
  simp only [h77, e, Qaa, Qab, Qah, Qbb, Qac, Qa7, Qaf, Qaq, Qa6, Qa2, Fam.step, Qag, evO, opv, qv, binV, lenV, Qa3, Qa0, Qa4, ↓reduceIte, Nat.reduceEqDiff, Qa, Qb, endQ, rvs, rv1, resV, vw_b, Qc, decide_false, and_self, Qy, Qa8]
end Go.C06
