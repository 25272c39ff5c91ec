import Derived.Test.YtmogdmjfhibknaaGreatG6
import Derived.Test.YtmogdmjfhibknaaGreatG4
import Derived.Test.YtmogdmjfhibknaaGreatChecked
set_option linter.all false
open List renaming mem_of_getElem? → Qc, getElem?_eq_getElem → Qd, getElem?_of_mem → Qe, contains_nil → Qn, not_any_eq_all_not → Qo, replicate_succ → Qp, map_nil → Qq, contains_cons → Qr, isEmpty_cons → Qs, flatten_nil → Qt, map_cons → Qv, getElem?_take → Qw, any_eq_false → Qx, any_cons → Qy, length_take → Qz, countP_nil → Q0, mem_range → Q2, flatten_append → Q3, countP_append → Q4, flatten_cons → Q5, any_eq_true → Q6, countP_cons → Q8, map_append → Zb, foldl_nil → Zc
open Nat renaming mul_one → Q9
open Bool renaming false_eq_true → Qa, true_eq_false → Qb, or_true → Qi, true_and → Qj, and_false → Qk, not_eq_true → Qm, false_or → Qu, and_eq_false_iff → Q1, and_eq_true → Q7
open Option renaming map_some → Za
open Int renaming natCast_one → Qf, natCast_zero → Qg, natCast_add → Qh, lt_irrefl → Ql
set_option linter.all false
namespace Go.CS
open Go.Fam Go.Proofs
open Go.C06 (Span eI eIs Qbx gI gR dI Qbl Qcj fnG Qad Qab Qa6 Qa8 idxOf Qas Qaj Qal Qar Qai Qag Qac Qat Qb3 Qc5 vw_I Qay hmix eLI dLI Qca Qan Qa3 Qaa Qau)
variable {Γ : Gam}
theorem Q161 (hG : GOk Tryz.prog Γ) (l : List Spare) (f : Nat) (hf : f < 1000000) (caps : List V) (p : Spare → Bool) (C : Prop) (hC : C) (hv : caps.map (vw [] 8) = caps) (hr : Qa1 caps = false) (hl : l.length < 10000000)
  (h : ∀ x ∈ l, Γ f (V.ag (eSpare x) :: caps) = (C, .b (p x))) : Qa5 Tryz.prog 161 [.sl 4 (l.map eSpare), .fn f caps] (.i (idxOf p l)) := by
 refine Qa4 hG hmix Tryz.func161 Qw6.b Qw6.c Qw6.s Qw6.n ?_
 simp only [rc161, rs161, Qa0, ↓reduceIte, Nat.reduceEqDiff, Int.reduceNeg, zipA, reduceCtorEq, BU1]
 refine Qap l.length (fun i => ⟨lkp [(0, .sl 4 (l.map eSpare)), (1, .fn f caps), (7, .i l.length), (8, .i i)], []⟩) (fun i => ∀ j x, j < i → l[j]? = some x → p x = false) ?_ ?_ ?_ ?_
 ·simp only [Qg, ↓reduceIte, Nat.reduceEqDiff, reduceCtorEq, BU1]
 ·intro j x h; omega
 ·intro i hi hc
  obtain ⟨x, hx⟩ : ∃ x, l[i]? = some x := ⟨_, Qd hi⟩
  have hlt : (i : Int) < l.length := by omega
  have h3 : inI ((i : Int) + 1) := by unfold inI; omega
  have hp := h x (Qc hx)
  try simp only [eSpare] at hp
  simp only [hx, hlt, Qh, Qf, h3, hp, hv, hr, hf, hC, Qdp, Qa0, Qa2, Qa1, flat, ↓reduceIte, Nat.reduceEqDiff, Nat.reduceAdd, Nat.reduceLeDiff, Int.reduceNeg, rvs, V.i.injEq, Qa, implies_true, reduceCtorEq, Qm, eSpare, BU1]
  refine ⟨fun e => ?_, fun e => ?_⟩
  ·rw [Qas hx e hc]
  ·exact Qc1 hx e hc
 ·intro hc
  simp only [Qa0, ↓reduceIte, Nat.reduceEqDiff, Int.reduceNeg, rvs, Ql, V.i.injEq, Qa, reduceCtorEq, BU1]
  exact (Qaj fun x hx => by
   obtain ⟨j, hj⟩ := Qe hx
   exact hc j x (by have := Qaf hj; exact this) hj).symm
def e1P (x : Spare) : List V := [V.ag (eSpare x), .pa [.fn 132 []]]
def d1P : List V → Spare | [.ag s, _] => Qjy s | _ => ⟨0, 0, ⟨0, 0⟩⟩
theorem Zh3 (x : Spare) : d1P (e1P x) = x := by simp [d1P, e1P, Qhc]
noncomputable def K21 : Gam := K20.ext 155 (fnG e1P d1P (fun _ => True) (fun x => !okSpare x) .b)
theorem Zeg : GOk Tryz.prog K21 := Zef.ext (f := 155) (fun a w => Tryz.call155 a w) (Qad (e := e1P) (d := d1P) (ok := fun _ => True) (g := fun x => !okSpare x) (eb := .b) fun x _ => W155 x)
theorem h155 (x : Spare) : K21 155 [V.ag (eSpare x), .pa [.fn 132 []]] = (True, .b (!okSpare x)) := (show K21 155 _ = fnG e1P d1P (fun _ => True) (fun x => !okSpare x) .b (e1P x) from rfl).trans (Qab _ (Zh3 _))
def e2P (l : List Spare) : List V := [.sl 4 (l.map eSpare), .fn 155 [.pa [.fn 132 []]]]
def d2P : List V → List Spare | [.sl _ l, _] => l.map Qjy | _ => []
theorem Zcv (l : List Spare) : d2P (e2P l) = l := by simp [d2P, e2P, Function.comp_def, Qhc]
noncomputable def K22 : Gam := K21.ext 161 (fnG e2P d2P (fun l => l.length < 10000000) (idxOf fun x => !okSpare x) .i)
theorem Zeh : GOk Tryz.prog K22 := Zeg.ext (f := 161) (fun a w => Tryz.call161 a w) (Qad (e := e2P) (d := d2P) (ok := fun l => l.length < 10000000) (g := idxOf fun x => !okSpare x) (eb := .i) fun l h => Q161 Zeg l 155 (by decide) [.pa [.fn 132 []]] _ True trivial rfl rfl h fun x _ => h155 x)
theorem h161 (l : List Spare) : K22 161 [.sl 4 (l.map eSpare), .fn 155 [.pa [.fn 132 []]]] = (l.length < 10000000, .i (idxOf (fun x => !okSpare x) l)) := (show K22 161 _ = fnG e2P d2P (fun l => l.length < 10000000) (idxOf fun x => !okSpare x) .i (e2P l) from rfl).trans (Qab _ (Zcv _))
theorem W154 (l : List Spare) (h : l.length < 10000000) : Qa5 Tryz.prog 154 [.sl 4 (l.map eSpare), .fn 155 [.pa [.fn 132 []]]] (.b (l.any fun x => !okSpare x)) := by
 refine Qa4 Zeh hmix Tryz.func154 Qw0.b Qw0.c Qw0.s Qw0.n ?_
 simp only [rc154, rs154, h161, Qa0, Qa2, Qa1, flat, ↓reduceIte, Nat.reduceEqDiff, Nat.reduceLT, rvs, zipA, V.b.injEq, Qa, implies_true, reduceCtorEq, BU1]
 exact ⟨h, by rw [Qal]⟩
noncomputable def K23 : Gam := K22.ext 154 (fnG e2P d2P (fun l => l.length < 10000000) (fun l => l.any fun x => !okSpare x) .b)
theorem Zei : GOk Tryz.prog K23 := Zeh.ext (f := 154) (fun a w => Tryz.call154 a w) (Qad (e := e2P) (d := d2P) (ok := fun l => l.length < 10000000) (g := fun l => l.any fun x => !okSpare x) (eb := .b) fun l h => W154 l h)
theorem h154 (l : List Spare) : K23 154 [.sl 4 (l.map eSpare), .fn 155 [.pa [.fn 132 []]]] = (l.length < 10000000, .b (l.any fun x => !okSpare x)) := (show K23 154 _ = fnG e2P d2P (fun l => l.length < 10000000) (fun l => l.any fun x => !okSpare x) .b (e2P l) from rfl).trans (Qab _ (Zcv _))
def e3P (l : List Spare) : List V := [.sl 4 (l.map eSpare), .fn 132 []]
theorem Zh7 (l : List Spare) : d2P (e3P l) = l := by simp [d2P, e3P, Function.comp_def, Qhc]
theorem W141 (l : List Spare) (h : l.length < 10000000) : Qa5 Tryz.prog 141 [.sl 4 (l.map eSpare), .fn 132 []] (.b (l.all okSpare)) := by
 refine Qa4 Zei hmix Tryz.func141 Qvr.b Qvr.c Qvr.s Qvr.n ?_
 have e : (!(l.any fun x => !okSpare x)) = l.all okSpare := by rw [Qo]; simp
 simp only [rc141, rs141, h154, h, e, Qa0, Qa2, Qa1, flat, ↓reduceIte, Nat.reduceEqDiff, Nat.reduceLT, rvs, zipA, Qa, implies_true, reduceCtorEq, BU1]
noncomputable def K24 : Gam := K23.ext 141 (fnG e3P d2P (fun l => l.length < 10000000) (fun l => l.all okSpare) .b)
theorem Zej : GOk Tryz.prog K24 := Zei.ext (f := 141) (fun a w => Tryz.call141 a w) (Qad (e := e3P) (d := d2P) (ok := fun l => l.length < 10000000) (g := fun l => l.all okSpare) (eb := .b) fun l h => W141 l h)
theorem h141 (l : List Spare) : K24 141 [.sl 4 (l.map eSpare), .fn 132 []] = (l.length < 10000000, .b (l.all okSpare)) := (show K24 141 _ = fnG e3P d2P (fun l => l.length < 10000000) (fun l => l.all okSpare) .b (e3P l) from rfl).trans (Qab _ (Zh7 _))
def okMk (n : Int) : Bool := Qa6 n 0 9
theorem W151 (n : Int) : Qa5 Tryz.prog 151 [.i n, .pa [.fn 133 []]] (.b (!okMk n)) := by
 refine Qa4 Zej hmix Tryz.func151 Qvx.b Qvx.c Qvx.s Qvx.n ?_
 have g : K24 133 [.i n] = (True, .b (okMk n)) := h133 n
 simp only [rc151, rs151, g, Qa0, Qa2, Qa1, flat, ↓reduceIte, Nat.reduceEqDiff, Nat.reduceLT, Nat.reduceLeDiff, rvs, zipA, Qa, implies_true, reduceCtorEq, BU1]
theorem P143 (hG : GOk Tryz.prog Γ) (l : List Int) (f : Nat) (hf : f < 1000000) (caps : List V) (p : Int → Bool) (C : Prop) (hC : C) (hv : caps.map (vw [] 8) = caps) (hr : Qa1 caps = false) (hl : l.length < 10000000)
  (h : ∀ x ∈ l, Γ f (V.i x :: caps) = (C, .b (p x))) : Qa5 Tryz.prog 143 [.sl 1 (l.map eI), .fn f caps] (.i (idxOf p l)) := by
 refine Qa4 hG hmix Tryz.func143 Qno.b Qno.c Qno.s Qno.n ?_
 simp only [rc143, rs143, Qa0, ↓reduceIte, Nat.reduceEqDiff, Int.reduceNeg, zipA, reduceCtorEq, BU1]
 refine Qap l.length (fun i => ⟨lkp [(0, .sl 1 (l.map eI)), (1, .fn f caps), (7, .i l.length), (8, .i i)], []⟩) (fun i => ∀ j x, j < i → l[j]? = some x → p x = false) ?_ ?_ ?_ ?_
 ·simp only [Qg, ↓reduceIte, Nat.reduceEqDiff, reduceCtorEq, BU1]
 ·intro j x h; omega
 ·intro i hi hc
  obtain ⟨x, hx⟩ : ∃ x, l[i]? = some x := ⟨_, Qd hi⟩
  have hlt : (i : Int) < l.length := by omega
  have h3 : inI ((i : Int) + 1) := by unfold inI; omega
  have hp := h x (Qc hx)
  try simp only [eI, eMake] at hp
  simp only [hx, hlt, Qh, Qf, h3, hp, hv, hr, hf, hC, Qdp, Qa0, Qa2, Qa1, flat, ↓reduceIte, Nat.reduceEqDiff, Nat.reduceLeDiff, Int.reduceNeg, rvs, V.i.injEq, Qa, implies_true, reduceCtorEq, Qm, eI, BU1]
  refine ⟨fun e => ?_, fun e => ?_⟩
  ·rw [Qas hx e hc]
  ·exact Qc1 hx e hc
 ·intro hc
  simp only [Qa0, ↓reduceIte, Nat.reduceEqDiff, Int.reduceNeg, rvs, Ql, V.i.injEq, Qa, reduceCtorEq, BU1]
  exact (Qaj fun x hx => by
   obtain ⟨j, hj⟩ := Qe hx
   exact hc j x (by have := Qaf hj; exact this) hj).symm
def e1N (x : Int) : List V := [V.i x, .pa [.fn 133 []]]
def d1N : List V → Int | [.i n, _] => n | _ => 0
theorem Zh2 (x : Int) : d1N (e1N x) = x := by simp [d1N, e1N]
noncomputable def K25 : Gam := K24.ext 151 (fnG e1N d1N (fun _ => True) (fun x => !okMk x) .b)
theorem Zek : GOk Tryz.prog K25 := Zej.ext (f := 151) (fun a w => Tryz.call151 a w) (Qad (e := e1N) (d := d1N) (ok := fun _ => True) (g := fun x => !okMk x) (eb := .b) fun x _ => W151 x)
theorem h151 (x : Int) : K25 151 [V.i x, .pa [.fn 133 []]] = (True, .b (!okMk x)) := (show K25 151 _ = fnG e1N d1N (fun _ => True) (fun x => !okMk x) .b (e1N x) from rfl).trans (Qab _ (Zh2 _))
def e2N (l : List Int) : List V := [.sl 1 (l.map eI), .fn 151 [.pa [.fn 133 []]]]
def d2N : List V → List Int | [.sl _ l, _] => l.map dI | _ => []
theorem Zcu (l : List Int) : d2N (e2N l) = l := by simp [d2N, e2N, Function.comp_def, Qbl]
noncomputable def K26 : Gam := K25.ext 143 (fnG e2N d2N (fun l => l.length < 10000000) (idxOf fun x => !okMk x) .i)
theorem Zel : GOk Tryz.prog K26 := Zek.ext (f := 143) (fun a w => Tryz.call143 a w) (Qad (e := e2N) (d := d2N) (ok := fun l => l.length < 10000000) (g := idxOf fun x => !okMk x) (eb := .i) fun l h => P143 Zek l 151 (by decide) [.pa [.fn 133 []]] _ True trivial rfl rfl h fun x _ => h151 x)
theorem h143 (l : List Int) : K26 143 [.sl 1 (l.map eI), .fn 151 [.pa [.fn 133 []]]] = (l.length < 10000000, .i (idxOf (fun x => !okMk x) l)) := (show K26 143 _ = fnG e2N d2N (fun l => l.length < 10000000) (idxOf fun x => !okMk x) .i (e2N l) from rfl).trans (Qab _ (Zcu _))
theorem W113 (l : List Int) (h : l.length < 10000000) : Qa5 Tryz.prog 113 [.sl 1 (l.map eI), .fn 151 [.pa [.fn 133 []]]] (.b (l.any fun x => !okMk x)) := by
 refine Qa4 Zel hmix Tryz.func113 Qnm.b Qnm.c Qnm.s Qnm.n ?_
 simp only [rc113, rs113, h143, Qa0, Qa2, Qa1, flat, ↓reduceIte, Nat.reduceEqDiff, Nat.reduceLT, rvs, zipA, V.b.injEq, Qa, implies_true, reduceCtorEq, BU1]
 exact ⟨h, by rw [Qal]⟩
noncomputable def K27 : Gam := K26.ext 113 (fnG e2N d2N (fun l => l.length < 10000000) (fun l => l.any fun x => !okMk x) .b)
theorem Zem : GOk Tryz.prog K27 := Zel.ext (f := 113) (fun a w => Tryz.call113 a w) (Qad (e := e2N) (d := d2N) (ok := fun l => l.length < 10000000) (g := fun l => l.any fun x => !okMk x) (eb := .b) fun l h => W113 l h)
theorem h113 (l : List Int) : K27 113 [.sl 1 (l.map eI), .fn 151 [.pa [.fn 133 []]]] = (l.length < 10000000, .b (l.any fun x => !okMk x)) := (show K27 113 _ = fnG e2N d2N (fun l => l.length < 10000000) (fun l => l.any fun x => !okMk x) .b (e2N l) from rfl).trans (Qab _ (Zcu _))
def e3N (l : List Int) : List V := [.sl 1 (l.map eI), .fn 133 []]
theorem Zh6 (l : List Int) : d2N (e3N l) = l := by simp [d2N, e3N, Function.comp_def, Qbl]
theorem W136 (l : List Int) (h : l.length < 10000000) : Qa5 Tryz.prog 136 [.sl 1 (l.map eI), .fn 133 []] (.b (l.all okMk)) := by
 refine Qa4 Zem hmix Tryz.func136 Qvm.b Qvm.c Qvm.s Qvm.n ?_
 have e : (!(l.any fun x => !okMk x)) = l.all okMk := by rw [Qo]; simp
 simp only [rc136, rs136, h113, h, e, Qa0, Qa2, Qa1, flat, ↓reduceIte, Nat.reduceEqDiff, Nat.reduceLT, rvs, zipA, Qa, implies_true, reduceCtorEq, BU1]
noncomputable def K28 : Gam := K27.ext 136 (fnG e3N d2N (fun l => l.length < 10000000) (fun l => l.all okMk) .b)
theorem Zen : GOk Tryz.prog K28 := Zem.ext (f := 136) (fun a w => Tryz.call136 a w) (Qad (e := e3N) (d := d2N) (ok := fun l => l.length < 10000000) (g := fun l => l.all okMk) (eb := .b) fun l h => W136 l h)
theorem h136 (l : List Int) : K28 136 [.sl 1 (l.map eI), .fn 133 []] = (l.length < 10000000, .b (l.all okMk)) := (show K28 136 _ = fnG e3N d2N (fun l => l.length < 10000000) (fun l => l.all okMk) .b (e3N l) from rfl).trans (Qab _ (Zh6 _))
end Go.CS
set_option linter.all false
namespace Go.CS
open Go.Fam Go.Proofs
open Go.C06 (Span eI eIs Qbx gI gR dI Qbl Qcj fnG Qad Qab Qa6 Qa8 idxOf Qas Qaj Qal Qar Qai Qag Qac Qat Qb3 Qc5 vw_I Qay hmix eLI dLI Qca Qan Qa3 Qaa Qau)
variable {Γ : Gam}
theorem Qjp (n : Int)  : K28 133 [.i n] = (True, .b (Qa6 n 0 9)) := h133 n
theorem Qyz (s : Span)  : K28 134 [.ag (Qbx s)] = (True, .b (Qez s)) := h134 s
theorem Qrs (l : List Int)  : K28 137 [.sl 1 (l.map eI)] = (l.length ≤ 1000000, .b (ascB l)) := h137 l
theorem W135 (t : Slot) : Qa5 Tryz.prog 135 [.ag (eSlot t)] (.b (okSlot t)) := by
 refine Qa4 Zen hmix Tryz.func135 Qvl.b Qvl.c Qvl.s Qvl.n ?_
 have g := Qyz t.len
 simp only [Qbx] at g
 have hE : okSlot t = (t.secs.all okMk && Qa6 t.kind 0 9 && decide ((t.secs.length : Int) ≤ 4) && ascB t.secs && Qez t.len) := rfl
 generalize okSlot t = res at hE
 cases e1 : Qa6 t.kind 0 9 with
 | false => simp only [rc135, rs135, Qjp, e1, Qa0, Qbh, Qa2, Qa1, flat, ↓reduceIte, Nat.reduceEqDiff, Nat.reduceAdd, Nat.reduceLT, Nat.reduceLeDiff, rvs, zipA, V.b.injEq, Qa, forall_const, implies_true, imp_self, eSlot, BU1]; simp [hE, e1]
 | true =>
 by_cases e2 : (t.secs.length : Int) ≤ 4
 rotate_left
 ·simp only [rc135, rs135, Qjp, e1, e2, Qa0, Qbh, Qa2, Qa1, flat, ↓reduceIte, Nat.reduceEqDiff, Nat.reduceAdd, Nat.reduceLT, Nat.reduceLeDiff, rvs, zipA, beq_self_eq_true, V.b.injEq, Qa, Qb, forall_const, implies_true, imp_self, eSlot, BU1]; simp [hE, e2]
 have hl : t.secs.length < 10000000 ∧ t.secs.length ≤ 1000000 := by omega
 cases e3 : t.secs.all okMk with
 | false => simp only [rc135, rs135, Qjp, e1, e2, h136, hl, e3, Qa0, Qbh, Qa2, Qa1, flat, ↓reduceIte, Nat.reduceEqDiff, Nat.reduceAdd, Nat.reduceLT, Nat.reduceLeDiff, rvs, zipA, beq_self_eq_true, V.b.injEq, Qa, Qb, forall_const, implies_true, imp_self, eSlot, BU1]; simp [hE, e3]
 | true =>
 cases e4 : ascB t.secs with
 | false => simp only [rc135, rs135, Qjp, e1, e2, h136, hl, e3, Qrs, e4, Qa0, Qbh, Qa2, Qa1, flat, ↓reduceIte, Nat.reduceEqDiff, Nat.reduceAdd, Nat.reduceLT, Nat.reduceLeDiff, rvs, zipA, beq_self_eq_true, V.b.injEq, Qa, Qb, forall_const, implies_true, imp_self, eSlot, BU1]; simp [hE, e4]
 | true =>
  simp only [rc135, rs135, Qjp, e1, e2, h136, hl, e3, Qrs, e4, g, Qa0, Qa2, Qa1, flat, ↓reduceIte, Nat.reduceEqDiff, Nat.reduceAdd, Nat.reduceLT, Nat.reduceLeDiff, rvs, zipA, beq_self_eq_true, V.b.injEq, Qa, Qb, forall_const, implies_true, eSlot, BU1]
  rw [hE, e1, e3, e4]; simp [e2]
def eP2 (s : Slot) : List V := [.ag (eSlot s)]
def dP2 : List V → Slot | [.ag s] => Ql7 s | _ => Ql7 []
theorem Zhf (s : Slot) : dP2 (eP2 s) = s := by simp [dP2, eP2, Qib]
noncomputable def K29 : Gam := K28.ext 135 (fnG eP2 dP2 (fun _ => True) okSlot .b)
theorem Zeo : GOk Tryz.prog K29 := Zen.ext (f := 135) (fun a w => Tryz.call135 a w) (Qad (e := eP2) (d := dP2) (ok := fun _ => True) (g := okSlot) (eb := .b) fun s _ => W135 s)
theorem h135 (s : Slot) : K29 135 [.ag (eSlot s)] = (True, .b (okSlot s)) := (show K29 135 _ = fnG eP2 dP2 (fun _ => True) okSlot .b (eP2 s) from rfl).trans (Qab _ (Zhf _))
theorem W153 (s : Slot) : Qa5 Tryz.prog 153 [.ag (eSlot s), .pa [.fn 135 []]] (.b (!okSlot s)) := by
 refine Qa4 Zeo hmix Tryz.func153 Qvz.b Qvz.c Qvz.s Qvz.n ?_
 have g := h135 s
 simp only [eSlot] at g
 simp only [rc153, rs153, g, Qa0, Qa2, Qa1, flat, ↓reduceIte, Nat.reduceEqDiff, Nat.reduceAdd, Nat.reduceLT, Nat.reduceLeDiff, rvs, zipA, Qa, implies_true, reduceCtorEq, eSlot, BU1]
theorem P160 (hG : GOk Tryz.prog Γ) (l : List Slot) (f : Nat) (hf : f < 1000000) (caps : List V) (p : Slot → Bool) (C : Prop) (hC : C) (hv : caps.map (vw [] 8) = caps) (hr : Qa1 caps = false) (hl : l.length < 10000000)
  (h : ∀ x ∈ l, Γ f (V.ag (eSlot x) :: caps) = (C, .b (p x))) : Qa5 Tryz.prog 160 [.sl 4 (l.map eSlot), .fn f caps] (.i (idxOf p l)) := by
 refine Qa4 hG hmix Tryz.func160 Qw5.b Qw5.c Qw5.s Qw5.n ?_
 simp only [rc160, rs160, Qa0, ↓reduceIte, Nat.reduceEqDiff, Int.reduceNeg, zipA, reduceCtorEq, BU1]
 refine Qap l.length (fun i => ⟨lkp [(0, .sl 4 (l.map eSlot)), (1, .fn f caps), (7, .i l.length), (8, .i i)], []⟩) (fun i => ∀ j x, j < i → l[j]? = some x → p x = false) ?_ ?_ ?_ ?_
 ·simp only [Qg, ↓reduceIte, Nat.reduceEqDiff, reduceCtorEq, BU1]
 ·intro j x h; omega
 ·intro i hi hc
  obtain ⟨x, hx⟩ : ∃ x, l[i]? = some x := ⟨_, Qd hi⟩
  have hlt : (i : Int) < l.length := by omega
  have h3 : inI ((i : Int) + 1) := by unfold inI; omega
  have hp := h x (Qc hx)
  try simp only [eSlot] at hp
  simp only [hx, hlt, Qh, Qf, h3, hp, hv, hr, hf, hC, Qdp, Qa0, Qa2, Qa1, flat, ↓reduceIte, Nat.reduceEqDiff, Nat.reduceAdd, Nat.reduceLeDiff, Int.reduceNeg, rvs, V.i.injEq, Qa, implies_true, reduceCtorEq, Qm, eSlot, BU1]
  refine ⟨fun e => ?_, fun e => ?_⟩
  ·rw [Qas hx e hc]
  ·exact Qc1 hx e hc
 ·intro hc
  simp only [Qa0, ↓reduceIte, Nat.reduceEqDiff, Int.reduceNeg, rvs, Ql, V.i.injEq, Qa, reduceCtorEq, BU1]
  exact (Qaj fun x hx => by
   obtain ⟨j, hj⟩ := Qe hx
   exact hc j x (by have := Qaf hj; exact this) hj).symm
def e1S (x : Slot) : List V := [V.ag (eSlot x), .pa [.fn 135 []]]
def d1S : List V → Slot | [.ag s, _] => Ql7 s | _ => Ql7 []
theorem Zh4 (x : Slot) : d1S (e1S x) = x := by simp [d1S, e1S, Qib]
noncomputable def K30 : Gam := K29.ext 153 (fnG e1S d1S (fun _ => True) (fun x => !okSlot x) .b)
theorem Zep : GOk Tryz.prog K30 := Zeo.ext (f := 153) (fun a w => Tryz.call153 a w) (Qad (e := e1S) (d := d1S) (ok := fun _ => True) (g := fun x => !okSlot x) (eb := .b) fun x _ => W153 x)
theorem h153 (x : Slot) : K30 153 [V.ag (eSlot x), .pa [.fn 135 []]] = (True, .b (!okSlot x)) := (show K30 153 _ = fnG e1S d1S (fun _ => True) (fun x => !okSlot x) .b (e1S x) from rfl).trans (Qab _ (Zh4 _))
def e2S (l : List Slot) : List V := [.sl 4 (l.map eSlot), .fn 153 [.pa [.fn 135 []]]]
def d2S : List V → List Slot | [.sl _ l, _] => l.map Ql7 | _ => []
theorem Zcw (l : List Slot) : d2S (e2S l) = l := by simp [d2S, e2S, Function.comp_def, Qib]
noncomputable def K31 : Gam := K30.ext 160 (fnG e2S d2S (fun l => l.length < 10000000) (idxOf fun x => !okSlot x) .i)
theorem Zeq : GOk Tryz.prog K31 := Zep.ext (f := 160) (fun a w => Tryz.call160 a w) (Qad (e := e2S) (d := d2S) (ok := fun l => l.length < 10000000) (g := idxOf fun x => !okSlot x) (eb := .i) fun l h => P160 Zep l 153 (by decide) [.pa [.fn 135 []]] _ True trivial rfl rfl h fun x _ => h153 x)
theorem h160 (l : List Slot) : K31 160 [.sl 4 (l.map eSlot), .fn 153 [.pa [.fn 135 []]]] = (l.length < 10000000, .i (idxOf (fun x => !okSlot x) l)) := (show K31 160 _ = fnG e2S d2S (fun l => l.length < 10000000) (idxOf fun x => !okSlot x) .i (e2S l) from rfl).trans (Qab _ (Zcw _))
theorem W152 (l : List Slot) (h : l.length < 10000000) : Qa5 Tryz.prog 152 [.sl 4 (l.map eSlot), .fn 153 [.pa [.fn 135 []]]] (.b (l.any fun x => !okSlot x)) := by
 refine Qa4 Zeq hmix Tryz.func152 Qvy.b Qvy.c Qvy.s Qvy.n ?_
 simp only [rc152, rs152, h160, Qa0, Qa2, Qa1, flat, ↓reduceIte, Nat.reduceEqDiff, Nat.reduceLT, rvs, zipA, V.b.injEq, Qa, implies_true, reduceCtorEq, BU1]
 exact ⟨h, by rw [Qal]⟩
noncomputable def K32 : Gam := K31.ext 152 (fnG e2S d2S (fun l => l.length < 10000000) (fun l => l.any fun x => !okSlot x) .b)
theorem Zer : GOk Tryz.prog K32 := Zeq.ext (f := 152) (fun a w => Tryz.call152 a w) (Qad (e := e2S) (d := d2S) (ok := fun l => l.length < 10000000) (g := fun l => l.any fun x => !okSlot x) (eb := .b) fun l h => W152 l h)
theorem h152 (l : List Slot) : K32 152 [.sl 4 (l.map eSlot), .fn 153 [.pa [.fn 135 []]]] = (l.length < 10000000, .b (l.any fun x => !okSlot x)) := (show K32 152 _ = fnG e2S d2S (fun l => l.length < 10000000) (fun l => l.any fun x => !okSlot x) .b (e2S l) from rfl).trans (Qab _ (Zcw _))
def e3S (l : List Slot) : List V := [.sl 4 (l.map eSlot), .fn 135 []]
theorem Zh8 (l : List Slot) : d2S (e3S l) = l := by simp [d2S, e3S, Function.comp_def, Qib]
theorem W139 (l : List Slot) (h : l.length < 10000000) : Qa5 Tryz.prog 139 [.sl 4 (l.map eSlot), .fn 135 []] (.b (l.all okSlot)) := by
 refine Qa4 Zer hmix Tryz.func139 Qvp.b Qvp.c Qvp.s Qvp.n ?_
 have e : (!(l.any fun x => !okSlot x)) = l.all okSlot := by rw [Qo]; simp
 simp only [rc139, rs139, h152, h, e, Qa0, Qa2, Qa1, flat, ↓reduceIte, Nat.reduceEqDiff, Nat.reduceLT, rvs, zipA, Qa, implies_true, reduceCtorEq, BU1]
noncomputable def K33 : Gam := K32.ext 139 (fnG e3S d2S (fun l => l.length < 10000000) (fun l => l.all okSlot) .b)
theorem Zes : GOk Tryz.prog K33 := Zer.ext (f := 139) (fun a w => Tryz.call139 a w) (Qad (e := e3S) (d := d2S) (ok := fun l => l.length < 10000000) (g := fun l => l.all okSlot) (eb := .b) fun l h => W139 l h)
theorem h139 (l : List Slot) : K33 139 [.sl 4 (l.map eSlot), .fn 135 []] = (l.length < 10000000, .b (l.all okSlot)) := (show K33 139 _ = fnG e3S d2S (fun l => l.length < 10000000) (fun l => l.all okSlot) .b (e3S l) from rfl).trans (Qab _ (Zh8 _))
theorem W138 (m : List Slot) : Qa5 Tryz.prog 138 [.ag (eMake m), .pa [.fn 135 []]] (.b (okMake m)) := by
 refine Qa4 Zes hmix Tryz.func138 Qvo.b Qvo.c Qvo.s Qvo.n ?_
 unfold okMake
 by_cases e1 : (m.length : Int) ≤ 4
 ·have hl : m.length < 10000000 := by omega
  simp only [rc138, rs138, eMake, e1, h139, hl, Qa0, Qa2, Qa1, flat, ↓reduceIte, Nat.reduceEqDiff, Nat.reduceLT, Nat.reduceLeDiff, rvs, zipA, beq_self_eq_true, Qj, Qa, Qb, forall_const, implies_true, reduceCtorEq, eMake, BU1]
 ·simp only [rc138, rs138, eMake, e1, Qa0, Qbh, Qa2, Qa1, ↓reduceIte, Nat.reduceEqDiff, Nat.reduceLT, Nat.reduceLeDiff, rvs, zipA, Qa, forall_const, implies_true, reduceCtorEq, imp_self, eMake, BU1]
def eP3 (m : List Slot) : List V := [.ag (eMake m), .pa [.fn 135 []]]
def dP3 : List V → List Slot | [.ag s, _] => Qpc s | _ => []
theorem Zhg (s : List Slot) : dP3 (eP3 s) = s := by simp [dP3, eP3, Qia]
noncomputable def K34 : Gam := K33.ext 138 (fnG eP3 dP3 (fun _ => True) okMake .b)
theorem Zet : GOk Tryz.prog K34 := Zes.ext (f := 138) (fun a w => Tryz.call138 a w) (Qad (e := eP3) (d := dP3) (ok := fun _ => True) (g := okMake) (eb := .b) fun s _ => W138 s)
theorem h138 (m : List Slot) : K34 138 [.ag (eMake m), .pa [.fn 135 []]] = (True, .b (okMake m)) := (show K34 138 _ = fnG eP3 dP3 (fun _ => True) okMake .b (eP3 m) from rfl).trans (Qab _ (Zhg _))
theorem W157 (m : List Slot) : Qa5 Tryz.prog 157 [.ag (eMake m), .pa [.fn 138 [.pa [.fn 135 []]]]] (.b (!okMake m)) := by
 refine Qa4 Zet hmix Tryz.func157 Qw3.b Qw3.c Qw3.s Qw3.n ?_
 have g := h138 m
 simp only [eMake] at g
 simp only [rc157, rs157, eMake, g, Qa0, Qa2, Qa1, flat, ↓reduceIte, Nat.reduceEqDiff, Nat.reduceLT, Nat.reduceLeDiff, rvs, zipA, Qa, implies_true, reduceCtorEq, eMake, BU1]
theorem P162 (hG : GOk Tryz.prog Γ) (l : List (List Slot)) (f : Nat) (hf : f < 1000000) (caps : List V) (p : (List Slot) → Bool) (C : Prop) (hC : C) (hv : caps.map (vw [] 8) = caps) (hr : Qa1 caps = false) (hl : l.length < 10000000)
  (h : ∀ x ∈ l, Γ f (V.ag (eMake x) :: caps) = (C, .b (p x))) : Qa5 Tryz.prog 162 [.sl 1 (l.map eMake), .fn f caps] (.i (idxOf p l)) := by
 refine Qa4 hG hmix Tryz.func162 Qw7.b Qw7.c Qw7.s Qw7.n ?_
 simp only [rc162, rs162, Qa0, ↓reduceIte, Nat.reduceEqDiff, Int.reduceNeg, zipA, reduceCtorEq, BU1]
 refine Qap l.length (fun i => ⟨lkp [(0, .sl 1 (l.map eMake)), (1, .fn f caps), (7, .i l.length), (8, .i i)], []⟩) (fun i => ∀ j x, j < i → l[j]? = some x → p x = false) ?_ ?_ ?_ ?_
 ·simp only [Qg, ↓reduceIte, Nat.reduceEqDiff, reduceCtorEq, BU1]
 ·intro j x h; omega
 ·intro i hi hc
  obtain ⟨x, hx⟩ : ∃ x, l[i]? = some x := ⟨_, Qd hi⟩
  have hlt : (i : Int) < l.length := by omega
  have h3 : inI ((i : Int) + 1) := by unfold inI; omega
  have hp := h x (Qc hx)
  try simp only [eMake, eMake] at hp
  simp only [hx, hlt, Qh, Qf, h3, hp, hv, hr, hf, hC, eMake, Qdp, Qa0, Qa2, Qa1, flat, ↓reduceIte, Nat.reduceEqDiff, Nat.reduceLeDiff, Int.reduceNeg, rvs, V.i.injEq, Qa, implies_true, reduceCtorEq, Qm, eMake, BU1]
  refine ⟨fun e => ?_, fun e => ?_⟩
  ·rw [Qas hx e hc]
  ·exact Qc1 hx e hc
 ·intro hc
  simp only [Qa0, ↓reduceIte, Nat.reduceEqDiff, Int.reduceNeg, rvs, Ql, V.i.injEq, Qa, reduceCtorEq, BU1]
  exact (Qaj fun x hx => by
   obtain ⟨j, hj⟩ := Qe hx
   exact hc j x (by have := Qaf hj; exact this) hj).symm
def e1M (x : (List Slot)) : List V := [V.ag (eMake x), .pa [.fn 138 [.pa [.fn 135 []]]]]
def d1M : List V → (List Slot) | [.ag s, _] => Qpc s | _ => []
theorem Zh1 (x : (List Slot)) : d1M (e1M x) = x := by simp [d1M, e1M, Qia]
noncomputable def K35 : Gam := K34.ext 157 (fnG e1M d1M (fun _ => True) (fun x => !okMake x) .b)
theorem Zeu : GOk Tryz.prog K35 := Zet.ext (f := 157) (fun a w => Tryz.call157 a w) (Qad (e := e1M) (d := d1M) (ok := fun _ => True) (g := fun x => !okMake x) (eb := .b) fun x _ => W157 x)
theorem h157 (x : (List Slot)) : K35 157 [V.ag (eMake x), .pa [.fn 138 [.pa [.fn 135 []]]]] = (True, .b (!okMake x)) := (show K35 157 _ = fnG e1M d1M (fun _ => True) (fun x => !okMake x) .b (e1M x) from rfl).trans (Qab _ (Zh1 _))
def e2M (l : List (List Slot)) : List V := [.sl 1 (l.map eMake), .fn 157 [.pa [.fn 138 [.pa [.fn 135 []]]]]]
def d2M : List V → List (List Slot) | [.sl _ l, _] => l.map Qpc | _ => []
theorem Zct (l : List (List Slot)) : d2M (e2M l) = l := by simp [d2M, e2M, Function.comp_def, Qia]
noncomputable def K36 : Gam := K35.ext 162 (fnG e2M d2M (fun l => l.length < 10000000) (idxOf fun x => !okMake x) .i)
theorem Zev : GOk Tryz.prog K36 := Zeu.ext (f := 162) (fun a w => Tryz.call162 a w) (Qad (e := e2M) (d := d2M) (ok := fun l => l.length < 10000000) (g := idxOf fun x => !okMake x) (eb := .i) fun l h => P162 Zeu l 157 (by decide) [.pa [.fn 138 [.pa [.fn 135 []]]]] _ True trivial rfl rfl h fun x _ => h157 x)
theorem h162 (l : List (List Slot)) : K36 162 [.sl 1 (l.map eMake), .fn 157 [.pa [.fn 138 [.pa [.fn 135 []]]]]] = (l.length < 10000000, .i (idxOf (fun x => !okMake x) l)) := (show K36 162 _ = fnG e2M d2M (fun l => l.length < 10000000) (idxOf fun x => !okMake x) .i (e2M l) from rfl).trans (Qab _ (Zct _))
theorem W156 (l : List (List Slot)) (h : l.length < 10000000) : Qa5 Tryz.prog 156 [.sl 1 (l.map eMake), .fn 157 [.pa [.fn 138 [.pa [.fn 135 []]]]]] (.b (l.any fun x => !okMake x)) := by
 refine Qa4 Zev hmix Tryz.func156 Qw2.b Qw2.c Qw2.s Qw2.n ?_
 simp only [rc156, rs156, h162, Qa0, Qa2, Qa1, flat, ↓reduceIte, Nat.reduceEqDiff, Nat.reduceLT, rvs, zipA, V.b.injEq, Qa, implies_true, reduceCtorEq, BU1]
 exact ⟨h, by rw [Qal]⟩
noncomputable def K37 : Gam := K36.ext 156 (fnG e2M d2M (fun l => l.length < 10000000) (fun l => l.any fun x => !okMake x) .b)
theorem Zew : GOk Tryz.prog K37 := Zev.ext (f := 156) (fun a w => Tryz.call156 a w) (Qad (e := e2M) (d := d2M) (ok := fun l => l.length < 10000000) (g := fun l => l.any fun x => !okMake x) (eb := .b) fun l h => W156 l h)
theorem h156 (l : List (List Slot)) : K37 156 [.sl 1 (l.map eMake), .fn 157 [.pa [.fn 138 [.pa [.fn 135 []]]]]] = (l.length < 10000000, .b (l.any fun x => !okMake x)) := (show K37 156 _ = fnG e2M d2M (fun l => l.length < 10000000) (fun l => l.any fun x => !okMake x) .b (e2M l) from rfl).trans (Qab _ (Zct _))
def e3M (l : List (List Slot)) : List V := [.sl 1 (l.map eMake), .fn 138 [.pa [.fn 135 []]]]
theorem Zh5 (l : List (List Slot)) : d2M (e3M l) = l := by simp [d2M, e3M, Function.comp_def, Qia]
theorem W142 (l : List (List Slot)) (h : l.length < 10000000) : Qa5 Tryz.prog 142 [.sl 1 (l.map eMake), .fn 138 [.pa [.fn 135 []]]] (.b (l.all okMake)) := by
 refine Qa4 Zew hmix Tryz.func142 Qvs.b Qvs.c Qvs.s Qvs.n ?_
 have e : (!(l.any fun x => !okMake x)) = l.all okMake := by rw [Qo]; simp
 simp only [rc142, rs142, h156, h, e, Qa0, Qa2, Qa1, flat, ↓reduceIte, Nat.reduceEqDiff, Nat.reduceLT, rvs, zipA, Qa, implies_true, reduceCtorEq, BU1]
noncomputable def K38 : Gam := K37.ext 142 (fnG e3M d2M (fun l => l.length < 10000000) (fun l => l.all okMake) .b)
theorem Zai : GOk Tryz.prog K38 := Zew.ext (f := 142) (fun a w => Tryz.call142 a w) (Qad (e := e3M) (d := d2M) (ok := fun l => l.length < 10000000) (g := fun l => l.all okMake) (eb := .b) fun l h => W142 l h)
theorem h142 (l : List (List Slot)) : K38 142 [.sl 1 (l.map eMake), .fn 138 [.pa [.fn 135 []]]] = (l.length < 10000000, .b (l.all okMake)) := (show K38 142 _ = fnG e3M d2M (fun l => l.length < 10000000) (fun l => l.all okMake) .b (e3M l) from rfl).trans (Qab _ (Zh5 _))
end Go.CS
set_option linter.all false
namespace Go.CS
open Go.Fam Go.Proofs
open Go.C06 (Span eI eIs Qbx gI gR dI Qbl Qcj fnG Qad Qab Qa6 Qa8 idxOf Qas Qaj Qal Qar Qai Qag Qac Qat Qb3 Qc5 vw_I Qay hmix eLI dLI Qca Qan Qa3 Qaa Qau)
variable {Γ : Gam}
theorem Qp8 (n lo hi : Int)  : K38 120 [.i n, .i lo, .i hi] = (True, .b (Qa6 n lo hi)) := h120 n lo hi
theorem W81 (w : Work) (n : Int) (hl : w.spares.length ≤ 1000000) : Qa5 Tryz.prog 81 [.ag (Qa7 w), .i n] (.b (Qa6 n 0 (w.spares.length - 1))) := by
 refine Qa4 Zai hmix Tryz.func81 cf81.b cf81.c cf81.s cf81.n ?_
 have h1 : inI ((w.spares.length : Int) - 1) := by unfold inI; omega
 simp only [rc81, rs81, Qp8, h1, Qa0, Qa2, Qa1, flat, ↓reduceIte, Nat.reduceEqDiff, Nat.reduceAdd, Nat.reduceLT, Nat.reduceLeDiff, rvs, zipA, Qa, implies_true, reduceCtorEq, Qa7, BU1]
theorem W82 (w : Work) (m k : Int) (hw : SmallW w) : Qa5 Tryz.prog 82 [.ag (Qa7 w), .i m, .i k] (.b (Qbg w m k)) := by
 refine Qa4 Zai hmix Tryz.func82 cf82.b cf82.c cf82.s cf82.n ?_
 have i0 : inI ((w.makes.length : Int) - 1) := by have := hw.makes; unfold inI; omega
 cases h : Qa6 m 0 (w.makes.length - 1) with
 | false =>
  simp only [rc82, rs82, Qp8, h, i0, Qa0, Qbh, binW, Qa2, Qa1, flat, ↓reduceIte, Nat.reduceEqDiff, Nat.reduceAdd, Nat.reduceLT, Nat.reduceLeDiff, rvs, zipA, V.b.injEq, Qu, Qa, forall_const, implies_true, reduceCtorEq, imp_self, Qa7, BU1]
  unfold Qbg; rw [h]; rfl
 | true =>
  obtain ⟨h1, h2, h3⟩ := Qe9 h
  have h4 := hw.slots _ (Qc h3)
  have h5 : inI (((Qbm w m).length : Int) - 1) := by unfold inI; omega
  simp only [rc82, rs82, Qp8, h, i0, h1, h2, h3, h5, eMake, Qa0, Qa2, Qa1, flat, ↓reduceIte, Nat.reduceEqDiff, Nat.reduceAdd, Nat.reduceLT, Nat.reduceLeDiff, rvs, zipA, beq_self_eq_true, V.b.injEq, Qa, Qb, forall_const, implies_true, reduceCtorEq, eMake, Qa7, BU1]
  unfold Qbg; rw [h]; rfl
noncomputable def K39 : Gam := (K38.ext 81 (fnG eWI dWI (fun a => a.1.spares.length ≤ 1000000) (fun a => Qa6 a.2 0 (a.1.spares.length - 1)) .b)).ext 82 (fnG eWII dWII (fun a => SmallW a.1) (fun a => Qbg a.1 a.2.1 a.2.2) .b)
theorem Zex : GOk Tryz.prog K39 := (Zai.ext (f := 81) (fun a w => Tryz.call81 a w) (Qad (e := eWI) (d := dWI) (ok := fun a => a.1.spares.length ≤ 1000000) (g := fun a => Qa6 a.2 0 (a.1.spares.length - 1)) (eb := .b) fun a h => W81 a.1 a.2 h)).ext (f := 82) (fun a w => Tryz.call82 a w) (Qad (e := eWII) (d := dWII) (ok := fun a => SmallW a.1) (g := fun a => Qbg a.1 a.2.1 a.2.2) (eb := .b) fun a h => W82 a.1 a.2.1 a.2.2 h)
theorem h81 (w : Work) (n : Int) : K39 81 [.ag (Qa7 w), .i n] = (w.spares.length ≤ 1000000, .b (Qa6 n 0 (w.spares.length - 1))) := (show K39 81 _ = fnG eWI dWI (fun a => a.1.spares.length ≤ 1000000) (fun a => Qa6 a.2 0 (a.1.spares.length - 1)) .b (eWI (w, n)) from rfl).trans (Qab _ (Qsa _))
theorem h82 (w : Work) (m k : Int) : K39 82 [.ag (Qa7 w), .i m, .i k] = (SmallW w, .b (Qbg w m k)) := (show K39 82 _ = fnG eWII dWII (fun a => SmallW a.1) (fun a => Qbg a.1 a.2.1 a.2.2) .b (eWII (w, m, k)) from rfl).trans (Qab _ (Qs9 _))
theorem Qz0 (n lo hi : Int)  : K39 120 [.i n, .i lo, .i hi] = (True, .b (Qa6 n lo hi)) := h120 n lo hi
theorem W140 (w : Work) (t : Trial) (hw : SmallW w) : Qa5 Tryz.prog 140 [.ag (eTrial t), .pa (Qa7 w)] (.b (Qb9 w t)) := by
 refine Qa4 Zex hmix Tryz.func140 Qvq.b Qvq.c Qvq.s Qvq.n ?_
 have g1 := h81 w t.spare
 have g2 := h82 w t.make t.slot
 simp only [Qa7] at g1 g2
 have hs := hw.spares
 unfold Qb9
 cases e1 : Qa6 t.spare 0 (w.spares.length - 1) with
 | false => simp only [rc140, rs140, g1, hs, e1, Qa0, Qbh, Qa2, Qa1, flat, ↓reduceIte, Nat.reduceEqDiff, Nat.reduceAdd, Nat.reduceLT, Nat.reduceLeDiff, rvs, zipA, Qa, forall_const, implies_true, reduceCtorEq, imp_self, eTrial, Qa7, BU1]
 | true =>
 cases e2 : Qbg w t.make t.slot with
 | false => simp only [rc140, rs140, g1, g2, hs, hw, e1, e2, Qa0, Qbh, Qa2, Qa1, flat, ↓reduceIte, Nat.reduceEqDiff, Nat.reduceAdd, Nat.reduceLT, Nat.reduceLeDiff, rvs, zipA, beq_self_eq_true, Qk, Qa, Qb, forall_const, implies_true, reduceCtorEq, imp_self, eTrial, Qa7, BU1]
 | true => simp only [rc140, rs140, g1, g2, hs, hw, e1, e2, Qz0, Qa0, Qa2, Qa1, flat, ↓reduceIte, Nat.reduceEqDiff, Nat.reduceAdd, Nat.reduceLT, Nat.reduceLeDiff, rvs, zipA, beq_self_eq_true, Qj, Qa, Qb, forall_const, implies_true, reduceCtorEq, eTrial, Qa7, BU1]
def eWT (a : Work × Trial) : List V := [.ag (eTrial a.2), .pa (Qa7 a.1)]
def dWT : List V → Work × Trial | [.ag t, .pa w] => (Qct w, Qef t) | _ => (Qct [], Qef [])
theorem Zhp (a : Work × Trial) : dWT (eWT a) = a := by obtain ⟨w, t⟩ := a; simp [dWT, eWT, Qcu, Qdu]
noncomputable def K40 : Gam := K39.ext 140 (fnG eWT dWT (fun a => SmallW a.1) (fun a => Qb9 a.1 a.2) .b)
theorem Zey : GOk Tryz.prog K40 := Zex.ext (f := 140) (fun a w => Tryz.call140 a w) (Qad (e := eWT) (d := dWT) (ok := fun a => SmallW a.1) (g := fun a => Qb9 a.1 a.2) (eb := .b) fun a h => W140 a.1 a.2 h)
theorem h140 (w : Work) (t : Trial) : K40 140 [.ag (eTrial t), .pa (Qa7 w)] = (SmallW w, .b (Qb9 w t)) := (show K40 140 _ = fnG eWT dWT (fun a => SmallW a.1) (fun a => Qb9 a.1 a.2) .b (eWT (w, t)) from rfl).trans (Qab _ (Zhp _))
theorem W148 (w : Work) (t : Trial) (hw : SmallW w) : Qa5 Tryz.prog 148 [.ag (eTrial t), .pa [.fn 140 [.pa (Qa7 w)]]] (.b (!Qb9 w t)) := by
 refine Qa4 Zey hmix Tryz.func148 Qnq.b Qnq.c Qnq.s Qnq.n ?_
 have g := h140 w t
 simp only [Qa7, eTrial] at g
 simp only [rc148, rs148, g, hw, Qa0, Qa2, Qa1, flat, ↓reduceIte, Nat.reduceEqDiff, Nat.reduceAdd, Nat.reduceLT, Nat.reduceLeDiff, rvs, zipA, Qa, implies_true, reduceCtorEq, eTrial, Qa7, BU1]
def eWT1 (a : Work × Trial) : List V := [.ag (eTrial a.2), .pa [.fn 140 [.pa (Qa7 a.1)]]]
def dWT1 : List V → Work × Trial | [.ag t, .pa [.fn _ [.pa w]]] => (Qct w, Qef t) | _ => (Qct [], Qef [])
theorem Zda (a : Work × Trial) : dWT1 (eWT1 a) = a := by obtain ⟨w, t⟩ := a; simp [dWT1, eWT1, Qcu, Qdu]
noncomputable def K41 : Gam := K40.ext 148 (fnG eWT1 dWT1 (fun a => SmallW a.1) (fun a => !Qb9 a.1 a.2) .b)
theorem Zez : GOk Tryz.prog K41 := Zey.ext (f := 148) (fun a w => Tryz.call148 a w) (Qad (e := eWT1) (d := dWT1) (ok := fun a => SmallW a.1) (g := fun a => !Qb9 a.1 a.2) (eb := .b) fun a h => W148 a.1 a.2 h)
theorem h148 (w : Work) (t : Trial) : K41 148 [.ag (eTrial t), .pa [.fn 140 [.pa (Qa7 w)]]] = (SmallW w, .b (!Qb9 w t)) := (show K41 148 _ = fnG eWT1 dWT1 (fun a => SmallW a.1) (fun a => !Qb9 a.1 a.2) .b (eWT1 (w, t)) from rfl).trans (Qab _ (Zda _))
theorem P158 (hG : GOk Tryz.prog Γ) (l : List Trial) (f : Nat) (hf : f < 1000000) (caps : List V) (p : Trial → Bool) (C : Prop) (hC : C) (hv : caps.map (vw [] 8) = caps) (hr : Qa1 caps = false) (hl : l.length < 10000000)
  (h : ∀ x ∈ l, Γ f (V.ag (eTrial x) :: caps) = (C, .b (p x))) : Qa5 Tryz.prog 158 [.sl 4 (l.map eTrial), .fn f caps] (.i (idxOf p l)) := by
 refine Qa4 hG hmix Tryz.func158 Qnr.b Qnr.c Qnr.s Qnr.n ?_
 simp only [rc158, rs158, Qa0, ↓reduceIte, Nat.reduceEqDiff, Int.reduceNeg, zipA, reduceCtorEq, BU1]
 refine Qap l.length (fun i => ⟨lkp [(0, .sl 4 (l.map eTrial)), (1, .fn f caps), (7, .i l.length), (8, .i i)], []⟩) (fun i => ∀ j x, j < i → l[j]? = some x → p x = false) ?_ ?_ ?_ ?_
 ·simp only [Qg, ↓reduceIte, Nat.reduceEqDiff, reduceCtorEq, BU1]
 ·intro j x h; omega
 ·intro i hi hc
  obtain ⟨x, hx⟩ : ∃ x, l[i]? = some x := ⟨_, Qd hi⟩
  have hlt : (i : Int) < l.length := by omega
  have h3 : inI ((i : Int) + 1) := by unfold inI; omega
  have hp := h x (Qc hx)
  try simp only [eTrial] at hp
  simp only [hx, hlt, Qh, Qf, h3, hp, hv, hr, hf, hC, Qdp, Qa0, Qa2, Qa1, flat, ↓reduceIte, Nat.reduceEqDiff, Nat.reduceAdd, Nat.reduceLeDiff, Int.reduceNeg, rvs, V.i.injEq, Qa, implies_true, reduceCtorEq, Qm, eTrial, BU1]
  refine ⟨fun e => ?_, fun e => ?_⟩
  ·rw [Qas hx e hc]
  ·exact Qc1 hx e hc
 ·intro hc
  simp only [Qa0, ↓reduceIte, Nat.reduceEqDiff, Int.reduceNeg, rvs, Ql, V.i.injEq, Qa, reduceCtorEq, BU1]
  exact (Qaj fun x hx => by
   obtain ⟨j, hj⟩ := Qe hx
   exact hc j x (by have := Qaf hj; exact this) hj).symm
def eWL (a : Work × List Trial) : List V := [.sl 4 (a.2.map eTrial), .fn 148 [.pa [.fn 140 [.pa (Qa7 a.1)]]]]
def dWL : List V → Work × List Trial | [.sl _ l, .fn _ [.pa [.fn _ [.pa w]]]] => (Qct w, l.map Qef) | _ => (Qct [], [])
theorem Zd8 (a : Work × List Trial) : dWL (eWL a) = a := by obtain ⟨w, t⟩ := a; simp [dWL, eWL, Qcu, Function.comp_def, Qdu]
def OkTL (a : Work × List Trial) : Prop := SmallW a.1 ∧ a.2.length < 10000000
theorem vw_W (w : Work) : ([V.pa [.fn 140 [.pa (Qa7 w)]]] : List V).map (vw [] 8) = [.pa [.fn 140 [.pa (Qa7 w)]]] := by
 simp only [Qv, Qq, Qrn, Qa7]
noncomputable def K42 : Gam := K41.ext 158 (fnG eWL dWL OkTL (fun a => idxOf (fun x => !Qb9 a.1 x) a.2) .i)
theorem Zf0 : GOk Tryz.prog K42 := Zez.ext (f := 158) (fun a w => Tryz.call158 a w) (Qad (e := eWL) (d := dWL) (ok := OkTL) (g := fun a => idxOf (fun x => !Qb9 a.1 x) a.2) (eb := .i) fun a h => P158 Zez a.2 148 (by decide) [.pa [.fn 140 [.pa (Qa7 a.1)]]] _ (SmallW a.1) h.1 (vw_W a.1) rfl h.2 fun x _ => h148 a.1 x)
theorem h158 (w : Work) (l : List Trial) : K42 158 [.sl 4 (l.map eTrial), .fn 148 [.pa [.fn 140 [.pa (Qa7 w)]]]] = (OkTL (w, l), .i (idxOf (fun x => !Qb9 w x) l)) := (show K42 158 _ = fnG eWL dWL OkTL (fun a => idxOf (fun x => !Qb9 a.1 x) a.2) .i (eWL (w, l)) from rfl).trans (Qab _ (Zd8 _))
theorem W147 (w : Work) (l : List Trial) (h : OkTL (w, l)) : Qa5 Tryz.prog 147 [.sl 4 (l.map eTrial), .fn 148 [.pa [.fn 140 [.pa (Qa7 w)]]]] (.b (l.any fun x => !Qb9 w x)) := by
 refine Qa4 Zf0 hmix Tryz.func147 Qnp.b Qnp.c Qnp.s Qnp.n ?_
 have g := h158 w l
 simp only [Qa7] at g
 simp only [rc147, rs147, g, Qa0, Qa2, Qa1, flat, ↓reduceIte, Nat.reduceEqDiff, Nat.reduceLT, rvs, zipA, V.b.injEq, Qa, implies_true, reduceCtorEq, Qa7, BU1]
 exact ⟨h, by rw [Qal]⟩
noncomputable def K43 : Gam := K42.ext 147 (fnG eWL dWL OkTL (fun a => a.2.any fun x => !Qb9 a.1 x) .b)
theorem Zf1 : GOk Tryz.prog K43 := Zf0.ext (f := 147) (fun a w => Tryz.call147 a w) (Qad (e := eWL) (d := dWL) (ok := OkTL) (g := fun a => a.2.any fun x => !Qb9 a.1 x) (eb := .b) fun a h => W147 a.1 a.2 h)
theorem h147 (w : Work) (l : List Trial) : K43 147 [.sl 4 (l.map eTrial), .fn 148 [.pa [.fn 140 [.pa (Qa7 w)]]]] = (OkTL (w, l), .b (l.any fun x => !Qb9 w x)) := (show K43 147 _ = fnG eWL dWL OkTL (fun a => a.2.any fun x => !Qb9 a.1 x) .b (eWL (w, l)) from rfl).trans (Qab _ (Zd8 _))
theorem W119 (w : Work) (l : List Trial) (h : OkTL (w, l)) : Qa5 Tryz.prog 119 [.sl 4 (l.map eTrial), .fn 140 [.pa (Qa7 w)]] (.b (l.all (Qb9 w))) := by
 refine Qa4 Zf1 hmix Tryz.func119 Qnn.b Qnn.c Qnn.s Qnn.n ?_
 have e : (!(l.any fun x => !Qb9 w x)) = l.all (Qb9 w) := by rw [Qo]; simp
 have g := h147 w l
 simp only [Qa7] at g
 simp only [rc119, rs119, g, h, e, Qa0, Qa2, Qa1, flat, ↓reduceIte, Nat.reduceEqDiff, Nat.reduceLT, rvs, zipA, Qa, implies_true, reduceCtorEq, Qa7, BU1]
end Go.CS
set_option linter.all false
namespace Go.CS
open Go.Fam Go.Proofs
open Go.C06 (Span eI eIs Qbx gI gR dI Qbl Qcj fnG Qad Qab Qa6 Qa8 idxOf Qas Qaj Qal Qar Qai Qag Qac Qat Qb3 Qc5 vw_I Qay hmix eLI dLI Qca Qan Qa3 Qaa Qau)
variable {Γ : Gam}
def eTW (a : Work × List Trial) : List V := [.sl 4 (a.2.map eTrial), .fn 140 [.pa (Qa7 a.1)]]
def dTW : List V → Work × List Trial | [.sl _ l, .fn _ [.pa w]] => (Qct w, l.map Qef) | _ => (Qct [], [])
theorem Zhm (a : Work × List Trial) : dTW (eTW a) = a := by obtain ⟨w, t⟩ := a; simp [dTW, eTW, Qcu, Function.comp_def, Qdu]
noncomputable def K44 : Gam := K43.ext 119 (fnG eTW dTW OkTL (fun a => a.2.all (Qb9 a.1)) .b)
theorem Zf2 : GOk Tryz.prog K44 := Zf1.ext (f := 119) (fun a w => Tryz.call119 a w) (Qad (e := eTW) (d := dTW) (ok := OkTL) (g := fun a => a.2.all (Qb9 a.1)) (eb := .b) fun a h => W119 a.1 a.2 h)
theorem h119 (w : Work) (l : List Trial) : K44 119 [.sl 4 (l.map eTrial), .fn 140 [.pa (Qa7 w)]] = (OkTL (w, l), .b (l.all (Qb9 w))) := (show K44 119 _ = fnG eTW dTW OkTL (fun a => a.2.all (Qb9 a.1)) .b (eTW (w, l)) from rfl).trans (Qab _ (Zhm _))
theorem Qgx (n lo hi : Int) : K44 120 [.i n, .i lo, .i hi] = (True, .b (Qa6 n lo hi)) := h120 n lo hi
theorem Qi3 (l : List Spare) : K44 141 [.sl 4 (l.map eSpare), .fn 132 []] = (l.length < 10000000, .b (l.all okSpare)) := h141 l
theorem Qm8 (l : List (List Slot)) : K44 142 [.sl 1 (l.map eMake), .fn 138 [.pa [.fn 135 []]]] = (l.length < 10000000, .b (l.all okMake)) := h142 l
theorem W104 (w : Work) (hw : SmallW w) : Qa5 Tryz.prog 104 [.ag (Qa7 w)] (.b (Qcy w)) := by
 refine Qa4 Zf2 hmix Tryz.func104 Quy.b Quy.c Quy.s Quy.n ?_
 have hE : Qcy w = (decide ((w.spares.length : Int) ≤ 10) && decide ((w.makes.length : Int) ≤ 6) && Qa6 w.cut 0 99 && decide ((w.table.length : Int) ≤ 30) && w.spares.all okSpare && w.makes.all okMake && w.table.all (Qb9 w)) := rfl
 generalize Qcy w = res at hE
 have g := h119 w w.table
 simp only [Qa7] at g
 by_cases a1 : (w.spares.length : Int) ≤ 10
 rotate_left
 ·simp only [rc104, rs104, Qgx, a1, Qa0, Qbh, Qah, Qa2, Qa1, flat, ↓reduceIte, Nat.reduceEqDiff, Nat.reduceAdd, Nat.reduceLT, Nat.reduceLeDiff, rvs, Qdj, zipA, V.b.injEq, Qi, Qa, forall_const, implies_true, imp_self, Qa7, BU1]; simp [hE, a1]
 have l1 : w.spares.length < 10000000 := by omega
 cases b1 : w.spares.all okSpare with
 | false => simp only [rc104, rs104, Qgx, a1, Qi3, l1, b1, Qa0, Qbh, Qah, Qa2, Qa1, flat, ↓reduceIte, Nat.reduceEqDiff, Nat.reduceAdd, Nat.reduceLT, Nat.reduceLeDiff, rvs, Qdj, zipA, beq_self_eq_true, V.b.injEq, Qi, Qa, Qb, forall_const, implies_true, imp_self, Qa7, BU1]; simp [hE, b1]
 | true =>
 by_cases a2 : (w.makes.length : Int) ≤ 6
 rotate_left
 ·simp only [rc104, rs104, Qgx, a1, Qi3, l1, b1, a2, Qa0, Qbh, Qah, Qa2, Qa1, flat, ↓reduceIte, Nat.reduceEqDiff, Nat.reduceAdd, Nat.reduceLT, Nat.reduceLeDiff, rvs, Qdj, zipA, beq_self_eq_true, V.b.injEq, Qi, Qa, Qb, forall_const, implies_true, imp_self, Qa7, BU1]; simp [hE, a2]
 have l2 : w.makes.length < 10000000 := by omega
 cases b2 : w.makes.all okMake with
 | false => simp only [rc104, rs104, Qgx, a1, Qi3, l1, b1, a2, Qm8, l2, b2, Qa0, Qbh, Qah, Qa2, Qa1, flat, ↓reduceIte, Nat.reduceEqDiff, Nat.reduceAdd, Nat.reduceLT, Nat.reduceLeDiff, rvs, Qdj, zipA, beq_self_eq_true, V.b.injEq, Qi, Qa, Qb, forall_const, implies_true, imp_self, Qa7, BU1]; simp [hE, b2]
 | true =>
 cases a3 : Qa6 w.cut 0 99 with
 | false => simp only [rc104, rs104, Qgx, a1, Qi3, l1, b1, a2, Qm8, l2, b2, a3, Qa0, Qbh, Qah, Qa2, Qa1, flat, ↓reduceIte, Nat.reduceEqDiff, Nat.reduceAdd, Nat.reduceLT, Nat.reduceLeDiff, rvs, Qdj, zipA, beq_self_eq_true, V.b.injEq, Qi, Qa, Qb, forall_const, implies_true, imp_self, Qa7, BU1]; simp [hE, a3]
 | true =>
 by_cases a4 : (w.table.length : Int) ≤ 30
 rotate_left
 ·simp only [rc104, rs104, Qgx, a1, Qi3, l1, b1, a2, Qm8, l2, b2, a3, a4, Qa0, Qbh, Qah, Qa2, Qa1, flat, ↓reduceIte, Nat.reduceEqDiff, Nat.reduceAdd, Nat.reduceLT, Nat.reduceLeDiff, rvs, Qdj, zipA, beq_self_eq_true, V.b.injEq, Qi, Qa, Qb, forall_const, implies_true, imp_self, Qa7, BU1]; simp [hE, a4]
 have l3 : OkTL (w, w.table) := ⟨hw, by show w.table.length < 10000000; omega⟩
 simp only [rc104, rs104, Qgx, a1, Qi3, l1, b1, a2, Qm8, l2, b2, a3, a4, g, l3, Qa0, Qah, Qa2, Qa1, flat, ↓reduceIte, Nat.reduceEqDiff, Nat.reduceAdd, Nat.reduceLT, Nat.reduceLeDiff, rvs, Qdj, zipA, beq_self_eq_true, V.b.injEq, Qi, Qa, Qb, forall_const, implies_true, Qa7, BU1]
 rw [hE, b1, b2, a3]; simp [a1, a2, a4]
noncomputable def K45 : Gam := K44.ext 104 (fnG eW1 dW1 SmallW Qcy .b)
theorem Zf3 : GOk Tryz.prog K45 := Zf2.ext (f := 104) (fun a w => Tryz.call104 a w) (Qad (e := eW1) (d := dW1) (ok := SmallW) (g := Qcy) (eb := .b) fun a h => W104 a h)
theorem h104 (w : Work) : K45 104 [.ag (Qa7 w)] = (SmallW w, .b (Qcy w)) := (show K45 104 _ = fnG eW1 dW1 SmallW Qcy .b (eW1 w) from rfl).trans (Qab _ (Qnu _))
end Go.CS
set_option maxRecDepth 8000
namespace Go.CS
open Go.Fam Go.Proofs
def rc122 : RC := (.seq (.reg false [(cI 4 0)]) (.keep [0,1] (.seq (.seq (.reg false [(cMv 6 0), (cLn 7 6), (cI 8 0)]) (.keep [0,1,7,8] (.block 0 (.loop [0,1,7,8] none (.seq (.reg false [(cB 9 .lss 8 7)]) (.keep [0,1,7,8,9] (.seq (.cond (.t 9) .skip (.exit 0)) (.keep [0,1,7,8] (.seq (.block 1 (.seq (.reg false [(cMv 10 8), (cMv 5 10)]) (.keep [0,1,5,7,8] (.seq (.reg false [(cMv 11 1), (cMv 12 0), (cMv 13 5), (cA 14 1 12 13), (cLd 15 14 false 1), (cB 16 .eql 11 15)]) (.keep [0,1,5,7,8,16] (.cond (.t 16) (.seq (.reg false [(cMv 17 5), (cMv 4 17)]) .ret) .skip)))))) (.keep [0,1,7,8] (.reg false [(cC 18 .add 8 1), (cMv 8 18)]))))))))))) (.keep [] (.seq (.reg false [(cQ 4 [] (.mv (.k (.i (-1)))))]) .ret)))))
def rs122 : List RV := [.t 4]
theorem Qve : CF Tryz.prog Tryz.f122 [] 0 1 rc122 rs122 2 := ⟨by kernel_rfl, by kernel_rfl, by kernel_rfl, by decide⟩
def rc84 : RC := (.seq (.reg false [(cQ 4 [] (.mv (kB false)))]) (.keep [0,1] (.seq (.reg false [(cMv 5 0), (cMv 6 1), (cQ 7 [5,6] (.call (kF 122) [(.t 5), (.t 6)])), (cC 8 .geq 7 0), (cMv 4 8)]) .ret)))
def rs84 : List RV := [.t 4]
theorem cf84 : CF Tryz.prog Tryz.f84 [] 0 1 rc84 rs84 2 := ⟨by kernel_rfl, by kernel_rfl, by kernel_rfl, by decide⟩
def rc118 : RC := (.seq (.reg false [(cX 5 0), (cQ 10 [] (.mv (kB false)))]) (.keep [1,2,3,4,5] (.seq (.any false 2 [⟨(cFa 13 5 0), [], []⟩, ⟨(cLd 14 13 false 1), [], [0]⟩, ⟨(cMv 15 1), [], []⟩, ⟨(cA 16 4 14 15), [], [1,0,2]⟩, ⟨(cLd 17 16 true 4), [], [3,1,0,2]⟩, ⟨(cFa 18 5 1), [], []⟩, ⟨(cLd 19 18 false 1), [], [5]⟩, ⟨(cMv 20 3), [], []⟩, ⟨(cA 21 1 19 20), [], [6,5,7]⟩, ⟨(cFa 22 21 0), [], [8,6,5,7]⟩, ⟨(cLd 23 22 false 1), [], [9,8,6,5,7]⟩, ⟨(cMv 24 4), [], []⟩, ⟨(cA 25 4 23 24), [], [10,9,8,6,5,7,11]⟩, ⟨(cLd 26 25 true 4), [], [12,10,9,8,6,5,7,11]⟩, ⟨⟨(some 11), none, [], (some 0), .w (.alc [(.i 0), (.i 0), (.i 0), (.i 0)])⟩, [0,1,2,3,4,5,6,7,8,9,10,11,12,13], []⟩, ⟨⟨(some 12), none, [], (some 1), .w (.alc [(.i 0), (.z 1), (.i 0), (.i 0)])⟩, [0,1,2,3,4,5,6,7,8,9,10,11,12,13,14], []⟩, ⟨⟨none, none, [11,17], none, .w (.st 4 (.t 11) (.t 17))⟩, [5,6,7,8,9,10,11,12,13], [14,4,3,1,0,2,15]⟩, ⟨⟨none, none, [12,26], none, .w (.st 4 (.t 12) (.t 26))⟩, [], [15,13,12,10,9,8,6,5,7,11,16,14,4,3,1,0,2]⟩]) (.keep [2,5,11,12] (.seq (.reg true [(cFa 27 11 0), (cLd 28 27 false 1), (cFa 29 12 0), (cLd 30 29 false 1), (cB 31 .eql 28 30), (cMv 32 31), (gQ 33 32 true [12] (.fad 1 (.t 12))), (gQ 34 32 true [33] (.ld false 1 (.t 33))), (gQ 35 32 true [11] (.fad 1 (.t 11))), (gQ 36 32 true [35] (.ld false 1 (.t 35))), (gQ 37 32 true [34,36] (.call (kF 84) [(.t 34), (.t 36)])), (cQ 38 [32,37] (.pick (.t 32) (.t 37) (kB false))), (cMv 39 38), (gMv 40 39 true 2), (gQ 41 39 true [12] (.fad 2 (.t 12))), (gQ 42 39 true [41] (.fad 0 (.t 41))), (gQ 43 39 true [42] (.ld false 1 (.t 42))), (gQ 44 39 true [12] (.fad 2 (.t 12))), (gQ 45 39 true [44] (.fad 1 (.t 44))), (gQ 46 39 true [45] (.ld false 1 (.t 45))), (gQ 47 39 true [5] (.fad 2 (.t 5))), (gQ 48 39 true [47] (.ld false 1 (.t 47))), (gQ 49 39 true [46,48] (.bin .add (.t 46) (.t 48))), (gQ 50 39 true [40,43,49] (.call (kF 120) [(.t 40), (.t 43), (.t 49)])), (cQ 51 [39,50] (.pick (.t 39) (.t 50) (kB false))), (cMv 10 51)]) .ret)))))
def rs118 : List RV := [.t 10]
theorem Qvb : CF Tryz.prog Tryz.f118 [5] 0 1 rc118 rs118 5 := ⟨by kernel_rfl, by kernel_rfl, by kernel_rfl, by decide⟩
def rc117 : RC := (.seq (.reg false [(cX 4 0), (cQ 5 [] (.mv (kB false)))]) (.keep [1,2,3,4] (.seq (.any true 0 [⟨(cFa 6 4 0), [], []⟩, ⟨(cLd 7 6 false 1), [], [0]⟩, ⟨(cLd 8 1 false 1), [], []⟩, ⟨(cB 9 .neq 7 8), [], [1,0,2]⟩, ⟨(cMv 10 9), [], [3,1,0,2]⟩, ⟨(gQ 11 10 false [2] (.ld true 4 (.t 2))), [], [4,3,1,0,2]⟩, ⟨(gQ 12 10 false [1] (.ld false 1 (.t 1))), [], [4,3,1,0,2]⟩, ⟨(gQ 13 10 false [3] (.ld false 1 (.t 3))), [], [4,3,1,0,2]⟩, ⟨(gQ 14 10 false [4] (.fad 1 (.t 4))), [], [4,3,1,0,2]⟩, ⟨(gQ 15 10 false [14] (.ld false 1 (.t 14))), [], [8,4,3,1,0,2]⟩, ⟨(gQ 16 10 false [4] (.fad 2 (.t 4))), [], [4,3,1,0,2]⟩, ⟨(gQ 17 10 false [16] (.ld false 1 (.t 16))), [], [10,4,3,1,0,2]⟩, ⟨(gQ 18 10 false [11,12,13,15,17] (.call (kF 118) [(.t 11), (.t 12), (.t 13), (.t 15), (.t 17)])), [], [5,4,3,1,0,2,6,7,9,8,11,10]⟩, ⟨(gQ 19 10 false [4] (.fad 3 (.t 4))), [], [4,3,1,0,2]⟩, ⟨(gQ 20 10 false [19] (.ld false 1 (.t 19))), [], [13,4,3,1,0,2]⟩, ⟨(gQ 21 10 false [20] (.bin .eql (.t 20) (kI 1))), [], [14,13,4,3,1,0,2]⟩, ⟨(gQ 22 10 false [18,21] (.bq false (.t 18) (.t 21))), [], [12,5,4,3,1,0,2,6,7,9,8,11,10,15,14,13]⟩, ⟨(cQ 23 [10,22] (.pick (.t 10) (kB true) (.t 22))), [], [4,3,1,0,2,16,12,5,6,7,9,8,11,10,15,14,13]⟩, ⟨(cMv 5 23), [], [17,4,3,1,0,2,16,12,5,6,7,9,8,11,10,15,14,13]⟩]) .ret)))
def rs117 : List RV := [.t 5]
theorem Qva : CF Tryz.prog Tryz.f117 [4] 0 1 rc117 rs117 4 := ⟨by kernel_rfl, by kernel_rfl, by kernel_rfl, by decide⟩
def rc121 : RC := (.seq (.reg false [(cI 4 0)]) (.keep [0,1] (.seq (.seq (.reg false [(cMv 5 0)]) (.keep [1,5] (.block 0 (.seq (.reg false [(cMv 7 1), (cB 8 .eql 5 7), (cMv 6 8)]) (.keep [5,6] (.cond (.t 6) (.seq (.reg false [(cI 4 1)]) .ret) (.seq (.reg false [(cC 10 .eql 5 0), (cMv 9 10)]) (.keep [9] (.cond (.t 9) (.seq (.reg false [(cI 4 2)]) .ret) .skip))))))))) (.keep [] (.seq (.reg false [(cI 4 3)]) .ret)))))
def rs121 : List RV := [.t 4]
theorem Qvd : CF Tryz.prog Tryz.f121 [] 0 1 rc121 rs121 2 := ⟨by kernel_rfl, by kernel_rfl, by kernel_rfl, by decide⟩
def rc83 : RC := (.seq (.reg false [(cI 8 0)]) (.keep [0,1,2,3] (.seq (.reg false [(cI 9 0)]) (.keep [0,1,2,3,9] (.seq (.seq (.reg false [(cMv 12 0), (cZ 13 12), (cFa 14 13 4), (cLd 15 14 false 1), (cMv 16 1), (cA 17 1 15 16), (cLd 18 17 false 1), (cLn 19 18), (cI 20 0)]) (.keep [0,1,2,3,9,18,19,20] (.block 0 (.loop [0,1,2,3,9,18,19,20] none (.seq (.reg false [(cB 21 .lss 20 19)]) (.keep [0,1,2,3,9,18,19,20,21] (.seq (.cond (.t 21) .skip (.exit 0)) (.keep [0,1,2,3,9,18,19,20] (.seq (.block 1 (.seq (.reg false [(cA 22 1 18 20), (cLd 23 22 false 1), (cMv 11 23)]) (.keep [0,1,2,3,9,11,18,19,20] (.seq (.reg false [(cMv 24 0), (cZ 25 24), (cFa 26 25 0), (cLd 27 26 true 4), (cMv 28 1), (cMv 29 11), (cMv 30 2), (cMv 31 3), (cQ 32 [27,28,29,30,31] (.call (kF 118) [(.t 27), (.t 28), (.t 29), (.t 30), (.t 31)]))]) (.keep [0,1,2,3,9,18,19,20,32] (.cond (.t 32) (.reg false [(cMv 33 9), (cC 34 .add 33 1), (cMv 9 34)]) .skip)))))) (.keep [0,1,2,3,9,18,19,20] (.reg false [(cC 35 .add 20 1), (cMv 20 35)]))))))))))) (.keep [0,1,9] (.seq (.reg false [(cMv 36 9), (cMv 37 0), (cZ 38 37), (cFa 39 38 4), (cLd 40 39 false 1), (cMv 41 1), (cA 42 1 40 41), (cLd 43 42 false 1), (cLn 44 43), (cQ 45 [36,44] (.call (kF 121) [(.t 36), (.t 44)])), (cMv 8 45)]) .ret)))))))
def rs83 : List RV := [.t 8]
theorem cf83 : CF Tryz.prog Tryz.f83 [] 0 1 rc83 rs83 4 := ⟨by kernel_rfl, by kernel_rfl, by kernel_rfl, by decide⟩
end Go.CS
set_option linter.all false
namespace Go.CS
open Go.Fam Go.Proofs
open Go.C06 (Span eI eIs Qbx gI gR dI Qbl Qcj fnG Qad Qab Qa6 Qa8 idxOf Qas Qaj Qal Qar Qai Qag Qac Qat Qb3 Qc5 vw_I Qay hmix eLI dLI Qca Qan Qa3 Qaa Qau)
variable {Γ : Gam}
theorem W122 (l : List Int) (n : Int) (hl : l.length < 10000000) : Qa5 Tryz.prog 122 [.sl 1 (l.map eI), .i n] (.i (idxOf (fun x => decide (n = x)) l)) := by
 refine Qa4 Zf3 hmix Tryz.func122 Qve.b Qve.c Qve.s Qve.n ?_
 simp only [rc122, rs122, Qa0, ↓reduceIte, Nat.reduceEqDiff, Int.reduceNeg, zipA, reduceCtorEq, BU1]
 refine Qap l.length (fun i => ⟨lkp [(0, .sl 1 (l.map eI)), (1, .i n), (7, .i l.length), (8, .i i)], []⟩) (fun i => ∀ j x, j < i → l[j]? = some x → decide (n = x) = false) ?_ ?_ ?_ ?_
 ·simp only [Qg, ↓reduceIte, Nat.reduceEqDiff, reduceCtorEq, BU1]
 ·intro j x h; omega
 ·intro i hi hc
  obtain ⟨x, hx⟩ : ∃ x, l[i]? = some x := ⟨_, Qd hi⟩
  have hlt : (i : Int) < l.length := by omega
  have h3 : inI ((i : Int) + 1) := by unfold inI; omega
  by_cases e : n = x
  ·have q := Qas (p := fun x => decide (n = x)) hx (by simp [e]) hc
   simp only [hx, hlt, e, Qa0, ↓reduceIte, Nat.reduceEqDiff, Nat.reduceLeDiff, Int.reduceNeg, rvs, V.i.injEq, Qa, decide_eq_false_iff_not, reduceCtorEq, eI, BU1]
   rw [e] at q
   rw [q]
  ·simp only [hx, hlt, Qh, Qf, h3, e, Qa0, ↓reduceIte, Nat.reduceEqDiff, Nat.reduceLeDiff, Int.reduceNeg, Qa, decide_eq_false_iff_not, reduceCtorEq, eI, BU1]
   have hn := Qc1 (p := fun x => decide (n = x)) hx (by simp [e]) hc
   intro j y hj hy
   simpa using hn j y hj hy
 ·intro hc
  simp only [Qa0, ↓reduceIte, Nat.reduceEqDiff, Int.reduceNeg, rvs, Ql, V.i.injEq, Qa, reduceCtorEq, BU1]
  exact (Qaj fun x hx => by
   obtain ⟨j, hj⟩ := Qe hx
   exact hc j x (by have := Qaf hj; exact this) hj).symm
noncomputable def K46 : Gam := K45.ext 122 (fnG eLI dLI (fun a => a.1.length < 10000000) (fun a => idxOf (fun x => decide (a.2 = x)) a.1) .i)
theorem Zf4 : GOk Tryz.prog K46 := Zf3.ext (f := 122) (fun a w => Tryz.call122 a w) (Qad (e := eLI) (d := dLI) (ok := fun a => a.1.length < 10000000) (g := fun a => idxOf (fun x => decide (a.2 = x)) a.1) (eb := .i) fun a h => W122 a.1 a.2 h)
theorem h122 (l : List Int) (n : Int) : K46 122 [.sl 1 (l.map eI), .i n] = (l.length < 10000000, .i (idxOf (fun x => decide (n = x)) l)) := (show K46 122 _ = fnG eLI dLI (fun a => a.1.length < 10000000) (fun a => idxOf (fun x => decide (a.2 = x)) a.1) .i (eLI (l, n)) from rfl).trans (Qab _ (Qca _))
theorem W84 (l : List Int) (n : Int) (hl : l.length < 10000000) : Qa5 Tryz.prog 84 [.sl 1 (l.map eI), .i n] (.b (decide (n ∈ l))) := by
 refine Qa4 Zf4 hmix Tryz.func84 cf84.b cf84.c cf84.s cf84.n ?_
 have e : decide (0 ≤ idxOf (fun x => decide (n = x)) l) = decide (n ∈ l) := by
  rw [Qal]
  by_cases h : n ∈ l
  ·rw [decide_eq_true h]; exact Q6.2 ⟨n, h, by simp⟩
  ·rw [decide_eq_false h, Qx]
   intro x hx hd
   simp only [decide_eq_true_eq] at hd
   exact h (hd ▸ hx)
 simp only [rc84, rs84, h122, hl, e, Qa0, Qa2, Qa1, flat, ↓reduceIte, Nat.reduceEqDiff, Nat.reduceLT, rvs, zipA, Qa, implies_true, reduceCtorEq, BU1]
noncomputable def K47 : Gam := K46.ext 84 (fnG eLI dLI (fun a => a.1.length < 10000000) (fun a => decide (a.2 ∈ a.1)) .b)
theorem Qx4 : GOk Tryz.prog K47 := Zf4.ext (f := 84) (fun a w => Tryz.call84 a w) (Qad (e := eLI) (d := dLI) (ok := fun a => a.1.length < 10000000) (g := fun a => decide (a.2 ∈ a.1)) (eb := .b) fun a h => W84 a.1 a.2 h)
theorem h84 (l : List Int) (n : Int) : K47 84 [.sl 1 (l.map eI), .i n] = (l.length < 10000000, .b (decide (n ∈ l))) := (show K47 84 _ = fnG eLI dLI (fun a => a.1.length < 10000000) (fun a => decide (a.2 ∈ a.1)) .b (eLI (l, n)) from rfl).trans (Qab _ (Qca _))
theorem Qru (n lo hi : Int) : K47 120 [.i n, .i lo, .i hi] = (True, .b (Qa6 n lo hi)) := h120 n lo hi
theorem W118 (w : Work) (i n m k : Int) (h : OkF w i m k) : Qa5 Tryz.prog 118 [.ag (Qa7 w), .i i, .i n, .i m, .i k] (.b (Qcv w i n m k)) := by
 refine Qa4 Qx4 hmix Tryz.func118 Qvb.b Qvb.c Qvb.s Qvb.n ?_
 obtain ⟨hw, hsp, hsl⟩ := h
 have hs := Qf4 hsp
 obtain ⟨hm1, hm2, hk1, hk2⟩ := Qqx hsl
 have hS := hw.spare _ (Qc hs)
 have hT := Qkm ((hw.make _ (Qc hm2)).2 _ (Qc hk2))
 have hc := hw.cut
 have hl : (Qfm w m k).secs.length < 10000000 := by omega
 have hi : inI ((Qfm w m k).len.high + w.cut) := by unfold inI; omega
 unfold Qcv
 generalize Qc0 w i = s at *
 generalize Qfm w m k = t at *
 generalize Qbm w m = mk at *
 by_cases e1 : s.kind = t.kind
 ·by_cases e2 : s.sect ∈ t.secs
  ·simp only [rc118, rs118, hs, hsp, hm1, hm2, hk1, hk2, eMake, e1, h84, hl, e2, Qru, hi, Qaq, optL, Qa0, runX, fpQ, fpV, Qah, Qa2, Qa1, flat, ↓reduceIte, Nat.reduceEqDiff, Nat.reduceAdd, Nat.reduceLT, Nat.reduceLeDiff, Nat.reduceBEq, Qp, Qs, rvs, zipA, beq_self_eq_true, Qj, Qk, Qu, Qa, Qb, forall_const, implies_true, reduceCtorEq, Qy, Qr, Qn, eSpare, eSlot, eMake, Qa7, BU1]
  ·simp only [rc118, rs118, hs, hsp, hm1, hm2, hk1, hk2, eMake, e1, h84, hl, e2, Qru, hi, Qaq, optL, Qa0, runX, fpQ, fpV, Qah, Qa2, Qa1, flat, ↓reduceIte, Nat.reduceEqDiff, Nat.reduceAdd, Nat.reduceLT, Nat.reduceLeDiff, Nat.reduceBEq, Qp, Qs, rvs, zipA, beq_self_eq_true, Qj, Qk, Qu, Qa, Qb, forall_const, implies_true, reduceCtorEq, Qy, Qr, Qn, imp_self, eSpare, eSlot, eMake, Qa7, BU1]
 ·simp only [rc118, rs118, hs, hsp, hm1, hm2, hk1, hk2, eMake, e1, Qaq, optL, Qa0, runX, fpQ, fpV, Qbh, Qah, Qa2, Qa1, ↓reduceIte, Nat.reduceEqDiff, Nat.reduceAdd, Nat.reduceLT, Nat.reduceLeDiff, Nat.reduceBEq, Qp, Qs, rvs, zipA, beq_self_eq_true, Qj, Qk, Qu, Qa, forall_const, implies_true, reduceCtorEq, Qy, Qr, Qn, imp_self, eSpare, eSlot, eMake, Qa7, BU1]
def Qoh (some many : Int) : Int := if some = many then 1 else if some = 0 then 2 else 3
theorem W121 (a b : Int) : Qa5 Tryz.prog 121 [.i a, .i b] (.i (Qoh a b)) := by
 refine Qa4 Qx4 hmix Tryz.func121 Qvd.b Qvd.c Qvd.s Qvd.n ?_
 unfold Qoh
 by_cases e1 : a = b
 ·simp only [rc121, rs121, e1, Qa0, ↓reduceIte, Nat.reduceEqDiff, rvs, zipA, reduceCtorEq, BU1]
 by_cases e2 : a = 0
 ·simp only [rc121, rs121, e2, Qdp, Qa0, ↓reduceIte, Nat.reduceEqDiff, rvs, zipA, V.i.injEq, decide_eq_true_eq, reduceCtorEq, BU1]
  simp_all
 ·simp only [rc121, rs121, e1, e2, Qa0, ↓reduceIte, Nat.reduceEqDiff, rvs, zipA, Qa, reduceCtorEq, BU1]
end Go.CS
set_option maxRecDepth 8000
namespace Go.CS
open Go.Fam Go.Proofs
def rc66 : RC := (.seq (.reg false [(cQ 6 [] (.mv (kB false)))]) (.keep [0,1,2] (.seq (.reg true [(cMv 7 1), (cMv 8 0), (cB 9 .leq 7 8), (cMv 10 9), (gMv 11 10 true 0), (gMv 12 10 true 2), (gQ 13 10 true [11,12] (.bin .leq (.t 11) (.t 12))), (cQ 14 [10,13] (.pick (.t 10) (.t 13) (kB false))), (cMv 6 14)]) .ret)))
def rs66 : List RV := [.t 6]
theorem cf66 : CF Tryz.prog Tryz.f66 [] 0 1 rc66 rs66 3 := ⟨by kernel_rfl, by kernel_rfl, by kernel_rfl, by decide⟩
def rc106 : RC := (.seq (.reg false [(cQ 2 [] (.mv (kB false)))]) (.keep [0] (.seq (.reg false [(cMv 3 0), (cQ 4 [3] (.call (kF 66) [(.t 3), (kI 0), (kI 99)])), (cMv 2 4)]) .ret)))
def rs106 : List RV := [.t 2]
theorem Qv0 : CF Tryz.prog Tryz.f106 [] 0 1 rc106 rs106 1 := ⟨by kernel_rfl, by kernel_rfl, by kernel_rfl, by decide⟩
def rc110 : RC := (.seq (.reg false [(cQ 2 [] (.mv (kB false)))]) (.keep [0] (.seq (.reg false [(cMv 3 0), (cQ 4 [3] (.call (kF 66) [(.t 3), (kI 0), (kI 99)])), (cMv 2 4)]) .ret)))
def rs110 : List RV := [.t 2]
theorem Qv4 : CF Tryz.prog Tryz.f110 [] 0 1 rc110 rs110 1 := ⟨by kernel_rfl, by kernel_rfl, by kernel_rfl, by decide⟩
def rc63 : RC := (.seq (.reg false [(cX 2 0), (cX 3 1), (cI 4 0)]) (.keep [2,3] (.seq (.block 0 (.seq (.reg true [(cFa 6 2 0), (cLd 7 6 false 1), (cFa 8 3 0), (cLd 9 8 false 1), (cQ 10 [7,9] (.call (kF 84) [(.t 7), (.t 9)])), (cN 11 10), (cMv 12 11), (gQ 13 12 false [3] (.fad 1 (.t 3))), (gQ 14 12 false [13] (.ld false 1 (.t 13))), (gQ 15 12 false [2] (.fad 1 (.t 2))), (gQ 16 12 false [15] (.fad 0 (.t 15))), (gQ 17 12 false [16] (.ld false 1 (.t 16))), (gQ 18 12 false [2] (.fad 1 (.t 2))), (gQ 19 12 false [18] (.fad 1 (.t 18))), (gQ 20 12 false [19] (.ld false 1 (.t 19))), (gQ 21 12 false [14,17,20] (.call (kF 66) [(.t 14), (.t 17), (.t 20)])), (gQ 22 12 false [21] (.not (.t 21))), (cQ 23 [12,22] (.pick (.t 12) (kB true) (.t 22))), (cMv 5 23)]) (.keep [2,3,5] (.cond (.t 5) (.seq (.reg false [(cI 4 0)]) .ret) (.seq (.reg false [(cFa 25 3 2), (cLd 26 25 false 1), (cFa 27 2 3), (cLd 28 27 false 1), (cB 29 .eql 26 28), (cMv 24 29)]) (.keep [3,24] (.cond (.t 24) (.seq (.reg false [(cI 4 1)]) .ret) (.seq (.reg false [(cFa 31 3 2), (cLd 32 31 false 1), (cC 33 .eql 32 0), (cMv 30 33)]) (.keep [30] (.cond (.t 30) (.seq (.reg false [(cI 4 2)]) .ret) .skip)))))))))) (.keep [] (.seq (.reg false [(cI 4 0)]) .ret)))))
def rs63 : List RV := [.t 4]
theorem cf63 : CF Tryz.prog Tryz.f63 [2,3] 0 1 rc63 rs63 2 := ⟨by kernel_rfl, by kernel_rfl, by kernel_rfl, by decide⟩
def rc39 : RC := (.seq (.reg false [(cX 2 0), (cQ 4 [] (.mv (kB false)))]) (.keep [1,2] (.seq (.reg false [(cMv 5 1), (cFa 6 2 6), (cLd 7 6 false 1), (cLn 8 7), (cC 9 .sub 8 1), (cQ 10 [5,9] (.call (kF 66) [(.t 5), (kI 0), (.t 9)])), (cMv 4 10)]) .ret)))
def rs39 : List RV := [.t 4]
theorem cf39 : CF Tryz.prog Tryz.f39 [2] 0 1 rc39 rs39 2 := ⟨by kernel_rfl, by kernel_rfl, by kernel_rfl, by decide⟩
def rc64 : RC := (.seq (.reg false [(cX 4 1), (cX 5 2), (cQ 6 [] (.mv (kB false)))]) (.keep [0,4,5] (.seq (.any true 0 [⟨(cFa 7 4 1), [], []⟩, ⟨(cLd 8 7 false 1), [], [0]⟩, ⟨(cFa 9 5 2), [], []⟩, ⟨(cLd 10 9 false 1), [], [2]⟩, ⟨(cB 11 .leq 8 10), [], [1,0,3,2]⟩, ⟨(cMv 12 11), [], [4,1,0,3,2]⟩, ⟨(gMv 13 12 true 0), [], [5,4,1,0,3,2]⟩, ⟨(gQ 14 12 true [13] (.nilc (.t 13))), [], [6,5,4,1,0,3,2]⟩, ⟨(gQ 15 12 true [14] (.fad 10 (.t 14))), [], [7,6,5,4,1,0,3,2]⟩, ⟨(gQ 16 12 true [15] (.ld false 1 (.t 15))), [], [8,7,6,5,4,1,0,3,2]⟩, ⟨(gQ 17 12 true [4] (.fad 0 (.t 4))), [], [5,4,1,0,3,2]⟩, ⟨(gQ 18 12 true [17] (.ld false 1 (.t 17))), [], [10,5,4,1,0,3,2]⟩, ⟨(gQ 19 12 true [5] (.fad 0 (.t 5))), [], [5,4,1,0,3,2]⟩, ⟨(gQ 20 12 true [19] (.ld false 1 (.t 19))), [], [12,5,4,1,0,3,2]⟩, ⟨(gQ 21 12 true [5] (.fad 1 (.t 5))), [], [5,4,1,0,3,2]⟩, ⟨(gQ 22 12 true [21] (.ld false 1 (.t 21))), [], [14,5,4,1,0,3,2]⟩, ⟨(gQ 23 12 true [18,20,22] (.bld [(.i 0), (.i 0), (.i 0)] [(0,1, (.t 18)), (1,1, (.t 20)), (2,1, (.t 22))])), [], [11,10,5,4,1,0,3,2,13,12,15,14]⟩, ⟨(gQ 24 12 true [16,23] (.lkp (.i 0) false 117 true (.t 16) (.t 23))), [], [9,8,7,6,5,4,1,0,3,2,16,11,10,13,12,15,14]⟩, ⟨(gQ 25 12 true [24] (.bin .gtr (.t 24) (kI 0))), [], [17,9,8,7,6,5,4,1,0,3,2,16,11,10,13,12,15,14]⟩, ⟨(cQ 26 [12,25] (.pick (.t 12) (.t 25) (kB false))), [], [5,4,1,0,3,2,18,17,9,8,7,6,16,11,10,13,12,15,14]⟩, ⟨(cMv 6 26), [], [19,5,4,1,0,3,2,18,17,9,8,7,6,16,11,10,13,12,15,14]⟩]) .ret)))
def rs64 : List RV := [.t 6]
theorem cf64 : CF Tryz.prog Tryz.f64 [4,5] 0 1 rc64 rs64 3 := ⟨by kernel_rfl, by kernel_rfl, by kernel_rfl, by decide⟩
def rc78 : RC := (.seq (.reg false [(cX 1 0), (cI 2 0)]) (.keep [1] (.seq (.seq (.reg false [(cLd 9 1 true 4), (cQ 10 [9] (.call (kF 104) [(.t 9)])), (cN 11 10)]) (.keep [1,11] (.cond (.t 11) (.seq (.reg false [(cI 2 70)]) .ret) .skip))) (.keep [1] (.seq (.reg false [⟨(some 12), none, [], none, .w (.mkm true)⟩, (cMv 3 12)]) (.keep [1,3] (.seq (.seq (.reg false [(cFa 13 1 3), (cLd 14 13 false 1), (cLn 15 14), (cI 16 0)]) (.keep [3,14,15,16] (.block 0 (.loop [3,14,15,16] (some 1) (.seq (.reg false [(cB 17 .lss 16 15)]) (.keep [3,14,15,16,17] (.seq (.cond (.t 17) .skip (.exit 0)) (.keep [3,14,15,16] (.seq (.block 1 (.seq (.reg false [(cA 18 4 14 16), (cLd 19 18 true 4), ⟨(some 5), none, [], none, .w (.alc [(.i 0), (.i 0), (.i 0), (.i 0)])⟩, ⟨none, none, [5,19], none, .w (.st 4 (.t 5) (.t 19))⟩]) (.keep [3,5,14,15,16] (.seq (.reg false [(cFa 20 5 0), (cLd 21 20 false 1), (cFa 22 5 1), (cLd 23 22 false 1), (cFa 24 5 2), (cLd 25 24 false 1), (cQ 26 [21,23,25] (.bld [(.i 0), (.i 0), (.i 0)] [(0,1, (.t 21)), (1,1, (.t 23)), (2,1, (.t 25))])), ⟨(some 6), none, [], none, .w (.alc [(.i 0), (.i 0), (.i 0)])⟩, ⟨none, none, [6,26], none, .w (.st 3 (.t 6) (.t 26))⟩]) (.keep [3,5,6,14,15,16] (.seq (.seq (.reg false [(cMv 28 3), (cLd 29 6 true 3), (cQ 30 [28,29] (.lkp (.i 0) true 170 true (.t 28) (.t 29))), (cMv 27 30), (cEx 31 27 0), (cEx 32 27 1), (cMv 7 31), (cMv 8 32)]) (.keep [3,5,6,7,8,14,15,16] (.seq (.reg true [(cMv 33 8), (cMv 34 33), (gMv 35 34 true 7), (gQ 36 34 true [5] (.fad 3 (.t 5))), (gQ 37 34 true [36] (.ld false 1 (.t 36))), (gQ 38 34 true [35,37] (.bin .neq (.t 35) (.t 37))), (cQ 39 [34,38] (.pick (.t 34) (.t 38) (kB false)))]) (.keep [3,5,6,14,15,16,39] (.cond (.t 39) (.seq (.reg false [(cI 2 71)]) .ret) .skip))))) (.keep [3,5,6,14,15,16] (.reg false [(cMv 40 3), (cLd 41 6 true 3), (cFa 42 5 3), (cLd 43 42 false 1), ⟨none, none, [40,41,43], none, .w (.mup 170 true (.t 40) (.t 41) (.t 43))⟩])))))))) (.drp 1 (.keep [3,14,15,16] (.reg false [(cC 44 .add 16 1), (cMv 16 44)])))))))))))) (.keep [] (.seq (.reg false [(cI 2 0)]) .ret)))))))))
def rs78 : List RV := [.t 2]
theorem cf78 : CF Tryz.prog Tryz.f78 [1] 0 1 rc78 rs78 1 := ⟨by kernel_rfl, by kernel_rfl, by kernel_rfl, by decide⟩
end Go.CS
set_option linter.all false
namespace Go.CS
open Go.Fam Go.Proofs
open Go.C06 (Span eI eIs Qbx gI gR dI Qbl Qcj fnG Qad Qab Qa6 Qa8 idxOf Qas Qaj Qal Qar Qai Qag Qac Qat Qb3 Qc5 vw_I Qay hmix eLI dLI Qca Qan Qa3 Qaa Qau)
variable {Γ : Gam}
theorem W66 (n lo hi : Int) : Qa5 Tryz.prog 66 [.i n, .i lo, .i hi] (.b (Qa6 n lo hi)) := by
 refine Qa4 Qx4 hmix Tryz.func66 cf66.b cf66.c cf66.s cf66.n ?_
 simp only [rc66, rs66, Qa0, ↓reduceIte, Nat.reduceEqDiff, Nat.reduceAdd, rvs, zipA, V.b.injEq, decide_eq_true_eq, decide_eq_false_iff_not, implies_true, reduceCtorEq, Qmq, imp_self, BU1]
 by_cases h : lo ≤ n <;> simp [h, Qa6]
def sKn : List V → Prop × V | [.i a, .i b] => (True, .i (Qoh a b)) | _ => (False, .u)
theorem Zgi (vs : List V) (h : (sKn vs).1) : Qa5 Tryz.prog 121 vs (sKn vs).2 := by
 unfold sKn at h ⊢
 split at h
 ·exact W121 _ _
 ·exact h.elim
noncomputable def K48 : Gam := ((K47.ext 118 (fnG eWF dWF (fun a => OkF a.1 a.2.1 a.2.2.2.1 a.2.2.2.2) (fun a => Qcv a.1 a.2.1 a.2.2.1 a.2.2.2.1 a.2.2.2.2) .b)).ext 121 sKn).ext 66 sWi
theorem Qtp : GOk Tryz.prog K48 := ((Qx4.ext (f := 118) (fun a w => Tryz.call118 a w) (Qad (e := eWF) (d := dWF) (ok := fun a => OkF a.1 a.2.1 a.2.2.2.1 a.2.2.2.2) (g := fun a => Qcv a.1 a.2.1 a.2.2.1 a.2.2.2.1 a.2.2.2.2) (eb := .b) fun a h => W118 a.1 a.2.1 a.2.2.1 a.2.2.2.1 a.2.2.2.2 h)).ext (f := 121) (r := sKn) (fun a w => Tryz.call121 a w) Zgi).ext (f := 66) (r := sWi) (fun a w => Tryz.call66 a w) (Qqw W66)
theorem h118 (w : Work) (i n m k : Int) : K48 118 [.ag (Qa7 w), .i i, .i n, .i m, .i k] = (OkF w i m k, .b (Qcv w i n m k)) := (show K48 118 _ = fnG eWF dWF (fun a => OkF a.1 a.2.1 a.2.2.2.1 a.2.2.2.2) (fun a => Qcv a.1 a.2.1 a.2.2.1 a.2.2.2.1 a.2.2.2.2) .b (eWF (w, i, n, m, k)) from rfl).trans (Qab _ (Zd7 _))
theorem h66 (n lo hi : Int) : K48 66 [.i n, .i lo, .i hi] = (True, .b (Qa6 n lo hi)) := rfl
theorem Qnf (l : List Int) (n : Int) : K48 84 [.sl 1 (l.map eI), .i n] = (l.length < 10000000, .b (decide (n ∈ l))) := h84 l n
theorem W106 (n : Int) : Qa5 Tryz.prog 106 [.i n] (.b (Qa6 n 0 99)) := by
 refine Qa4 Qtp hmix Tryz.func106 Qv0.b Qv0.c Qv0.s Qv0.n ?_
 simp only [rc106, rs106, h66, Qa0, Qa2, Qa1, flat, ↓reduceIte, Nat.reduceLT, rvs, zipA, Qa, implies_true, reduceCtorEq, BU1]
theorem W110 (n : Int) : Qa5 Tryz.prog 110 [.i n] (.b (Qa6 n 0 99)) := by
 refine Qa4 Qtp hmix Tryz.func110 Qv4.b Qv4.c Qv4.s Qv4.n ?_
 simp only [rc110, rs110, h66, Qa0, Qa2, Qa1, flat, ↓reduceIte, Nat.reduceLT, rvs, zipA, Qa, implies_true, reduceCtorEq, BU1]
theorem W39 (s : Shop) (n : Int) (hl : s.wishes.length ≤ 1000000) : Qa5 Tryz.prog 39 [.ag (Qae s), .i n] (.b (Qa6 n 0 (s.wishes.length - 1))) := by
 refine Qa4 Qtp hmix Tryz.func39 cf39.b cf39.c cf39.s cf39.n ?_
 have h1 : inI ((s.wishes.length : Int) - 1) := by unfold inI; omega
 simp only [rc39, rs39, h66, h1, Qa0, Qa2, Qa1, flat, ↓reduceIte, Nat.reduceEqDiff, Nat.reduceAdd, Nat.reduceLT, Nat.reduceLeDiff, rvs, zipA, Qa, implies_true, reduceCtorEq, Qae, BU1]
def Qd1 (x : Wish) (p : Piece) : Int := if p.color ∈ x.colors ∧ Qa6 p.size x.size.low x.size.high = true then (if p.letter = x.letter then 1 else if p.letter = 0 then 2 else 0) else 0
theorem W63 (x : Wish) (p : Piece) (hl : x.colors.length < 10000000) : Qa5 Tryz.prog 63 [.ag (eWish x), .ag (ePiece p)] (.i (Qd1 x p)) := by
 refine Qa4 Qtp hmix Tryz.func63 cf63.b cf63.c cf63.s cf63.n ?_
 unfold Qd1
 by_cases e1 : p.color ∈ x.colors
 rotate_left
 ·simp only [rc63, rs63, Qnf, hl, e1, Qa0, Qb7, Qa2, Qa1, flat, ↓reduceIte, Nat.reduceEqDiff, Nat.reduceAdd, Nat.reduceLT, Nat.reduceLeDiff, rvs, zipA, Qa, Qb, forall_const, implies_true, reduceCtorEq, imp_self, ePiece, eWish, BU1]
 cases e2 : Qa6 p.size x.size.low x.size.high with
 | false => simp only [rc63, rs63, Qnf, hl, e1, h66, e2, Qa0, Qa2, Qa1, flat, ↓reduceIte, Nat.reduceEqDiff, Nat.reduceAdd, Nat.reduceLT, Nat.reduceLeDiff, rvs, zipA, beq_self_eq_true, Qa, and_false, forall_const, implies_true, reduceCtorEq, ePiece, eWish, BU1]
 | true =>
 by_cases e3 : p.letter = x.letter
 ·simp only [rc63, rs63, Qnf, hl, e1, h66, e2, e3, Qa0, Qa2, Qa1, flat, ↓reduceIte, Nat.reduceEqDiff, Nat.reduceAdd, Nat.reduceLT, Nat.reduceLeDiff, rvs, zipA, beq_self_eq_true, Qa, forall_const, implies_true, reduceCtorEq, ePiece, eWish, BU1]
 by_cases e4 : p.letter = 0
 ·have e5 : ¬ (0 : Int) = x.letter := fun e => e3 (e4.trans e)
  simp only [rc63, rs63, Qnf, hl, e1, h66, e2, e4, e5, Qa0, Qa2, Qa1, flat, ↓reduceIte, Nat.reduceEqDiff, Nat.reduceAdd, Nat.reduceLT, Nat.reduceLeDiff, rvs, zipA, beq_self_eq_true, Qa, forall_const, implies_true, reduceCtorEq, ePiece, eWish, BU1]
 ·simp only [rc63, rs63, Qnf, hl, e1, h66, e2, e3, e4, Qa0, Qa2, Qa1, flat, ↓reduceIte, Nat.reduceEqDiff, Nat.reduceAdd, Nat.reduceLT, Nat.reduceLeDiff, rvs, zipA, beq_self_eq_true, Qa, forall_const, implies_true, reduceCtorEq, ePiece, eWish, BU1]
end Go.CS
set_option maxRecDepth 8000
namespace Go.CS
open Go.Fam Go.Proofs
def rc107 : RC := (.seq (.reg false [(cQ 4 [] (.mv (kB false)))]) (.keep [0,1] (.seq (.seq (.reg false [(cMv 7 0), (cLn 8 7), (cI 9 0)]) (.keep [0,1,7,8,9] (.block 0 (.loop [0,1,7,8,9] none (.seq (.reg false [(cB 10 .lss 9 8)]) (.keep [0,1,7,8,9,10] (.seq (.cond (.t 10) .skip (.exit 0)) (.keep [0,1,7,8,9] (.seq (.block 1 (.seq (.reg false [(cMv 11 9), (cA 12 1 7 9), (cLd 13 12 false 1), (cMv 5 11), (cMv 6 13)]) (.keep [0,1,5,6,7,8,9] (.seq (.reg true [(cMv 14 1), (cMv 15 6), (cQ 16 [14,15] (.call (.t 14) [(.t 15)])), (cN 17 16), (cMv 18 17), (gMv 19 18 false 5), (gQ 20 18 false [19] (.bin .gtr (.t 19) (kI 0))), (gMv 21 18 false 20), (gMv 22 21 true 6), (gMv 23 21 true 0), (gMv 24 21 true 5), (gQ 25 21 true [24] (.bin .sub (.t 24) (kI 1))), (gQ 26 21 true [23,25] (.iad 1 (.t 23) (.t 25))), (gQ 27 21 true [26] (.ld false 1 (.t 26))), (gQ 28 21 true [22,27] (.bin .leq (.t 22) (.t 27))), (gQ 29 18 false [21,28] (.pick (.t 21) (.t 28) (kB false))), (cQ 30 [18,29] (.pick (.t 18) (kB true) (.t 29)))]) (.keep [0,1,7,8,9,30] (.cond (.t 30) (.seq (.reg false [(cQ 4 [] (.mv (kB false)))]) .ret) .skip)))))) (.keep [0,1,7,8,9] (.reg false [(cC 31 .add 9 1), (cMv 9 31)]))))))))))) (.keep [] (.seq (.reg false [(cQ 4 [] (.mv (kB true)))]) .ret)))))
def rs107 : List RV := [.t 4]
theorem Qv1 : CF Tryz.prog Tryz.f107 [] 0 1 rc107 rs107 2 := ⟨by kernel_rfl, by kernel_rfl, by kernel_rfl, by decide⟩
def rc108 : RC := (.seq (.reg false [(cQ 4 [] (.mv (kB false)))]) (.keep [0,1,2] (.seq (.reg false [(cMv 5 0), (cFa 6 1 1), (cLd 7 6 false 1), (cFa 8 2 3), (cLd 9 8 false 1), (cA 10 1 7 9), (cFa 11 10 0), (cLd 12 11 false 1), (cLn 13 12), (cC 14 .sub 13 1), (cQ 15 [5,14] (.call (kF 66) [(.t 5), (kI 0), (.t 14)])), (cMv 4 15)]) .ret)))
def rs108 : List RV := [.t 4]
theorem Qv2 : CF Tryz.prog Tryz.f108 [] 0 1 rc108 rs108 3 := ⟨by kernel_rfl, by kernel_rfl, by kernel_rfl, by decide⟩
def rc105 : RC := (.seq (.reg false [(cX 2 0), (cQ 3 [] (.mv (kB false)))]) (.keep [1,2] (.seq (.reg true [(cFa 4 2 0), (cLd 5 4 false 1), (cQ 6 [5] (.call (kF 106) [(.t 5)])), (cN 7 6), (cMv 8 7), (gQ 9 8 false [2] (.fad 1 (.t 2))), (gQ 10 8 false [9] (.ld false 1 (.t 9))), (gQ 11 8 false [10] (.call (kF 106) [(.t 10)])), (gQ 12 8 false [11] (.not (.t 11))), (cQ 13 [8,12] (.pick (.t 8) (kB true) (.t 12))), (cMv 14 13), (gQ 15 14 false [2] (.fad 2 (.t 2))), (gQ 16 14 false [15] (.ld false 1 (.t 15))), (gQ 17 14 false [16] (.call (kF 106) [(.t 16)])), (gQ 18 14 false [17] (.not (.t 17))), (cQ 19 [14,18] (.pick (.t 14) (kB true) (.t 18))), (cMv 20 19), (gQ 21 20 false [2] (.fad 3 (.t 2))), (gQ 22 20 false [21] (.ld false 1 (.t 21))), (gQ 23 20 false [1] (.fad 1 (.t 1))), (gQ 24 20 false [23] (.ld false 1 (.t 23))), (gQ 25 20 false [24] (.len (.t 24))), (gQ 26 20 false [25] (.bin .sub (.t 25) (kI 1))), (gQ 27 20 false [22,26] (.call (kF 66) [(.t 22), (kI 0), (.t 26)])), (gQ 28 20 false [27] (.not (.t 27))), (cQ 29 [20,28] (.pick (.t 20) (kB true) (.t 28))), (cMv 30 29), (gQ 31 30 false [2] (.fad 4 (.t 2))), (gQ 32 30 false [31] (.ld false 1 (.t 31))), (gQ 33 30 false [1,2] (.mkf 108 [(.t 1), (.t 2)])), (gQ 34 30 false [32,33] (.call (kF 107) [(.t 32), (.t 33)])), (gQ 35 30 false [34] (.not (.t 34))), (cQ 36 [30,35] (.pick (.t 30) (kB true) (.t 35))), (cMv 3 36)]) .ret)))
def rs105 : List RV := [.t 3]
theorem Quz : CF Tryz.prog Tryz.f105 [2] 0 1 rc105 rs105 2 := ⟨by kernel_rfl, by kernel_rfl, by kernel_rfl, by decide⟩
def rc109 : RC := (.seq (.reg false [(cX 1 0), (cQ 2 [] (.mv (kB false)))]) (.keep [1] (.seq (.reg true [(cFa 3 1 0), (cLd 4 3 false 1), (cLn 5 4), (cQ 6 [5] (.call (kF 66) [(.t 5), (kI 1), (kI 8)])), (cN 7 6), (cMv 8 7), (gQ 9 8 false [1] (.fad 0 (.t 1))), (gQ 10 8 false [9] (.ld false 1 (.t 9))), (gQ 11 8 false [10] (.call (kF 107) [(.t 10), (kF 106)])), (gQ 12 8 false [11] (.not (.t 11))), (cQ 13 [8,12] (.pick (.t 8) (kB true) (.t 12))), (cMv 14 13), (gQ 15 14 false [1] (.fad 1 (.t 1))), (gQ 16 14 false [15] (.fad 0 (.t 15))), (gQ 17 14 false [16] (.ld false 1 (.t 16))), (gQ 18 14 false [17] (.call (kF 106) [(.t 17)])), (gQ 19 14 false [18] (.not (.t 18))), (cQ 20 [14,19] (.pick (.t 14) (kB true) (.t 19))), (cMv 21 20), (gQ 22 21 false [1] (.fad 1 (.t 1))), (gQ 23 21 false [22] (.fad 1 (.t 22))), (gQ 24 21 false [23] (.ld false 1 (.t 23))), (gQ 25 21 false [24] (.call (kF 106) [(.t 24)])), (gQ 26 21 false [25] (.not (.t 25))), (cQ 27 [21,26] (.pick (.t 21) (kB true) (.t 26))), (cMv 28 27), (gQ 29 28 false [1] (.fad 1 (.t 1))), (gQ 30 28 false [29] (.fad 0 (.t 29))), (gQ 31 28 false [30] (.ld false 1 (.t 30))), (gQ 32 28 false [1] (.fad 1 (.t 1))), (gQ 33 28 false [32] (.fad 1 (.t 32))), (gQ 34 28 false [33] (.ld false 1 (.t 33))), (gQ 35 28 false [31,34] (.bin .gtr (.t 31) (.t 34))), (cQ 36 [28,35] (.pick (.t 28) (kB true) (.t 35))), (cMv 37 36), (gQ 38 37 false [1] (.fad 3 (.t 1))), (gQ 39 37 false [38] (.ld false 1 (.t 38))), (gQ 40 37 false [39] (.call (kF 106) [(.t 39)])), (gQ 41 37 false [40] (.not (.t 40))), (cQ 42 [37,41] (.pick (.t 37) (kB true) (.t 41))), (cMv 43 42), (gQ 44 43 false [1] (.fad 4 (.t 1))), (gQ 45 43 false [44] (.ld false 1 (.t 44))), (gQ 46 43 false [45] (.call (kF 110) [(.t 45)])), (gQ 47 43 false [46] (.not (.t 46))), (cQ 48 [43,47] (.pick (.t 43) (kB true) (.t 47))), (cMv 49 48), (gQ 50 49 false [1] (.fad 5 (.t 1))), (gQ 51 49 false [50] (.ld false 1 (.t 50))), (gQ 52 49 false [51] (.call (kF 66) [(.t 51), (kI 0), (kI 100000)])), (gQ 53 49 false [52] (.not (.t 52))), (cQ 54 [49,53] (.pick (.t 49) (kB true) (.t 53))), (cMv 2 54)]) .ret)))
def rs109 : List RV := [.t 2]
theorem Qv3 : CF Tryz.prog Tryz.f109 [1] 0 1 rc109 rs109 1 := ⟨by kernel_rfl, by kernel_rfl, by kernel_rfl, by decide⟩
def rc111 : RC := (.seq (.reg false [(cX 2 0), (cQ 3 [] (.mv (kB false)))]) (.keep [1,2] (.seq (.reg true [(cFa 4 2 0), (cLd 5 4 false 1), (cQ 6 [5] (.call (kF 110) [(.t 5)])), (cN 7 6), (cMv 8 7), (gQ 9 8 false [2] (.fad 1 (.t 2))), (gQ 10 8 false [9] (.ld false 1 (.t 9))), (gQ 11 8 false [1] (.fad 0 (.t 1))), (gQ 12 8 false [11] (.ld false 1 (.t 11))), (gQ 13 8 false [12] (.len (.t 12))), (gQ 14 8 false [13] (.bin .sub (.t 13) (kI 1))), (gQ 15 8 false [10,14] (.call (kF 66) [(.t 10), (kI 0), (.t 14)])), (gQ 16 8 false [15] (.not (.t 15))), (cQ 17 [8,16] (.pick (.t 8) (kB true) (.t 16))), (cMv 18 17), (gQ 19 18 false [2] (.fad 2 (.t 2))), (gQ 20 18 false [19] (.ld false 1 (.t 19))), (gQ 21 18 false [20] (.call (kF 66) [(.t 20), (kI 1), (kI 10)])), (gQ 22 18 false [21] (.not (.t 21))), (cQ 23 [18,22] (.pick (.t 18) (kB true) (.t 22))), (cMv 3 23)]) .ret)))
def rs111 : List RV := [.t 3]
theorem Qv5 : CF Tryz.prog Tryz.f111 [2] 0 1 rc111 rs111 2 := ⟨by kernel_rfl, by kernel_rfl, by kernel_rfl, by decide⟩
def rc112 : RC := (.seq (.reg false [(cQ 2 [] (.mv (kB false)))]) (.keep [0] (.seq (.reg false [(cMv 3 0), (cQ 4 [3] (.call (kF 66) [(.t 3), (kI 0), (kI 10)])), (cN 5 4), (cMv 2 5)]) .ret)))
def rs112 : List RV := [.t 2]
theorem Qv6 : CF Tryz.prog Tryz.f112 [] 0 1 rc112 rs112 1 := ⟨by kernel_rfl, by kernel_rfl, by kernel_rfl, by decide⟩
def rc114 : RC := (.seq (.reg false [(cQ 4 [] (.mv (kB false)))]) (.keep [0,1] (.seq (.reg false [(cMv 5 0), (cMv 6 1), (cQ 7 [5,6] (.call (kF 144) [(.t 5), (.t 6)])), (cC 8 .geq 7 0), (cMv 4 8)]) .ret)))
def rs114 : List RV := [.t 4]
theorem Qv7 : CF Tryz.prog Tryz.f114 [] 0 1 rc114 rs114 2 := ⟨by kernel_rfl, by kernel_rfl, by kernel_rfl, by decide⟩
def rc115 : RC := (.seq (.reg false [(cQ 4 [] (.mv (kB false)))]) (.keep [0,1] (.seq (.reg false [(cMv 5 0), (cMv 6 1), (cQ 7 [5,6] (.call (kF 145) [(.t 5), (.t 6)])), (cC 8 .geq 7 0), (cMv 4 8)]) .ret)))
def rs115 : List RV := [.t 4]
theorem Qv8 : CF Tryz.prog Tryz.f115 [] 0 1 rc115 rs115 2 := ⟨by kernel_rfl, by kernel_rfl, by kernel_rfl, by decide⟩
def rc116 : RC := (.seq (.reg false [(cQ 4 [] (.mv (kB false)))]) (.keep [0,1] (.seq (.reg false [(cMv 5 0), (cMv 6 1), (cQ 7 [5,6] (.call (kF 146) [(.t 5), (.t 6)])), (cC 8 .geq 7 0), (cMv 4 8)]) .ret)))
def rs116 : List RV := [.t 4]
theorem Qv9 : CF Tryz.prog Tryz.f116 [] 0 1 rc116 rs116 2 := ⟨by kernel_rfl, by kernel_rfl, by kernel_rfl, by decide⟩
def rc79 : RC := (.seq (.reg false [(cX 1 0), (cQ 2 [] (.mv (kB false)))]) (.keep [1] (.seq (.reg false [(cFa 8 1 0), (cLd 9 8 true 4), ⟨(some 3), none, [], none, .w (.alc [(.z 4), (.z 1), (.i 0), (.z 4)])⟩, ⟨none, none, [3,9], none, .w (.st 4 (.t 3) (.t 9))⟩]) (.keep [1,3] (.seq (.reg false [(cQ 10 [3] (.mkf 105 [(.t 3)])), (cMv 4 10)]) (.keep [1,3,4] (.seq (.reg false [(cQ 5 [] (.mv (kF 109)))]) (.keep [1,3,4,5] (.seq (.reg false [(cQ 11 [3] (.mkf 111 [(.t 3)])), (cMv 6 11)]) (.keep [1,3,4,5,6] (.seq (.reg false [(cQ 7 [] (.mv (kF 112)))]) (.keep [1,3,4,5,6,7] (.seq (.reg true [(cFa 12 1 4), (cLd 13 12 false 1), (cLn 14 13), (cFa 15 3 0), (cLd 16 15 false 1), (cLn 17 16), (cB 18 .eql 14 17), (cMv 19 18), (gQ 20 19 true [1] (.fad 4 (.t 1))), (gQ 21 19 true [20] (.ld false 1 (.t 20))), (gMv 22 19 true 7), (gQ 23 19 true [21,22] (.call (kF 113) [(.t 21), (.t 22)])), (gQ 24 19 true [23] (.not (.t 23))), (cQ 25 [19,24] (.pick (.t 19) (.t 24) (kB false))), (cMv 26 25), (gQ 27 26 true [1] (.fad 5 (.t 1))), (gQ 28 26 true [27] (.ld false 1 (.t 27))), (gQ 29 26 true [28] (.len (.t 28))), (gQ 30 26 true [29] (.bin .leq (.t 29) (kI 8))), (cQ 31 [26,30] (.pick (.t 26) (.t 30) (kB false))), (cMv 32 31), (gQ 33 32 true [1] (.fad 5 (.t 1))), (gQ 34 32 true [33] (.ld false 1 (.t 33))), (gMv 35 32 true 4), (gQ 36 32 true [34,35] (.call (kF 114) [(.t 34), (.t 35)])), (gQ 37 32 true [36] (.not (.t 36))), (cQ 38 [32,37] (.pick (.t 32) (.t 37) (kB false))), (cMv 39 38), (gQ 40 39 true [1] (.fad 6 (.t 1))), (gQ 41 39 true [40] (.ld false 1 (.t 40))), (gQ 42 39 true [41] (.len (.t 41))), (gQ 43 39 true [42] (.bin .leq (.t 42) (kI 6))), (cQ 44 [39,43] (.pick (.t 39) (.t 43) (kB false))), (cMv 45 44), (gQ 46 45 true [1] (.fad 6 (.t 1))), (gQ 47 45 true [46] (.ld false 1 (.t 46))), (gMv 48 45 true 5), (gQ 49 45 true [47,48] (.call (kF 115) [(.t 47), (.t 48)])), (gQ 50 45 true [49] (.not (.t 49))), (cQ 51 [45,50] (.pick (.t 45) (.t 50) (kB false))), (cMv 52 51), (gQ 53 52 true [1] (.fad 7 (.t 1))), (gQ 54 52 true [53] (.ld false 1 (.t 53))), (gQ 55 52 true [54] (.len (.t 54))), (gQ 56 52 true [55] (.bin .leq (.t 55) (kI 8))), (cQ 57 [52,56] (.pick (.t 52) (.t 56) (kB false))), (cMv 58 57), (gQ 59 58 true [1] (.fad 7 (.t 1))), (gQ 60 58 true [59] (.ld false 1 (.t 59))), (gMv 61 58 true 6), (gQ 62 58 true [60,61] (.call (kF 116) [(.t 60), (.t 61)])), (gQ 63 58 true [62] (.not (.t 62))), (cQ 64 [58,63] (.pick (.t 58) (.t 63) (kB false))), (cMv 65 64), (gQ 66 65 true [1] (.fad 8 (.t 1))), (gQ 67 65 true [66] (.ld false 1 (.t 66))), (gQ 68 65 true [67] (.call (kF 110) [(.t 67)])), (cQ 69 [65,68] (.pick (.t 65) (.t 68) (kB false))), (cMv 2 69)]) .ret)))))))))))))
def rs79 : List RV := [.t 2]
theorem cf79 : CF Tryz.prog Tryz.f79 [1] 0 1 rc79 rs79 1 := ⟨by kernel_rfl, by kernel_rfl, by kernel_rfl, by decide⟩
def rc58 : RC := (.seq (.reg false [(cX 1 0), (cI 2 0)]) (.keep [1] (.seq (.seq (.reg false [(cFa 4 1 0), (cLd 5 4 true 4), (cQ 6 [5] (.call (kF 78) [(.t 5)])), (cMv 3 6)]) (.keep [1,3] (.seq (.reg false [(cMv 7 3), (cC 8 .neq 7 0)]) (.keep [1,3,8] (.cond (.t 8) (.seq (.reg false [(cMv 9 3), (cMv 2 9)]) .ret) .skip))))) (.keep [1] (.seq (.seq (.reg false [(cLd 10 1 true 9), (cQ 11 [10] (.call (kF 79) [(.t 10)])), (cN 12 11)]) (.keep [12] (.cond (.t 12) (.seq (.reg false [(cI 2 80)]) .ret) .skip))) (.keep [] (.seq (.reg false [(cI 2 0)]) .ret)))))))
def rs58 : List RV := [.t 2]
theorem cf58 : CF Tryz.prog Tryz.f58 [1] 0 1 rc58 rs58 1 := ⟨by kernel_rfl, by kernel_rfl, by kernel_rfl, by decide⟩
end Go.CS
set_option linter.all false
namespace Go.CS
open Go.Fam Go.Proofs
open Go.C06 (Span eI eIs Qbx gI gR dI Qbl Qcj fnG Qad Qab Qa6 Qa8 idxOf Qas Qaj Qal Qar Qai Qag Qac Qat Qb3 Qc5 vw_I Qay hmix eLI dLI Qca Qan Qa3 Qaa Qau)
variable {Γ : Gam}
theorem P107 (hG : GOk Tryz.prog Γ) (l : List Int) (m : Int) (f : Nat) (hf : f < 1000000) (caps : List V) (C : Prop) (hC : C) (hv : caps.map (vw [] 8) = caps) (hr : Qa1 caps = false) (hl : l.length < 10000000)
  (h : ∀ x : Int, Γ f (V.i x :: caps) = (C, .b (Qa6 x 0 m))) : Qa5 Tryz.prog 107 [.sl 1 (l.map eI), .fn f caps] (.b (risB l m)) := by
 refine Qa4 hG hmix Tryz.func107 Qv1.b Qv1.c Qv1.s Qv1.n ?_
 simp only [rc107, rs107, Qa0, ↓reduceIte, Nat.reduceEqDiff, zipA, reduceCtorEq, BU1]
 refine Qap l.length (fun k => ⟨lkp [(0, .sl 1 (l.map eI)), (1, .fn f caps), (7, .sl 1 (l.map eI)), (8, .i l.length), (9, .i k)], []⟩) (fun k => (∀ j x, j < k → l[j]? = some x → Qa6 x 0 m = true) ∧ ∀ j x y, j + 1 < k → l[j]? = some x → l[j + 1]? = some y → x < y) ?_ ?_ ?_ ?_
 ·simp only [Qg, ↓reduceIte, Nat.reduceEqDiff, reduceCtorEq, BU1]
 ·exact ⟨fun j x h => by omega, fun j x y h => by omega⟩
 ·rintro k hk ⟨hc, hd⟩
  obtain ⟨x, hx⟩ : ∃ x, l[k]? = some x := ⟨_, Qd hk⟩
  have hlt : (k : Int) < l.length := by omega
  have h4 : inI ((k : Int) + 1) := by unfold inI; omega
  have hno : Qa6 x 0 m = false → risB l m = false := fun e => by unfold risB; rw [Qeu hx e]; rfl
  have hp := h x
  cases hin : Qa6 x 0 m with
  | false =>
   have q := hno hin
   simp only [hx, hlt, hp, hC, hin, hf, hv, hr, q, Qa0, Qb7, binW, Qa2, Qa1, flat, ↓reduceIte, Nat.reduceEqDiff, Nat.reduceLeDiff, rvs, Qa, Qb, decide_eq_true_eq, decide_eq_false_iff_not, forall_const, implies_true, reduceCtorEq, imp_self, eI, BU1]
  | true =>
  cases k with
  | zero =>
   have hz : (0 : Int) < l.length := by omega
   have h5 : inI 1 := by unfold inI; omega
   simp only [hx, hz, hp, hC, hin, hf, hv, hr, h5, Qf, Qg, Qa0, Qa2, Qa1, flat, ↓reduceIte, Nat.reduceEqDiff, Nat.reduceLeDiff, Int.reduceNeg, Int.reduceToNat, Int.toNat_zero, Int.reduceLE, Int.reduceAdd, Int.reduceSub, Ql, beq_self_eq_true, Qk, Qa, and_false, forall_const, implies_true, reduceCtorEq, imp_self, eI, BU1]
   exact ⟨Qc9 hx hin hc, fun j x y h => by omega⟩
  | succ k =>
   obtain ⟨y, hy⟩ : ∃ y, l[k]? = some y := ⟨_, Qd (by omega)⟩
   have i1 : (0 : Int) < ((k + 1 : Nat) : Int) := by omega
   have i2 : ((k + 1 : Nat) : Int) - 1 = (k : Int) := by omega
   have i3 : inI (k : Int) ∧ (k : Int) < l.length := by unfold inI; omega
   have i4 : ((k + 1 : Nat) : Int) + 1 = ((k + 1 + 1 : Nat) : Int) := by omega
   rw [i4] at h4
   by_cases e3 : x ≤ y
   ·have q : risB l m = false := by
     cases h : risB l m with
     | false => rfl
     | true =>
      unfold risB at h
      rw [Q7] at h
      have := (Qdt l).1 h.2 k y x hy hx
      omega
    simp only [hx, hy, hlt, hp, hC, hin, hf, hv, hr, i1, i2, i3, e3, q, Qa0, Qa2, Qa1, flat, ↓reduceIte, Nat.reduceEqDiff, Nat.reduceLeDiff, rvs, beq_self_eq_true, Qa, Qb, forall_const, implies_true, reduceCtorEq, eI, BU1]
   ·simp only [hx, hy, hlt, hp, hC, hin, hf, hv, hr, i1, i2, i3, e3, i4, h4, Qa0, Qa2, Qa1, flat, ↓reduceIte, Nat.reduceEqDiff, Nat.reduceLeDiff, beq_self_eq_true, Qa, Qb, forall_const, implies_true, reduceCtorEq, eI, BU1]
    refine ⟨Qc9 hx hin hc, fun j a b hj ha hb => ?_⟩
    by_cases hjk : j + 1 < k + 1
    ·exact hd j a b hjk ha hb
    ·have : j = k := by omega
     subst this
     rw [hy] at ha; rw [hx] at hb; cases ha; cases hb; omega
 ·rintro ⟨hc, hd⟩
  have q : risB l m = true := by
   unfold risB
   rw [Qdn hc, Qj]
   exact (Qdt l).2 fun j x y hx hy => hd j x y (Qaf hy) hx hy
  simp only [q, Qa0, ↓reduceIte, Nat.reduceEqDiff, rvs, Ql, Qa, reduceCtorEq, BU1]
end Go.CS
set_option linter.all false
namespace Go.CS
open Go.Fam Go.Proofs
open Go.C06 (Span eI eIs Qbx gI gR dI Qbl Qcj fnG Qad Qab Qa6 Qa8 idxOf Qas Qaj Qal Qar Qai Qag Qac Qat Qb3 Qc5 vw_I Qay hmix eLI dLI Qca Qan Qa3 Qaa Qau)
variable {Γ : Gam}
def s99 : List V → Prop × V | [.i n] => (True, .b (Qa6 n 0 99)) | _ => (False, .u)
theorem Qyu {f : Nat} (hf : ∀ n : Int, Qa5 Tryz.prog f [.i n] (.b (Qa6 n 0 99))) (vs : List V) (h : (s99 vs).1) : Qa5 Tryz.prog f vs (s99 vs).2 := by
 unfold s99 at h ⊢
 split at h
 ·exact hf _
 ·exact h.elim
def eXP (a : Wish × Piece) : List V := [.ag (eWish a.1), .ag (ePiece a.2)]
def dXP : List V → Wish × Piece | [.ag s, .ag n] => (Qnv s, Qev n) | _ => (Qnv [], Qev [])
theorem Zhq (a : Wish × Piece) : dXP (eXP a) = a := by obtain ⟨w, n⟩ := a; simp [dXP, eXP, Qmf, Qf8]
def eHI (a : Shop × Int) : List V := [.ag (Qae a.1), .i a.2]
def dHI : List V → Shop × Int | [.ag s, .i n] => (Qj4 s, n) | _ => (Qj4 [], 0)
theorem Zcz (a : Shop × Int) : dHI (eHI a) = a := by obtain ⟨w, n⟩ := a; simp [dHI, eHI, Qjx]
noncomputable def K49 : Gam := (((K48.ext 106 s99).ext 110 s99).ext 39 (fnG eHI dHI (fun a => a.1.wishes.length ≤ 1000000) (fun a => Qa6 a.2 0 (a.1.wishes.length - 1)) .b)).ext 63 (fnG eXP dXP (fun a => a.1.colors.length < 10000000) (fun a => Qd1 a.1 a.2) .i)
theorem Qx5 : GOk Tryz.prog K49 := by
 have k1 := Qtp.ext (f := 106) (r := s99) (fun a w => Tryz.call106 a w) (Qyu W106)
 have k2 := k1.ext (f := 110) (r := s99) (fun a w => Tryz.call110 a w) (Qyu W110)
 have k3 := k2.ext (f := 39) (fun a w => Tryz.call39 a w) (Qad (e := eHI) (d := dHI) (ok := fun a => a.1.wishes.length ≤ 1000000) (g := fun a => Qa6 a.2 0 (a.1.wishes.length - 1)) (eb := .b) fun a h => W39 a.1 a.2 h)
 exact k3.ext (f := 63) (fun a w => Tryz.call63 a w) (Qad (e := eXP) (d := dXP) (ok := fun a => a.1.colors.length < 10000000) (g := fun a => Qd1 a.1 a.2) (eb := .i) fun a h => W63 a.1 a.2 h)
theorem h106 (n : Int) : K49 106 [.i n] = (True, .b (Qa6 n 0 99)) := rfl
theorem h110 (n : Int) : K49 110 [.i n] = (True, .b (Qa6 n 0 99)) := rfl
theorem h39 (s : Shop) (n : Int) : K49 39 [.ag (Qae s), .i n] = (s.wishes.length ≤ 1000000, .b (Qa6 n 0 (s.wishes.length - 1))) := (show K49 39 _ = fnG eHI dHI (fun a => a.1.wishes.length ≤ 1000000) (fun a => Qa6 a.2 0 (a.1.wishes.length - 1)) .b (eHI (s, n)) from rfl).trans (Qab _ (Zcz _))
theorem h63 (x : Wish) (p : Piece) : K49 63 [.ag (eWish x), .ag (ePiece p)] = (x.colors.length < 10000000, .i (Qd1 x p)) := (show K49 63 _ = fnG eXP dXP (fun a => a.1.colors.length < 10000000) (fun a => Qd1 a.1 a.2) .i (eXP (x, p)) from rfl).trans (Qab _ (Zhq _))
theorem Qpu (n lo hi : Int)  : K49 66 [.i n, .i lo, .i hi] = (True, .b (Qa6 n lo hi)) := h66 n lo hi
theorem W112 (n : Int) : Qa5 Tryz.prog 112 [.i n] (.b (!Qa6 n 0 10)) := by
 refine Qa4 Qx5 hmix Tryz.func112 Qv6.b Qv6.c Qv6.s Qv6.n ?_
 simp only [rc112, rs112, Qpu, Qa0, Qa2, Qa1, flat, ↓reduceIte, Nat.reduceLT, rvs, zipA, Qa, implies_true, reduceCtorEq, BU1]
theorem W111 (s : Shop) (d : Del) (hl : s.work.spares.length ≤ 1000000) : Qa5 Tryz.prog 111 [.ag (eDel d), .pa (Qa7 s.work)] (.b (!Qg0 s d)) := by
 refine Qa4 Qx5 hmix Tryz.func111 Qv5.b Qv5.c Qv5.s Qv5.n ?_
 have i1 : inI ((s.work.spares.length : Int) - 1) := by unfold inI; omega
 unfold Qg0
 cases e1 : Qa6 d.day 0 99 with
 | false => simp only [rc111, rs111, h110, e1, Qa0, Qb7, Qa2, Qa1, flat, ↓reduceIte, Nat.reduceEqDiff, Nat.reduceAdd, Nat.reduceLT, Nat.reduceLeDiff, rvs, zipA, Qa, Qb, forall_const, implies_true, reduceCtorEq, imp_self, Qa7, eDel, BU1]
 | true =>
 cases e2 : Qa6 d.spare 0 (s.work.spares.length - 1) with
 | false => simp only [rc111, rs111, h110, e1, Qpu, i1, e2, Qa0, Qa2, Qa1, flat, ↓reduceIte, Nat.reduceEqDiff, Nat.reduceAdd, Nat.reduceLT, Nat.reduceLeDiff, rvs, zipA, beq_self_eq_true, Qk, Qa, Qb, forall_const, implies_true, reduceCtorEq, imp_self, Qa7, eDel, BU1]
 | true => simp only [rc111, rs111, h110, e1, Qpu, i1, e2, Qa0, Qa2, Qa1, flat, ↓reduceIte, Nat.reduceEqDiff, Nat.reduceAdd, Nat.reduceLT, Nat.reduceLeDiff, rvs, zipA, beq_self_eq_true, Qj, Qa, forall_const, implies_true, reduceCtorEq, Qa7, eDel, BU1]
end Go.CS
set_option linter.all false
namespace Go.CS
open Go.Fam Go.Proofs
open Go.C06 (Span eI eIs Qbx gI gR dI Qbl Qcj fnG Qad Qab Qa6 Qa8 idxOf Qas Qaj Qal Qar Qai Qag Qac Qat Qb3 Qc5 vw_I Qay hmix eLI dLI Qca Qan Qa3 Qaa Qau)
variable {Γ : Gam}
def OkWP (w : Work) (p : Piece) : Prop := SmallW w ∧ Qa6 p.make 0 (w.makes.length - 1) = true
theorem W108 (w : Work) (p : Piece) (n : Int) (h : OkWP w p) : Qa5 Tryz.prog 108 [.i n, .pa (Qa7 w), .pa (ePiece p)] (.b (Qa6 n 0 ((Qbm w p.make).length - 1))) := by
 refine Qa4 Qx5 hmix Tryz.func108 Qv2.b Qv2.c Qv2.s Qv2.n ?_
 obtain ⟨hw, hm⟩ := h
 obtain ⟨h1, h2, h3⟩ := Qe9 hm
 have h4 := hw.slots _ (Qc h3)
 have h5 : inI (((Qbm w p.make).length : Int) - 1) := by unfold inI; omega
 simp only [rc108, rs108, Qpu, h1, h2, h3, h5, eMake, Qa0, Qa2, Qa1, flat, ↓reduceIte, Nat.reduceEqDiff, Nat.reduceAdd, Nat.reduceLT, Nat.reduceLeDiff, rvs, zipA, Qa, implies_true, reduceCtorEq, eMake, Qa7, ePiece, BU1]
def eNP (a : Int × Work × Piece) : List V := [.i a.1, .pa (Qa7 a.2.1), .pa (ePiece a.2.2)]
def dNP : List V → Int × Work × Piece | [.i n, .pa w, .pa p] => (n, Qct w, Qev p) | _ => (0, Qct [], Qev [])
theorem Zhe (a : Int × Work × Piece) : dNP (eNP a) = a := by obtain ⟨n, w, p⟩ := a; simp [dNP, eNP, Qcu, Qf8]
noncomputable def K50 : Gam := K49.ext 108 (fnG eNP dNP (fun a => OkWP a.2.1 a.2.2) (fun a => Qa6 a.1 0 ((Qbm a.2.1 a.2.2.make).length - 1)) .b)
theorem Zaj : GOk Tryz.prog K50 := Qx5.ext (f := 108) (fun a w => Tryz.call108 a w) (Qad (e := eNP) (d := dNP) (ok := fun a => OkWP a.2.1 a.2.2) (g := fun a => Qa6 a.1 0 ((Qbm a.2.1 a.2.2.make).length - 1)) (eb := .b) fun a h => W108 a.2.1 a.2.2 a.1 h)
theorem h108 (w : Work) (p : Piece) (n : Int) : K50 108 [.i n, .pa (Qa7 w), .pa (ePiece p)] = (OkWP w p, .b (Qa6 n 0 ((Qbm w p.make).length - 1))) := (show K50 108 _ = fnG eNP dNP (fun a => OkWP a.2.1 a.2.2) (fun a => Qa6 a.1 0 ((Qbm a.2.1 a.2.2.make).length - 1)) .b (eNP (n, w, p)) from rfl).trans (Qab _ (Zhe _))
theorem Qz1 (n : Int) : K50 106 [.i n] = (True, .b (Qa6 n 0 99)) := h106 n
def eR (a : List Int × Option (Work × Piece)) : List V := [.sl 1 (a.1.map eI), match a.2 with | none => .fn 106 [] | some (w, p) => .fn 108 [.pa (Qa7 w), .pa (ePiece p)]]
def dR : List V → List Int × Option (Work × Piece)
 | [.sl _ l, .fn _ [.pa w, .pa p]] => (l.map dI, some (Qct w, Qev p))
 | [.sl _ l, _] => (l.map dI, none)
 | _ => ([], none)
theorem dR_e (a : List Int × Option (Work × Piece)) : dR (eR a) = a := by
 obtain ⟨l, o⟩ := a
 cases o with
 | none => simp [dR, eR, Function.comp_def, Qbl]
 | some q => obtain ⟨w, p⟩ := q; simp [dR, eR, Function.comp_def, Qbl, Qcu, Qf8]
def Qth (a : List Int × Option (Work × Piece)) : Int := match a.2 with | none => 99 | some (w, p) => (Qbm w p.make).length - 1
def OkR (a : List Int × Option (Work × Piece)) : Prop := a.1.length < 10000000 ∧ match a.2 with | none => True | some (w, p) => OkWP w p
theorem Ziw (w : Work) (p : Piece) : ([.pa (Qa7 w), .pa (ePiece p)] : List V).map (vw [] 8) = [.pa (Qa7 w), .pa (ePiece p)] := by
 simp only [Qv, Qq, Qrn, Qa7, ePiece]
theorem W107 (a : List Int × Option (Work × Piece)) (h : OkR a) : Qa5 Tryz.prog 107 (eR a) (.b (risB a.1 (Qth a))) := by
 obtain ⟨l, o⟩ := a
 cases o with
 | none => exact P107 Zaj l 99 106 (by decide) [] True trivial rfl rfl h.1 Qz1
 | some q =>
  obtain ⟨w, p⟩ := q
  exact P107 Zaj l _ 108 (by decide) [.pa (Qa7 w), .pa (ePiece p)] (OkWP w p) h.2 (Ziw w p) rfl h.1 fun x => h108 w p x
noncomputable def K51 : Gam := K50.ext 107 (fnG eR dR OkR (fun a => risB a.1 (Qth a)) .b)
theorem Qx6 : GOk Tryz.prog K51 := Zaj.ext (f := 107) (fun a w => Tryz.call107 a w) (Qad (e := eR) (d := dR) (ok := OkR) (g := fun a => risB a.1 (Qth a)) (eb := .b) fun a h => W107 a h)
theorem h107 (l : List Int) : K51 107 [.sl 1 (l.map eI), .fn 106 []] = (OkR (l, none), .b (risB l 99)) := (show K51 107 _ = fnG eR dR OkR (fun a => risB a.1 (Qth a)) .b (eR (l, none)) from rfl).trans (Qab _ (dR_e _))
theorem Zhr (l : List Int) (w : Work) (p : Piece) : K51 107 [.sl 1 (l.map eI), .fn 108 [.pa (Qa7 w), .pa (ePiece p)]] = (OkR (l, some (w, p)), .b (risB l ((Qbm w p.make).length - 1))) := (show K51 107 _ = fnG eR dR OkR (fun a => risB a.1 (Qth a)) .b (eR (l, some (w, p))) from rfl).trans (Qab _ (dR_e _))
end Go.CS
set_option linter.all false
namespace Go.CS
open Go.Fam Go.Proofs
open Go.C06 (Span eI eIs Qbx gI gR dI Qbl Qcj fnG Qad Qab Qa6 Qa8 idxOf Qas Qaj Qal Qar Qai Qag Qac Qat Qb3 Qc5 vw_I Qay hmix eLI dLI Qca Qan Qa3 Qaa Qau)
variable {Γ : Gam}
theorem Qgq (n lo hi : Int) : K51 66 [.i n, .i lo, .i hi] = (True, .b (Qa6 n lo hi)) := h66 n lo hi
theorem Qed (n : Int) : K51 106 [.i n] = (True, .b (Qa6 n 0 99)) := h106 n
theorem Qrv (n : Int) : K51 110 [.i n] = (True, .b (Qa6 n 0 99)) := h110 n
theorem W105 (s : Shop) (p : Piece) (h : OkP s p) : Qa5 Tryz.prog 105 [.ag (ePiece p), .pa (Qa7 s.work)] (.b (!Qci s p)) := by
 refine Qa4 Qx6 hmix Tryz.func105 Quz.b Quz.c Quz.s Quz.n ?_
 obtain ⟨hw, hb⟩ := h
 have hm := hw.makes
 have i1 : inI ((s.work.makes.length : Int) - 1) := by unfold inI; omega
 have g := Zhr p.broken s.work p
 simp only [Qa7, ePiece] at g
 unfold Qci
 cases e1 : Qa6 p.color 0 99 with
 | false => simp only [rc105, rs105, Qed, e1, Qa0, Qb7, Qa2, Qa1, flat, ↓reduceIte, Nat.reduceEqDiff, Nat.reduceAdd, Nat.reduceLT, Nat.reduceLeDiff, rvs, zipA, Qa, Qb, forall_const, implies_true, reduceCtorEq, imp_self, Qa7, ePiece, BU1]
 | true =>
 cases e2 : Qa6 p.size 0 99 with
 | false => simp only [rc105, rs105, Qed, e1, e2, Qa0, Qb7, Qa2, Qa1, flat, ↓reduceIte, Nat.reduceEqDiff, Nat.reduceAdd, Nat.reduceLT, Nat.reduceLeDiff, rvs, zipA, beq_self_eq_true, Qk, Qa, Qb, forall_const, implies_true, reduceCtorEq, imp_self, Qa7, ePiece, BU1]
 | true =>
 cases e3 : Qa6 p.letter 0 99 with
 | false => simp only [rc105, rs105, Qed, e1, e2, e3, Qa0, Qb7, Qa2, Qa1, flat, ↓reduceIte, Nat.reduceEqDiff, Nat.reduceAdd, Nat.reduceLT, Nat.reduceLeDiff, rvs, zipA, beq_self_eq_true, Qk, Qa, Qb, forall_const, implies_true, reduceCtorEq, imp_self, Qa7, ePiece, BU1]
 | true =>
 cases e4 : Qa6 p.make 0 (s.work.makes.length - 1) with
 | false => simp only [rc105, rs105, Qed, e1, e2, e3, Qgq, e4, i1, Qa0, Qb7, Qa2, Qa1, flat, ↓reduceIte, Nat.reduceEqDiff, Nat.reduceAdd, Nat.reduceLT, Nat.reduceLeDiff, rvs, zipA, beq_self_eq_true, Qk, Qa, Qb, forall_const, implies_true, reduceCtorEq, imp_self, Qa7, ePiece, BU1]
 | true =>
  have hR : OkR (p.broken, some (s.work, p)) := ⟨by show p.broken.length < 10000000; omega, hw, e4⟩
  simp only [rc105, rs105, Qed, e1, e2, e3, Qgq, e4, i1, g, hR, Qa0, Qa2, Qa1, flat, ↓reduceIte, Nat.reduceEqDiff, Nat.reduceAdd, Nat.reduceLT, Nat.reduceLeDiff, rvs, zipA, beq_self_eq_true, Qj, Qa, forall_const, implies_true, reduceCtorEq, Qa7, ePiece, BU1]
set_option maxHeartbeats 2000000 in
theorem W109 (x : Wish) : Qa5 Tryz.prog 109 [.ag (eWish x)] (.b (!okWish x)) := by
 refine Qa4 Qx6 hmix Tryz.func109 Qv3.b Qv3.c Qv3.s Qv3.n ?_
 have g := h107 x.colors
 unfold okWish
 cases e1 : Qa6 x.colors.length 1 8 with
 | false => simp only [rc109, rs109, Qgq, e1, Qa0, Qb7, Qa2, Qa1, flat, ↓reduceIte, Nat.reduceEqDiff, Nat.reduceAdd, Nat.reduceLT, Nat.reduceLeDiff, rvs, zipA, Qa, Qb, forall_const, implies_true, imp_self, eWish, BU1]
 | true =>
 have hl : OkR (x.colors, none) := ⟨by have := (Qav.1 e1).2; show x.colors.length < 10000000; omega, trivial⟩
 cases e2 : risB x.colors 99 with
 | false => simp only [rc109, rs109, Qgq, e1, g, hl, e2, Qa0, Qb7, Qa2, Qa1, flat, ↓reduceIte, Nat.reduceEqDiff, Nat.reduceAdd, Nat.reduceLT, Nat.reduceLeDiff, rvs, zipA, beq_self_eq_true, Qk, Qa, Qb, forall_const, implies_true, imp_self, eWish, BU1]
 | true =>
 cases m1 : Qa6 x.size.low 0 99 with
 | false =>
  simp only [rc109, rs109, Qgq, Qed, e1, g, hl, e2, m1, Qa0, Qb7, Qa2, Qa1, flat, ↓reduceIte, Nat.reduceEqDiff, Nat.reduceAdd, Nat.reduceLT, Nat.reduceLeDiff, rvs, zipA, beq_self_eq_true, V.b.injEq, Qj, Qa, Qb, forall_const, implies_true, imp_self, eWish, BU1]
  simp only [Qa6, Q1, decide_eq_false_iff_not] at m1
  by_cases a : 0 ≤ x.size.low
  ·by_cases b : x.size.low ≤ x.size.high
   ·have c : ¬ x.size.high ≤ 99 := by omega
    simp [c]
   ·simp [b]
  ·simp [a]
 | true =>
 have a1 := (Qav.1 m1).1
 have a2 := (Qav.1 m1).2
 cases m2 : Qa6 x.size.high 0 99 with
 | false =>
  simp only [rc109, rs109, Qgq, Qed, e1, g, hl, e2, m1, m2, Qa0, Qb7, Qa2, Qa1, flat, ↓reduceIte, Nat.reduceEqDiff, Nat.reduceAdd, Nat.reduceLT, Nat.reduceLeDiff, rvs, zipA, beq_self_eq_true, V.b.injEq, Qj, Qa, Qb, forall_const, implies_true, imp_self, eWish, BU1]
  simp only [Qa6, Q1, decide_eq_false_iff_not] at m2
  by_cases b : x.size.low ≤ x.size.high
  ·have c : ¬ x.size.high ≤ 99 := by omega
   simp [c]
  ·simp [b]
 | true =>
 have a3 := (Qav.1 m2).2
 by_cases e4 : x.size.high < x.size.low
 ·have b : ¬ x.size.low ≤ x.size.high := by omega
  simp only [rc109, rs109, Qgq, Qed, e1, g, hl, e2, m1, m2, e4, Qa0, Qb7, Qa2, Qa1, flat, ↓reduceIte, Nat.reduceEqDiff, Nat.reduceAdd, Nat.reduceLT, Nat.reduceLeDiff, rvs, zipA, beq_self_eq_true, V.b.injEq, Qj, Qa, Qb, forall_const, implies_true, imp_self, eWish, BU1]
  simp [b]
 have b : x.size.low ≤ x.size.high := by omega
 cases e6 : Qa6 x.letter 0 99 with
 | false => simp only [rc109, rs109, Qgq, Qed, e1, g, hl, e2, m1, m2, e4, e6, Qa0, Qb7, Qa2, Qa1, flat, ↓reduceIte, Nat.reduceEqDiff, Nat.reduceAdd, Nat.reduceLT, Nat.reduceLeDiff, rvs, zipA, beq_self_eq_true, Qj, Qk, Qa, Qb, forall_const, implies_true, imp_self, eWish, BU1]
 | true =>
 cases e7 : Qa6 x.due 0 99 with
 | false => simp only [rc109, rs109, Qgq, Qed, Qrv, e1, g, hl, e2, m1, m2, e4, e6, e7, Qa0, Qa2, Qa1, flat, ↓reduceIte, Nat.reduceEqDiff, Nat.reduceAdd, Nat.reduceLT, Nat.reduceLeDiff, rvs, zipA, beq_self_eq_true, Qj, Qk, Qa, Qb, forall_const, implies_true, imp_self, eWish, BU1]
 | true =>
  simp only [rc109, rs109, Qgq, Qed, Qrv, e1, g, hl, e2, m1, m2, e4, e6, e7, Qa0, Qa2, Qa1, flat, ↓reduceIte, Nat.reduceEqDiff, Nat.reduceAdd, Nat.reduceLT, Nat.reduceLeDiff, rvs, zipA, beq_self_eq_true, V.b.injEq, Qj, Qa, forall_const, implies_true, eWish, BU1]
  simp [a1, a3, b]
end Go.CS
set_option linter.all false
namespace Go.CS
open Go.Fam Go.Proofs
open Go.C06 (Span eI eIs Qbx gI gR dI Qbl Qcj fnG Qad Qab Qa6 Qa8 idxOf Qas Qaj Qal Qar Qai Qag Qac Qat Qb3 Qc5 vw_I Qay hmix eLI dLI Qca Qan Qa3 Qaa Qau)
variable {Γ : Gam}
theorem Qzu : Qb1 Tryz.prog 170 3 := Qb1.of (fs := _) (show Tryz.prog.underlying 170 = some (.struct (Tryz.prog.fieldsOf 170)) by kernel_rfl) (by kernel_rfl) (by kernel_rfl)
def keyT (a : Trial) : List Int := [a.spare, a.make, a.slot]
def knM (l : List Trial) : AM Int := l.foldl (fun m a => aput m (keyT a) a.fits) []
theorem Qhm (l : List Trial) (a : Trial) : knM (l ++ [a]) = aput (knM l) (keyT a) a.fits := by simp [knM]
theorem Qt4 (l : List Trial) : (aks (knM l)).Nodup := Qbo (p := fun l => (aks (knM l)).Nodup) (by simp [knM, aks]) (fun l a h => by rw [Qhm]; exact Qng h _ _) l
theorem Za1 (l : List Trial) : ∀ k ∈ aks (knM l), k.length = 3 := by
 refine Qbo (p := fun l => ∀ k ∈ aks (knM l), k.length = 3) (by simp [knM, aks]) (fun l a h k hk => ?_) l
 rw [Qhm, Qi5, Qmy] at hk
 rcases hk with hk | rfl
 ·exact h k hk
 ·rfl
theorem Qqb (l : List Trial) : ∀ k n, aget (knM l) k = some n → ∃ a, a ∈ l ∧ keyT a = k ∧ a.fits = n := by
 refine Qbo (p := fun l => ∀ k n, aget (knM l) k = some n → ∃ a, a ∈ l ∧ keyT a = k ∧ a.fits = n) (fun k n h => by simp [knM, aget] at h) (fun l a ih k n h => ?_) l
 rw [Qhm, Qm9] at h
 by_cases e : k = keyT a
 ·rw [if_pos e] at h; cases h
  exact ⟨a, by simp, e.symm, rfl⟩
 ·rw [if_neg e] at h
  obtain ⟨b, hb, h1⟩ := ih k n h
  exact ⟨b, by simp [hb], h1⟩
theorem Zdw (l : List Trial) : ∀ a ∈ l, ∃ n, aget (knM l) (keyT a) = some n := by
 refine Qbo (p := fun l => ∀ a ∈ l, ∃ n, aget (knM l) (keyT a) = some n) (fun a h => by cases h) (fun l b ih a h => ?_) l
 rw [Qhm, Qm9]
 by_cases e : keyT a = keyT b
 ·exact ⟨b.fits, if_pos e⟩
 ·rw [if_neg e]
  refine ih a ?_
  rcases List.mem_append.1 h with h | h
  ·exact h
  ·simp at h; exact absurd (by rw [h]) e
theorem Qhb {a b : Trial} : Qe5 a b = true ↔ keyT a = keyT b ∧ a.fits ≠ b.fits := by
 simp [Qe5, keyT, and_assoc]
def NoC (t : List Trial) (i : Nat) : Prop := ∀ k j a b, k < j → j < i → t[k]? = some a → t[j]? = some b → Qe5 a b = false
theorem Zad {t : List Trial} {i : Nat} (h : NoC t i) {a : Trial} (ha : a ∈ t.take i) : aget (knM (t.take i)) (keyT a) = some a.fits := by
 obtain ⟨n, hn⟩ := Zdw _ a ha
 obtain ⟨b, hb, h1, h2⟩ := Qqb _ _ _ hn
 rw [hn]
 congr 1
 rw [← h2]
 apply Classical.byContradiction
 intro hne
 obtain ⟨p, hp⟩ := Qe ha
 obtain ⟨q, hq⟩ := Qe hb
 have hpl := Qaf hp
 have hql := Qaf hq
 rw [Qz] at hpl hql
 rw [Qw, if_pos (by omega)] at hp hq
 rcases Nat.lt_trichotomy p q with h3 | h3 | h3
 ·have := h p q a b h3 (by omega) hp hq
  rw [Qhb.2 ⟨h1.symm, fun e => hne e.symm⟩] at this; cases this
 ·subst h3; rw [hp] at hq; cases hq; exact hne rfl
 ·have := h q p b a h3 (by omega) hq hp
  rw [Qhb.2 ⟨h1, hne⟩] at this; cases this
theorem Qwz {t : List Trial} {i : Nat} (h : NoC t i) {b : Trial} (hb : t[i]? = some b) (h1 : ∀ n, aget (knM (t.take i)) (keyT b) = some n → n = b.fits) : NoC t (i + 1) := by
 intro k j x y hkj hj hx hy
 by_cases hji : j < i
 ·exact h k j x y hkj hji hx hy
 have : j = i := by omega
 subst this
 rw [hb] at hy; cases hy
 cases hc : Qe5 x b with
 | false => rfl
 | true =>
  obtain ⟨h2, h3⟩ := Qhb.1 hc
  have hm : x ∈ t.take j := Qc (i := k) (by rw [Qw, if_pos hkj]; exact hx)
  have := Zad h hm
  rw [h2] at this
  exact absurd (h1 _ this) h3
theorem Qtj {t : List Trial} {i : Nat} {b : Trial} (hb : t[i]? = some b) {n : Int} (hn : aget (knM (t.take i)) (keyT b) = some n) (h1 : n ≠ b.fits) : conB t = true := by
 obtain ⟨a, ha, h2, h3⟩ := Qqb _ _ _ hn
 obtain ⟨p, hp⟩ := Qe ha
 have hpl := Qaf hp
 rw [Qz] at hpl
 rw [Qw, if_pos (by omega)] at hp
 exact Qj8.2 ⟨p, i, a, b, by omega, hp, hb, Qhb.2 ⟨h2, by rw [h3]; exact h1⟩⟩
theorem Zac {t : List Trial} (h : NoC t t.length) : conB t = false := by
 cases e : conB t with
 | false => rfl
 | true =>
  obtain ⟨k, i, a, b, hki, ha, hb, e⟩ := Qj8.1 e
  rw [h k i a b hki (Qaf hb) ha hb] at e; cases e
theorem Qz2 (w : Work)  : K51 104 [.ag (Qa7 w)] = (SmallW w, .b (Qcy w)) := h104 w
set_option maxHeartbeats 2000000 in
theorem W78 (w : Work) (hw : SmallW w) : Qa5 Tryz.prog 78 [.ag (Qa7 w)] (.i (Qcc w)) := by
 refine Qa4 Qx6 hmix Tryz.func78 cf78.b cf78.c cf78.s cf78.n ?_
 have g := Qz2 w
 unfold Qa7 at g
 cases h0 : Qcy w with
 | false => simp only [rc78, rs78, g, hw, h0, Qa0, Qa2, Qa1, flat, ↓reduceIte, Nat.reduceEqDiff, Nat.reduceAdd, Nat.reduceLT, Nat.reduceLeDiff, rvs, zipA, V.i.injEq, Qa, implies_true, Qa7, BU1]; simp [Qcc, h0]
 | true =>
 have hl := Qp4 h0
 have hE : Qcc w = if conB w.table = true then 71 else 0 := by unfold Qcc; rw [h0]; rfl
 simp only [rc78, rs78, g, hw, h0, Qa0, Qa2, Qa1, flat, ↓reduceIte, Nat.reduceEqDiff, Nat.reduceAdd, Nat.reduceLT, Nat.reduceLeDiff, zipA, Qa, implies_true, Qa7, BU1]
 refine Qap w.table.length (fun i => ⟨lkp [(3, .mp 0 0), (14, .sl 4 (w.table.map eTrial)), (15, .i w.table.length), (16, .i i)], [.map true (aks (knM (w.table.take i))) (avs .i (knM (w.table.take i)))]⟩) (NoC w.table) ?_ ?_ ?_ ?_
 ·simp only [Qg, knM, aks, avs, Zc, Zc, cutV, cutL, cutB, ↓reduceIte, Nat.reduceEqDiff, Nat.reduceLT, BU1]
 ·intro k j a b _ h; omega
 ·intro i hi hc
  obtain ⟨b, hb⟩ : ∃ b, w.table[i]? = some b := ⟨_, Qd hi⟩
  have hlt : (i : Int) < w.table.length := by omega
  have h4 : inI ((i : Int) + 1) := by unfold inI; omega
  have hnr : Qa1 (avs V.i (knM (w.table.take i))) = false := Qkj (fun _ => rfl) _
  have hnr2 : Qa1 (avs V.i (knM (w.table.take (i + 1)))) = false := Qkj (fun _ => rfl) _
  have hk3 := Za1 (w.table.take i)
  have hts := Qa8 hb
  have hnd := Qt4 (w.table.take i)
  have hst := fun h1 => Qwz hc hb h1
  have hcl := fun n h h1 => Qtj (n := n) hb h h1
  have hput : Blk.map true (putK (aks (knM (w.table.take i))) [b.spare, b.make, b.slot]) (Qh4 (aks (knM (w.table.take i))) (avs V.i (knM (w.table.take i))) [b.spare, b.make, b.slot] (.i b.fits)) = .map true (aks (knM (w.table.take (i + 1)))) (avs .i (knM (w.table.take (i + 1)))) := by
   rw [hts, Qhm, Qi5, ← Qp9 hnd]; rfl
  have hget := Qmc V.i (knM (w.table.take i)) [b.spare, b.make, b.slot]
  have hmem : ([b.spare, b.make, b.slot] ∈ aks (knM (w.table.take i))) ↔ (aget (knM (w.table.take i)) (keyT b)).isSome = true := Za7
  have hk : [b.spare, b.make, b.slot] = keyT b := rfl
  rw [hk] at hget
  cases ha : aget (knM (w.table.take i)) (keyT b) with
  | none =>
   rw [ha] at hget hmem
   have hd : ([b.spare, b.make, b.slot] ∈ aks (knM (w.table.take i))) = False := by simpa using hmem
   have hs := hst (fun n h => by rw [ha] at h; cases h)
   rw [Option.map_none, ← hk] at hget
   simp only [hb, hlt, h4, Qbq, Qzu, hget, hd, hput, Qa3 _ _ _ hnr2, Qh, Qf, Qbd, ↓Qam, lkpV, keyL, Qbq, Qa0, Qak, Qaw, Qah, Qdl, cutV, cutL, cutB, ↓reduceIte, Nat.reduceEqDiff, Nat.reduceAdd, Nat.reduceLT, Nat.reduceLeDiff, Qdj, beq_self_eq_true, Qa, forall_const, implies_true, imp_self, eTrial, BU1]
   exact ⟨hk3, hk3, hs⟩
  | some n =>
   rw [ha] at hget hmem
   have hd : ([b.spare, b.make, b.slot] ∈ aks (knM (w.table.take i))) = True := by simpa using hmem
   rw [Za, ← hk] at hget
   by_cases e : n = b.fits
   ·have hs := hst (fun n' h => by rw [ha] at h; cases h; exact e)
    simp only [hb, hlt, h4, Qbq, Qzu, hget, hd, e, hput, Qa3 _ _ _ hnr2, Qh, Qf, Qbd, ↓Qam, lkpV, keyL, Qbq, Qa0, Qak, Qaw, Qah, Qdl, cutV, cutL, cutB, ↓reduceIte, Nat.reduceEqDiff, Nat.reduceAdd, Nat.reduceLT, Nat.reduceLeDiff, Qdj, beq_self_eq_true, Qa, Qb, forall_const, implies_true, eTrial, BU1]
    exact ⟨hk3, hk3, hs⟩
   ·have q : Qcc w = 71 := by rw [hE, hcl n ha e]; rfl
    simp only [hb, hlt, Qbq, Qzu, hget, hd, e, q, lkpV, keyL, Qbq, Qa0, Qak, Qaw, Qah, Qdl, ↓reduceIte, Nat.reduceEqDiff, Nat.reduceAdd, Nat.reduceLT, Nat.reduceLeDiff, rvs, beq_self_eq_true, Qa, Qb, forall_const, implies_true, eTrial, BU1]
    exact hk3
 ·intro hc
  have hlt : ¬ ((w.table.length : Int) < w.table.length) := by omega
  have q : Qcc w = 0 := by rw [hE, Zac hc]; rfl
  simp only [hlt, q, Qa0, ↓reduceIte, Nat.reduceEqDiff, rvs, Qa, BU1]
end Go.CS
set_option linter.all false
namespace Go.CS
open Go.Fam Go.Proofs
open Go.C06 (Span eI eIs Qbx gI gR dI Qbl Qcj fnG Qad Qab Qa6 Qa8 idxOf Qas Qaj Qal Qar Qai Qag Qac Qat Qb3 Qc5 vw_I Qay hmix eLI dLI Qca Qan Qa3 Qaa Qau)
variable {Γ : Gam}
noncomputable def K52 : Gam := K51.ext 78 (fnG eW1 dW1 (SmallW) (Qcc) (.i))
theorem Zf5 : GOk Tryz.prog K52 := Qx6.ext (f := 78) (fun a w => Tryz.call78 a w) (Qad (e := eW1) (d := dW1) (ok := SmallW) (g := Qcc) (eb := .i) fun a h => W78 a h)
theorem h78 (w : Work) : K52 78 [.ag (Qa7 w)] = (SmallW w, .i (Qcc w)) := (show K52 78 _ = fnG eW1 dW1 (SmallW) (Qcc) (.i) (eW1 w) from rfl).trans (Qab _ (Qnu w))
theorem Qz3 (w : Work) (i n m k : Int)  : K52 118 [.ag (Qa7 w), .i i, .i n, .i m, .i k] = (OkF w i m k, .b (Qcv w i n m k)) := h118 w i n m k
abbrev TSo := Int × Work × Int
def eSo (a : TSo) : List V := [.pa [.i a.1], .pa (Qa7 a.2.1), .pa [.i a.2.2]]
def dSo : List V → TSo | [.pa [.i i], .pa w, .pa [.i n]] => (i, Qct w, n) | _ => (0, Qct [], 0)
theorem Qwl (a : TSo) : dSo (eSo a) = a := by obtain ⟨i, w, n⟩ := a; simp [dSo, eSo, Qcu]
def pSo (a : TSo) (t : Trial) : Bool := soB a.2.1 a.1 a.2.2 t
def CSo (a : TSo) (t : Trial) : Prop := OkF a.2.1 a.1 t.make t.slot
def eTSo (a : TSo × Trial) : List V := .ag (eTrial a.2) :: eSo a.1
def dTSo : List V → TSo × Trial | .ag t :: c => (dSo c, Qef t) | _ => (dSo [], Qef [])
theorem Zd3 (a : TSo × Trial) : dTSo (eTSo a) = a := by obtain ⟨a, x⟩ := a; simp [dTSo, eTSo, Qwl, Qdu]
theorem W117 (a : TSo) (t : Trial) (h : CSo a t) : Qa5 Tryz.prog 117 (.ag (eTrial t) :: eSo a) (.b (pSo a t)) := by
 obtain ⟨i, w, n⟩ := a
 refine Qa4 Zf5 hmix Tryz.func117 Qva.b Qva.c Qva.s Qva.n ?_
 have g := Qz3 w i n t.make t.slot
 simp only [Qa7] at g
 have h' : OkF w i t.make t.slot := h
 unfold pSo soB
 by_cases e1 : t.spare = i
 ·cases e3 : Qcv w i n t.make t.slot <;> by_cases e2 : t.fits = 1 <;> (simp only [rc117, rs117, eSo, e1, g, h', e2, e3, Bool.false_xor, Qaq, Qa0, runX, fpQ, fpV, Qa2, Qa1, flat, ↓reduceIte, Nat.reduceEqDiff, Nat.reduceAdd, Nat.reduceLT, Nat.reduceLeDiff, rvs, zipA, beq_self_eq_true, Qi, Qa, forall_const, implies_true, reduceCtorEq, Qn, Bool.xor_self, eTrial, Qa7, BU1] <;> try simp)
 ·simp only [rc117, rs117, eSo, e1, Qaq, Qa0, runX, fpQ, fpV, Qb7, Qa2, Qa1, ↓reduceIte, Nat.reduceEqDiff, Nat.reduceAdd, Nat.reduceLT, Nat.reduceLeDiff, rvs, zipA, Bool.true_or, Qa, Qb, forall_const, implies_true, reduceCtorEq, Qn, imp_self, eTrial, Qa7, BU1]
  try simp [e1]
noncomputable def K53 : Gam := K52.ext 117 (fnG eTSo dTSo (fun a => CSo a.1 a.2) (fun a => pSo a.1 a.2) (.b))
theorem Zf6 : GOk Tryz.prog K53 := Zf5.ext (f := 117) (fun a w => Tryz.call117 a w) (Qad (e := eTSo) (d := dTSo) (ok := fun a => CSo a.1 a.2) (g := fun a => pSo a.1 a.2) (eb := .b) fun a h => W117 a.1 a.2 h)
theorem h117 (a : TSo) (x : Trial) : K53 117 (.ag (eTrial x) :: eSo a) = (CSo a x, .b (pSo a x)) := (show K53 117 _ = fnG eTSo dTSo (fun a => CSo a.1 a.2) (fun a => pSo a.1 a.2) (.b) (eTSo (a, x)) from rfl).trans (Qab _ (Zd3 (a, x)))
theorem Q158 (hG : GOk Tryz.prog Γ) (l : List Trial) (f : Nat) (hf : f < 1000000) (caps : List V) (p : Trial → Bool) (C : Trial → Prop) (hC : ∀ x ∈ l, C x) (hv : caps.map (vw [] 8) = caps) (hr : Qa1 caps = false) (hl : l.length < 10000000)
  (h : ∀ x ∈ l, Γ f (V.ag (eTrial x) :: caps) = (C x, .b (p x))) : Qa5 Tryz.prog 158 [.sl 4 (l.map eTrial), .fn f caps] (.i (idxOf p l)) := by
 refine Qa4 hG hmix Tryz.func158 Qnr.b Qnr.c Qnr.s Qnr.n ?_
 simp only [rc158, rs158, Qa0, ↓reduceIte, Nat.reduceEqDiff, Int.reduceNeg, zipA, reduceCtorEq, BU1]
 refine Qap l.length (fun i => ⟨lkp [(0, .sl 4 (l.map eTrial)), (1, .fn f caps), (7, .i l.length), (8, .i i)], []⟩) (fun i => ∀ j x, j < i → l[j]? = some x → p x = false) ?_ ?_ ?_ ?_
 ·simp only [Qg, ↓reduceIte, Nat.reduceEqDiff, reduceCtorEq, BU1]
 ·intro j x h; omega
 ·intro i hi hc
  obtain ⟨x, hx⟩ : ∃ x, l[i]? = some x := ⟨_, Qd hi⟩
  have hlt : (i : Int) < l.length := by omega
  have h3 : inI ((i : Int) + 1) := by unfold inI; omega
  have hp := h x (Qc hx)
  have hCx := hC x (Qc hx)
  try simp only [eTrial] at hp
  simp only [hx, hlt, Qh, Qf, h3, hp, hv, hr, hf, hCx, Qdp, Qa0, Qa2, Qa1, flat, ↓reduceIte, Nat.reduceEqDiff, Nat.reduceAdd, Nat.reduceLeDiff, Int.reduceNeg, rvs, V.i.injEq, Qa, implies_true, reduceCtorEq, Qm, eTrial, BU1]
  refine ⟨fun e => ?_, fun e => ?_⟩
  ·rw [Qas hx e hc]
  ·exact Qc1 hx e hc
 ·intro hc
  simp only [Qa0, ↓reduceIte, Nat.reduceEqDiff, Int.reduceNeg, rvs, Ql, V.i.injEq, Qa, reduceCtorEq, BU1]
  exact (Qaj fun x hx => by
   obtain ⟨j, hj⟩ := Qe hx
   exact hc j x (by have := Qaf hj; exact this) hj).symm
def e1So (a : TSo × Trial) : List V := [.ag (eTrial a.2), .pa [.fn 117 (eSo a.1)]]
def d1So : List V → TSo × Trial | [.ag s, .pa [.fn _ c]] => (dSo c, Qef s) | _ => (dSo [], Qef [])
theorem Zcs (a : TSo × Trial) : d1So (e1So a) = a := by obtain ⟨a, x⟩ := a; simp [d1So, e1So, Qwl, Qdu]
theorem Zcm (a : TSo) (x : Trial) (h : CSo a x) : Qa5 Tryz.prog 148 [.ag (eTrial x), .pa [.fn 117 (eSo a)]] (.b (!pSo a x)) := by
 refine Qa4 Zf6 hmix Tryz.func148 Qnq.b Qnq.c Qnq.s Qnq.n ?_
 have g := h117 a x
 try simp only [eSo, eTrial, Qa7] at g
 simp only [rc148, rs148, eSo, g, h, Qa0, Qa2, Qa1, flat, ↓reduceIte, Nat.reduceEqDiff, Nat.reduceAdd, Nat.reduceLT, Nat.reduceLeDiff, rvs, zipA, Qa, implies_true, reduceCtorEq, eTrial, Qa7, BU1]
noncomputable def K54 : Gam := K53.ext 148 (fnG e1So d1So (fun a => CSo a.1 a.2) (fun a => !pSo a.1 a.2) (.b))
theorem Zf7 : GOk Tryz.prog K54 := Zf6.ext (f := 148) (fun a w => Tryz.call148 a w) (Qad (e := e1So) (d := d1So) (ok := fun a => CSo a.1 a.2) (g := fun a => !pSo a.1 a.2) (eb := .b) fun a h => Zcm a.1 a.2 h)
theorem Zds (a : TSo) (x : Trial) : K54 148 [.ag (eTrial x), .pa [.fn 117 (eSo a)]] = (CSo a x, .b (!pSo a x)) := (show K54 148 _ = fnG e1So d1So (fun a => CSo a.1 a.2) (fun a => !pSo a.1 a.2) (.b) (e1So (a, x)) from rfl).trans (Qab _ (Zcs (a, x)))
def e2So (a : TSo × List Trial) : List V := [.sl 4 (a.2.map eTrial), .fn 148 [V.pa [.fn 117 (eSo a.1)]]]
def d2So : List V → TSo × List Trial | [.sl _ l, .fn _ [.pa [.fn _ c]]] => (dSo c, l.map Qef) | _ => (dSo [], [])
theorem Qy9 (a : TSo × List Trial) : d2So (e2So a) = a := by obtain ⟨a, l⟩ := a; simp [d2So, e2So, Qwl, Qdu, Function.comp_def]
def C2So (a : TSo × List Trial) : Prop := a.2.length < 10000000 ∧ ∀ x ∈ a.2, CSo a.1 x
theorem vwSo (a : TSo) : ([V.pa [.fn 117 (eSo a)]] : List V).map (vw [] 8) = [V.pa [.fn 117 (eSo a)]] := by
 unfold eSo
 simp only [Qv, Qq, Qrn, Qa7]
theorem rfSo (a : TSo) : Qa1 ([V.pa [.fn 117 (eSo a)]] : List V) = false := rfl
noncomputable def K55 : Gam := K54.ext 158 (fnG e2So d2So (C2So) (fun a => idxOf (fun x => !pSo a.1 x) a.2) (.i))
theorem Zf8 : GOk Tryz.prog K55 := Zf7.ext (f := 158) (fun a w => Tryz.call158 a w) (Qad (e := e2So) (d := d2So) (ok := C2So) (g := fun a => idxOf (fun x => !pSo a.1 x) a.2) (eb := .i) fun a h => Q158 Zf7 a.2 148 (by decide) [V.pa [.fn 117 (eSo a.1)]] (fun x => !pSo a.1 x) (CSo a.1) h.2 (vwSo a.1) (rfSo a.1) h.1 fun x _ => Zds a.1 x)
theorem Zdt (a : TSo) (l : List Trial) : K55 158 [.sl 4 (l.map eTrial), .fn 148 [V.pa [.fn 117 (eSo a)]]] = (C2So (a, l), .i (idxOf (fun x => !pSo a x) l)) := (show K55 158 _ = fnG e2So d2So (C2So) (fun a => idxOf (fun x => !pSo a.1 x) a.2) (.i) (e2So (a, l)) from rfl).trans (Qab _ (Qy9 (a, l)))
theorem Zcl (a : TSo) (l : List Trial) (h : C2So (a, l)) : Qa5 Tryz.prog 147 [.sl 4 (l.map eTrial), .fn 148 [V.pa [.fn 117 (eSo a)]]] (.b (l.any (fun x => !pSo a x))) := by
 refine Qa4 Zf8 hmix Tryz.func147 Qnp.b Qnp.c Qnp.s Qnp.n ?_
 have g := Zdt a l
 have q := Qal (fun x => !pSo a x) l
 generalize idxOf (fun x => !pSo a x) l = r at *
 generalize l.any (fun x => !pSo a x) = r2 at *
 try simp only [eSo, Qa7] at g
 simp only [rc147, rs147, eSo, g, h, q, Qa0, Qa2, Qa1, flat, ↓reduceIte, Nat.reduceEqDiff, Nat.reduceLT, rvs, zipA, Qa, implies_true, reduceCtorEq, Qa7, BU1]
noncomputable def K56 : Gam := K55.ext 147 (fnG e2So d2So (C2So) (fun a => a.2.any (fun x => !pSo a.1 x)) (.b))
theorem Zf9 : GOk Tryz.prog K56 := Zf8.ext (f := 147) (fun a w => Tryz.call147 a w) (Qad (e := e2So) (d := d2So) (ok := C2So) (g := fun a => a.2.any (fun x => !pSo a.1 x)) (eb := .b) fun a h => Zcl a.1 a.2 h)
theorem Zdr (a : TSo) (l : List Trial) : K56 147 [.sl 4 (l.map eTrial), .fn 148 [V.pa [.fn 117 (eSo a)]]] = (C2So (a, l), .b (l.any (fun x => !pSo a x))) := (show K56 147 _ = fnG e2So d2So (C2So) (fun a => a.2.any (fun x => !pSo a.1 x)) (.b) (e2So (a, l)) from rfl).trans (Qab _ (Qy9 (a, l)))
def e3So (a : TSo × List Trial) : List V := [.sl 4 (a.2.map eTrial), .fn 117 (eSo a.1)]
def d3So : List V → TSo × List Trial | [.sl _ l, .fn _ c] => (dSo c, l.map Qef) | _ => (dSo [], [])
theorem Zcx (a : TSo × List Trial) : d3So (e3So a) = a := by obtain ⟨a, l⟩ := a; simp [d3So, e3So, Qwl, Qdu, Function.comp_def]
theorem Zck (a : TSo) (l : List Trial) (h : C2So (a, l)) : Qa5 Tryz.prog 119 [.sl 4 (l.map eTrial), .fn 117 (eSo a)] (.b (l.all (pSo a))) := by
 refine Qa4 Zf9 hmix Tryz.func119 Qnn.b Qnn.c Qnn.s Qnn.n ?_
 have e : (!(l.any (fun x => !pSo a x))) = l.all (pSo a) := by rw [Qo]; simp
 have g := Zdr a l
 generalize l.any (fun x => !pSo a x) = r at *
 try simp only [eSo, Qa7] at g
 simp only [rc119, rs119, eSo, g, h, e, Qa0, Qa2, Qa1, flat, ↓reduceIte, Nat.reduceEqDiff, Nat.reduceLT, rvs, zipA, Qa, implies_true, reduceCtorEq, Qa7, BU1]
noncomputable def K57 : Gam := K56.ext 119 (fnG e3So d3So (C2So) (fun a => a.2.all (pSo a.1)) (.b))
theorem Zfa : GOk Tryz.prog K57 := Zf9.ext (f := 119) (fun a w => Tryz.call119 a w) (Qad (e := e3So) (d := d3So) (ok := C2So) (g := fun a => a.2.all (pSo a.1)) (eb := .b) fun a h => Zck a.1 a.2 h)
theorem Zdm (a : TSo) (l : List Trial) : K57 119 [.sl 4 (l.map eTrial), .fn 117 (eSo a)] = (C2So (a, l), .b (l.all (pSo a))) := (show K57 119 _ = fnG e3So d3So (C2So) (fun a => a.2.all (pSo a.1)) (.b) (e3So (a, l)) from rfl).trans (Qab _ (Zcx (a, l)))
end Go.CS
set_option maxRecDepth 8000
namespace Go.CS
open Go.Fam Go.Proofs
def rc80 : RC := (.seq (.reg false [(cX 2 0), (cQ 4 [] (.mv (.k .pn))), (cI 5 0)]) (.keep [1,2] (.seq (.seq (.reg false [(cLd 13 2 true 4), (cQ 14 [13] (.call (kF 78) [(.t 13)])), (cMv 6 14)]) (.keep [1,2,6] (.seq (.reg false [(cMv 15 6), (cC 16 .neq 15 0)]) (.keep [1,2,6,16] (.cond (.t 16) (.seq (.reg false [(cMv 17 6), (cQ 4 [] (.mv (.k .pn))), (cMv 5 17)]) .ret) .skip))))) (.keep [1,2] (.seq (.seq (.reg false [(cMv 18 1), (cN 19 18)]) (.keep [2,19] (.cond (.t 19) (.seq (.reg false [(cQ 4 [] (.mv (.k .pn))), (cI 5 1)]) .ret) .skip))) (.keep [2] (.seq (.reg false [(cLd 20 2 true 4), (cQ 21 [20] (.bld [(.z 4), (.z 1), (.i 0), (.z 4), (.z 1)] [(0,4, (.t 20))])), ⟨(some 22), none, [21], none, .w (.bxo (.t 21))⟩, (cMv 7 22)]) (.keep [2,7] (.seq (.seq (.reg false [(cFa 23 2 0), (cLd 24 23 false 1), (cLn 25 24), (cI 26 0)]) (.keep [2,7,24,25,26] (.block 0 (.ownc 7 4 1 (.loop [2,7,24,25,26] (some 2) (.seq (.reg false [(cB 27 .lss 26 25)]) (.keep [2,7,24,25,26,27] (.seq (.cond (.t 27) .skip (.exit 0)) (.keep [2,7,24,25,26] (.seq (.block 1 (.seq (.reg false [(cMv 28 26), (cA 29 4 24 26), (cLd 30 29 true 4), ⟨(some 8), none, [], none, .w (.alc [(.i 0)])⟩, ⟨(some 9), none, [], none, .w (.alc [(.i 0), (.i 0), (.i 0), (.i 0)])⟩, ⟨none, none, [8,28], none, .w (.st 1 (.t 8) (.t 28))⟩, ⟨none, none, [9,30], none, .w (.st 4 (.t 9) (.t 30))⟩]) (.keep [2,7,8,9,24,25,26] (.seq (.reg false [(cQ 10 [] (.mv (.k (.z 1))))]) (.keep [2,7,8,9,10,24,25,26] (.seq (.seq (.reg false [(cFa 31 9 2), (cFa 32 31 0), (cLd 33 32 false 1), ⟨(some 11), none, [], none, .w (.alc [(.i 0)])⟩, ⟨none, none, [11,33], none, .w (.st 1 (.t 11) (.t 33))⟩]) (.keep [2,7,8,9,10,11,24,25,26] (.block 2 (.own 10 1 (.loop [2,7,8,9,10,11,24,25,26] (some 6) (.seq (.seq (.reg false [(cLd 34 11 false 1), (cFa 35 9 2), (cFa 36 35 1), (cLd 37 36 false 1), (cB 38 .leq 34 37)]) (.keep [2,7,8,9,10,11,24,25,26,38] (.cond (.t 38) .skip (.exit 2)))) (.keep [2,7,8,9,10,11,24,25,26] (.seq (.block 3 (.seq (.reg false [(cQ 41 [8,2,11] (.mkf 117 [(.t 8), (.t 2), (.t 11)])), (cMv 12 41)]) (.keep [2,7,8,9,10,11,12,24,25,26] (.seq (.reg false [(cFa 42 2 3), (cLd 43 42 false 1), (cMv 44 12), (cQ 45 [43,44] (.call (kF 119) [(.t 43), (.t 44)]))]) (.keep [2,7,8,9,10,11,24,25,26,45] (.cond (.t 45) (.reg false [(cMv 46 10), (cLd 47 11 false 1), (cQ 48 [47] (.bsl 1 1 [(.i 0)] [(0,1, (.t 47))])), ⟨(some 49), none, [46,48], none, .w (.app 1 (.t 46) (.t 48))⟩, (cMv 10 49)]) .skip)))))) (.keep [2,7,8,9,10,11,24,25,26] (.seq (.seq (.reg false [(cLd 50 11 false 1)]) (.keep [2,7,8,9,10,24,25,26,50] (.reg false [⟨(some 11), none, [], none, .w (.alc [(.i 0)])⟩, ⟨none, none, [11,50], none, .w (.st 1 (.t 11) (.t 50))⟩]))) (.keep [2,7,8,9,10,11,24,25,26] (.swp 4 6 (.reg false [(cLd 39 11 false 1), (cC 40 .add 39 1), ⟨none, none, [11,40], none, .w (.st 1 (.t 11) (.t 40))⟩]))))))))))))) (.keep [2,7,10,24,25,26] (.seq (.seq (.reg false [(cMv 51 10), (cLn 52 51), (cC 53 .eql 52 0)]) (.keep [2,7,10,24,25,26,53] (.cond (.t 53) (.seq (.reg false [(cQ 4 [] (.mv (.k .pn))), (cI 5 3)]) .ret) .skip))) (.keep [2,7,10,24,25,26] (.drp 2 (.reg false [(cMv 54 7), (cMv 55 7), (cZ 56 55), (cFa 57 56 4), (cLd 58 57 false 1), (cMv 59 10), (cQ 60 [59] (.bsl 1 1 [(.z 1)] [(0,1, (.t 59))])), ⟨(some 61), none, [58,60], none, .w (.app 1 (.t 58) (.t 60))⟩, (cZ 62 54), (cFa 63 62 4), ⟨none, none, [63,61], none, .w (.st 1 (.t 63) (.t 61))⟩]))))))))))) (.drp 2 (.keep [2,7,24,25,26] (.reg false [(cC 64 .add 26 1), (cMv 26 64)]))))))))))))) (.keep [7] (.seq (.reg false [(cMv 65 7), (cMv 4 65), (cI 5 0)]) .ret)))))))))))
def rs80 : List RV := [.t 4, .t 5]
theorem cf80 : CF Tryz.prog Tryz.f80 [2,48,60] 0 1 rc80 rs80 2 := ⟨by kernel_rfl, by kernel_rfl, by kernel_rfl, by decide⟩
def rc59 : RC := (.seq (.reg false [(cX 2 0), ⟨(some 4), none, [], none, .w (.alc [(.i 0), (.i 0)])⟩, (cI 5 0)]) (.keep [1,2,4] (.seq (.any false 0 [⟨(cLd 10 2 true 4), [], []⟩, ⟨(cLd 11 2 true 4), [], []⟩, ⟨(cMv 12 1), [], []⟩, ⟨(cQ 13 [11,12] (.call (kF 81) [(.t 11), (.t 12)])), [], [1,2]⟩, ⟨(cQ 14 [10,13] (.call (kF 80) [(.t 10), (.t 13)])), [], [0,3,1,2]⟩, ⟨(cMv 9 14), [], [4,0,3,1,2]⟩, ⟨(cEx 15 9 0), [], [5,4,0,3,1,2]⟩, ⟨(cEx 16 9 1), [], [5,4,0,3,1,2]⟩, ⟨(cMv 6 15), [], [6,5,4,0,3,1,2]⟩, ⟨(cMv 7 16), [], [7,5,4,0,3,1,2,8,6]⟩]) (.keep [1,4,6,7] (.seq (.seq (.reg false [(cMv 17 7), (cC 18 .neq 17 0)]) (.keep [1,4,6,7,18] (.cond (.t 18) (.seq (.reg false [(cQ 19 [] (.bld [(.i 0), (.i 0)] [])), (cMv 20 7), ⟨none, none, [4,19], none, .w (.st 2 (.t 4) (.t 19))⟩, (cMv 5 20)]) .ret) .skip))) (.keep [1,4,6] (.seq (.reg false [(cMv 21 6), (cZ 22 21), (cFa 23 22 4), (cLd 24 23 false 1), (cMv 25 1), (cA 26 1 24 25), (cLd 27 26 false 1), (cMv 8 27)]) (.keep [4,8] (.seq (.any false 0 [⟨(cMv 28 8), [], []⟩, ⟨(cQ 29 [28] (.iad 1 (.t 28) (kI 0))), [], [0]⟩, ⟨(cLd 30 29 false 1), [], [1,0]⟩, ⟨(cMv 31 8), [], []⟩, ⟨(cMv 32 8), [], []⟩, ⟨(cLn 33 32), [], [4]⟩, ⟨(cC 34 .sub 33 1), [], [5,4]⟩, ⟨(cA 35 1 31 34), [], [3,6,5,4]⟩, ⟨(cLd 36 35 false 1), [], [7,3,6,5,4]⟩, ⟨(cQ 37 [30,36] (.bld [(.i 0), (.i 0)] [(0,1, (.t 30)), (1,1, (.t 36))])), [], [2,1,0,8,7,3,6,5,4]⟩, ⟨⟨none, none, [4,37], none, .w (.st 2 (.t 4) (.t 37))⟩, [], [9,2,1,0,8,7,3,6,5,4]⟩, ⟨(cI 5 0), [], [10,9,2,1,0,8,7,3,6,5,4]⟩]) .ret)))))))))
def rs59 : List RV := [.c 4 true 2, .t 5]
theorem cf59 : CF Tryz.prog Tryz.f59 [2] 0 1 rc59 rs59 2 := ⟨by kernel_rfl, by kernel_rfl, by kernel_rfl, by decide⟩
def rc60 : RC := (.seq (.reg false [(cX 4 0), (cI 8 0), (cI 9 0)]) (.keep [1,2,3,4] (.seq (.any true 0 [⟨(cLd 13 4 true 4), [], []⟩, ⟨(cLd 14 4 true 4), [], []⟩, ⟨(cMv 15 1), [], []⟩, ⟨(cQ 16 [14,15] (.call (kF 81) [(.t 14), (.t 15)])), [], [1,2]⟩, ⟨(cMv 17 16), [], [3,1,2]⟩, ⟨(gQ 18 17 true [4] (.ld true 4 (.t 4))), [], [4,3,1,2]⟩, ⟨(gMv 19 17 true 2), [], [4,3,1,2]⟩, ⟨(gMv 20 17 true 3), [], [4,3,1,2]⟩, ⟨(gQ 21 17 true [18,19,20] (.call (kF 82) [(.t 18), (.t 19), (.t 20)])), [], [5,4,3,1,2,6,7]⟩, ⟨(cQ 22 [17,21] (.pick (.t 17) (.t 21) (kB false))), [], [4,3,1,2,8,5,6,7]⟩, ⟨(cQ 23 [13,22] (.call (kF 80) [(.t 13), (.t 22)])), [], [0,9,4,3,1,2,8,5,6,7]⟩, ⟨(cMv 12 23), [], [10,0,9,4,3,1,2,8,5,6,7]⟩, ⟨(cEx 24 12 0), [], [11,10,0,9,4,3,1,2,8,5,6,7]⟩, ⟨(cEx 25 12 1), [], [11,10,0,9,4,3,1,2,8,5,6,7]⟩, ⟨(cMv 10 24), [], [12,11,10,0,9,4,3,1,2,8,5,6,7]⟩, ⟨(cMv 11 25), [], [13,11,10,0,9,4,3,1,2,8,5,6,7,14,12]⟩]) (.keep [1,2,3,10,11] (.seq (.seq (.reg false [(cMv 26 11), (cC 27 .neq 26 0)]) (.keep [1,2,3,10,11,27] (.cond (.t 27) (.seq (.reg false [(cMv 28 11), (cI 8 0), (cMv 9 28)]) .ret) .skip))) (.keep [1,2,3,10] (.seq (.reg false [(cMv 29 10), (cMv 30 1), (cMv 31 2), (cMv 32 3), (cQ 33 [29,30,31,32] (.call (kF 83) [(.t 29), (.t 30), (.t 31), (.t 32)])), (cMv 8 33), (cI 9 0)]) .ret)))))))
def rs60 : List RV := [.t 8, .t 9]
theorem cf60 : CF Tryz.prog Tryz.f60 [4] 0 1 rc60 rs60 4 := ⟨by kernel_rfl, by kernel_rfl, by kernel_rfl, by decide⟩
end Go.CS
set_option linter.all false
namespace Go.CS
open Go.Fam Go.Proofs
open Go.C06 (Span eI eIs Qbx gI gR dI Qbl Qcj fnG Qad Qab Qa6 Qa8 idxOf Qas Qaj Qal Qar Qai Qag Qac Qat Qb3 Qc5 vw_I Qay hmix eLI dLI Qca Qan Qa3 Qaa Qau)
variable {Γ : Gam}
theorem Zbo (w : Work) : K57 78 [.ag (Qa7 w)] = (SmallW w, .i (Qcc w)) := (show K57 78 _ = fnG eW1 dW1 SmallW Qcc .i (eW1 w) from rfl).trans (Qab _ (Qnu w))
def eLens (l : List Int) : List V := [.sl 1 (l.map eI)]
def Qh3 (w : Work) (k : Nat) : List (List Int) := (List.range k).map fun (i : Nat) => Qde w (i : Int)
theorem Qrh (w : Work) (k : Nat) : Qh3 w (k + 1) = Qh3 w k ++ [Qde w (k : Int)] := by simp [Qh3, List.range_succ]
theorem Qhn (w : Work) (k : Nat) : (Qh3 w k).length = k := by simp [Qh3]
def Qhe (w : Work) : List V := [.sl 4 (w.spares.map eSpare), .sl 1 (w.makes.map eMake), .i w.cut, .sl 4 (w.table.map eTrial), .sl 1 ((Qh3 w w.spares.length).map eLens)]
def Qj6 (w : Work) (is : Bool) : V := if Qbs w is = 0 then .tp [.pa (Qhe w), .i 0] else .tp [.pn, .i (Qbs w is)]
theorem Qyk (l : List (List Int)) : ((l.map eLens).flatten).length = l.length * 1 := Qar (e := eLens) (k := 1) (fun _ => rfl) l
theorem Qfc (l : List (List Int)) : Qa1 ((l.map eLens).flatten) = false := Qac (e := eLens) (fun _ => rfl) l
theorem Qwa (l : List (List Int)) : Qcg 1 ((l.map eLens).flatten) 0 l.length = l.map eLens := Qai (e := eLens) (k := 1) (fun _ => rfl) l
theorem Ziq (hp : List Blk) (n : Nat) (l : List (List Int)) : (l.map eLens).map (fun r => r.map (vw hp (n + 1))) = l.map eLens := Qag (e := eLens) hp (n + 1) (fun _ => rfl) l
theorem Qzk {w : Work} {i n : Int} (h : (Qc0 w i).len.low ≤ n ∧ n ≤ (Qc0 w i).len.high) : w.table.all (pSo (i, w, n)) = canB w i n := by
 unfold canB
 rw [Qav.2 h, Bool.and_true]; rfl
set_option maxHeartbeats 4000000 in
theorem W80 (w : Work) (is : Bool) (hw : SmallW w) : Qa5 Tryz.prog 80 [.ag (Qa7 w), .b is] (Qj6 w is) := by
 refine Qa4 Zfa hmix Tryz.func80 cf80.b cf80.c cf80.s cf80.n ?_
 have g := Zbo w
 unfold Qa7 at g
 by_cases h0 : Qcc w = 0
 rotate_left
 ·simp only [rc80, rs80, g, hw, h0, Qa0, Qa2, Qa1, flat, ↓reduceIte, Nat.reduceEqDiff, Nat.reduceAdd, Nat.reduceLT, Nat.reduceLeDiff, rvs, Qro, Qd7, zipA, Qa, implies_true, reduceCtorEq, Qa7, BU1]; simp [Qj6, Qbs, h0]
 cases is with
 | false => simp only [rc80, rs80, g, hw, h0, Qa0, Qa2, Qa1, flat, ↓reduceIte, Nat.reduceEqDiff, Nat.reduceAdd, Nat.reduceLT, Nat.reduceLeDiff, rvs, Qro, Qd7, zipA, Qa, implies_true, reduceCtorEq, Qa7, BU1]; simp [Qj6, Qbs, h0]
 | true =>
 have hO := Qm1 (Qit h0)
 have hn := hO.nsp
 have hT := hO.ntb
 have hE : Qbs w true = if Qd4 w = true then 3 else 0 := by simp [Qbs, h0]
 simp only [rc80, rs80, g, hw, h0, Qkx, Qa0, Qak, Qaw, Qah, Qa2, Qa1, flat, ↓reduceIte, Nat.reduceEqDiff, Nat.reduceAdd, Nat.reduceLT, Nat.reduceLeDiff, zipA, Qa, implies_true, reduceCtorEq, Qa7, BU1]
 refine Qap w.spares.length (fun i => ⟨lkp [(2, .pa (Qa7 w)), (7, .ad 0 0 0), (24, .sl 4 (w.spares.map eSpare)), (25, .i w.spares.length), (26, .i i)],
   [.cells 0 [.sl 4 (w.spares.map eSpare), .sl 1 (w.makes.map eMake), .i w.cut, .sl 4 (w.table.map eTrial), .rf 1 i 0 i 1], .cells i ((Qh3 w i).map eLens).flatten]⟩) (fun k => ∀ j : Nat, j < k → (Qde w (j : Int)).isEmpty = false) ?_ ?_ ?_ ?_
 ·simp only [Qg, Qh3, List.range_zero, Qt, cutV, cutL, cutB, ↓reduceIte, Nat.reduceEqDiff, Nat.reduceLT, Qa7, BU1]
 ·intro j h; omega
 ·intro i hi hc
  have hlt : (i : Int) < w.spares.length := by omega
  have i1 : inI ((i : Int) + 1) := by unfold inI; omega
  have hI : OkI w i := ⟨hO, by omega⟩
  have hs0 := Qf4 hI.sp
  have hs : w.spares[i]? = some (Qc0 w i) := by simpa using hs0
  have hS := Qfd (hO.spare _ (Qc hs))
  have hN : Qde w i = Qij w i ((Qc0 w i).len.high + 1 - (Qc0 w i).len.low).toNat := rfl
  have g2 := fun n => Zdm (i, w, n) w.table
  have hC : ∀ n, C2So ((i, w, n), w.table) := fun n => ⟨by show w.table.length < 10000000; omega, fun t ht => hI.fits ht⟩
  simp only [eSo, Qa7] at g2
  have hca := fun n => Qzk (w := w) (i := i) (n := n)
  have hst := Qok w i
  have hle := Qmt w i
  have e0 : Qij w i 0 = [] := rfl
  have hsu := Qrh w i
  obtain ⟨res, hres⟩ : ∃ res, Qde w (i : Int) = res := ⟨_, rfl⟩
  rw [hres] at hN hsu
  generalize Qij w i = L at *
  generalize Qc0 w i = s at *
  simp only [hlt, hs, Qow, Qa0, Qah, ↓reduceIte, Nat.reduceEqDiff, Nat.reduceAdd, Nat.reduceLeDiff, beq_self_eq_true, Qa, eSpare, Qa7, BU1]
  refine Qb5 (s.len.high + 1 - s.len.low).toNat (fun k => ⟨lkp [(2, .pa (Qa7 w)), (7, .ad 0 0 0), (8, .ad 2 0 0), (9, .ad 3 0 0), (10, .rf 5 (L k).length 0 (L k).length 1), (11, .ad 4 0 0), (24, .sl 4 (w.spares.map eSpare)), (25, .i w.spares.length), (26, .i i)],
    [.cells 0 [.sl 4 (w.spares.map eSpare), .sl 1 (w.makes.map eMake), .i w.cut, .sl 4 (w.table.map eTrial), .rf 1 i 0 i 1], .cells i ((Qh3 w i).map eLens).flatten, .cells 0 [.i i], .cells 0 (eSpare s), .cells 0 [.i (s.len.low + (k : Int))], .cells (L k).length ((L k).map eI).flatten]⟩) ?_ ?_ ?_
  ·simp only [Qg, e0, Qt, Int.add_zero, Qa3 _ _ _ (Qfc _), cutV, cutL, cutB, ↓reduceIte, Nat.reduceEqDiff, Nat.reduceLT, eSpare, Qa7, BU1]
  ·intro k hk
   have hlk : s.len.low + (k : Int) ≤ s.len.high := by omega
   have h3 : inI (s.len.low + (k : Int) + 1) ∧ inI (s.len.low + ((k : Int) + 1)) := by unfold inI; omega
   have hll := hle k
   have hfl : Qao ((L k).length + 1) := by unfold Qao; omega
   have hsk := hst k
   have hck := hca (s.len.low + (k : Int)) ⟨by omega, hlk⟩
   cases ha : canB w i (s.len.low + (k : Int)) with
   | false =>
    rw [ha] at hsk hck
    simp only [Qa, if_false] at hsk
    simp only [hlk, g2, hC, hck, hsk, h3, Qa3 _ _ _ (Qay _), Qa3 _ _ _ (Qfc _), Qdr _ _ (Qay _), Qdr _ _ (Qfc _), Qh, Qf, Int.add_assoc, Qys, ↓Qpm, swH, sw, renV, renL, renB, Qa0, Qah, Qa2, Qa1, flat, cutV, cutL, cutB, ↓reduceIte, Nat.reduceEqDiff, Nat.reduceAdd, Nat.reduceLT, Nat.reduceLeDiff, Qdj, beq_self_eq_true, Qi, Qa, forall_const, reduceCtorEq, eSpare, Qa7, BU1]
   | true =>
    rw [ha] at hsk hck
    simp only [if_true] at hsk
    have hnx : Qa1 (((L k).map eI).flatten ++ [V.i (s.len.low + (k : Int))]) = false := by rw [Qaa, Qay]; rfl
    simp only [hlk, g2, hC, hck, hsk, h3, Qc5, Q9, hfl, List.length_append, Zb, Q3, Q5, Qt, Qa3 _ _ _ (Qfc _), Qa3 _ _ _ hnx, Qdr _ _ hnx, Qdr _ _ (Qfc _), Qh, Qf, Int.add_assoc, Qys, Qck, ↓Qpm, swH, sw, renV, renL, renB, Qa0, Qbt, Qak, Qaw, Qb2, Qah, Qa2, Qa1, flat, cutV, cutL, cutB, ↓reduceIte, Nat.reduceEqDiff, Nat.reduceAdd, Nat.reduceLT, Nat.reduceLeDiff, Qp, Qdj, beq_self_eq_true, Qi, Qa, forall_const, reduceCtorEq, not_false_eq_true, ne_eq, eI, eSpare, Qa7, BU1]
  ·have hlk : ¬ (s.len.low + (((s.len.high + 1 - s.len.low).toNat : Nat) : Int) ≤ s.len.high) := by omega
   have hlw := Qhn w i
   have f5 : Qao (i + 1) := by unfold Qao; omega
   have h78 := Qb3 res
   have hnr : Qa1 (((Qh3 w i).map eLens).flatten ++ [V.sl 1 (res.map eI)]) = false := by rw [Qaa, Qfc]; rfl
   simp only [hlk, ← hN, Qdp, Qbd, Qck, ↓Qam, Qa0, Qbt, Qak, Qaw, Qb2, Qah, Qa1, cutV, cutL, cutB, ↓reduceIte, Nat.reduceEqDiff, Nat.reduceAdd, Nat.reduceMul, Nat.reduceLT, Nat.reduceLeDiff, Qp, rvs, Qro, Qd7, Qdk, beq_self_eq_true, Qa, decide_eq_true_eq, reduceCtorEq, not_false_eq_true, ne_eq, eSpare, Qa7, BU1]
   refine ⟨fun e => ?_, fun e => ?_⟩
   ·have he : res = [] := by simpa using e
    have hb : Qd4 w = true := Q6.2 ⟨i, Q2.2 hi, by rw [hres, he]; rfl⟩
    rw [hb] at hE
    simp [Qj6, hE]
   ·simp only [hpF, upB, Qau _ _ (Qay _), Qc5, Q9, Nat.le_refl, h78, vw_I, Qyk, hlw, f5, i1, hsu, Zb, Q3, Q5, Qt, eLens, Qh, Qf, Qa3 _ _ _ hnr, Qa3 _ _ _ (Qfc _), Qah, Qa2, ↓reduceIte, BU1]
    intro j hj
    by_cases hji : j < i
    ·exact hc j hji
    ·have : j = i := by omega
     subst this
     rw [hres]
     cases res with
     | nil => exact absurd rfl e
     | cons a l => rfl
 ·intro hc
  have hlt : ¬ ((w.spares.length : Int) < w.spares.length) := by omega
  have hb : Qd4 w = false := by
   unfold Qd4
   rw [Qx]
   intro i hi
   rw [hc i (Q2.1 hi)]; simp
  rw [hb] at hE
  simp only [Qa, if_false] at hE
  have hl := Qhn w w.spares.length
  have h1 := Qwa (Qh3 w w.spares.length)
  rw [hl] at h1
  simp only [hlt, Qyk, hl, Q9, Nat.le_refl, h1, Ziq, Qa0, ↓reduceIte, Nat.reduceEqDiff, rvs, Qd7, Qdj, Qdk, Qa, Qa7, BU1]
  simp [Qj6, hE, Qhe]
end Go.CS
set_option linter.all false
namespace Go.CS
open Go.Fam Go.Proofs
open Go.C06 (Span eI eIs Qbx gI gR dI Qbl Qcj fnG Qad Qab Qa6 Qa8 idxOf Qas Qaj Qal Qar Qai Qag Qac Qat Qb3 Qc5 vw_I Qay hmix eLI dLI Qca Qan Qa3 Qaa Qau)
variable {Γ : Gam}
def Qyd : List V → Work | [a, b, c, d, _] => Qct [a, b, c, d] | _ => Qct []
theorem Qwk (w : Work) : Qyd (Qhe w) = w := Qcu w
noncomputable def K58 : Gam := K57.ext 80 (fnG eWB dWB (fun a => SmallW a.1) (fun a => Qj6 a.1 a.2) (fun v => v))
theorem Zfb : GOk Tryz.prog K58 := Zfa.ext (f := 80) (fun a w => Tryz.call80 a w) (Qad (e := eWB) (d := dWB) (ok := fun a => SmallW a.1) (g := fun a => Qj6 a.1 a.2) (eb := fun v => v) fun a h => W80 a.1 a.2 h)
theorem h80 (w : Work) (is : Bool) : K58 80 [.ag (Qa7 w), .b is] = (SmallW w, Qj6 w is) := (show K58 80 _ = fnG eWB dWB (fun a => SmallW a.1) (fun a => Qj6 a.1 a.2) (fun v => v) (eWB (w, is)) from rfl).trans (Qab _ (Zd4 (w, is)))
theorem Qz4 (w : Work) (i n m k : Int) : K58 118 [.ag (Qa7 w), .i i, .i n, .i m, .i k] = (OkF w i m k, .b (Qcv w i n m k)) := h118 w i n m k
theorem Qz5 (a b : Int) : K58 121 [.i a, .i b] = (True, .i (Qoh a b)) := rfl
def fitN (w : Work) (i m k : Int) : Int := Qoh ((Qde w i).countP fun n => Qcv w i n m k) (Qde w i).length
theorem Qoi {w : Work} {i : Int} (h : OkI w i) : (Qde w i).length ≤ 1000 := by
 have hS := Qfd (h.ok.spare _ (Qc (Qf4 h.sp)))
 have := Qmt w i ((Qc0 w i).len.high + 1 - (Qc0 w i).len.low).toNat
 unfold Qde; omega
theorem Qoj {w : Work} {i : Int} (h : 0 ≤ i ∧ i < w.spares.length) : (Qh3 w w.spares.length)[i.toNat]? = some (Qde w i) := by
 unfold Qh3
 rw [List.getElem?_map, List.getElem?_range (by omega)]
 simp only [Za]
 congr 2; omega
theorem W83 (w : Work) (i m k : Int) (h : OkF w i m k) : Qa5 Tryz.prog 83 [.pa (Qhe w), .i i, .i m, .i k] (.i (fitN w i m k)) := by
 refine Qa4 Zfb hmix Tryz.func83 cf83.b cf83.c cf83.s cf83.n ?_
 have hl := Qoi ⟨h.ok, h.sp⟩
 have hg := Qoj h.sp
 have hsp := h.sp
 have hsw := Qhn w w.spares.length
 have g := fun n => Qz4 w i n m k
 simp only [Qa7] at g
 unfold fitN
 simp only [Qhe]
 generalize Qde w i = L at *
 generalize Qh3 w w.spares.length = LL at *
 simp only [rc83, rs83, hg, hsw, hsp, eLens, Qa0, ↓reduceIte, Nat.reduceEqDiff, Nat.reduceAdd, Nat.reduceLeDiff, zipA, Qa, reduceCtorEq, BU1]
 refine Qb5 L.length (fun j => ⟨lkp [(0, .pa [.sl 4 (w.spares.map eSpare), .sl 1 (w.makes.map eMake), .i w.cut, .sl 4 (w.table.map eTrial), .sl 1 (LL.map eLens)]), (1, .i i), (2, .i m), (3, .i k), (9, .i ((L.take j).countP fun n => Qcv w i n m k : Nat)), (18, .sl 1 (L.map eI)), (19, .i L.length), (20, .i j)], []⟩) ?_ ?_ ?_
 ·simp only [Qg, Q0, ↓reduceIte, Nat.reduceEqDiff, reduceCtorEq, BU1]
 ·intro j hj
  obtain ⟨x, hx⟩ : ∃ x, L[j]? = some x := ⟨_, Qd hj⟩
  have hlt : (j : Int) < L.length := by omega
  have i1 : inI ((j : Int) + 1) := by unfold inI; omega
  have hc : (L.take j).countP (fun n => Qcv w i n m k) ≤ 1000 := by
   refine Nat.le_trans List.countP_le_length ?_
   rw [Qz]; omega
  have i2 : inI ((((L.take j).countP fun n => Qcv w i n m k) : Nat) + 1 : Int) := by unfold inI; omega
  have hs := Qa8 hx
  cases e : Qcv w i x m k with
  | false =>
   simp only [hlt, hx, g, h, e, i1, hs, Q4, Q8, Q0, Qh, Qf, Qa0, Qa2, Qa1, flat, ↓reduceIte, Nat.reduceEqDiff, Nat.reduceAdd, Nat.reduceLT, Nat.reduceLeDiff, Qa, implies_true, reduceCtorEq, eI, BU1]
  | true =>
   simp only [hlt, hx, g, h, e, i1, i2, hs, Q4, Q8, Q0, Qh, Qf, Qa0, Qa2, Qa1, flat, ↓reduceIte, Nat.reduceEqDiff, Nat.reduceAdd, Nat.reduceLT, Nat.reduceLeDiff, Qa, implies_true, reduceCtorEq, eI, BU1]
 ·have hlt : ¬ ((L.length : Int) < L.length) := by omega
  simp only [hlt, hg, hsw, hsp, Qz5, eLens, List.take_length, Qa0, Qa2, Qa1, flat, ↓reduceIte, Nat.reduceEqDiff, Nat.reduceLT, Nat.reduceLeDiff, rvs, Qa, implies_true, reduceCtorEq, BU1]
def eQF (a : Work × Int × Int × Int) : List V := [.pa (Qhe a.1), .i a.2.1, .i a.2.2.1, .i a.2.2.2]
def dQF : List V → Work × Int × Int × Int | [.pa s, .i a, .i b, .i c] => (Qyd s, a, b, c) | _ => (Qct [], 0, 0, 0)
theorem Zhi (a : Work × Int × Int × Int) : dQF (eQF a) = a := by obtain ⟨w, n, m, k⟩ := a; simp [dQF, eQF, Qwk]
noncomputable def K59 : Gam := K58.ext 83 (fnG eQF dQF (fun a => OkF a.1 a.2.1 a.2.2.1 a.2.2.2) (fun a => fitN a.1 a.2.1 a.2.2.1 a.2.2.2) (.i))
theorem Zak : GOk Tryz.prog K59 := Zfb.ext (f := 83) (fun a w => Tryz.call83 a w) (Qad (e := eQF) (d := dQF) (ok := fun a => OkF a.1 a.2.1 a.2.2.1 a.2.2.2) (g := fun a => fitN a.1 a.2.1 a.2.2.1 a.2.2.2) (eb := .i) fun a h => W83 a.1 a.2.1 a.2.2.1 a.2.2.2 h)
theorem h83 (w : Work) (i m k : Int) : K59 83 [.pa (Qhe w), .i i, .i m, .i k] = (OkF w i m k, .i (fitN w i m k)) := (show K59 83 _ = fnG eQF dQF (fun a => OkF a.1 a.2.1 a.2.2.1 a.2.2.2) (fun a => fitN a.1 a.2.1 a.2.2.1 a.2.2.2) (.i) (eQF (w, i, m, k)) from rfl).trans (Qab _ (Zhi (w, i, m, k)))
theorem Qy1 (w : Work) (n : Int) : K59 81 [.ag (Qa7 w), .i n] = (w.spares.length ≤ 1000000, .b (Qa6 n 0 (w.spares.length - 1))) := h81 w n
theorem Zbp (w : Work) (m k : Int) : K59 82 [.ag (Qa7 w), .i m, .i k] = (SmallW w, .b (Qbg w m k)) := h82 w m k
theorem Qy0 (w : Work) (is : Bool) : K59 80 [.ag (Qa7 w), .b is] = (SmallW w, Qj6 w is) := h80 w is
def isSp (w : Work) (i : Int) : Bool := Qa6 i 0 (w.spares.length - 1)
def Qfz (w : Work) (i : Int) : V := if Qbs w (isSp w i) = 0 then .tp [.ag [.i ((Qde w i).headD 0), .i ((Qde w i).getD ((Qde w i).length - 1) 0)], .i 0] else .tp [.ag [.i 0, .i 0], .i (Qbs w (isSp w i))]
def Qmm (w : Work) (i m k : Int) : V := if Qbs w (isSp w i && Qbg w m k) = 0 then .tp [.i (fitN w i m k), .i 0] else .tp [.i 0, .i (Qbs w (isSp w i && Qbg w m k))]
theorem Qqc {w : Work} {is : Bool} (h : Qbs w is = 0) : OkW w ∧ is = true ∧ Qd4 w = false := by
 unfold Qbs at h
 split at h
 ·rename_i h1; exact absurd h h1
 ·rename_i h1
  have h1 : Qcc w = 0 := by omega
  cases is with
  | false => simp at h
  | true =>
   refine ⟨Qm1 (Qit h1), rfl, ?_⟩
   cases hb : Qd4 w with
   | false => rfl
   | true => simp [hb] at h
theorem Za5 {w : Work} (hb : Qd4 w = false) {i : Int} (h : 0 ≤ i ∧ i < w.spares.length) : Qde w i ≠ [] := by
 intro e
 unfold Qd4 at hb
 rw [Qx] at hb
 have := hb i.toNat (Q2.2 (by omega))
 rw [show ((i.toNat : Nat) : Int) = i by omega, e] at this
 exact this rfl
theorem W60 (w : Work) (i m k : Int) (hw : SmallW w) : Qa5 Tryz.prog 60 [.ag (Qa7 w), .i i, .i m, .i k] (Qmm w i m k) := by
 refine Qa4 Zak hmix Tryz.func60 cf60.b cf60.c cf60.s cf60.n ?_
 have g1 := Qy1 w i
 have g2 := Zbp w m k
 have g3 := Qy0 w (isSp w i && Qbg w m k)
 have g4 := h83 w i m k
 simp only [Qa7] at g1 g2 g3
 have hsl := hw.spares
 have h81' : (Qa6 i 0 (w.spares.length - 1)) = isSp w i := rfl
 unfold Qmm
 unfold Qj6 at g3
 by_cases e : Qbs w (isSp w i && Qbg w m k) = 0
 ·rw [if_pos e] at g3 ⊢
  obtain ⟨h1, h2, h3⟩ := Qqc e
  rw [Q7] at h2
  obtain ⟨h4, h5⟩ := h2
  have hF : OkF w i m k := ⟨h1, by have := Qav.1 h4; omega, h5⟩
  rw [h4, h5] at g3
  rw [h81', h4] at g1
  rw [h5] at g2
  simp only [Bool.and_self] at g3
  simp only [Qhe] at g3 g4
  simp only [rc60, rs60, g1, g2, g3, g4, hsl, hw, hF, Qaq, Qa0, runX, fpQ, fpV, Qa2, Qa1, flat, Qc4, ↓reduceIte, Nat.reduceEqDiff, Nat.reduceAdd, Nat.reduceLT, Nat.reduceLeDiff, rvs, Qd7, zipA, beq_self_eq_true, Qa, Qb, forall_const, implies_true, reduceCtorEq, Qn, imp_self, Qa7, BU1]
 ·rw [if_neg e] at g3 ⊢
  generalize Qbs w (isSp w i && Qbg w m k) = E at *
  rw [h81'] at g1
  cases a1 : isSp w i <;> cases a2 : Qbg w m k <;> rw [a1] at g1 g3 <;> rw [a2] at g2 g3 <;> simp only [Bool.and_self, Qk, Bool.false_and] at g3 <;> simp only [rc60, rs60, g1, g2, g3, hsl, hw, e, Qaq, Qa0, runX, fpQ, fpV, Qa2, Qa1, flat, Qc4, ↓reduceIte, Nat.reduceEqDiff, Nat.reduceAdd, Nat.reduceLT, Nat.reduceLeDiff, rvs, Qd7, zipA, beq_self_eq_true, Qa, Qb, forall_const, implies_true, reduceCtorEq, Qn, imp_self, Qa7, BU1]
theorem W59 (w : Work) (i : Int) (hw : SmallW w) : Qa5 Tryz.prog 59 [.ag (Qa7 w), .i i] (Qfz w i) := by
 refine Qa4 Zak hmix Tryz.func59 cf59.b cf59.c cf59.s cf59.n ?_
 have g1 := Qy1 w i
 have g3 := Qy0 w (isSp w i)
 simp only [Qa7] at g1 g3
 have hsl := hw.spares
 have h81' : (Qa6 i 0 (w.spares.length - 1)) = isSp w i := rfl
 unfold Qfz
 unfold Qj6 at g3
 rw [h81'] at g1
 by_cases e : Qbs w (isSp w i) = 0
 ·rw [if_pos e] at g3 ⊢
  obtain ⟨h1, h2, h3⟩ := Qqc e
  have hi : 0 ≤ i ∧ i < w.spares.length := by have := Qav.1 h2; omega
  have hne := Za5 h3 hi
  have hl := Qoi ⟨h1, hi⟩
  have hg := Qoj hi
  have hsw := Qhn w w.spares.length
  rw [h2] at g1 g3
  simp only [Qhe] at g3
  generalize Qde w i = L at *
  generalize Qh3 w w.spares.length = LL at *
  have hp : 0 < L.length := List.length_pos_iff.2 hne
  obtain ⟨x, hx⟩ : ∃ x, L[0]? = some x := ⟨_, Qd hp⟩
  obtain ⟨y, hy⟩ : ∃ y, L[L.length - 1]? = some y := ⟨_, Qd (by omega)⟩
  have i1 : inI ((L.length : Int) - 1) := by unfold inI; omega
  have i2 : (0 : Int) < L.length := by omega
  have i3 : 0 ≤ (L.length : Int) - 1 ∧ (L.length : Int) - 1 < L.length := by omega
  have i4 : ((L.length : Int) - 1).toNat = L.length - 1 := by omega
  have hh : L.headD 0 = x := by cases L with
   | nil => simp at hx
   | cons a l => simpa using hx
  rw [hh]
  simp only [rc59, rs59, g1, g3, hsl, hw, hg, hsw, hi, eLens, hx, hy, i1, i2, i3, i4, Qaq, optL, Qa0, runX, fpQ, fpV, Qak, Qaw, Qah, Qa2, Qa1, flat, Qc4, ↓reduceIte, Nat.reduceEqDiff, Nat.reduceAdd, Nat.reduceLT, Nat.reduceLeDiff, Int.toNat_zero, Int.reduceLE, Qs, rvs, Qd7, zipA, Qj, Qu, Qa, implies_true, reduceCtorEq, Qy, Qr, Qn, imp_self, eI, Qa7, BU1]
 ·rw [if_neg e] at g3 ⊢
  generalize Qbs w (isSp w i) = E at *
  cases a1 : isSp w i <;> rw [a1] at g1 g3 <;> simp only [rc59, rs59, g1, g3, hsl, hw, e, Qaq, Qa0, runX, fpQ, fpV, Qak, Qaw, Qah, Qa2, Qa1, flat, Qc4, ↓reduceIte, Nat.reduceEqDiff, Nat.reduceAdd, Nat.reduceLT, Nat.reduceLeDiff, rvs, Qd7, zipA, Qa, implies_true, reduceCtorEq, Qn, Qa7, BU1]
end Go.CS
set_option linter.all false
namespace Go.CS
open Go.Fam Go.Proofs
open Go.C06 (Span eI eIs Qbx gI gR dI Qbl Qcj fnG Qad Qab Qa6 Qa8 idxOf Qas Qaj Qal Qar Qai Qag Qac Qat Qb3 Qc5 vw_I Qay hmix eLI dLI Qca Qan Qa3 Qaa Qau)
variable {Γ : Gam}
def eWF4 (a : Work × Int × Int × Int) : List V := [.ag (Qa7 a.1), .i a.2.1, .i a.2.2.1, .i a.2.2.2]
def dWF4 : List V → Work × Int × Int × Int | [.ag s, .i a, .i b, .i c] => (Qct s, a, b, c) | _ => (Qct [], 0, 0, 0)
theorem Zd6 (a : Work × Int × Int × Int) : dWF4 (eWF4 a) = a := by obtain ⟨w, n, m, k⟩ := a; simp [dWF4, eWF4, Qcu]
noncomputable def K60 : Gam := K59.ext 60 (fnG eWF4 dWF4 (fun a => SmallW a.1) (fun a => Qmm a.1 a.2.1 a.2.2.1 a.2.2.2) (fun v => v))
theorem Zi7 : GOk Tryz.prog K60 := Zak.ext (f := 60) (fun a w => Tryz.call60 a w) (Qad (e := eWF4) (d := dWF4) (ok := fun a => SmallW a.1) (g := fun a => Qmm a.1 a.2.1 a.2.2.1 a.2.2.2) (eb := fun v => v) fun a h => W60 a.1 a.2.1 a.2.2.1 a.2.2.2 h)
theorem h60 (w : Work) (i m k : Int) : K60 60 [.ag (Qa7 w), .i i, .i m, .i k] = (SmallW w, Qmm w i m k) := (show K60 60 _ = fnG eWF4 dWF4 (fun a => SmallW a.1) (fun a => Qmm a.1 a.2.1 a.2.2.1 a.2.2.2) (fun v => v) (eWF4 (w, i, m, k)) from rfl).trans (Qab _ (Zd6 (w, i, m, k)))
noncomputable def K61 : Gam := K60.ext 59 (fnG eWI dWI (fun a => SmallW a.1) (fun a => Qfz a.1 a.2) (fun v => v))
theorem Zi8 : GOk Tryz.prog K61 := Zi7.ext (f := 59) (fun a w => Tryz.call59 a w) (Qad (e := eWI) (d := dWI) (ok := fun a => SmallW a.1) (g := fun a => Qfz a.1 a.2) (eb := fun v => v) fun a h => W59 a.1 a.2 h)
theorem h59 (w : Work) (i : Int) : K61 59 [.ag (Qa7 w), .i i] = (SmallW w, Qfz w i) := (show K61 59 _ = fnG eWI dWI (fun a => SmallW a.1) (fun a => Qfz a.1 a.2) (fun v => v) (eWI (w, i)) from rfl).trans (Qab _ (Qsa (w, i)))
theorem dI_e (x : Int) : dI (eI x) = x := Qbl x
def eU (_ : Unit) : List V := []
def dU (_ : List V) : Unit := ()
theorem dU_e (a : Unit) : dU (eU a) = a := rfl
def eWp (w : Work) : List V := [.pa (Qa7 w)]
def dWp : List V → Work | [.pa w] => Qct w | _ => Qct []
theorem Zdb (w : Work) : dWp (eWp w) = w := Qcu w
def badN (_ : Unit) (n : Int) : Bool := !Qa6 n 0 10
def badP (w : Work) (p : Piece) : Bool := !Qci ⟨w, [], [], [], [], 0⟩ p
def badX (_ : Unit) (x : Wish) : Bool := !okWish x
def badD (w : Work) (d : Del) : Bool := !Qg0 ⟨w, [], [], [], [], 0⟩ d
def CN (_ : Unit) (_ : Int) : Prop := True
def CP (w : Work) (p : Piece) : Prop := SmallW w ∧ p.broken.length ≤ 1000000
def CX (_ : Unit) (_ : Wish) : Prop := True
def CD (w : Work) (_ : Del) : Prop := w.spares.length ≤ 1000000
def eN1 (n : Int) : List V := [.i n]
def dN1 : List V → Int | [.i n] => n | _ => 0
theorem Zhd (n : Int) : dN1 (eN1 n) = n := rfl
def eWPc (a : Work × Piece) : List V := [.ag (ePiece a.2), .pa (Qa7 a.1)]
def dWPc : List V → Work × Piece | [.ag p, .pa w] => (Qct w, Qev p) | _ => (Qct [], Qev [])
theorem Zd9 (a : Work × Piece) : dWPc (eWPc a) = a := by obtain ⟨w, p⟩ := a; simp [dWPc, eWPc, Qcu, Qf8]
def eWDc (a : Work × Del) : List V := [.ag (eDel a.2), .pa (Qa7 a.1)]
def dWDc : List V → Work × Del | [.ag p, .pa w] => (Qct w, dDel p) | _ => (Qct [], dDel [])
theorem Zd5 (a : Work × Del) : dWDc (eWDc a) = a := by obtain ⟨w, p⟩ := a; simp [dWDc, eWDc, Qcu, Qs8]
theorem Zgx (n : Int) : Qa5 Tryz.prog 112 [.i n] (.b (badN () n)) := W112 n
theorem Zgu (w : Work) (p : Piece) (h : CP w p) : Qa5 Tryz.prog 105 [.ag (ePiece p), .pa (Qa7 w)] (.b (badP w p)) := W105 ⟨w, [], [], [], [], 0⟩ p h
theorem Zgv (x : Wish) : Qa5 Tryz.prog 109 [.ag (eWish x)] (.b (badX () x)) := W109 x
theorem Zgw (w : Work) (d : Del) (h : CD w d) : Qa5 Tryz.prog 111 [.ag (eDel d), .pa (Qa7 w)] (.b (badD w d)) := W111 ⟨w, [], [], [], [], 0⟩ d h
noncomputable def K62 : Gam := K61.ext 112 (fnG eN1 dN1 (fun _ => True) (badN ()) (.b))
theorem Zi9 : GOk Tryz.prog K62 := Zi8.ext (f := 112) (fun a w => Tryz.call112 a w) (Qad (e := eN1) (d := dN1) (ok := fun _ => True) (g := badN ()) (eb := .b) fun a h => Zgx a)
theorem h112 (a : Unit) (n : Int) : K62 112 [.i n] = (CN a n, .b (badN a n)) := (show K62 112 _ = fnG eN1 dN1 (fun _ => True) (badN ()) (.b) (eN1 n) from rfl).trans (Qab _ (Zhd n))
noncomputable def K63 : Gam := K62.ext 105 (fnG eWPc dWPc (fun a => CP a.1 a.2) (fun a => badP a.1 a.2) (.b))
theorem Zia : GOk Tryz.prog K63 := Zi9.ext (f := 105) (fun a w => Tryz.call105 a w) (Qad (e := eWPc) (d := dWPc) (ok := fun a => CP a.1 a.2) (g := fun a => badP a.1 a.2) (eb := .b) fun a h => Zgu a.1 a.2 h)
theorem h105 (w : Work) (p : Piece) : K63 105 [.ag (ePiece p), .pa (Qa7 w)] = (CP w p, .b (badP w p)) := (show K63 105 _ = fnG eWPc dWPc (fun a => CP a.1 a.2) (fun a => badP a.1 a.2) (.b) (eWPc (w, p)) from rfl).trans (Qab _ (Zd9 (w, p)))
noncomputable def K64 : Gam := K63.ext 109 (fnG eX1 dX1 (fun _ => True) (badX ()) (.b))
theorem Zib : GOk Tryz.prog K64 := Zia.ext (f := 109) (fun a w => Tryz.call109 a w) (Qad (e := eX1) (d := dX1) (ok := fun _ => True) (g := badX ()) (eb := .b) fun a h => Zgv a)
theorem h109 (a : Unit) (x : Wish) : K64 109 [.ag (eWish x)] = (CX a x, .b (badX a x)) := (show K64 109 _ = fnG eX1 dX1 (fun _ => True) (badX ()) (.b) (eX1 x) from rfl).trans (Qab _ (Qmg x))
noncomputable def K65 : Gam := K64.ext 111 (fnG eWDc dWDc (fun a => CD a.1 a.2) (fun a => badD a.1 a.2) (.b))
theorem Zfc : GOk Tryz.prog K65 := Zib.ext (f := 111) (fun a w => Tryz.call111 a w) (Qad (e := eWDc) (d := dWDc) (ok := fun a => CD a.1 a.2) (g := fun a => badD a.1 a.2) (eb := .b) fun a h => Zgw a.1 a.2 h)
theorem h111 (w : Work) (d : Del) : K65 111 [.ag (eDel d), .pa (Qa7 w)] = (CD w d, .b (badD w d)) := (show K65 111 _ = fnG eWDc dWDc (fun a => CD a.1 a.2) (fun a => badD a.1 a.2) (.b) (eWDc (w, d)) from rfl).trans (Qab _ (Zd5 (w, d)))
theorem Qz6 (a : Unit) (n : Int) : K65 112 [.i n] = (CN a n, .b (badN a n)) := h112 a n
theorem R143 (hG : GOk Tryz.prog Γ) (l : List Int) (f : Nat) (hf : f < 1000000) (caps : List V) (p : Int → Bool) (C : Int → Prop) (hC : ∀ x ∈ l, C x) (hv : caps.map (vw [] 8) = caps) (hr : Qa1 caps = false) (hl : l.length < 10000000)
  (h : ∀ x ∈ l, Γ f (V.i x :: caps) = (C x, .b (p x))) : Qa5 Tryz.prog 143 [.sl 1 (l.map eI), .fn f caps] (.i (idxOf p l)) := by
 refine Qa4 hG hmix Tryz.func143 Qno.b Qno.c Qno.s Qno.n ?_
 simp only [rc143, rs143, Qa0, ↓reduceIte, Nat.reduceEqDiff, Int.reduceNeg, zipA, reduceCtorEq, BU1]
 refine Qap l.length (fun i => ⟨lkp [(0, .sl 1 (l.map eI)), (1, .fn f caps), (7, .i l.length), (8, .i i)], []⟩) (fun i => ∀ j x, j < i → l[j]? = some x → p x = false) ?_ ?_ ?_ ?_
 ·simp only [Qg, ↓reduceIte, Nat.reduceEqDiff, reduceCtorEq, BU1]
 ·intro j x h; omega
 ·intro i hi hc
  obtain ⟨x, hx⟩ : ∃ x, l[i]? = some x := ⟨_, Qd hi⟩
  have hlt : (i : Int) < l.length := by omega
  have h3 : inI ((i : Int) + 1) := by unfold inI; omega
  have hp := h x (Qc hx)
  have hCx := hC x (Qc hx)
  try simp only [eI, eMake] at hp
  simp only [hx, hlt, Qh, Qf, h3, hp, hv, hr, hf, hCx, Qdp, Qa0, Qa2, Qa1, flat, ↓reduceIte, Nat.reduceEqDiff, Nat.reduceLeDiff, Int.reduceNeg, rvs, V.i.injEq, Qa, implies_true, reduceCtorEq, Qm, eI, BU1]
  refine ⟨fun e => ?_, fun e => ?_⟩
  ·rw [Qas hx e hc]
  ·exact Qc1 hx e hc
 ·intro hc
  simp only [Qa0, ↓reduceIte, Nat.reduceEqDiff, Int.reduceNeg, rvs, Ql, V.i.injEq, Qa, reduceCtorEq, BU1]
  exact (Qaj fun x hx => by
   obtain ⟨j, hj⟩ := Qe hx
   exact hc j x (by have := Qaf hj; exact this) hj).symm
def e2Ns (a : Unit × List Int) : List V := [.sl 1 (a.2.map eI), .fn 112 (eU a.1)]
def d2Ns : List V → Unit × List Int | [.sl _ l, .fn _ c] => (dU c, l.map dI) | _ => (dU [], [])
theorem Qy7 (a : Unit × List Int) : d2Ns (e2Ns a) = a := by obtain ⟨a, l⟩ := a; simp [d2Ns, e2Ns, dU_e, dI_e, Function.comp_def]
def C2Ns (a : Unit × List Int) : Prop := a.2.length < 10000000 ∧ ∀ x ∈ a.2, CN a.1 x
theorem vwNs (a : Unit) : ((eU a) : List V).map (vw [] 8) = (eU a) := by
 unfold eU
 simp only [Qq]
theorem rfNs (a : Unit) : Qa1 ((eU a) : List V) = false := rfl
noncomputable def K66 : Gam := K65.ext 143 (fnG e2Ns d2Ns (C2Ns) (fun a => idxOf (badN a.1) a.2) (.i))
theorem Zfd : GOk Tryz.prog K66 := Zfc.ext (f := 143) (fun a w => Tryz.call143 a w) (Qad (e := e2Ns) (d := d2Ns) (ok := C2Ns) (g := fun a => idxOf (badN a.1) a.2) (eb := .i) fun a h => R143 Zfc a.2 112 (by decide) (eU a.1) (badN a.1) (CN a.1) h.2 (vwNs a.1) (rfNs a.1) h.1 fun x _ => Qz6 a.1 x)
theorem Zdn (a : Unit) (l : List Int) : K66 143 [.sl 1 (l.map eI), .fn 112 (eU a)] = (C2Ns (a, l), .i (idxOf (badN a) l)) := (show K66 143 _ = fnG e2Ns d2Ns (C2Ns) (fun a => idxOf (badN a.1) a.2) (.i) (e2Ns (a, l)) from rfl).trans (Qab _ (Qy7 (a, l)))
theorem Zcg (a : Unit) (l : List Int) (h : C2Ns (a, l)) : Qa5 Tryz.prog 113 [.sl 1 (l.map eI), .fn 112 (eU a)] (.b (l.any (badN a))) := by
 refine Qa4 Zfd hmix Tryz.func113 Qnm.b Qnm.c Qnm.s Qnm.n ?_
 have g := Zdn a l
 have q := Qal (badN a) l
 generalize idxOf (badN a) l = r at *
 generalize l.any (badN a) = r2 at *
 try simp only [eU] at g
 simp only [rc113, rs113, eU, g, h, q, Qa0, Qa2, Qa1, flat, ↓reduceIte, Nat.reduceEqDiff, Nat.reduceLT, rvs, zipA, Qa, implies_true, reduceCtorEq, BU1]
noncomputable def K67 : Gam := K66.ext 113 (fnG e2Ns d2Ns (C2Ns) (fun a => a.2.any (badN a.1)) (.b))
theorem Zfe : GOk Tryz.prog K67 := Zfd.ext (f := 113) (fun a w => Tryz.call113 a w) (Qad (e := e2Ns) (d := d2Ns) (ok := C2Ns) (g := fun a => a.2.any (badN a.1)) (eb := .b) fun a h => Zcg a.1 a.2 h)
theorem Zdi (a : Unit) (l : List Int) : K67 113 [.sl 1 (l.map eI), .fn 112 (eU a)] = (C2Ns (a, l), .b (l.any (badN a))) := (show K67 113 _ = fnG e2Ns d2Ns (C2Ns) (fun a => a.2.any (badN a.1)) (.b) (e2Ns (a, l)) from rfl).trans (Qab _ (Qy7 (a, l)))
theorem Qz7 (w : Work) (p : Piece) : K67 105 [.ag (ePiece p), .pa (Qa7 w)] = (CP w p, .b (badP w p)) := h105 w p
theorem R144 (hG : GOk Tryz.prog Γ) (l : List Piece) (f : Nat) (hf : f < 1000000) (caps : List V) (p : Piece → Bool) (C : Piece → Prop) (hC : ∀ x ∈ l, C x) (hv : caps.map (vw [] 8) = caps) (hr : Qa1 caps = false) (hl : l.length < 10000000)
  (h : ∀ x ∈ l, Γ f (V.ag (ePiece x) :: caps) = (C x, .b (p x))) : Qa5 Tryz.prog 144 [.sl 5 (l.map ePiece), .fn f caps] (.i (idxOf p l)) := by
 refine Qa4 hG hmix Tryz.func144 Qvt.b Qvt.c Qvt.s Qvt.n ?_
 simp only [rc144, rs144, Qa0, ↓reduceIte, Nat.reduceEqDiff, Int.reduceNeg, zipA, reduceCtorEq, BU1]
 refine Qap l.length (fun i => ⟨lkp [(0, .sl 5 (l.map ePiece)), (1, .fn f caps), (7, .i l.length), (8, .i i)], []⟩) (fun i => ∀ j x, j < i → l[j]? = some x → p x = false) ?_ ?_ ?_ ?_
 ·simp only [Qg, ↓reduceIte, Nat.reduceEqDiff, reduceCtorEq, BU1]
 ·intro j x h; omega
 ·intro i hi hc
  obtain ⟨x, hx⟩ : ∃ x, l[i]? = some x := ⟨_, Qd hi⟩
  have hlt : (i : Int) < l.length := by omega
  have h3 : inI ((i : Int) + 1) := by unfold inI; omega
  have hp := h x (Qc hx)
  have hCx := hC x (Qc hx)
  try simp only [ePiece] at hp
  simp only [hx, hlt, Qh, Qf, h3, hp, hv, hr, hf, hCx, Qdp, Qa0, Qa2, Qa1, flat, ↓reduceIte, Nat.reduceEqDiff, Nat.reduceAdd, Nat.reduceLeDiff, Int.reduceNeg, rvs, V.i.injEq, Qa, implies_true, reduceCtorEq, Qm, ePiece, BU1]
  refine ⟨fun e => ?_, fun e => ?_⟩
  ·rw [Qas hx e hc]
  ·exact Qc1 hx e hc
 ·intro hc
  simp only [Qa0, ↓reduceIte, Nat.reduceEqDiff, Int.reduceNeg, rvs, Ql, V.i.injEq, Qa, reduceCtorEq, BU1]
  exact (Qaj fun x hx => by
   obtain ⟨j, hj⟩ := Qe hx
   exact hc j x (by have := Qaf hj; exact this) hj).symm
def e2Ps (a : Work × List Piece) : List V := [.sl 5 (a.2.map ePiece), .fn 105 (eWp a.1)]
def d2Ps : List V → Work × List Piece | [.sl _ l, .fn _ c] => (dWp c, l.map Qev) | _ => (dWp [], [])
theorem Qy8 (a : Work × List Piece) : d2Ps (e2Ps a) = a := by obtain ⟨a, l⟩ := a; simp [d2Ps, e2Ps, Zdb, Qf8, Function.comp_def]
def C2Ps (a : Work × List Piece) : Prop := a.2.length < 10000000 ∧ ∀ x ∈ a.2, CP a.1 x
theorem vwPs (a : Work) : ((eWp a) : List V).map (vw [] 8) = (eWp a) := by
 unfold eWp
 simp only [Qv, Qq, Qrn, Qa7]
theorem rfPs (a : Work) : Qa1 ((eWp a) : List V) = false := rfl
noncomputable def K68 : Gam := K67.ext 144 (fnG e2Ps d2Ps (C2Ps) (fun a => idxOf (badP a.1) a.2) (.i))
theorem Zff : GOk Tryz.prog K68 := Zfe.ext (f := 144) (fun a w => Tryz.call144 a w) (Qad (e := e2Ps) (d := d2Ps) (ok := C2Ps) (g := fun a => idxOf (badP a.1) a.2) (eb := .i) fun a h => R144 Zfe a.2 105 (by decide) (eWp a.1) (badP a.1) (CP a.1) h.2 (vwPs a.1) (rfPs a.1) h.1 fun x _ => Qz7 a.1 x)
theorem Zdo (a : Work) (l : List Piece) : K68 144 [.sl 5 (l.map ePiece), .fn 105 (eWp a)] = (C2Ps (a, l), .i (idxOf (badP a) l)) := (show K68 144 _ = fnG e2Ps d2Ps (C2Ps) (fun a => idxOf (badP a.1) a.2) (.i) (e2Ps (a, l)) from rfl).trans (Qab _ (Qy8 (a, l)))
theorem Zch (a : Work) (l : List Piece) (h : C2Ps (a, l)) : Qa5 Tryz.prog 114 [.sl 5 (l.map ePiece), .fn 105 (eWp a)] (.b (l.any (badP a))) := by
 refine Qa4 Zff hmix Tryz.func114 Qv7.b Qv7.c Qv7.s Qv7.n ?_
 have g := Zdo a l
 have q := Qal (badP a) l
 generalize idxOf (badP a) l = r at *
 generalize l.any (badP a) = r2 at *
 try simp only [eWp, Qa7] at g
 simp only [rc114, rs114, eWp, g, h, q, Qa0, Qa2, Qa1, flat, ↓reduceIte, Nat.reduceEqDiff, Nat.reduceLT, rvs, zipA, Qa, implies_true, reduceCtorEq, Qa7, BU1]
noncomputable def K69 : Gam := K68.ext 114 (fnG e2Ps d2Ps (C2Ps) (fun a => a.2.any (badP a.1)) (.b))
theorem Zfg : GOk Tryz.prog K69 := Zff.ext (f := 114) (fun a w => Tryz.call114 a w) (Qad (e := e2Ps) (d := d2Ps) (ok := C2Ps) (g := fun a => a.2.any (badP a.1)) (eb := .b) fun a h => Zch a.1 a.2 h)
theorem Zdj (a : Work) (l : List Piece) : K69 114 [.sl 5 (l.map ePiece), .fn 105 (eWp a)] = (C2Ps (a, l), .b (l.any (badP a))) := (show K69 114 _ = fnG e2Ps d2Ps (C2Ps) (fun a => a.2.any (badP a.1)) (.b) (e2Ps (a, l)) from rfl).trans (Qab _ (Qy8 (a, l)))
theorem Qz8 (a : Unit) (x : Wish) : K69 109 [.ag (eWish x)] = (CX a x, .b (badX a x)) := h109 a x
theorem R145 (hG : GOk Tryz.prog Γ) (l : List Wish) (f : Nat) (hf : f < 1000000) (caps : List V) (p : Wish → Bool) (C : Wish → Prop) (hC : ∀ x ∈ l, C x) (hv : caps.map (vw [] 8) = caps) (hr : Qa1 caps = false) (hl : l.length < 10000000)
  (h : ∀ x ∈ l, Γ f (V.ag (eWish x) :: caps) = (C x, .b (p x))) : Qa5 Tryz.prog 145 [.sl 6 (l.map eWish), .fn f caps] (.i (idxOf p l)) := by
 refine Qa4 hG hmix Tryz.func145 Qvu.b Qvu.c Qvu.s Qvu.n ?_
 simp only [rc145, rs145, Qa0, ↓reduceIte, Nat.reduceEqDiff, Int.reduceNeg, zipA, reduceCtorEq, BU1]
 refine Qap l.length (fun i => ⟨lkp [(0, .sl 6 (l.map eWish)), (1, .fn f caps), (7, .i l.length), (8, .i i)], []⟩) (fun i => ∀ j x, j < i → l[j]? = some x → p x = false) ?_ ?_ ?_ ?_
 ·simp only [Qg, ↓reduceIte, Nat.reduceEqDiff, reduceCtorEq, BU1]
 ·intro j x h; omega
 ·intro i hi hc
  obtain ⟨x, hx⟩ : ∃ x, l[i]? = some x := ⟨_, Qd hi⟩
  have hlt : (i : Int) < l.length := by omega
  have h3 : inI ((i : Int) + 1) := by unfold inI; omega
  have hp := h x (Qc hx)
  have hCx := hC x (Qc hx)
  try simp only [eWish] at hp
  simp only [hx, hlt, Qh, Qf, h3, hp, hv, hr, hf, hCx, Qdp, Qa0, Qa2, Qa1, flat, ↓reduceIte, Nat.reduceEqDiff, Nat.reduceAdd, Nat.reduceLeDiff, Int.reduceNeg, rvs, V.i.injEq, Qa, implies_true, reduceCtorEq, Qm, eWish, BU1]
  refine ⟨fun e => ?_, fun e => ?_⟩
  ·rw [Qas hx e hc]
  ·exact Qc1 hx e hc
 ·intro hc
  simp only [Qa0, ↓reduceIte, Nat.reduceEqDiff, Int.reduceNeg, rvs, Ql, V.i.injEq, Qa, reduceCtorEq, BU1]
  exact (Qaj fun x hx => by
   obtain ⟨j, hj⟩ := Qe hx
   exact hc j x (by have := Qaf hj; exact this) hj).symm
def e2Xs (a : Unit × List Wish) : List V := [.sl 6 (a.2.map eWish), .fn 109 (eU a.1)]
def d2Xs : List V → Unit × List Wish | [.sl _ l, .fn _ c] => (dU c, l.map Qnv) | _ => (dU [], [])
theorem Qya (a : Unit × List Wish) : d2Xs (e2Xs a) = a := by obtain ⟨a, l⟩ := a; simp [d2Xs, e2Xs, dU_e, Qmf, Function.comp_def]
def C2Xs (a : Unit × List Wish) : Prop := a.2.length < 10000000 ∧ ∀ x ∈ a.2, CX a.1 x
theorem vwXs (a : Unit) : ((eU a) : List V).map (vw [] 8) = (eU a) := by
 unfold eU
 simp only [Qq]
theorem rfXs (a : Unit) : Qa1 ((eU a) : List V) = false := rfl
noncomputable def K70 : Gam := K69.ext 145 (fnG e2Xs d2Xs (C2Xs) (fun a => idxOf (badX a.1) a.2) (.i))
theorem Zfh : GOk Tryz.prog K70 := Zfg.ext (f := 145) (fun a w => Tryz.call145 a w) (Qad (e := e2Xs) (d := d2Xs) (ok := C2Xs) (g := fun a => idxOf (badX a.1) a.2) (eb := .i) fun a h => R145 Zfg a.2 109 (by decide) (eU a.1) (badX a.1) (CX a.1) h.2 (vwXs a.1) (rfXs a.1) h.1 fun x _ => Qz8 a.1 x)
theorem Zdp (a : Unit) (l : List Wish) : K70 145 [.sl 6 (l.map eWish), .fn 109 (eU a)] = (C2Xs (a, l), .i (idxOf (badX a) l)) := (show K70 145 _ = fnG e2Xs d2Xs (C2Xs) (fun a => idxOf (badX a.1) a.2) (.i) (e2Xs (a, l)) from rfl).trans (Qab _ (Qya (a, l)))
theorem Zci (a : Unit) (l : List Wish) (h : C2Xs (a, l)) : Qa5 Tryz.prog 115 [.sl 6 (l.map eWish), .fn 109 (eU a)] (.b (l.any (badX a))) := by
 refine Qa4 Zfh hmix Tryz.func115 Qv8.b Qv8.c Qv8.s Qv8.n ?_
 have g := Zdp a l
 have q := Qal (badX a) l
 generalize idxOf (badX a) l = r at *
 generalize l.any (badX a) = r2 at *
 try simp only [eU] at g
 simp only [rc115, rs115, eU, g, h, q, Qa0, Qa2, Qa1, flat, ↓reduceIte, Nat.reduceEqDiff, Nat.reduceLT, rvs, zipA, Qa, implies_true, reduceCtorEq, BU1]
noncomputable def K71 : Gam := K70.ext 115 (fnG e2Xs d2Xs (C2Xs) (fun a => a.2.any (badX a.1)) (.b))
theorem Zfi : GOk Tryz.prog K71 := Zfh.ext (f := 115) (fun a w => Tryz.call115 a w) (Qad (e := e2Xs) (d := d2Xs) (ok := C2Xs) (g := fun a => a.2.any (badX a.1)) (eb := .b) fun a h => Zci a.1 a.2 h)
theorem Zdk (a : Unit) (l : List Wish) : K71 115 [.sl 6 (l.map eWish), .fn 109 (eU a)] = (C2Xs (a, l), .b (l.any (badX a))) := (show K71 115 _ = fnG e2Xs d2Xs (C2Xs) (fun a => a.2.any (badX a.1)) (.b) (e2Xs (a, l)) from rfl).trans (Qab _ (Qya (a, l)))
theorem Qz9 (w : Work) (d : Del) : K71 111 [.ag (eDel d), .pa (Qa7 w)] = (CD w d, .b (badD w d)) := h111 w d
theorem R146 (hG : GOk Tryz.prog Γ) (l : List Del) (f : Nat) (hf : f < 1000000) (caps : List V) (p : Del → Bool) (C : Del → Prop) (hC : ∀ x ∈ l, C x) (hv : caps.map (vw [] 8) = caps) (hr : Qa1 caps = false) (hl : l.length < 10000000)
  (h : ∀ x ∈ l, Γ f (V.ag (eDel x) :: caps) = (C x, .b (p x))) : Qa5 Tryz.prog 146 [.sl 3 (l.map eDel), .fn f caps] (.i (idxOf p l)) := by
 refine Qa4 hG hmix Tryz.func146 Qvv.b Qvv.c Qvv.s Qvv.n ?_
 simp only [rc146, rs146, Qa0, ↓reduceIte, Nat.reduceEqDiff, Int.reduceNeg, zipA, reduceCtorEq, BU1]
 refine Qap l.length (fun i => ⟨lkp [(0, .sl 3 (l.map eDel)), (1, .fn f caps), (7, .i l.length), (8, .i i)], []⟩) (fun i => ∀ j x, j < i → l[j]? = some x → p x = false) ?_ ?_ ?_ ?_
 ·simp only [Qg, ↓reduceIte, Nat.reduceEqDiff, reduceCtorEq, BU1]
 ·intro j x h; omega
 ·intro i hi hc
  obtain ⟨x, hx⟩ : ∃ x, l[i]? = some x := ⟨_, Qd hi⟩
  have hlt : (i : Int) < l.length := by omega
  have h3 : inI ((i : Int) + 1) := by unfold inI; omega
  have hp := h x (Qc hx)
  have hCx := hC x (Qc hx)
  try simp only [eDel] at hp
  simp only [hx, hlt, Qh, Qf, h3, hp, hv, hr, hf, hCx, Qdp, Qa0, Qa2, Qa1, flat, ↓reduceIte, Nat.reduceEqDiff, Nat.reduceAdd, Nat.reduceLeDiff, Int.reduceNeg, rvs, V.i.injEq, Qa, implies_true, reduceCtorEq, Qm, eDel, BU1]
  refine ⟨fun e => ?_, fun e => ?_⟩
  ·rw [Qas hx e hc]
  ·exact Qc1 hx e hc
 ·intro hc
  simp only [Qa0, ↓reduceIte, Nat.reduceEqDiff, Int.reduceNeg, rvs, Ql, V.i.injEq, Qa, reduceCtorEq, BU1]
  exact (Qaj fun x hx => by
   obtain ⟨j, hj⟩ := Qe hx
   exact hc j x (by have := Qaf hj; exact this) hj).symm
def e2Ds (a : Work × List Del) : List V := [.sl 3 (a.2.map eDel), .fn 111 (eWp a.1)]
def d2Ds : List V → Work × List Del | [.sl _ l, .fn _ c] => (dWp c, l.map dDel) | _ => (dWp [], [])
theorem Qy6 (a : Work × List Del) : d2Ds (e2Ds a) = a := by obtain ⟨a, l⟩ := a; simp [d2Ds, e2Ds, Zdb, Qs8, Function.comp_def]
def C2Ds (a : Work × List Del) : Prop := a.2.length < 10000000 ∧ ∀ x ∈ a.2, CD a.1 x
theorem vwDs (a : Work) : ((eWp a) : List V).map (vw [] 8) = (eWp a) := by
 unfold eWp
 simp only [Qv, Qq, Qrn, Qa7]
theorem rfDs (a : Work) : Qa1 ((eWp a) : List V) = false := rfl
noncomputable def K72 : Gam := K71.ext 146 (fnG e2Ds d2Ds (C2Ds) (fun a => idxOf (badD a.1) a.2) (.i))
theorem Zfj : GOk Tryz.prog K72 := Zfi.ext (f := 146) (fun a w => Tryz.call146 a w) (Qad (e := e2Ds) (d := d2Ds) (ok := C2Ds) (g := fun a => idxOf (badD a.1) a.2) (eb := .i) fun a h => R146 Zfi a.2 111 (by decide) (eWp a.1) (badD a.1) (CD a.1) h.2 (vwDs a.1) (rfDs a.1) h.1 fun x _ => Qz9 a.1 x)
theorem Zdq (a : Work) (l : List Del) : K72 146 [.sl 3 (l.map eDel), .fn 111 (eWp a)] = (C2Ds (a, l), .i (idxOf (badD a) l)) := (show K72 146 _ = fnG e2Ds d2Ds (C2Ds) (fun a => idxOf (badD a.1) a.2) (.i) (e2Ds (a, l)) from rfl).trans (Qab _ (Qy6 (a, l)))
theorem Zcj (a : Work) (l : List Del) (h : C2Ds (a, l)) : Qa5 Tryz.prog 116 [.sl 3 (l.map eDel), .fn 111 (eWp a)] (.b (l.any (badD a))) := by
 refine Qa4 Zfj hmix Tryz.func116 Qv9.b Qv9.c Qv9.s Qv9.n ?_
 have g := Zdq a l
 have q := Qal (badD a) l
 generalize idxOf (badD a) l = r at *
 generalize l.any (badD a) = r2 at *
 try simp only [eWp, Qa7] at g
 simp only [rc116, rs116, eWp, g, h, q, Qa0, Qa2, Qa1, flat, ↓reduceIte, Nat.reduceEqDiff, Nat.reduceLT, rvs, zipA, Qa, implies_true, reduceCtorEq, Qa7, BU1]
noncomputable def K73 : Gam := K72.ext 116 (fnG e2Ds d2Ds (C2Ds) (fun a => a.2.any (badD a.1)) (.b))
theorem Zfk : GOk Tryz.prog K73 := Zfj.ext (f := 116) (fun a w => Tryz.call116 a w) (Qad (e := e2Ds) (d := d2Ds) (ok := C2Ds) (g := fun a => a.2.any (badD a.1)) (eb := .b) fun a h => Zcj a.1 a.2 h)
theorem Zdl (a : Work) (l : List Del) : K73 116 [.sl 3 (l.map eDel), .fn 111 (eWp a)] = (C2Ds (a, l), .b (l.any (badD a))) := (show K73 116 _ = fnG e2Ds d2Ds (C2Ds) (fun a => a.2.any (badD a.1)) (.b) (e2Ds (a, l)) from rfl).trans (Qab _ (Qy6 (a, l)))
end Go.CS
set_option linter.all false
namespace Go.CS
open Go.Fam Go.Proofs
open Go.C06 (Span eI eIs Qbx gI gR dI Qbl Qcj fnG Qad Qab Qa6 Qa8 idxOf Qas Qaj Qal Qar Qai Qag Qac Qat Qb3 Qc5 vw_I Qay hmix eLI dLI Qca Qan Qa3 Qaa Qau)
variable {Γ : Gam}
theorem Qzb (a : Unit) (l : List Int) : K73 113 [.sl 1 (l.map eI), .fn 112 (eU a)] = (C2Ns (a, l), .b (l.any (badN a))) := Zdi a l
theorem Qzc (a : Work) (l : List Piece) : K73 114 [.sl 5 (l.map ePiece), .fn 105 (eWp a)] = (C2Ps (a, l), .b (l.any (badP a))) := Zdj a l
theorem Qzd (a : Unit) (l : List Wish) : K73 115 [.sl 6 (l.map eWish), .fn 109 (eU a)] = (C2Xs (a, l), .b (l.any (badX a))) := Zdk a l
theorem Qza (n : Int) : K73 110 [.i n] = (True, .b (Qa6 n 0 99)) := h110 n
theorem Qma {α : Type} {l : List α} {p q : α → Bool} (h : ∀ x, q x = !p x) : l.any q = !l.all p := by
 have : q = fun x => !p x := funext h
 rw [this, List.not_all_eq_any_not]
set_option maxHeartbeats 2000000 in
theorem W79 (s : Shop) (hs : SmallS s) : Qa5 Tryz.prog 79 [.ag (Qae s)] (.b (Qe7 s)) := by
 refine Qa4 Zfk hmix Tryz.func79 cf79.b cf79.c cf79.s cf79.n ?_
 have hR : Qe7 s = (decide (s.stock.length = s.work.spares.length) && decide ((s.pieces.length : Int) ≤ 8) && decide ((s.wishes.length : Int) ≤ 6) && decide ((s.dels.length : Int) ≤ 8) && Qa6 s.carve 0 99 && (s.stock.all fun n => Qa6 n 0 10) && s.pieces.all (Qci s) && s.wishes.all okWish && s.dels.all (Qg0 s)) := rfl
 have g1 := Qzb () s.stock
 have g2 := Qzc s.work s.pieces
 have g3 := Qzd () s.wishes
 have g4 := Zdl s.work s.dels
 have q1 : s.stock.any (badN ()) = !(s.stock.all fun n => Qa6 n 0 10) := Qma fun _ => rfl
 have q2 : s.pieces.any (badP s.work) = !s.pieces.all (Qci s) := Qma fun _ => rfl
 have q3 : s.wishes.any (badX ()) = !s.wishes.all okWish := Qma fun _ => rfl
 have q4 : s.dels.any (badD s.work) = !s.dels.all (Qg0 s) := Qma fun _ => rfl
 rw [q1] at g1; rw [q2] at g2; rw [q3] at g3; rw [q4] at g4
 simp only [eU, eWp, Qa7] at g1 g2 g3 g4
 have hw := hs.work
 generalize Qe7 s = res at *
 by_cases a1 : s.stock.length = s.work.spares.length
 rotate_left
 ·have n1 : ¬ (s.stock.length : Int) = s.work.spares.length := by omega
  simp only [rc79, rs79, n1, Qa0, Qbh, Qah, Qa2, Qa1, ↓reduceIte, Nat.reduceEqDiff, Nat.reduceAdd, Nat.reduceLT, Nat.reduceLeDiff, rvs, Qdj, zipA, beq_self_eq_true, V.b.injEq, Qi, Qa, forall_const, implies_true, imp_self, Qae, BU1]; simp [hR, a1]
 have b1 : (s.stock.length : Int) = s.work.spares.length := by omega
 have c1 : C2Ns ((), s.stock) := ⟨by have := hw.spares; show s.stock.length < 10000000; omega, fun _ _ => trivial⟩
 cases d1 : (s.stock.all fun n => Qa6 n 0 10) with
 | false => rw [d1] at g1; simp only [rc79, rs79, b1, g1, c1, Qa0, Qbh, Qah, Qa2, Qa1, flat, ↓reduceIte, Nat.reduceEqDiff, Nat.reduceAdd, Nat.reduceLT, Nat.reduceLeDiff, rvs, Qdj, zipA, beq_self_eq_true, V.b.injEq, Qi, Qa, Qb, forall_const, implies_true, imp_self, Qae, BU1]; simp [hR, d1]
 | true =>
 rw [d1] at g1
 by_cases a2 : (s.pieces.length : Int) ≤ 8
 rotate_left
 ·simp only [rc79, rs79, b1, g1, c1, a2, Qa0, Qbh, Qah, Qa2, Qa1, flat, ↓reduceIte, Nat.reduceEqDiff, Nat.reduceAdd, Nat.reduceLT, Nat.reduceLeDiff, rvs, Qdj, zipA, beq_self_eq_true, V.b.injEq, Qi, Qa, Qb, forall_const, implies_true, imp_self, Qae, BU1]; simp [hR, a2]
 have c2 : C2Ps (s.work, s.pieces) := ⟨by show s.pieces.length < 10000000; omega, fun p hp => ⟨hw, hs.broken p hp⟩⟩
 cases d2 : s.pieces.all (Qci s) with
 | false => rw [d2] at g2; simp only [rc79, rs79, b1, g1, c1, a2, g2, c2, Qa0, Qbh, Qah, Qa2, Qa1, flat, ↓reduceIte, Nat.reduceEqDiff, Nat.reduceAdd, Nat.reduceLT, Nat.reduceLeDiff, rvs, Qdj, zipA, beq_self_eq_true, V.b.injEq, Qi, Qa, Qb, forall_const, implies_true, imp_self, Qae, BU1]; simp [hR, d2]
 | true =>
 rw [d2] at g2
 by_cases a3 : (s.wishes.length : Int) ≤ 6
 rotate_left
 ·simp only [rc79, rs79, b1, g1, c1, a2, g2, c2, a3, Qa0, Qbh, Qah, Qa2, Qa1, flat, ↓reduceIte, Nat.reduceEqDiff, Nat.reduceAdd, Nat.reduceLT, Nat.reduceLeDiff, rvs, Qdj, zipA, beq_self_eq_true, V.b.injEq, Qi, Qa, Qb, forall_const, implies_true, imp_self, Qae, BU1]; simp [hR, a3]
 have c3 : C2Xs ((), s.wishes) := ⟨by show s.wishes.length < 10000000; omega, fun _ _ => trivial⟩
 cases d3 : s.wishes.all okWish with
 | false => rw [d3] at g3; simp only [rc79, rs79, b1, g1, c1, a2, g2, c2, a3, g3, c3, Qa0, Qbh, Qah, Qa2, Qa1, flat, ↓reduceIte, Nat.reduceEqDiff, Nat.reduceAdd, Nat.reduceLT, Nat.reduceLeDiff, rvs, Qdj, zipA, beq_self_eq_true, V.b.injEq, Qi, Qa, Qb, forall_const, implies_true, imp_self, Qae, BU1]; simp [hR, d3]
 | true =>
 rw [d3] at g3
 by_cases a4 : (s.dels.length : Int) ≤ 8
 rotate_left
 ·simp only [rc79, rs79, b1, g1, c1, a2, g2, c2, a3, g3, c3, a4, Qa0, Qbh, Qah, Qa2, Qa1, flat, ↓reduceIte, Nat.reduceEqDiff, Nat.reduceAdd, Nat.reduceLT, Nat.reduceLeDiff, rvs, Qdj, zipA, beq_self_eq_true, V.b.injEq, Qi, Qa, Qb, forall_const, implies_true, imp_self, Qae, BU1]; simp [hR, a4]
 have c4 : C2Ds (s.work, s.dels) := ⟨by show s.dels.length < 10000000; omega, fun d hd => hw.spares⟩
 cases d4 : s.dels.all (Qg0 s) with
 | false => rw [d4] at g4; simp only [rc79, rs79, b1, g1, c1, a2, g2, c2, a3, g3, c3, a4, g4, c4, Qa0, Qbh, Qah, Qa2, Qa1, flat, ↓reduceIte, Nat.reduceEqDiff, Nat.reduceAdd, Nat.reduceLT, Nat.reduceLeDiff, rvs, Qdj, zipA, beq_self_eq_true, V.b.injEq, Qi, Qa, Qb, forall_const, implies_true, imp_self, Qae, BU1]; simp [hR, d4]
 | true =>
 rw [d4] at g4
 simp only [rc79, rs79, b1, g1, c1, a2, g2, c2, a3, g3, c3, a4, g4, c4, Qza, Qa0, Qah, Qa2, Qa1, flat, ↓reduceIte, Nat.reduceEqDiff, Nat.reduceAdd, Nat.reduceLT, Nat.reduceLeDiff, rvs, Qdj, zipA, beq_self_eq_true, V.b.injEq, Qi, Qa, Qb, forall_const, implies_true, Qae, BU1]
 simp [hR, d1, d2, d3, d4, a1, a2, a3, a4]
noncomputable def K74 : Gam := K73.ext 79 (fnG eH1 dH1 SmallS Qe7 .b)
theorem Zfl : GOk Tryz.prog K74 := Zfk.ext (f := 79) (fun a w => Tryz.call79 a w) (Qad (e := eH1) (d := dH1) (ok := SmallS) (g := Qe7) (eb := .b) fun a h => W79 a h)
theorem h79 (s : Shop) : K74 79 [.ag (Qae s)] = (SmallS s, .b (Qe7 s)) := (show K74 79 _ = fnG eH1 dH1 SmallS Qe7 .b (eH1 s) from rfl).trans (Qab _ (Qnt s))
theorem Zbr (w : Work) : K74 78 [.ag (Qa7 w)] = (SmallW w, .i (Qcc w)) := h78 w
theorem W58 (s : Shop) (hs : SmallS s) : Qa5 Tryz.prog 58 [.ag (Qae s)] (.i (Qd0 s)) := by
 refine Qa4 Zfl hmix Tryz.func58 cf58.b cf58.c cf58.s cf58.n ?_
 have g1 := Zbr s.work
 have g2 := h79 s
 simp only [Qa7, Qae] at g1 g2
 have hw := hs.work
 unfold Qd0
 by_cases h0 : Qcc s.work = 0
 ·cases h1 : Qe7 s with
  | false => simp only [rc58, rs58, g1, g2, hs, hw, h0, h1, Qa0, Qa2, Qa1, flat, ↓reduceIte, Nat.reduceEqDiff, Nat.reduceAdd, Nat.reduceLT, Nat.reduceLeDiff, rvs, zipA, Qa, implies_true, not_true_eq_false, ne_eq, Qae, BU1]
  | true => simp only [rc58, rs58, g1, g2, hs, hw, h0, h1, Qa0, Qa2, Qa1, flat, ↓reduceIte, Nat.reduceEqDiff, Nat.reduceAdd, Nat.reduceLT, Nat.reduceLeDiff, rvs, zipA, Qa, implies_true, not_true_eq_false, ne_eq, Qae, BU1]
 ·simp only [rc58, rs58, g1, hw, h0, Qa0, Qa2, Qa1, flat, ↓reduceIte, Nat.reduceEqDiff, Nat.reduceAdd, Nat.reduceLT, Nat.reduceLeDiff, rvs, zipA, Qa, implies_true, not_false_eq_true, ne_eq, Qae, BU1]
end Go.CS
