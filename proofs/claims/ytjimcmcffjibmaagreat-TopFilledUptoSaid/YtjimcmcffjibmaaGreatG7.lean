import Derived.Test.YtjimcmcffjibmaaGreatG6
import Derived.Test.YtjimcmcffjibmaaGreatG5
import Derived.Test.YtjimcmcffjibmaaGreatG4
import Derived.Test.YtjimcmcffjibmaaGreatG3
set_option linter.all false
set_option maxHeartbeats 4000000
open List renaming replicate → Qa, mem_of_getElem? → Qb, getElem?_eq_getElem → Qd, length_append → Qh, mem_append → Qi, getD_eq_getElem?_getD → Qj, map_append → Qk, flatten_append → Ql, range → Qn, flatten_nil → Qo, getElem?_cons_zero → Qp, contains_cons → Qr, map_nil → Qs, append_assoc → Qt, take_of_length_le → Qu, contains_nil → Qv, map_cons → Qw, flatten_cons → Qx, length_replicate → Q0, range_zero → Q2, getElem?_cons_succ → Q3, replicate_succ → Q5, flatMap_nil → Q6, getElem?_set_ne → Q7, nil_append → Q8, countP_eq_length_filter → Q9, take_length → Za, mem_range → Zb, length_map → Zc, getElem?_of_mem → Zd, set_cons_zero → Zg, mem_singleton → Zh, range_succ → Zi, append_nil → Zj, nodup_nil → Zk, length_take → Zl, countP_cons → Zq, length_cons → Zr, drop_append_of_le_length → Zs, getElem?_range → Zu, map_map → Zv, count_pos_iff → Zw, length_range → Zz, nodup_append → Z0, all_cons → Z1, idxOf_lt_length_iff → Z3, eq_of_mem_replicate → Z4, cons_append → Z5, mem_flatMap → Z6, drop_eq_nil_of_le → Z7, all_nil → Z8, getElem?_set_self → Z9, countP_nil → Xb, count_cons → Xc, nodup_cons → Xd, length_filter_le → Xe, countP_mono_left → Xf, length_singleton → Xg, drop_zero → Xi, idxOf_eq_length → Xj, mem_of_mem_take → Xk, replicate_zero → Xm, mem_cons → Xo, map_id'' → Xp, countP_append → Xq, any_eq_false → Xr, getElem?_map → Xs, getElem?_nil → Xu, isEmpty_cons → Xv, mem_map → Xw, flatMap_cons → Xx, isEmpty_nil → X0, all_eq_true → X1, getElem_mem → X2, length_nil → Ja, filter_nil → Jc, cons → Je
open Nat renaming le_refl → Qm, mul_one → Ze, le_trans → Zn, zero_add → Zo, add_mul → Zx, zero_le → Zy, zero_mul → Xt, min_le_left → X4
open Bool renaming false_eq_true → Qc, and_eq_true → Qq, true_eq_false → Qy, and_self → Zf, or_false → Z2, false_and → Xh, and_true → Xn, not_eq_true → X3, not_false → Jd
open Option renaming getD_some → Q4, map_some → Xa, some → Xl, getD_none → Xz, map_none → Jb
open Int renaming natCast_one → Qe, natCast_add → Qf, natCast_zero → Qg, toNat_natCast → Qz, lt_irrefl → Q1, natCast_nonneg → Zm, toNat_zero → Zp, le_refl → Zt, zero_add → Xy
noncomputable section
namespace Go.CS
open Go.Fam Go.Proofs
open Go.Proofs.Tryz
open Go.Proofs.Tryz renaming prog → TP
open Go.C06 (fnG Qap Span eI eSpan gI gR dI Qas Qa7 Qa3 Qa4 idxOf Qai Qaa Qab Qag Qa9 Qa6 Qa5 Qad Qam Qaz vw_I Qak hmix eLI dLI Qb1 Qac Qa0 Qa2 Qae)
variable {Γ : Gam}
set_option maxRecDepth 100000
def K52 := K51.ext 75 (fnG eW1 dW1 (SmallW) (Qco) (.i))
def Zjx : GOk TP K52 := Qz2.ext call75 (Qa7 fun a h => W78 a h)
def h78 (w : Work) : K52 75 [.ag (Qaj w)] = (SmallW w, .i (Qco w)) := (kx K52 75 (Ql7 w) rfl :)
def Zcp (w : Work) (i n m k : Int)  := lft K52 (h118 w i n m k) rfl
abbrev TSo := Int × Work × Int
def eSo (a : TSo) : List V := [.pa [.i a.1], .pa (Qaj a.2.1), .pa [.i a.2.2]]
def dSo : List V → TSo | [.pa [.i i], .pa w, .pa [.i n]] => (i, Qc0 w, n) | _ => (0, Qc0 [], 0)
def Qy6 (a : TSo) : dSo (eSo a) = a := by obtain ⟨i, w, n⟩ := a; simp [dSo, eSo, Qc3]
def pSo (a : TSo) (t : Trial) : Bool := soB a.2.1 a.1 a.2.2 t
def CSo (a : TSo) (t : Trial) : Prop := OkF a.2.1 a.1 t.make t.slot
def eTSo (a : TSo × Trial) : List V := .ag (eTrial a.2) :: eSo a.1
def dTSo : List V → TSo × Trial | .ag t :: c => (dSo c, Qe2 t) | _ => (dSo [], Qe2 [])
def Zhq (a : TSo × Trial) : dTSo (eTSo a) = a := by obtain ⟨a, x⟩ := a; simp [dTSo, eTSo, Qy6, Qdl]
def W117 (a : TSo) (t : Trial) (h : CSo a t) : Qa1 TP 86 (.ag (eTrial t) :: eSo a) (.b (pSo a t)) := by
 obtain ⟨i, w, n⟩ := a
 refine pc Zjx func86 cf86 ?_
 have g := Zcp w i n t.make t.slot
 simp only [Qaj] at g
 have h' : OkF w i t.make t.slot := h
 unfold pSo soB
 by_cases e1 : t.spare = i
 ·cases e3 : Qcn w i n t.make t.slot <;> by_cases e2 : t.fits = 1 <;> (simp only [rc86, rs86, eSo, e1, g, h', e2, e3, Bool.false_xor, BL, simprocAttr] <;> try simp)
 ·simp only [rc86, rs86, eSo, e1, BL, simprocAttr]
  try simp [e1]
def K53 := K52.ext 86 (fnG eTSo dTSo (fun a => CSo a.1 a.2) (fun a => pSo a.1 a.2) (.b))
def Zjy : GOk TP K53 := Zjx.ext call86 (Qa7 fun a h => W117 a.1 a.2 h)
def h117 (a : TSo) (x : Trial) : K53 86 (.ag (eTrial x) :: eSo a) = (CSo a x, .b (pSo a x)) := (kx K53 86 (Zhq (a, x)) rfl :)
def Q158 (hG : GOk TP Γ) (l : List Trial) (f : Nat) (hf : f < 1000000) (caps : List V) (p : Trial → Bool) (C : Trial → Prop) (hC : ∀ x ∈ l, C x) (hv : caps.map (vw [] 8) = caps) (hr : Qa8 caps = false) (hl : l.length < 10000000)
  (h : ∀ x ∈ l, Γ f (V.ag (eTrial x) :: caps) = (C x, .b (p x))) : Qa1 TP 148 [.sl 4 (l.map eTrial), .fn f caps] (.i (idxOf p l)) := by
 refine pc hG func148 Zgu ?_
 simp only [rc148, rs148, BU2, simprocAttr]
 refine Qao l.length (fun i => ⟨lkp [(0, .sl 4 (l.map eTrial)), (1, .fn f caps), (7, .i l.length), (8, .i i)], []⟩) (fun i => ∀ j x, j < i → l[j]? = some x → p x = false) ?_ ?_ ?_ ?_
 ·simp only [Qg, BU2, simprocAttr]
 ·intro j x h; omega
 ·intro i hi hc
  obtain ⟨x, hx⟩ : ∃ x, l[i]? = some x := ⟨_, Qd hi⟩
  have jA : (i : Int) < l.length := by omega
  have h3 : inI ((i : Int) + 1) := by unfold inI; omega
  have hp := h x (Qb hx)
  have hCx := hC x (Qb hx)
  try simp only [eTrial] at hp
  simp only [hx, jA, Qf, Qe, h3, hp, hv, hr, hf, hCx, BL, simprocAttr]
  refine ⟨fun e => ?_, fun e => ?_⟩
  ·rw [Qai hx e hc]
  ·exact Qbd hx e hc
 ·intro hc
  simp only [BU2, simprocAttr]
  exact (Qaa fun x hx => by
   obtain ⟨j, hj⟩ := Zd hx
   exact hc j x (by have := Qah hj; exact this) hj).symm
def e1So (a : TSo × Trial) : List V := [.ag (eTrial a.2), .pa [.fn 86 (eSo a.1)]]
def d1So : List V → TSo × Trial | [.ag s, .pa [.fn _ c]] => (dSo c, Qe2 s) | _ => (dSo [], Qe2 [])
def Zh5 (a : TSo × Trial) : d1So (e1So a) = a := by obtain ⟨a, x⟩ := a; simp [d1So, e1So, Qy6, Qdl]
def Zgp (a : TSo) (x : Trial) (h : CSo a x) : Qa1 TP 125 [.ag (eTrial x), .pa [.fn 86 (eSo a)]] (.b (!pSo a x)) := by
 refine pc Zjy func125 Zgt ?_
 have g := h117 a x
 try simp only [eSo, eTrial, Qaj] at g
 simp only [rc125, rs125, eSo, g, h, BL, simprocAttr]
def K54 := K53.ext 125 (fnG e1So d1So (fun a => CSo a.1 a.2) (fun a => !pSo a.1 a.2) (.b))
def Zjz : GOk TP K54 := Zjy.ext call125 (Qa7 fun a h => Zgp a.1 a.2 h)
def Zio (a : TSo) (x : Trial) : K54 125 [.ag (eTrial x), .pa [.fn 86 (eSo a)]] = (CSo a x, .b (!pSo a x)) := (kx K54 125 (Zh5 (a, x)) rfl :)
def e2So (a : TSo × List Trial) : List V := [.sl 4 (a.2.map eTrial), .fn 125 [V.pa [.fn 86 (eSo a.1)]]]
def d2So : List V → TSo × List Trial | [.sl _ l, .fn _ [.pa [.fn _ c]]] => (dSo c, l.map Qe2) | _ => (dSo [], [])
def Za3 (a : TSo × List Trial) : d2So (e2So a) = a := by obtain ⟨a, l⟩ := a; simp [d2So, e2So, Qy6, Qdl, Function.comp_def]
def C2So (a : TSo × List Trial) : Prop := a.2.length < 10000000 ∧ ∀ x ∈ a.2, CSo a.1 x
def vwSo (a : TSo) : ([V.pa [.fn 86 (eSo a)]] : List V).map (vw [] 8) = [V.pa [.fn 86 (eSo a)]] := by
 unfold eSo
 simp only [Qw, Qs, Quj, Qaj]
def rfSo (a : TSo) : Qa8 ([V.pa [.fn 86 (eSo a)]] : List V) = false := rfl
def K55 := K54.ext 148 (fnG e2So d2So (C2So) (fun a => idxOf (fun x => !pSo a.1 x) a.2) (.i))
def Zk0 : GOk TP K55 := Zjz.ext call148 (Qa7 fun a h => Q158 Zjz a.2 125 (by decide) [V.pa [.fn 86 (eSo a.1)]] (fun x => !pSo a.1 x) (CSo a.1) h.2 (vwSo a.1) (rfSo a.1) h.1 fun x _ => Zio a.1 x)
def Zip (a : TSo) (l : List Trial) : K55 148 [.sl 4 (l.map eTrial), .fn 125 [V.pa [.fn 86 (eSo a)]]] = (C2So (a, l), .i (idxOf (fun x => !pSo a x) l)) := (kx K55 148 (Za3 (a, l)) rfl :)
def Zgo (a : TSo) (l : List Trial) (h : C2So (a, l)) : Qa1 TP 124 [.sl 4 (l.map eTrial), .fn 125 [V.pa [.fn 86 (eSo a)]]] (.b (l.any (fun x => !pSo a x))) := by
 refine pc Zk0 func124 Zgs ?_
 have g := Zip a l
 have q := Qab (fun x => !pSo a x) l
 generalize idxOf (fun x => !pSo a x) l = r at *
 generalize l.any (fun x => !pSo a x) = r2 at *
 try simp only [eSo, Qaj] at g
 simp only [rc124, rs124, eSo, g, h, q, BL, simprocAttr]
def K56 := K55.ext 124 (fnG e2So d2So (C2So) (fun a => a.2.any (fun x => !pSo a.1 x)) (.b))
def Zk1 : GOk TP K56 := Zk0.ext call124 (Qa7 fun a h => Zgo a.1 a.2 h)
def Zin (a : TSo) (l : List Trial) : K56 124 [.sl 4 (l.map eTrial), .fn 125 [V.pa [.fn 86 (eSo a)]]] = (C2So (a, l), .b (l.any (fun x => !pSo a x))) := (kx K56 124 (Za3 (a, l)) rfl :)
def e3So (a : TSo × List Trial) : List V := [.sl 4 (a.2.map eTrial), .fn 86 (eSo a.1)]
def d3So : List V → TSo × List Trial | [.sl _ l, .fn _ c] => (dSo c, l.map Qe2) | _ => (dSo [], [])
def Zhd (a : TSo × List Trial) : d3So (e3So a) = a := by obtain ⟨a, l⟩ := a; simp [d3So, e3So, Qy6, Qdl, Function.comp_def]
def Zgn (a : TSo) (l : List Trial) (h : C2So (a, l)) : Qa1 TP 88 [.sl 4 (l.map eTrial), .fn 86 (eSo a)] (.b (l.all (pSo a))) := by
 refine pc Zk1 func88 cf88 ?_
 have e : (!(l.any (fun x => !pSo a x))) = l.all (pSo a) := by rw [List.not_any_eq_all_not]; simp
 have g := Zin a l
 generalize l.any (fun x => !pSo a x) = r at *
 try simp only [eSo, Qaj] at g
 simp only [rc88, rs88, eSo, g, h, e, BL, simprocAttr]
def K57 := K56.ext 88 (fnG e3So d3So (C2So) (fun a => a.2.all (pSo a.1)) (.b))
def Zk2 : GOk TP K57 := Zk1.ext call88 (Qa7 fun a h => Zgn a.1 a.2 h)
def Zif (a : TSo) (l : List Trial) : K57 88 [.sl 4 (l.map eTrial), .fn 86 (eSo a)] = (C2So (a, l), .b (l.all (pSo a))) := (kx K57 88 (Zhd (a, l)) rfl :)
def Zfs (w : Work) : K57 75 [.ag (Qaj w)] = (SmallW w, .i (Qco w)) := (show K57 75 _ = fnG eW1 dW1 SmallW Qco .i (eW1 w) from rfl).trans (Qap _ (Ql7 w))
def eLens (l : List Int) : List V := [.sl 1 (l.map eI)]
def Qdc (w : Work) (k : Nat) : List (List Int) := (Qn k).map fun (i : Nat) => Qcx w (i : Int)
def Qu1 (w : Work) (k : Nat) : Qdc w (k + 1) = Qdc w k ++ [Qcx w (k : Int)] := by simp [Qdc, Zi]
def Qie (w : Work) (k : Nat) : (Qdc w k).length = k := by simp [Qdc]
def Qbs (w : Work) : List V := [.sl 4 (w.spares.map eSpare), .sl 1 (w.makes.map eMake), .i w.cut, .sl 4 (w.table.map eTrial), .sl 1 ((Qdc w w.spares.length).map eLens)]
def Qgg (w : Work) (is : Bool) : V := if Qb5 w is = 0 then .tp [.pa (Qbs w), .i 0] else .tp [.pn, .i (Qb5 w is)]
def Qsh (l : List (List Int)) : ((l.map eLens).flatten).length = l.length * 1 := Qag (e := eLens) (k := 1) (fun _ => rfl) l
def Qcs (l : List (List Int)) : Qa8 ((l.map eLens).flatten) = false := Qa5 (e := eLens) (fun _ => rfl) l
def Qrr (l : List (List Int)) : Qbi 1 ((l.map eLens).flatten) 0 l.length = l.map eLens := Qa9 (e := eLens) (k := 1) (fun _ => rfl) l
def Qzo (hp : List Blk) (n : Nat) (l : List (List Int)) : (l.map eLens).map (fun r => r.map (vw hp (n + 1))) = l.map eLens := Qa6 (e := eLens) hp (n + 1) (fun _ => rfl) l
def Zd9 {w : Work} {i n : Int} (h : (Qbn w i).len.low ≤ n ∧ n ≤ (Qbn w i).len.high) : w.table.all (pSo (i, w, n)) = canB w i n := by
 unfold canB
 rw [Qal.2 h, Xn]; rfl
def W80 (w : Work) (is : Bool) (hw : SmallW w) : Qa1 TP 57 [.ag (Qaj w), .b is] (Qgg w is) := by
 refine pc Zk2 func57 cf57 ?_
 have g := Zfs w
 unfold Qaj at g
 by_cases h0 : Qco w = 0
 rotate_left
 ·simp only [rc57, rs57, g, hw, h0, BL, simprocAttr]; simp [Qgg, Qb5, h0]
 cases is with
 | false => simp only [rc57, rs57, g, hw, h0, BL, simprocAttr]; simp [Qgg, Qb5, h0]
 | true =>
 have hO := Qnm (Qjw h0)
 have hn := hO.nsp
 have hT := hO.ntb
 have hE : Qb5 w true = if Qcu w = true then 3 else 0 := by simp [Qb5, h0]
 simp only [rc57, rs57, g, hw, h0, BL, simprocAttr]
 refine Qao w.spares.length (fun i => ⟨lkp [(2, .pa (Qaj w)), (7, .ad 0 0 0), (24, .sl 4 (w.spares.map eSpare)), (25, .i w.spares.length), (26, .i i)],
   [.cells 0 [.sl 4 (w.spares.map eSpare), .sl 1 (w.makes.map eMake), .i w.cut, .sl 4 (w.table.map eTrial), .rf 1 i 0 i 1], .cells i ((Qdc w i).map eLens).flatten]⟩) (fun k => ∀ j : Nat, j < k → (Qcx w (j : Int)).isEmpty = false) ?_ ?_ ?_ ?_
 ·simp only [Qg, Qdc, Q2, Qo, BL, simprocAttr]
 ·intro j h; omega
 ·intro i hi hc
  have jA : (i : Int) < w.spares.length := by omega
  have i1 : inI ((i : Int) + 1) := by unfold inI; omega
  have hI : OkI w i := ⟨hO, by omega⟩
  have o7 := Qf2 hI.sp
  have hs : w.spares[i]? = some (Qbn w i) := by simpa using o7
  have hS := Qfe (hO.spare _ (Qb hs))
  have hN : Qcx w i = Qjn w i ((Qbn w i).len.high + 1 - (Qbn w i).len.low).toNat := rfl
  have g2 := fun n => Zif (i, w, n) w.table
  have hC : ∀ n, C2So ((i, w, n), w.table) := fun n => ⟨by show w.table.length < 10000000; omega, fun t ht => hI.fits ht⟩
  simp only [eSo, Qaj] at g2
  have rK := fun n => Zd9 (w := w) (i := i) (n := n)
  have jS := Qps w i
  have kN := Qod w i
  have e0 : Qjn w i 0 = [] := rfl
  have vJ := Qu1 w i
  obtain ⟨res, vZ⟩ : ∃ res, Qcx w (i : Int) = res := ⟨_, rfl⟩
  rw [vZ] at hN vJ
  generalize Qjn w i = L at *
  generalize Qbn w i = s at *
  simp only [jA, hs, BL, simprocAttr]
  refine Qaq (s.len.high + 1 - s.len.low).toNat (fun k => ⟨lkp [(2, .pa (Qaj w)), (7, .ad 0 0 0), (8, .ad 2 0 0), (9, .ad 3 0 0), (10, .rf 5 (L k).length 0 (L k).length 1), (11, .ad 4 0 0), (24, .sl 4 (w.spares.map eSpare)), (25, .i w.spares.length), (26, .i i)],
    [.cells 0 [.sl 4 (w.spares.map eSpare), .sl 1 (w.makes.map eMake), .i w.cut, .sl 4 (w.table.map eTrial), .rf 1 i 0 i 1], .cells i ((Qdc w i).map eLens).flatten, .cells 0 [.i i], .cells 0 (eSpare s), .cells 0 [.i (s.len.low + (k : Int))], .cells (L k).length ((L k).map eI).flatten]⟩) ?_ ?_ ?_
  ·simp only [Qg, e0, Qo, Int.add_zero, Qa0 _ _ _ (Qcs _), BL, simprocAttr]
  ·intro k hk
   have qJ : s.len.low + (k : Int) ≤ s.len.high := by omega
   have h3 : inI (s.len.low + (k : Int) + 1) ∧ inI (s.len.low + ((k : Int) + 1)) := by unfold inI; omega
   have qI := kN k
   have yA : Qaf ((L k).length + 1) := by unfold Qaf; omega
   have z7 := jS k
   have vT := rK (s.len.low + (k : Int)) ⟨by omega, qJ⟩
   cases ha : canB w i (s.len.low + (k : Int)) with
   | false =>
    rw [ha] at z7 vT
    simp only [Qc, if_false] at z7
    simp only [qJ, g2, hC, vT, z7, h3, Qa0 _ _ _ (Qak _), Qa0 _ _ _ (Qcs _), Qcz _ _ (Qak _), Qcz _ _ (Qcs _), Qf, Qe, Int.add_assoc, ↓BU3, BL, simprocAttr]
   | true =>
    rw [ha] at z7 vT
    simp only [if_true] at z7
    have dX : Qa8 (((L k).map eI).flatten ++ [V.i (s.len.low + (k : Int))]) = false := by rw [Qa2, Qak]; rfl
    simp only [qJ, g2, hC, vT, z7, h3, Qaz, Ze, yA, Qh, Qk, Ql, Qx, Qo, Qa0 _ _ _ (Qcs _), Qa0 _ _ _ dX, Qcz _ _ dX, Qcz _ _ (Qcs _), Qf, Qe, Int.add_assoc, ↓BU3, BL, simprocAttr]
  ·have qJ : ¬ (s.len.low + (((s.len.high + 1 - s.len.low).toNat : Nat) : Int) ≤ s.len.high) := by omega
   have uM := Qie w i
   have f5 : Qaf (i + 1) := by unfold Qaf; omega
   have h78 := Qam res
   have y6 : Qa8 (((Qdc w i).map eLens).flatten ++ [V.sl 1 (res.map eI)]) = false := by rw [Qa2, Qcs]; rfl
   simp only [qJ, ← hN, ↓BU3, BL, simprocAttr]
   refine ⟨fun e => ?_, fun e => ?_⟩
   ·have he : res = [] := by simpa using e
    have hb : Qcu w = true := List.any_eq_true.2 ⟨i, Zb.2 hi, by rw [vZ, he]; rfl⟩
    rw [hb] at hE
    simp [Qgg, hE]
   ·simp only [hpF, upB, Qae _ _ (Qak _), Qaz, Ze, Qm, h78, vw_I, Qsh, uM, f5, i1, vJ, Qk, Ql, Qx, Qo, eLens, Qf, Qe, Qa0 _ _ _ y6, Qa0 _ _ _ (Qcs _), BU2, simprocAttr]
    intro j hj
    by_cases xU : j < i
    ·exact hc j xU
    ·have : j = i := by omega
     subst this
     rw [vZ]
     cases res with
     | nil => exact absurd rfl e
     | cons a l => rfl
 ·intro hc
  have jA : ¬ ((w.spares.length : Int) < w.spares.length) := by omega
  have hb : Qcu w = false := by
   unfold Qcu
   rw [Xr]
   intro i hi
   rw [hc i (Zb.1 hi)]; simp
  rw [hb] at hE
  simp only [Qc, if_false] at hE
  have hl := Qie w w.spares.length
  have h1 := Qrr (Qdc w w.spares.length)
  rw [hl] at h1
  simp only [jA, Qsh, hl, Ze, Qm, h1, Qzo, BL, simprocAttr]
  simp [Qgg, hE, Qbs]
def Qv6 : List V → Work | [a, b, c, d, _] => Qc0 [a, b, c, d] | _ => Qc0 []
def Qs0 (w : Work) : Qv6 (Qbs w) = w := Qc3 w
def K58 := K57.ext 57 (fnG eWB dWB (fun a => SmallW a.1) (fun a => Qgg a.1 a.2) (fun v => v))
def Zk3 : GOk TP K58 := Zk2.ext call57 (Qa7 fun a h => W80 a.1 a.2 h)
def h80 (w : Work) (is : Bool) : K58 57 [.ag (Qaj w), .b is] = (SmallW w, Qgg w is) := (kx K58 57 (Zhs (w, is)) rfl :)
def Zcq (w : Work) (i n m k : Int) := lft K58 (h118 w i n m k) rfl
def Zcr (a b : Int) : K58 89 [.i a, .i b] = (True, .i (Qk4 a b)) := rfl
def fitN (w : Work) (i m k : Int) : Int := Qk4 ((Qcx w i).countP fun n => Qcn w i n m k) (Qcx w i).length
def Qlv {w : Work} {i : Int} (h : OkI w i) : (Qcx w i).length ≤ 1000 := by
 have hS := Qfe (h.ok.spare _ (Qb (Qf2 h.sp)))
 have := Qod w i ((Qbn w i).len.high + 1 - (Qbn w i).len.low).toNat
 unfold Qcx; omega
def Qlw {w : Work} {i : Int} (h : 0 ≤ i ∧ i < w.spares.length) : (Qdc w w.spares.length)[i.toNat]? = some (Qcx w i) := by
 unfold Qdc
 rw [Xs, Zu (by omega)]
 simp only [Xa]
 congr 2; omega
def W83 (w : Work) (i m k : Int) (h : OkF w i m k) : Qa1 TP 59 [.pa (Qbs w), .i i, .i m, .i k] (.i (fitN w i m k)) := by
 refine pc Zk3 func59 cf59 ?_
 have hl := Qlv ⟨h.ok, h.sp⟩
 have hg := Qlw h.sp
 have vI := h.sp
 have lJ := Qie w w.spares.length
 have g := fun n => Zcq w i n m k
 simp only [Qaj] at g
 unfold fitN
 simp only [Qbs]
 generalize Qcx w i = L at *
 generalize Qdc w w.spares.length = LL at *
 simp only [rc59, rs59, hg, lJ, vI, eLens, BU2, simprocAttr]
 refine Qaq L.length (fun j => ⟨lkp [(0, .pa [.sl 4 (w.spares.map eSpare), .sl 1 (w.makes.map eMake), .i w.cut, .sl 4 (w.table.map eTrial), .sl 1 (LL.map eLens)]), (1, .i i), (2, .i m), (3, .i k), (9, .i ((L.take j).countP fun n => Qcn w i n m k : Nat)), (18, .sl 1 (L.map eI)), (19, .i L.length), (20, .i j)], []⟩) ?_ ?_ ?_
 ·simp only [Qg, Xb, BU2, simprocAttr]
 ·intro j hj
  obtain ⟨x, hx⟩ : ∃ x, L[j]? = some x := ⟨_, Qd hj⟩
  have jA : (j : Int) < L.length := by omega
  have i1 : inI ((j : Int) + 1) := by unfold inI; omega
  have hc : (L.take j).countP (fun n => Qcn w i n m k) ≤ 1000 := by
   refine Zn List.countP_le_length ?_
   rw [Zl]; omega
  have i2 : inI ((((L.take j).countP fun n => Qcn w i n m k) : Nat) + 1 : Int) := by unfold inI; omega
  have hs := Qa4 hx
  cases e : Qcn w i x m k with
  | false =>
   simp only [jA, hx, g, h, e, i1, hs, Xq, Zq, Xb, Qf, Qe, BL, simprocAttr]
  | true =>
   simp only [jA, hx, g, h, e, i1, i2, hs, Xq, Zq, Xb, Qf, Qe, BL, simprocAttr]
 ·have jA : ¬ ((L.length : Int) < L.length) := by omega
  simp only [jA, hg, lJ, vI, Zcr, eLens, Za, BU2, simprocAttr]
def eQF (a : Work × Int × Int × Int) : List V := [.pa (Qbs a.1), .i a.2.1, .i a.2.2.1, .i a.2.2.2]
def dQF : List V → Work × Int × Int × Int | [.pa s, .i a, .i b, .i c] => (Qv6 s, a, b, c) | _ => (Qc0 [], 0, 0, 0)
def Zp6 (a : Work × Int × Int × Int) : dQF (eQF a) = a := by obtain ⟨w, n, m, k⟩ := a; simp [dQF, eQF, Qs0]
def K59 := K58.ext 59 (fnG eQF dQF (fun a => OkF a.1 a.2.1 a.2.2.1 a.2.2.2) (fun a => fitN a.1 a.2.1 a.2.2.1 a.2.2.2) (.i))
def Zet : GOk TP K59 := Zk3.ext call59 (Qa7 fun a h => W83 a.1 a.2.1 a.2.2.1 a.2.2.2 h)
def h83 (w : Work) (i m k : Int) : K59 59 [.pa (Qbs w), .i i, .i m, .i k] = (OkF w i m k, .i (fitN w i m k)) := (kx K59 59 (Zp6 (w, i, m, k)) rfl :)
def Qzr (w : Work) (n : Int) := lft K59 (h81 w n) rfl
def Zft (w : Work) (m k : Int) := lft K59 (h82 w m k) rfl
def Qzq (w : Work) (is : Bool) := lft K59 (h80 w is) rfl
def isSp (w : Work) (i : Int) : Bool := Qa3 i 0 (w.spares.length - 1)
def Qlu (w : Work) (i : Int) : V := if Qb5 w (isSp w i) = 0 then .tp [.ag [.i ((Qcx w i).headD 0), .i ((Qcx w i).getD ((Qcx w i).length - 1) 0)], .i 0] else .tp [.ag [.i 0, .i 0], .i (Qb5 w (isSp w i))]
def Qtr (w : Work) (i m k : Int) : V := if Qb5 w (isSp w i && Qay w m k) = 0 then .tp [.i (fitN w i m k), .i 0] else .tp [.i 0, .i (Qb5 w (isSp w i && Qay w m k))]
def Qdw {w : Work} {is : Bool} (h : Qb5 w is = 0) : OkW w ∧ is = true ∧ Qcu w = false := by
 unfold Qb5 at h
 split at h
 ·rename_i h1; exact absurd h h1
 ·rename_i h1
  have h1 : Qco w = 0 := by omega
  cases is with
  | false => simp at h
  | true =>
   refine ⟨Qnm (Qjw h1), rfl, ?_⟩
   cases hb : Qcu w with
   | false => rfl
   | true => simp [hb] at h
def Zed {w : Work} (hb : Qcu w = false) {i : Int} (h : 0 ≤ i ∧ i < w.spares.length) : Qcx w i ≠ [] := by
 intro e
 unfold Qcu at hb
 rw [Xr] at hb
 have := hb i.toNat (Zb.2 (by omega))
 rw [show ((i.toNat : Nat) : Int) = i by omega, e] at this
 exact this rfl
def W60 (w : Work) (i m k : Int) (hw : SmallW w) : Qa1 TP 43 [.ag (Qaj w), .i i, .i m, .i k] (Qtr w i m k) := by
 refine pc Zet func43 cf43 ?_
 have g1 := Qzr w i
 have g2 := Zft w m k
 have g3 := Qzq w (isSp w i && Qay w m k)
 have g4 := h83 w i m k
 simp only [Qaj] at g1 g2 g3
 have xD := hw.spares
 have aE : (Qa3 i 0 (w.spares.length - 1)) = isSp w i := rfl
 unfold Qtr
 unfold Qgg at g3
 by_cases e : Qb5 w (isSp w i && Qay w m k) = 0
 ·rw [if_pos e] at g3 ⊢
  obtain ⟨h1, h2, h3⟩ := Qdw e
  rw [Qq] at h2
  obtain ⟨h4, h5⟩ := h2
  have hF : OkF w i m k := ⟨h1, by have := Qal.1 h4; omega, h5⟩
  rw [h4, h5] at g3
  rw [aE, h4] at g1
  rw [h5] at g2
  simp only [Zf] at g3
  simp only [Qbs] at g3 g4
  simp only [rc43, rs43, g1, g2, g3, g4, xD, hw, hF, BL, simprocAttr]
 ·rw [if_neg e] at g3 ⊢
  generalize Qb5 w (isSp w i && Qay w m k) = E at *
  rw [aE] at g1
  cases a1 : isSp w i <;> cases a2 : Qay w m k <;> rw [a1] at g1 g3 <;> rw [a2] at g2 g3 <;> simp only [Zf, Bool.and_false, Xh] at g3 <;> simp only [rc43, rs43, g1, g2, g3, xD, hw, e, BL, simprocAttr]
def W59 (w : Work) (i : Int) (hw : SmallW w) : Qa1 TP 42 [.ag (Qaj w), .i i] (Qlu w i) := by
 refine pc Zet func42 cf42 ?_
 have g1 := Qzr w i
 have g3 := Qzq w (isSp w i)
 simp only [Qaj] at g1 g3
 have xD := hw.spares
 have aE : (Qa3 i 0 (w.spares.length - 1)) = isSp w i := rfl
 unfold Qlu
 unfold Qgg at g3
 rw [aE] at g1
 by_cases e : Qb5 w (isSp w i) = 0
 ·rw [if_pos e] at g3 ⊢
  obtain ⟨h1, h2, h3⟩ := Qdw e
  have hi : 0 ≤ i ∧ i < w.spares.length := by have := Qal.1 h2; omega
  have kH := Zed h3 hi
  have hl := Qlv ⟨h1, hi⟩
  have hg := Qlw hi
  have lJ := Qie w w.spares.length
  rw [h2] at g1 g3
  simp only [Qbs] at g3
  generalize Qcx w i = L at *
  generalize Qdc w w.spares.length = LL at *
  have hp : 0 < L.length := List.length_pos_iff.2 kH
  obtain ⟨x, hx⟩ : ∃ x, L[0]? = some x := ⟨_, Qd hp⟩
  obtain ⟨y, hy⟩ : ∃ y, L[L.length - 1]? = some y := ⟨_, Qd (by omega)⟩
  have i1 : inI ((L.length : Int) - 1) := by unfold inI; omega
  have i2 : (0 : Int) < L.length := by omega
  have i3 : 0 ≤ (L.length : Int) - 1 ∧ (L.length : Int) - 1 < L.length := by omega
  have i4 : ((L.length : Int) - 1).toNat = L.length - 1 := by omega
  have hh : L.headD 0 = x := by cases L with
   | nil => simp at hx
   | cons a l => simpa using hx
  rw [hh]
  simp only [rc42, rs42, g1, g3, xD, hw, hg, lJ, hi, eLens, hx, hy, i1, i2, i3, i4, BL, simprocAttr]
 ·rw [if_neg e] at g3 ⊢
  generalize Qb5 w (isSp w i) = E at *
  cases a1 : isSp w i <;> rw [a1] at g1 g3 <;> simp only [rc42, rs42, g1, g3, xD, hw, e, BL, simprocAttr]
def eWF4 (a : Work × Int × Int × Int) : List V := [.ag (Qaj a.1), .i a.2.1, .i a.2.2.1, .i a.2.2.2]
def dWF4 : List V → Work × Int × Int × Int | [.ag s, .i a, .i b, .i c] => (Qc0 s, a, b, c) | _ => (Qc0 [], 0, 0, 0)
def Zhu (a : Work × Int × Int × Int) : dWF4 (eWF4 a) = a := by obtain ⟨w, n, m, k⟩ := a; simp [dWF4, eWF4, Qc3]
def K60 := K59.ext 43 (fnG eWF4 dWF4 (fun a => SmallW a.1) (fun a => Qtr a.1 a.2.1 a.2.2.1 a.2.2.2) (fun v => v))
def Zpu : GOk TP K60 := Zet.ext call43 (Qa7 fun a h => W60 a.1 a.2.1 a.2.2.1 a.2.2.2 h)
def h60 (w : Work) (i m k : Int) : K60 43 [.ag (Qaj w), .i i, .i m, .i k] = (SmallW w, Qtr w i m k) := (kx K60 43 (Zhu (w, i, m, k)) rfl :)
def K61 := K60.ext 42 (fnG eWI dWI (fun a => SmallW a.1) (fun a => Qlu a.1 a.2) (fun v => v))
def Zpv : GOk TP K61 := Zpu.ext call42 (Qa7 fun a h => W59 a.1 a.2 h)
def h59 (w : Work) (i : Int) : K61 42 [.ag (Qaj w), .i i] = (SmallW w, Qlu w i) := (kx K61 42 (Qv8 (w, i)) rfl :)
def dI_e (x : Int) : dI (eI x) = x := Qas x
def eU (_ : Unit) : List V := []
def dU (_ : List V) : Unit := ()
def dU_e (a : Unit) : dU (eU a) = a := rfl
def eWp (w : Work) : List V := [.pa (Qaj w)]
def dWp : List V → Work | [.pa w] => Qc0 w | _ => Qc0 []
def Zhz (w : Work) : dWp (eWp w) = w := Qc3 w
def badN (_ : Unit) (n : Int) : Bool := !Qa3 n 0 10
def badP (w : Work) (p : Piece) : Bool := !Qc7 ⟨w, [], [], [], [], 0⟩ p
def badX (_ : Unit) (x : Wish) : Bool := !okWish x
def badD (w : Work) (d : Del) : Bool := !Qge ⟨w, [], [], [], [], 0⟩ d
def CN (_ : Unit) (_ : Int) : Prop := True
def CP (w : Work) (p : Piece) : Prop := SmallW w ∧ p.broken.length ≤ 1000000
def CX (_ : Unit) (_ : Wish) : Prop := True
def CD (w : Work) (_ : Del) : Prop := w.spares.length ≤ 1000000
def eN1 (n : Int) : List V := [.i n]
def dN1 : List V → Int | [.i n] => n | _ => 0
def Zp0 (n : Int) : dN1 (eN1 n) = n := rfl
def eWPc (a : Work × Piece) : List V := [.ag (ePiece a.2), .pa (Qaj a.1)]
def dWPc : List V → Work × Piece | [.ag p, .pa w] => (Qc0 w, Qep p) | _ => (Qc0 [], Qep [])
def Zhx (a : Work × Piece) : dWPc (eWPc a) = a := by obtain ⟨w, p⟩ := a; simp [dWPc, eWPc, Qc3, Qf7]
def eWDc (a : Work × Del) : List V := [.ag (eDel a.2), .pa (Qaj a.1)]
def dWDc : List V → Work × Del | [.ag p, .pa w] => (Qc0 w, dDel p) | _ => (Qc0 [], dDel [])
def Zht (a : Work × Del) : dWDc (eWDc a) = a := by obtain ⟨w, p⟩ := a; simp [dWDc, eWDc, Qc3, Qv5]
def Zma (n : Int) : Qa1 TP 115 [.i n] (.b (badN () n)) := W112 n
def Zm7 (w : Work) (p : Piece) (h : CP w p) : Qa1 TP 108 [.ag (ePiece p), .pa (Qaj w)] (.b (badP w p)) := W105 ⟨w, [], [], [], [], 0⟩ p h
def Zm8 (x : Wish) : Qa1 TP 112 [.ag (eWish x)] (.b (badX () x)) := W109 x
def Zm9 (w : Work) (d : Del) (h : CD w d) : Qa1 TP 114 [.ag (eDel d), .pa (Qaj w)] (.b (badD w d)) := W111 ⟨w, [], [], [], [], 0⟩ d h
def K62 := K61.ext 115 (fnG eN1 dN1 (fun _ => True) (badN ()) (.b))
def Zpw : GOk TP K62 := Zpv.ext call115 (Qa7 fun a h => Zma a)
def h112 (a : Unit) (n : Int) : K62 115 [.i n] = (CN a n, .b (badN a n)) := (kx K62 115 (Zp0 n) rfl :)
def K63 := K62.ext 108 (fnG eWPc dWPc (fun a => CP a.1 a.2) (fun a => badP a.1 a.2) (.b))
def Zpx : GOk TP K63 := Zpw.ext call108 (Qa7 fun a h => Zm7 a.1 a.2 h)
def h105 (w : Work) (p : Piece) : K63 108 [.ag (ePiece p), .pa (Qaj w)] = (CP w p, .b (badP w p)) := (kx K63 108 (Zhx (w, p)) rfl :)
def K64 := K63.ext 112 (fnG eX1 dX1 (fun _ => True) (badX ()) (.b))
def Zpy : GOk TP K64 := Zpx.ext call112 (Qa7 fun a h => Zm8 a)
def h109 (a : Unit) (x : Wish) : K64 112 [.ag (eWish x)] = (CX a x, .b (badX a x)) := (kx K64 112 (Zi0 x) rfl :)
def K65 := K64.ext 114 (fnG eWDc dWDc (fun a => CD a.1 a.2) (fun a => badD a.1 a.2) (.b))
def Zk4 : GOk TP K65 := Zpy.ext call114 (Qa7 fun a h => Zm9 a.1 a.2 h)
def h111 (w : Work) (d : Del) : K65 114 [.ag (eDel d), .pa (Qaj w)] = (CD w d, .b (badD w d)) := (kx K65 114 (Zht (w, d)) rfl :)
def Zcs (a : Unit) (n : Int) := lft K65 (h112 a n) rfl
def R143 (hG : GOk TP Γ) (l : List Int) (f : Nat) (hf : f < 1000000) (caps : List V) (p : Int → Bool) (C : Int → Prop) (hC : ∀ x ∈ l, C x) (hv : caps.map (vw [] 8) = caps) (hr : Qa8 caps = false) (hl : l.length < 10000000)
  (h : ∀ x ∈ l, Γ f (V.i x :: caps) = (C x, .b (p x))) : Qa1 TP 122 [.sl 1 (l.map eI), .fn f caps] (.i (idxOf p l)) := by
 refine pc hG func122 Zda ?_
 simp only [rc122, rs122, BU2, simprocAttr]
 refine Qao l.length (fun i => ⟨lkp [(0, .sl 1 (l.map eI)), (1, .fn f caps), (7, .i l.length), (8, .i i)], []⟩) (fun i => ∀ j x, j < i → l[j]? = some x → p x = false) ?_ ?_ ?_ ?_
 ·simp only [Qg, BU2, simprocAttr]
 ·intro j x h; omega
 ·intro i hi hc
  obtain ⟨x, hx⟩ : ∃ x, l[i]? = some x := ⟨_, Qd hi⟩
  have jA : (i : Int) < l.length := by omega
  have h3 : inI ((i : Int) + 1) := by unfold inI; omega
  have hp := h x (Qb hx)
  have hCx := hC x (Qb hx)
  try simp only [eI, eMake] at hp
  simp only [hx, jA, Qf, Qe, h3, hp, hv, hr, hf, hCx, BL, simprocAttr]
  refine ⟨fun e => ?_, fun e => ?_⟩
  ·rw [Qai hx e hc]
  ·exact Qbd hx e hc
 ·intro hc
  simp only [BU2, simprocAttr]
  exact (Qaa fun x hx => by
   obtain ⟨j, hj⟩ := Zd hx
   exact hc j x (by have := Qah hj; exact this) hj).symm
def e2Ns (a : Unit × List Int) : List V := [.sl 1 (a.2.map eI), .fn 115 (eU a.1)]
def d2Ns : List V → Unit × List Int | [.sl _ l, .fn _ c] => (dU c, l.map dI) | _ => (dU [], [])
def Za1 (a : Unit × List Int) : d2Ns (e2Ns a) = a := by obtain ⟨a, l⟩ := a; simp [d2Ns, e2Ns, dU_e, dI_e, Function.comp_def]
def C2Ns (a : Unit × List Int) : Prop := a.2.length < 10000000 ∧ ∀ x ∈ a.2, CN a.1 x
def vwNs (a : Unit) : ((eU a) : List V).map (vw [] 8) = (eU a) := by
 unfold eU
 simp only [Qs]
def rfNs (a : Unit) : Qa8 ((eU a) : List V) = false := rfl
def K66 := K65.ext 122 (fnG e2Ns d2Ns (C2Ns) (fun a => idxOf (badN a.1) a.2) (.i))
def Zk5 : GOk TP K66 := Zk4.ext call122 (Qa7 fun a h => R143 Zk4 a.2 115 (by decide) (eU a.1) (badN a.1) (CN a.1) h.2 (vwNs a.1) (rfNs a.1) h.1 fun x _ => Zcs a.1 x)
def Zij (a : Unit) (l : List Int) : K66 122 [.sl 1 (l.map eI), .fn 115 (eU a)] = (C2Ns (a, l), .i (idxOf (badN a) l)) := (kx K66 122 (Za1 (a, l)) rfl :)
def Zgj (a : Unit) (l : List Int) (h : C2Ns (a, l)) : Qa1 TP 82 [.sl 1 (l.map eI), .fn 115 (eU a)] (.b (l.any (badN a))) := by
 refine pc Zk5 func82 cf82 ?_
 have g := Zij a l
 have q := Qab (badN a) l
 generalize idxOf (badN a) l = r at *
 generalize l.any (badN a) = r2 at *
 try simp only [eU] at g
 simp only [rc82, rs82, eU, g, h, q, BU2, simprocAttr]
def K67 := K66.ext 82 (fnG e2Ns d2Ns (C2Ns) (fun a => a.2.any (badN a.1)) (.b))
def Zk6 : GOk TP K67 := Zk5.ext call82 (Qa7 fun a h => Zgj a.1 a.2 h)
def Zib (a : Unit) (l : List Int) : K67 82 [.sl 1 (l.map eI), .fn 115 (eU a)] = (C2Ns (a, l), .b (l.any (badN a))) := (kx K67 82 (Za1 (a, l)) rfl :)
def Zct (w : Work) (p : Piece) := lft K67 (h105 w p) rfl
def R144 (hG : GOk TP Γ) (l : List Piece) (f : Nat) (hf : f < 1000000) (caps : List V) (p : Piece → Bool) (C : Piece → Prop) (hC : ∀ x ∈ l, C x) (hv : caps.map (vw [] 8) = caps) (hr : Qa8 caps = false) (hl : l.length < 10000000)
  (h : ∀ x ∈ l, Γ f (V.ag (ePiece x) :: caps) = (C x, .b (p x))) : Qa1 TP 145 [.sl 5 (l.map ePiece), .fn f caps] (.i (idxOf p l)) := by
 refine pc hG func145 Znl ?_
 simp only [rc145, rs145, BU2, simprocAttr]
 refine Qao l.length (fun i => ⟨lkp [(0, .sl 5 (l.map ePiece)), (1, .fn f caps), (7, .i l.length), (8, .i i)], []⟩) (fun i => ∀ j x, j < i → l[j]? = some x → p x = false) ?_ ?_ ?_ ?_
 ·simp only [Qg, BU2, simprocAttr]
 ·intro j x h; omega
 ·intro i hi hc
  obtain ⟨x, hx⟩ : ∃ x, l[i]? = some x := ⟨_, Qd hi⟩
  have jA : (i : Int) < l.length := by omega
  have h3 : inI ((i : Int) + 1) := by unfold inI; omega
  have hp := h x (Qb hx)
  have hCx := hC x (Qb hx)
  try simp only [ePiece] at hp
  simp only [hx, jA, Qf, Qe, h3, hp, hv, hr, hf, hCx, BL, simprocAttr]
  refine ⟨fun e => ?_, fun e => ?_⟩
  ·rw [Qai hx e hc]
  ·exact Qbd hx e hc
 ·intro hc
  simp only [BU2, simprocAttr]
  exact (Qaa fun x hx => by
   obtain ⟨j, hj⟩ := Zd hx
   exact hc j x (by have := Qah hj; exact this) hj).symm
def e2Ps (a : Work × List Piece) : List V := [.sl 5 (a.2.map ePiece), .fn 108 (eWp a.1)]
def d2Ps : List V → Work × List Piece | [.sl _ l, .fn _ c] => (dWp c, l.map Qep) | _ => (dWp [], [])
def Za2 (a : Work × List Piece) : d2Ps (e2Ps a) = a := by obtain ⟨a, l⟩ := a; simp [d2Ps, e2Ps, Zhz, Qf7, Function.comp_def]
def C2Ps (a : Work × List Piece) : Prop := a.2.length < 10000000 ∧ ∀ x ∈ a.2, CP a.1 x
def vwPs (a : Work) : ((eWp a) : List V).map (vw [] 8) = (eWp a) := by
 unfold eWp
 simp only [Qw, Qs, Quj, Qaj]
def rfPs (a : Work) : Qa8 ((eWp a) : List V) = false := rfl
def K68 := K67.ext 145 (fnG e2Ps d2Ps (C2Ps) (fun a => idxOf (badP a.1) a.2) (.i))
def Zk7 : GOk TP K68 := Zk6.ext call145 (Qa7 fun a h => R144 Zk6 a.2 108 (by decide) (eWp a.1) (badP a.1) (CP a.1) h.2 (vwPs a.1) (rfPs a.1) h.1 fun x _ => Zct a.1 x)
def Zik (a : Work) (l : List Piece) : K68 145 [.sl 5 (l.map ePiece), .fn 108 (eWp a)] = (C2Ps (a, l), .i (idxOf (badP a) l)) := (kx K68 145 (Za2 (a, l)) rfl :)
def Zgk (a : Work) (l : List Piece) (h : C2Ps (a, l)) : Qa1 TP 116 [.sl 5 (l.map ePiece), .fn 108 (eWp a)] (.b (l.any (badP a))) := by
 refine pc Zk7 func116 Zn1 ?_
 have g := Zik a l
 have q := Qab (badP a) l
 generalize idxOf (badP a) l = r at *
 generalize l.any (badP a) = r2 at *
 try simp only [eWp, Qaj] at g
 simp only [rc116, rs116, eWp, g, h, q, BL, simprocAttr]
def K69 := K68.ext 116 (fnG e2Ps d2Ps (C2Ps) (fun a => a.2.any (badP a.1)) (.b))
def Zk8 : GOk TP K69 := Zk7.ext call116 (Qa7 fun a h => Zgk a.1 a.2 h)
def Zic (a : Work) (l : List Piece) : K69 116 [.sl 5 (l.map ePiece), .fn 108 (eWp a)] = (C2Ps (a, l), .b (l.any (badP a))) := (kx K69 116 (Za2 (a, l)) rfl :)
def Zcu (a : Unit) (x : Wish) := lft K69 (h109 a x) rfl
def R145 (hG : GOk TP Γ) (l : List Wish) (f : Nat) (hf : f < 1000000) (caps : List V) (p : Wish → Bool) (C : Wish → Prop) (hC : ∀ x ∈ l, C x) (hv : caps.map (vw [] 8) = caps) (hr : Qa8 caps = false) (hl : l.length < 10000000)
  (h : ∀ x ∈ l, Γ f (V.ag (eWish x) :: caps) = (C x, .b (p x))) : Qa1 TP 146 [.sl 6 (l.map eWish), .fn f caps] (.i (idxOf p l)) := by
 refine pc hG func146 Znm ?_
 simp only [rc146, rs146, BU2, simprocAttr]
 refine Qao l.length (fun i => ⟨lkp [(0, .sl 6 (l.map eWish)), (1, .fn f caps), (7, .i l.length), (8, .i i)], []⟩) (fun i => ∀ j x, j < i → l[j]? = some x → p x = false) ?_ ?_ ?_ ?_
 ·simp only [Qg, BU2, simprocAttr]
 ·intro j x h; omega
 ·intro i hi hc
  obtain ⟨x, hx⟩ : ∃ x, l[i]? = some x := ⟨_, Qd hi⟩
  have jA : (i : Int) < l.length := by omega
  have h3 : inI ((i : Int) + 1) := by unfold inI; omega
  have hp := h x (Qb hx)
  have hCx := hC x (Qb hx)
  try simp only [eWish] at hp
  simp only [hx, jA, Qf, Qe, h3, hp, hv, hr, hf, hCx, BL, simprocAttr]
  refine ⟨fun e => ?_, fun e => ?_⟩
  ·rw [Qai hx e hc]
  ·exact Qbd hx e hc
 ·intro hc
  simp only [BU2, simprocAttr]
  exact (Qaa fun x hx => by
   obtain ⟨j, hj⟩ := Zd hx
   exact hc j x (by have := Qah hj; exact this) hj).symm
def e2Xs (a : Unit × List Wish) : List V := [.sl 6 (a.2.map eWish), .fn 112 (eU a.1)]
def d2Xs : List V → Unit × List Wish | [.sl _ l, .fn _ c] => (dU c, l.map Qp8) | _ => (dU [], [])
def Za7 (a : Unit × List Wish) : d2Xs (e2Xs a) = a := by obtain ⟨a, l⟩ := a; simp [d2Xs, e2Xs, dU_e, Qo0, Function.comp_def]
def C2Xs (a : Unit × List Wish) : Prop := a.2.length < 10000000 ∧ ∀ x ∈ a.2, CX a.1 x
def vwXs (a : Unit) : ((eU a) : List V).map (vw [] 8) = (eU a) := by
 unfold eU
 simp only [Qs]
def rfXs (a : Unit) : Qa8 ((eU a) : List V) = false := rfl
def K70 := K69.ext 146 (fnG e2Xs d2Xs (C2Xs) (fun a => idxOf (badX a.1) a.2) (.i))
def Zk9 : GOk TP K70 := Zk8.ext call146 (Qa7 fun a h => R145 Zk8 a.2 112 (by decide) (eU a.1) (badX a.1) (CX a.1) h.2 (vwXs a.1) (rfXs a.1) h.1 fun x _ => Zcu a.1 x)
def Zil (a : Unit) (l : List Wish) : K70 146 [.sl 6 (l.map eWish), .fn 112 (eU a)] = (C2Xs (a, l), .i (idxOf (badX a) l)) := (kx K70 146 (Za7 (a, l)) rfl :)
def Zgl (a : Unit) (l : List Wish) (h : C2Xs (a, l)) : Qa1 TP 117 [.sl 6 (l.map eWish), .fn 112 (eU a)] (.b (l.any (badX a))) := by
 refine pc Zk9 func117 Zn2 ?_
 have g := Zil a l
 have q := Qab (badX a) l
 generalize idxOf (badX a) l = r at *
 generalize l.any (badX a) = r2 at *
 try simp only [eU] at g
 simp only [rc117, rs117, eU, g, h, q, BU2, simprocAttr]
def K71 := K70.ext 117 (fnG e2Xs d2Xs (C2Xs) (fun a => a.2.any (badX a.1)) (.b))
def Zka : GOk TP K71 := Zk9.ext call117 (Qa7 fun a h => Zgl a.1 a.2 h)
def Zid (a : Unit) (l : List Wish) : K71 117 [.sl 6 (l.map eWish), .fn 112 (eU a)] = (C2Xs (a, l), .b (l.any (badX a))) := (kx K71 117 (Za7 (a, l)) rfl :)
def Zcv (w : Work) (d : Del) := lft K71 (h111 w d) rfl
def R146 (hG : GOk TP Γ) (l : List Del) (f : Nat) (hf : f < 1000000) (caps : List V) (p : Del → Bool) (C : Del → Prop) (hC : ∀ x ∈ l, C x) (hv : caps.map (vw [] 8) = caps) (hr : Qa8 caps = false) (hl : l.length < 10000000)
  (h : ∀ x ∈ l, Γ f (V.ag (eDel x) :: caps) = (C x, .b (p x))) : Qa1 TP 147 [.sl 3 (l.map eDel), .fn f caps] (.i (idxOf p l)) := by
 refine pc hG func147 Znn ?_
 simp only [rc147, rs147, BU2, simprocAttr]
 refine Qao l.length (fun i => ⟨lkp [(0, .sl 3 (l.map eDel)), (1, .fn f caps), (7, .i l.length), (8, .i i)], []⟩) (fun i => ∀ j x, j < i → l[j]? = some x → p x = false) ?_ ?_ ?_ ?_
 ·simp only [Qg, BU2, simprocAttr]
 ·intro j x h; omega
 ·intro i hi hc
  obtain ⟨x, hx⟩ : ∃ x, l[i]? = some x := ⟨_, Qd hi⟩
  have jA : (i : Int) < l.length := by omega
  have h3 : inI ((i : Int) + 1) := by unfold inI; omega
  have hp := h x (Qb hx)
  have hCx := hC x (Qb hx)
  try simp only [eDel] at hp
  simp only [hx, jA, Qf, Qe, h3, hp, hv, hr, hf, hCx, BL, simprocAttr]
  refine ⟨fun e => ?_, fun e => ?_⟩
  ·rw [Qai hx e hc]
  ·exact Qbd hx e hc
 ·intro hc
  simp only [BU2, simprocAttr]
  exact (Qaa fun x hx => by
   obtain ⟨j, hj⟩ := Zd hx
   exact hc j x (by have := Qah hj; exact this) hj).symm
def e2Ds (a : Work × List Del) : List V := [.sl 3 (a.2.map eDel), .fn 114 (eWp a.1)]
def d2Ds : List V → Work × List Del | [.sl _ l, .fn _ c] => (dWp c, l.map dDel) | _ => (dWp [], [])
def Qzz (a : Work × List Del) : d2Ds (e2Ds a) = a := by obtain ⟨a, l⟩ := a; simp [d2Ds, e2Ds, Zhz, Qv5, Function.comp_def]
def C2Ds (a : Work × List Del) : Prop := a.2.length < 10000000 ∧ ∀ x ∈ a.2, CD a.1 x
def vwDs (a : Work) : ((eWp a) : List V).map (vw [] 8) = (eWp a) := by
 unfold eWp
 simp only [Qw, Qs, Quj, Qaj]
def rfDs (a : Work) : Qa8 ((eWp a) : List V) = false := rfl
def K72 := K71.ext 147 (fnG e2Ds d2Ds (C2Ds) (fun a => idxOf (badD a.1) a.2) (.i))
def Zkb : GOk TP K72 := Zka.ext call147 (Qa7 fun a h => R146 Zka a.2 114 (by decide) (eWp a.1) (badD a.1) (CD a.1) h.2 (vwDs a.1) (rfDs a.1) h.1 fun x _ => Zcv a.1 x)
def Zim (a : Work) (l : List Del) : K72 147 [.sl 3 (l.map eDel), .fn 114 (eWp a)] = (C2Ds (a, l), .i (idxOf (badD a) l)) := (kx K72 147 (Qzz (a, l)) rfl :)
def Zgm (a : Work) (l : List Del) (h : C2Ds (a, l)) : Qa1 TP 118 [.sl 3 (l.map eDel), .fn 114 (eWp a)] (.b (l.any (badD a))) := by
 refine pc Zkb func118 Zn3 ?_
 have g := Zim a l
 have q := Qab (badD a) l
 generalize idxOf (badD a) l = r at *
 generalize l.any (badD a) = r2 at *
 try simp only [eWp, Qaj] at g
 simp only [rc118, rs118, eWp, g, h, q, BL, simprocAttr]
def K73 := K72.ext 118 (fnG e2Ds d2Ds (C2Ds) (fun a => a.2.any (badD a.1)) (.b))
def Zkc : GOk TP K73 := Zkb.ext call118 (Qa7 fun a h => Zgm a.1 a.2 h)
def Zie (a : Work) (l : List Del) : K73 118 [.sl 3 (l.map eDel), .fn 114 (eWp a)] = (C2Ds (a, l), .b (l.any (badD a))) := (kx K73 118 (Qzz (a, l)) rfl :)
def Zcx (a : Unit) (l : List Int) := lft K73 (Zib a l) rfl
def Zcy (a : Work) (l : List Piece) := lft K73 (Zic a l) rfl
def Zcz (a : Unit) (l : List Wish) := lft K73 (Zid a l) rfl
def Zcw (n : Int) := lft K73 (h110 n) rfl
def Qnu {α : Type} {l : List α} {p q : α → Bool} (h : ∀ x, q x = !p x) : l.any q = !l.all p := by
 have : q = fun x => !p x := funext h
 rw [this, List.not_all_eq_any_not]
def W79 (s : Shop) (hs : SmallS s) : Qa1 TP 76 [.ag (Qat s)] (.b (Qex s)) := by
 refine pc Zkc func76 cf76 ?_
 have hR : Qex s = (decide (s.stock.length = s.work.spares.length) && decide ((s.pieces.length : Int) ≤ 8) && decide ((s.wishes.length : Int) ≤ 6) && decide ((s.dels.length : Int) ≤ 8) && Qa3 s.carve 0 99 && (s.stock.all fun n => Qa3 n 0 10) && s.pieces.all (Qc7 s) && s.wishes.all okWish && s.dels.all (Qge s)) := rfl
 have g1 := Zcx () s.stock
 have g2 := Zcy s.work s.pieces
 have g3 := Zcz () s.wishes
 have g4 := Zie s.work s.dels
 have q1 : s.stock.any (badN ()) = !(s.stock.all fun n => Qa3 n 0 10) := Qnu fun _ => rfl
 have q2 : s.pieces.any (badP s.work) = !s.pieces.all (Qc7 s) := Qnu fun _ => rfl
 have q3 : s.wishes.any (badX ()) = !s.wishes.all okWish := Qnu fun _ => rfl
 have q4 : s.dels.any (badD s.work) = !s.dels.all (Qge s) := Qnu fun _ => rfl
 rw [q1] at g1; rw [q2] at g2; rw [q3] at g3; rw [q4] at g4
 simp only [eU, eWp, Qaj] at g1 g2 g3 g4
 have hw := hs.work
 generalize Qex s = res at *
 by_cases a1 : s.stock.length = s.work.spares.length
 rotate_left
 ·have n1 : ¬ (s.stock.length : Int) = s.work.spares.length := by omega
  simp only [rc76, rs76, n1, BL, simprocAttr]; simp [hR, a1]
 have b1 : (s.stock.length : Int) = s.work.spares.length := by omega
 have c1 : C2Ns ((), s.stock) := ⟨by have := hw.spares; show s.stock.length < 10000000; omega, fun _ _ => trivial⟩
 cases d1 : (s.stock.all fun n => Qa3 n 0 10) with
 | false => rw [d1] at g1; simp only [rc76, rs76, b1, g1, c1, BL, simprocAttr]; simp [hR, d1]
 | true =>
 rw [d1] at g1
 by_cases a2 : (s.pieces.length : Int) ≤ 8
 rotate_left
 ·simp only [rc76, rs76, b1, g1, c1, a2, BL, simprocAttr]; simp [hR, a2]
 have c2 : C2Ps (s.work, s.pieces) := ⟨by show s.pieces.length < 10000000; omega, fun p hp => ⟨hw, hs.broken p hp⟩⟩
 cases d2 : s.pieces.all (Qc7 s) with
 | false => rw [d2] at g2; simp only [rc76, rs76, b1, g1, c1, a2, g2, c2, BL, simprocAttr]; simp [hR, d2]
 | true =>
 rw [d2] at g2
 by_cases a3 : (s.wishes.length : Int) ≤ 6
 rotate_left
 ·simp only [rc76, rs76, b1, g1, c1, a2, g2, c2, a3, BL, simprocAttr]; simp [hR, a3]
 have c3 : C2Xs ((), s.wishes) := ⟨by show s.wishes.length < 10000000; omega, fun _ _ => trivial⟩
 cases d3 : s.wishes.all okWish with
 | false => rw [d3] at g3; simp only [rc76, rs76, b1, g1, c1, a2, g2, c2, a3, g3, c3, BL, simprocAttr]; simp [hR, d3]
 | true =>
 rw [d3] at g3
 by_cases a4 : (s.dels.length : Int) ≤ 8
 rotate_left
 ·simp only [rc76, rs76, b1, g1, c1, a2, g2, c2, a3, g3, c3, a4, BL, simprocAttr]; simp [hR, a4]
 have c4 : C2Ds (s.work, s.dels) := ⟨by show s.dels.length < 10000000; omega, fun d hd => hw.spares⟩
 cases d4 : s.dels.all (Qge s) with
 | false => rw [d4] at g4; simp only [rc76, rs76, b1, g1, c1, a2, g2, c2, a3, g3, c3, a4, g4, c4, BL, simprocAttr]; simp [hR, d4]
 | true =>
 rw [d4] at g4
 simp only [rc76, rs76, b1, g1, c1, a2, g2, c2, a3, g3, c3, a4, g4, c4, Zcw, BL, simprocAttr]
 simp [hR, d1, d2, d3, d4, a1, a2, a3, a4]
def K74 := K73.ext 76 (fnG eH1 dH1 SmallS Qex .b)
def Zkd : GOk TP K74 := Zkc.ext call76 (Qa7 fun a h => W79 a h)
def h79 (s : Shop) : K74 76 [.ag (Qat s)] = (SmallS s, .b (Qex s)) := (kx K74 76 (Qqp s) rfl :)
def Zfv (w : Work) := lft K74 (h78 w) rfl
def W58 (s : Shop) (hs : SmallS s) : Qa1 TP 41 [.ag (Qat s)] (.i (Qcl s)) := by
 refine pc Zkd func41 cf41 ?_
 have g1 := Zfv s.work
 have g2 := h79 s
 simp only [Qaj, Qat] at g1 g2
 have hw := hs.work
 unfold Qcl
 by_cases h0 : Qco s.work = 0
 ·cases h1 : Qex s with
  | false => simp only [rc41, rs41, g1, g2, hs, hw, h0, h1, BL, simprocAttr]
  | true => simp only [rc41, rs41, g1, g2, hs, hw, h0, h1, BL, simprocAttr]
 ·simp only [rc41, rs41, g1, hw, h0, BL, simprocAttr]
def vw_w (hp : List Blk) (n : Nat) (k : IntKind) (a : Int) : vw hp (n + 1) (.w k a) = .w k a := rfl
def Qrf {α : Type} (m n : Nat) (a : α) : Qa (m + n) a = Qa m a ++ Qa n a := List.replicate_append_replicate.symm
def sMul : List V → Prop × V | [.w .u64 a, .w .u64 b] => ((0 ≤ a ∧ a ≤ 2147483648) ∧ 0 ≤ b ∧ b ≤ 2147483648, .tp [.w .u64 0, .w .u64 (a * b)]) | _ => (False, .u)
def Zfd (vs : List V) (h : (sMul vs).1) : Qa1 TP 78 vs (sMul vs).2 := by
 unfold sMul at h ⊢
 split at h
 ·rename_i a b
  obtain ⟨⟨h1, h2⟩, h3, h4⟩ := h
  obtain ⟨x, rfl⟩ : ∃ x : Nat, a = x := ⟨a.toNat, by omega⟩
  obtain ⟨y, rfl⟩ : ∃ y : Nat, b = y := ⟨b.toNat, by omega⟩
  have aO : x * y ≤ 2147483648 * 2147483648 := Nat.mul_le_mul (by omega) (by omega)
  intro S w cargs hS jU hr
  obtain ⟨c, d, rfl⟩ : ∃ c d, cargs = #[c, d] := by
   match cargs, jU with
   | ⟨[a, b]⟩, _ => exact ⟨a, b, rfl⟩
  simp only [RepL, Rep, and_true] at hr
  obtain ⟨rfl, rfl⟩ := hr
  refine (Tryz.bits_Mul x y (by omega) (by omega) w).mono ?_
  rintro e w' ⟨rfl, rfl⟩
  refine ⟨_, rfl, ⟨⟨fun n hn => ⟨.inl hn, rfl⟩, fun _ _ _ h => nomatch h⟩, rfl, rfl, rfl, Qm _, fun _ _ => rfl, fun _ _ _ => rfl, (Evol.refl S w' noO).fresh, fun n hn => hn.elim .inl fun h => by omega⟩, ?_⟩
  have e1 : x * y / 18446744073709551616 = 0 := Nat.div_eq_of_lt (by omega)
  have e2 : x * y % 18446744073709551616 = x * y := Nat.mod_eq_of_lt (by omega)
  rw [e1, e2]
  simp only [Rep]
  exact ⟨_, rfl, rfl, by simp [RepL, Rep]⟩
 ·exact h.elim
def K75 := (K74.ext 41 (fnG eH1 dH1 SmallS Qcl .i)).ext 78 sMul
def Zeu : GOk TP K75 := (Zkd.ext call41 (Qa7 (e := eH1) (d := dH1) (ok := SmallS) (g := Qcl) (eb := .i) fun a h => W58 a h)).ext (f := 78) (r := sMul) (fun a w => call78 a w) Zfd
def h67 (a b : Int) : K75 78 [.w .u64 a, .w .u64 b] = ((0 ≤ a ∧ a ≤ 2147483648) ∧ 0 ≤ b ∧ b ≤ 2147483648, .tp [.w .u64 0, .w .u64 (a * b)]) := rfl
def Qt8 {n : Int} (h : 0 ≤ n ∧ n ≤ 2147483648) : IntKind.u64.wrap n = n := IntWalk.u64_in n (by omega)
def Zag {n : Int} (h : 0 ≤ n ∧ n ≤ 2147483648) : IntKind.i64.wrap n = n := Qjy (by unfold inI; omega)
def Qeq (r z : List V) (n k : Nat) : List V := (Qa k r ++ Qa (n - k) z).flatten
def Qff {es : Nat} {r : List V} (h : r.length = es) (k : Nat) : ((Qa k r).flatten).length = k * es := by
 rw [List.length_flatten, List.map_replicate, List.sum_replicate_nat, h]
def Qs6 {es : Nat} {r z : List V} (hr : r.length = es) (hz : z.length = es) {n k : Nat} (h : k ≤ n) : (Qeq r z n k).length = n * es := by
 unfold Qeq
 rw [Ql, Qh, Qff hr, Qff hz, ← Zx]
 congr 1; omega
def Qpd {es : Nat} {r z : List V} (hr : r.length = es) {n k m : Nat} (h : m ≤ k) : (Qeq r z n k).take (m * es) = (Qa m r).flatten := by
 unfold Qeq
 obtain ⟨j, rfl⟩ : ∃ j, k = m + j := ⟨k - m, by omega⟩
 rw [Qrf, Qt, Ql, List.take_append_of_le_length (by rw [Qff hr]; exact Qm _), Qu (by rw [Qff hr]; exact Qm _)]
def Qpc {es : Nat} {r z : List V} (hr : r.length = es) (hz : z.length = es) {n k m : Nat} (h : k + m ≤ n) : putAt (k * es) ((Qa m r).flatten) (Qeq r z n k) = Qeq r z n (k + m) := by
 unfold putAt
 rw [Qpd hr (Qm k)]
 have e : (Qeq r z n k).drop (k * es + ((Qa m r).flatten).length) = (Qa (n - (k + m)) z).flatten := by
  rw [Qff hr, ← Zx]
  unfold Qeq
  rw [show n - k = m + (n - (k + m)) by omega, Qrf, ← Qt, Ql, Zs, Z7, Q8]
  ·rw [Ql, Qh, Qff hr, Qff hz, Zx]; exact Qm _
  ·rw [Ql, Qh, Qff hr, Qff hz, Zx]; exact Qm _
 rw [e]
 unfold Qeq
 rw [Qrf, Ql, Ql]
def Zac (r z : List V) (n : Nat) : Qeq r z n 0 = (Qa n z).flatten := by simp [Qeq]
def Qs5 (r z : List V) (n : Nat) : Qeq r z n n = (Qa n r).flatten := by simp [Qeq]
def Qna (r z : List V) (es n : Nat) (hr : r.length = es) (hz : z.length = es) : putAt 0 (r.take (min 1 n * es)) (Qeq r z n 0) = Qeq r z n (min 1 n) := by
 have h := Qpc (m := min 1 n) (k := 0) (n := n) hr hz (by omega)
 rw [Xt, Zo] at h
 rw [← h]
 congr 1
 cases n with
 | zero => simp
 | succ n =>
  have : min 1 (n + 1) = 1 := by omega
  rw [this, Nat.one_mul, Qu (by omega)]; simp
def Qnb (r z : List V) (es n k : Nat) (hr : r.length = es) (hz : z.length = es) (hk : k < n) : putAt (k * es) (((Qeq r z n k).take (k * es)).take (min k (n - k) * es)) (Qeq r z n k) = Qeq r z n (k + min k (n - k)) := by
 rw [List.take_take, Nat.min_eq_left (Nat.mul_le_mul_right _ (X4 _ _)), Qpd hr (X4 _ _), Qpc hr hz (by omega)]
def W40 (x : Int) (n : Nat) (h : n ≤ 1000000) : Qd3 TP 58 [.sl 1 [[.i x]], .i n] (.rf 0 0 0 n 1) [.cells 0 (Qa n [V.i x]).flatten] := by
 refine Qku Zeu hmix func58 cf58.b cf58.c cf58.s cf58.n ?_
 have h0 : ¬ ((n : Int) < 0) := by omega
 have u1 : IntKind.u64.wrap 1 = 1 := Qt8 (by omega)
 have u2 : IntKind.u64.wrap (n : Int) = n := Qt8 (by omega)
 have u3 : IntKind.i64.wrap (n : Int) = n := Zag (by omega)
 have b1 : (0 : Int) ≤ n ∧ (n : Int) ≤ 2147483648 := by omega
 have b2 : ¬ ((9223372036854775807 : Int) < n) := by omega
 have f1 := Zac [V.i x] [V.i 0] n
 have f2 := Qna [V.i x] [V.i 0] 1 n rfl rfl
 have f3 := fun k (hk : k ≤ n) => Qs6 (es := 1) (r := [V.i x]) (z := [V.i 0]) (n := n) rfl rfl hk
 have f4 := fun k (hk : k < n) => Qnb [V.i x] [V.i 0] 1 n k rfl rfl hk
 have f5 := Qs5 [V.i x] [V.i 0] n
 simp only [rc58, rs58, h0, Qe, vw_w, cvkV, mkI, u1, u2, u3, h67, b1, b2, Int.one_mul, ← f1, f2, f3 0 (Zy _), Zt, Qm, Qx, Qo, Qmi, Qmg, Qmh, Qme, Qin, Qht, putB, Qfw, Qbe, Qfg, Fam.step, Qh6, Qmx, Qm0, Qbp, Qdf, ug, putB, nv, sv, Qcb, evO, opv, qv, Qii, binV, binW, lenV, Qti, Qan, Qa8, flat, Qmt, Qfi, Qdn, Qfb, ↓reduceIte, Nat.reduceEqDiff, Nat.reduceAdd, Nat.reduceLT, Int.reduceLE, Qw, Qs, Z1, Z8, Zr, Ja, Q8, Zj, Qp, Q3, Q4, Zg, zipA, Q1, beq_self_eq_true, Zo, Zf, Z2, Qc, decide_false, true_and, and_self, forall_const, implies_true, reduceCtorEq, Qz]
 refine Qjt (fun j σ => ∃ k : Nat, (k ≤ n ∧ j = n - k ∧ (k = 0 → n = 0)) ∧ σ = ⟨lkp [(7, .rf 0 0 0 n 1), (8, .i k)], [.cells 0 (Qeq [V.i x] [V.i 0] n k)]⟩) ⟨n - min 1 n, min 1 n, ⟨by omega, rfl, by omega⟩, ?_⟩ ?_
 ·simp only [kp, Qdn, Qfb, ↓reduceIte, Nat.reduceEqDiff, Qw, Qs]
 ·rintro j _ ⟨k, ⟨hk, rfl, u4⟩, rfl⟩
  by_cases jA : (k : Int) < n
  ·have wN : k < n := by omega
   have c1 : 0 < (k : Int) := by omega
   have i1 : inI ((k : Int) + (min k (n - k) : Nat)) := by unfold inI; omega
   have e1 : (k : Int) + (min k (n - k) : Nat) = ((k + min k (n - k) : Nat) : Int) := by omega
   rw [e1] at i1
   have c2 : k * 1 + (n - k) * 1 ≤ n * 1 := by omega
   have c3 : k * 1 ≤ n * 1 := by omega
   have c4 : (k : Int) ≤ n := by omega
   simp only [jA, c1, c4, Zt, Zm, f3 k hk, c2, c3, Nat.sub_zero, Xt, f4 k wN, i1, e1, Qz, Qmi, Qmg, Qx8, Qmh, Qme, Qin, Qht, Qbf, optL, Qfw, Qhx, Qbe, Qfg, Fam.step, Qh6, Qbp, runX, eff, Qaw, fpR, fpQ, fpV, Qmr, hits, nv, sv, Qcb, evO, opv, qv, binV, lenV, slcV, Qg6, kp, Qfi, Qdn, Qfb, ↓reduceIte, Nat.reduceEqDiff, Zp, Qw, Qs, Z1, Z8, Xi, Z5, Q8, Zj, Qp, Xu, Q4, Xz, Zg, Xm, X0, Xv, Zm, Zo, Nat.add_zero, Zf, Xn, Bool.true_and, Xh, Z2, Bool.not_true, Jd, decide_true, true_and, and_self, Xa, Jb, List.any_cons, List.any_nil, Qr, Qv, Qz, Qj]
   exact ⟨n - (k + min k (n - k)), by omega, k + min k (n - k), ⟨by omega, rfl, by omega⟩, rfl⟩
  ·obtain rfl : k = n := by omega
   have yX : ¬ ((k : Int) < k) := by omega
   simp only [yX, f5, Qmg, Qmh, Qme, Qrg, Qx9, Qht, endO, Qfw, Qhx, Qbe, Qfg, Fam.step, Qh6, evO, opv, qv, binV, lenV, kp, Qfi, Qdn, Qfb, ↓reduceIte, Nat.reduceEqDiff, Qw, Qs, Qp, rvs, rv1, resV, Qc, decide_false, and_self]
def W61 (x y : Int) (n : Nat) (h : n ≤ 1000000) : Qd3 TP 44 [.sl 2 [[.i x, .i y]], .i n] (.rf 0 0 0 n 2) [.cells 0 (Qa n [V.i x, V.i y]).flatten] := by
 refine Qku Zeu hmix func44 cf44.b cf44.c cf44.s cf44.n ?_
 have h0 : ¬ ((n : Int) < 0) := by omega
 have u1 : IntKind.u64.wrap 1 = 1 := Qt8 (by omega)
 have u2 : IntKind.u64.wrap (n : Int) = n := Qt8 (by omega)
 have u3 : IntKind.i64.wrap (n : Int) = n := Zag (by omega)
 have b1 : (0 : Int) ≤ n ∧ (n : Int) ≤ 2147483648 := by omega
 have b2 : ¬ ((9223372036854775807 : Int) < n) := by omega
 have f1 := Zac [V.i x, V.i y] [V.i 0, V.i 0] n
 have f2 := Qna [V.i x, V.i y] [V.i 0, V.i 0] 2 n rfl rfl
 have f3 := fun k (hk : k ≤ n) => Qs6 (es := 2) (r := [V.i x, V.i y]) (z := [V.i 0, V.i 0]) (n := n) rfl rfl hk
 have f4 := fun k (hk : k < n) => Qnb [V.i x, V.i y] [V.i 0, V.i 0] 2 n k rfl rfl hk
 have f5 := Qs5 [V.i x, V.i y] [V.i 0, V.i 0] n
 simp only [rc44, rs44, h0, Qe, vw_w, cvkV, mkI, u1, u2, u3, h67, b1, b2, Int.one_mul, ← f1, f2, f3 0 (Zy _), Zt, Qm, Qx, Qo, Qmi, Qmg, Qmh, Qme, Qin, Qht, putB, Qfw, Qbe, Qfg, Fam.step, Qh6, Qmx, Qm0, Qbp, Qdf, ug, putB, nv, sv, Qcb, evO, opv, qv, Qii, binV, binW, lenV, Qti, Qan, Qa8, flat, Qmt, Qfi, Qdn, Qfb, ↓reduceIte, Nat.reduceEqDiff, Nat.reduceAdd, Nat.reduceLT, Int.reduceLE, Qw, Qs, Z1, Z8, Zr, Ja, Q8, Zj, Qp, Q3, Q4, Zg, zipA, Q1, beq_self_eq_true, Zo, Zf, Z2, Qc, decide_false, true_and, and_self, forall_const, implies_true, reduceCtorEq, Qz]
 refine Qjt (fun j σ => ∃ k : Nat, (k ≤ n ∧ j = n - k ∧ (k = 0 → n = 0)) ∧ σ = ⟨lkp [(7, .rf 0 0 0 n 2), (8, .i k)], [.cells 0 (Qeq [V.i x, V.i y] [V.i 0, V.i 0] n k)]⟩) ⟨n - min 1 n, min 1 n, ⟨by omega, rfl, by omega⟩, ?_⟩ ?_
 ·simp only [kp, Qdn, Qfb, ↓reduceIte, Nat.reduceEqDiff, Qw, Qs]
 ·rintro j _ ⟨k, ⟨hk, rfl, u4⟩, rfl⟩
  by_cases jA : (k : Int) < n
  ·have wN : k < n := by omega
   have c1 : 0 < (k : Int) := by omega
   have i1 : inI ((k : Int) + (min k (n - k) : Nat)) := by unfold inI; omega
   have e1 : (k : Int) + (min k (n - k) : Nat) = ((k + min k (n - k) : Nat) : Int) := by omega
   rw [e1] at i1
   have c2 : k * 2 + (n - k) * 2 ≤ n * 2 := by omega
   have c3 : k * 2 ≤ n * 2 := by omega
   have c4 : (k : Int) ≤ n := by omega
   simp only [jA, c1, c4, Zt, Zm, f3 k hk, c2, c3, Nat.sub_zero, Xt, f4 k wN, i1, e1, Qz, Qmi, Qmg, Qx8, Qmh, Qme, Qin, Qht, Qbf, optL, Qfw, Qhx, Qbe, Qfg, Fam.step, Qh6, Qbp, runX, eff, Qaw, fpR, fpQ, fpV, Qmr, hits, nv, sv, Qcb, evO, opv, qv, binV, lenV, slcV, Qg6, kp, Qfi, Qdn, Qfb, ↓reduceIte, Nat.reduceEqDiff, Zp, Qw, Qs, Z1, Z8, Xi, Z5, Q8, Zj, Qp, Xu, Q4, Xz, Zg, Xm, X0, Xv, Zm, Zo, Nat.add_zero, Zf, Xn, Bool.true_and, Xh, Z2, Bool.not_true, Jd, decide_true, true_and, and_self, Xa, Jb, List.any_cons, List.any_nil, Qr, Qv, Qz, Qj]
   exact ⟨n - (k + min k (n - k)), by omega, k + min k (n - k), ⟨by omega, rfl, by omega⟩, rfl⟩
  ·obtain rfl : k = n := by omega
   have yX : ¬ ((k : Int) < k) := by omega
   simp only [yX, f5, Qmg, Qmh, Qme, Qrg, Qx9, Qht, endO, Qfw, Qhx, Qbe, Qfg, Fam.step, Qh6, evO, opv, qv, binV, lenV, kp, Qfi, Qdn, Qfb, ↓reduceIte, Nat.reduceEqDiff, Qw, Qs, Qp, rvs, rv1, resV, Qc, decide_false, and_self]
def s61 : List V → Prop × V | [.sl 2 [[.i x, .i y]], .i n] => (0 ≤ n ∧ n ≤ 1000000, .tp [.rf 0 0 0 n.toNat 2, .tp [bV (.cells 0 (Qa n.toNat [V.i x, V.i y]).flatten)]]) | _ => (False, .u)
def Zlf (xs : List V) (v : V) (bs : List V) (h : (s61 xs).1) (h2 : (s61 xs).2 = .tp [v, .tp bs]) : Qd3 TP 44 xs v (bs.map vB) := by
 unfold s61 at h h2
 split at h
 ·rename_i x y n
  simp only [V.tp.injEq, Je.injEq, and_true] at h2
  obtain ⟨rfl, rfl⟩ := h2
  have hn : n = (n.toNat : Int) := by omega
  have := W61 x y n.toNat (by omega)
  rw [← hn] at this
  simpa only [Qw, Qs, Qb2] using this
 ·exact h.elim
def s40 : List V → Prop × V | [.sl 1 [[.i x]], .i n] => (0 ≤ n ∧ n ≤ 1000000, .tp [.rf 0 0 0 n.toNat 1, .tp [bV (.cells 0 (Qa n.toNat [V.i x]).flatten)]]) | _ => (False, .u)
def Zle (xs : List V) (v : V) (bs : List V) (h : (s40 xs).1) (h2 : (s40 xs).2 = .tp [v, .tp bs]) : Qd3 TP 58 xs v (bs.map vB) := by
 unfold s40 at h h2
 split at h
 ·rename_i x n
  simp only [V.tp.injEq, Je.injEq, and_true] at h2
  obtain ⟨rfl, rfl⟩ := h2
  have hn : n = (n.toNat : Int) := by omega
  have := W40 x n.toNat (by omega)
  rw [← hn] at this
  simpa only [Qw, Qs, Qb2] using this
 ·exact h.elim
def Zl4 (n : Nat) (x : Int) : Qa n [V.i x] = (Qa n x).map eI := by simp [eI]
def p40 : List V → Prop × V | [.sl 1 [[.i x]], .i n] => (0 ≤ n ∧ n ≤ 1000000, .sl 1 ((Qa n.toNat x).map eI)) | _ => (False, .u)
def Zkw (xs : List V) (h : (p40 xs).1) : Qa1 TP 58 xs (p40 xs).2 := by
 unfold p40 at h ⊢
 split at h
 ·rename_i x n
  have hn : n = (n.toNat : Int) := by omega
  have := (W40 x n.toNat (by omega)).toPure
  rw [← hn, Zl4] at this
  have e : vw [.cells 0 ((Qa n.toNat x).map eI).flatten] 8 (.rf 0 0 0 n.toNat 1) = .sl 1 ((Qa n.toNat x).map eI) := by
   have h1 := Qam (Qa n.toNat x)
   have h2 := Qaz (Qa n.toNat x)
   rw [Q0] at h1 h2
   simp only [h2, Ze, Qm, h1, vw_I, ↓reduceIte, Qp, Qqj, Zo, and_self]
  rw [e] at this
  exact this
 ·exact h.elim
def K76 := ((K75.ext 1000044 s61).ext 1000058 s40).ext 58 p40
def Zke : GOk TP K76 := ((Zeu.extO (f := 44) (r := s61) (fun a w => call44 a w) Zlf).extO (f := 58) (r := s40) (fun a w => call58 a w) Zle).ext (f := 58) (r := p40) (fun a w => call58 a w) Zkw
def h61 (x y n : Int) : K76 1000044 [.sl 2 [[.i x, .i y]], .i n] = (0 ≤ n ∧ n ≤ 1000000, .tp [.rf 0 0 0 n.toNat 2, .tp [bV (.cells 0 (Qa n.toNat [V.i x, V.i y]).flatten)]]) := rfl
def h40o (x n : Int) : K76 1000058 [.sl 1 [[.i x]], .i n] = (0 ≤ n ∧ n ≤ 1000000, .tp [.rf 0 0 0 n.toNat 1, .tp [bV (.cells 0 (Qa n.toNat [V.i x]).flatten)]]) := rfl
def h40 (x n : Int) : K76 58 [.sl 1 [[.i x]], .i n] = (0 ≤ n ∧ n ≤ 1000000, .sl 1 ((Qa n.toNat x).map eI)) := rfl
def h58 (s : Shop) : K76 41 [.ag (Qat s)] = (SmallS s, .i (Qcl s)) := (show K76 41 _ = fnG eH1 dH1 SmallS Qcl .i (eH1 s) from rfl).trans (Qap _ (Qqp s))
def Zfw (w : Work) (i : Int) := lft K76 (h59 w i) rfl
def Qzs (w : Work) (i m k : Int) := lft K76 (h60 w i m k) rfl
def Qyd : Qar TP 113 3 := Qar.of (fs := _) (show TP.underlying 113 = some (.struct (TP.fieldsOf 113)) by kernel_rfl) (by kernel_rfl) (by kernel_rfl)
def cntM (xs : List (List Int)) : AM Int := xs.foldl (fun m k => aput m k ((aget m k).getD 0 + 1)) []
def Qfz (xs : List (List Int)) (k : List Int) : cntM (xs ++ [k]) = aput (cntM xs) k ((aget (cntM xs) k).getD 0 + 1) := by simp [cntM]
def Qn5 (xs : List (List Int)) : (aks (cntM xs)).Nodup := Qb0 (p := fun xs => (aks (cntM xs)).Nodup) (by simp [cntM, aks]) (fun l a h => by rw [Qfz]; exact Qfx h _ _) xs
def Qny (xs : List (List Int)) (h3 : ∀ k ∈ xs, k.length = 3) : ∀ k ∈ aks (cntM xs), k.length = 3 := by
 revert h3
 refine Qb0 (p := fun xs => (∀ k ∈ xs, k.length = 3) → ∀ k ∈ aks (cntM xs), k.length = 3) (fun _ => by simp [cntM, aks]) (fun l a ih h k hk => ?_) xs
 rw [Qfz, Qeh, Qkt] at hk
 rcases hk with hk | rfl
 ·exact ih (fun k hk => h k (by simp [hk])) k hk
 ·exact h _ (by simp)
def Qnx (xs : List (List Int)) : ∀ k, (k ∈ xs → ∃ n : Int, 1 ≤ n ∧ n ≤ xs.length ∧ aget (cntM xs) k = some n) ∧ (k ∉ xs → aget (cntM xs) k = none) := by
 refine Qb0 (p := fun xs => ∀ k, (k ∈ xs → ∃ n : Int, 1 ≤ n ∧ n ≤ xs.length ∧ aget (cntM xs) k = some n) ∧ (k ∉ xs → aget (cntM xs) k = none)) (fun k => by simp [cntM, aget]) (fun l a ih k => ?_) xs
 rw [Qfz, Qkj]
 by_cases e : k = a
 ·subst e
  refine ⟨fun _ => ?_, fun h => absurd (by simp) h⟩
  rw [if_pos rfl]
  by_cases hk : k ∈ l
  ·obtain ⟨n, h1, h2, h3⟩ := (ih k).1 hk
   refine ⟨n + 1, by omega, by simp; omega, by rw [h3]; rfl⟩
  ·rw [(ih k).2 hk]
   exact ⟨1, by omega, by simp; omega, rfl⟩
 ·rw [if_neg e]
  refine ⟨fun h => ?_, fun h => (ih k).2 fun h' => h (by simp [h'])⟩
  have hk : k ∈ l := by
   rcases Qi.1 h with h | h
   ·exact h
   ·simp at h; exact absurd h e
  obtain ⟨n, h1, h2, h3⟩ := (ih k).1 hk
  exact ⟨n, h1, by simp; omega, h3⟩
def kK (w : Work) (i m : Int) (k : Nat) : List (List Int) := ((Qn k).filter fun (j : Nat) => decide (fitN w i m (j : Int) = 1)).map fun (j : Nat) => [i, m, (j : Int)]
def kM (w : Work) (i : Int) (m : Nat) : List (List Int) := (Qn m).flatMap fun (a : Nat) => kK w i (a : Int) (Qav w (a : Int)).length
def kTI (w : Work) (n : Nat) : List (List Int) := (Qn n).flatMap fun (i : Nat) => kM w (i : Int) w.makes.length
def Qw0 (w : Work) (i m : Int) (k : Nat) : kK w i m (k + 1) = if fitN w i m (k : Int) = 1 then kK w i m k ++ [[i, m, (k : Int)]] else kK w i m k := by
 unfold kK
 rw [Zi, List.filter_append, Qk]
 by_cases h : fitN w i m (k : Int) = 1 <;> simp [h]
def Qw2 (w : Work) (i : Int) (m : Nat) : kM w i (m + 1) = kM w i m ++ kK w i (m : Int) (Qav w (m : Int)).length := by simp [kM, Zi]
def Qvy (w : Work) (n : Nat) : kTI w (n + 1) = kTI w n ++ kM w (n : Int) w.makes.length := by simp [kTI, Zi]
def kK_3 {w : Work} {i m : Int} {k : Nat} : ∀ x ∈ kK w i m k, x.length = 3 := by
 intro x hx
 unfold kK at hx
 obtain ⟨j, _, rfl⟩ := Xw.1 hx
 rfl
def kM_3 {w : Work} {i : Int} {m : Nat} : ∀ x ∈ kM w i m, x.length = 3 := by
 intro x hx
 obtain ⟨j, _, h⟩ := Z6.1 hx
 exact kK_3 x h
def kI_3 {w : Work} {n : Nat} : ∀ x ∈ kTI w n, x.length = 3 := by
 intro x hx
 obtain ⟨j, _, h⟩ := Z6.1 hx
 exact kM_3 x h
def Qvz (w : Work) (i m : Int) (k : Nat) : (kK w i m k).length ≤ k := by
 unfold kK
 rw [Zc]
 refine Zn (Xe _ _) (by simp)
def Qdg {α β : Type} (f : α → List β) (c : Nat) : ∀ l : List α, (∀ x ∈ l, (f x).length ≤ c) → (l.flatMap f).length ≤ l.length * c
 | [], _ => by simp
 | a :: l, h => by
  have h1 := Qdg f c l fun x hx => h x (by simp [hx])
  have h2 := h a (by simp)
  rw [Xx, Qh, Zr, Zx]
  omega
def Qw1 {w : Work} (h : OkW w) (i : Int) (m : Nat) (hm : m ≤ w.makes.length) : (kM w i m).length ≤ 24 := by
 have := Qdg (fun (a : Nat) => kK w i (a : Int) (Qav w (a : Int)).length) 4 (Qn m) fun a ha => by
  refine Zn (Qvz _ _ _ _) ?_
  have ha' := Zb.1 ha
  have hg : w.makes[a]? = some (Qav w (a : Int)) := by
   have := (Qdo (w := w) (m := (a : Int)) (Qal.2 (by omega))).2.2
   simpa using this
  exact (h.make _ (Qb hg)).1
 rw [Zz] at this
 have := h.nmk
 unfold kM; omega
def Zah {w : Work} (h : OkW w) (n : Nat) (hn : n ≤ 10) : (kTI w n).length ≤ 240 := by
 have := Qdg (fun (i : Nat) => kM w (i : Int) w.makes.length) 24 (Qn n) fun a _ => Qw1 h _ _ (Qm _)
 rw [Zz] at this
 unfold kTI; omega
def eSp (p : Int × Int) : List V := [.i p.1, .i p.2]
def dSp : List V → Int × Int | [.i a, .i b] => (a, b) | _ => (0, 0)
def Qtl (p : Int × Int) : dSp (eSp p) = p := rfl
def Qbu (l : List Int) (k : Nat) : List (Int × Int) := (Qn k).flatMap fun (i : Nat) => Qa (l.getD i 0).toNat ((i : Int), (0 : Int))
def delL (l : List Del) : List (Int × Int) := l.flatMap fun d => Qa d.many.toNat (d.spare, d.day)
def Qbc (s : Shop) : List (Int × Int) := Qbu s.stock s.stock.length ++ delL s.dels
def Qca (w : Work) : AM Int := cntM (kTI w w.spares.length)
def Qba (s : Shop) : List V := [.sl 4 (s.work.spares.map eSpare), .sl 1 (s.work.makes.map eMake), .i s.work.cut, .sl 4 (s.work.table.map eTrial), .sl 1 (s.stock.map eI), .sl 5 (s.pieces.map ePiece), .sl 6 (s.wishes.map eWish), .sl 3 (s.dels.map eDel), .i s.carve,
 .sl 2 ((Qbc s).map eSp), .pm true (aks (Qca s.work)) (avs .i (Qca s.work))]
def stE (s : Shop) : Qba s = [.sl 4 (s.work.spares.map eSpare), .sl 1 (s.work.makes.map eMake), .i s.work.cut, .sl 4 (s.work.table.map eTrial), .sl 1 (s.stock.map eI), .sl 5 (s.pieces.map ePiece), .sl 6 (s.wishes.map eWish), .sl 3 (s.dels.map eDel), .i s.carve,
 .sl 2 ((Qbc s).map eSp), .pm true (aks (Qca s.work)) (avs .i (Qca s.work))] := rfl
def Qd4 : List V → Shop | [a, b, c, d, e, f, g, h, i, _, _] => Qh0 [a, b, c, d, e, f, g, h, i] | _ => Qh0 []
def Qgn (s : Shop) : Qd4 (Qba s) = s := Qhj s
def Qjs (s : Shop) (is : Bool) : V := if Qd7 s is = 0 then .tp [.pa (Qba s), .i 0] else .tp [.pn, .i (Qd7 s is)]
def Qha (l : List (Int × Int)) : ((l.map eSp).flatten).length = l.length * 2 := Qag (e := eSp) (k := 2) (fun _ => rfl) l
def Qd9 (l : List (Int × Int)) : Qa8 ((l.map eSp).flatten) = false := Qa5 (e := eSp) (fun _ => rfl) l
def Qrw (l : List (Int × Int)) : Qbi 2 ((l.map eSp).flatten) 0 l.length = l.map eSp := Qa9 (e := eSp) (k := 2) (fun _ => rfl) l
def Zlu (hp : List Blk) (n : Nat) (l : List (Int × Int)) : (l.map eSp).map (fun r => r.map (vw hp (n + 1))) = l.map eSp := Qa6 (e := eSp) hp (n + 1) (fun _ => rfl) l
def Zl3 (n : Nat) (x y : Int) : (Qa n [V.i x, V.i y]).flatten = ((Qa n (x, y)).map eSp).flatten := by simp [eSp]
structure OkSh (s : Shop) : Prop where
 stock : s.stock.length = s.work.spares.length
 npc : s.pieces.length ≤ 8
 nwi : s.wishes.length ≤ 6
 nde : s.dels.length ≤ 8
 carve : 0 ≤ s.carve ∧ s.carve ≤ 99
 st : ∀ n ∈ s.stock, 0 ≤ n ∧ n ≤ 10
 pc : ∀ p ∈ s.pieces, Qc7 s p = true
 wi : ∀ x ∈ s.wishes, okWish x = true
 de : ∀ d ∈ s.dels, Qge s d = true
def Qmj {s : Shop} (h : Qcl s = 0) : OkW s.work ∧ OkSh s := by
 unfold Qcl at h
 split at h
 ·rename_i h1; exact absurd h h1
 ·rename_i h1
  split at h
  ·rename_i h2
   refine ⟨Qnm (Qjw (by omega)), ?_⟩
   unfold Qex at h2
   simp only [Qq, decide_eq_true_eq, X1, Qal] at h2
   obtain ⟨⟨⟨⟨⟨⟨⟨⟨a1, a2⟩, a3⟩, a4⟩, a5⟩, a6⟩, a7⟩, a8⟩, a9⟩ := h2
   exact ⟨a1, by omega, by omega, by omega, a5, a6, a7, a8, a9⟩
  ·omega
def Qsy (k n : Nat) (x y : Int) : shL k (Qa n [V.i x, V.i y]).flatten = ((Qa n (x, y)).map eSp).flatten := by
 rw [Zl3, Qda _ _ (Qd9 _)]
def Zcd (hp : List Blk) (n : Nat) (m : AM Int) : (avs V.i m).map (vw hp (n + 1)) = avs V.i m := by
 unfold avs
 rw [Zv]; rfl
def Qo2 {s : Shop} {d : Del} (h : Qge s d = true) : d.many ≤ 10 := by
 unfold Qge at h
 rw [Qq] at h
 exact (Qal.1 h.2).2
def Qo1 {l : List Del} (h : ∀ d ∈ l, d.many ≤ 10) : (delL l).length ≤ l.length * 10 :=
 Qdg _ 10 l fun d hd => by rw [Q0]; have := h d hd; omega
def Qf3 {l : List Int} (h : ∀ x ∈ l, x ≤ 10) (k : Nat) : (Qbu l k).length ≤ k * 10 := by
 have := Qdg (fun (i : Nat) => Qa (l.getD i 0).toNat ((i : Int), (0 : Int))) 10 (Qn k) fun i _ => by
  rw [Q0, Qj]
  cases e : l[i]? with
  | none => simp
  | some x => have := h x (Qb e); simp; omega
 rw [Zz] at this
 exact this
def Qhu (l : List Int) (k : Nat) : Qbu l (k + 1) = Qbu l k ++ Qa (l.getD k 0).toNat ((k : Int), (0 : Int)) := by simp [Qbu, Zi]
def Qp9 (l : List Del) (d : Del) : delL (l ++ [d]) = delL l ++ Qa d.many.toNat (d.spare, d.day) := by simp [delL]
def stC (s : Shop) (v : V) : List V := [.sl 4 (s.work.spares.map eSpare), .sl 1 (s.work.makes.map eMake), .i s.work.cut, .sl 4 (s.work.table.map eTrial), .sl 1 (s.stock.map eI), .sl 5 (s.pieces.map ePiece), .sl 6 (s.wishes.map eWish), .sl 3 (s.dels.map eDel), .i s.carve, v, .mp 0 0]
def mpB (ks : List (List Int)) : Blk := .map true (aks (cntM ks)) (avs .i (cntM ks))
def Qbh (ks : List (List Int)) : Qa8 (avs V.i (cntM ks)) = false := Qgc (fun _ => rfl) _
def W34 (s : Shop) (is : Bool) (hs : SmallS s) : Qa1 TP 22 [.ag (Qat s), .b is] (Qjs s is) := by
 refine pc Zke func22 cf22 ?_
 have g1 := h58 s
 simp only [Qat] at g1
 by_cases h0 : Qcl s = 0
 rotate_left
 ·simp only [rc22, rs22, g1, hs, h0, BL, simprocAttr]; simp [Qjs, Qd7, h0]
 cases is with
 | false => simp only [rc22, rs22, g1, hs, h0, BL, simprocAttr]; simp [Qjs, Qd7, h0]
 | true =>
 obtain ⟨hO, hSh⟩ := Qmj h0
 have hw := hs.work
 have hE : Qd7 s true = Qb5 s.work true := by simp [Qd7, h0]
 have g2 := Zfw s.work 0
 simp only [Qaj] at g2
 have jQ := hSh.stock
 have vI := hO.nsp
 by_cases hz : (0 : Int) < s.stock.length
 ·have rL : isSp s.work 0 = true := by unfold isSp; exact Qal.2 (by omega)
  unfold Qlu at g2
  rw [rL] at g2
  by_cases e0 : Qb5 s.work true = 0
  rotate_left
  ·rw [if_neg e0] at g2
   simp only [rc22, rs22, g1, hs, h0, hz, g2, hw, e0, BL, simprocAttr]
   simp [Qjs, hE, e0]
  rw [if_pos e0] at g2
  generalize (Qcx s.work 0).headD 0 = l1 at g2
  generalize (Qcx s.work 0).getD ((Qcx s.work 0).length - 1) 0 = l2 at g2
  simp only [rc22, rs22, g1, hs, h0, hz, g2, hw, ↓BU3, BL, simprocAttr]
  refine Qaq s.stock.length (fun i => ⟨lkp [(2, .pa (Qat s)), (7, .ad 1 0 0), (46, .i s.stock.length), (47, .i i)], [mpB (kTI s.work i), .cells 0 (stC s (.z 2))]⟩) ?_ ?_ ?_
  ·simp only [Qg, mpB, cntM, kTI, Q2, Q6, aks, avs, stC, BL, simprocAttr]
  ·intro i hi
   have jA : (i : Int) < s.stock.length := by omega
   have i1 : inI ((i : Int) + 1) := by unfold inI; omega
   have iI : isSp s.work (i : Int) = true := Qal.2 (by omega)
   simp only [jA, stC, BL, simprocAttr]
   refine Qaq s.work.makes.length (fun m => ⟨lkp [(2, .pa (Qat s)), (7, .ad 1 0 0), (10, .i i), (46, .i s.stock.length), (47, .i i), (52, .sl 1 (s.work.makes.map eMake)), (53, .i s.work.makes.length), (54, .i m)], [mpB (kTI s.work i ++ kM s.work i m), .cells 0 (stC s (.z 2))]⟩) ?_ ?_ ?_
   ·simp only [Qg, stC, mpB, Qa0 _ _ _ (Qbh _), kM, Q2, Q6, BL, simprocAttr]
   ·intro m hm
    have qK : (m : Int) < s.work.makes.length := by omega
    have aD := hO.nmk
    have i2 : inI ((m : Int) + 1) := by unfold inI; omega
    have nD := (Qdo (w := s.work) (m := (m : Int)) (Qal.2 (by omega))).2.2
    have zN : s.work.makes[m]? = some (Qav s.work (m : Int)) := by simpa using nD
    have nE := (hO.make _ (Qb zN)).1
    simp only [qK, zN, stC, BL, simprocAttr]
    refine Qaq (Qav s.work (m : Int)).length (fun k => ⟨lkp [(2, .pa (Qat s)), (7, .ad 1 0 0), (10, .i i), (11, .i m), (46, .i s.stock.length), (47, .i i), (52, .sl 1 (s.work.makes.map eMake)), (53, .i s.work.makes.length), (54, .i m), (61, .i (Qav s.work (m : Int)).length), (62, .i k)], [mpB (kTI s.work i ++ kM s.work i m ++ kK s.work i m k), .cells 0 (stC s (.z 2)), .cells 0 [.sl 4 ((Qav s.work (m : Int)).map eSlot)]]⟩) ?_ ?_ ?_
    ·simp only [Qg, stC, mpB, kK, Q2, Jc, BL, simprocAttr]
    ·intro k hk
     have vS : (k : Int) < (Qav s.work (m : Int)).length := by omega
     have i3 : inI ((k : Int) + 1) := by unfold inI; omega
     have xD : Qay s.work (m : Int) (k : Int) = true := by
      unfold Qay
      rw [Qq]
      exact ⟨Qal.2 (by omega), Qal.2 (by omega)⟩
     have g3 := Qzs s.work i m k
     unfold Qtr at g3
     rw [iI, xD] at g3
     simp only [Zf, e0, if_true, Qaj] at g3
     have gZ := Qw0 s.work i m k
     by_cases hf : fitN s.work (i : Int) (m : Int) (k : Int) = 1
     ·rw [if_pos hf] at gZ
      obtain ⟨X, hX⟩ : ∃ X, X = kTI s.work i ++ kM s.work (i : Int) m ++ kK s.work (i : Int) (m : Int) k := ⟨_, rfl⟩
      have hX1 : kTI s.work i ++ kM s.work (i : Int) m ++ kK s.work (i : Int) (m : Int) (k + 1) = X ++ [[(i : Int), (m : Int), (k : Int)]] := by rw [gZ, hX]; simp
      have hX3 : ∀ x ∈ X, x.length = 3 := by
       rw [hX]
       intro x hx
       rcases Qi.1 hx with hx | hx
       ·rcases Qi.1 hx with hx | hx
        ·exact kI_3 x hx
        ·exact kM_3 x hx
       ·exact kK_3 x hx
      have hXl : X.length ≤ 268 := by
       have a1 := Zah hO i (by omega)
       have a2 := Qw1 hO i m (by omega)
       have a3 := Qvz s.work i m k
       rw [hX, Qh, Qh]; omega
      have wI := Qny X hX3
      have vK := Qn5 X
      have y6 := Qbh X
      have zU := Qbh (X ++ [[(i : Int), (m : Int), (k : Int)]])
      have jT := Qj0 V.i (cntM X) [(i : Int), (m : Int), (k : Int)]
      have d8 := Qnx X [(i : Int), (m : Int), (k : Int)]
      have uN := Qfz X [(i : Int), (m : Int), (k : Int)]
      obtain ⟨a, ha, u0⟩ : ∃ a : Int, (0 ≤ a ∧ a ≤ 268) ∧ (aget (cntM X) [(i : Int), (m : Int), (k : Int)]).getD 0 = a ∧ ((avs V.i (cntM X))[(aks (cntM X)).idxOf [(i : Int), (m : Int), (k : Int)]]?).getD (.i 0) = .i a := by
       by_cases k8 : [(i : Int), (m : Int), (k : Int)] ∈ X
       ·obtain ⟨n, h1, h2, h3⟩ := d8.1 k8
        rw [h3] at jT
        exact ⟨n, by omega, by rw [h3]; rfl, by rw [jT]; rfl⟩
       ·have h3 := d8.2 k8
        rw [h3] at jT
        exact ⟨0, by omega, by rw [h3]; rfl, by rw [jT]; rfl⟩
      have i4 : inI (a + 1) := by unfold inI; omega
      rw [u0.1] at uN
      have kO : Blk.map true (putK (aks (cntM X)) [(i : Int), (m : Int), (k : Int)]) ((if [(i : Int), (m : Int), (k : Int)] ∈ aks (cntM X) then avs V.i (cntM X) else avs V.i (cntM X) ++ [.i 0]).set ((aks (cntM X)).idxOf [(i : Int), (m : Int), (k : Int)]) (.i (a + 1))) = mpB (X ++ [[(i : Int), (m : Int), (k : Int)]]) := by
       unfold mpB
       rw [Qwf (Quu _ _), uN, Qeh, ← Ql1 vK]
      have q7 : ((aks (cntM X)).idxOf [(i : Int), (m : Int), (k : Int)] : Int) < (putK (aks (cntM X)) [(i : Int), (m : Int), (k : Int)]).length := by
       have : (aks (cntM X)).idxOf [(i : Int), (m : Int), (k : Int)] < (putK (aks (cntM X)) [(i : Int), (m : Int), (k : Int)]).length := by
        unfold putK
        split
        ·rename_i h; exact Z3.2 h
        ·rename_i h; rw [Xj h]; simp
       omega
      have j9 := u0.2
      rw [← hX, hX1]
      generalize mpB (X ++ [[(i : Int), (m : Int), (k : Int)]]) = R at *
      simp only [vS, g3, hw, hf, stC, mpB, Qyd, j9, i4, q7, kO, i3, Qf, Qe, BL, simprocAttr]
      exact wI
     ·rw [if_neg hf] at gZ
      simp only [vS, g3, hw, hf, i3, gZ, stC, Qf, Qe, BL, simprocAttr]
    ·have vS : ¬ (((Qav s.work (m : Int)).length : Int) < (Qav s.work (m : Int)).length) := by omega
     have nF := Qw2 s.work (i : Int) m
     simp only [vS, i2, stC, mpB, Qa0 _ _ _ (Qbh _), nF, ← Qt, Qf, Qe, ↓BU3, BL, simprocAttr]
   ·have qK : ¬ ((s.work.makes.length : Int) < s.work.makes.length) := by omega
    have iJ := Qvy s.work i
    simp only [qK, i1, stC, mpB, Qa0 _ _ _ (Qbh _), iJ, Qf, Qe, ↓BU3, BL, simprocAttr]
  ·have jA : ¬ ((s.stock.length : Int) < s.stock.length) := by omega
   simp only [jA, stC, BL, simprocAttr]
   refine Qaq s.stock.length (fun i => ⟨lkp [(2, .pa (Qat s)), (7, .ad 1 0 0), (92, .sl 1 (s.stock.map eI)), (93, .i s.stock.length), (94, .i i)], [mpB (kTI s.work s.stock.length), .cells 0 (stC s (.rf 2 i 0 (Qbu s.stock i).length 2)), .cells i ((Qbu s.stock i).map eSp).flatten]⟩) ?_ ?_ ?_
   ·simp only [Qg, stC, mpB, Qa0 _ _ _ (Qbh _), Qbu, Q2, Q6, Qo, BL, simprocAttr]
   ·intro i hi
    have jA : (i : Int) < s.stock.length := by omega
    have i1 : inI ((i : Int) + 1) := by unfold inI; omega
    obtain ⟨n, hn⟩ : ∃ n, s.stock[i]? = some n := ⟨_, Qd hi⟩
    have bX := hSh.st n (Qb hn)
    have uO : 0 ≤ n ∧ n ≤ 1000000 := by omega
    have r1 := Qsy 3 n.toNat (i : Int) 0
    have r2 := Qha (Qa n.toNat ((i : Int), (0 : Int)))
    rw [Q0] at r2
    have r3 : (((Qa n.toNat ((i : Int), (0 : Int))).map eSp).flatten).take (n.toNat * 2) = ((Qa n.toNat ((i : Int), (0 : Int))).map eSp).flatten := Qu (by omega)
    have xD := Qhu s.stock i
    rw [Qj, hn, Q4] at xD
    have qI := Qf3 (fun x hx => (hSh.st x hx).2) i
    have f1 : Qaf ((Qbu s.stock i).length + n.toNat) := by unfold Qaf; omega
    have y6 : Qa8 (((Qbu s.stock i).map eSp).flatten ++ ((Qa n.toNat ((i : Int), (0 : Int))).map eSp).flatten) = false := by rw [Qa2, Qd9, Qd9]; rfl
    simp only [jA, hn, stC, h61, uO, r1, r2, r3, Qa0 _ _ _ y6, Qm, Qha, f1, mpB, Qa0 _ _ _ (Qbh _), xD, Qk, Ql, Qh, i1, Qf, Qe, ↓BU3, BL, simprocAttr]
   ·have jA : ¬ ((s.stock.length : Int) < s.stock.length) := by omega
    simp only [jA, stC, BL, simprocAttr]
    refine Qaq s.dels.length (fun i => ⟨lkp [(7, .ad 1 0 0), (114, .sl 3 (s.dels.map eDel)), (115, .i s.dels.length), (116, .i i)], [mpB (kTI s.work s.stock.length), .cells 0 (stC s (.rf 2 (s.stock.length + i) 0 (Qbu s.stock s.stock.length ++ delL (s.dels.take i)).length 2)), .cells (s.stock.length + i) ((Qbu s.stock s.stock.length ++ delL (s.dels.take i)).map eSp).flatten]⟩) ?_ ?_ ?_
    ·simp only [Qg, stC, mpB, Qa0 _ _ _ (Qbh _), Qa0 _ _ _ (Qd9 _), delL, Q6, BU2, simprocAttr]
    ·intro i hi
     have jA : (i : Int) < s.dels.length := by omega
     have vK := hSh.nde
     have i1 : inI ((i : Int) + 1) := by unfold inI; omega
     obtain ⟨d, hd⟩ : ∃ d, s.dels[i]? = some d := ⟨_, Qd hi⟩
     have zG := hSh.de d (Qb hd)
     have rM : 1 ≤ d.many ∧ d.many ≤ 10 := by
      unfold Qge at zG
      rw [Qq] at zG
      exact Qal.1 zG.2
     have uO : 0 ≤ d.many ∧ d.many ≤ 1000000 := by omega
     have r1 := Qsy 4 d.many.toNat d.spare d.day
     have r2 := Qha (Qa d.many.toNat (d.spare, d.day))
     rw [Q0] at r2
     have r3 : (((Qa d.many.toNat (d.spare, d.day)).map eSp).flatten).take (d.many.toNat * 2) = ((Qa d.many.toNat (d.spare, d.day)).map eSp).flatten := Qu (by omega)
     have xD : delL (s.dels.take (i + 1)) = delL (s.dels.take i) ++ Qa d.many.toNat (d.spare, d.day) := by rw [Qa4 hd, Qp9]
     have f1 : Qaf ((Qbu s.stock s.stock.length ++ delL (s.dels.take i)).length + d.many.toNat) := by
      have a1 := Qf3 (fun x hx => (hSh.st x hx).2) s.stock.length
      have a2 := Qo1 (l := s.dels.take i) (fun x hx => Qo2 (hSh.de x (Xk hx)))
      rw [Zl] at a2
      rw [Qh]; unfold Qaf; omega
     obtain ⟨A, hA⟩ : ∃ A, A = Qbu s.stock s.stock.length ++ delL (s.dels.take i) := ⟨_, rfl⟩
     rw [xD, ← Qt, ← hA]
     rw [← hA] at f1
     have y6 : Qa8 ((A.map eSp).flatten ++ ((Qa d.many.toNat (d.spare, d.day)).map eSp).flatten) = false := by rw [Qa2, Qd9, Qd9]; rfl
     have e1 : s.stock.length + (i + 1) = s.stock.length + i + 1 := rfl
     simp only [jA, hd, stC, h61, uO, r1, r2, r3, e1, Qa0 _ _ _ y6, Qm, Qha, f1, mpB, Qa0 _ _ _ (Qbh _), Qk, Ql, Qh, i1, Qf, Qe, ↓BU3, BL, simprocAttr]
    ·have jA : ¬ ((s.dels.length : Int) < s.dels.length) := by omega
     have uP : Qbu s.stock s.stock.length ++ delL (s.dels.take s.dels.length) = Qbc s := by rw [Za]; rfl
     rw [uP]
     have h1 := Qrw (Qbc s)
     have h2 : avs V.i (cntM (kTI s.work s.stock.length)) = avs V.i (Qca s.work) := by rw [jQ]; rfl
     have h3 : aks (cntM (kTI s.work s.stock.length)) = aks (Qca s.work) := by rw [jQ]; rfl
     have h4 : Qjs s true = .tp [.pa (Qba s), .i 0] := by unfold Qjs; rw [hE, e0]; rfl
     simp only [jA, stC, Qha, Qm, h1, Zlu, Zfo, mpB, h2, h3, h4, Qba, Zcd, BU2, simprocAttr]
 ·have e0 : Qb5 s.work true = 0 := by
   have h1 : Qco s.work = 0 := by
    unfold Qcl at h0
    split at h0
    ·rename_i h2; exact absurd h0 h2
    ·omega
   have h2 : Qcu s.work = false := by
    have : s.work.spares.length = 0 := by omega
    simp [Qcu, this]
   simp [Qb5, h1, h2]
  simp only [rc22, rs22, g1, hs, h0, hz, ↓BU3, BL, simprocAttr]
  refine Qaq s.stock.length (fun i => ⟨lkp [(2, .pa (Qat s)), (7, .ad 1 0 0), (46, .i s.stock.length), (47, .i i)], [mpB (kTI s.work i), .cells 0 (stC s (.z 2))]⟩) ?_ ?_ ?_
  ·simp only [Qg, mpB, cntM, kTI, Q2, Q6, aks, avs, stC, BL, simprocAttr]
  ·intro i hi
   have jA : (i : Int) < s.stock.length := by omega
   have i1 : inI ((i : Int) + 1) := by unfold inI; omega
   have iI : isSp s.work (i : Int) = true := Qal.2 (by omega)
   simp only [jA, stC, BL, simprocAttr]
   refine Qaq s.work.makes.length (fun m => ⟨lkp [(2, .pa (Qat s)), (7, .ad 1 0 0), (10, .i i), (46, .i s.stock.length), (47, .i i), (52, .sl 1 (s.work.makes.map eMake)), (53, .i s.work.makes.length), (54, .i m)], [mpB (kTI s.work i ++ kM s.work i m), .cells 0 (stC s (.z 2))]⟩) ?_ ?_ ?_
   ·simp only [Qg, stC, mpB, Qa0 _ _ _ (Qbh _), kM, Q2, Q6, BL, simprocAttr]
   ·intro m hm
    have qK : (m : Int) < s.work.makes.length := by omega
    have aD := hO.nmk
    have i2 : inI ((m : Int) + 1) := by unfold inI; omega
    have nD := (Qdo (w := s.work) (m := (m : Int)) (Qal.2 (by omega))).2.2
    have zN : s.work.makes[m]? = some (Qav s.work (m : Int)) := by simpa using nD
    have nE := (hO.make _ (Qb zN)).1
    simp only [qK, zN, stC, BL, simprocAttr]
    refine Qaq (Qav s.work (m : Int)).length (fun k => ⟨lkp [(2, .pa (Qat s)), (7, .ad 1 0 0), (10, .i i), (11, .i m), (46, .i s.stock.length), (47, .i i), (52, .sl 1 (s.work.makes.map eMake)), (53, .i s.work.makes.length), (54, .i m), (61, .i (Qav s.work (m : Int)).length), (62, .i k)], [mpB (kTI s.work i ++ kM s.work i m ++ kK s.work i m k), .cells 0 (stC s (.z 2)), .cells 0 [.sl 4 ((Qav s.work (m : Int)).map eSlot)]]⟩) ?_ ?_ ?_
    ·simp only [Qg, stC, mpB, kK, Q2, Jc, BL, simprocAttr]
    ·intro k hk
     have vS : (k : Int) < (Qav s.work (m : Int)).length := by omega
     have i3 : inI ((k : Int) + 1) := by unfold inI; omega
     have xD : Qay s.work (m : Int) (k : Int) = true := by
      unfold Qay
      rw [Qq]
      exact ⟨Qal.2 (by omega), Qal.2 (by omega)⟩
     have g3 := Qzs s.work i m k
     unfold Qtr at g3
     rw [iI, xD] at g3
     simp only [Zf, e0, if_true, Qaj] at g3
     have gZ := Qw0 s.work i m k
     by_cases hf : fitN s.work (i : Int) (m : Int) (k : Int) = 1
     ·rw [if_pos hf] at gZ
      obtain ⟨X, hX⟩ : ∃ X, X = kTI s.work i ++ kM s.work (i : Int) m ++ kK s.work (i : Int) (m : Int) k := ⟨_, rfl⟩
      have hX1 : kTI s.work i ++ kM s.work (i : Int) m ++ kK s.work (i : Int) (m : Int) (k + 1) = X ++ [[(i : Int), (m : Int), (k : Int)]] := by rw [gZ, hX]; simp
      have hX3 : ∀ x ∈ X, x.length = 3 := by
       rw [hX]
       intro x hx
       rcases Qi.1 hx with hx | hx
       ·rcases Qi.1 hx with hx | hx
        ·exact kI_3 x hx
        ·exact kM_3 x hx
       ·exact kK_3 x hx
      have hXl : X.length ≤ 268 := by
       have a1 := Zah hO i (by omega)
       have a2 := Qw1 hO i m (by omega)
       have a3 := Qvz s.work i m k
       rw [hX, Qh, Qh]; omega
      have wI := Qny X hX3
      have vK := Qn5 X
      have y6 := Qbh X
      have zU := Qbh (X ++ [[(i : Int), (m : Int), (k : Int)]])
      have jT := Qj0 V.i (cntM X) [(i : Int), (m : Int), (k : Int)]
      have d8 := Qnx X [(i : Int), (m : Int), (k : Int)]
      have uN := Qfz X [(i : Int), (m : Int), (k : Int)]
      obtain ⟨a, ha, u0⟩ : ∃ a : Int, (0 ≤ a ∧ a ≤ 268) ∧ (aget (cntM X) [(i : Int), (m : Int), (k : Int)]).getD 0 = a ∧ ((avs V.i (cntM X))[(aks (cntM X)).idxOf [(i : Int), (m : Int), (k : Int)]]?).getD (.i 0) = .i a := by
       by_cases k8 : [(i : Int), (m : Int), (k : Int)] ∈ X
       ·obtain ⟨n, h1, h2, h3⟩ := d8.1 k8
        rw [h3] at jT
        exact ⟨n, by omega, by rw [h3]; rfl, by rw [jT]; rfl⟩
       ·have h3 := d8.2 k8
        rw [h3] at jT
        exact ⟨0, by omega, by rw [h3]; rfl, by rw [jT]; rfl⟩
      have i4 : inI (a + 1) := by unfold inI; omega
      rw [u0.1] at uN
      have kO : Blk.map true (putK (aks (cntM X)) [(i : Int), (m : Int), (k : Int)]) ((if [(i : Int), (m : Int), (k : Int)] ∈ aks (cntM X) then avs V.i (cntM X) else avs V.i (cntM X) ++ [.i 0]).set ((aks (cntM X)).idxOf [(i : Int), (m : Int), (k : Int)]) (.i (a + 1))) = mpB (X ++ [[(i : Int), (m : Int), (k : Int)]]) := by
       unfold mpB
       rw [Qwf (Quu _ _), uN, Qeh, ← Ql1 vK]
      have q7 : ((aks (cntM X)).idxOf [(i : Int), (m : Int), (k : Int)] : Int) < (putK (aks (cntM X)) [(i : Int), (m : Int), (k : Int)]).length := by
       have : (aks (cntM X)).idxOf [(i : Int), (m : Int), (k : Int)] < (putK (aks (cntM X)) [(i : Int), (m : Int), (k : Int)]).length := by
        unfold putK
        split
        ·rename_i h; exact Z3.2 h
        ·rename_i h; rw [Xj h]; simp
       omega
      have j9 := u0.2
      rw [← hX, hX1]
      generalize mpB (X ++ [[(i : Int), (m : Int), (k : Int)]]) = R at *
      simp only [vS, g3, hw, hf, stC, mpB, Qyd, j9, i4, q7, kO, i3, Qf, Qe, BL, simprocAttr]
      exact wI
     ·rw [if_neg hf] at gZ
      simp only [vS, g3, hw, hf, i3, gZ, stC, Qf, Qe, BL, simprocAttr]
    ·have vS : ¬ (((Qav s.work (m : Int)).length : Int) < (Qav s.work (m : Int)).length) := by omega
     have nF := Qw2 s.work (i : Int) m
     simp only [vS, i2, stC, mpB, Qa0 _ _ _ (Qbh _), nF, ← Qt, Qf, Qe, ↓BU3, BL, simprocAttr]
   ·have qK : ¬ ((s.work.makes.length : Int) < s.work.makes.length) := by omega
    have iJ := Qvy s.work i
    simp only [qK, i1, stC, mpB, Qa0 _ _ _ (Qbh _), iJ, Qf, Qe, ↓BU3, BL, simprocAttr]
  ·have jA : ¬ ((s.stock.length : Int) < s.stock.length) := by omega
   simp only [jA, stC, BL, simprocAttr]
   refine Qaq s.stock.length (fun i => ⟨lkp [(2, .pa (Qat s)), (7, .ad 1 0 0), (92, .sl 1 (s.stock.map eI)), (93, .i s.stock.length), (94, .i i)], [mpB (kTI s.work s.stock.length), .cells 0 (stC s (.rf 2 i 0 (Qbu s.stock i).length 2)), .cells i ((Qbu s.stock i).map eSp).flatten]⟩) ?_ ?_ ?_
   ·simp only [Qg, stC, mpB, Qa0 _ _ _ (Qbh _), Qbu, Q2, Q6, Qo, BL, simprocAttr]
   ·intro i hi
    have jA : (i : Int) < s.stock.length := by omega
    have i1 : inI ((i : Int) + 1) := by unfold inI; omega
    obtain ⟨n, hn⟩ : ∃ n, s.stock[i]? = some n := ⟨_, Qd hi⟩
    have bX := hSh.st n (Qb hn)
    have uO : 0 ≤ n ∧ n ≤ 1000000 := by omega
    have r1 := Qsy 3 n.toNat (i : Int) 0
    have r2 := Qha (Qa n.toNat ((i : Int), (0 : Int)))
    rw [Q0] at r2
    have r3 : (((Qa n.toNat ((i : Int), (0 : Int))).map eSp).flatten).take (n.toNat * 2) = ((Qa n.toNat ((i : Int), (0 : Int))).map eSp).flatten := Qu (by omega)
    have xD := Qhu s.stock i
    rw [Qj, hn, Q4] at xD
    have qI := Qf3 (fun x hx => (hSh.st x hx).2) i
    have f1 : Qaf ((Qbu s.stock i).length + n.toNat) := by unfold Qaf; omega
    have y6 : Qa8 (((Qbu s.stock i).map eSp).flatten ++ ((Qa n.toNat ((i : Int), (0 : Int))).map eSp).flatten) = false := by rw [Qa2, Qd9, Qd9]; rfl
    simp only [jA, hn, stC, h61, uO, r1, r2, r3, Qa0 _ _ _ y6, Qm, Qha, f1, mpB, Qa0 _ _ _ (Qbh _), xD, Qk, Ql, Qh, i1, Qf, Qe, ↓BU3, BL, simprocAttr]
   ·have jA : ¬ ((s.stock.length : Int) < s.stock.length) := by omega
    simp only [jA, stC, BL, simprocAttr]
    refine Qaq s.dels.length (fun i => ⟨lkp [(7, .ad 1 0 0), (114, .sl 3 (s.dels.map eDel)), (115, .i s.dels.length), (116, .i i)], [mpB (kTI s.work s.stock.length), .cells 0 (stC s (.rf 2 (s.stock.length + i) 0 (Qbu s.stock s.stock.length ++ delL (s.dels.take i)).length 2)), .cells (s.stock.length + i) ((Qbu s.stock s.stock.length ++ delL (s.dels.take i)).map eSp).flatten]⟩) ?_ ?_ ?_
    ·simp only [Qg, stC, mpB, Qa0 _ _ _ (Qbh _), Qa0 _ _ _ (Qd9 _), delL, Q6, BU2, simprocAttr]
    ·intro i hi
     have jA : (i : Int) < s.dels.length := by omega
     have vK := hSh.nde
     have i1 : inI ((i : Int) + 1) := by unfold inI; omega
     obtain ⟨d, hd⟩ : ∃ d, s.dels[i]? = some d := ⟨_, Qd hi⟩
     have zG := hSh.de d (Qb hd)
     have rM : 1 ≤ d.many ∧ d.many ≤ 10 := by
      unfold Qge at zG
      rw [Qq] at zG
      exact Qal.1 zG.2
     have uO : 0 ≤ d.many ∧ d.many ≤ 1000000 := by omega
     have r1 := Qsy 4 d.many.toNat d.spare d.day
     have r2 := Qha (Qa d.many.toNat (d.spare, d.day))
     rw [Q0] at r2
     have r3 : (((Qa d.many.toNat (d.spare, d.day)).map eSp).flatten).take (d.many.toNat * 2) = ((Qa d.many.toNat (d.spare, d.day)).map eSp).flatten := Qu (by omega)
     have xD : delL (s.dels.take (i + 1)) = delL (s.dels.take i) ++ Qa d.many.toNat (d.spare, d.day) := by rw [Qa4 hd, Qp9]
     have f1 : Qaf ((Qbu s.stock s.stock.length ++ delL (s.dels.take i)).length + d.many.toNat) := by
      have a1 := Qf3 (fun x hx => (hSh.st x hx).2) s.stock.length
      have a2 := Qo1 (l := s.dels.take i) (fun x hx => Qo2 (hSh.de x (Xk hx)))
      rw [Zl] at a2
      rw [Qh]; unfold Qaf; omega
     obtain ⟨A, hA⟩ : ∃ A, A = Qbu s.stock s.stock.length ++ delL (s.dels.take i) := ⟨_, rfl⟩
     rw [xD, ← Qt, ← hA]
     rw [← hA] at f1
     have y6 : Qa8 ((A.map eSp).flatten ++ ((Qa d.many.toNat (d.spare, d.day)).map eSp).flatten) = false := by rw [Qa2, Qd9, Qd9]; rfl
     have e1 : s.stock.length + (i + 1) = s.stock.length + i + 1 := rfl
     simp only [jA, hd, stC, h61, uO, r1, r2, r3, e1, Qa0 _ _ _ y6, Qm, Qha, f1, mpB, Qa0 _ _ _ (Qbh _), Qk, Ql, Qh, i1, Qf, Qe, ↓BU3, BL, simprocAttr]
    ·have jA : ¬ ((s.dels.length : Int) < s.dels.length) := by omega
     have uP : Qbu s.stock s.stock.length ++ delL (s.dels.take s.dels.length) = Qbc s := by rw [Za]; rfl
     rw [uP]
     have h1 := Qrw (Qbc s)
     have h2 : avs V.i (cntM (kTI s.work s.stock.length)) = avs V.i (Qca s.work) := by rw [jQ]; rfl
     have h3 : aks (cntM (kTI s.work s.stock.length)) = aks (Qca s.work) := by rw [jQ]; rfl
     have h4 : Qjs s true = .tp [.pa (Qba s), .i 0] := by unfold Qjs; rw [hE, e0]; rfl
     simp only [jA, stC, Qha, Qm, h1, Zlu, Zfo, mpB, h2, h3, h4, Qba, Zcd, BU2, simprocAttr]
def K77 := K76.ext 22 (fnG eHB dHB (fun a => SmallS a.1) (fun a => Qjs a.1 a.2) (fun v => v))
def Zkf : GOk TP K77 := Zke.ext call22 (Qa7 fun a h => W34 a.1 a.2 h)
def h34 (s : Shop) (is : Bool) : K77 22 [.ag (Qat s), .b is] = (SmallS s, Qjs s is) := (kx K77 22 (Zhk (s, is)) rfl :)
structure Job where
 maker : Int
 slot : Int
 day : Int
 deriving DecidableEq
def eJob (j : Job) : List V := [.i j.maker, .i j.slot, .i j.day]
def dJob : List V → Job | [.i a, .i b, .i c] => ⟨a, b, c⟩ | _ => ⟨0, 0, 0⟩
def Za9 (j : Job) : dJob (eJob j) = j := rfl
def Qlm (s : Shop) (p : Int × Int) (j : Job) : Bool := decide (p.2 ≤ j.day) && decide (0 < (aget (Qca s.work) [p.1, j.maker, j.slot]).getD 0)
def Zi7 (w : Work) : ∀ k ∈ aks (Qca w), k.length = 3 := Qny _ kI_3
def Qyj (w : Work) (k : List Int) : ((avs V.i (Qca w))[(aks (Qca w)).idxOf k]?).getD (.i 0) = .i ((aget (Qca w) k).getD 0) := by
 rw [Qj0]
 cases aget (Qca w) k <;> rfl
def W64 (s : Shop) (p : Int × Int) (j : Job) : Qa1 TP 121 [.pa (Qba s), .ag (eSp p), .ag (eJob j)] (.b (Qlm s p j)) := by
 refine pc Zkf func121 Zn4 ?_
 have h3 := Zi7 s.work
 have hg := Qyj s.work [p.1, j.maker, j.slot]
 unfold Qlm
 by_cases e : p.2 ≤ j.day
 ·simp only [rc121, rs121, Qba, eSp, eJob, e, Qyd, hg, BU2, simprocAttr]
  exact h3
 ·simp only [rc121, rs121, Qba, eSp, eJob, e, Qyd, hg, BU2, simprocAttr]
def eG (a : Shop × (Int × Int) × Job) : List V := [.pa (Qba a.1), .ag (eSp a.2.1), .ag (eJob a.2.2)]
def dG : List V → Shop × (Int × Int) × Job | [.pa s, .ag p, .ag j] => (Qd4 s, dSp p, dJob j) | _ => (Qd4 [], (0, 0), ⟨0, 0, 0⟩)
def dG_e (a : Shop × (Int × Int) × Job) : dG (eG a) = a := by obtain ⟨s, p, j⟩ := a; simp [dG, eG, Qgn, Qtl, Za9]
def K78 := K77.ext 121 (fnG eG dG (fun _ => True) (fun a => Qlm a.1 a.2.1 a.2.2) (.b))
def Zev : GOk TP K78 := Zkf.ext call121 (Qa7 fun a h => W64 a.1 a.2.1 a.2.2)
def h64 (s : Shop) (p : Int × Int) (j : Job) : K78 121 [.pa (Qba s), .ag (eSp p), .ag (eJob j)] = (True, .b (Qlm s p j)) := (kx K78 121 (dG_e (s, p, j)) rfl :)
def Qbb (s : Shop) (i : Nat) : Wish := s.wishes.getD i ⟨[], ⟨0, 0⟩, 0, 0, 0⟩
def Qax (s : Shop) (i : Int) : Piece := s.pieces.getD i.toNat ⟨0, 0, 0, 0, []⟩
def dayN (s : Shop) (x : Wish) (p : Piece) : Int := if Qcf x p = 2 then x.due - s.carve else x.due
def jobW (s : Shop) (i : Nat) (piece : Int) : Option (List Job) :=
 if piece < 0 then some [] else if Qcf (Qbb s i) (Qax s piece) = 0 then none else
  if dayN s (Qbb s i) (Qax s piece) < 0 then none else some ((Qax s piece).broken.map fun k => ⟨(Qax s piece).make, k, dayN s (Qbb s i) (Qax s piece)⟩)
def Qet (s : Shop) (plan : List Int) : Nat → Option (List Job)
 | 0 => some []
 | k + 1 => match Qet s plan k, jobW s k (plan.getD k 0) with
  | some a, some b => some (a ++ b)
  | _, _ => none
def Qfa (s : Shop) (plan : List Int) : Option (List Job) := Qet s plan plan.length
def Qqy : Option (List Job) → V | some l => .tp [.sl 3 (l.map eJob), .b true] | none => .tp [.sl 3 [], .b false]
def Qjl {s : Shop} {plan : List Int} {k : Nat} (h : Qet s plan k = none) : ∀ n, k ≤ n → Qet s plan n = none
  | 0, hn => by have : k = 0 := by omega
                subst this; exact h
  | n + 1, hn => by
    by_cases e : k = n + 1
    · subst e; exact h
    · have := Qjl h n (by omega)
      simp only [Qet, this]
def Qey {s : Shop} {x : Int} (h : 0 ≤ x ∧ x < s.pieces.length) : s.pieces[x.toNat]? = some (Qax s x) := by
 unfold Qax
 rw [Qj, Qd (by omega)]; rfl
def Qfj {s : Shop} {i : Nat} (h : i < s.wishes.length) : s.wishes[i]? = some (Qbb s i) := by
 unfold Qbb
 rw [Qj, Qd h]; rfl
structure OkSt (s : Shop) : Prop where
 w : OkW s.work
 s : OkSh s
structure OkPl (s : Shop) (plan : List Int) : Prop where
 st : OkSt s
 len : plan.length ≤ s.wishes.length
 pc : ∀ x ∈ plan, x < s.pieces.length
def Qwb (l : List Job) : ((l.map eJob).flatten).length = l.length * 3 := Qag (e := eJob) (k := 3) (fun _ => rfl) l
def Qon (l : List Job) : Qa8 ((l.map eJob).flatten) = false := Qa5 (e := eJob) (fun _ => rfl) l
def Qy2 (l : List Job) : Qbi 3 ((l.map eJob).flatten) 0 l.length = l.map eJob := Qa9 (e := eJob) (k := 3) (fun _ => rfl) l
def Zq8 (hp : List Blk) (n : Nat) (l : List Job) : (l.map eJob).map (fun r => r.map (vw hp (n + 1))) = l.map eJob := Qa6 (e := eJob) hp (n + 1) (fun _ => rfl) l
def Ql3 {s : Shop} {p : Piece} (hw : OkW s.work) (h : Qc7 s p = true) : p.broken.length ≤ 4 := by
 unfold Qc7 at h
 simp only [Qq] at h
 obtain ⟨⟨_, hm⟩, hr⟩ := h
 unfold risB at hr
 rw [Qq] at hr
 obtain ⟨h1, h2, h3⟩ := Qdo hm
 have hl := (hw.make _ (Qb h3)).1
 have k8 : ∀ x ∈ p.broken, 0 ≤ x ∧ x ≤ (Qav s.work p.make).length - 1 := fun x hx => Qal.1 (X1.1 hr.1 x hx)
 have jA : ∀ (k : Nat) (x : Int), p.broken[k]? = some x → (k : Int) ≤ x := by
  intro k
  induction k with
  | zero => intro x hx; exact (k8 x (Qb hx)).1
  | succ k ih =>
   intro x hx
   obtain ⟨y, hy⟩ : ∃ y, p.broken[k]? = some y := ⟨_, Qd (by have := Qah hx; omega)⟩
   have := (Qdk _).1 hr.2 k y x hy hx
   have := ih y hy
   omega
 by_cases h0 : p.broken.length = 0
 ·omega
 ·obtain ⟨x, hx⟩ : ∃ x, p.broken[p.broken.length - 1]? = some x := ⟨_, Qd (by omega)⟩
  have h4 := jA _ x hx
  have h5 := (k8 x (Qb hx)).2
  omega
def Zfx (x : Wish) (p : Piece) := lft K78 (h63 x p) rfl
def Qib {s : Shop} {plan : List Int} (h : OkPl s plan) : ∀ (k : Nat) (l : List Job), k ≤ plan.length → Qet s plan k = some l → l.length ≤ k * 4
 | 0, l, _, e => by simp only [Qet, Xl.injEq] at e; subst e; simp
 | k + 1, l, hk, e => by
  simp only [Qet] at e
  cases e1 : Qet s plan k with
  | none => rw [e1] at e; cases e
  | some a =>
   cases e2 : jobW s k (plan.getD k 0) with
   | none => rw [e1, e2] at e; cases e
   | some b =>
    rw [e1, e2] at e
    simp only [Xl.injEq] at e
    have h1 := Qib h k a (by omega) e1
    have h2 : b.length ≤ 4 := by
     unfold jobW at e2
     split at e2
     ·cases e2; simp
     ·rename_i hn
      split at e2
      ·cases e2
      ·split at e2
       ·cases e2
       ·cases e2
        rw [Zc]
        have hx : plan.getD k 0 < s.pieces.length := by
         rw [Qj, Qd (by omega), Q4]
         exact h.pc _ (X2 _)
        have hg := Qey (s := s) (x := plan.getD k 0) ⟨by omega, hx⟩
        exact Ql3 h.st.w (h.st.s.pc _ (Qb hg))
    rw [← e, Qh]; omega
def W36 (s : Shop) (plan : List Int) (h : OkPl s plan) : Qa1 TP 47 [.pa (Qba s), .sl 1 (plan.map eI)] (Qqy (Qfa s plan)) := by
 refine pc Zev func47 cf47 ?_
 have jQ := h.len
 have uW := h.st.s.nwi
 have jS : Qba s = [.sl 4 (s.work.spares.map eSpare), .sl 1 (s.work.makes.map eMake), .i s.work.cut, .sl 4 (s.work.table.map eTrial), .sl 1 (s.stock.map eI), .sl 5 (s.pieces.map ePiece), .sl 6 (s.wishes.map eWish), .sl 3 (s.dels.map eDel), .i s.carve, .sl 2 ((Qbc s).map eSp), .pm true (aks (Qca s.work)) (avs .i (Qca s.work))] := rfl
 generalize (Qbc s).map eSp = sp0 at jS
 generalize aks (Qca s.work) = ks0 at jS
 generalize avs V.i (Qca s.work) = vs0 at jS
 rw [jS]
 have kA : ∀ k, k ≤ plan.length → Qet s plan k = none → Qqy (Qfa s plan) = .tp [.sl 3 [], .b false] := fun k hk e => by
  unfold Qfa
  rw [Qjl e _ hk]; rfl
 simp only [rc47, rs47, BU2, simprocAttr]
 refine Qac plan.length (fun i (A : List Job) => ⟨lkp [(0, .pa [.sl 4 (s.work.spares.map eSpare), .sl 1 (s.work.makes.map eMake), .i s.work.cut, .sl 4 (s.work.table.map eTrial), .sl 1 (s.stock.map eI), .sl 5 (s.pieces.map ePiece), .sl 6 (s.wishes.map eWish), .sl 3 (s.dels.map eDel), .i s.carve, .sl 2 sp0, .pm true ks0 vs0]), (6, .rf 0 A.length 0 A.length 3), (14, .sl 1 (plan.map eI)), (15, .i plan.length), (16, .i i)], [.cells A.length (A.map eJob).flatten]⟩)
  (fun i A => Qet s plan i = some A) [] ?_ rfl ?_ ?_
 ·simp only [Qg, Qo, BU2, simprocAttr]
 ·intro i A hi hA
  have jA : (i : Int) < plan.length := by omega
  have i1 : inI ((i : Int) + 1) := by unfold inI; omega
  obtain ⟨x, hx⟩ : ∃ x, plan[i]? = some x := ⟨_, Qd hi⟩
  have aF : plan.getD i 0 = x := by rw [Qj, hx]; rfl
  have nG := h.pc x (Qb hx)
  have hAl := Qib h i A (by omega) hA
  have jL : Qet s plan (i + 1) = match jobW s i x with | some b => some (A ++ b) | none => none := by
   simp only [Qet, hA, aF]
   cases jobW s i x <;> rfl
  by_cases x0 : x < 0
  ·have hW : jobW s i x = some [] := by unfold jobW; rw [if_pos x0]
   rw [hW] at jL
   simp only [Zj] at jL
   simp only [jA, hx, x0, i1, Qa0 _ _ _ (Qon _), Qf, Qe, BL, simprocAttr]
   exact ⟨A, jL, rfl⟩
  have qA := Qfj (s := s) (i := i) (by omega)
  have wU := Qey (s := s) (x := x) ⟨by omega, nG⟩
  have xA := h.st.s.wi _ (Qb qA)
  have dL := h.st.s.pc _ (Qb wU)
  have uS := Ql3 h.st.w dL
  have vY : (Qbb s i).colors.length < 10000000 := by
   unfold okWish at xA
   simp only [Qq, Qal] at xA
   omega
  have nH : 0 ≤ (Qbb s i).due ∧ (Qbb s i).due ≤ 99 := by
   unfold okWish at xA
   simp only [Qq, Qal] at xA
   exact xA.1.2
  have nI := h.st.s.carve
  have g := Zfx (Qbb s i) (Qax s x)
  simp only [eWish, ePiece] at g
  have wV : (i : Int) < s.wishes.length := by omega
  have xV : 0 ≤ x ∧ x < s.pieces.length := by omega
  have hWx : jobW s i x = if Qcf (Qbb s i) (Qax s x) = 0 then none else if dayN s (Qbb s i) (Qax s x) < 0 then none else some ((Qax s x).broken.map fun k => ⟨(Qax s x).make, k, dayN s (Qbb s i) (Qax s x)⟩) := by unfold jobW; rw [if_neg x0]
  have xN : dayN s (Qbb s i) (Qax s x) = if Qcf (Qbb s i) (Qax s x) = 2 then (Qbb s i).due - s.carve else (Qbb s i).due := rfl
  generalize Qbb s i = X at *
  generalize Qax s x = p at *
  by_cases s0 : Qcf X p = 0
  ·rw [if_pos s0] at hWx
   rw [hWx] at jL
   have q := kA (i + 1) (by omega) jL
   simp only [jA, hx, x0, qA, wU, wV, xV, g, vY, s0, q, BL, simprocAttr]
  rw [if_neg s0] at hWx
  by_cases s2 : Qcf X p = 2
  ·have i3 : inI (X.due - s.carve) := by unfold inI; omega
   rw [if_pos s2] at xN
   by_cases d0 : X.due - s.carve < 0
   ·rw [if_pos (by rw [xN]; exact d0)] at hWx
    rw [hWx] at jL
    have q := kA (i + 1) (by omega) jL
    simp only [jA, hx, x0, qA, wU, wV, xV, g, vY, s2, i3, d0, q, BL, simprocAttr]
   ·rw [if_neg (by rw [xN]; exact d0)] at hWx
    simp only [jA, hx, x0, qA, wU, wV, xV, g, vY, s2, i3, d0, BL, simprocAttr]
    rw [hWx] at jL
    obtain ⟨D, hD⟩ : ∃ D, D = dayN s X p := ⟨_, rfl⟩
    rw [← hD] at jL xN
    refine Qaq p.broken.length (fun j => ⟨lkp [(0, .pa [.sl 4 (s.work.spares.map eSpare), .sl 1 (s.work.makes.map eMake), .i s.work.cut, .sl 4 (s.work.table.map eTrial), .sl 1 (s.stock.map eI), .sl 5 (s.pieces.map ePiece), .sl 6 (s.wishes.map eWish), .sl 3 (s.dels.map eDel), .i s.carve, .sl 2 sp0, .pm true ks0 vs0]), (6, .rf 0 (A.length + j) 0 (A.length + j) 3), (10, .ad 2 0 0), (11, .i D), (14, .sl 1 (plan.map eI)), (15, .i plan.length), (16, .i i), (58, .sl 1 (p.broken.map eI)), (59, .i p.broken.length), (60, .i j)],
      [.cells (A.length + j) ((A ++ (p.broken.take j).map fun k => (⟨p.make, k, D⟩ : Job)).map eJob).flatten, .cells 0 [.sl 1 (X.colors.map eI), .i X.size.low, .i X.size.high, .i X.letter, .i X.due, .i X.price], .cells 0 [.i p.color, .i p.size, .i p.letter, .i p.make, .sl 1 (p.broken.map eI)]]⟩) ?_ ?_ ?_
    ·simp only [Qg, xN, BU2, simprocAttr]
    ·intro j hj
     obtain ⟨k, hk⟩ : ∃ k, p.broken[j]? = some k := ⟨_, Qd hj⟩
     have yI : (j : Int) < p.broken.length := by omega
     have i4 : inI ((j : Int) + 1) := by unfold inI; omega
     have f1 : Qaf (A.length + j + 1) := by unfold Qaf; omega
     have yK : (A ++ (p.broken.take j).map fun k => (⟨p.make, k, D⟩ : Job)).length = A.length + j := by rw [Qh, Zc, Zl]; omega
     have zB := Qa4 hk
     have e1 : A.length + (j + 1) = A.length + j + 1 := rfl
     have uX : A ++ (p.broken.take (j + 1)).map (fun k => (⟨p.make, k, D⟩ : Job)) = (A ++ (p.broken.take j).map fun k => (⟨p.make, k, D⟩ : Job)) ++ [⟨p.make, k, D⟩] := by rw [zB, Qk, Qt]; rfl
     rw [uX]
     generalize A ++ (p.broken.take j).map (fun k => (⟨p.make, k, D⟩ : Job)) = B at *
     simp only [yI, hk, i4, f1, e1, Qwb, yK, Qk, Ql, Qx, Qo, eJob, Qf, Qe, BL, simprocAttr]
    ·have yI : ¬ ((p.broken.length : Int) < p.broken.length) := by omega
     simp only [yI, i1, Za, Qa0 _ _ _ (Qon _), Qf, Qe, BU2, simprocAttr]
     refine ⟨A ++ p.broken.map _, jL, ?_⟩
     rw [Qh, Zc]
  ·rw [if_neg s2] at xN
   have d0 : ¬ X.due < 0 := by omega
   rw [if_neg (by rw [xN]; exact d0)] at hWx
   simp only [jA, hx, x0, qA, wU, wV, xV, g, vY, s0, s2, d0, BL, simprocAttr]
   rw [hWx] at jL
   obtain ⟨D, hD⟩ : ∃ D, D = dayN s X p := ⟨_, rfl⟩
   rw [← hD] at jL xN
   refine Qaq p.broken.length (fun j => ⟨lkp [(0, .pa [.sl 4 (s.work.spares.map eSpare), .sl 1 (s.work.makes.map eMake), .i s.work.cut, .sl 4 (s.work.table.map eTrial), .sl 1 (s.stock.map eI), .sl 5 (s.pieces.map ePiece), .sl 6 (s.wishes.map eWish), .sl 3 (s.dels.map eDel), .i s.carve, .sl 2 sp0, .pm true ks0 vs0]), (6, .rf 0 (A.length + j) 0 (A.length + j) 3), (10, .ad 2 0 0), (11, .i D), (14, .sl 1 (plan.map eI)), (15, .i plan.length), (16, .i i), (58, .sl 1 (p.broken.map eI)), (59, .i p.broken.length), (60, .i j)],
     [.cells (A.length + j) ((A ++ (p.broken.take j).map fun k => (⟨p.make, k, D⟩ : Job)).map eJob).flatten, .cells 0 [.sl 1 (X.colors.map eI), .i X.size.low, .i X.size.high, .i X.letter, .i X.due, .i X.price], .cells 0 [.i p.color, .i p.size, .i p.letter, .i p.make, .sl 1 (p.broken.map eI)]]⟩) ?_ ?_ ?_
   ·simp only [Qg, xN, BU2, simprocAttr]
   ·intro j hj
    obtain ⟨k, hk⟩ : ∃ k, p.broken[j]? = some k := ⟨_, Qd hj⟩
    have yI : (j : Int) < p.broken.length := by omega
    have i4 : inI ((j : Int) + 1) := by unfold inI; omega
    have f1 : Qaf (A.length + j + 1) := by unfold Qaf; omega
    have yK : (A ++ (p.broken.take j).map fun k => (⟨p.make, k, D⟩ : Job)).length = A.length + j := by rw [Qh, Zc, Zl]; omega
    have zB := Qa4 hk
    have e1 : A.length + (j + 1) = A.length + j + 1 := rfl
    have uX : A ++ (p.broken.take (j + 1)).map (fun k => (⟨p.make, k, D⟩ : Job)) = (A ++ (p.broken.take j).map fun k => (⟨p.make, k, D⟩ : Job)) ++ [⟨p.make, k, D⟩] := by rw [zB, Qk, Qt]; rfl
    rw [uX]
    generalize A ++ (p.broken.take j).map (fun k => (⟨p.make, k, D⟩ : Job)) = B at *
    simp only [yI, hk, i4, f1, e1, Qwb, yK, Qk, Ql, Qx, Qo, eJob, Qf, Qe, BL, simprocAttr]
   ·have yI : ¬ ((p.broken.length : Int) < p.broken.length) := by omega
    simp only [yI, i1, Za, Qa0 _ _ _ (Qon _), Qf, Qe, BU2, simprocAttr]
    refine ⟨A ++ p.broken.map _, jL, ?_⟩
    rw [Qh, Zc]
 ·intro A hA
  have jA : ¬ ((plan.length : Int) < plan.length) := by omega
  have q : Qfa s plan = some A := hA
  simp only [jA, q, Qqy, Qwb, Qm, Qy2, Zq8, BU2, simprocAttr]
def takK (s : Shop) (plan : List Int) (k : Nat) : Int := ((Qn k).map fun (i : Nat) => if plan.getD i 0 = -1 then 0 else (Qbb s i).price).sum
def takN (s : Shop) (plan : List Int) : Int := takK s plan plan.length
def Qqe (s : Shop) (plan : List Int) (k : Nat) : takK s plan (k + 1) = takK s plan k + if plan.getD k 0 = -1 then 0 else (Qbb s k).price := by
 unfold takK
 rw [Zi, Qk, List.sum_append]; simp
def Qk5 {x : Wish} (h : okWish x = true) : 0 ≤ x.price ∧ x.price ≤ 100000 := by
 unfold okWish at h
 rw [Qq] at h
 exact Qal.1 h.2
def Qxh {s : Shop} (hs : OkSh s) (plan : List Int) : ∀ k, k ≤ s.wishes.length → 0 ≤ takK s plan k ∧ takK s plan k ≤ k * 100000
 | 0, _ => by simp [takK]
 | k + 1, hk => by
  have ih := Qxh hs plan k (by omega)
  have hp := Qk5 (hs.wi _ (Qb (Qfj (s := s) (i := k) (by omega))))
  rw [Qqe]
  split <;> omega
def W56 (s : Shop) (plan : List Int) (h : OkSt s) (hl : plan.length ≤ s.wishes.length) : Qa1 TP 25 [.pa (Qba s), .sl 1 (plan.map eI)] (.i (takN s plan)) := by
 refine pc Zev func25 cf25 ?_
 have uW := h.s.nwi
 have jS : Qba s = [.sl 4 (s.work.spares.map eSpare), .sl 1 (s.work.makes.map eMake), .i s.work.cut, .sl 4 (s.work.table.map eTrial), .sl 1 (s.stock.map eI), .sl 5 (s.pieces.map ePiece), .sl 6 (s.wishes.map eWish), .sl 3 (s.dels.map eDel), .i s.carve, .sl 2 ((Qbc s).map eSp), .pm true (aks (Qca s.work)) (avs .i (Qca s.work))] := rfl
 generalize (Qbc s).map eSp = sp0 at jS
 generalize aks (Qca s.work) = ks0 at jS
 generalize avs V.i (Qca s.work) = vs0 at jS
 rw [jS]
 simp only [rc25, rs25, BU2, simprocAttr]
 refine Qaq plan.length (fun i => ⟨lkp [(0, .pa [.sl 4 (s.work.spares.map eSpare), .sl 1 (s.work.makes.map eMake), .i s.work.cut, .sl 4 (s.work.table.map eTrial), .sl 1 (s.stock.map eI), .sl 5 (s.pieces.map ePiece), .sl 6 (s.wishes.map eWish), .sl 3 (s.dels.map eDel), .i s.carve, .sl 2 sp0, .pm true ks0 vs0]), (4, .i (takK s plan i)), (7, .sl 1 (plan.map eI)), (8, .i plan.length), (9, .i i)], []⟩) ?_ ?_ ?_
 ·simp only [Qg, takK, Q2, List.sum_nil, BU2, simprocAttr]
 ·intro i hi
  have jA : (i : Int) < plan.length := by omega
  have i1 : inI ((i : Int) + 1) := by unfold inI; omega
  obtain ⟨x, hx⟩ : ∃ x, plan[i]? = some x := ⟨_, Qd hi⟩
  have aF : plan.getD i 0 = x := by rw [Qj, hx]; rfl
  have qA := Qfj (s := s) (i := i) (by omega)
  have vJ := Qqe s plan i
  rw [aF] at vJ
  have kN := Qxh h.s plan i (by omega)
  have sH := Qk5 (h.s.wi _ (Qb qA))
  have i2 : inI (takK s plan i + (Qbb s i).price) := by unfold inI; omega
  have wV : (i : Int) < s.wishes.length := by omega
  by_cases e : x = -1
  ·rw [if_pos e, Int.add_zero] at vJ
   simp only [jA, hx, e, i1, vJ, Qf, Qe, BL, simprocAttr]
  ·rw [if_neg e] at vJ
   simp only [jA, hx, e, i1, i2, vJ, qA, wV, Qf, Qe, BL, simprocAttr]
 ·have jA : ¬ ((plan.length : Int) < plan.length) := by omega
  simp only [jA, BU2, simprocAttr]
  rfl
end Go.CS
end
namespace Go.CS
open Go.Fam
abbrev Giv := Bool × List Int × List Int
def Qd1 (gd : Nat → Int → Bool) (rec : List Int → Int → List Int → Giv) (own : Int) : List Nat → List Int → List Int → Giv
 | [], g, s => (false, g, s)
 | i :: l, g, s =>
  if (i : Int) ∈ s ∨ gd i own = false then Qd1 gd rec own l g s
  else if g[i]?.getD 0 = -1 then (true, g.set i own, s ++ [(i : Int)])
  else if (rec g (g[i]?.getD 0) (s ++ [(i : Int)])).1 = true then (true, (rec g (g[i]?.getD 0) (s ++ [(i : Int)])).2.1.set i own, (rec g (g[i]?.getD 0) (s ++ [(i : Int)])).2.2)
  else Qd1 gd rec own l (rec g (g[i]?.getD 0) (s ++ [(i : Int)])).2.1 (rec g (g[i]?.getD 0) (s ++ [(i : Int)])).2.2
def Qc2 (gd : Nat → Int → Bool) (n : Nat) : Nat → List Int → Int → List Int → Giv
 | 0, g, _, s => (false, g, s)
 | f + 1, g, own, s => Qd1 gd (Qc2 gd n f) own (Qn n) g s
def uns (n : Nat) (s : List Int) : Nat := ((Qn n).filter fun (i : Nat) => decide ((i : Int) ∉ s)).length
def Qoy {n : Nat} {s s' : List Int} (h : ∀ x ∈ s, x ∈ s') : uns n s' ≤ uns n s := by
 unfold uns
 rw [← Q9, ← Q9]
 exact Xf fun x _ hx => by simp only [decide_eq_true_eq] at hx ⊢; exact fun h' => hx (h _ h')
def Qoz {n i : Nat} {s : List Int} (hi : i < n) (hs : (i : Int) ∉ s) : uns n (s ++ [(i : Int)]) < uns n s := by
 unfold uns
 rw [← Q9, ← Q9]
 have : ∀ l : List Nat, i ∈ l → l.countP (fun (k : Nat) => decide ((k : Int) ∉ s ++ [(i : Int)])) < l.countP fun (k : Nat) => decide ((k : Int) ∉ s) := by
  intro l
  induction l with
  | nil => simp
  | cons k l ih =>
   intro hm
   have kN : l.countP (fun (k : Nat) => decide ((k : Int) ∉ s ++ [(i : Int)])) ≤ l.countP fun (k : Nat) => decide ((k : Int) ∉ s) :=
    Xf fun x _ hx => by simp only [decide_eq_true_eq] at hx ⊢; exact fun h' => hx (Qi.2 (.inl h'))
   rw [Zq, Zq]
   by_cases hk : k = i
   ·subst hk
    rw [if_neg (by simp), if_pos (by simpa using hs)]; omega
   ·have hm' : i ∈ l := by rcases Xo.1 hm with e | e; exact absurd e.symm hk; exact e
    have := ih hm'
    have e : decide ((k : Int) ∉ s ++ [(i : Int)]) = decide ((k : Int) ∉ s) := by
     congr 1
     simp only [Qi, Zh, eq_iff_iff, not_or]
     exact ⟨fun h => h.1, fun h => ⟨h, by omega⟩⟩
    rw [e]; omega
 exact this _ (Zb.2 hi)
def Qt9 (n : Nat) (s : List Int) : uns n s ≤ n := by
 unfold uns
 exact Zn (Xe _ _) (by simp)
def Clo (gd : Nat → Int → Bool) (n : Nat) (g : List Int) (S : List Int) (x : Int) : Prop :=
 ∃ i : Nat, i < n ∧ x = i ∧ g[i]?.getD 0 ≠ -1 ∧ ∀ k : Nat, k < n → gd k (g[i]?.getD 0) = true → (k : Int) ∈ S
def Clo.mono {gd : Nat → Int → Bool} {n : Nat} {g S S' : List Int} {x : Int} (h : Clo gd n g S x) (hs : ∀ y ∈ S, y ∈ S') : Clo gd n g S' x := by
 obtain ⟨i, hi, e, h1, h2⟩ := h
 exact ⟨i, hi, e, h1, fun k hk hg => hs _ (h2 k hk hg)⟩
def Zci (gd : Nat → Int → Bool) (n : Nat) (own : Int) (l : List Nat) (g s : List Int) (r : Giv) : Prop :=
 r.1 = false → r.2.1 = g ∧ (∀ x ∈ s, x ∈ r.2.2) ∧ (∀ i ∈ l, gd i own = true → (i : Int) ∈ r.2.2) ∧ ∀ x ∈ r.2.2, x ∉ s → Clo gd n g r.2.2 x
def Qjd {gd : Nat → Int → Bool} {n : Nat} {rec : List Int → Int → List Int → Giv} {own : Int} {b : Nat}
  (hr : ∀ g j s, uns n s < b → Zci gd n j (Qn n) g s (rec g j s)) : ∀ (l : List Nat) (g s : List Int), (∀ i ∈ l, i < n) → uns n s ≤ b → Zci gd n own l g s (Qd1 gd rec own l g s)
 | [], g, s, _, _ => fun _ => ⟨rfl, fun x hx => hx, by simp, fun x hx hn => absurd hx hn⟩
 | i :: l, g, s, hl, hb => by
  intro hf
  unfold Qd1 at hf ⊢
  have hl' : ∀ i ∈ l, i < n := fun k hk => hl k (by simp [hk])
  by_cases h1 : (i : Int) ∈ s ∨ gd i own = false
  ·rw [if_pos h1] at hf ⊢
   obtain ⟨a, b', c, d⟩ := Qjd hr l g s hl' hb hf
   refine ⟨a, b', fun k hk hg => ?_, d⟩
   rcases Xo.1 hk with rfl | hk
   ·rcases h1 with h1 | h1
    ·exact b' _ h1
    ·rw [h1] at hg; cases hg
   ·exact c k hk hg
  ·rw [if_neg h1] at hf ⊢
   have hs : (i : Int) ∉ s := fun h => h1 (.inl h)
   have k8 : i < n := hl i (by simp)
   by_cases h2 : g[i]?.getD 0 = -1
   ·rw [if_pos h2] at hf; cases hf
   ·rw [if_neg h2] at hf ⊢
    by_cases h3 : (rec g (g[i]?.getD 0) (s ++ [(i : Int)])).1 = true
    ·rw [if_pos h3] at hf; cases hf
    ·rw [if_neg h3] at hf ⊢
     have hu := Qoz k8 hs
     have h3' : (rec g (g[i]?.getD 0) (s ++ [(i : Int)])).1 = false := by simpa using h3
     have hR := hr g (g[i]?.getD 0) (s ++ [(i : Int)]) (by omega) h3'
     generalize rec g (g[i]?.getD 0) (s ++ [(i : Int)]) = r at hf hR h3 h3' ⊢
     obtain ⟨a, b', c, d⟩ := hR
     rw [a] at hf ⊢
     have d9 : uns n r.2.2 ≤ b := Zn (Qoy fun x hx => b' x (Qi.2 (.inl hx))) hb
     obtain ⟨a2, b2, c2, d2⟩ := Qjd hr l g r.2.2 hl' d9 hf
     refine ⟨a2, fun x hx => b2 _ (b' x (Qi.2 (.inl hx))), fun k hk hg => ?_, fun x hx xZ => ?_⟩
     ·rcases Xo.1 hk with rfl | hk
      ·exact b2 _ (b' _ (by simp))
      ·exact c2 k hk hg
     ·by_cases lH : x ∈ r.2.2
      ·by_cases dZ : x = i
       ·exact ⟨i, k8, dZ, h2, fun k hk hg => b2 _ (c k (Zb.2 hk) hg)⟩
       ·exact (d x lH (by simp [xZ, dZ])).mono b2
      ·exact d2 x hx lH
def Qnc {gd : Nat → Int → Bool} {n : Nat} : ∀ (f : Nat) (g : List Int) (own : Int) (s : List Int), uns n s < f → Zci gd n own (Qn n) g s (Qc2 gd n f g own s)
 | 0, _, _, _, h => by omega
 | f + 1, g, own, s, h => by
  unfold Qc2
  exact Qjd (b := f) (fun g j s hs => Qnc f g j s hs) (Qn n) g s (by simp) (by omega)
def Qje {gd : Nat → Int → Bool} {rec : List Int → Int → List Int → Giv} {own : Int}
  (hr : ∀ g j s, (rec g j s).1 = false → (rec g j s).2.1 = g) : ∀ (l : List Nat) (g s : List Int), (Qd1 gd rec own l g s).1 = false → (Qd1 gd rec own l g s).2.1 = g
 | [], _, _, _ => rfl
 | i :: l, g, s, hf => by
  unfold Qd1 at hf ⊢
  split
  ·rename_i h; rw [if_pos h] at hf; exact Qje hr l g s hf
  ·rename_i h; rw [if_neg h] at hf
   split
   ·rename_i h2; rw [if_pos h2] at hf; cases hf
   ·rename_i h2; rw [if_neg h2] at hf
    split
    ·rename_i h3; rw [if_pos h3] at hf; cases hf
    ·rename_i h3; rw [if_neg h3] at hf
     have e := hr g (g[i]?.getD 0) (s ++ [(i : Int)]) (by simpa using h3)
     rw [e] at hf ⊢
     exact Qje hr l g _ hf
def Qgo {gd : Nat → Int → Bool} {n : Nat} : ∀ (f : Nat) (g : List Int) (own : Int) (s : List Int), (Qc2 gd n f g own s).1 = false → (Qc2 gd n f g own s).2.1 = g
 | 0, _, _, _, _ => rfl
 | f + 1, g, own, s, h => Qje (fun g j s hs => Qgo f g j s hs) (Qn n) g s h
def Qjf {gd : Nat → Int → Bool} {rec : List Int → Int → List Int → Giv} {own : Int}
  (hr : ∀ g j s, ∀ x ∈ s, x ∈ (rec g j s).2.2) : ∀ (l : List Nat) (g s : List Int), ∀ x ∈ s, x ∈ (Qd1 gd rec own l g s).2.2
 | [], _, _, _, h => h
 | i :: l, g, s, x, h => by
  unfold Qd1
  split
  ·exact Qjf hr l g s x h
  ·split
   ·exact Qi.2 (.inl h)
   ·split
    ·exact hr _ _ _ x (Qi.2 (.inl h))
    ·exact Qjf hr l _ _ x (hr _ _ _ x (Qi.2 (.inl h)))
def Qgp {gd : Nat → Int → Bool} {n : Nat} : ∀ (f : Nat) (g : List Int) (own : Int) (s : List Int), ∀ x ∈ s, x ∈ (Qc2 gd n f g own s).2.2
 | 0, _, _, _, _, h => h
 | f + 1, g, own, s, x, h => Qjf (fun g j s x hx => Qgp f g j s x hx) (Qn n) g s x h
def Clos (gd : Nat → Int → Bool) (n : Nat) (g S : List Int) : Prop := ∀ x ∈ S, Clo gd n g S x
def Qjg {gd : Nat → Int → Bool} {n : Nat} {S : List Int} {rec : List Int → Int → List Int → Giv} {own : Int}
  (hr : ∀ g j s, Clos gd n g S → (∀ k : Nat, k < n → gd k j = true → (k : Int) ∈ S) → (rec g j s).1 = false)
  (hs : ∀ g j s, (rec g j s).1 = false → (rec g j s).2.1 = g) (ho : ∀ k : Nat, k < n → gd k own = true → (k : Int) ∈ S) :
  ∀ (l : List Nat) (g s : List Int), (∀ i ∈ l, i < n) → Clos gd n g S → (Qd1 gd rec own l g s).1 = false
 | [], _, _, _, _ => rfl
 | i :: l, g, s, hl, hc => by
  have hl' : ∀ i ∈ l, i < n := fun k hk => hl k (by simp [hk])
  unfold Qd1
  by_cases h1 : (i : Int) ∈ s ∨ gd i own = false
  ·rw [if_pos h1]; exact Qjg hr hs ho l g s hl' hc
  ·rw [if_neg h1]
   have hg : gd i own = true := by
    cases h : gd i own
    ·exact absurd (.inr h) h1
    ·rfl
   obtain ⟨i', hi', e, kH, hn⟩ := hc _ (ho i (hl i (by simp)) hg)
   have : i' = i := by omega
   subst this
   rw [if_neg kH]
   have hf := hr g (g[i']?.getD 0) (s ++ [(i' : Int)]) hc hn
   rw [if_neg (by rw [hf]; simp), hs _ _ _ hf]
   exact Qjg hr hs ho l g _ hl' hc
def Qne {gd : Nat → Int → Bool} {n : Nat} {S : List Int} : ∀ (f : Nat) (g : List Int) (own : Int) (s : List Int), Clos gd n g S → (∀ k : Nat, k < n → gd k own = true → (k : Int) ∈ S) → (Qc2 gd n f g own s).1 = false
 | 0, _, _, _, _, _ => rfl
 | f + 1, g, own, s, hc, ho => Qjg (fun g j s h1 h2 => Qne f g j s h1 h2) (fun g j s h => Qgo f g j s h) ho (Qn n) g s (by simp) hc
structure SuccR (gd : Nat → Int → Bool) (n : Nat) (own : Int) (g s g' : List Int) : Prop where
 len : g'.length = n
 cnt : ∀ j : Int, j ≠ -1 → g'.count j = g.count j + if j = own then 1 else 0
 old : ∀ i : Nat, (i : Int) ∈ s → g'[i]? = g[i]?
 val : ∀ i : Nat, i < n → g'[i]?.getD 0 ≠ -1 → gd i (g'[i]?.getD 0) = true
 off : ∀ S : List Int, Clos gd n g S → ∀ i : Nat, (i : Int) ∈ S → g'[i]? = g[i]?
def Val (gd : Nat → Int → Bool) (n : Nat) (g : List Int) : Prop := g.length = n ∧ ∀ i : Nat, i < n → g[i]?.getD 0 ≠ -1 → gd i (g[i]?.getD 0) = true
def Qj5 {g : List Int} {i : Nat} (hi : i < g.length) (x j : Int) : (g.set i x).count j + (if j = g[i]?.getD 0 then 1 else 0) = g.count j + if j = x then 1 else 0 := by
 induction g generalizing i with
 | nil => simp at hi
 | cons a g ih =>
  cases i with
  | zero =>
   simp only [Zg, Xc, Qp, Q4]
   have e1 : (if j = a then 1 else 0) = if (a == j) = true then 1 else (0 : Nat) := by
    by_cases h : j = a
    ·subst h; simp
    ·rw [if_neg h, if_neg (by simpa using fun e => h e.symm)]
   have e2 : (if j = x then 1 else 0) = if (x == j) = true then 1 else (0 : Nat) := by
    by_cases h : j = x
    ·subst h; simp
    ·rw [if_neg h, if_neg (by simpa using fun e => h e.symm)]
   rw [e1, e2]; omega
  | succ i =>
   simp only [List.set_cons_succ, Xc, Q3]
   have := ih (i := i) (by simpa using hi)
   omega
def Qjh {gd : Nat → Int → Bool} {n : Nat} {rec : List Int → Int → List Int → Giv} {own : Int} (ho : own ≠ -1)
  (hr : ∀ g j s, j ≠ -1 → Val gd n g → (rec g j s).1 = true → SuccR gd n j g s (rec g j s).2.1)
  (hs : ∀ g j s, (rec g j s).1 = false → (rec g j s).2.1 = g)
  (hm : ∀ g j s, ∀ x ∈ s, x ∈ (rec g j s).2.2)
  (jS : ∀ S g j s, Clos gd n g S → (∀ k : Nat, k < n → gd k j = true → (k : Int) ∈ S) → (rec g j s).1 = false) :
  ∀ (l : List Nat) (g s : List Int), (∀ i ∈ l, i < n) → Val gd n g → (Qd1 gd rec own l g s).1 = true → SuccR gd n own g s (Qd1 gd rec own l g s).2.1
 | [], _, _, _, _, h => by cases h
 | i :: l, g, s, hl, hv, hf => by
  have hl' : ∀ i ∈ l, i < n := fun k hk => hl k (by simp [hk])
  unfold Qd1 at hf ⊢
  by_cases h1 : (i : Int) ∈ s ∨ gd i own = false
  ·rw [if_pos h1] at hf ⊢; exact Qjh ho hr hs hm jS l g s hl' hv hf
  ·rw [if_neg h1] at hf ⊢
   have hg : gd i own = true := by
    cases h : gd i own
    ·exact absurd (.inr h) h1
    ·rfl
   have iJ : (i : Int) ∉ s := fun h => h1 (.inl h)
   have k8 : i < n := hl i (by simp)
   have kH : ∀ k : Nat, (k : Int) ∈ s → i ≠ k := by rintro k hk rfl; exact iJ hk
   by_cases h2 : g[i]?.getD 0 = -1
   ·rw [if_pos h2] at hf ⊢
    refine ⟨by simp [hv.1], fun j hj => ?_, fun k hk => ?_, fun k hk => ?_, fun S hc k hk => ?_⟩
    ·have := Qj5 (g := g) (i := i) (by rw [hv.1]; exact k8) own j
     rw [h2, if_neg hj] at this; simpa using this
    ·exact Q7 (kH k hk)
    ·by_cases uL : i = k
     ·subst uL
      intro _
      simp only []
      rw [Z9 (by rw [hv.1]; exact k8)]; exact hg
     ·simp only []
      rw [Q7 uL]; exact hv.2 k hk
    ·obtain ⟨k', hk', e, y3, _⟩ := hc _ hk
     have : k' = k := by omega
     subst this
     exact Q7 (by rintro rfl; exact y3 h2)
   ·rw [if_neg h2] at hf ⊢
    by_cases h3 : (rec g (g[i]?.getD 0) (s ++ [(i : Int)])).1 = true
    ·rw [if_pos h3] at hf ⊢
     have hR := hr g _ _ h2 hv h3
     have hb : ∀ S, Clos gd n g S → (i : Int) ∉ S := by
      intro S hc hi
      obtain ⟨k', hk', e, _, hn⟩ := hc _ hi
      have : k' = i := by omega
      subst this
      have := jS S g _ (s ++ [(k' : Int)]) hc hn
      rw [this] at h3; cases h3
     generalize rec g (g[i]?.getD 0) (s ++ [(i : Int)]) = r at hR ⊢
     have hi' : r.2.1[i]? = g[i]? := hR.old i (by simp)
     refine ⟨by simp [hR.len], fun j hj => ?_, fun k hk => ?_, fun k hk => ?_, fun S hc k hk => ?_⟩
     ·have a := Qj5 (g := r.2.1) (i := i) (by rw [hR.len]; exact k8) own j
      have b := hR.cnt j hj
      rw [hi'] at a
      simp only [] at *
      omega
     ·simp only []
      rw [Q7 (kH k hk)]; exact hR.old k (by simp [hk])
     ·by_cases uL : i = k
      ·subst uL
       intro _
       simp only []
       rw [Z9 (by rw [hR.len]; exact k8)]; exact hg
      ·simp only []
       rw [Q7 uL]; exact hR.val k hk
     ·simp only []
      rw [Q7 (by rintro rfl; exact hb S hc hk)]; exact hR.off S hc k hk
    ·rw [if_neg h3] at hf ⊢
     have e := hs g (g[i]?.getD 0) (s ++ [(i : Int)]) (by simpa using h3)
     rw [e] at hf ⊢
     have hM := hm g (g[i]?.getD 0) (s ++ [(i : Int)])
     have := Qjh ho hr hs hm jS l g (rec g (g[i]?.getD 0) (s ++ [(i : Int)])).2.2 hl' hv hf
     exact ⟨this.len, this.cnt, fun k hk => this.old k (hM _ (by simp [hk])), this.val, this.off⟩
def Qnf {gd : Nat → Int → Bool} {n : Nat} : ∀ (f : Nat) (g : List Int) (own : Int) (s : List Int), own ≠ -1 → Val gd n g → (Qc2 gd n f g own s).1 = true → SuccR gd n own g s (Qc2 gd n f g own s).2.1
 | 0, _, _, _, _, _, h => by cases h
 | f + 1, g, own, s, ho, hv, h =>
  Qjh ho (fun g j s h1 h2 h3 => Qnf f g j s h1 h2 h3) (fun g j s h => Qgo f g j s h) (fun g j s x hx => Qgp f g j s x hx) (fun S g j s h1 h2 => Qne f g j s h1 h2) (Qn n) g s (by simp) hv h
def Qlj {gd : Nat → Int → Bool} {n : Nat} {r1 r2 : List Int → Int → List Int → Giv} {own : Int} {b : Nat}
  (hm : ∀ g j s, ∀ x ∈ s, x ∈ (r2 g j s).2.2)
  (hr : ∀ g j s, uns n s < b → r1 g j s = r2 g j s) : ∀ (l : List Nat) (g s : List Int), (∀ i ∈ l, i < n) → uns n s ≤ b → Qd1 gd r1 own l g s = Qd1 gd r2 own l g s
 | [], _, _, _, _ => rfl
 | i :: l, g, s, hl, hb => by
  have hl' : ∀ i ∈ l, i < n := fun k hk => hl k (by simp [hk])
  unfold Qd1
  by_cases h1 : (i : Int) ∈ s ∨ gd i own = false
  ·rw [if_pos h1, if_pos h1]; exact Qlj hm hr l g s hl' hb
  ·rw [if_neg h1, if_neg h1]
   have hu := Qoz (hl i (by simp)) (fun h => h1 (.inl h))
   rw [hr g _ _ (by omega)]
   have d9 : uns n (r2 g (g[i]?.getD 0) (s ++ [(i : Int)])).2.2 ≤ b := Zn (Qoy fun x hx => hm _ _ _ x (Qi.2 (.inl hx))) hb
   rw [Qlj hm hr l _ _ hl' d9]
def Qnd {gd : Nat → Int → Bool} {n : Nat} : ∀ (f f' : Nat) (g : List Int) (own : Int) (s : List Int), uns n s < f → uns n s < f' → Qc2 gd n f g own s = Qc2 gd n f' g own s
 | 0, _, _, _, _, h, _ => by omega
 | _, 0, _, _, _, _, h => by omega
 | f + 1, f' + 1, g, own, s, h, h' => by
  unfold Qc2
  exact Qlj (b := uns n s) (fun g j s x hx => Qgp f' g j s x hx) (fun g j s hs => Qnd f f' g j s (by omega) (by omega)) (Qn n) g s (by simp) (Qm _)
def Qci (gd : Nat → Int → Bool) (n : Nat) : Nat → Nat × List Int
 | 0 => (0, Qa n (-1))
 | m + 1 =>
  if (Qc2 gd n (n + 1) (Qci gd n m).2 m []).1 = true then ((Qci gd n m).1, (Qc2 gd n (n + 1) (Qci gd n m).2 m []).2.1)
  else ((Qci gd n m).1 + 1, (Qc2 gd n (n + 1) (Qci gd n m).2 m []).2.1)
structure LackR (gd : Nat → Int → Bool) (n m : Nat) (c : Nat) (g : List Int) (S : List Int) (F : List Int) : Prop where
 val : Val gd n g
 clo : Clos gd n g S
 nod : F.Nodup
 len : F.length = c
 lt : ∀ j ∈ F, 0 ≤ j ∧ j < m
 non : ∀ j ∈ F, ∀ k : Nat, k < n → gd k j = true → (k : Int) ∈ S
 zer : ∀ j ∈ F, g.count j = 0
 one : ∀ j : Int, 0 ≤ j → j < m → j ∉ F → g.count j = 1
 up : ∀ j : Int, j ≠ -1 → ¬ (0 ≤ j ∧ j < m) → g.count j = 0
def Qqz (gd : Nat → Int → Bool) (n : Nat) : ∀ m : Nat, ∃ S F, LackR gd n m (Qci gd n m).1 (Qci gd n m).2 S F
 | 0 => by
  refine ⟨[], [], ⟨by simp [Qci], fun i hi h => ?_⟩, by intro x hx; simp at hx, Zk, rfl, by simp, by simp, by simp, by intro j h1 h2; simp at h2; omega, fun j hj _ => ?_⟩
  ·rw [show (Qci gd n 0).2 = Qa n (-1) from rfl, List.getElem?_replicate, if_pos hi] at h; exact absurd rfl h
  ·rw [show (Qci gd n 0).2 = Qa n (-1) from rfl, List.count_replicate]
   rw [if_neg (by simpa using fun e => hj e.symm)]
 | m + 1 => by
  obtain ⟨S, F, h⟩ := Qqz gd n m
  unfold Qci
  generalize d8 : Qci gd n m = cg at h ⊢
  obtain ⟨c, g⟩ := cg
  have iK : g.count (m : Int) = 0 := h.up m (by omega) (by omega)
  by_cases hb : (Qc2 gd n (n + 1) g m []).1 = true
  ·simp only [hb, if_true]
   have hR := Qnf (n + 1) g m [] (by omega) h.val hb
   generalize Qc2 gd n (n + 1) g m [] = r at hR ⊢
   refine ⟨S, F, ⟨hR.len, hR.val⟩, fun x hx => ?_, h.nod, h.len, fun j hj => ?_, h.non, fun j hj => ?_, fun j h1 h2 h3 => ?_, fun j h1 h2 => ?_⟩
   ·obtain ⟨i, hi, e, a, b⟩ := h.clo x hx
    have e2 := hR.off S h.clo i (by rw [← e]; exact hx)
    exact ⟨i, hi, e, by rw [e2]; exact a, by rw [e2]; exact b⟩
   ·have := h.lt j hj; omega
   ·have := h.lt j hj
    rw [hR.cnt j (by omega), h.zer j hj, if_neg (by omega)]
   ·rw [hR.cnt j (by omega)]
    by_cases bH : j = m
    ·subst bH; rw [iK, if_pos rfl]
    ·rw [h.one j h1 (by omega) h3, if_neg bH]
   ·rw [hR.cnt j h1, h.up j h1 (by omega), if_neg (by omega)]
  ·have hb' : (Qc2 gd n (n + 1) g m []).1 = false := by simpa using hb
   simp only [hb', Qc, if_false]
   obtain ⟨a, b, c', d⟩ := Qnc (gd := gd) (n := n) (n + 1) g m [] (Nat.lt_succ_of_le (Qt9 n [])) hb'
   generalize Qc2 gd n (n + 1) g m [] = r at a b c' d ⊢
   rw [a]
   have hmF : (m : Int) ∉ F := fun hm => by have := h.lt _ hm; omega
   refine ⟨S ++ r.2.2, F ++ [(m : Int)], h.val, fun x hx => ?_, ?_, by simp [h.len], fun j hj => ?_, fun j hj k hk hg => ?_, fun j hj => ?_, fun j h1 h2 h3 => ?_, fun j h1 h2 => h.up j h1 (by omega)⟩
   ·rcases Qi.1 hx with hx | hx
    ·exact (h.clo x hx).mono fun y hy => Qi.2 (.inl hy)
    ·exact (d x hx (by simp)).mono fun y hy => Qi.2 (.inr hy)
   ·rw [Z0]
    exact ⟨h.nod, by simp, fun x hx y hy => by simp at hy; subst hy; rintro rfl; exact hmF hx⟩
   ·rcases Qi.1 hj with hj | hj
    ·have := h.lt j hj; omega
    ·simp at hj; omega
   ·rcases Qi.1 hj with hj | hj
    ·exact Qi.2 (.inl (h.non j hj k hk hg))
    ·simp at hj; subst hj
     exact Qi.2 (.inr (c' k (Zb.2 hk) hg))
   ·rcases Qi.1 hj with hj | hj
    ·exact h.zer j hj
    ·simp at hj; subst hj; exact iK
   ·have : j ≠ m := by rintro rfl; exact h3 (by simp)
    exact h.one j h1 (by omega) fun hj => h3 (by simp [hj])
def Qhr {α : Type} [DecidableEq α] : ∀ {T U : List α}, T.Nodup → (∀ x ∈ T, x ∈ U) → T.length ≤ U.length
 | [], _, _, _ => Zy _
 | t :: T, U, hn, hs => by
  rw [Xd] at hn
  have ht := hs t (by simp)
  have := Qhr (T := T) (U := U.erase t) hn.2 fun x hx => (List.mem_erase_of_ne (by rintro rfl; exact hn.1 hx)).2 (hs x (by simp [hx]))
  rw [List.length_erase_of_mem ht] at this
  have hp := List.length_pos_of_mem ht
  simp only [Zr]; omega
def Zdc {g : List Int} {a b : Nat} {x : Int} (ha : g[a]? = some x) (hb : g[b]? = some x) (h : g.count x ≤ 1) : a = b := by
 induction g generalizing a b with
 | nil => simp at ha
 | cons y g ih =>
  rw [Xc] at h
  cases a with
  | zero =>
   cases b with
   | zero => rfl
   | succ b =>
    simp only [Qp, Xl.injEq, Q3] at ha hb
    subst ha
    have := Zw.2 (Qb hb)
    simp at h; omega
  | succ a =>
   cases b with
   | zero =>
    simp only [Qp, Xl.injEq, Q3] at ha hb
    subst hb
    have := Zw.2 (Qb ha)
    simp at h; omega
   | succ b =>
    simp only [Q3] at ha hb
    rw [ih ha hb (by omega)]
def Qho {α β : Type} {f : α → β} : ∀ {l : List α}, (∀ a ∈ l, ∀ b ∈ l, f a = f b → a = b) → l.Nodup → (l.map f).Nodup
 | [], _, _ => Zk
 | a :: l, h, hn => by
  rw [Xd] at hn
  rw [Qw, Xd]
  refine ⟨fun hm => ?_, Qho (fun x hx y hy => h x (by simp [hx]) y (by simp [hy])) hn.2⟩
  obtain ⟨b, hb, e⟩ := Xw.1 hm
  exact hn.1 (h b (by simp [hb]) a (by simp) e ▸ hb)
end Go.CS
noncomputable section
namespace Go.CS
open Go.Fam Go.Proofs
open Go.Proofs.Tryz
open Go.Proofs.Tryz renaming prog → TP
open Go.C06 (fnG Qap Span eI eSpan gI gR dI Qas Qa7 Qa3 Qa4 idxOf Qai Qaa Qab Qag Qa9 Qa6 Qa5 Qad Qam Qaz vw_I Qak hmix eLI dLI Qb1 Qac Qa0 Qa2 Qae)
variable {Γ : Gam}
set_option maxRecDepth 100000
def ePl (a : Shop × List Int) : List V := [.pa (Qba a.1), .sl 1 (a.2.map eI)]
def dPl : List V → Shop × List Int | [.pa s, .sl _ l] => (Qd4 s, l.map dI) | _ => (Qd4 [], [])
def Zdj (a : Shop × List Int) : dPl (ePl a) = a := by obtain ⟨s, l⟩ := a; simp [dPl, ePl, Qgn, Function.comp_def, Qas]
def eJl (a : Shop × List Job) : List V := [.pa (Qba a.1), .sl 3 (a.2.map eJob)]
def dJl : List V → Shop × List Job | [.pa s, .sl _ l] => (Qd4 s, l.map dJob) | _ => (Qd4 [], [])
def Zoz (a : Shop × List Job) : dJl (eJl a) = a := by obtain ⟨s, l⟩ := a; simp [dJl, eJl, Qgn, Function.comp_def, Za9]
def K79 := K78.ext 47 (fnG ePl dPl (fun a => OkPl a.1 a.2) (fun a => Qfa a.1 a.2) (Qqy))
def Zpz : GOk TP K79 := Zev.ext call47 (Qa7 fun a h => W36 a.1 a.2 h)
def h36 (s : Shop) (plan : List Int) : K79 47 [.pa (Qba s), .sl 1 (plan.map eI)] = (OkPl s plan, Qqy (Qfa s plan)) := (kx K79 47 (Zdj (s, plan)) rfl :)
def K80 := K79.ext 25 (fnG ePl dPl (fun a => OkSt a.1 ∧ a.2.length ≤ a.1.wishes.length) (fun a => takN a.1 a.2) (.i))
def Zq0 : GOk TP K80 := Zpz.ext call25 (Qa7 fun a h => W56 a.1 a.2 h.1 h.2)
def h56 (s : Shop) (plan : List Int) : K80 25 [.pa (Qba s), .sl 1 (plan.map eI)] = (OkSt s ∧ plan.length ≤ s.wishes.length, .i (takN s plan)) := (kx K80 25 (Zdj (s, plan)) rfl :)
def K81 := K80
def Zew : GOk TP K81 := Zq0
def spAt (s : Shop) (i : Nat) : Int × Int := (Qbc s).getD i (0, 0)
def joAt (l : List Job) (j : Int) : Job := l.getD j.toNat ⟨0, 0, 0⟩
def gdS (s : Shop) (l : List Job) (i : Nat) (j : Int) : Bool := Qlm s (spAt s i) (joAt l j)
def PG (n m : Nat) (g s : List Int) : Prop := g.length = n ∧ (∀ v ∈ g, v = -1 ∨ (0 ≤ v ∧ v < m)) ∧ s.Nodup ∧ ∀ x ∈ s, 0 ≤ x ∧ x < n
def PG.snoc {n m : Nat} {g s : List Int} {i : Nat} (h : PG n m g s) (hi : i < n) (hs : (i : Int) ∉ s) : PG n m g (s ++ [(i : Int)]) := by
 obtain ⟨h1, h2, h3, h4⟩ := h
 refine ⟨h1, h2, ?_, fun x hx => ?_⟩
 ·rw [Z0]
  exact ⟨h3, by simp, fun a ha b hb e => by rw [Zh] at hb; subst hb; subst e; exact hs ha⟩
 ·rcases Qi.1 hx with hx | hx
  ·exact h4 x hx
  ·rw [Zh] at hx; omega
def PG.set {n m : Nat} {g s : List Int} {i : Nat} {own : Int} (h : PG n m g s) (ho : 0 ≤ own ∧ own < m) : PG n m (g.set i own) s := by
 obtain ⟨h1, h2, h3, h4⟩ := h
 refine ⟨by rw [List.length_set]; exact h1, fun v hv => ?_, h3, h4⟩
 rcases List.mem_or_eq_of_mem_set hv with hv | rfl
 ·exact h2 v hv
 ·exact .inr ho
def PG.at {n m : Nat} {g s : List Int} {i : Nat} (h : PG n m g s) (hi : i < n) (h1 : g[i]?.getD 0 ≠ -1) : 0 ≤ g[i]?.getD 0 ∧ g[i]?.getD 0 < m := by
 have : i < g.length := by rw [h.1]; exact hi
 rw [Qd this, Q4] at h1 ⊢
 exact (h.2.1 _ (X2 this)).resolve_left h1
def Qlk {gd : Nat → Int → Bool} {n m : Nat} {rec : List Int → Int → List Int → Giv} {own : Int} (ho : 0 ≤ own ∧ own < m)
  (hr : ∀ (g : List Int) (j : Int) (s : List Int), PG n m g s → 0 ≤ j ∧ j < m → PG n m (rec g j s).2.1 (rec g j s).2.2) : ∀ (l : List Nat) (g s : List Int), (∀ i ∈ l, i < n) → PG n m g s → PG n m (Qd1 gd rec own l g s).2.1 (Qd1 gd rec own l g s).2.2
 | [], g, s, _, h => h
 | i :: l, g, s, hl, h => by
  have hl' : ∀ i ∈ l, i < n := fun k hk => hl k (by simp [hk])
  have k8 := hl i (by simp)
  unfold Qd1
  by_cases h1 : (i : Int) ∈ s ∨ gd i own = false
  ·rw [if_pos h1]; exact Qlk ho hr l g s hl' h
  ·rw [if_neg h1]
   have hs : (i : Int) ∉ s := fun e => h1 (.inl e)
   have hp := h.snoc k8 hs
   by_cases h2 : g[i]?.getD 0 = -1
   ·rw [if_pos h2]; exact hp.set ho
   ·rw [if_neg h2]
    have hq := hr g (g[i]?.getD 0) (s ++ [(i : Int)]) hp (h.at k8 h2)
    split
    ·exact hq.set ho
    ·exact Qlk ho hr l _ _ hl' hq
def Qll {gd : Nat → Int → Bool} {n m : Nat} : ∀ (f : Nat) (g : List Int) (own : Int) (s : List Int), 0 ≤ own ∧ own < m → PG n m g s → PG n m (Qc2 gd n f g own s).2.1 (Qc2 gd n f g own s).2.2
 | 0, _, _, _, _, h => h
 | f + 1, g, own, s, ho, h => Qlk ho (fun g j s hp hj => Qll f g j s hj hp) (Qn n) g s (by simp) h
structure D65 where
 s : Shop
 l : List Job
 g : List Int
 own : Int
 seen : List Int
def nS (s : Shop) : Nat := (Qbc s).length
def eA65 (x : D65) : List V := [.pa (Qba x.s), .rf 0 0 0 x.g.length 1, .sl 3 (x.l.map eJob), .i x.own, .mp 1 0]
def eH65 (x : D65) : List Blk := [.cells 0 (x.g.map V.i), cm x.seen]
def Qyb (xs : List V) (hp : List Blk) : D65 := match xs, hp with
 | [.pa s, _, .sl _ l, .i own, _], [.cells _ cs, .map _ ks _] => ⟨Qd4 s, l.map dJob, cs.map gI, own, ks.map fun k => k.headD 0⟩
 | _, _ => ⟨Qd4 [], [], [], 0, []⟩
def Qy3 : ∀ l : List Int, l.Nodup → cmKs l = l.map fun x => [x] := by
 refine Qb0 (p := fun l : List Int => l.Nodup → cmKs l = l.map fun x => [x]) (fun _ => rfl) fun l x ih h => ?_
 rw [Z0] at h
 rw [Qeo, ih h.1]
 unfold putK
 rw [if_neg]
 ·simp
 ·intro hm
  obtain ⟨y, hy, e⟩ := Xw.1 hm
  cases e
  exact h.2.2 x hy x (by simp) rfl
def Zdn (x : D65) (h : x.seen.Nodup) : Qyb (eA65 x) (eH65 x) = x := by
 obtain ⟨s, l, g, own, seen⟩ := x
 have e : (g.map V.i).map gI = g := by rw [Zv]; exact Xp (fun _ => rfl) g
 have e2 : (cmKs seen).map (fun k => k.headD 0) = seen := by
  rw [Qy3 seen h, Zv]
  exact Xp (fun _ => rfl) seen
 have e3 : (l.map eJob).map dJob = l := by rw [Zv]; exact Xp (fun _ => rfl) l
 simp only [Qyb, eA65, eH65, cm, Qgn, e, e2, e3]
structure C65 (k : Nat) (x : D65) : Prop where
 st : OkSt x.s
 own : 0 ≤ x.own ∧ x.own < x.l.length
 pg : PG (nS x.s) x.l.length x.g x.seen
 k : uns (nS x.s) x.seen < k
 ln : x.l.length ≤ 1000000
def R65 (k : Nat) (x : D65) (r : V) (hp : List Blk) : Prop :=
 r = .b (Qc2 (gdS x.s x.l) (nS x.s) k x.g x.own x.seen).1 ∧ hp = [.cells 0 ((Qc2 (gdS x.s x.l) (nS x.s) k x.g x.own x.seen).2.1.map V.i), cm (Qc2 (gdS x.s x.l) (nS x.s) k x.g x.own x.seen).2.2]
def HG (k : Nat) : Gam := K81.extH 81 (hpG eA65 eH65 Qyb (C65 k) (R65 k))
def kG (k : Nat) (x : D65) (h : x.seen.Nodup) : (HG k).h 81 (eA65 x) (eH65 x) = (C65 k x, R65 k x) :=
 (show (HG k).h 81 _ _ = hpG eA65 eH65 Qyb (C65 k) (R65 k) _ _ from rfl).trans (Qi9 x (Zdn x h))
def kG64 (k : Nat) (s : Shop) (p : Int × Int) (j : Job) : (HG k) 121 [.pa (Qba s), .ag (eSp p), .ag (eJob j)] = (True, .b (Qlm s p j)) := h64 s p j
def Ziv {s : Shop} (h : OkSt s) : nS s ≤ 180 := by
 have a1 := Qf3 (fun x hx => (h.s.st x hx).2) s.stock.length
 have a2 := Qo1 (l := s.dels) (fun x hx => Qo2 (h.s.de x hx))
 have a3 := h.s.nde
 have a4 := h.s.stock
 have a5 := h.w.nsp
 unfold nS Qbc
 rw [Qh]; omega
def Qub {n i : Nat} (h : i < n) : (Qn n).drop i = i :: (Qn n).drop (i + 1) := Qad (Zu h)
def W65 (k : Nat) (hG : GOk TP (HG k)) (x : D65) (h : C65 (k + 1) x) : Qb7 TP 81 (eA65 x) (eH65 x) (R65 (k + 1) x) := by
 obtain ⟨s, l, g, own, seen⟩ := x
 obtain ⟨jS, vP, bI, hk, uV⟩ := h
 simp only at jS vP bI hk uV
 have iL := bI.1
 have hn := Ziv jS
 refine Qer hG hmix func81 cf81.b cf81.c cf81.s (by exact cf81.n) (by show 2 ≤ 2; decide) (by decide) ?_
 obtain ⟨RES, hRES⟩ : ∃ RES, RES = Qc2 (gdS s l) (nS s) (k + 1) g own seen := ⟨_, rfl⟩
 have hR : ∀ r hp, r = .b RES.1 → hp = [.cells 0 (RES.2.1.map V.i), cm RES.2.2] → R65 (k + 1) ⟨s, l, g, own, seen⟩ r hp := fun r hp e1 e2 => ⟨by rw [e1, hRES], by rw [e2, hRES]⟩
 have hj : l[own.toNat]? = some (joAt l own) := by
  unfold joAt
  rw [Qj, Qd (by omega)]; rfl
 have g1 := fun p => kG64 k s p (joAt l own)
 simp only [eSp, eJob] at g1
 have gR := fun (gi : Int) (s' : List Int) (hs : s'.Nodup) => kG k ⟨s, l, g, gi, s'⟩ hs
 simp only [eA65, eH65, iL] at gR
 have j0 := stE s
 simp only [eA65, eH65, iL]
 generalize aks (Qca s.work) = ks0 at j0
 generalize avs V.i (Qca s.work) = vs0 at j0
 rw [j0] at g1 gR ⊢
 have hnS : ((Qbc s).length : Int) = nS s := rfl
 have hRL : RES = Qd1 (gdS s l) (Qc2 (gdS s l) (nS s) k) own (Qn (nS s)) g seen := hRES
 clear hRES
 obtain ⟨gd, j9⟩ : ∃ gd, gd = gdS s l := ⟨_, rfl⟩
 obtain ⟨n, y3⟩ : ∃ n, n = nS s := ⟨_, rfl⟩
 obtain ⟨m, hm⟩ : ∃ m, m = l.length := ⟨_, rfl⟩
 rw [← j9, ← y3] at hRL
 rw [← y3] at bI hk iL gR hn
 rw [← hm] at bI
 simp only [rc81, rs81, hnS, ← y3, BU2, simprocAttr]
 refine Qac n (fun i s' => ⟨lkp [(0, .pa [.sl 4 (s.work.spares.map eSpare), .sl 1 (s.work.makes.map eMake), .i s.work.cut, .sl 4 (s.work.table.map eTrial), .sl 1 (s.stock.map eI), .sl 5 (s.pieces.map ePiece), .sl 6 (s.wishes.map eWish), .sl 3 (s.dels.map eDel), .i s.carve, .sl 2 ((Qbc s).map eSp), .pm true ks0 vs0]), (1, .rf 0 0 0 n 1), (2, .sl 3 (l.map eJob)), (3, .i own), (4, .mp 1 0), (16, .sl 2 ((Qbc s).map eSp)), (17, .i n), (18, .i i)], [.cells 0 (g.map V.i), cm s']⟩)
  (fun i s' => PG n m g s' ∧ uns n s' ≤ uns n seen ∧ Qd1 gd (Qc2 gd n k) own ((Qn n).drop i) g s' = RES) seen ?_ ⟨bI, Qm _, by rw [Xi]; exact hRL.symm⟩ ?_ ?_
 ·simp only [Qg, cm, Qa0 _ _ _ (Qce _), Qa0 _ _ _ (Go.C06.noref_Is _), BU2, simprocAttr]
 ·rintro i s' hi ⟨hp, hu, hL⟩
  have jA : (i : Int) < n := by omega
  have i1 : inI ((i : Int) + 1) := by unfold inI; omega
  rw [Qub hi] at hL
  have vI : (Qbc s)[i]? = some (spAt s i) := by
   unfold spAt
   rw [Qj, Qd (by rw [y3] at hi; exact hi)]; rfl
  have o8 : gd i own = Qlm s (spAt s i) (joAt l own) := by rw [j9]; rfl
  have g2 := g1 (spAt s i)
  have bZ := Qv2 s' (i : Int)
  have k8 : (i : Int) < (Qbc s).length := by rw [hnS, ← y3]; exact jA
  by_cases hs : (i : Int) ∈ s'
  ·have hc : (0 : Int) < s'.count (i : Int) := by have := Zw.2 hs; omega
   have hL' : Qd1 gd (Qc2 gd n k) own ((Qn n).drop (i + 1)) g s' = RES := by
    rw [← hL]
    conv => rhs; unfold Qd1
    rw [if_pos (.inl hs)]
   simp only [jA, k8, vI, eSp, cm, bZ, hc, i1, Qa0 _ _ _ (Qce _), Qa0 _ _ _ (Go.C06.noref_Is _), Qf, Qe, ↓BU3, BU2, simprocAttr]
   exact ⟨s', ⟨hp, hu, hL'⟩, rfl⟩
  have zD : ((s'.count (i : Int) : Nat) : Int) = 0 := by rw [List.count_eq_zero.2 hs]; rfl
  cases xB : Qlm s (spAt s i) (joAt l own) with
  | false =>
   have hL' : Qd1 gd (Qc2 gd n k) own ((Qn n).drop (i + 1)) g s' = RES := by
    rw [← hL]
    conv => rhs; unfold Qd1
    rw [if_pos (.inr (by rw [o8]; exact xB))]
   simp only [jA, k8, vI, eSp, cm, bZ, zD, hj, vP, eJob, g2, xB, i1, Qa0 _ _ _ (Qce _), Qa0 _ _ _ (Go.C06.noref_Is _), Qf, Qe, ↓BU3, BU2, simprocAttr]
   exact ⟨s', ⟨hp, hu, hL'⟩, rfl⟩
  | true =>
   have zK : ¬ ((i : Int) ∈ s' ∨ gd i own = false) := by
    rintro (h | h)
    ·exact hs h
    ·rw [o8, xB] at h; cases h
   have kO := Zdb s' (i : Int)
   rw [zD, Xy] at kO
   have i2 : inI (1 : Int) := by unfold inI; omega
   have c1 : i + 1 ≤ n := hi
   have eB := hp.snoc hi hs
   have iM : i < g.length := by omega
   have iF   := Go.C06.hdD g i iM
   have nJ := Qoz (n := n) hi hs
   obtain ⟨z, hz⟩ : ∃ z, g[i]?.getD 0 = z := ⟨_, rfl⟩
   rw [Qj, hz] at iF
   have hgD := hz
   by_cases hf : z = -1
   ·have hL' : RES = (true, g.set i own, s' ++ [(i : Int)]) := by
     rw [← hL]
     unfold Qd1
     rw [if_neg zK, if_pos (by rw [hgD]; exact hf)]
    have hpI   := Go.C06.putI g i own iM
    simp only [jA, k8, vI, eSp, cm, bZ, zD, hj, vP, eJob, g2, xB, i2, c1, Xy, Ze, kO, iF, hf, hpI, Qa0 _ _ _ (Qce _), Qa0 _ _ _ (Go.C06.noref_Is _), iL, ↓BU3, BU2, simprocAttr]
    exact hR _ _ (by rw [hL']) (by rw [hL']; rfl)
   ·have nK := eB.at hi (by rw [hgD]; exact hf)
    rw [hgD] at nK
    have g3 := gR z (s' ++ [(i : Int)]) eB.2.2.1
    simp only [cm] at g3
    have hL' : RES = if (Qc2 gd n k g (z) (s' ++ [(i : Int)])).1 = true then (true, (Qc2 gd n k g (z) (s' ++ [(i : Int)])).2.1.set i own, (Qc2 gd n k g (z) (s' ++ [(i : Int)])).2.2)
      else Qd1 gd (Qc2 gd n k) own ((Qn n).drop (i + 1)) (Qc2 gd n k g (z) (s' ++ [(i : Int)])).2.1 (Qc2 gd n k g (z) (s' ++ [(i : Int)])).2.2 := by
     rw [← hL]
     conv => lhs; unfold Qd1
     rw [if_neg zK, if_neg (by rw [hgD]; exact hf), hgD]
    simp only [jA, k8, vI, eSp, cm, bZ, zD, hj, vP, eJob, g2, xB, i2, c1, Xy, Ze, kO, iF, hf, Qa0 _ _ _ (Qce _), Qa0 _ _ _ (Go.C06.noref_Is _), iL, g3, ↓BU3, BU2, simprocAttr]
    obtain ⟨b, g', s'', hr⟩ : ∃ b g' s'', Qc2 gd n k g z (s' ++ [(i : Int)]) = (b, g', s'') := ⟨_, _, _, rfl⟩
    refine ⟨⟨jS, by rw [← hm]; exact nK, by rw [← y3, ← hm]; exact eB, by rw [← y3]; show uns n (s' ++ [(i : Int)]) < k; omega, uV⟩, ?_⟩
    rintro r hp' ⟨e1, e2⟩
    simp only at e1 e2
    rw [← j9, ← y3, hr] at e1 e2
    rw [hr] at hL'
    simp only at e1 e2 hL'
    have zW := Qll (gd := gd) k g z (s' ++ [(i : Int)]) nK eB
    rw [hr] at zW
    simp only at zW
    have nL : i < g'.length := by rw [zW.1]; exact hi
    have hpI := Go.C06.putI g' i own nL
    subst e1 e2
    cases b with
    | true =>
     rw [if_pos rfl] at hL'
     simp only [cm, c1, hpI, zW.1, BU2, simprocAttr]
     exact hR _ _ (by rw [hL']) (by rw [hL']; rfl)
    | false =>
     rw [if_neg (by simp)] at hL'
     have iN := Qgo (gd := gd) (n := n) k g z (s' ++ [(i : Int)]) (by rw [hr])
     rw [hr] at iN
     simp only at iN
     subst iN
     simp only [cm, i1, Qa0 _ _ _ (Qce _), Qa0 _ _ _ (Go.C06.noref_Is _), Qf, Qe, BU2, simprocAttr]
     have uN := Qgp (gd := gd) (n := n) k g' z (s' ++ [(i : Int)])
     rw [hr] at uN
     simp only at uN
     exact ⟨s'', ⟨zW, by have := Qoy (n := n) uN; omega, hL'.symm⟩, rfl⟩
 ·rintro s' ⟨hp, hu, hL⟩
  have jA : ¬ ((n : Int) < n) := by omega
  rw [Z7 (by simp)] at hL
  have e1 : RES = (false, g, s') := hL.symm
  simp only [jA, BU2, simprocAttr]
  exact hR _ _ (by rw [e1]) (by rw [e1])
def okHG : ∀ k, GOk TP (HG k) := by
 intro k
 induction k with
 | zero =>
  refine Zew.extH call81 fun xs hp => Qg5 (fun x hx => ?_) xs hp
  have := hx.k
  omega
 | succ k ih => exact Zew.extH call81 fun xs hp => Qg5 (fun x hx => ⟨fun r hp' _ y hy => (by simp [eH65, ghO] at hy), W65 k ih x hx⟩) xs hp
def Qw8 {gd : Nat → Int → Bool} {n m : Nat} : ∀ i, i ≤ m → PG n m (Qci gd n i).2 []
 | 0, _ => ⟨by simp [Qci], fun v hv => .inl (Z4 hv), Zk, fun _ h => by cases h⟩
 | i + 1, h => by
  have ih := Qw8 (gd := gd) (n := n) (m := m) i (by omega)
  have := Qll (gd := gd) (n + 1) (Qci gd n i).2 i [] (m := m) (by omega) ih
  simp only [Qci]
  split
  ·exact ⟨this.1, this.2.1, Zk, fun _ h => by cases h⟩
  ·exact ⟨this.1, this.2.1, Zk, fun _ h => by cases h⟩
def Qw7 {gd : Nat → Int → Bool} {n : Nat} : ∀ i, (Qci gd n i).1 ≤ i
 | 0 => Qm _
 | i + 1 => by
  have := Qw7 (gd := gd) (n := n) i
  simp only [Qci]
  split <;> (simp only; omega)
def Qoc (s : Shop) (l : List Job) : Int := ((Qci (gdS s l) (nS s) l.length).1 : Nat)
def W38 (s : Shop) (l : List Job) (jS : OkSt s) (hl : l.length ≤ 1000000) : Qa1 TP 48 [.pa (Qba s), .sl 3 (l.map eJob)] (.i (Qoc s l)) := by
 refine pc (okHG 200) func48 cf48 ?_
 have hn := Ziv jS
 have g1 : (HG 200) 1000058 [.sl 1 [[.i (-1)]], .i (nS s)] = (0 ≤ ((nS s : Nat) : Int) ∧ ((nS s : Nat) : Int) ≤ 1000000, .tp [.rf 0 0 0 ((nS s : Nat) : Int).toNat 1, .tp [bV (.cells 0 (Qa ((nS s : Nat) : Int).toNat [V.i (-1)]).flatten)]]) := h40o (-1) (nS s)
 have b1 : 0 ≤ ((nS s : Nat) : Int) ∧ ((nS s : Nat) : Int) ≤ 1000000 := by omega
 have hnS : ((Qbc s).length : Int) = nS s := rfl
 have gR := fun (i : Nat) (gi : List Int) => kG 200 ⟨s, l, gi, i, []⟩ Zk
 simp only [eA65, eH65, cm] at gR
 have j0 := stE s
 generalize aks (Qca s.work) = ks0 at j0
 generalize avs V.i (Qca s.work) = vs0 at j0
 rw [j0] at gR ⊢
 have yA : (Qa (nS s) [V.i (-1)]).flatten = (Qa (nS s) (-1 : Int)).map V.i := by simp
 have c0 : cmKs [] = [] := rfl
 have c1 : cmVs [] = [] := rfl
 have hL : Qoc s l = ((Qci (gdS s l) (nS s) l.length).1 : Nat) := rfl
 obtain ⟨gd, j9⟩ : ∃ gd, gd = gdS s l := ⟨_, rfl⟩
 obtain ⟨n, y3⟩ : ∃ n, n = nS s := ⟨_, rfl⟩
 rw [← j9, ← y3] at hL
 rw [← y3] at g1 hn b1 yA
 simp only [rc48, rs48, hnS, ← y3, g1, b1, yA, Qda _ _ (Go.C06.noref_Is _), BU2, simprocAttr]
 refine Qaq l.length (fun i => ⟨lkp [(0, .pa [.sl 4 (s.work.spares.map eSpare), .sl 1 (s.work.makes.map eMake), .i s.work.cut, .sl 4 (s.work.table.map eTrial), .sl 1 (s.stock.map eI), .sl 5 (s.pieces.map ePiece), .sl 6 (s.wishes.map eWish), .sl 3 (s.dels.map eDel), .i s.carve, .sl 2 ((Qbc s).map eSp), .pm true ks0 vs0]), (1, .sl 3 (l.map eJob)), (5, .rf 0 0 0 n 1), (6, .i ((Qci gd n i).1 : Nat)), (16, .i l.length), (17, .i i)], [.cells 0 ((Qci gd n i).2.map V.i)]⟩) ?_ ?_ ?_
 ·simp only [Qg, Qci, Qa0 _ _ _ (Go.C06.noref_Is _), BU2, simprocAttr]
 ·intro i hi
  have jA : (i : Int) < l.length := by omega
  have i1 : inI ((i : Int) + 1) := by unfold inI; omega
  have kN := Qw7 (gd := gd) (n := n) i
  have i2 : inI (((Qci gd n i).1 : Nat) + 1 : Int) := by unfold inI; omega
  have bI := Qw8 (gd := gd) (n := n) (m := l.length) i (by omega)
  have g2 := gR i (Qci gd n i).2
  rw [bI.1] at g2
  simp only [c0, c1] at g2
  have oT := Qnd (gd := gd) (n := n) 200 (n + 1) (Qci gd n i).2 i [] (by have := Qt9 n []; omega) (by have := Qt9 n []; omega)
  have vJ : Qci gd n (i + 1) = if (Qc2 gd n (n + 1) (Qci gd n i).2 i []).1 = true then ((Qci gd n i).1, (Qc2 gd n (n + 1) (Qci gd n i).2 i []).2.1) else ((Qci gd n i).1 + 1, (Qc2 gd n (n + 1) (Qci gd n i).2 i []).2.1) := rfl
  simp only [jA, g2, ↓BU3, BU2, simprocAttr]
  refine ⟨⟨jS, by show 0 ≤ (i : Int) ∧ (i : Int) < l.length; omega, by rw [← y3]; exact bI, by rw [← y3]; show uns n [] < 200; have := Qt9 n []; omega, hl⟩, ?_⟩
  rintro r hp' ⟨e1, e2⟩
  simp only at e1 e2
  rw [← j9, ← y3, oT] at e1 e2
  obtain ⟨b, g', s'', hr⟩ : ∃ b g' s'', Qc2 gd n (n + 1) (Qci gd n i).2 i [] = (b, g', s'') := ⟨_, _, _, rfl⟩
  rw [hr] at e1 e2 vJ
  simp only at e1 e2 vJ
  subst e1 e2
  cases b with
  | true =>
   rw [if_pos rfl] at vJ
   simp only [cm, vJ, i1, Qa0 _ _ _ (Go.C06.noref_Is _), Qf, Qe, BU2, simprocAttr]
  | false =>
   rw [if_neg (by simp)] at vJ
   simp only [cm, vJ, i1, i2, Qa0 _ _ _ (Go.C06.noref_Is _), Qf, Qe, BU2, simprocAttr]
 ·have jA : ¬ ((l.length : Int) < l.length) := by omega
  simp only [jA, hL, BU2, simprocAttr]
def K82 := K81.ext 48 (fnG eJl dJl (fun a => OkSt a.1 ∧ a.2.length ≤ 1000000) (fun a => Qoc a.1 a.2) (.i))
def Zkg : GOk TP K82 := Zew.ext call48 (Qa7 fun a h => W38 a.1 a.2 h.1 h.2)
def h38 (s : Shop) (l : List Job) : K82 48 [.pa (Qba s), .sl 3 (l.map eJob)] = (OkSt s ∧ l.length ≤ 1000000, .i (Qoc s l)) := (kx K82 48 (Zoz (s, l)) rfl :)
def Zfy (s : Shop) (plan : List Int) := lft K82 (h36 s plan) rfl
def Qvw {s : Shop} {plan : List Int} (h : OkPl s plan) {l : List Job} (e : Qfa s plan = some l) : l.length ≤ 24 := by
 have h1 := Qib h plan.length l (Qm _) e
 have h2 := h.len
 have h3 := h.st.s.nwi
 omega
def Qcw (s : Shop) (plan : List Int) : Bool := match Qfa s plan with | some l => decide (Qoc s l = 0) | none => false
def W41 (s : Shop) (plan : List Int) (h : OkPl s plan) : Qa1 TP 24 [.pa (Qba s), .sl 1 (plan.map eI)] (.b (Qcw s plan)) := by
 refine pc Zkg func24 cf24 ?_
 have g1 := Zfy s plan
 have g2 := fun l => h38 s l
 cases e : Qfa s plan with
 | none =>
  rw [e] at g1
  simp only [rc24, rs24, g1, Qqy, h, Qcw, e, Qbe, Qra, binW, Qan, Qa8, flat, Qmt, ↓reduceIte, Nat.reduceEqDiff, Nat.reduceAdd, Nat.reduceLT, rvs, zipA, Qc, forall_const, implies_true, reduceCtorEq, imp_self, BU1]
 | some l =>
  rw [e] at g1
  have hl := Qvw h e
  have wS : l.length ≤ 1000000 := by omega
  have jS := h.st
  simp only [rc24, rs24, g1, Qqy, h, Qcw, e, g2, jS, wS, Qbe, Qan, Qa8, flat, Qmt, ↓reduceIte, Nat.reduceEqDiff, Nat.reduceAdd, Nat.reduceLT, rvs, zipA, beq_self_eq_true, Qc, Qy, forall_const, implies_true, reduceCtorEq, imp_self, BU1]
def K83 := K82.ext 24 (fnG ePl dPl (fun a => OkPl a.1 a.2) (fun a => Qcw a.1 a.2) (.b))
def Zkh : GOk TP K83 := Zkg.ext call24 (Qa7 fun a h => W41 a.1 a.2 h)
def h41 (s : Shop) (plan : List Int) : K83 24 [.pa (Qba s), .sl 1 (plan.map eI)] = (OkPl s plan, .b (Qcw s plan)) := (kx K83 24 (Zdj (s, plan)) rfl :)
def fitB (s : Shop) (first : List Int) (i : Nat) : Bool := !decide ((i : Int) ∈ first) && !decide (Qcf (Qbb s first.length) (Qax s i) = 0)
def Qcq (s : Shop) (e : Int) : Nat → List Int → List (List Int)
 | 0, first => [first]
 | k + 1, first => ((Qn s.pieces.length).filter (fitB s first)).flatMap (fun (i : Nat) => Qcq s e k (first ++ [(i : Int)])) ++ (if e = 0 then [] else Qcq s e k (first ++ [-1]))
def encF (p : List Int) : V := if p = [] then .z 1 else .sl 1 (p.map eI)
def encP (p : List Int) : List V := gyE [encF p] []
structure D62 where
 s : Shop
 first : List Int
 e : Int
 caps : List V
 rest : List (List V)
 b0 : V
 l : Nat
def lenP (x : D62) : Nat := x.s.wishes.length - x.first.length
def eA62 (x : D62) : List V := [.pa (Qba x.s), encF x.first, .i x.e, .yl x.l]
def eH62 (x : D62) : List Blk := [.gh x.caps (some ((.b true :: [x.b0]) :: ((Qcq x.s x.e (lenP x) x.first).map encP ++ x.rest))), vB x.b0]
def decF : V → List Int | .sl _ l => l.map dI | _ => []
def Zi1 (p : List Int) : decF (encF p) = p := by
 unfold encF
 split
 ·rename_i h; rw [h]; rfl
 ·simp [decF, Function.comp_def, Qas]
def Qya (xs : List V) (hp : List Blk) : D62 := match xs, hp with
 | [.pa s, p, .i e, .yl l], [.gh caps (some ([_, b0] :: ys)), _] => ⟨Qd4 s, decF p, e, caps, ys.drop (Qcq (Qd4 s) e ((Qd4 s).wishes.length - (decF p).length) (decF p)).length, b0, l⟩
 | _, _ => ⟨Qd4 [], [], 0, [], [], .u, 0⟩
def Zdm (x : D62) : Qya (eA62 x) (eH62 x) = x := by
 obtain ⟨s, p, e, caps, rest, b0, l⟩ := x
 simp only [Qya, eA62, eH62, Qgn, Zi1, lenP]
 rw [Zs (by simp)]
 simp
structure C62 (k : Nat) (al : List V → Prop) (x : D62) : Prop where
 y : x.caps[0]? = some (.yl x.l)
 st : OkSt x.s
 f : x.first.length ≤ x.s.wishes.length
 k : lenP x < k
 now : al [x.b0]
 one : ∀ bv, al bv → ∃ b, bv = [b]
 cut : ∀ b hp, al [b] → cutB hp 2 (vB b) = vB b
def R62 (al : List V → Prop) (x : D62) (r : V) (hp : List Blk) : Prop :=
 ∃ (b : Bool) (b0 : V), al [b0] ∧ r = .b b ∧ hp = [.gh x.caps (some ((.b b :: [b0]) :: if b then x.rest else [])), vB b0]
def HP (k : Nat) : Gam := K83.extY 130 fun al => hpG eA62 eH62 Qya (C62 k al) (R62 al)
def kP (k : Nat) (al : List V → Prop) (x : D62) : ((HP k).wal al).y 130 al (eA62 x) (eH62 x) = (C62 k al x, R62 al x) :=
 (show ((HP k).wal al).y 130 al _ _ = hpG eA62 eH62 Qya (C62 k al) (R62 al) _ _ from rfl).trans (Qi9 x (Zdm x))
def W62 (k : Nat) (hG : GOk TP (HP k)) (al : List V → Prop) (x : D62) (h : C62 (k + 1) al x) : Qkc TP 130 al (eA62 x) (eH62 x) (R62 al x) := by
 refine Qiy (hG.wal al) hmix func130 Qxx.b (lo := 2) Qxx.c Qxx.s (by exact Qxx.n) (by rfl) (by decide) ?_
 obtain ⟨s, first, e, caps, rest, b0, l⟩ := x
 obtain ⟨hy, jS, hf, hk, vX, jR, xM⟩ := h
 simp only [lenP] at hy hf hk vX jS
 have xO : ((HP k).wal al).al = al := rfl
 have gC : ∀ (l : List Int) (n : Int), ((HP k).wal al) 46 [.sl 1 (l.map eI), .i n] = (l.length < 10000000, .b (decide (n ∈ l))) := fun l n => h84 l n
 have gS : ∀ (x : Wish) (p : Piece), ((HP k).wal al) 50 [.ag (eWish x), .ag (ePiece p)] = (x.colors.length < 10000000, .i (Qcf x p)) := fun x p => h63 x p
 have gP := fun (f : List Int) (rest : List (List V)) (b : V) => kP k al ⟨s, f, e, caps, rest, b, l⟩
 simp only [eA62, eH62, lenP] at gP
 have j0 := stE s
 generalize (Qbc s).map eSp = sp0 at j0
 generalize aks (Qca s.work) = ks0 at j0
 generalize avs V.i (Qca s.work) = vs0 at j0
 have o9 : first.length < 10000000 := by have := jS.s.nwi; omega
 have jJ : (encF first = .z 1 ∧ first = []) ∨ encF first = .sl 1 (first.map eI) := by
  unfold encF
  by_cases h : first = []
  ·exact .inl ⟨by rw [if_pos h], h⟩
  ·exact .inr (by rw [if_neg h])
 obtain ⟨TL, hTL⟩ : ∃ T, T = (if e = 0 then [] else Qcq s e (s.wishes.length - (first.length + 1)) (first ++ [-1])) := ⟨_, rfl⟩
 obtain ⟨rem, dM⟩ : ∃ rem : Nat → List (List Int), rem = fun j => (((Qn s.pieces.length).drop j).filter (fitB s first)).flatMap fun (i : Nat) => Qcq s e (s.wishes.length - (first.length + 1)) (first ++ [(i : Int)]) := ⟨_, rfl⟩
 have u9 : first.length ≠ s.wishes.length → Qcq s e (s.wishes.length - first.length) first = rem 0 ++ TL := by
  intro kH
  obtain ⟨K, hK⟩ : ∃ K, s.wishes.length - first.length = K + 1 := ⟨s.wishes.length - first.length - 1, by omega⟩
  have hK2 : s.wishes.length - (first.length + 1) = K := by omega
  rw [hK, dM, hTL, hK2]; rfl
 have wT : ∀ j, j < s.pieces.length → rem j = (if fitB s first j = true then Qcq s e (s.wishes.length - (first.length + 1)) (first ++ [(j : Int)]) else []) ++ rem (j + 1) := by
  intro j hj
  rw [dM]
  simp only
  rw [Qad (Zu hj), List.filter_cons]
  split
  ·rw [Xx]
  ·rfl
 have lK : rem s.pieces.length = [] := by
  rw [dM]
  simp only
  rw [List.drop_eq_nil_iff.2 (by simp)]; rfl
 rcases jJ with ⟨hF, hz⟩ | hF
 ·have eN : first.length = 0 := by rw [hz]; rfl
  have gN : ∀ (rest : List (List V)) (b : V) (x : Int), ((HP k).wal al).y 130 al [.pa (Qba s), .sl 1 [[.i x]], .i e, .yl l] [.gh caps (some ((.b true :: [b]) :: ((Qcq s e (s.wishes.length - (first ++ [x]).length) (first ++ [x])).map encP ++ rest))), vB b] = (C62 k al ⟨s, first ++ [x], e, caps, rest, b, l⟩, R62 al ⟨s, first ++ [x], e, caps, rest, b, l⟩) := by
   intro rest b x
   rw [← gP]
   simp [encF, hz, eI]
  have gc : ∀ n : Int, ((HP k).wal al) 46 [.sl 1 [], .i n] = (True, .b (decide (n ∈ first))) := by
   intro n
   have := gC first n
   rw [hz] at this
   rw [hz]
   simpa [o9] using this
  rw [j0] at gN
  by_cases u6 : first.length = s.wishes.length
  ·have e0 : (0 : Int) = (s.wishes.length : Int) := by omega
   have ey : Qcq s e (s.wishes.length - first.length) first = [first] := by rw [u6, Nat.sub_self]; rfl
   simp only [rc130, rs130, eA62, eH62, j0, lenP, hF, ey, encP, hy, xO, ← e0, gyE, Qxa, yres, endK, Qbe, ↓reduceIte, Nat.reduceEqDiff, Nat.reduceAdd, Nat.reduceLeDiff, Int.reduceNeg, rvs, zipA, Qc, reduceCtorEq, BU1]
   intro b bv' qB
   obtain ⟨b', rfl⟩ := jR bv' qB
   refine ⟨b, b', qB, rfl, ?_⟩
   simp
  ·have e0 : ¬ (0 : Int) = (s.wishes.length : Int) := by omega
   have u9 := u9 u6
   have hw := Qfj (s := s) (i := first.length) (by omega)
   have vY : (Qbb s first.length).colors.length < 10000000 := by
    have xA := jS.s.wi _ (Qb hw)
    unfold okWish at xA
    simp only [Qq, Qal] at xA
    omega
   have j8 : ∀ j : Nat, fitB s first j = (!decide ((j : Int) ∈ first) && !decide (Qcf (Qbb s first.length) (Qax s j) = 0)) := fun _ => rfl
   obtain ⟨X, hX⟩ : ∃ X, X = Qbb s first.length := ⟨_, rfl⟩
   rw [← hX] at hw vY
   simp only [← hX] at j8
   have uM : (first.length : Int) < s.wishes.length := by omega
   rw [eN] at hw uM
   rw [Qg] at uM
   have yT : ∀ b, al [b] → ∀ hp, cutB hp 2 (vB b) = vB b := fun b h hp => xM b hp h
   simp only [cutB] at yT
   have dN := yT b0 vX
   simp only [rc130, rs130, eA62, eH62, j0, lenP, hF, e0, Qbe, ↓reduceIte, Nat.reduceEqDiff, Nat.reduceAdd, Nat.reduceLeDiff, Int.reduceNeg, zipA, Qc, reduceCtorEq, BU1]
   refine Qac s.pieces.length (fun j b => ⟨lkp [(0, .pa [.sl 4 (s.work.spares.map eSpare), .sl 1 (s.work.makes.map eMake), .i s.work.cut, .sl 4 (s.work.table.map eTrial), .sl 1 (s.stock.map eI), .sl 5 (s.pieces.map ePiece), .sl 6 (s.wishes.map eWish), .sl 3 (s.dels.map eDel), .i s.carve, .sl 2 sp0, .pm true ks0 vs0]), (1, .z 1), (2, .i e), (3, .yl l), (9, .i 0), (29, .sl 5 (s.pieces.map ePiece)), (30, .i s.pieces.length), (31, .i j)], [.gh caps (some ((.b true :: [b]) :: ((rem j).map encP ++ (TL.map encP ++ rest)))), vB b]⟩) (fun j b => al [b]) b0 ?_ vX ?_ ?_
   ·simp only [Qg, u9, Qk, Qt, dN, cutV, cutB, ↓reduceIte, Nat.reduceEqDiff, reduceCtorEq, BU1]
   ·intro j b hj hb
    have jA : (j : Int) < s.pieces.length := by omega
    have i1 : inI ((j : Int) + 1) := by unfold inI; have := jS.s.npc; omega
    have gJ := Qey (s := s) (x := j) (by omega)
    rw [Qz] at gJ
    have dO := wT j hj
    have gS1 := gS X (Qax s j)
    have aG := j8 j
    have lE : Qax s (j : Int) = Qax s j := rfl
    obtain ⟨p, hp⟩ : ∃ p, p = Qax s j := ⟨_, rfl⟩
    rw [← hp] at gJ gS1 aG
    simp only [eWish, ePiece] at gS1
    have yF := yT b hb
    have zX : fitB s first j = false → rem (j + 1) = rem j := fun e => by rw [dO, if_neg (by rw [e]; simp), Q8]
    by_cases m1 : (j : Int) ∈ first
    ·have q := zX (by rw [aG]; simp [m1])
     simp only [jA, gJ, hw, gc, i1, gS1, vY, m1, yF, uM, Qmf, ↓Qch, Qbf, Qbe, runX, fpQ, fpV, Qcg, Qan, Qa8, flat, cutV, cutB, ↓reduceIte, Nat.reduceEqDiff, Nat.reduceAdd, Nat.reduceLT, Nat.reduceLeDiff, Int.reduceNeg, Zp, Int.reduceLE, vw_z, Qc, Qy, forall_const, implies_true, reduceCtorEq, Qr, Qv, imp_self, ePiece, eWish, BU1]
     exact ⟨b, hb, by simp [q]⟩
    by_cases m2 : Qcf X p = 0
    ·have q := zX (by rw [aG]; simp [m2])
     simp only [jA, gJ, hw, gc, i1, gS1, vY, m1, m2, yF, uM, Qmf, ↓Qch, Qbf, Qbe, runX, fpQ, fpV, Qcg, Qan, Qa8, flat, cutV, cutB, ↓reduceIte, Nat.reduceEqDiff, Nat.reduceAdd, Nat.reduceLT, Nat.reduceLeDiff, Int.reduceNeg, Zp, Int.reduceLE, vw_z, beq_self_eq_true, Qc, forall_const, implies_true, reduceCtorEq, Qr, Qv, ePiece, eWish, BU1]
     exact ⟨b, hb, by simp [q]⟩
    rw [if_pos (by rw [aG]; simp [m1, m2])] at dO
    have g := gN ((rem (j + 1)).map encP ++ (TL.map encP ++ rest)) b j
    have ek : s.wishes.length - (first ++ [(j : Int)]).length = s.wishes.length - (first.length + 1) := by simp
    rw [ek, ← Qt ((Qcq s e (s.wishes.length - (first.length + 1)) (first ++ [(j : Int)])).map encP), ← Qk, ← dO] at g
    obtain ⟨L, hL⟩ : ∃ L, L = first ++ [(j : Int)] := ⟨_, rfl⟩
    have hLl : first.length + 1 = L.length := by rw [hL]; simp
    have q8 : (first.map eI).flatten ++ [V.i (j : Int)] = L.map V.i := by rw [Go.C06.flat_I, hL, Qk]; rfl
    have wO : L.length ≤ 2147483648 := by have := jS.s.nwi; omega
    rw [← hL] at g
    simp only [jA, gJ, hw, gc, i1, gS1, vY, m1, m2, yF, uM, xO, g, hpF, upB, upL, upV, Qaf, Nat.reduceLeDiff, Qx, Qo, Ze, Qm, Ze2, Qmf, Qk7, Qec, Qk8, Qio, drpS, Qk1, ↓Qch, Qbf, endK, Qbe, runX, fpQ, fpV, Qcb, slxV, Qbg, Qck, Qc8, Qcg, Qan, Qa8, flat, cutV, cutB, ↓reduceIte, Nat.reduceEqDiff, Nat.reduceAdd, Nat.reduceLT, Nat.reduceLeDiff, Int.reduceNeg, Zp, Int.reduceLE, Q5, rvs, vw_z, Qqj, beq_self_eq_true, Qc, forall_const, implies_true, reduceCtorEq, not_false_eq_true, ne_eq, Qr, Qv, X3, ePiece, eWish, BU1]
    refine ⟨⟨hy, jS, by show L.length ≤ s.wishes.length; omega, by show s.wishes.length - L.length < k; omega, hb, jR, xM⟩, ?_⟩
    rintro r hp' ⟨bb, b2, xH, rfl, rfl⟩
    have zY := yT b2 xH
    cases bb with
    | false =>
     simp only [cutB, ↓reduceIte, Qc, Qy, forall_const, BU1]
     exact ⟨false, b2, xH, rfl, by simp⟩
    | true =>
     simp only [zY, cutB, ↓reduceIte, Qc, forall_const, BU1]
     exact ⟨b2, xH, rfl⟩
   ·intro b hb
    have yF := yT b hb
    by_cases e1 : e = 0
    ·have hTL0 : TL = [] := by rw [hTL, if_pos e1]
     simp only [Q1, lK, e1, hTL0, Qk7, Qec, Qk8, Qnr, Qio, Qk1, endK, Qbe, Qrb, slxV, Qbg, Qck, Qc8, Qcg, Qan, Qa8, ↓reduceIte, Nat.reduceEqDiff, Nat.reduceMul, Nat.reduceLeDiff, Int.reduceNeg, Q5, rvs, Q1, Qc, Qy, forall_const, implies_true, reduceCtorEq, not_false_eq_true, ne_eq, imp_self, BU1]
     exact ⟨true, b, hb, rfl, by simp⟩
    ·have hTL0 : TL = Qcq s e (s.wishes.length - (first.length + 1)) (first ++ [-1]) := by rw [hTL, if_neg e1]
     have g := gN rest b (-1)
     have ek : s.wishes.length - (first ++ [(-1 : Int)]).length = s.wishes.length - (first.length + 1) := by simp
     rw [ek, ← hTL0] at g
     obtain ⟨L, hL⟩ : ∃ L, L = first ++ [(-1 : Int)] := ⟨_, rfl⟩
     have hLl : first.length + 1 = L.length := by rw [hL]; simp
     have q8 : (first.map eI).flatten ++ [V.i (-1)] = L.map V.i := by rw [Go.C06.flat_I, hL, Qk]; rfl
     have wO : L.length ≤ 2147483648 := by have := jS.s.nwi; omega
     rw [← hL] at g
     simp only [Q1, lK, e1, yF, xO, g, hpF, upB, upL, upV, Qaf, Nat.reduceLeDiff, Qx, Qo, Ze, Qm, Qk7, Qec, Qk8, Qnr, Qio, drpS, Qk1, ↓Qch, endK, Qbe, Qcb, slxV, Qbg, Qck, Qc8, Qcg, Qan, Qa8, cutV, cutB, ↓reduceIte, Nat.reduceEqDiff, Nat.reduceAdd, Nat.reduceLT, Nat.reduceLeDiff, Int.reduceNeg, Q5, rvs, Qqj, Q1, beq_self_eq_true, Qc, forall_const, implies_true, reduceCtorEq, not_false_eq_true, ne_eq, BU1]
     refine ⟨⟨hy, jS, by show L.length ≤ s.wishes.length; omega, by show s.wishes.length - L.length < k; omega, hb, jR, xM⟩, ?_⟩
     rintro r hp' ⟨bb, b2, xH, rfl, rfl⟩
     have zY := yT b2 xH
     simp only [Qii, ↓reduceIte, Qc, true_and, and_self]
     exact ⟨bb, b2, xH, rfl, by cases bb <;> simp⟩
 ·have eN : first.length = first.length := rfl
  have gN : ∀ (rest : List (List V)) (b : V) (x : Int), ((HP k).wal al).y 130 al [.pa (Qba s), .sl 1 ((first ++ [x]).map eI), .i e, .yl l] [.gh caps (some ((.b true :: [b]) :: ((Qcq s e (s.wishes.length - (first ++ [x]).length) (first ++ [x])).map encP ++ rest))), vB b] = (C62 k al ⟨s, first ++ [x], e, caps, rest, b, l⟩, R62 al ⟨s, first ++ [x], e, caps, rest, b, l⟩) := by
   intro rest b x
   rw [← gP]
   simp [encF, eI]
  have gc : ∀ n : Int, ((HP k).wal al) 46 [.sl 1 (first.map eI), .i n] = (True, .b (decide (n ∈ first))) := by
   intro n
   have := gC first n
   rw []
   simpa [o9] using this
  rw [j0] at gN
  by_cases u6 : first.length = s.wishes.length
  ·have e0 : (first.length : Int) = (s.wishes.length : Int) := by omega
   have ey : Qcq s e (s.wishes.length - first.length) first = [first] := by rw [u6, Nat.sub_self]; rfl
   simp only [rc130, rs130, eA62, eH62, j0, lenP, hF, ey, encP, hy, xO, e0, gyE, Qxa, yres, endK, Qbe, ↓reduceIte, Nat.reduceEqDiff, Nat.reduceAdd, Nat.reduceLeDiff, Int.reduceNeg, rvs, zipA, Qc, reduceCtorEq, BU1]
   intro b bv' qB
   obtain ⟨b', rfl⟩ := jR bv' qB
   refine ⟨b, b', qB, rfl, ?_⟩
   simp
  ·have e0 : ¬ (first.length : Int) = (s.wishes.length : Int) := by omega
   have u9 := u9 u6
   have hw := Qfj (s := s) (i := first.length) (by omega)
   have vY : (Qbb s first.length).colors.length < 10000000 := by
    have xA := jS.s.wi _ (Qb hw)
    unfold okWish at xA
    simp only [Qq, Qal] at xA
    omega
   have j8 : ∀ j : Nat, fitB s first j = (!decide ((j : Int) ∈ first) && !decide (Qcf (Qbb s first.length) (Qax s j) = 0)) := fun _ => rfl
   obtain ⟨X, hX⟩ : ∃ X, X = Qbb s first.length := ⟨_, rfl⟩
   rw [← hX] at hw vY
   simp only [← hX] at j8
   have uM : (first.length : Int) < s.wishes.length := by omega
   rw [eN] at hw uM
   have pA : (first.map eI).take first.length = first.map eI := Qu (by simp)
   have yT : ∀ b, al [b] → ∀ hp, cutB hp 2 (vB b) = vB b := fun b h hp => xM b hp h
   simp only [cutB] at yT
   have dN := yT b0 vX
   simp only [rc130, rs130, eA62, eH62, j0, lenP, hF, e0, Qbe, ↓reduceIte, Nat.reduceEqDiff, Nat.reduceAdd, Nat.reduceLeDiff, Int.reduceNeg, zipA, Qc, reduceCtorEq, BU1]
   refine Qac s.pieces.length (fun j b => ⟨lkp [(0, .pa [.sl 4 (s.work.spares.map eSpare), .sl 1 (s.work.makes.map eMake), .i s.work.cut, .sl 4 (s.work.table.map eTrial), .sl 1 (s.stock.map eI), .sl 5 (s.pieces.map ePiece), .sl 6 (s.wishes.map eWish), .sl 3 (s.dels.map eDel), .i s.carve, .sl 2 sp0, .pm true ks0 vs0]), (1, .sl 1 (first.map eI)), (2, .i e), (3, .yl l), (9, .i first.length), (29, .sl 5 (s.pieces.map ePiece)), (30, .i s.pieces.length), (31, .i j)], [.gh caps (some ((.b true :: [b]) :: ((rem j).map encP ++ (TL.map encP ++ rest)))), vB b]⟩) (fun j b => al [b]) b0 ?_ vX ?_ ?_
   ·simp only [Qg, u9, Qk, Qt, dN, cutV, cutB, ↓reduceIte, Nat.reduceEqDiff, reduceCtorEq, BU1]
   ·intro j b hj hb
    have jA : (j : Int) < s.pieces.length := by omega
    have i1 : inI ((j : Int) + 1) := by unfold inI; have := jS.s.npc; omega
    have gJ := Qey (s := s) (x := j) (by omega)
    rw [Qz] at gJ
    have dO := wT j hj
    have gS1 := gS X (Qax s j)
    have aG := j8 j
    have lE : Qax s (j : Int) = Qax s j := rfl
    obtain ⟨p, hp⟩ : ∃ p, p = Qax s j := ⟨_, rfl⟩
    rw [← hp] at gJ gS1 aG
    simp only [eWish, ePiece] at gS1
    have yF := yT b hb
    have zX : fitB s first j = false → rem (j + 1) = rem j := fun e => by rw [dO, if_neg (by rw [e]; simp), Q8]
    by_cases m1 : (j : Int) ∈ first
    ·have q := zX (by rw [aG]; simp [m1])
     simp only [jA, gJ, hw, gc, i1, gS1, vY, m1, yF, uM, Qmf, ↓Qch, Qbf, Qbe, runX, fpQ, fpV, Qcg, Qan, Qa8, flat, cutV, cutB, ↓reduceIte, Nat.reduceEqDiff, Nat.reduceAdd, Nat.reduceLT, Nat.reduceLeDiff, Int.reduceNeg, Qc, Qy, forall_const, implies_true, reduceCtorEq, Qr, Qv, imp_self, ePiece, eWish, BU1]
     exact ⟨b, hb, by simp [q]⟩
    by_cases m2 : Qcf X p = 0
    ·have q := zX (by rw [aG]; simp [m2])
     simp only [jA, gJ, hw, gc, i1, gS1, vY, m1, m2, yF, uM, Qmf, ↓Qch, Qbf, Qbe, runX, fpQ, fpV, Qcg, Qan, Qa8, flat, cutV, cutB, ↓reduceIte, Nat.reduceEqDiff, Nat.reduceAdd, Nat.reduceLT, Nat.reduceLeDiff, Int.reduceNeg, beq_self_eq_true, Qc, forall_const, implies_true, reduceCtorEq, Qr, Qv, ePiece, eWish, BU1]
     exact ⟨b, hb, by simp [q]⟩
    rw [if_pos (by rw [aG]; simp [m1, m2])] at dO
    have g := gN ((rem (j + 1)).map encP ++ (TL.map encP ++ rest)) b j
    have ek : s.wishes.length - (first ++ [(j : Int)]).length = s.wishes.length - (first.length + 1) := by simp
    rw [ek, ← Qt ((Qcq s e (s.wishes.length - (first.length + 1)) (first ++ [(j : Int)])).map encP), ← Qk, ← dO] at g
    obtain ⟨L, hL⟩ : ∃ L, L = first ++ [(j : Int)] := ⟨_, rfl⟩
    have hLl : first.length + 1 = L.length := by rw [hL]; simp
    have q8 : (first.map eI).flatten ++ [V.i (j : Int)] = L.map V.i := by rw [Go.C06.flat_I, hL, Qk]; rfl
    have wO : L.length ≤ 2147483648 := by have := jS.s.nwi; omega
    rw [← hL] at g
    simp only [jA, gJ, hw, gc, i1, gS1, vY, m1, m2, yF, uM, xO, g, hpF, upB, upL, upV, Qaf, Nat.reduceLeDiff, Qx, Qo, Ze, Qm, pA, q8, hLl, Go.C06.chunkI, vw_I, wO, Qae _ _ (Go.C06.noref_Is _), Ze2, Qmf, Qk7, Qec, Qk8, Qio, drpS, Qk1, ↓Qch, Qbf, endK, Qbe, runX, fpQ, fpV, Qcb, slxV, Qbg, Qck, Qc8, Qcg, Qan, Qa8, flat, cutV, cutB, ↓reduceIte, Nat.reduceEqDiff, Nat.reduceAdd, Nat.reduceLT, Nat.reduceLeDiff, Int.reduceNeg, Q5, rvs, Qqj, beq_self_eq_true, Qc, forall_const, implies_true, reduceCtorEq, not_false_eq_true, ne_eq, Qr, Qv, X3, ePiece, eWish, BU1]
    refine ⟨Zt _, ⟨hy, jS, by show L.length ≤ s.wishes.length; omega, by show s.wishes.length - L.length < k; omega, hb, jR, xM⟩, ?_⟩
    rintro r hp' ⟨bb, b2, xH, rfl, rfl⟩
    have zY := yT b2 xH
    cases bb with
    | false =>
     simp only [cutB, ↓reduceIte, Qc, Qy, forall_const, BU1]
     exact ⟨false, b2, xH, rfl, by simp⟩
    | true =>
     simp only [zY, cutB, ↓reduceIte, Qc, forall_const, BU1]
     exact ⟨b2, xH, rfl⟩
   ·intro b hb
    have yF := yT b hb
    by_cases e1 : e = 0
    ·have hTL0 : TL = [] := by rw [hTL, if_pos e1]
     simp only [Q1, lK, e1, hTL0, Qk7, Qec, Qk8, Qnr, Qio, Qk1, endK, Qbe, Qrb, slxV, Qbg, Qck, Qc8, Qcg, Qan, Qa8, ↓reduceIte, Nat.reduceEqDiff, Nat.reduceMul, Nat.reduceLeDiff, Int.reduceNeg, Q5, rvs, Q1, Qc, Qy, forall_const, implies_true, reduceCtorEq, not_false_eq_true, ne_eq, imp_self, BU1]
     exact ⟨true, b, hb, rfl, by simp⟩
    ·have hTL0 : TL = Qcq s e (s.wishes.length - (first.length + 1)) (first ++ [-1]) := by rw [hTL, if_neg e1]
     have g := gN rest b (-1)
     have ek : s.wishes.length - (first ++ [(-1 : Int)]).length = s.wishes.length - (first.length + 1) := by simp
     rw [ek, ← hTL0] at g
     obtain ⟨L, hL⟩ : ∃ L, L = first ++ [(-1 : Int)] := ⟨_, rfl⟩
     have hLl : first.length + 1 = L.length := by rw [hL]; simp
     have q8 : (first.map eI).flatten ++ [V.i (-1)] = L.map V.i := by rw [Go.C06.flat_I, hL, Qk]; rfl
     have wO : L.length ≤ 2147483648 := by have := jS.s.nwi; omega
     rw [← hL] at g
     simp only [Q1, lK, e1, yF, xO, g, hpF, upB, Qaf, Qx, Qo, Ze, Qm, pA, q8, hLl, Go.C06.chunkI, vw_I, wO, Qae _ _ (Go.C06.noref_Is _), Qk7, Qec, Qk8, Qnr, Qio, drpS, Qk1, ↓Qch, endK, Qbe, Qcb, slxV, Qbg, Qck, Qc8, Qcg, Qan, Qa8, cutV, cutB, ↓reduceIte, Nat.reduceEqDiff, Nat.reduceAdd, Nat.reduceLT, Int.reduceNeg, Q5, rvs, Qqj, Q1, beq_self_eq_true, Qc, forall_const, implies_true, reduceCtorEq, not_false_eq_true, ne_eq, BU1]
     refine ⟨Zt _, ⟨hy, jS, by show L.length ≤ s.wishes.length; omega, by show s.wishes.length - L.length < k; omega, hb, jR, xM⟩, ?_⟩
     rintro r hp' ⟨bb, b2, xH, rfl, rfl⟩
     have zY := yT b2 xH
     simp only [Qii, ↓reduceIte, Qc, true_and, and_self]
     exact ⟨bb, b2, xH, rfl, by cases bb <;> simp⟩
def okHP : ∀ k, GOk TP (HP k) := by
 intro k
 induction k with
 | zero =>
  refine Zkh.extY call130 fun al => Ziq fun x hx => ?_
  have := hx.k
  omega
 | succ k ih => exact Zkh.extY call130 fun al => Ziq fun x hx => W62 k ih al x hx
def Qik (s : Shop) (e : Int) : List (List Int) := Qcq s e s.wishes.length []
def itP (s : Shop) (e : Int) (l : Nat) (b0 : V) : List Blk := [.gh [.yl l, .pa (Qba s)] (some ((.b true :: [b0]) :: (Qik s e).map encP)), vB b0]
def tP (e : Int) (al : List V → Prop) (xs : List V) (hp : List Blk) : Prop × (V → List Blk → Prop) :=
 (∃ s l b0, OkSt s ∧ al [b0] ∧ (∀ bv, al bv → ∃ b, bv = [b]) ∧ (∀ b hp, al [b] → cutB hp 2 (vB b) = vB b) ∧ xs = [.pa (Qba s), .yl l] ∧ hp = itP s e l b0,
  fun r hp => ∃ s l, xs = [.pa (Qba s), .yl l] ∧ Go.C06.RIt al [.yl l, .pa (Qba s)] r hp)
def W77 (al : List V → Prop) (s : Shop) (l : Nat) (b0 : V) (jS : OkSt s) (vX : al [b0]) (jR : ∀ bv, al bv → ∃ b, bv = [b]) (xM : ∀ b hp, al [b] → cutB hp 2 (vB b) = vB b) :
  Qkc TP 98 al [.pa (Qba s), .yl l] (itP s 1 l b0) (Go.C06.RIt al [.yl l, .pa (Qba s)]) := by
 refine Qiy ((okHP 7).wal al) hmix func98 cf98.b (lo := 2) cf98.c cf98.s (by exact cf98.n) (by rfl) (by decide) ?_
 have xO : ((HP 7).wal al).al = al := rfl
 have g2 := kP 7 al ⟨s, [], 1, [.yl l, .pa (Qba s)], [], b0, l⟩
 have e1 : encF [] = .z 1 := rfl
 have e2 : Qcq s 1 (s.wishes.length - ([] : List Int).length) [] = Qik s 1 := rfl
 simp only [eA62, eH62, lenP, e1, e2, Zj] at g2
 have j0 := stE s
 generalize (Qbc s).map eSp = sp0 at j0
 generalize aks (Qca s.work) = ks0 at j0
 generalize avs V.i (Qca s.work) = vs0 at j0
 rw [j0] at g2
 have yT : ∀ hp, cutB hp 2 (vB b0) = vB b0 := fun hp => xM b0 hp vX
 simp only [cutB] at yT
 simp only [rc98, rs98, itP, j0, xO, g2, yT, Qk7, Qec, Qk8, Qio, drpS, ↓Qch, endK, cutV, cutB, ↓reduceIte, Nat.reduceEqDiff, Nat.reduceAdd, Nat.reduceLeDiff, rvs, zipA, reduceCtorEq, BU1]
 have hw := jS.s.nwi
 refine ⟨⟨rfl, jS, Zy _, by show s.wishes.length - 0 < 7; omega, vX, jR, xM⟩, ?_⟩
 rintro r hp' ⟨b, b2, h1, rfl, rfl⟩
 have zY : ∀ hp, cutB hp 2 (vB b2) = vB b2 := fun hp => xM b2 hp h1
 simp only [cutB] at zY
 simp only []
 exact ⟨b, [b2], [], [], by cases b <;> simp, fun _ => rfl, h1⟩
def K84 := (HP 7).extY 98 (tP 1)
def Zq1 : GOk TP K84 := by
 refine (okHP 7).extY call98 fun al xs hp h => ?_
 obtain ⟨s, l, b0, h1, h2, h3, h4, rfl, rfl⟩ := h
 exact (W77 al s l b0 h1 h2 h3 h4).mono fun r hp h => ⟨s, l, rfl, h⟩
def K85 := K84
def Zki : GOk TP K85 := Zq1
def Zg2 (al : List V → Prop) (xs : List V) (hp : List Blk) : K85.y 98 al xs hp = tP 1 al xs hp := rfl
def Zg0 (x n : Int) := lft K85 (h40 x n) rfl
def Zg1 (s : Shop) (plan : List Int) := lft K85 (h41 s plan) rfl
def Qzt (s : Shop) (plan : List Int) := lft K85 (h56 s plan) rfl
def Zfz (s : Shop) (is : Bool) := lft K85 (h34 s is) rfl
def Qm8 (s : Shop) (e : Int) : ∀ (k : Nat) (first : List Int), ∀ p ∈ Qcq s e k first, p.length = first.length + k ∧ ∀ x ∈ p, x ∈ first ∨ (-1 ≤ x ∧ x < s.pieces.length)
 | 0, first, p, hp => by
  have : p = first := by simpa [Qcq] using hp
  subst this
  exact ⟨rfl, fun _ h => .inl h⟩
 | k + 1, first, p, hp => by
  simp only [Qcq, Qi, Z6, List.mem_filter, Zb] at hp
  rcases hp with ⟨i, ⟨hi, _⟩, hp⟩ | hp
  ·obtain ⟨h1, h2⟩ := Qm8 s e k _ p hp
   rw [Qh, Xg] at h1
   refine ⟨by omega, fun x hx => ?_⟩
   rcases h2 x hx with h | h
   ·rcases Qi.1 h with h | h
    ·exact .inl h
    ·rw [Zh] at h; exact .inr (by omega)
   ·exact .inr h
  ·split at hp
   ·cases hp
   ·obtain ⟨h1, h2⟩ := Qm8 s e k _ p hp
    rw [Qh, Xg] at h1
    refine ⟨by omega, fun x hx => ?_⟩
    rcases h2 x hx with h | h
    ·rcases Qi.1 h with h | h
     ·exact .inl h
     ·rw [Zh] at h; exact .inr (by omega)
    ·exact .inr h
def Qq1 {s : Shop} {e : Int} {p : List Int} (hp : p ∈ Qik s e) : p.length = s.wishes.length ∧ ∀ x ∈ p, -1 ≤ x ∧ x < s.pieces.length := by
 obtain ⟨h1, h2⟩ := Qm8 s e _ _ p hp
 refine ⟨by simpa using h1, fun x hx => ?_⟩
 rcases h2 x hx with h | h
 ·cases h
 ·exact h
def Zey {s : Shop} (jS : OkSt s) {p : List Int} (h : p.length = s.wishes.length ∧ ∀ x ∈ p, -1 ≤ x ∧ x < s.pieces.length) : OkPl s p := ⟨jS, by omega, fun x hx => (h.2 x hx).2⟩
def Qol (s : Shop) : List Int := Qa s.wishes.length (-1)
def betP (s : Shop) (best p : List Int) : List Int := if takN s best < takN s p ∧ Qcw s p = true then p else best
def Qj2 (s : Shop) (k : Nat) : List Int := ((Qik s 1).take k).foldl (betP s) (Qol s)
def Qj1 (s : Shop) : List Int := (Qik s 1).foldl (betP s) (Qol s)
def Qn2 {s : Shop} {k : Nat} {p : List Int} (h : (Qik s 1)[k]? = some p) : Qj2 s (k + 1) = betP s (Qj2 s k) p := by
 unfold Qj2
 rw [Qa4 h, List.foldl_append]; rfl
def Qyw (s : Shop) : (Qol s).length = s.wishes.length ∧ ∀ x ∈ Qol s, -1 ≤ x ∧ x < s.pieces.length := by
 refine ⟨by simp [Qol], fun x hx => ?_⟩
 have := Z4 hx
 omega
def Qro (s : Shop) : ∀ k, (Qj2 s k).length = s.wishes.length ∧ ∀ x ∈ Qj2 s k, -1 ≤ x ∧ x < s.pieces.length := by
 intro k
 induction k with
 | zero => exact Qyw s
 | succ k ih =>
  cases hp : (Qik s 1)[k]? with
  | none =>
   have e : Qj2 s (k + 1) = Qj2 s k := by
    unfold Qj2
    have := List.getElem?_eq_none_iff.1 hp
    rw [Qu (by omega), Qu this]
   rw [e]; exact ih
  | some p =>
   rw [Qn2 hp]
   unfold betP
   split
   ·exact Qq1 (Qb hp)
   ·exact ih
def W57 (s : Shop) (jS : OkSt s) : Qa1 TP 67 [.pa (Qba s)] (.sl 1 ((Qj1 s).map eI)) := by
 refine pc Zki func67 cf67 ?_
 have g1 := Zg0 (-1) s.wishes.length
 rw [Qz] at g1
 have g2 := Qzt s
 have g3 := Zg1 s
 have e2 : itP s 1 = fun l b0 => itP s 1 l b0 := rfl
 obtain ⟨A, hA⟩ : ∃ A, A = Qik s 1 := ⟨_, rfl⟩
 have j0 := stE s
 generalize (Qbc s).map eSp = sp0 at j0
 generalize aks (Qca s.work) = ks0 at j0
 generalize avs V.i (Qca s.work) = vs0 at j0
 rw [j0] at g2 g3
 have hn : (0 : Int) ≤ s.wishes.length ∧ (s.wishes.length : Int) ≤ 1000000 := by have := jS.s.nwi; omega
 simp only [rc67, rs67, j0, g1, hn, Zc4, Qk1, Qbe, Qbg, Qck, Qc8, Qcg, Qan, Qa8, flat, ↓reduceIte, Nat.reduceEqDiff, Nat.reduceAdd, Nat.reduceMul, Nat.reduceLT, Nat.reduceLeDiff, Int.reduceNeg, Q5, zipA, Qc, reduceCtorEq, not_false_eq_true, ne_eq, imp_self, BU1]
 refine Zc5 (gf := 98) (caps := [.pa [.sl 4 (s.work.spares.map eSpare), .sl 1 (s.work.makes.map eMake), .i s.work.cut, .sl 4 (s.work.table.map eTrial), .sl 1 (s.stock.map eI), .sl 5 (s.pieces.map ePiece), .sl 6 (s.wishes.map eWish), .sl 3 (s.dels.map eDel), .i s.carve, .sl 2 sp0, .pm true ks0 vs0]]) ?_ (fun bv => ∃ best : List Int, bv = [bV (.cells 0 [.sl 1 (best.map eI)])]) (A.map fun p => ([encF p], [])) (bv0 := [bV (.cells 0 [.sl 1 ((Qol s).map eI)])]) ?_
  (fun k bv => bv = [bV (.cells 0 [.sl 1 ((Qj2 s k).map eI)])]) ?_ ?_ ?_ ?_ ?_ ?_
 ·simp only [evO, cutV, Qdn, ↓reduceIte, Nat.reduceEqDiff, Int.reduceNeg]
 ·simp only [Qb2, Qol, Qb2, cutV, cutL, cutB, Int.reduceNeg, BU1]
 ·rfl
 ·rintro k bv rfl
  exact ⟨_, rfl⟩
 ·rintro bv ⟨best, rfl⟩
  refine ⟨rfl, fun hp => ?_⟩
  simp only [Qb2, Qb2, cutV, cutL, cutB, Qw, Qs]
 ·intro l
  rw [Zg2, ← j0]
  refine ⟨⟨s, l, bV (.cells 0 [.sl 1 ((Qol s).map eI)]), jS, ⟨Qol s, rfl⟩, fun bv h => ?_, fun b hp h => ?_, rfl, ?_⟩, fun r hp' h => ?_⟩
  ·obtain ⟨best, rfl⟩ := h
   exact ⟨_, rfl⟩
  ·obtain ⟨best, h⟩ := h
   cases h
   simp only [Qb2, Qb2, cutV, cutL, cutB]
  ·rw [Zv, hA]; rfl
  ·obtain ⟨s', l', e, h⟩ := h
   simp only [Z5, Q8, Je.injEq, V.yl.injEq, and_true] at e
   rw [e.1, e.2]; exact h
 ·rintro k x z bv hx rfl
  rw [Xs, Option.map_eq_some_iff] at hx
  obtain ⟨p, hp, he⟩ := hx
  simp only [Prod.mk.injEq] at he
  obtain ⟨rfl, rfl⟩ := he
  refine ⟨rfl, Qm _, ?_⟩
  rw [hA] at hp
  have zW := Qq1 (Qb hp)
  have bW := Qro s k
  have wW := Qn2 hp
  unfold betP at wW
  obtain ⟨B, hB⟩ : ∃ B, B = Qj2 s k := ⟨_, rfl⟩
  rw [← hB] at bW wW ⊢
  have o1 : OkPl s p := Zey jS zW
  have g4 := g2 p
  have g5 := g2 B
  have g6 := g3 p
  have l1 : p.length ≤ s.wishes.length := by omega
  have l2 : B.length ≤ s.wishes.length := by omega
  by_cases hz : p = []
  ·have qQ : B = [] := List.length_eq_zero_iff.1 (by rw [bW.1, ← zW.1, hz]; rfl)
   have e1 : encF p = .z 1 := by unfold encF; rw [if_pos hz]
   rw [hz, Qs] at g4
   rw [qQ, Qs] at g5
   rw [hz, qQ, if_neg (fun h => Q1 _ h.1)] at wW
   simp only [Qb2, e1, g4, qQ, jS, Zy, ↓Qch, rnQ, updL, Qbf, Qb2, Qbe, runX, fpQ, fpV, Qra, Qan, Qa8, flat, cutV, ↓reduceIte, Nat.reduceEqDiff, Nat.reduceLT, Nat.reduceLeDiff, Int.reduceNeg, vw_z, Q1, Qc, forall_const, implies_true, Qr, Qv, imp_self, BU1]
   refine ⟨[bV (.cells 0 [.sl 1 (([] : List Int).map eI)])], ?_, rfl, ⟨_, rfl⟩, by rw [wW]⟩
   simp only [Qb2, Qb2, cutV, cutL, cutB, BU1]
  ·have e1 : encF p = .sl 1 (p.map eI) := by unfold encF; rw [if_neg hz]
   by_cases q1 : takN s B < takN s p
   ·by_cases q2 : Qcw s p = true
    ·rw [if_pos ⟨q1, q2⟩] at wW
     simp only [Qb2, e1, g4, g5, g6, o1, l1, l2, jS, q1, q2, ↓Qch, rnQ, updL, Qbf, Qb2, Qbe, runX, fpQ, fpV, Qcg, Qan, Qa8, flat, cutV, ↓reduceIte, Nat.reduceEqDiff, Nat.reduceLT, Nat.reduceLeDiff, Int.reduceNeg, beq_self_eq_true, Qc, Qy, forall_const, implies_true, Qr, Qv, BU1]
     refine ⟨[bV (.cells 0 [.sl 1 (p.map eI)])], ?_, rfl, ⟨_, rfl⟩, by rw [wW]⟩
     simp only [Qb2, Qb2, cutV, cutL, cutB, BU1]
    ·have q3 : Qcw s p = false := by simpa using q2
     rw [if_neg (fun h => q2 h.2)] at wW
     simp only [Qb2, e1, g4, g5, g6, o1, l1, l2, jS, q1, q3, ↓Qch, rnQ, updL, Qbf, Qb2, Qbe, runX, fpQ, fpV, Qan, Qa8, flat, cutV, ↓reduceIte, Nat.reduceEqDiff, Nat.reduceLT, Nat.reduceLeDiff, Int.reduceNeg, beq_self_eq_true, Qc, Qy, forall_const, implies_true, Qr, Qv, BU1]
     refine ⟨[bV (.cells 0 [.sl 1 (B.map eI)])], ?_, rfl, ⟨_, rfl⟩, by rw [wW]⟩
     simp only [Qb2, Qb2, cutV, cutL, cutB, BU1]
   ·rw [if_neg (fun h => q1 h.1)] at wW
    simp only [Qb2, e1, g4, g5, g6, o1, l1, l2, jS, q1, ↓Qch, rnQ, updL, Qbf, Qb2, Qbe, runX, fpQ, fpV, Qan, Qa8, flat, cutV, ↓reduceIte, Nat.reduceEqDiff, Nat.reduceLT, Nat.reduceLeDiff, Int.reduceNeg, Qc, forall_const, implies_true, Qr, Qv, imp_self, BU1]
    refine ⟨[bV (.cells 0 [.sl 1 (B.map eI)])], ?_, rfl, ⟨_, rfl⟩, by rw [wW]⟩
    simp only [Qb2, Qb2, cutV, cutL, cutB, BU1]
 ·rintro bv rfl
  have e : Qj2 s (A.map fun p => (([encF p], []) : List V × List V)).length = Qj1 s := by
   unfold Qj2 Qj1
   rw [Zc, hA, Za]
  rw [e]
  simp only [Qb2, ↓Qch, Qb2, Qbe, cutV, ↓reduceIte, Nat.reduceEqDiff, Nat.reduceLT, Nat.reduceLeDiff, Int.reduceNeg, rvs, Qc, BU1]
def K86 := K85.ext 67 (fnG (fun s => [.pa (Qba s)]) (fun xs => match xs with | [.pa s] => Qd4 s | _ => Qd4 []) (OkSt) (Qj1) ((fun l => .sl 1 (l.map eI))))
def Zkj : GOk TP K86 := Zki.ext (f := 67) (fun a w => call67 a w) (Qa7 (e := (fun s => [.pa (Qba s)])) (d := (fun xs => match xs with | [.pa s] => Qd4 s | _ => Qd4 [])) (ok := OkSt) (g := Qj1) (eb := (fun l => .sl 1 (l.map eI))) fun a h => W57 a h)
def h57 (s : Shop) : K86 67 [.pa (Qba s)] = (OkSt s, .sl 1 ((Qj1 s).map eI)) := (show K86 67 _ = fnG (fun s => [.pa (Qba s)]) (fun xs => match xs with | [.pa s] => Qd4 s | _ => Qd4 []) (OkSt) (Qj1) ((fun l => .sl 1 (l.map eI))) ((fun s => [.pa (Qba s)]) s) from rfl).trans (Qap _ ((fun s => Qgn s) s))
def Zg3 (s : Shop) (is : Bool) : K86 22 [.ag (Qat s), .b is] = (SmallS s, Qjs s is) := Zfz s is
def Zg4 (s : Shop) (plan : List Int) : K86 25 [.pa (Qba s), .sl 1 (plan.map eI)] = (OkSt s ∧ plan.length ≤ s.wishes.length, .i (takN s plan)) := Qzt s plan
def Qxs (s : Shop) : (Qj1 s).length = s.wishes.length ∧ ∀ x ∈ Qj1 s, -1 ≤ x ∧ x < s.pieces.length := by
 have := Qro s (Qik s 1).length
 unfold Qj2 at this
 rw [Za] at this
 exact this
def Qwq {s : Shop} {is : Bool} (h : Qd7 s is = 0) : OkSt s := by
 unfold Qd7 at h
 by_cases e : Qcl s = 0
 ·exact ⟨(Qmj e).1, (Qmj e).2⟩
 ·rw [if_pos e] at h
  exact absurd h e
def Qhq (s : Shop) (is : Bool) : Int × Int := if Qd7 s is = 0 then (takN s (Qj1 s), 0) else (0, Qd7 s is)
def W33 (s : Shop) (is : Bool) (h : SmallS s) : Qa1 TP 37 [.ag (Qat s), .b is] (.tp [.i (Qhq s is).1, .i (Qhq s is).2]) := by
 refine pc Zkj func37 cf37 ?_
 have g1 := Zg3 s is
 have g2 := h57 s
 have g3 := Zg4 s (Qj1 s)
 have hl := (Qxs s).1
 have j0 := stE s
 generalize (Qbc s).map eSp = sp0 at j0
 generalize aks (Qca s.work) = ks0 at j0
 generalize avs V.i (Qca s.work) = vs0 at j0
 unfold Qjs at g1
 rw [j0] at g1 g2 g3
 unfold Qat at g1
 unfold Qhq
 by_cases e : Qd7 s is = 0
 ·have jS := Qwq e
  have l1 : (Qj1 s).length ≤ s.wishes.length := by omega
  rw [if_pos e] at g1 ⊢
  simp only [rc37, rs37, g1, g2, g3, h, jS, l1, BL, simprocAttr]
 ·rw [if_neg e] at g1 ⊢
  simp only [rc37, rs37, g1, h, e, BL, simprocAttr]
def K87 := K86.ext 37 (fnG eHB dHB (fun a => SmallS a.1) (fun a => Qhq a.1 a.2) ((fun r => .tp [.i r.1, .i r.2])))
def Zkk : GOk TP K87 := Zkj.ext (f := 37) (fun a w => call37 a w) (Qa7 (e := eHB) (d := dHB) (ok := fun a => SmallS a.1) (g := fun a => Qhq a.1 a.2) (eb := (fun r => .tp [.i r.1, .i r.2])) fun a h => W33 a.1 a.2 h)
def h33 (s : Shop) (is : Bool) : K87 37 [.ag (Qat s), .b is] = (SmallS s, .tp [.i (Qhq s is).1, .i (Qhq s is).2]) := (show K87 37 _ = fnG eHB dHB (fun a => SmallS a.1) (fun a => Qhq a.1 a.2) ((fun r => .tp [.i r.1, .i r.2])) (eHB (s, is)) from rfl).trans (Qap _ (Zhk (s, is)))
def W14 (s : Shop) (h : SmallS s) : Qa1 TP 18 [.ag (Qat s)] (.tp [.i (Qhq s true).1, .i (Qhq s true).2]) := by
 refine pc Zkk func18 cf18 ?_
 have g := h33 s true
 unfold Qat at g
 simp only [rc18, rs18, g, h, BL, simprocAttr]
def K88 := K87.ext 18 (fnG eH1 dH1 (SmallS) (fun s => Qhq s true) ((fun r => .tp [.i r.1, .i r.2])))
def Zq2 : GOk TP K88 := Zkk.ext call18 (Qa7 fun a h => W14 a h)
def h14 (s : Shop) : K88 18 [.ag (Qat s)] = (SmallS s, .tp [.i (Qhq s true).1, .i (Qhq s true).2]) := (kx K88 18 (Qqp s) rfl :)
def K89 := K88
def Zq3 : GOk TP K89 := Zq2
def K90 := K89
def Zkl : GOk TP K90 := Zq3
def exW : Work := ⟨[⟨1, 2, ⟨300, 310⟩⟩, ⟨1, 3, ⟨305, 305⟩⟩, ⟨2, 1, ⟨50, 60⟩⟩, ⟨1, 2, ⟨320, 330⟩⟩], [[⟨1, [2, 3], ⟨300, 306⟩⟩, ⟨2, [1], ⟨40, 58⟩⟩], [⟨1, [2], ⟨310, 326⟩⟩]], 5, [⟨0, 1, 0, 0⟩]⟩
def exC : Shop := ⟨exW, [1, 0, 0, 0], [⟨1, 60, 0, 0, [0]⟩, ⟨1, 60, 7, 0, []⟩, ⟨2, 65, 0, 1, [0]⟩, ⟨2, 60, 0, 0, [0, 1]⟩],
 [⟨[1], ⟨55, 65⟩, 7, 3, 500⟩, ⟨[1, 2], ⟨60, 60⟩, 0, 5, 400⟩, ⟨[2], ⟨60, 70⟩, 9, 8, 700⟩, ⟨[2], ⟨65, 65⟩, 0, 5, 300⟩], [⟨4, 2, 1⟩, ⟨6, 3, 1⟩], 2⟩
def Qvc : Qd7 exC true = 0 := by decide +kernel
def Qyf : takN exC (Qj1 exC) = 1600 := by decide +kernel
def Qvd : Qhq exC true = (1600, 0) := by
 unfold Qhq
 rw [if_pos Qvc, Qyf]
def W46 : Qa1 TP 17 [] (.ag (Qaj exW)) := by
 refine pc Zkl func17 cf17 ?_
 simp only [rc17, rs17, exW, BL, simprocAttr]
 rfl
def p46 : List V → Prop × V := fun xs => (xs = [], .ag (Qaj exW))
def K91 := K90.ext 17 p46
def Zkm : GOk TP K91 := Zkl.ext call17 (by rintro xs rfl; exact W46)
def h46 : K91 17 [] = (True, .ag (Qaj exW)) := by show ([] = [], _) = _; simp
def W23 : Qa1 TP 19 [] (.ag (Qat exC)) := by
 refine pc Zkm func19 cf19 ?_
 have g := h46
 unfold Qaj at g
 simp only [rc19, rs19, g, exC, BL, simprocAttr]
 rfl
def p23 : List V → Prop × V := fun xs => (xs = [], .ag (Qat exC))
def K92 := K91.ext 19 p23
def Zkn : GOk TP K92 := Zkm.ext call19 (by rintro xs rfl; exact W23)
def h23 : K92 19 [] = (True, .ag (Qat exC)) := by show ([] = [], _) = _; simp
def Qve : SmallS exC := (Qit (by decide +kernel)).1
end Go.CS
end
