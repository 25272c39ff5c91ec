import Derived.Test.YtcdgojonaloclaaG3
import Derived.Test.YtcdgojonaloclaaChecked
set_option linter.all false
open List renaming map_cons → Qb, map_nil → Qc, length_cons → Qd, length_nil → Qf, headD_cons → Qg, drop_succ_cons → Qi, append_nil → Qj, length_map → Qk, drop_zero → Ql, take_succ_cons → Qm, getD_eq_getElem?_getD → Qn, getElem?_eq_getElem → Qo, cons_append → Qp, nil_append → Qq, getElem?_map → Qs, mem_of_getElem? → Qw, take_nil → Qx, all_nil → Q0, all_cons → Q1, replicate_zero → Za, take_zero → Zb, getElem?_nil → Zc, contains_nil → Zd, isEmpty_nil → Zf, take_length → Zg, getElem?_cons_zero → Zj, any_eq_not_all_not → Zp, any_nil → Zq, set_cons_zero → Zr, getElem?_of_mem → Zu, contains_cons → Zv, drop_nil → Zx, isEmpty_cons → Z0, getElem?_cons_succ → Z1, countP_le_length → Z4, countP_singleton → Z5, length_replicate → Z6, replicate_succ → Z8, getD_cons_zero → Z9, getD_cons_succ → Xa, any_cons → Xb, countP_append → Xc, set_cons_succ → Xd, countP_nil → Xh, foldl_cons → Xi, foldl_nil → Xk, headD_nil → Xl
open Nat renaming zero_add → Qe, add_zero → Z3
open Bool renaming false_eq_true → Qa, or_false → Qh, and_self → Qt, and_true → Qv, decide_eq_true → Q2, not_eq_true' → Q4, not_eq_true → Q9, decide_eq_false → Zh, not_eq_false → Zi, false_and → Zl, not_false → Zm, not_eq_false' → Zn, not_true → Zo, true_and → Zs, false_or → Zt, not_not → Zw, true_eq_false → Xe, and_false → Xm
open Option renaming getD_some → Qr, map_some → Q3, getD_none → Ze, some → Xf, map_none → Xj
open Int renaming natCast_nonneg → Qu, toNat_natCast → Qy, tdiv_eq_ediv_of_nonneg → Qz, natCast_add → Q5, natCast_zero → Q6, natCast_one → Q7, lt_irrefl → Q8, mul_nonneg → Zk, mul_le_mul → Zy, add_sub_cancel → Zz, neg_tdiv → Z2, toNat_zero → Z7, neg_mul_neg → Xg
namespace Go.C02
open Go.Fam
structure Span where
 low : Int
 high : Int
 deriving DecidableEq
structure Strip where
 long : Int
 pulled : Span
 deriving DecidableEq
structure Bolt where
 stretch : Span
 strips : List Strip
 wrong : Int
 deriving DecidableEq
structure Dome where
 bolts : List Bolt
 gores : List Int
 loss : Int
 rounds : List Span
 widths : List Int
 slope : Int
 deriving DecidableEq
structure Tent where
 dome : Dome
 can : List (List Int)
def eI (n : Int) : List V := [.i n]
def eIs (l : List Int) : V := .sl 1 (l.map eI)
def eSpan (s : Span) : List V := [.i s.low, .i s.high]
def eStrip (s : Strip) : List V := [.i s.long, .i s.pulled.low, .i s.pulled.high]
def eBolt (b : Bolt) : List V := [.i b.stretch.low, .i b.stretch.high, .sl 3 (b.strips.map eStrip), .i b.wrong]
def Qal (d : Dome) : List V := [.sl 4 (d.bolts.map eBolt), .sl 1 (d.gores.map eI), .i d.loss, .sl 2 (d.rounds.map eSpan), .sl 1 (d.widths.map eI), .i d.slope]
def eCan (l : List Int) : List V := [.sl 1 (l.map eI)]
def Qbk (t : Tent) : List V := Qal t.dome ++ [.sl 1 (t.can.map eCan)]
def gI : V → Int | .i n => n | _ => 0
def gR : V → List (List V) | .sl _ r => r | _ => []
def dI (r : List V) : Int := gI (r.headD .u)
def Qtz : List V → Span | [a, b] => ⟨gI a, gI b⟩ | _ => ⟨0, 0⟩
def Qpn : List V → Strip | [a, b, c] => ⟨gI a, ⟨gI b, gI c⟩⟩ | _ => ⟨0, ⟨0, 0⟩⟩
def Qnr : List V → Bolt | [a, b, c, d] => ⟨⟨gI a, gI b⟩, (gR c).map Qpn, gI d⟩ | _ => ⟨⟨0, 0⟩, [], 0⟩
def Qjh : List V → Dome | [a, b, c, d, e, f] => ⟨(gR a).map Qnr, (gR b).map dI, gI c, (gR d).map Qtz, (gR e).map dI, gI f⟩ | _ => ⟨[], [], 0, [], [], 0⟩
def dCan (r : List V) : List Int := (gR (r.headD .u)).map dI
def Qya : List V → Tent | [a, b, c, d, e, f, g] => ⟨Qjh [a, b, c, d, e, f], (gR g).map dCan⟩ | _ => ⟨Qjh [], []⟩
theorem Qeu {α : Type} {e : α → List V} {d : List V → α} (h : ∀ x, d (e x) = x) (l : List α) : (l.map e).map d = l := by
 rw [List.map_map]; conv => rhs; rw [← List.map_id l]
 exact List.map_congr_left fun x _ => h x
theorem Qfc (n : Int) : dI (eI n) = n := rfl
theorem Qns (s : Span) : Qtz (eSpan s) = s := rfl
theorem Qki (s : Strip) : Qpn (eStrip s) = s := rfl
theorem Qeq (b : Bolt) : Qnr (eBolt b) = b := by simp [Qnr, eBolt, gI, gR, Function.comp_def, Qki]
theorem Qdh (d : Dome) : Qjh (Qal d) = d := by simp [Qjh, Qal, gI, gR, Function.comp_def, Qeq, Qfc, Qns]
theorem Qv9 (l : List Int) : dCan (eCan l) = l := by simp [dCan, eCan, gR, Function.comp_def, Qfc]
theorem Qve (t : Tent) : Qya (Qbk t) = t := by
 have := Qdh t.dome
 unfold Qal at this
 simp [Qya, Qbk, Qal, this, gR, Function.comp_def, Qv9]
theorem Qi9 (s : Span) : (⟨s.low, s.high⟩ : Span) = s := rfl
theorem Qzo (s : Strip) : (⟨s.long, s.pulled⟩ : Strip) = s := rfl
theorem Qnp (s : Bolt) : (⟨s.stretch, s.strips, s.wrong⟩ : Bolt) = s := rfl
theorem Qfd (s : Dome) : (⟨s.bolts, s.gores, s.loss, s.rounds, s.widths, s.slope⟩ : Dome) = s := rfl
theorem Qzc (s : Tent) : (⟨s.dome, s.can⟩ : Tent) = s := rfl
def fnG {A B : Type} (e : A → List V) (d : List V → A) (ok : A → Prop) (g : A → B) (eb : B → V) : List V → Prop × V := fun vs => (e (d vs) = vs ∧ ok (d vs), eb (g (d vs)))
theorem Qau {P : Program} {A B : Type} {e : A → List V} {d : List V → A} {ok : A → Prop} {g : A → B} {eb : B → V} {f : Nat} (h : ∀ a, ok a → Qab P f (e a) (eb (g a))) (vs : List V) (hv : (fnG e d ok g eb vs).1) :
  Qab P f vs (fnG e d ok g eb vs).2 := by
 have := h (d vs) hv.2
 rw [hv.1] at this
 exact this
theorem Qb1 {A B : Type} {e : A → List V} {d : List V → A} {ok : A → Prop} {g : A → B} {eb : B → V} (a : A) (h : d (e a) = a) : fnG e d ok g eb (e a) = (ok a, eb (g a)) := by
 simp [fnG, h]
end Go.C02
set_option maxRecDepth 8000
namespace Go.C02
open Go.Fam Go.Proofs
def rc37 : RC := (.seq (.reg false [(cX 2 0), (cQ 4 [] (.mv (kB false)))]) (.keep [1,2] (.seq (.seq (.reg false [(cMv 6 1), (cLn 7 6), (cFa 8 2 0), (cLd 9 8 false 1), (cLn 10 9), (cB 11 .neq 7 10)]) (.keep [1,2,11] (.cond (.t 11) (.seq (.reg false [(cQ 4 [] (.mv (kB false)))]) .ret) .skip))) (.keep [1,2] (.seq (.seq (.reg false [(cI 5 0)]) (.keep [1,2,5] (.block 0 (.loop [1,2,5] none (.seq (.seq (.reg false [(cMv 12 5), (cMv 13 1), (cLn 14 13), (cB 15 .lss 12 14)]) (.keep [1,2,5,15] (.cond (.t 15) .skip (.exit 0)))) (.keep [1,2,5] (.seq (.block 1 (.seq (.any false 0 [⟨(cFa 18 2 0), [], []⟩, ⟨(cLd 19 18 false 1), [], [0]⟩, ⟨(cMv 20 5), [], []⟩, ⟨(cA 21 4 19 20), [], [1,0,2]⟩, ⟨(cLd 22 21 true 4), [], [3,1,0,2]⟩, ⟨(cMv 23 1), [], []⟩, ⟨(cMv 24 5), [], []⟩, ⟨(cA 25 1 23 24), [], [5,6]⟩, ⟨(cLd 26 25 false 1), [], [7,5,6]⟩, ⟨(cQ 27 [22,26] (.call (kF 69) [(.t 22), (.t 26)])), [], [4,3,1,0,2,8,7,5,6]⟩, ⟨(cN 28 27), [], [9,4,3,1,0,2,8,7,5,6]⟩]) (.keep [1,2,5,28] (.cond (.t 28) (.seq (.reg false [(cQ 4 [] (.mv (kB false)))]) .ret) .skip)))) (.keep [1,2,5] (.reg false [(cMv 16 5), (cC 17 .add 16 1), (cMv 5 17)]))))))))) (.keep [] (.seq (.reg false [(cQ 4 [] (.mv (kB true)))]) .ret)))))))
def pu37 : List Nat := [2]
def rs37 : List RV := [.t 4]
theorem cc37 : CCx Try.prog Try.f37 pu37 rc37 := by unfold CCx; kernel_rfl
theorem cb37 : CBx Try.f37 := by unfold CBx; kernel_rfl
theorem cs37 : CSx Try.prog Try.f37 rs37 := by unfold CSx; kernel_rfl
theorem cn37 : 2 ≤ Try.f37.ntmps := by decide
def rc45 : RC := (.seq (.reg false [(cX 1 0), (cQ 2 [] (.mv (.k (.z 1)))), (cI 3 0)]) (.keep [1] (.seq (.reg false [(cLd 10 1 true 6), (cQ 11 [10] (.call (kF 79) [(.t 10), (kB true)])), (cMv 9 11), (cEx 12 9 0), (cEx 13 9 1), (cMv 4 12), (cMv 5 13)]) (.keep [1,4,5] (.seq (.seq (.reg false [(cMv 14 5), (cC 15 .neq 14 0)]) (.keep [1,4,5,15] (.cond (.t 15) (.seq (.reg false [(cMv 16 5), (cQ 2 [] (.mv (.k (.z 1)))), (cMv 3 16)]) .ret) .skip))) (.keep [1,4] (.seq (.reg false [(cQ 6 [] (.mv (.k (.z 1))))]) (.keep [1,4,6] (.seq (.seq (.reg false [(cFa 17 1 4), (cLd 18 17 false 1), (cLn 19 18), (cI 20 0)]) (.keep [4,6,18,19,20] (.block 0 (.own 6 1 (.loop [4,6,18,19,20] none (.seq (.reg false [(cB 21 .lss 20 19)]) (.keep [4,6,18,19,20,21] (.seq (.cond (.t 21) .skip (.exit 0)) (.keep [4,6,18,19,20] (.seq (.block 1 (.seq (.reg false [(cMv 22 20), (cA 23 1 18 20), (cLd 24 23 false 1), (cMv 7 22), (cMv 8 24)]) (.keep [4,6,7,8,18,19,20] (.seq (.reg false [(cMv 25 4), (cMv 26 7), (cMv 27 8), (cQ 28 [25,26,27] (.call (kF 80) [(.t 25), (.t 26), (.t 27)])), (cC 29 .neq 28 1)]) (.keep [4,6,7,18,19,20,29] (.cond (.t 29) (.reg false [(cMv 30 6), (cMv 31 7), (cQ 32 [31] (.bsl 1 1 [(.i 0)] [(0,1, (.t 31))])), ⟨(some 33), none, [30,32], none, .w (.app 1 (.t 30) (.t 32))⟩, (cMv 6 33)]) .skip)))))) (.keep [4,6,18,19,20] (.reg false [(cC 34 .add 20 1), (cMv 20 34)])))))))))))) (.keep [6] (.seq (.reg false [(cMv 35 6), (cMv 2 35), (cI 3 0)]) .ret)))))))))))
def pu45 : List Nat := [1,32]
def rs45 : List RV := [.t 2, .t 3]
theorem cc45 : CCx Try.prog Try.f45 pu45 rc45 := by unfold CCx; kernel_rfl
theorem cb45 : CBx Try.f45 := by unfold CBx; kernel_rfl
theorem cs45 : CSx Try.prog Try.f45 rs45 := by unfold CSx; kernel_rfl
theorem cn45 : 1 ≤ Try.f45.ntmps := by decide
def rc47 : RC := (.seq (.reg false [(cX 1 0), (cQ 2 [] (.mv (.k (.z 1)))), (cI 3 0)]) (.keep [1] (.seq (.reg false [(cLd 17 1 true 6), (cQ 18 [17] (.call (kF 79) [(.t 17), (kB true)])), (cMv 16 18), (cEx 19 16 0), (cEx 20 16 1), (cMv 4 19), (cMv 5 20)]) (.keep [1,4,5] (.seq (.seq (.reg false [(cMv 21 5), (cC 22 .neq 21 0)]) (.keep [1,4,5,22] (.cond (.t 22) (.seq (.reg false [(cMv 23 5), (cQ 2 [] (.mv (.k (.z 1)))), (cMv 3 23)]) .ret) .skip))) (.keep [1,4] (.seq (.reg false [(cQ 6 [] (.mv (.k (.z 2))))]) (.keep [1,4,6] (.seq (.seq (.reg false [(cFa 24 1 3), (cLd 25 24 false 1), (cLn 26 25), (cI 27 0)]) (.keep [1,4,6,26,27] (.block 0 (.own 6 2 (.loop [1,4,6,26,27] (some 1) (.seq (.reg false [(cB 28 .lss 27 26)]) (.keep [1,4,6,26,27,28] (.seq (.cond (.t 28) .skip (.exit 0)) (.keep [1,4,6,26,27] (.seq (.block 1 (.seq (.reg false [(cMv 29 27), (cMv 7 29)]) (.keep [1,4,6,7,26,27] (.seq (.reg false [(cMv 31 4), (cMv 32 7), (cQ 33 [31,32] (.call (kF 81) [(.t 31), (.t 32)])), (cMv 30 33), (cEx 34 30 0), (cEx 35 30 1), ⟨(some 8), none, [], none, .w (.alc [(.i 0), (.i 0)])⟩, ⟨none, none, [8,34], none, .w (.st 2 (.t 8) (.t 34))⟩, (cMv 9 35)]) (.keep [1,4,6,8,9,26,27] (.seq (.seq (.reg false [(cMv 36 9), (cN 37 36)]) (.keep [1,4,6,8,26,27,37] (.cond (.t 37) (.seq (.reg false [(cQ 2 [] (.mv (.k (.z 1)))), (cI 3 3)]) .ret) .skip))) (.keep [1,4,6,8,26,27] (.reg false [(cMv 38 6), (cLd 39 8 true 2), (cQ 40 [39] (.bsl 2 1 [(.i 0), (.i 0)] [(0,2, (.t 39))])), ⟨(some 41), none, [38,40], none, .w (.app 2 (.t 38) (.t 40))⟩, (cMv 6 41)])))))))) (.drp 1 (.keep [1,4,6,26,27] (.reg false [(cC 42 .add 27 1), (cMv 27 42)]))))))))))))) (.keep [1,6] (.seq (.reg false [(cQ 10 [] (.mv (.k (.z 1))))]) (.keep [1,6,10] (.seq (.seq (.reg false [(cMv 43 6), (cLn 44 43), (cI 45 0)]) (.keep [1,6,10,43,44,45] (.block 2 (.own 10 1 (.loop [1,6,10,43,44,45] (some 2) (.seq (.reg false [(cB 46 .lss 45 44)]) (.keep [1,6,10,43,44,45,46] (.seq (.cond (.t 46) .skip (.exit 2)) (.keep [1,6,10,43,44,45] (.seq (.block 3 (.seq (.reg false [(cMv 47 45), (cA 48 2 43 45), (cLd 49 48 true 2), ⟨(some 12), none, [], none, .w (.alc [(.i 0), (.i 0)])⟩, (cMv 11 47), ⟨none, none, [12,49], none, .w (.st 2 (.t 12) (.t 49))⟩]) (.keep [1,6,10,11,12,43,44,45] (.seq (.reg false [(cFa 50 12 0), (cLd 51 50 false 1), (cMv 13 51)]) (.keep [1,6,10,11,12,13,43,44,45] (.seq (.seq (.reg false [(cMv 52 6), (cLn 53 52), (cI 54 0)]) (.keep [1,6,10,11,12,13,43,44,45,52,53,54] (.block 4 (.loop [1,6,10,11,12,13,43,44,45,52,53,54] (some 3) (.seq (.reg false [(cB 55 .lss 54 53)]) (.keep [1,6,10,11,12,13,43,44,45,52,53,54,55] (.seq (.cond (.t 55) .skip (.exit 4)) (.keep [1,6,10,11,12,13,43,44,45,52,53,54] (.seq (.block 5 (.seq (.reg false [(cMv 56 54), (cA 57 2 52 54), (cLd 58 57 true 2), ⟨(some 15), none, [], none, .w (.alc [(.i 0), (.i 0)])⟩, (cMv 14 56), ⟨none, none, [15,58], none, .w (.st 2 (.t 15) (.t 58))⟩]) (.keep [1,6,10,11,12,13,14,15,43,44,45,52,53,54] (.reg false [(cMv 59 13), (cFa 60 15 0), (cLd 61 60 false 1), (cFa 62 1 5), (cLd 63 62 false 1), (cMv 64 11), (cMv 65 14), (cB 66 .sub 64 65), (cMv 67 14), (cMv 68 11), (cB 69 .sub 67 68), (cQ 70 [66,69] (.mx (.t 66) (.t 69))), (cB 71 .mul 63 70), (cB 72 .sub 61 71), (cQ 73 [59,72] (.mx (.t 59) (.t 72))), (cMv 13 73)])))) (.drp 3 (.keep [1,6,10,11,12,13,43,44,45,52,53,54] (.reg false [(cC 74 .add 54 1), (cMv 54 74)])))))))))))) (.keep [1,6,10,12,13,43,44,45] (.seq (.seq (.reg false [(cMv 75 13), (cFa 76 12 1), (cLd 77 76 false 1), (cB 78 .gtr 75 77)]) (.keep [1,6,10,13,43,44,45,78] (.cond (.t 78) (.seq (.reg false [(cQ 2 [] (.mv (.k (.z 1)))), (cI 3 3)]) .ret) .skip))) (.keep [1,6,10,13,43,44,45] (.reg false [(cMv 79 10), (cMv 80 13), (cQ 81 [80] (.bsl 1 1 [(.i 0)] [(0,1, (.t 80))])), ⟨(some 82), none, [79,81], none, .w (.app 1 (.t 79) (.t 81))⟩, (cMv 10 82)])))))))))) (.drp 2 (.keep [1,6,10,43,44,45] (.reg false [(cC 83 .add 45 1), (cMv 45 83)]))))))))))))) (.keep [10] (.seq (.reg false [(cMv 84 10), (cMv 2 84), (cI 3 0)]) .ret)))))))))))))))
def pu47 : List Nat := [1,40,81]
def rs47 : List RV := [.t 2, .t 3]
theorem cc47 : CCx Try.prog Try.f47 pu47 rc47 := by unfold CCx; kernel_rfl
theorem cb47 : CBx Try.f47 := by unfold CBx; kernel_rfl
theorem cs47 : CSx Try.prog Try.f47 rs47 := by unfold CSx; kernel_rfl
theorem cn47 : 1 ≤ Try.f47.ntmps := by decide
def rc55 : RC := (.seq (.reg false [(cX 1 0), ⟨(some 2), none, [], none, .w (.alc [(.z 4), (.z 1), (.i 0), (.z 2), (.z 1), (.i 0)])⟩]) (.keep [1,2] (.seq (.reg false [(cLd 5 1 true 6), ⟨(some 3), none, [], none, .w (.alc [(.z 4), (.z 1), (.i 0), (.z 2), (.z 1), (.i 0)])⟩, ⟨none, none, [3,5], none, .w (.st 6 (.t 3) (.t 5))⟩]) (.keep [1,2,3] (.seq (.reg false [⟨(some 6), none, [], none, .w (.bso 4 0 [(.i 0), (.i 0), (.z 3), (.i 0)] [])⟩, (cFa 7 1 0), (cLd 8 7 false 1), ⟨(some 9), none, [6,8], none, .w (.app 4 (.t 6) (.t 8))⟩, (cFa 10 3 0), ⟨none, none, [10,9], none, .w (.st 1 (.t 10) (.t 9))⟩]) (.keep [1,2,3] (.seq (.seq (.reg false [(cI 4 0)]) (.keep [1,2,3,4] (.block 0 (.loop [1,2,3,4] (some 3) (.seq (.seq (.reg false [(cMv 11 4), (cFa 12 3 0), (cLd 13 12 false 1), (cLn 14 13), (cB 15 .lss 11 14)]) (.keep [1,2,3,4,15] (.cond (.t 15) .skip (.exit 0)))) (.keep [1,2,3,4] (.seq (.block 1 (.any false 2 [⟨(cFa 18 3 0), [], []⟩, ⟨(cLd 19 18 false 1), [], [0]⟩, ⟨(cMv 20 4), [], []⟩, ⟨⟨(some 21), none, [], (some 0), .w (.bso 3 0 [(.i 0), (.i 0), (.i 0)] [])⟩, [0,1,2], []⟩, ⟨(cFa 22 1 0), [3], []⟩, ⟨(cLd 23 22 false 1), [3], [4]⟩, ⟨(cMv 24 4), [3], []⟩, ⟨(cA 25 4 23 24), [3], [5,4,6]⟩, ⟨(cFa 26 25 2), [3], [7,5,4,6]⟩, ⟨(cLd 27 26 false 1), [3], [8,7,5,4,6]⟩, ⟨⟨(some 28), none, [21,27], (some 1), .w (.app 3 (.t 21) (.t 27))⟩, [0,1,2], [3,9,8,7,5,4,6]⟩, ⟨(cA 29 4 19 20), [], [1,0,2,3,4,5,6,7,8,9,10]⟩, ⟨(cFa 30 29 2), [], [11,1,0,2,3,4,5,6,7,8,9,10]⟩, ⟨⟨none, none, [30,28], none, .w (.st 1 (.t 30) (.t 28))⟩, [], [12,11,1,0,2,3,4,5,6,7,8,9,10]⟩])) (.drp 3 (.keep [1,2,3,4] (.reg false [(cMv 16 4), (cC 17 .add 16 1), (cMv 4 17)])))))))))) (.keep [1,2,3] (.seq (.any false 6 [⟨⟨(some 31), none, [], (some 0), .w (.bso 1 0 [(.i 0)] [])⟩, [], []⟩, ⟨(cFa 32 1 1), [0], []⟩, ⟨(cLd 33 32 false 1), [0], [1]⟩, ⟨⟨(some 34), none, [31,33], (some 1), .w (.app 1 (.t 31) (.t 33))⟩, [], [0,2,1]⟩, ⟨⟨(some 35), none, [], (some 2), .w (.bso 2 0 [(.i 0), (.i 0)] [])⟩, [0,1,2,3], []⟩, ⟨(cFa 36 1 3), [0,3,4], []⟩, ⟨(cLd 37 36 false 1), [0,3,4], [5]⟩, ⟨⟨(some 38), none, [35,37], (some 3), .w (.app 2 (.t 35) (.t 37))⟩, [], [4,6,5,3,0,2,1]⟩, ⟨⟨(some 39), none, [], (some 4), .w (.bso 1 0 [(.i 0)] [])⟩, [0,1,2,3,4,5,6,7], []⟩, ⟨(cFa 40 1 4), [0,3,4,7,8], []⟩, ⟨(cLd 41 40 false 1), [0,3,4,7,8], [9]⟩, ⟨⟨(some 42), none, [39,41], (some 5), .w (.app 1 (.t 39) (.t 41))⟩, [], [8,10,9,7,4,6,5,3,0,2,1]⟩, ⟨(cFa 43 3 1), [4,7,8,11], [0,1,2,3]⟩, ⟨⟨none, none, [43,34], none, .w (.st 1 (.t 43) (.t 34))⟩, [], [12,0,1,2,3,11,8,10,9,7,4,6,5]⟩, ⟨(cFa 44 3 3), [], [0,1,2,3,4,5,6,7,12,13,11,8,10,9]⟩, ⟨⟨none, none, [44,38], none, .w (.st 1 (.t 44) (.t 38))⟩, [], [14,0,1,2,3,4,5,6,7,12,13,11,8,10,9]⟩, ⟨(cFa 45 3 4), [], [0,1,2,3,4,5,6,7,8,9,10,11,12,13,14,15]⟩, ⟨⟨none, none, [45,42], none, .w (.st 1 (.t 45) (.t 42))⟩, [], [16,0,1,2,3,4,5,6,7,8,9,10,11,12,13,14,15]⟩]) (.keep [2,3] (.seq (.reg false [(cLd 46 3 true 6), ⟨none, none, [2,46], none, .w (.st 6 (.t 2) (.t 46))⟩]) .ret)))))))))))
def pu55 : List Nat := [1]
def rs55 : List RV := [.c 2 true 6]
theorem cc55 : CCx Try.prog Try.f55 pu55 rc55 := by unfold CCx; kernel_rfl
theorem cb55 : CBx Try.f55 := by unfold CBx; kernel_rfl
theorem cs55 : CSx Try.prog Try.f55 rs55 := by unfold CSx; kernel_rfl
theorem cn55 : 1 ≤ Try.f55.ntmps := by decide
def rc57 : RC := (.seq (.reg false [(cX 1 0), (cQ 2 [] (.mv (kB false)))]) (.keep [1] (.seq (.seq (.reg true [(cFa 8 1 0), (cLd 9 8 false 1), (cLn 10 9), (cC 11 .gtr 10 20), (cMv 12 11), (gQ 13 12 false [1] (.fad 1 (.t 1))), (gQ 14 12 false [13] (.ld false 1 (.t 13))), (gQ 15 12 false [14] (.len (.t 14))), (gQ 16 12 false [15] (.bin .gtr (.t 15) (kI 60))), (cQ 17 [12,16] (.pick (.t 12) (kB true) (.t 16))), (cMv 18 17), (gQ 19 18 false [1] (.fad 3 (.t 1))), (gQ 20 18 false [19] (.ld false 1 (.t 19))), (gQ 21 18 false [20] (.len (.t 20))), (gQ 22 18 false [21] (.bin .gtr (.t 21) (kI 60))), (cQ 23 [18,22] (.pick (.t 18) (kB true) (.t 22))), (cMv 24 23), (gQ 25 24 false [1] (.fad 4 (.t 1))), (gQ 26 24 false [25] (.ld false 1 (.t 25))), (gQ 27 24 false [26] (.len (.t 26))), (gQ 28 24 false [27] (.bin .gtr (.t 27) (kI 60))), (cQ 29 [24,28] (.pick (.t 24) (kB true) (.t 28)))]) (.keep [1,29] (.cond (.t 29) (.seq (.reg false [(cQ 2 [] (.mv (kB true)))]) .ret) .skip))) (.keep [1] (.seq (.seq (.reg false [(cI 3 0)]) (.keep [1,3] (.block 0 (.loop [1,3] none (.seq (.seq (.reg false [(cMv 30 3), (cFa 31 1 0), (cLd 32 31 false 1), (cLn 33 32), (cB 34 .lss 30 33)]) (.keep [1,3,34] (.cond (.t 34) .skip (.exit 0)))) (.keep [1,3] (.seq (.block 1 (.seq (.reg false [(cFa 37 1 0), (cLd 38 37 false 1), (cMv 39 3), (cA 40 4 38 39), (cFa 41 40 2), (cLd 42 41 false 1), (cLn 43 42), (cC 44 .gtr 43 60)]) (.keep [1,3,44] (.cond (.t 44) (.seq (.reg false [(cQ 2 [] (.mv (kB true)))]) .ret) .skip)))) (.keep [1,3] (.reg false [(cMv 35 3), (cC 36 .add 35 1), (cMv 3 36)]))))))))) (.keep [1] (.seq (.seq (.reg false [(cLd 45 1 true 6), (cQ 46 [45] (.call (kF 58) [(.t 45)])), (cC 47 .neq 46 0)]) (.keep [1,47] (.cond (.t 47) (.seq (.reg false [(cQ 2 [] (.mv (kB false)))]) .ret) .skip))) (.keep [1] (.seq (.reg false [(cI 4 1)]) (.keep [1,4] (.seq (.seq (.reg false [(cI 5 0)]) (.keep [1,4,5] (.block 2 (.loop [1,4,5] none (.seq (.seq (.reg false [(cMv 48 5), (cFa 49 1 0), (cLd 50 49 false 1), (cLn 51 50), (cB 52 .lss 48 51)]) (.keep [1,4,5,52] (.cond (.t 52) .skip (.exit 2)))) (.keep [1,4,5] (.seq (.block 3 (.seq (.reg false [(cI 6 0)]) (.keep [1,4,5,6] (.seq (.seq (.reg false [(cFa 55 1 0), (cLd 56 55 false 1), (cMv 57 5), (cA 58 4 56 57), (cFa 59 58 0), (cFa 60 59 0), (cLd 61 60 false 1), (cMv 7 61)]) (.keep [1,4,5,6,7] (.block 4 (.loop [1,4,5,6,7] none (.seq (.seq (.reg false [(cMv 62 7), (cFa 63 1 0), (cLd 64 63 false 1), (cMv 65 5), (cA 66 4 64 65), (cFa 67 66 0), (cFa 68 67 1), (cLd 69 68 false 1), (cB 70 .leq 62 69)]) (.keep [1,4,5,6,7,70] (.cond (.t 70) .skip (.exit 4)))) (.keep [1,4,5,6,7] (.seq (.block 5 (.seq (.reg false [(cFa 73 1 0), (cLd 74 73 false 1), (cMv 75 5), (cA 76 4 74 75), (cLd 77 76 true 4), (cMv 78 7), (cQ 79 [77,78] (.call (kF 69) [(.t 77), (.t 78)]))]) (.keep [1,4,5,6,7,79] (.cond (.t 79) (.reg false [(cMv 80 6), (cC 81 .add 80 1), (cMv 6 81)]) .skip)))) (.keep [1,4,5,6,7] (.reg false [(cMv 71 7), (cC 72 .add 71 1), (cMv 7 72)]))))))))) (.keep [1,4,5,6] (.reg false [(cMv 82 4), (cMv 83 6), (cB 84 .mul 82 83), (cMv 4 84)])))))) (.keep [1,4,5] (.reg false [(cMv 53 5), (cC 54 .add 53 1), (cMv 5 54)]))))))))) (.keep [1,4] (.seq (.reg true [(cMv 85 4), (cC 86 .gtr 85 49), (cMv 87 86), (gQ 88 87 false [1] (.fad 1 (.t 1))), (gQ 89 87 false [88] (.ld false 1 (.t 88))), (gQ 90 87 false [89] (.len (.t 89))), (gQ 91 87 false [90] (.bin .gtr (.t 90) (kI 8))), (cQ 92 [87,91] (.pick (.t 87) (kB true) (.t 91))), (cMv 93 92), (gQ 94 93 false [1] (.fad 3 (.t 1))), (gQ 95 93 false [94] (.ld false 1 (.t 94))), (gQ 96 93 false [95] (.len (.t 95))), (gQ 97 93 false [96] (.bin .gtr (.t 96) (kI 4))), (cQ 98 [93,97] (.pick (.t 93) (kB true) (.t 97))), (cMv 2 98)]) .ret)))))))))))))
def pu57 : List Nat := [1]
def rs57 : List RV := [.t 2]
theorem cc57 : CCx Try.prog Try.f57 pu57 rc57 := by unfold CCx; kernel_rfl
theorem cb57 : CBx Try.f57 := by unfold CBx; kernel_rfl
theorem cs57 : CSx Try.prog Try.f57 rs57 := by unfold CSx; kernel_rfl
theorem cn57 : 1 ≤ Try.f57.ntmps := by decide
def rc58 : RC := (.seq (.reg false [(cX 1 0), (cI 2 0)]) (.keep [1] (.seq (.seq (.reg true [(cFa 6 1 0), (cLd 7 6 false 1), (cLn 8 7), (cQ 9 [8] (.call (kF 88) [(.t 8), (kI 1), (kI 4)])), (cN 10 9), (cMv 11 10), (gQ 12 11 false [1] (.fad 1 (.t 1))), (gQ 13 11 false [12] (.ld false 1 (.t 12))), (gQ 14 11 false [13] (.len (.t 13))), (gQ 15 11 false [14] (.call (kF 88) [(.t 14), (kI 3), (kI 16)])), (gQ 16 11 false [15] (.not (.t 15))), (cQ 17 [11,16] (.pick (.t 11) (kB true) (.t 16))), (cMv 18 17), (gQ 19 18 false [1] (.fad 2 (.t 1))), (gQ 20 18 false [19] (.ld false 1 (.t 19))), (gQ 21 18 false [20] (.call (kF 88) [(.t 20), (kI 0), (kI 20)])), (gQ 22 18 false [21] (.not (.t 21))), (cQ 23 [18,22] (.pick (.t 18) (kB true) (.t 22))), (cMv 24 23), (gQ 25 24 false [1] (.fad 3 (.t 1))), (gQ 26 24 false [25] (.ld false 1 (.t 25))), (gQ 27 24 false [26] (.len (.t 26))), (gQ 28 24 false [27] (.call (kF 88) [(.t 27), (kI 1), (kI 12)])), (gQ 29 24 false [28] (.not (.t 28))), (cQ 30 [24,29] (.pick (.t 24) (kB true) (.t 29))), (cMv 31 30), (gQ 32 31 false [1] (.fad 4 (.t 1))), (gQ 33 31 false [32] (.ld false 1 (.t 32))), (gQ 34 31 false [33] (.len (.t 33))), (gQ 35 31 false [1] (.fad 3 (.t 1))), (gQ 36 31 false [35] (.ld false 1 (.t 35))), (gQ 37 31 false [36] (.len (.t 36))), (gQ 38 31 false [34,37] (.bin .neq (.t 34) (.t 37))), (cQ 39 [31,38] (.pick (.t 31) (kB true) (.t 38))), (cMv 40 39), (gQ 41 40 false [1] (.fad 5 (.t 1))), (gQ 42 40 false [41] (.ld false 1 (.t 41))), (gQ 43 40 false [42] (.call (kF 88) [(.t 42), (kI 0), (kI 500)])), (gQ 44 40 false [43] (.not (.t 43))), (cQ 45 [40,44] (.pick (.t 40) (kB true) (.t 44)))]) (.keep [1,45] (.cond (.t 45) (.seq (.reg false [(cI 2 20)]) .ret) .skip))) (.keep [1] (.seq (.seq (.reg false [(cI 3 0)]) (.keep [1,3] (.block 0 (.loop [1,3] none (.seq (.seq (.reg false [(cMv 46 3), (cFa 47 1 1), (cLd 48 47 false 1), (cLn 49 48), (cB 50 .lss 46 49)]) (.keep [1,3,50] (.cond (.t 50) .skip (.exit 0)))) (.keep [1,3] (.seq (.block 1 (.seq (.any false 0 [⟨(cFa 53 1 1), [], []⟩, ⟨(cLd 54 53 false 1), [], [0]⟩, ⟨(cMv 55 3), [], []⟩, ⟨(cA 56 1 54 55), [], [1,0,2]⟩, ⟨(cLd 57 56 false 1), [], [3,1,0,2]⟩, ⟨(cFa 58 1 0), [], []⟩, ⟨(cLd 59 58 false 1), [], [5]⟩, ⟨(cLn 60 59), [], [6,5]⟩, ⟨(cC 61 .sub 60 1), [], [7,6,5]⟩, ⟨(cQ 62 [57,61] (.call (kF 88) [(.t 57), (kI 0), (.t 61)])), [], [4,3,1,0,2,8,7,6,5]⟩, ⟨(cN 63 62), [], [9,4,3,1,0,2,8,7,6,5]⟩]) (.keep [1,3,63] (.cond (.t 63) (.seq (.reg false [(cI 2 20)]) .ret) .skip)))) (.keep [1,3] (.reg false [(cMv 51 3), (cC 52 .add 51 1), (cMv 3 52)]))))))))) (.keep [1] (.seq (.seq (.reg false [(cI 4 0)]) (.keep [1,4] (.block 2 (.loop [1,4] none (.seq (.seq (.reg false [(cMv 64 4), (cFa 65 1 3), (cLd 66 65 false 1), (cLn 67 66), (cB 68 .lss 64 67)]) (.keep [1,4,68] (.cond (.t 68) .skip (.exit 2)))) (.keep [1,4] (.seq (.block 3 (.seq (.any true 0 [⟨(cFa 71 1 3), [], []⟩, ⟨(cLd 72 71 false 1), [], [0]⟩, ⟨(cMv 73 4), [], []⟩, ⟨(cA 74 2 72 73), [], [1,0,2]⟩, ⟨(cLd 75 74 true 2), [], [3,1,0,2]⟩, ⟨(cQ 76 [75] (.call (kF 89) [(.t 75), (kI 40000)])), [], [4,3,1,0,2]⟩, ⟨(cN 77 76), [], [5,4,3,1,0,2]⟩, ⟨(cMv 78 77), [], [6,5,4,3,1,0,2]⟩, ⟨(gQ 79 78 false [1] (.fad 4 (.t 1))), [], [7,6,5,4,3,1,0,2]⟩, ⟨(gQ 80 78 false [79] (.ld false 1 (.t 79))), [], [8,7,6,5,4,3,1,0,2]⟩, ⟨(gMv 81 78 false 4), [], [7,6,5,4,3,1,0,2]⟩, ⟨(gQ 82 78 false [80,81] (.iad 1 (.t 80) (.t 81))), [], [9,8,7,6,5,4,3,1,0,2,10]⟩, ⟨(gQ 83 78 false [82] (.ld false 1 (.t 82))), [], [11,9,8,7,6,5,4,3,1,0,2,10]⟩, ⟨(gQ 84 78 false [1] (.fad 2 (.t 1))), [], [7,6,5,4,3,1,0,2]⟩, ⟨(gQ 85 78 false [84] (.ld false 1 (.t 84))), [], [13,7,6,5,4,3,1,0,2]⟩, ⟨(gQ 86 78 false [85] (.bin .mul (kI 2) (.t 85))), [], [14,13,7,6,5,4,3,1,0,2]⟩, ⟨(gQ 87 78 false [83,86] (.call (kF 88) [(.t 83), (.t 86), (kI 2000)])), [], [12,11,9,8,7,6,5,4,3,1,0,2,10,15,14,13]⟩, ⟨(gQ 88 78 false [87] (.not (.t 87))), [], [16,12,11,9,8,7,6,5,4,3,1,0,2,10,15,14,13]⟩, ⟨(cQ 89 [78,88] (.pick (.t 78) (kB true) (.t 88))), [], [7,6,5,4,3,1,0,2,17,16,12,11,9,8,10,15,14,13]⟩]) (.keep [1,4,89] (.cond (.t 89) (.seq (.reg false [(cI 2 20)]) .ret) .skip)))) (.keep [1,4] (.reg false [(cMv 69 4), (cC 70 .add 69 1), (cMv 4 70)]))))))))) (.keep [1] (.seq (.seq (.reg false [(cI 5 0)]) (.keep [1,5] (.block 4 (.loop [1,5] none (.seq (.seq (.reg false [(cMv 90 5), (cFa 91 1 0), (cLd 92 91 false 1), (cLn 93 92), (cB 94 .lss 90 93)]) (.keep [1,5,94] (.cond (.t 94) .skip (.exit 4)))) (.keep [1,5] (.seq (.block 5 (.seq (.reg false [(cFa 97 1 0), (cLd 98 97 false 1), (cMv 99 5), (cA 100 4 98 99), (cLd 101 100 true 4), (cQ 102 [101] (.call (kF 90) [(.t 101)])), (cN 103 102)]) (.keep [1,5,103] (.cond (.t 103) (.seq (.reg false [(cI 2 21)]) .ret) .skip)))) (.keep [1,5] (.reg false [(cMv 95 5), (cC 96 .add 95 1), (cMv 5 96)]))))))))) (.keep [] (.seq (.reg false [(cI 2 0)]) .ret)))))))))))
def pu58 : List Nat := [1]
def rs58 : List RV := [.t 2]
theorem cc58 : CCx Try.prog Try.f58 pu58 rc58 := by unfold CCx; kernel_rfl
theorem cb58 : CBx Try.f58 := by unfold CBx; kernel_rfl
theorem cs58 : CSx Try.prog Try.f58 rs58 := by unfold CSx; kernel_rfl
theorem cn58 : 1 ≤ Try.f58.ntmps := by decide
def rc69 : RC := (.seq (.reg false [(cX 2 0), (cQ 4 [] (.mv (kB false)))]) (.keep [1,2] (.seq (.any true 0 [⟨(cMv 5 1), [], []⟩, ⟨(cFa 6 2 0), [], []⟩, ⟨(cFa 7 6 0), [], [1]⟩, ⟨(cLd 8 7 false 1), [], [2,1]⟩, ⟨(cFa 9 2 0), [], []⟩, ⟨(cFa 10 9 1), [], [4]⟩, ⟨(cLd 11 10 false 1), [], [5,4]⟩, ⟨(cQ 12 [5,8,11] (.call (kF 88) [(.t 5), (.t 8), (.t 11)])), [], [0,3,2,1,6,5,4]⟩, ⟨(cMv 13 12), [], [7,0,3,2,1,6,5,4]⟩, ⟨(gQ 14 13 true [2] (.ld true 4 (.t 2))), [], [8,7,0,3,2,1,6,5,4]⟩, ⟨(gMv 15 13 true 1), [], [8,7,0,3,2,1,6,5,4]⟩, ⟨(gQ 16 13 true [14,15] (.call (kF 93) [(.t 14), (.t 15)])), [], [9,8,7,0,3,2,1,6,5,4,10]⟩, ⟨(gQ 17 13 true [2] (.fad 3 (.t 2))), [], [8,7,0,3,2,1,6,5,4]⟩, ⟨(gQ 18 13 true [17] (.ld false 1 (.t 17))), [], [12,8,7,0,3,2,1,6,5,4]⟩, ⟨(gQ 19 13 true [16,18] (.bin .leq (.t 16) (.t 18))), [], [11,9,8,7,0,3,2,1,6,5,4,10,13,12]⟩, ⟨(cQ 20 [13,19] (.pick (.t 13) (.t 19) (kB false))), [], [8,7,0,3,2,1,6,5,4,14,11,9,10,13,12]⟩, ⟨(cMv 4 20), [], [15,8,7,0,3,2,1,6,5,4,14,11,9,10,13,12]⟩]) .ret)))
def pu69 : List Nat := [2]
def rs69 : List RV := [.t 4]
theorem cc69 : CCx Try.prog Try.f69 pu69 rc69 := by unfold CCx; kernel_rfl
theorem cb69 : CBx Try.f69 := by unfold CBx; kernel_rfl
theorem cs69 : CSx Try.prog Try.f69 rs69 := by unfold CSx; kernel_rfl
theorem cn69 : 2 ≤ Try.f69.ntmps := by decide
def rc72 : RC := (.seq (.reg false [(cI 4 0)]) (.keep [0,1] (.seq (.reg false [(cMv 5 0), (cMv 6 1), (cQ 7 [6] (.bin .add (kI 1000) (.t 6))), (cB 8 .mul 5 7), (cC 9 .quo 8 1000), (cMv 4 9)]) .ret)))
def pu72 : List Nat := []
def rs72 : List RV := [.t 4]
theorem cc72 : CCx Try.prog Try.f72 pu72 rc72 := by unfold CCx; kernel_rfl
theorem cb72 : CBx Try.f72 := by unfold CBx; kernel_rfl
theorem cs72 : CSx Try.prog Try.f72 rs72 := by unfold CSx; kernel_rfl
theorem cn72 : 2 ≤ Try.f72.ntmps := by decide
def rc74 : RC := (.seq (.reg false [(cX 1 0), (cI 2 0)]) (.keep [1] (.seq (.block 0 (.seq (.reg false [(cLd 4 1 true 6), (cQ 5 [4] (.call (kF 94) [(.t 4)])), (cN 6 5), (cMv 3 6)]) (.keep [1,3] (.cond (.t 3) (.seq (.reg false [(cI 2 20)]) .ret) (.seq (.reg false [(cFa 8 1 0), (cLd 9 8 false 1), (cQ 10 [9] (.call (kF 95) [(.t 9), (kF 96)])), (cN 11 10), (cMv 7 11)]) (.keep [7] (.cond (.t 7) (.seq (.reg false [(cI 2 21)]) .ret) .skip))))))) (.keep [] (.seq (.reg false [(cI 2 0)]) .ret)))))
def pu74 : List Nat := [1]
def rs74 : List RV := [.t 2]
theorem cc74 : CCx Try.prog Try.f74 pu74 rc74 := by unfold CCx; kernel_rfl
theorem cb74 : CBx Try.f74 := by unfold CBx; kernel_rfl
theorem cs74 : CSx Try.prog Try.f74 rs74 := by unfold CSx; kernel_rfl
theorem cn74 : 1 ≤ Try.f74.ntmps := by decide
def rc77 : RC := (.seq (.reg false [(cX 2 0), ⟨(some 4), none, [], none, .w (.alc [(.i 0), (.i 0)])⟩, (cI 5 0)]) (.keep [1,2,4] (.seq (.any false 0 [⟨(cLd 9 2 true 6), [], []⟩, ⟨(cLd 10 2 true 6), [], []⟩, ⟨(cMv 11 1), [], []⟩, ⟨(cQ 12 [10,11] (.call (kF 97) [(.t 10), (.t 11)])), [], [1,2]⟩, ⟨(cQ 13 [9,12] (.call (kF 79) [(.t 9), (.t 12)])), [], [0,3,1,2]⟩, ⟨(cMv 8 13), [], [4,0,3,1,2]⟩, ⟨(cEx 14 8 0), [], [5,4,0,3,1,2]⟩, ⟨(cEx 15 8 1), [], [5,4,0,3,1,2]⟩, ⟨(cMv 6 14), [], [6,5,4,0,3,1,2]⟩, ⟨(cMv 7 15), [], [7,5,4,0,3,1,2,8,6]⟩]) (.keep [1,2,4,6,7] (.seq (.seq (.reg false [(cMv 16 7), (cC 17 .neq 16 0)]) (.keep [1,2,4,6,7,17] (.cond (.t 17) (.seq (.reg false [(cQ 18 [] (.bld [(.i 0), (.i 0)] [])), (cMv 19 7), ⟨none, none, [4,18], none, .w (.st 2 (.t 4) (.t 18))⟩, (cMv 5 19)]) .ret) .skip))) (.keep [1,2,4,6] (.seq (.reg false [(cMv 20 6), (cFa 21 2 4), (cLd 22 21 false 1), (cMv 23 1), (cA 24 1 22 23), (cLd 25 24 false 1), (cQ 26 [20,25] (.call (kF 98) [(.t 20), (.t 25)])), ⟨none, none, [4,26], none, .w (.st 2 (.t 4) (.t 26))⟩, (cI 5 0)]) .ret)))))))
def pu77 : List Nat := [2]
def rs77 : List RV := [.c 4 true 2, .t 5]
theorem cc77 : CCx Try.prog Try.f77 pu77 rc77 := by unfold CCx; kernel_rfl
theorem cb77 : CBx Try.f77 := by unfold CBx; kernel_rfl
theorem cs77 : CSx Try.prog Try.f77 rs77 := by unfold CSx; kernel_rfl
theorem cn77 : 2 ≤ Try.f77.ntmps := by decide
def rc78 : RC := (.seq (.reg false [⟨(some 0), none, [], none, .w (.alc [(.z 4), (.z 1), (.i 0), (.z 2), (.z 1), (.i 0)])⟩]) (.keep [0] (.seq (.reg false [(cQ 1 [] (.bld [(.i 0), (.i 0)] [(1,1, (kI 20))])), (cQ 2 [] (.bld [(.i 0), (.i 0)] [(0,1, (kI 1005)), (1,1, (kI 1010))])), (cQ 3 [2] (.bld [(.i 0), (.i 0), (.i 0)] [(0,1, (kI 1000)), (1,2, (.t 2))])), (cQ 4 [3] (.bsl 3 1 [(.i 0), (.i 0), (.i 0)] [(0,3, (.t 3))])), (cQ 5 [1,4] (.bld [(.i 0), (.i 0), (.z 3), (.i 0)] [(0,2, (.t 1)), (2,1, (.t 4))])), (cQ 6 [] (.bld [(.i 0), (.i 0)] [(1,1, (kI 10))])), (cQ 7 [6] (.bld [(.i 0), (.i 0), (.z 3), (.i 0)] [(0,2, (.t 6))])), (cQ 8 [5,7] (.bsl 4 2 [(.i 0), (.i 0), (.z 3), (.i 0)] [(0,4, (.t 5)), (4,4, (.t 7))])), (cQ 9 [] (.bsl 1 4 [(.i 0)] [(0,1, (kI 0)), (1,1, (kI 0)), (2,1, (kI 1)), (3,1, (kI 1))])), (cQ 10 [] (.bld [(.i 0), (.i 0)] [(0,1, (kI 400)), (1,1, (kI 404))])), (cQ 11 [] (.bld [(.i 0), (.i 0)] [(0,1, (kI 600)), (1,1, (kI 650))])), (cQ 12 [] (.bld [(.i 0), (.i 0)] [(0,1, (kI 803)), (1,1, (kI 806))])), ⟨(some 13), none, [10,11,12], none, .w (.bso 2 3 [(.i 0), (.i 0)] [(0,2, (.t 10)), (2,2, (.t 11)), (4,2, (.t 12))])⟩, (cQ 14 [] (.bsl 1 3 [(.i 0)] [(0,1, (kI 110)), (1,1, (kI 165)), (2,1, (kI 210))])), (cQ 15 [8,9,13,14] (.bld [(.z 4), (.z 1), (.i 0), (.z 2), (.z 1), (.i 0)] [(0,1, (.t 8)), (1,1, (.t 9)), (2,1, (kI 5)), (3,1, (.t 13)), (4,1, (.t 14)), (5,1, (kI 50))])), ⟨none, none, [0,15], none, .w (.st 6 (.t 0) (.t 15))⟩]) .ret)))
def pu78 : List Nat := [4,8,9,14]
def rs78 : List RV := [.c 0 true 6]
theorem cc78 : CCx Try.prog Try.f78 pu78 rc78 := by unfold CCx; kernel_rfl
theorem cb78 : CBx Try.f78 := by unfold CBx; kernel_rfl
theorem cs78 : CSx Try.prog Try.f78 rs78 := by unfold CSx; kernel_rfl
theorem cn78 : 0 ≤ Try.f78.ntmps := by decide
def rc79 : RC := (.seq (.reg false [(cX 2 0), (cQ 4 [] (.mv (.k .pn))), (cI 5 0)]) (.keep [1,2,31] (.seq (.seq (.reg false [(cLd 12 2 true 6), (cQ 13 [12] (.call (kF 74) [(.t 12)])), (cMv 6 13)]) (.keep [1,2,6,31] (.seq (.reg false [(cMv 14 6), (cC 15 .neq 14 0)]) (.keep [1,2,6,15,31] (.cond (.t 15) (.seq (.reg false [(cMv 16 6), (cQ 4 [] (.mv (.k .pn))), (cMv 5 16)]) .ret) .skip))))) (.keep [1,2,31] (.seq (.seq (.reg false [(cMv 17 1), (cN 18 17)]) (.keep [2,18,31] (.cond (.t 18) (.seq (.reg false [(cQ 4 [] (.mv (.k .pn))), (cI 5 1)]) .ret) .skip))) (.keep [2,31] (.seq (.reg false [(cLd 19 2 true 6), (cQ 20 [19] (.bld [(.z 4), (.z 1), (.i 0), (.z 2), (.z 1), (.i 0), (.z 1)] [(0,6, (.t 19))])), ⟨(some 21), none, [20], none, .w (.bxo (.t 20))⟩, (cMv 7 21)]) (.keep [2,7,31] (.seq (.seq (.reg false [(cFa 22 2 0), (cLd 23 22 false 1), (cLn 24 23), (cI 25 0)]) (.keep [7,23,24,25,31] (.block 0 (.ownc 7 6 1 (.loop [7,23,24,25,31] (some 2) (.seq (.reg false [(cB 26 .lss 25 24)]) (.keep [7,23,24,25,26,31] (.seq (.cond (.t 26) .skip (.exit 0)) (.keep [7,23,24,25,31] (.seq (.block 1 (.seq (.reg false [(cA 27 4 23 25), (cLd 28 27 true 4), ⟨(some 9), none, [], none, .w (.alc [(.i 0), (.i 0), (.z 3), (.i 0)])⟩, ⟨none, none, [9,28], none, .w (.st 4 (.t 9) (.t 28))⟩]) (.keep [7,9,23,24,25,31] (.seq (.reg false [⟨(some 10), none, [], none, .w (.alc [(.z 1)])⟩]) (.keep [7,9,10,23,24,25,31] (.seq (.seq (.reg false [(cLd 29 9 true 4), (cQ 30 [29] (.call (kF 99) [(.t 29)]))]) (.keep [7,9,10,23,24,25,30,31] (.block 2 (.ownc 10 0 1 (.rfn (.t 30) [31] 5 (.reg false [(cMv 11 31)]) (.block 3 (.seq (.any false 0 [⟨(cLd 32 9 true 4), [], []⟩, ⟨(cMv 33 11), [], []⟩, ⟨(cQ 34 [32,33] (.call (kF 100) [(.t 32), (.t 33)])), [], [0,1]⟩, ⟨(cFa 35 9 3), [], []⟩, ⟨(cLd 36 35 false 1), [], [3]⟩, ⟨(cB 37 .leq 34 36), [], [2,0,1,4,3]⟩]) (.keep [10,11,37] (.cond (.t 37) (.reg false [(cLd 38 10 false 1), (cMv 39 11), (cQ 40 [39] (.bsl 1 1 [(.i 0)] [(0,1, (.t 39))])), ⟨(some 41), none, [38,40], none, .w (.app 1 (.t 38) (.t 40))⟩, ⟨none, none, [10,41], none, .w (.st 1 (.t 10) (.t 41))⟩]) .skip))))))))) (.keep [7,10,23,24,25,31] (.seq (.seq (.reg false [(cLd 42 10 false 1), (cLn 43 42), (cC 44 .eql 43 0)]) (.keep [7,10,23,24,25,31,44] (.cond (.t 44) (.seq (.reg false [(cQ 4 [] (.mv (.k .pn))), (cI 5 3)]) .ret) .skip))) (.keep [7,10,23,24,25,31] (.drp 2 (.any false 1 [⟨(cMv 45 7), [], []⟩, ⟨(cMv 46 7), [], []⟩, ⟨(cZ 47 46), [], [1]⟩, ⟨(cFa 48 47 6), [], [2,1]⟩, ⟨(cLd 49 48 false 1), [], [3,2,1]⟩, ⟨(cLd 50 10 false 1), [], []⟩, ⟨(cQ 51 [50] (.bsl 1 1 [(.z 1)] [(0,1, (.t 50))])), [], [5]⟩, ⟨⟨(some 52), none, [49,51], (some 0), .w (.app 1 (.t 49) (.t 51))⟩, [0], [4,3,2,1,6,5]⟩, ⟨(cZ 53 45), [], [0,1,2,3,4,5,6,7]⟩, ⟨(cFa 54 53 6), [], [8,0,1,2,3,4,5,6,7]⟩, ⟨⟨none, none, [54,52], none, .w (.st 1 (.t 54) (.t 52))⟩, [], [9,8,0,1,2,3,4,5,6,7]⟩]))))))))))) (.drp 2 (.keep [7,23,24,25,31] (.reg false [(cC 55 .add 25 1), (cMv 25 55)]))))))))))))) (.keep [7] (.seq (.reg false [(cMv 56 7), (cMv 4 56), (cI 5 0)]) .ret)))))))))))
def pu79 : List Nat := [2,40,51]
def rs79 : List RV := [.t 4, .t 5]
theorem cc79 : CCx Try.prog Try.f79 pu79 rc79 := by unfold CCx; kernel_rfl
theorem cb79 : CBx Try.f79 := by unfold CBx; kernel_rfl
theorem cs79 : CSx Try.prog Try.f79 rs79 := by unfold CSx; kernel_rfl
theorem cn79 : 2 ≤ Try.f79.ntmps := by decide
def rc80 : RC := (.seq (.reg false [(cI 6 0)]) (.keep [0,1,2] (.seq (.reg false [(cMv 10 0), (cZ 11 10), (cFa 12 11 0), (cFa 13 12 3), (cLd 14 13 false 1), (cMv 15 1), (cA 16 2 14 15), (cLd 17 16 true 2), ⟨(some 7), none, [], none, .w (.alc [(.i 0), (.i 0)])⟩, ⟨none, none, [7,17], none, .w (.st 2 (.t 7) (.t 17))⟩]) (.keep [0,2,7] (.seq (.seq (.reg false [(cMv 18 0), (cMv 19 2), (cQ 20 [18,19] (.call (kF 98) [(.t 18), (.t 19)])), ⟨(some 8), none, [], none, .w (.alc [(.i 0), (.i 0)])⟩, ⟨none, none, [8,20], none, .w (.st 2 (.t 8) (.t 20))⟩]) (.keep [0,2,7,8] (.seq (.reg true [(cFa 21 7 0), (cLd 22 21 false 1), (cFa 23 8 0), (cLd 24 23 false 1), (cB 25 .leq 22 24), (cMv 26 25), (gQ 27 26 true [8] (.fad 1 (.t 8))), (gQ 28 26 true [27] (.ld false 1 (.t 27))), (gQ 29 26 true [7] (.fad 1 (.t 7))), (gQ 30 26 true [29] (.ld false 1 (.t 29))), (gQ 31 26 true [28,30] (.bin .leq (.t 28) (.t 30))), (cQ 32 [26,31] (.pick (.t 26) (.t 31) (kB false)))]) (.keep [0,2,7,32] (.cond (.t 32) (.seq (.reg false [(cI 6 1)]) .ret) .skip))))) (.keep [0,2,7] (.seq (.seq (.crl false [(cMv 33 0), (cMv 34 2)] ⟨(some 35), none, [33,34], none, .o (kF 101) [(.t 33), (.t 34)]⟩ [⟨(some 36), none, [35], none, .w (.rng (.t 35))⟩]) (.keep [7,36] (.block 0 (.loop [7,36] none (.seq (.nxt 37 38 36) (.keep [7,36,38] (.seq (.cond (.t 38) .skip (.exit 0)) (.keep [7,36] (.block 1 (.seq (.reg false [(cQ 39 [36] (.ent (.t 36))), (cEx 40 39 0), (cMv 9 40)]) (.keep [7,9,36] (.seq (.reg false [(cMv 41 9), (cFa 42 7 0), (cLd 43 42 false 1), (cFa 44 7 1), (cLd 45 44 false 1), (cQ 46 [41,43,45] (.call (kF 102) [(.t 41), (.t 43), (.t 45)]))]) (.keep [7,36,46] (.cond (.t 46) (.seq (.reg false [(cI 6 3)]) .ret) .skip)))))))))))))) (.keep [] (.seq (.reg false [(cI 6 2)]) .ret)))))))))
def pu80 : List Nat := []
def rs80 : List RV := [.t 6]
theorem cc80 : CCx Try.prog Try.f80 pu80 rc80 := by unfold CCx; kernel_rfl
theorem cb80 : CBx Try.f80 := by unfold CBx; kernel_rfl
theorem cs80 : CSx Try.prog Try.f80 rs80 := by unfold CSx; kernel_rfl
theorem cn80 : 3 ≤ Try.f80.ntmps := by decide
def rc81 : RC := (.seq (.reg false [⟨(some 4), none, [], none, .w (.alc [(.i 0), (.i 0)])⟩, (cQ 5 [] (.mv (kB false)))]) (.keep [0,1,4,5] (.seq (.reg false [(cMv 9 0), (cZ 10 9), (cFa 11 10 0), (cFa 12 11 3), (cLd 13 12 false 1), (cMv 14 1), (cA 15 2 13 14), (cLd 16 15 true 2), ⟨(some 6), none, [], none, .w (.alc [(.i 0), (.i 0)])⟩, ⟨none, none, [6,16], none, .w (.st 2 (.t 6) (.t 16))⟩]) (.keep [0,4,5,6] (.seq (.seq (.reg false [(cMv 17 0), (cZ 18 17), (cFa 19 18 0), (cFa 20 19 2), (cLd 21 20 false 1), (cQ 22 [21] (.bin .mul (kI 2) (.t 21))), (cMv 7 22)]) (.keep [0,4,5,6,7] (.block 0 (.loop [0,4,5,6,7] (some 2) (.seq (.seq (.reg false [(cMv 23 7), (cC 24 .leq 23 2000)]) (.keep [0,4,5,6,7,24] (.cond (.t 24) .skip (.exit 0)))) (.keep [0,4,5,6,7] (.seq (.block 1 (.seq (.seq (.reg false [(cMv 27 0), (cMv 28 7), (cQ 29 [27,28] (.call (kF 98) [(.t 27), (.t 28)])), ⟨(some 8), none, [], none, .w (.alc [(.i 0), (.i 0)])⟩, ⟨none, none, [8,29], none, .w (.st 2 (.t 8) (.t 29))⟩]) (.keep [0,4,5,6,7,8] (.seq (.reg true [(cFa 30 8 0), (cLd 31 30 false 1), (cFa 32 6 0), (cLd 33 32 false 1), (cB 34 .lss 31 33), (cMv 35 34), (gQ 36 35 false [8] (.fad 1 (.t 8))), (gQ 37 35 false [36] (.ld false 1 (.t 36))), (gQ 38 35 false [6] (.fad 1 (.t 6))), (gQ 39 35 false [38] (.ld false 1 (.t 38))), (gQ 40 35 false [37,39] (.bin .gtr (.t 37) (.t 39))), (cQ 41 [35,40] (.pick (.t 35) (kB true) (.t 40)))]) (.keep [0,4,5,6,7,41] (.cond (.t 41) (.exit 1) .skip))))) (.keep [0,4,5,6,7] (.seq (.seq (.reg false [(cMv 42 5), (cN 43 42)]) (.keep [0,4,6,7,43] (.cond (.t 43) (.reg false [(cMv 44 7), (cFa 45 4 0), ⟨none, none, [45,44], none, .w (.st 1 (.t 45) (.t 44))⟩]) .skip))) (.keep [0,4,6,7] (.reg false [(cMv 46 7), (cFa 47 4 1), ⟨none, none, [47,46], none, .w (.st 1 (.t 47) (.t 46))⟩, (cQ 5 [] (.mv (kB true)))])))))) (.drp 2 (.keep [0,4,5,6,7] (.reg false [(cMv 25 7), (cC 26 .add 25 1), (cMv 7 26)])))))))))) (.keep [4,5] (.seq (.reg false [(cLd 48 4 true 2), (cMv 49 5), ⟨none, none, [4,48], none, .w (.st 2 (.t 4) (.t 48))⟩, (cMv 5 49)]) .ret)))))))
def pu81 : List Nat := []
def rs81 : List RV := [.c 4 true 2, .t 5]
theorem cc81 : CCx Try.prog Try.f81 pu81 rc81 := by unfold CCx; kernel_rfl
theorem cb81 : CBx Try.f81 := by unfold CBx; kernel_rfl
theorem cs81 : CSx Try.prog Try.f81 rs81 := by unfold CSx; kernel_rfl
theorem cn81 : 2 ≤ Try.f81.ntmps := by decide
def rc82 : RC := (.seq (.reg false [(cX 2 0), (cQ 4 [] (.mv (.k (.z 1)))), (cI 5 0)]) (.keep [1,2] (.seq (.any false 0 [⟨(cLd 9 2 true 6), [], []⟩, ⟨(cLd 10 2 true 6), [], []⟩, ⟨(cMv 11 1), [], []⟩, ⟨(cQ 12 [10,11] (.call (kF 103) [(.t 10), (.t 11)])), [], [1,2]⟩, ⟨(cQ 13 [9,12] (.call (kF 79) [(.t 9), (.t 12)])), [], [0,3,1,2]⟩, ⟨(cMv 8 13), [], [4,0,3,1,2]⟩, ⟨(cEx 14 8 0), [], [5,4,0,3,1,2]⟩, ⟨(cEx 15 8 1), [], [5,4,0,3,1,2]⟩, ⟨(cMv 6 14), [], [6,5,4,0,3,1,2]⟩, ⟨(cMv 7 15), [], [7,5,4,0,3,1,2,8,6]⟩]) (.keep [1,6,7] (.seq (.seq (.reg false [(cMv 16 7), (cC 17 .neq 16 0)]) (.keep [1,6,7,17] (.cond (.t 17) (.seq (.reg false [(cMv 18 7), (cQ 4 [] (.mv (.k (.z 1)))), (cMv 5 18)]) .ret) .skip))) (.keep [1,6] (.seq (.reg false [(cMv 19 6), (cZ 20 19), (cFa 21 20 6), (cLd 22 21 false 1), (cMv 23 1), (cA 24 1 22 23), (cLd 25 24 false 1), (cMv 4 25), (cI 5 0)]) .ret)))))))
def pu82 : List Nat := [2]
def rs82 : List RV := [.t 4, .t 5]
theorem cc82 : CCx Try.prog Try.f82 pu82 rc82 := by unfold CCx; kernel_rfl
theorem cb82 : CBx Try.f82 := by unfold CBx; kernel_rfl
theorem cs82 : CSx Try.prog Try.f82 rs82 := by unfold CSx; kernel_rfl
theorem cn82 : 2 ≤ Try.f82.ntmps := by decide
def rc86 : RC := (.seq (.reg false [(cX 2 0), (cQ 4 [] (.mv (.k (.z 1)))), (cI 5 0)]) (.keep [1,2] (.seq (.seq (.reg false [(cLd 9 2 true 6), (cMv 10 1), (cQ 11 [9,10] (.call (kF 105) [(.t 9), (.t 10), (kI 0)])), (cMv 8 11), (cEx 12 8 0), (cEx 13 8 1), (cMv 6 12), (cMv 7 13)]) (.keep [1,2,7] (.seq (.reg false [(cMv 14 7), (cC 15 .neq 14 0)]) (.keep [1,2,7,15] (.cond (.t 15) (.seq (.reg false [(cMv 16 7), (cQ 4 [] (.mv (.k (.z 1)))), (cMv 5 16)]) .ret) .skip))))) (.keep [1,2] (.seq (.reg false [(cFa 17 2 0), (cLd 18 17 false 1), (cMv 19 1), (cA 20 4 18 19), (cLd 21 20 true 4), (cQ 22 [21] (.call (kF 106) [(.t 21)])), (cMv 4 22), (cI 5 0)]) .ret)))))
def pu86 : List Nat := [2]
def rs86 : List RV := [.t 4, .t 5]
theorem cc86 : CCx Try.prog Try.f86 pu86 rc86 := by unfold CCx; kernel_rfl
theorem cb86 : CBx Try.f86 := by unfold CBx; kernel_rfl
theorem cs86 : CSx Try.prog Try.f86 rs86 := by unfold CSx; kernel_rfl
theorem cn86 : 2 ≤ Try.f86.ntmps := by decide
def rc88 : RC := (.seq (.reg false [(cQ 6 [] (.mv (kB false)))]) (.keep [0,1,2] (.seq (.reg true [(cMv 7 0), (cMv 8 1), (cB 9 .geq 7 8), (cMv 10 9), (gMv 11 10 true 0), (gMv 12 10 true 2), (gQ 13 10 true [11,12] (.bin .leq (.t 11) (.t 12))), (cQ 14 [10,13] (.pick (.t 10) (.t 13) (kB false))), (cMv 6 14)]) .ret)))
def pu88 : List Nat := []
def rs88 : List RV := [.t 6]
theorem cc88 : CCx Try.prog Try.f88 pu88 rc88 := by unfold CCx; kernel_rfl
theorem cb88 : CBx Try.f88 := by unfold CBx; kernel_rfl
theorem cs88 : CSx Try.prog Try.f88 rs88 := by unfold CSx; kernel_rfl
theorem cn88 : 3 ≤ Try.f88.ntmps := by decide
def rc89 : RC := (.seq (.reg false [(cX 2 0), (cQ 4 [] (.mv (kB false)))]) (.keep [1,2] (.seq (.reg true [(cFa 5 2 0), (cLd 6 5 false 1), (cQ 7 [6] (.bin .leq (kI 0) (.t 6))), (cMv 8 7), (gQ 9 8 true [2] (.fad 0 (.t 2))), (gQ 10 8 true [9] (.ld false 1 (.t 9))), (gQ 11 8 true [2] (.fad 1 (.t 2))), (gQ 12 8 true [11] (.ld false 1 (.t 11))), (gQ 13 8 true [10,12] (.bin .leq (.t 10) (.t 12))), (cQ 14 [8,13] (.pick (.t 8) (.t 13) (kB false))), (cMv 15 14), (gQ 16 15 true [2] (.fad 1 (.t 2))), (gQ 17 15 true [16] (.ld false 1 (.t 16))), (gMv 18 15 true 1), (gQ 19 15 true [17,18] (.bin .leq (.t 17) (.t 18))), (cQ 20 [15,19] (.pick (.t 15) (.t 19) (kB false))), (cMv 4 20)]) .ret)))
def pu89 : List Nat := [2]
def rs89 : List RV := [.t 4]
theorem cc89 : CCx Try.prog Try.f89 pu89 rc89 := by unfold CCx; kernel_rfl
theorem cb89 : CBx Try.f89 := by unfold CBx; kernel_rfl
theorem cs89 : CSx Try.prog Try.f89 rs89 := by unfold CSx; kernel_rfl
theorem cn89 : 2 ≤ Try.f89.ntmps := by decide
def rc90 : RC := (.seq (.reg false [(cX 1 0), (cQ 2 [] (.mv (kB false)))]) (.keep [1] (.seq (.seq (.reg true [(cFa 4 1 0), (cLd 5 4 true 2), (cQ 6 [5] (.call (kF 89) [(.t 5), (kI 60)])), (cN 7 6), (cMv 8 7), (gQ 9 8 false [1] (.fad 2 (.t 1))), (gQ 10 8 false [9] (.ld false 1 (.t 9))), (gQ 11 8 false [10] (.len (.t 10))), (gQ 12 8 false [11] (.bin .gtr (.t 11) (kI 8))), (cQ 13 [8,12] (.pick (.t 8) (kB true) (.t 12))), (cMv 14 13), (gQ 15 14 false [1] (.fad 3 (.t 1))), (gQ 16 14 false [15] (.ld false 1 (.t 15))), (gQ 17 14 false [16] (.call (kF 88) [(.t 16), (kI 0), (kI 2)])), (gQ 18 14 false [17] (.not (.t 17))), (cQ 19 [14,18] (.pick (.t 14) (kB true) (.t 18)))]) (.keep [1,19] (.cond (.t 19) (.seq (.reg false [(cQ 2 [] (.mv (kB false)))]) .ret) .skip))) (.keep [1] (.seq (.seq (.reg false [(cI 3 0)]) (.keep [1,3] (.block 0 (.loop [1,3] none (.seq (.seq (.reg false [(cMv 20 3), (cFa 21 1 2), (cLd 22 21 false 1), (cLn 23 22), (cB 24 .lss 20 23)]) (.keep [1,3,24] (.cond (.t 24) .skip (.exit 0)))) (.keep [1,3] (.seq (.block 1 (.seq (.reg true [(cFa 27 1 2), (cLd 28 27 false 1), (cMv 29 3), (cA 30 3 28 29), (cFa 31 30 0), (cLd 32 31 false 1), (cQ 33 [32] (.call (kF 88) [(.t 32), (kI 1), (kI 2000)])), (cN 34 33), (cMv 35 34), (gQ 36 35 false [1] (.fad 2 (.t 1))), (gQ 37 35 false [36] (.ld false 1 (.t 36))), (gMv 38 35 false 3), (gQ 39 35 false [37,38] (.iad 3 (.t 37) (.t 38))), (gQ 40 35 false [39] (.fad 1 (.t 39))), (gQ 41 35 false [40] (.ld true 2 (.t 40))), (gQ 42 35 false [41] (.call (kF 89) [(.t 41), (kI 4000)])), (gQ 43 35 false [42] (.not (.t 42))), (cQ 44 [35,43] (.pick (.t 35) (kB true) (.t 43)))]) (.keep [1,3,44] (.cond (.t 44) (.seq (.reg false [(cQ 2 [] (.mv (kB false)))]) .ret) .skip)))) (.keep [1,3] (.reg false [(cMv 25 3), (cC 26 .add 25 1), (cMv 3 26)]))))))))) (.keep [] (.seq (.reg false [(cQ 2 [] (.mv (kB true)))]) .ret)))))))
def pu90 : List Nat := [1]
def rs90 : List RV := [.t 2]
theorem cc90 : CCx Try.prog Try.f90 pu90 rc90 := by unfold CCx; kernel_rfl
theorem cb90 : CBx Try.f90 := by unfold CBx; kernel_rfl
theorem cs90 : CSx Try.prog Try.f90 rs90 := by unfold CSx; kernel_rfl
theorem cn90 : 1 ≤ Try.f90.ntmps := by decide
def rc93 : RC := (.seq (.reg false [(cX 2 0), (cI 4 0)]) (.keep [1,2] (.seq (.reg false [(cI 5 0)]) (.keep [1,2,5] (.seq (.seq (.reg false [(cI 6 0)]) (.keep [1,2,5,6] (.block 0 (.loop [1,2,5,6] none (.seq (.seq (.reg false [(cMv 7 6), (cFa 8 2 2), (cLd 9 8 false 1), (cLn 10 9), (cB 11 .lss 7 10)]) (.keep [1,2,5,6,11] (.cond (.t 11) .skip (.exit 0)))) (.keep [1,2,5,6] (.seq (.block 1 (.seq (.any false 0 [⟨(cFa 14 2 2), [], []⟩, ⟨(cLd 15 14 false 1), [], [0]⟩, ⟨(cMv 16 6), [], []⟩, ⟨(cA 17 3 15 16), [], [1,0,2]⟩, ⟨(cFa 18 17 0), [], [3,1,0,2]⟩, ⟨(cLd 19 18 false 1), [], [4,3,1,0,2]⟩, ⟨(cMv 20 1), [], []⟩, ⟨(cQ 21 [19,20] (.call (kF 72) [(.t 19), (.t 20)])), [], [5,4,3,1,0,2,6]⟩, ⟨(cFa 22 2 2), [], []⟩, ⟨(cLd 23 22 false 1), [], [8]⟩, ⟨(cMv 24 6), [], []⟩, ⟨(cA 25 3 23 24), [], [9,8,10]⟩, ⟨(cFa 26 25 1), [], [11,9,8,10]⟩, ⟨(cFa 27 26 0), [], [12,11,9,8,10]⟩, ⟨(cLd 28 27 false 1), [], [13,12,11,9,8,10]⟩, ⟨(cFa 29 2 2), [], []⟩, ⟨(cLd 30 29 false 1), [], [15]⟩, ⟨(cMv 31 6), [], []⟩, ⟨(cA 32 3 30 31), [], [16,15,17]⟩, ⟨(cFa 33 32 1), [], [18,16,15,17]⟩, ⟨(cFa 34 33 1), [], [19,18,16,15,17]⟩, ⟨(cLd 35 34 false 1), [], [20,19,18,16,15,17]⟩, ⟨(cQ 36 [21,28,35] (.call (kF 88) [(.t 21), (.t 28), (.t 35)])), [], [7,5,4,3,1,0,2,6,14,13,12,11,9,8,10,21,20,19,18,16,15,17]⟩, ⟨(cN 37 36), [], [22,7,5,4,3,1,0,2,6,14,13,12,11,9,8,10,21,20,19,18,16,15,17]⟩]) (.keep [1,2,5,6,37] (.cond (.t 37) (.reg false [(cMv 38 5), (cC 39 .add 38 1), (cMv 5 39)]) .skip)))) (.keep [1,2,5,6] (.reg false [(cMv 12 6), (cC 13 .add 12 1), (cMv 6 13)]))))))))) (.keep [5] (.seq (.reg false [(cMv 40 5), (cMv 4 40)]) .ret)))))))
def pu93 : List Nat := [2]
def rs93 : List RV := [.t 4]
theorem cc93 : CCx Try.prog Try.f93 pu93 rc93 := by unfold CCx; kernel_rfl
theorem cb93 : CBx Try.f93 := by unfold CBx; kernel_rfl
theorem cs93 : CSx Try.prog Try.f93 rs93 := by unfold CSx; kernel_rfl
theorem cn93 : 2 ≤ Try.f93.ntmps := by decide
def rc94 : RC := (.seq (.reg false [(cX 1 0), (cQ 2 [] (.mv (kB false)))]) (.keep [1] (.seq (.reg false [(cQ 6 [1] (.mkf 107 [(.t 1)])), (cMv 3 6)]) (.keep [1,3] (.seq (.reg false [(cQ 4 [] (.mv (kF 108)))]) (.keep [1,3,4] (.seq (.reg false [(cQ 7 [1] (.mkf 110 [(.t 1)])), (cMv 5 7)]) (.keep [1,3,4,5] (.seq (.reg true [(cFa 8 1 0), (cLd 9 8 false 1), (cLn 10 9), (cQ 11 [10] (.call (kF 102) [(.t 10), (kI 1), (kI 4)])), (cMv 12 11), (gQ 13 12 true [1] (.fad 1 (.t 1))), (gQ 14 12 true [13] (.ld false 1 (.t 13))), (gQ 15 12 true [14] (.len (.t 14))), (gQ 16 12 true [15] (.call (kF 102) [(.t 15), (kI 3), (kI 16)])), (cQ 17 [12,16] (.pick (.t 12) (.t 16) (kB false))), (cMv 18 17), (gQ 19 18 true [1] (.fad 1 (.t 1))), (gQ 20 18 true [19] (.ld false 1 (.t 19))), (gMv 21 18 true 3), (gQ 22 18 true [20,21] (.call (kF 111) [(.t 20), (.t 21)])), (cQ 23 [18,22] (.pick (.t 18) (.t 22) (kB false))), (cMv 24 23), (gQ 25 24 true [1] (.fad 2 (.t 1))), (gQ 26 24 true [25] (.ld false 1 (.t 25))), (gQ 27 24 true [26] (.call (kF 102) [(.t 26), (kI 0), (kI 20)])), (cQ 28 [24,27] (.pick (.t 24) (.t 27) (kB false))), (cMv 29 28), (gQ 30 29 true [1] (.fad 3 (.t 1))), (gQ 31 29 true [30] (.ld false 1 (.t 30))), (gQ 32 29 true [31] (.len (.t 31))), (gQ 33 29 true [32] (.call (kF 102) [(.t 32), (kI 1), (kI 12)])), (cQ 34 [29,33] (.pick (.t 29) (.t 33) (kB false))), (cMv 35 34), (gQ 36 35 true [1] (.fad 3 (.t 1))), (gQ 37 35 true [36] (.ld false 1 (.t 36))), (gMv 38 35 true 4), (gQ 39 35 true [37,38] (.call (kF 112) [(.t 37), (.t 38)])), (cQ 40 [35,39] (.pick (.t 35) (.t 39) (kB false))), (cMv 41 40), (gQ 42 41 true [1] (.fad 4 (.t 1))), (gQ 43 41 true [42] (.ld false 1 (.t 42))), (gQ 44 41 true [43] (.len (.t 43))), (gQ 45 41 true [1] (.fad 3 (.t 1))), (gQ 46 41 true [45] (.ld false 1 (.t 45))), (gQ 47 41 true [46] (.len (.t 46))), (gQ 48 41 true [44,47] (.bin .eql (.t 44) (.t 47))), (cQ 49 [41,48] (.pick (.t 41) (.t 48) (kB false))), (cMv 50 49), (gQ 51 50 true [1] (.fad 4 (.t 1))), (gQ 52 50 true [51] (.ld false 1 (.t 51))), (gMv 53 50 true 5), (gQ 54 50 true [52,53] (.call (kF 111) [(.t 52), (.t 53)])), (cQ 55 [50,54] (.pick (.t 50) (.t 54) (kB false))), (cMv 56 55), (gQ 57 56 true [1] (.fad 5 (.t 1))), (gQ 58 56 true [57] (.ld false 1 (.t 57))), (gQ 59 56 true [58] (.call (kF 102) [(.t 58), (kI 0), (kI 500)])), (cQ 60 [56,59] (.pick (.t 56) (.t 59) (kB false))), (cMv 2 60)]) .ret)))))))))
def pu94 : List Nat := [1]
def rs94 : List RV := [.t 2]
theorem cc94 : CCx Try.prog Try.f94 pu94 rc94 := by unfold CCx; kernel_rfl
theorem cb94 : CBx Try.f94 := by unfold CBx; kernel_rfl
theorem cs94 : CSx Try.prog Try.f94 rs94 := by unfold CSx; kernel_rfl
theorem cn94 : 1 ≤ Try.f94.ntmps := by decide
def rc95 : RC := (.seq (.reg false [(cX 3 1), (cQ 4 [] (.mv (kB false)))]) (.keep [0,3] (.seq (.reg false [(cMv 5 0), (cQ 6 [3] (.mkf 114 [(.t 3)])), (cQ 7 [5,6] (.call (kF 113) [(.t 5), (.t 6)])), (cN 8 7), (cMv 4 8)]) .ret)))
def pu95 : List Nat := [3]
def rs95 : List RV := [.t 4]
theorem cc95 : CCx Try.prog Try.f95 pu95 rc95 := by unfold CCx; kernel_rfl
theorem cb95 : CBx Try.f95 := by unfold CBx; kernel_rfl
theorem cs95 : CSx Try.prog Try.f95 rs95 := by unfold CSx; kernel_rfl
theorem cn95 : 2 ≤ Try.f95.ntmps := by decide
def rc96 : RC := (.seq (.reg false [(cX 1 0), (cQ 2 [] (.mv (kB false)))]) (.keep [1] (.seq (.reg true [(cFa 3 1 0), (cLd 4 3 true 2), (cQ 5 [4] (.call (kF 109) [(.t 4), (kI 60)])), (cMv 6 5), (gQ 7 6 true [1] (.fad 2 (.t 1))), (gQ 8 6 true [7] (.ld false 1 (.t 7))), (gQ 9 6 true [8] (.len (.t 8))), (gQ 10 6 true [9] (.bin .leq (.t 9) (kI 8))), (cQ 11 [6,10] (.pick (.t 6) (.t 10) (kB false))), (cMv 12 11), (gQ 13 12 true [1] (.fad 2 (.t 1))), (gQ 14 12 true [13] (.ld false 1 (.t 13))), (gQ 15 12 true [14] (.call (kF 115) [(.t 14), (kF 116)])), (cQ 16 [12,15] (.pick (.t 12) (.t 15) (kB false))), (cMv 17 16), (gQ 18 17 true [1] (.fad 3 (.t 1))), (gQ 19 17 true [18] (.ld false 1 (.t 18))), (gQ 20 17 true [19] (.call (kF 102) [(.t 19), (kI 0), (kI 2)])), (cQ 21 [17,20] (.pick (.t 17) (.t 20) (kB false))), (cMv 2 21)]) .ret)))
def pu96 : List Nat := [1]
def rs96 : List RV := [.t 2]
theorem cc96 : CCx Try.prog Try.f96 pu96 rc96 := by unfold CCx; kernel_rfl
theorem cb96 : CBx Try.f96 := by unfold CBx; kernel_rfl
theorem cs96 : CSx Try.prog Try.f96 rs96 := by unfold CSx; kernel_rfl
theorem cn96 : 1 ≤ Try.f96.ntmps := by decide
def rc97 : RC := (.seq (.reg false [(cX 2 0), (cQ 4 [] (.mv (kB false)))]) (.keep [1,2] (.seq (.reg false [(cMv 5 1), (cFa 6 2 3), (cLd 7 6 false 1), (cLn 8 7), (cC 9 .sub 8 1), (cQ 10 [5,9] (.call (kF 102) [(.t 5), (kI 0), (.t 9)])), (cMv 4 10)]) .ret)))
def pu97 : List Nat := [2]
def rs97 : List RV := [.t 4]
theorem cc97 : CCx Try.prog Try.f97 pu97 rc97 := by unfold CCx; kernel_rfl
theorem cb97 : CBx Try.f97 := by unfold CBx; kernel_rfl
theorem cs97 : CSx Try.prog Try.f97 rs97 := by unfold CSx; kernel_rfl
theorem cn97 : 2 ≤ Try.f97.ntmps := by decide
def rc98 : RC := (.seq (.reg false [⟨(some 4), none, [], none, .w (.alc [(.i 0), (.i 0)])⟩]) (.keep [0,1,4] (.seq (.seq (.reg false [(cMv 8 0), (cZ 9 8), (cFa 10 9 0), (cFa 11 10 1), (cLd 12 11 false 1), (cLn 13 12), (cI 14 0)]) (.keep [0,1,4,12,13,14] (.block 0 (.loop [0,1,4,12,13,14] none (.seq (.reg false [(cB 15 .lss 14 13)]) (.keep [0,1,4,12,13,14,15] (.seq (.cond (.t 15) .skip (.exit 0)) (.keep [0,1,4,12,13,14] (.seq (.block 1 (.seq (.reg false [(cA 16 1 12 14), (cLd 17 16 false 1), (cMv 6 17)]) (.keep [0,1,4,6,12,13,14] (.seq (.reg false [(cMv 18 0), (cZ 19 18), (cFa 20 19 6), (cLd 21 20 false 1), (cMv 22 6), (cA 23 1 21 22), (cLd 24 23 false 1), (cMv 7 24)]) (.keep [0,1,4,7,12,13,14] (.seq (.any false 0 [⟨(cFa 25 4 0), [], []⟩, ⟨(cLd 26 25 false 1), [], [0]⟩, ⟨(cMv 27 1), [], []⟩, ⟨(cMv 28 0), [], []⟩, ⟨(cZ 29 28), [], [3]⟩, ⟨(cFa 30 29 0), [], [4,3]⟩, ⟨(cFa 31 30 2), [], [5,4,3]⟩, ⟨(cLd 32 31 false 1), [], [6,5,4,3]⟩, ⟨(cQ 33 [32] (.bin .mul (kI 2) (.t 32))), [], [7,6,5,4,3]⟩, ⟨(cB 34 .sub 27 33), [], [2,8,7,6,5,4,3]⟩, ⟨(cMv 35 7), [], []⟩, ⟨(cQ 36 [35] (.iad 1 (.t 35) (kI 0))), [], [10]⟩, ⟨(cLd 37 36 false 1), [], [11,10]⟩, ⟨(cQ 38 [34,37] (.call (kF 117) [(.t 34), (.t 37)])), [], [9,2,8,7,6,5,4,3,12,11,10]⟩, ⟨(cB 39 .add 26 38), [], [1,0,13,9,2,8,7,6,5,4,3,12,11,10]⟩, ⟨(cFa 40 4 0), [], [0,1,2,3,4,5,6,7,8,9,10,11,12,13,14]⟩, ⟨⟨none, none, [40,39], none, .w (.st 1 (.t 40) (.t 39))⟩, [], [15,0,1,2,3,4,5,6,7,8,9,10,11,12,13,14]⟩]) (.keep [0,1,4,7,12,13,14] (.any false 0 [⟨(cFa 41 4 1), [], []⟩, ⟨(cLd 42 41 false 1), [], [0]⟩, ⟨(cMv 43 1), [], []⟩, ⟨(cMv 44 0), [], []⟩, ⟨(cZ 45 44), [], [3]⟩, ⟨(cFa 46 45 0), [], [4,3]⟩, ⟨(cFa 47 46 2), [], [5,4,3]⟩, ⟨(cLd 48 47 false 1), [], [6,5,4,3]⟩, ⟨(cQ 49 [48] (.bin .mul (kI 2) (.t 48))), [], [7,6,5,4,3]⟩, ⟨(cB 50 .sub 43 49), [], [2,8,7,6,5,4,3]⟩, ⟨(cMv 51 7), [], []⟩, ⟨(cMv 52 7), [], []⟩, ⟨(cLn 53 52), [], [11]⟩, ⟨(cC 54 .sub 53 1), [], [12,11]⟩, ⟨(cA 55 1 51 54), [], [10,13,12,11]⟩, ⟨(cLd 56 55 false 1), [], [14,10,13,12,11]⟩, ⟨(cQ 57 [50,56] (.call (kF 117) [(.t 50), (.t 56)])), [], [9,2,8,7,6,5,4,3,15,14,10,13,12,11]⟩, ⟨(cB 58 .add 42 57), [], [1,0,16,9,2,8,7,6,5,4,3,15,14,10,13,12,11]⟩, ⟨(cFa 59 4 1), [], [0,1,2,3,4,5,6,7,8,9,10,11,12,13,14,15,16,17]⟩, ⟨⟨none, none, [59,58], none, .w (.st 1 (.t 59) (.t 58))⟩, [], [18,0,1,2,3,4,5,6,7,8,9,10,11,12,13,14,15,16,17]⟩])))))))) (.keep [0,1,4,12,13,14] (.reg false [(cC 60 .add 14 1), (cMv 14 60)]))))))))))) (.keep [4] (.seq (.reg false [(cLd 61 4 true 2), ⟨none, none, [4,61], none, .w (.st 2 (.t 4) (.t 61))⟩]) .ret)))))
def pu98 : List Nat := []
def rs98 : List RV := [.c 4 true 2]
theorem cc98 : CCx Try.prog Try.f98 pu98 rc98 := by unfold CCx; kernel_rfl
theorem cb98 : CBx Try.f98 := by unfold CBx; kernel_rfl
theorem cs98 : CSx Try.prog Try.f98 rs98 := by unfold CSx; kernel_rfl
theorem cn98 : 2 ≤ Try.f98.ntmps := by decide
def rc99 : RC := (.seq (.reg false [(cX 1 0), (cQ 2 [] (.mv (.k .u)))]) (.keep [1] (.seq (.reg false [(cQ 3 [1] (.mkf 118 [(.t 1)])), (cMv 2 3)]) .ret)))
def pu99 : List Nat := [1]
def rs99 : List RV := [.t 2]
theorem cc99 : CCx Try.prog Try.f99 pu99 rc99 := by unfold CCx; kernel_rfl
theorem cb99 : CBx Try.f99 := by unfold CBx; kernel_rfl
theorem cs99 : CSx Try.prog Try.f99 rs99 := by unfold CSx; kernel_rfl
theorem cn99 : 1 ≤ Try.f99.ntmps := by decide
def rc100 : RC := (.seq (.reg false [(cX 2 0), (cI 4 0)]) (.keep [1,2,4] (.seq (.seq (.reg false [(cFa 7 2 2), (cLd 8 7 false 1), (cLn 9 8), (cI 10 0)]) (.keep [1,4,8,9,10] (.block 0 (.loop [1,4,8,9,10] (some 0) (.seq (.reg false [(cB 11 .lss 10 9)]) (.keep [1,4,8,9,10,11] (.seq (.cond (.t 11) .skip (.exit 0)) (.keep [1,4,8,9,10] (.seq (.block 1 (.seq (.reg false [(cA 12 3 8 10), (cLd 13 12 true 3), ⟨(some 6), none, [], none, .w (.alc [(.i 0), (.i 0), (.i 0)])⟩, ⟨none, none, [6,13], none, .w (.st 3 (.t 6) (.t 13))⟩]) (.keep [1,4,6,8,9,10] (.seq (.any false 0 [⟨(cFa 14 6 0), [], []⟩, ⟨(cLd 15 14 false 1), [], [0]⟩, ⟨(cMv 16 1), [], []⟩, ⟨(cQ 17 [15,16] (.call (kF 117) [(.t 15), (.t 16)])), [], [1,0,2]⟩, ⟨(cFa 18 6 1), [], []⟩, ⟨(cFa 19 18 0), [], [4]⟩, ⟨(cLd 20 19 false 1), [], [5,4]⟩, ⟨(cFa 21 6 1), [], []⟩, ⟨(cFa 22 21 1), [], [7]⟩, ⟨(cLd 23 22 false 1), [], [8,7]⟩, ⟨(cQ 24 [17,20,23] (.call (kF 102) [(.t 17), (.t 20), (.t 23)])), [], [3,1,0,2,6,5,4,9,8,7]⟩, ⟨(cN 25 24), [], [10,3,1,0,2,6,5,4,9,8,7]⟩]) (.keep [1,4,8,9,10,25] (.cond (.t 25) (.reg false [(cMv 26 4), (cC 27 .add 26 1), (cMv 4 27)]) .skip)))))) (.drp 0 (.keep [1,4,8,9,10] (.reg false [(cC 28 .add 10 1), (cMv 10 28)])))))))))))) (.keep [4] (.seq (.reg false [(cMv 29 4), (cMv 4 29)]) .ret)))))
def pu100 : List Nat := [2]
def rs100 : List RV := [.t 4]
theorem cc100 : CCx Try.prog Try.f100 pu100 rc100 := by unfold CCx; kernel_rfl
theorem cb100 : CBx Try.f100 := by unfold CBx; kernel_rfl
theorem cs100 : CSx Try.prog Try.f100 rs100 := by unfold CSx; kernel_rfl
theorem cn100 : 2 ≤ Try.f100.ntmps := by decide
def rc101 : RC := (.seq (.reg false [(cQ 4 [] (.mv (.k .u)))]) (.keep [0,1] (.seq (.reg false [⟨(some 15), none, [], none, .w (.mkm false)⟩, (cMv 5 15)]) (.keep [0,1,5] (.seq (.seq (.reg false [(cMv 16 0), (cZ 17 16), (cFa 18 17 0), (cFa 19 18 1), (cLd 20 19 false 1), (cLn 21 20), (cI 22 0)]) (.keep [0,1,5,20,21,22] (.block 0 (.loop [0,1,5,20,21,22] none (.seq (.reg false [(cB 23 .lss 22 21)]) (.keep [0,1,5,20,21,22,23] (.seq (.cond (.t 23) .skip (.exit 0)) (.keep [0,1,5,20,21,22] (.seq (.block 1 (.seq (.reg false [(cA 24 1 20 22), (cLd 25 24 false 1), (cMv 7 25)]) (.keep [0,1,5,7,20,21,22] (.reg false [(cMv 26 5), (cMv 27 7), (cQ 28 [26,27] (.lkp (.i 0) false 3 false (.t 26) (.t 27))), (cC 29 .add 28 1), ⟨none, none, [26,27,29], none, .w (.mup 3 false (.t 26) (.t 27) (.t 29))⟩])))) (.keep [0,1,5,20,21,22] (.reg false [(cC 30 .add 22 1), (cMv 22 30)]))))))))))) (.keep [0,1,5] (.seq (.reg false [⟨(some 31), none, [], none, .w (.mkm false)⟩, ⟨none, none, [31], none, .w (.mup 3 false (.t 31) (kI 0) (kI 1))⟩, (cMv 32 31), (cMv 8 32)]) (.keep [0,1,5,8] (.seq (.seq (.reg false [(cMv 33 5), ⟨(some 34), none, [33], none, .w (.rng (.t 33))⟩]) (.keep [0,1,8,34] (.block 2 (.loop [0,1,8,34] (some 3) (.seq (.nxt 35 36 34) (.keep [0,1,8,34,36] (.seq (.cond (.t 36) .skip (.exit 2)) (.keep [0,1,8,34] (.block 3 (.seq (.reg false [(cQ 37 [34] (.ent (.t 34))), (cEx 38 37 0), (cEx 39 37 1), (cMv 9 38), (cMv 10 39)]) (.keep [0,1,8,9,10,34] (.seq (.reg false [⟨(some 40), none, [], none, .w (.mkm false)⟩, (cMv 11 40)]) (.keep [0,1,8,9,10,11,34] (.seq (.seq (.reg false [(cMv 41 8), ⟨(some 42), none, [41], none, .w (.rng (.t 41))⟩]) (.keep [0,1,9,10,11,34,42] (.block 4 (.loop [0,1,9,10,11,34,42] none (.seq (.nxt 43 44 42) (.keep [0,1,9,10,11,34,42,44] (.seq (.cond (.t 44) .skip (.exit 4)) (.keep [0,1,9,10,11,34,42] (.block 5 (.seq (.reg false [(cQ 45 [42] (.ent (.t 42))), (cEx 46 45 0), (cMv 12 46)]) (.keep [0,1,9,10,11,12,34,42] (.seq (.reg false [(cMv 47 0), (cZ 48 47), (cFa 49 48 6), (cLd 50 49 false 1), (cMv 51 9), (cA 52 1 50 51), (cLd 53 52 false 1), (cLn 54 53), (cI 55 0)]) (.keep [0,1,9,10,11,12,34,42,53,54,55] (.block 6 (.loop [0,1,9,10,11,12,34,42,53,54,55] none (.seq (.reg false [(cB 56 .lss 55 54)]) (.keep [0,1,9,10,11,12,34,42,53,54,55,56] (.seq (.cond (.t 56) .skip (.exit 6)) (.keep [0,1,9,10,11,12,34,42,53,54,55] (.seq (.block 7 (.seq (.reg false [(cA 57 1 53 55), (cLd 58 57 false 1), (cMv 14 58)]) (.keep [0,1,9,10,11,12,14,34,42,53,54,55] (.reg false [(cMv 59 11), (cMv 60 12), (cMv 61 10), (cMv 62 1), (cMv 63 0), (cZ 64 63), (cFa 65 64 0), (cFa 66 65 2), (cLd 67 66 false 1), (cQ 68 [67] (.bin .mul (kI 2) (.t 67))), (cB 69 .sub 62 68), (cMv 70 14), (cQ 71 [69,70] (.call (kF 117) [(.t 69), (.t 70)])), (cB 72 .mul 61 71), (cB 73 .add 60 72), (cQ 74 [59,73] (.lkp (.i 0) false 3 false (.t 59) (.t 73))), (cC 75 .add 74 1), ⟨none, none, [59,73,75], none, .w (.mup 3 false (.t 59) (.t 73) (.t 75))⟩])))) (.keep [0,1,9,10,11,12,34,42,53,54,55] (.reg false [(cC 76 .add 55 1), (cMv 55 76)])))))))))))))))))))))) (.keep [0,1,11,34] (.swp 1 3 (.reg false [(cMv 77 11), (cMv 8 77)]))))))))))))))))) (.keep [8] (.seq (.swp 0 1 (.drp 1 (.reg false [(cMv 78 8), (cMv 4 78)]))) .ret)))))))))))
def pu101 : List Nat := []
def rs101 : List RV := [.t 4]
theorem cc101 : CCx Try.prog Try.f101 pu101 rc101 := by unfold CCx; kernel_rfl
theorem cb101 : CBx Try.f101 := by unfold CBx; kernel_rfl
theorem cs101 : CSx Try.prog Try.f101 rs101 := by unfold CSx; kernel_rfl
theorem cn101 : 2 ≤ Try.f101.ntmps := by decide
def rc102 : RC := (.seq (.reg false [(cQ 6 [] (.mv (kB false)))]) (.keep [0,1,2] (.seq (.reg true [(cMv 7 1), (cMv 8 0), (cB 9 .leq 7 8), (cMv 10 9), (gMv 11 10 true 0), (gMv 12 10 true 2), (gQ 13 10 true [11,12] (.bin .leq (.t 11) (.t 12))), (cQ 14 [10,13] (.pick (.t 10) (.t 13) (kB false))), (cMv 6 14)]) .ret)))
def pu102 : List Nat := []
def rs102 : List RV := [.t 6]
theorem cc102 : CCx Try.prog Try.f102 pu102 rc102 := by unfold CCx; kernel_rfl
theorem cb102 : CBx Try.f102 := by unfold CBx; kernel_rfl
theorem cs102 : CSx Try.prog Try.f102 rs102 := by unfold CSx; kernel_rfl
theorem cn102 : 3 ≤ Try.f102.ntmps := by decide
def rc103 : RC := (.seq (.reg false [(cX 2 0), (cQ 4 [] (.mv (kB false)))]) (.keep [1,2] (.seq (.reg false [(cMv 5 1), (cFa 6 2 0), (cLd 7 6 false 1), (cLn 8 7), (cC 9 .sub 8 1), (cQ 10 [5,9] (.call (kF 102) [(.t 5), (kI 0), (.t 9)])), (cMv 4 10)]) .ret)))
def pu103 : List Nat := [2]
def rs103 : List RV := [.t 4]
theorem cc103 : CCx Try.prog Try.f103 pu103 rc103 := by unfold CCx; kernel_rfl
theorem cb103 : CBx Try.f103 := by unfold CBx; kernel_rfl
theorem cs103 : CSx Try.prog Try.f103 rs103 := by unfold CSx; kernel_rfl
theorem cn103 : 2 ≤ Try.f103.ntmps := by decide
def rc105 : RC := (.seq (.reg false [(cX 3 0), (cQ 6 [] (.mv (.k (.z 1)))), (cI 7 0)]) (.keep [1,2,3] (.seq (.seq (.reg false [(cLd 10 3 true 6), (cQ 11 [10] (.call (kF 58) [(.t 10)])), (cMv 8 11)]) (.keep [1,2,3,8] (.seq (.reg false [(cMv 12 8), (cC 13 .neq 12 0)]) (.keep [1,2,3,8,13] (.cond (.t 13) (.seq (.reg false [(cMv 14 8), (cQ 6 [] (.mv (.k (.z 1)))), (cMv 7 14)]) .ret) .skip))))) (.keep [1,2,3] (.seq (.seq (.reg true [(cMv 15 1), (cFa 16 3 0), (cLd 17 16 false 1), (cLn 18 17), (cC 19 .sub 18 1), (cQ 20 [15,19] (.call (kF 88) [(.t 15), (kI 0), (.t 19)])), (cN 21 20), (cMv 22 21), (gMv 23 22 false 2), (gQ 24 22 false [3] (.fad 3 (.t 3))), (gQ 25 22 false [24] (.ld false 1 (.t 24))), (gQ 26 22 false [25] (.len (.t 25))), (gQ 27 22 false [26] (.bin .sub (.t 26) (kI 1))), (gQ 28 22 false [23,27] (.call (kF 88) [(.t 23), (kI 0), (.t 27)])), (gQ 29 22 false [28] (.not (.t 28))), (cQ 30 [22,29] (.pick (.t 22) (kB true) (.t 29)))]) (.keep [3,30] (.cond (.t 30) (.seq (.reg false [(cQ 6 [] (.mv (.k (.z 1)))), (cI 7 1)]) .ret) .skip))) (.keep [3] (.seq (.reg false [(cLd 31 3 true 6), (cQ 32 [31] (.call (kF 119) [(.t 31), (.k (.z 1))])), (cMv 9 32)]) (.keep [9] (.seq (.seq (.reg false [(cMv 33 9), (cLn 34 33), (cC 35 .eql 34 0)]) (.keep [9,35] (.cond (.t 35) (.seq (.reg false [(cQ 6 [] (.mv (.k (.z 1)))), (cI 7 3)]) .ret) .skip))) (.keep [9] (.seq (.reg false [(cMv 36 9), (cMv 6 36), (cI 7 0)]) .ret)))))))))))
def pu105 : List Nat := [3]
def rs105 : List RV := [.t 6, .t 7]
theorem cc105 : CCx Try.prog Try.f105 pu105 rc105 := by unfold CCx; kernel_rfl
theorem cb105 : CBx Try.f105 := by unfold CBx; kernel_rfl
theorem cs105 : CSx Try.prog Try.f105 rs105 := by unfold CSx; kernel_rfl
theorem cn105 : 3 ≤ Try.f105.ntmps := by decide
def rc106 : RC := (.seq (.reg false [(cX 1 0), (cQ 2 [] (.mv (.k (.z 1))))]) (.keep [1] (.seq (.reg false [(cQ 3 [] (.mv (.k (.z 1))))]) (.keep [1,3] (.seq (.seq (.reg false [(cFa 5 1 0), (cFa 6 5 0), (cLd 7 6 false 1), (cMv 4 7)]) (.keep [1,3,4] (.block 0 (.own 3 1 (.loop [1,3,4] none (.seq (.seq (.reg false [(cMv 8 4), (cFa 9 1 0), (cFa 10 9 1), (cLd 11 10 false 1), (cB 12 .leq 8 11)]) (.keep [1,3,4,12] (.cond (.t 12) .skip (.exit 0)))) (.keep [1,3,4] (.seq (.block 1 (.seq (.reg false [(cLd 15 1 true 4), (cMv 16 4), (cQ 17 [15,16] (.call (kF 69) [(.t 15), (.t 16)]))]) (.keep [1,3,4,17] (.cond (.t 17) (.reg false [(cMv 18 3), (cMv 19 4), (cQ 20 [19] (.bsl 1 1 [(.i 0)] [(0,1, (.t 19))])), ⟨(some 21), none, [18,20], none, .w (.app 1 (.t 18) (.t 20))⟩, (cMv 3 21)]) .skip)))) (.keep [1,3,4] (.reg false [(cMv 13 4), (cC 14 .add 13 1), (cMv 4 14)])))))))))) (.keep [3] (.seq (.reg false [(cMv 22 3), (cMv 2 22)]) .ret)))))))
def pu106 : List Nat := [1,20]
def rs106 : List RV := [.t 2]
theorem cc106 : CCx Try.prog Try.f106 pu106 rc106 := by unfold CCx; kernel_rfl
theorem cb106 : CBx Try.f106 := by unfold CBx; kernel_rfl
theorem cs106 : CSx Try.prog Try.f106 rs106 := by unfold CSx; kernel_rfl
theorem cn106 : 1 ≤ Try.f106.ntmps := by decide
def rc107 : RC := (.seq (.reg false [(cQ 3 [] (.mv (kB false)))]) (.keep [0,1] (.seq (.reg false [(cMv 4 0), (cFa 5 1 0), (cLd 6 5 false 1), (cLn 7 6), (cC 8 .sub 7 1), (cQ 9 [4,8] (.call (kF 102) [(.t 4), (kI 0), (.t 8)])), (cMv 3 9)]) .ret)))
def pu107 : List Nat := []
def rs107 : List RV := [.t 3]
theorem cc107 : CCx Try.prog Try.f107 pu107 rc107 := by unfold CCx; kernel_rfl
theorem cb107 : CBx Try.f107 := by unfold CBx; kernel_rfl
theorem cs107 : CSx Try.prog Try.f107 rs107 := by unfold CSx; kernel_rfl
theorem cn107 : 2 ≤ Try.f107.ntmps := by decide
def rc108 : RC := (.seq (.reg false [(cX 1 0), (cQ 2 [] (.mv (kB false)))]) (.keep [1] (.seq (.reg false [(cLd 3 1 true 2), (cQ 4 [3] (.call (kF 109) [(.t 3), (kI 40000)])), (cMv 2 4)]) .ret)))
def pu108 : List Nat := [1]
def rs108 : List RV := [.t 2]
theorem cc108 : CCx Try.prog Try.f108 pu108 rc108 := by unfold CCx; kernel_rfl
theorem cb108 : CBx Try.f108 := by unfold CBx; kernel_rfl
theorem cs108 : CSx Try.prog Try.f108 rs108 := by unfold CSx; kernel_rfl
theorem cn108 : 1 ≤ Try.f108.ntmps := by decide
def rc109 : RC := (.seq (.reg false [(cX 2 0), (cQ 4 [] (.mv (kB false)))]) (.keep [1,2] (.seq (.reg true [(cFa 5 2 0), (cLd 6 5 false 1), (cFa 7 2 1), (cLd 8 7 false 1), (cQ 9 [6,8] (.call (kF 102) [(.t 6), (kI 0), (.t 8)])), (cMv 10 9), (gQ 11 10 true [2] (.fad 1 (.t 2))), (gQ 12 10 true [11] (.ld false 1 (.t 11))), (gMv 13 10 true 1), (gQ 14 10 true [12,13] (.bin .leq (.t 12) (.t 13))), (cQ 15 [10,14] (.pick (.t 10) (.t 14) (kB false))), (cMv 4 15)]) .ret)))
def pu109 : List Nat := [2]
def rs109 : List RV := [.t 4]
theorem cc109 : CCx Try.prog Try.f109 pu109 rc109 := by unfold CCx; kernel_rfl
theorem cb109 : CBx Try.f109 := by unfold CBx; kernel_rfl
theorem cs109 : CSx Try.prog Try.f109 rs109 := by unfold CSx; kernel_rfl
theorem cn109 : 2 ≤ Try.f109.ntmps := by decide
def rc110 : RC := (.seq (.reg false [(cQ 3 [] (.mv (kB false)))]) (.keep [0,1] (.seq (.reg false [(cMv 4 0), (cFa 5 1 2), (cLd 6 5 false 1), (cQ 7 [6] (.bin .mul (kI 2) (.t 6))), (cQ 8 [4,7] (.call (kF 102) [(.t 4), (.t 7), (kI 2000)])), (cMv 3 8)]) .ret)))
def pu110 : List Nat := []
def rs110 : List RV := [.t 3]
theorem cc110 : CCx Try.prog Try.f110 pu110 rc110 := by unfold CCx; kernel_rfl
theorem cb110 : CBx Try.f110 := by unfold CBx; kernel_rfl
theorem cs110 : CSx Try.prog Try.f110 rs110 := by unfold CSx; kernel_rfl
theorem cn110 : 2 ≤ Try.f110.ntmps := by decide
def rc111 : RC := (.seq (.reg false [(cX 3 1), (cQ 4 [] (.mv (kB false)))]) (.keep [0,3] (.seq (.reg false [(cMv 5 0), (cQ 6 [3] (.mkf 121 [(.t 3)])), (cQ 7 [5,6] (.call (kF 120) [(.t 5), (.t 6)])), (cN 8 7), (cMv 4 8)]) .ret)))
def pu111 : List Nat := [3]
def rs111 : List RV := [.t 4]
theorem cc111 : CCx Try.prog Try.f111 pu111 rc111 := by unfold CCx; kernel_rfl
theorem cb111 : CBx Try.f111 := by unfold CBx; kernel_rfl
theorem cs111 : CSx Try.prog Try.f111 rs111 := by unfold CSx; kernel_rfl
theorem cn111 : 2 ≤ Try.f111.ntmps := by decide
def rc112 : RC := (.seq (.reg false [(cX 3 1), (cQ 4 [] (.mv (kB false)))]) (.keep [0,3] (.seq (.reg false [(cMv 5 0), (cQ 6 [3] (.mkf 123 [(.t 3)])), (cQ 7 [5,6] (.call (kF 122) [(.t 5), (.t 6)])), (cN 8 7), (cMv 4 8)]) .ret)))
def pu112 : List Nat := [3]
def rs112 : List RV := [.t 4]
theorem cc112 : CCx Try.prog Try.f112 pu112 rc112 := by unfold CCx; kernel_rfl
theorem cb112 : CBx Try.f112 := by unfold CBx; kernel_rfl
theorem cs112 : CSx Try.prog Try.f112 rs112 := by unfold CSx; kernel_rfl
theorem cn112 : 2 ≤ Try.f112.ntmps := by decide
def rc113 : RC := (.seq (.reg false [(cQ 4 [] (.mv (kB false)))]) (.keep [0,1] (.seq (.reg false [(cMv 5 0), (cMv 6 1), (cQ 7 [5,6] (.call (kF 124) [(.t 5), (.t 6)])), (cC 8 .geq 7 0), (cMv 4 8)]) .ret)))
def pu113 : List Nat := []
def rs113 : List RV := [.t 4]
theorem cc113 : CCx Try.prog Try.f113 pu113 rc113 := by unfold CCx; kernel_rfl
theorem cb113 : CBx Try.f113 := by unfold CBx; kernel_rfl
theorem cs113 : CSx Try.prog Try.f113 rs113 := by unfold CSx; kernel_rfl
theorem cn113 : 2 ≤ Try.f113.ntmps := by decide
def rc114 : RC := (.seq (.reg false [(cX 2 0), (cQ 3 [] (.mv (kB false)))]) (.keep [1,2] (.seq (.reg false [(cLd 4 1 false 1), (cLd 5 2 true 4), (cQ 6 [4,5] (.call (.t 4) [(.t 5)])), (cN 7 6), (cMv 3 7)]) .ret)))
def pu114 : List Nat := [2]
def rs114 : List RV := [.t 3]
theorem cc114 : CCx Try.prog Try.f114 pu114 rc114 := by unfold CCx; kernel_rfl
theorem cb114 : CBx Try.f114 := by unfold CBx; kernel_rfl
theorem cs114 : CSx Try.prog Try.f114 rs114 := by unfold CSx; kernel_rfl
theorem cn114 : 2 ≤ Try.f114.ntmps := by decide
def rc115 : RC := (.seq (.reg false [(cX 3 1), (cQ 4 [] (.mv (kB false)))]) (.keep [0,3] (.seq (.reg false [(cMv 5 0), (cQ 6 [3] (.mkf 126 [(.t 3)])), (cQ 7 [5,6] (.call (kF 125) [(.t 5), (.t 6)])), (cN 8 7), (cMv 4 8)]) .ret)))
def pu115 : List Nat := [3]
def rs115 : List RV := [.t 4]
theorem cc115 : CCx Try.prog Try.f115 pu115 rc115 := by unfold CCx; kernel_rfl
theorem cb115 : CBx Try.f115 := by unfold CBx; kernel_rfl
theorem cs115 : CSx Try.prog Try.f115 rs115 := by unfold CSx; kernel_rfl
theorem cn115 : 2 ≤ Try.f115.ntmps := by decide
def rc116 : RC := (.seq (.reg false [(cX 1 0), (cQ 2 [] (.mv (kB false)))]) (.keep [1] (.seq (.reg true [(cFa 3 1 0), (cLd 4 3 false 1), (cQ 5 [4] (.call (kF 102) [(.t 4), (kI 1), (kI 2000)])), (cMv 6 5), (gQ 7 6 true [1] (.fad 1 (.t 1))), (gQ 8 6 true [7] (.ld true 2 (.t 7))), (gQ 9 6 true [8] (.call (kF 109) [(.t 8), (kI 4000)])), (cQ 10 [6,9] (.pick (.t 6) (.t 9) (kB false))), (cMv 2 10)]) .ret)))
def pu116 : List Nat := [1]
def rs116 : List RV := [.t 2]
theorem cc116 : CCx Try.prog Try.f116 pu116 rc116 := by unfold CCx; kernel_rfl
theorem cb116 : CBx Try.f116 := by unfold CBx; kernel_rfl
theorem cs116 : CSx Try.prog Try.f116 rs116 := by unfold CSx; kernel_rfl
theorem cn116 : 1 ≤ Try.f116.ntmps := by decide
def rc117 : RC := (.seq (.reg false [(cI 4 0)]) (.keep [0,1] (.seq (.reg false [(cMv 5 0), (cMv 6 1), (cQ 7 [6] (.bin .add (kI 1000) (.t 6))), (cB 8 .mul 5 7), (cC 9 .quo 8 1000), (cMv 4 9)]) .ret)))
def pu117 : List Nat := []
def rs117 : List RV := [.t 4]
theorem cc117 : CCx Try.prog Try.f117 pu117 rc117 := by unfold CCx; kernel_rfl
theorem cb117 : CBx Try.f117 := by unfold CBx; kernel_rfl
theorem cs117 : CSx Try.prog Try.f117 rs117 := by unfold CSx; kernel_rfl
theorem cn117 : 2 ≤ Try.f117.ntmps := by decide
def rc118 : RC := (.seq (.reg false [(cFa 4 1 0), (cFa 5 4 0), (cLd 6 5 false 1), (cMv 3 6)]) (.keep [0,1,3] (.block 0 (.loop [0,1,3] none (.seq (.seq (.reg false [(cMv 7 3), (cFa 8 1 0), (cFa 9 8 1), (cLd 10 9 false 1), (cB 11 .leq 7 10)]) (.keep [0,1,3,11] (.cond (.t 11) .skip (.exit 0)))) (.keep [0,1,3] (.seq (.block 1 (.seq (.yrg false [(cMv 14 0), (cMv 15 3)] ⟨(some 16), none, [14,15], none, .o (.t 14) [(.t 15)]⟩ [0,1,3] [(cN 17 16)]) (.keep [0,1,3,17] (.cond (.t 17) .ret .skip)))) (.keep [0,1,3] (.reg false [(cMv 12 3), (cC 13 .add 12 1), (cMv 3 13)])))))))))
def pu118 : List Nat := []
def rs118 : List RV := []
theorem cc118 : comp Try.prog pu118 (Try.f118.ntmps, 2) 1 2 rc118 (Try.f118.body.getD .skip) = some rc118 := by kernel_rfl
theorem cb118 : CBx Try.f118 := by unfold CBx; kernel_rfl
theorem cs118 : CSx Try.prog Try.f118 rs118 := by unfold CSx; kernel_rfl
theorem cn118 : 2 ≤ Try.f118.ntmps := by decide
def rc119 : RC := (.seq (.reg false [(cX 2 0), (cQ 4 [] (.mv (.k (.z 1))))]) (.keep [1,2] (.seq (.seq (.reg false [(cMv 8 1), (cLn 9 8), (cFa 10 2 0), (cLd 11 10 false 1), (cLn 12 11), (cB 13 .eql 9 12)]) (.keep [1,2,13] (.cond (.t 13) (.seq (.reg false [(cMv 14 1), (cQ 15 [14] (.bsl 1 1 [(.z 1)] [(0,1, (.t 14))])), (cMv 4 15)]) .ret) .skip))) (.keep [1,2] (.seq (.reg false [(cQ 5 [] (.mv (.k (.z 1))))]) (.keep [1,2,5] (.seq (.reg false [(cFa 16 2 0), (cLd 17 16 false 1), (cMv 18 1), (cLn 19 18), (cA 20 4 17 19), (cLd 21 20 true 4), (cQ 22 [21] (.call (kF 106) [(.t 21)])), (cMv 6 22)]) (.keep [1,2,5,6] (.seq (.seq (.reg false [(cI 7 0)]) (.keep [1,2,5,6,7] (.block 0 (.own 5 1 (.loop [1,2,5,6,7] (some 1) (.seq (.seq (.reg false [(cMv 23 7), (cMv 24 6), (cLn 25 24), (cB 26 .lss 23 25)]) (.keep [1,2,5,6,7,26] (.cond (.t 26) .skip (.exit 0)))) (.keep [1,2,5,6,7] (.seq (.block 1 (.any false 4 [⟨(cMv 29 5), [], []⟩, ⟨(cLd 30 2 true 6), [], []⟩, ⟨⟨(some 31), none, [], (some 0), .w (.bso 1 0 [(.i 0)] [])⟩, [0,1], []⟩, ⟨(cMv 32 1), [2], []⟩, ⟨⟨(some 33), none, [31,32], (some 1), .w (.app 1 (.t 31) (.t 32))⟩, [0,1], [2,3]⟩, ⟨(cMv 34 6), [2,4], []⟩, ⟨(cMv 35 7), [2,4], []⟩, ⟨(cA 36 1 34 35), [2,4], [5,6]⟩, ⟨(cLd 37 36 false 1), [2,4], [7,5,6]⟩, ⟨(cQ 38 [37] (.bsl 1 1 [(.i 0)] [(0,1, (.t 37))])), [2,4], [8,7,5,6]⟩, ⟨⟨(some 39), none, [33,38], (some 2), .w (.app 1 (.t 33) (.t 38))⟩, [0,1], [4,2,3,9,8,7,5,6]⟩, ⟨⟨(some 40), none, [30,39], none, .o (kF 119) [(.t 30), (.t 39)]⟩, [0], [1,10,4,2,3,9,8,7,5,6]⟩, ⟨⟨(some 41), none, [29,40], (some 3), .w (.app 1 (.t 29) (.t 40))⟩, [], [0,11,1,10,4,2,3,9,8,7,5,6]⟩, ⟨(cMv 5 41), [], [12,0,11,1,10,4,2,3,9,8,7,5,6]⟩])) (.drp 1 (.keep [1,2,5,6,7] (.reg false [(cMv 27 7), (cC 28 .add 27 1), (cMv 7 28)]))))))))))) (.keep [5] (.seq (.reg false [(cMv 42 5), (cMv 4 42)]) .ret)))))))))))
def pu119 : List Nat := [1000040,2,15,38]
def rs119 : List RV := [.t 4]
theorem cc119 : CCx Try.prog Try.f119 pu119 rc119 := by unfold CCx; kernel_rfl
theorem cb119 : CBx Try.f119 := by unfold CBx; kernel_rfl
theorem cs119 : CSx Try.prog Try.f119 rs119 := by unfold CSx; kernel_rfl
theorem cn119 : 2 ≤ Try.f119.ntmps := by decide
def rc120 : RC := (.seq (.reg false [(cQ 4 [] (.mv (kB false)))]) (.keep [0,1] (.seq (.reg false [(cMv 5 0), (cMv 6 1), (cQ 7 [5,6] (.call (kF 127) [(.t 5), (.t 6)])), (cC 8 .geq 7 0), (cMv 4 8)]) .ret)))
def pu120 : List Nat := []
def rs120 : List RV := [.t 4]
theorem cc120 : CCx Try.prog Try.f120 pu120 rc120 := by unfold CCx; kernel_rfl
theorem cb120 : CBx Try.f120 := by unfold CBx; kernel_rfl
theorem cs120 : CSx Try.prog Try.f120 rs120 := by unfold CSx; kernel_rfl
theorem cn120 : 2 ≤ Try.f120.ntmps := by decide
def rc121 : RC := (.seq (.reg false [(cQ 3 [] (.mv (kB false)))]) (.keep [0,1] (.seq (.reg false [(cLd 4 1 false 1), (cMv 5 0), (cQ 6 [4,5] (.call (.t 4) [(.t 5)])), (cN 7 6), (cMv 3 7)]) .ret)))
def pu121 : List Nat := []
def rs121 : List RV := [.t 3]
theorem cc121 : CCx Try.prog Try.f121 pu121 rc121 := by unfold CCx; kernel_rfl
theorem cb121 : CBx Try.f121 := by unfold CBx; kernel_rfl
theorem cs121 : CSx Try.prog Try.f121 rs121 := by unfold CSx; kernel_rfl
theorem cn121 : 2 ≤ Try.f121.ntmps := by decide
def rc122 : RC := (.seq (.reg false [(cQ 4 [] (.mv (kB false)))]) (.keep [0,1] (.seq (.reg false [(cMv 5 0), (cMv 6 1), (cQ 7 [5,6] (.call (kF 128) [(.t 5), (.t 6)])), (cC 8 .geq 7 0), (cMv 4 8)]) .ret)))
def pu122 : List Nat := []
def rs122 : List RV := [.t 4]
theorem cc122 : CCx Try.prog Try.f122 pu122 rc122 := by unfold CCx; kernel_rfl
theorem cb122 : CBx Try.f122 := by unfold CBx; kernel_rfl
theorem cs122 : CSx Try.prog Try.f122 rs122 := by unfold CSx; kernel_rfl
theorem cn122 : 2 ≤ Try.f122.ntmps := by decide
def rc123 : RC := (.seq (.reg false [(cX 2 0), (cQ 3 [] (.mv (kB false)))]) (.keep [1,2] (.seq (.reg false [(cLd 4 1 false 1), (cLd 5 2 true 2), (cQ 6 [4,5] (.call (.t 4) [(.t 5)])), (cN 7 6), (cMv 3 7)]) .ret)))
def pu123 : List Nat := [2]
def rs123 : List RV := [.t 3]
theorem cc123 : CCx Try.prog Try.f123 pu123 rc123 := by unfold CCx; kernel_rfl
theorem cb123 : CBx Try.f123 := by unfold CBx; kernel_rfl
theorem cs123 : CSx Try.prog Try.f123 rs123 := by unfold CSx; kernel_rfl
theorem cn123 : 2 ≤ Try.f123.ntmps := by decide
def rc124 : RC := (.seq (.reg false [(cI 4 0)]) (.keep [0,1] (.seq (.seq (.reg false [(cMv 6 0), (cLn 7 6), (cI 8 0)]) (.keep [0,1,7,8] (.block 0 (.loop [0,1,7,8] none (.seq (.reg false [(cB 9 .lss 8 7)]) (.keep [0,1,7,8,9] (.seq (.cond (.t 9) .skip (.exit 0)) (.keep [0,1,7,8] (.seq (.block 1 (.seq (.reg false [(cMv 10 8), (cMv 5 10)]) (.keep [0,1,5,7,8] (.seq (.reg false [(cMv 11 1), (cMv 12 0), (cMv 13 5), (cA 14 4 12 13), (cLd 15 14 true 4), (cQ 16 [11,15] (.call (.t 11) [(.t 15)]))]) (.keep [0,1,5,7,8,16] (.cond (.t 16) (.seq (.reg false [(cMv 17 5), (cMv 4 17)]) .ret) .skip)))))) (.keep [0,1,7,8] (.reg false [(cC 18 .add 8 1), (cMv 8 18)]))))))))))) (.keep [] (.seq (.reg false [(cQ 4 [] (.mv (.k (.i (-1)))))]) .ret)))))
def pu124 : List Nat := []
def rs124 : List RV := [.t 4]
theorem cc124 : CCx Try.prog Try.f124 pu124 rc124 := by unfold CCx; kernel_rfl
theorem cb124 : CBx Try.f124 := by unfold CBx; kernel_rfl
theorem cs124 : CSx Try.prog Try.f124 rs124 := by unfold CSx; kernel_rfl
theorem cn124 : 2 ≤ Try.f124.ntmps := by decide
def rc125 : RC := (.seq (.reg false [(cQ 4 [] (.mv (kB false)))]) (.keep [0,1] (.seq (.reg false [(cMv 5 0), (cMv 6 1), (cQ 7 [5,6] (.call (kF 129) [(.t 5), (.t 6)])), (cC 8 .geq 7 0), (cMv 4 8)]) .ret)))
def pu125 : List Nat := []
def rs125 : List RV := [.t 4]
theorem cc125 : CCx Try.prog Try.f125 pu125 rc125 := by unfold CCx; kernel_rfl
theorem cb125 : CBx Try.f125 := by unfold CBx; kernel_rfl
theorem cs125 : CSx Try.prog Try.f125 rs125 := by unfold CSx; kernel_rfl
theorem cn125 : 2 ≤ Try.f125.ntmps := by decide
def rc126 : RC := (.seq (.reg false [(cX 2 0), (cQ 3 [] (.mv (kB false)))]) (.keep [1,2] (.seq (.reg false [(cLd 4 1 false 1), (cLd 5 2 true 3), (cQ 6 [4,5] (.call (.t 4) [(.t 5)])), (cN 7 6), (cMv 3 7)]) .ret)))
def pu126 : List Nat := [2]
def rs126 : List RV := [.t 3]
theorem cc126 : CCx Try.prog Try.f126 pu126 rc126 := by unfold CCx; kernel_rfl
theorem cb126 : CBx Try.f126 := by unfold CBx; kernel_rfl
theorem cs126 : CSx Try.prog Try.f126 rs126 := by unfold CSx; kernel_rfl
theorem cn126 : 2 ≤ Try.f126.ntmps := by decide
def rc127 : RC := (.seq (.reg false [(cI 4 0)]) (.keep [0,1] (.seq (.seq (.reg false [(cMv 6 0), (cLn 7 6), (cI 8 0)]) (.keep [0,1,7,8] (.block 0 (.loop [0,1,7,8] none (.seq (.reg false [(cB 9 .lss 8 7)]) (.keep [0,1,7,8,9] (.seq (.cond (.t 9) .skip (.exit 0)) (.keep [0,1,7,8] (.seq (.block 1 (.seq (.reg false [(cMv 10 8), (cMv 5 10)]) (.keep [0,1,5,7,8] (.seq (.reg false [(cMv 11 1), (cMv 12 0), (cMv 13 5), (cA 14 1 12 13), (cLd 15 14 false 1), (cQ 16 [11,15] (.call (.t 11) [(.t 15)]))]) (.keep [0,1,5,7,8,16] (.cond (.t 16) (.seq (.reg false [(cMv 17 5), (cMv 4 17)]) .ret) .skip)))))) (.keep [0,1,7,8] (.reg false [(cC 18 .add 8 1), (cMv 8 18)]))))))))))) (.keep [] (.seq (.reg false [(cQ 4 [] (.mv (.k (.i (-1)))))]) .ret)))))
def pu127 : List Nat := []
def rs127 : List RV := [.t 4]
theorem cc127 : CCx Try.prog Try.f127 pu127 rc127 := by unfold CCx; kernel_rfl
theorem cb127 : CBx Try.f127 := by unfold CBx; kernel_rfl
theorem cs127 : CSx Try.prog Try.f127 rs127 := by unfold CSx; kernel_rfl
theorem cn127 : 2 ≤ Try.f127.ntmps := by decide
def rc128 : RC := (.seq (.reg false [(cI 4 0)]) (.keep [0,1] (.seq (.seq (.reg false [(cMv 6 0), (cLn 7 6), (cI 8 0)]) (.keep [0,1,7,8] (.block 0 (.loop [0,1,7,8] none (.seq (.reg false [(cB 9 .lss 8 7)]) (.keep [0,1,7,8,9] (.seq (.cond (.t 9) .skip (.exit 0)) (.keep [0,1,7,8] (.seq (.block 1 (.seq (.reg false [(cMv 10 8), (cMv 5 10)]) (.keep [0,1,5,7,8] (.seq (.reg false [(cMv 11 1), (cMv 12 0), (cMv 13 5), (cA 14 2 12 13), (cLd 15 14 true 2), (cQ 16 [11,15] (.call (.t 11) [(.t 15)]))]) (.keep [0,1,5,7,8,16] (.cond (.t 16) (.seq (.reg false [(cMv 17 5), (cMv 4 17)]) .ret) .skip)))))) (.keep [0,1,7,8] (.reg false [(cC 18 .add 8 1), (cMv 8 18)]))))))))))) (.keep [] (.seq (.reg false [(cQ 4 [] (.mv (.k (.i (-1)))))]) .ret)))))
def pu128 : List Nat := []
def rs128 : List RV := [.t 4]
theorem cc128 : CCx Try.prog Try.f128 pu128 rc128 := by unfold CCx; kernel_rfl
theorem cb128 : CBx Try.f128 := by unfold CBx; kernel_rfl
theorem cs128 : CSx Try.prog Try.f128 rs128 := by unfold CSx; kernel_rfl
theorem cn128 : 2 ≤ Try.f128.ntmps := by decide
def rc129 : RC := (.seq (.reg false [(cI 4 0)]) (.keep [0,1] (.seq (.seq (.reg false [(cMv 6 0), (cLn 7 6), (cI 8 0)]) (.keep [0,1,7,8] (.block 0 (.loop [0,1,7,8] none (.seq (.reg false [(cB 9 .lss 8 7)]) (.keep [0,1,7,8,9] (.seq (.cond (.t 9) .skip (.exit 0)) (.keep [0,1,7,8] (.seq (.block 1 (.seq (.reg false [(cMv 10 8), (cMv 5 10)]) (.keep [0,1,5,7,8] (.seq (.reg false [(cMv 11 1), (cMv 12 0), (cMv 13 5), (cA 14 3 12 13), (cLd 15 14 true 3), (cQ 16 [11,15] (.call (.t 11) [(.t 15)]))]) (.keep [0,1,5,7,8,16] (.cond (.t 16) (.seq (.reg false [(cMv 17 5), (cMv 4 17)]) .ret) .skip)))))) (.keep [0,1,7,8] (.reg false [(cC 18 .add 8 1), (cMv 8 18)]))))))))))) (.keep [] (.seq (.reg false [(cQ 4 [] (.mv (.k (.i (-1)))))]) .ret)))))
def pu129 : List Nat := []
def rs129 : List RV := [.t 4]
theorem cc129 : CCx Try.prog Try.f129 pu129 rc129 := by unfold CCx; kernel_rfl
theorem cb129 : CBx Try.f129 := by unfold CBx; kernel_rfl
theorem cs129 : CSx Try.prog Try.f129 rs129 := by unfold CSx; kernel_rfl
theorem cn129 : 2 ≤ Try.f129.ntmps := by decide
end Go.C02
set_option linter.unusedSimpArgs false
set_option linter.unusedVariables false
namespace Go.C02
open Go.Fam Go.Proofs
theorem hmix : Try.prog.follows .mixedOrders = true := by kernel_rfl
variable {Γ : Gam}
def Qak (n lo hi : Int) : Bool := decide (lo ≤ n) && decide (n ≤ hi)
def pull (l s : Int) : Int := (l * (1000 + s)).tdiv 1000
def tame (m n : Int) : Prop := -m ≤ n ∧ n ≤ m
theorem P54 (hG : GOk Try.prog Γ) (n lo hi : Int) : Qab Try.prog 88 [.i n, .i lo, .i hi] (.b (Qak n lo hi)) := by
 refine Qac hG hmix Try.func88 cb88 cc88 cs88 cn88 ?_
 simp only [rc88, rs88, Qa7, Qa8, Qai, Qa4, Qae, Qa5, Qa2, Fam.step, Qaf, Qbz, Qbq, ug, evO, opv, qv, Qb2, binV, Qa3, Qa0, Qa1, ↓reduceIte, Nat.reduceEqDiff, Nat.reduceAdd, Qb, Qc, Q1, Q0, endQ, rvs, rv1, resV, vw_b, zipA, Qe, V.b.injEq, Qt, Qv, decide_eq_true_eq, decide_eq_false_iff_not, true_and, and_true, and_self, implies_true, reduceCtorEq, beq_true, Qff, imp_self]
 by_cases h : lo ≤ n <;> simp [h, Qak]
theorem P67 (hG : GOk Try.prog Γ) (n lo hi : Int) : Qab Try.prog 102 [.i n, .i lo, .i hi] (.b (Qak n lo hi)) := by
 refine Qac hG hmix Try.func102 cb102 cc102 cs102 cn102 ?_
 simp only [rc102, rs102, Qa7, Qa8, Qai, Qa4, Qae, Qa5, Qa2, Fam.step, Qaf, Qbz, Qbq, ug, evO, opv, qv, Qb2, binV, Qa3, Qa0, Qa1, ↓reduceIte, Nat.reduceEqDiff, Nat.reduceAdd, Qb, Qc, Q1, Q0, endQ, rvs, rv1, resV, vw_b, zipA, Qe, V.b.injEq, Qt, Qv, decide_eq_true_eq, decide_eq_false_iff_not, true_and, and_true, and_self, implies_true, reduceCtorEq, beq_true, Qff, imp_self]
 by_cases h : lo ≤ n <;> simp [h, Qak]
theorem Qt7 {a b m n : Int} (ha : tame m a) (hb : tame n b) (hm : 0 ≤ m) (hn : 0 ≤ n) : tame (m * n) (a * b) := by
 unfold tame at *
 constructor
 ·by_cases h : 0 ≤ a
  ·by_cases h' : 0 ≤ b
   ·have := Zk h h'; have := Zk hm hn; omega
   ·have := Zy ha.2 (show -b ≤ n by omega) (by omega) hm
    have e := Int.mul_neg a b
    omega
  ·by_cases h' : 0 ≤ b
   ·have := Zy (show -a ≤ m by omega) hb.2 (by omega) hm
    have e := Int.neg_mul a b
    omega
   ·have := Zk (show 0 ≤ -a by omega) (show 0 ≤ -b by omega)
    have e := Xg a b
    have := Zk hm hn
    omega
 ·by_cases h : 0 ≤ a
  ·by_cases h' : 0 ≤ b
   ·exact Zy ha.2 hb.2 h' hm
   ·have := Zk h (show 0 ≤ -b by omega)
    have e := Int.mul_neg a b
    have := Zk hm hn
    omega
  ·by_cases h' : 0 ≤ b
   ·have := Zk (show 0 ≤ -a by omega) h'
    have e := Int.neg_mul a b
    have := Zk hm hn
    omega
   ·have := Zy (show -a ≤ m by omega) (show -b ≤ n by omega) (by omega) hm
    have e := Xg a b
    omega
theorem Qwx {l s : Int} (hl : tame 1000000 l) (hs : tame 1000000 s) : inI (1000 + s) ∧ inI (l * (1000 + s)) ∧ inI (pull l s) := by
 have h1 : tame 1001000 (1000 + s) := by unfold tame at *; omega
 have h2 := Qt7 hl h1 (by decide) (by decide)
 unfold pull inI
 unfold tame at *
 have h3 : (l * (1000 + s)).tdiv 1000 ≤ 1000000 * 1001000 ∧ -(1000000 * 1001000) ≤ (l * (1000 + s)).tdiv 1000 := by
  generalize l * (1000 + s) = x at *
  constructor
  ·by_cases h : 0 ≤ x
   ·rw [Qz h]; omega
   ·have : x.tdiv 1000 ≤ 0 := by
     have e : x = -(-x) := by omega
     rw [e, Z2, Qz (by omega)]; omega
    omega
  ·by_cases h : 0 ≤ x
   ·rw [Qz h]; omega
   ·have e : x = -(-x) := by omega
    rw [e, Z2, Qz (by omega)]; omega
 omega
theorem P57 (hG : GOk Try.prog Γ) (l s : Int) (hl : tame 1000000 l) (hs : tame 1000000 s) : Qab Try.prog 72 [.i l, .i s] (.i (pull l s)) := by
 obtain ⟨h1, h2, h3⟩ := Qwx hl hs
 refine Qac hG hmix Try.func72 cb72 cc72 cs72 cn72 ?_
 simp only [rc72, rs72, Qa7, Qa8, Qai, Qa4, Qae, Qa5, Qa2, Fam.step, Qaf, evO, opv, qv, binV, Qa3, Qa0, Qa1, ↓reduceIte, Nat.reduceEqDiff, Int.reduceEq, Qb, Qc, endQ, rvs, rv1, resV, vw_i, zipA, Qe, V.i.injEq, true_and, and_self, reduceCtorEq, not_false_eq_true, ne_eq]
 exact ⟨h1, h2, by simpa [pull] using h3, rfl⟩
theorem P69 (hG : GOk Try.prog Γ) (l s : Int) (hl : tame 1000000 l) (hs : tame 1000000 s) : Qab Try.prog 117 [.i l, .i s] (.i (pull l s)) := by
 obtain ⟨h1, h2, h3⟩ := Qwx hl hs
 refine Qac hG hmix Try.func117 cb117 cc117 cs117 cn117 ?_
 simp only [rc117, rs117, Qa7, Qa8, Qai, Qa4, Qae, Qa5, Qa2, Fam.step, Qaf, evO, opv, qv, binV, Qa3, Qa0, Qa1, ↓reduceIte, Nat.reduceEqDiff, Int.reduceEq, Qb, Qc, endQ, rvs, rv1, resV, vw_i, zipA, Qe, V.i.injEq, true_and, and_self, reduceCtorEq, not_false_eq_true, ne_eq]
 exact ⟨h1, h2, by simpa [pull] using h3, rfl⟩
def r54 : List V → Prop × V | [.i n, .i lo, .i hi] => (True, .b (Qak n lo hi)) | _ => (False, .u)
def r57 : List V → Prop × V | [.i l, .i s] => (tame 1000000 l ∧ tame 1000000 s, .i (pull l s)) | _ => (False, .u)
theorem h54 (hG : GOk Try.prog Γ) (vs : List V) (h : (r54 vs).1) : Qab Try.prog 88 vs (r54 vs).2 := by
 unfold r54 at h ⊢; split at h <;> first | exact P54 hG _ _ _ | exact h.elim
theorem h67 (hG : GOk Try.prog Γ) (vs : List V) (h : (r54 vs).1) : Qab Try.prog 102 vs (r54 vs).2 := by
 unfold r54 at h ⊢; split at h <;> first | exact P67 hG _ _ _ | exact h.elim
theorem h57 (hG : GOk Try.prog Γ) (vs : List V) (h : (r57 vs).1) : Qab Try.prog 72 vs (r57 vs).2 := by
 unfold r57 at h ⊢; split at h <;> first | exact P57 hG _ _ h.1 h.2 | exact h.elim
theorem h69 (hG : GOk Try.prog Γ) (vs : List V) (h : (r57 vs).1) : Qab Try.prog 117 vs (r57 vs).2 := by
 unfold r57 at h ⊢; split at h <;> first | exact P69 hG _ _ h.1 h.2 | exact h.elim
def GA : Gam := (((Γ0.ext 88 r54).ext 102 r54).ext 72 r57).ext 117 r57
theorem okA : GOk Try.prog GA :=
 (((Qvy.ext (fun a w => Try.call88 a w) (h54 Qvy)).ext (fun a w => Try.call102 a w) (h67 Qvy)).ext (fun a w => Try.call72 a w) (h57 Qvy)).ext (fun a w => Try.call117 a w) (h69 Qvy)
theorem gA54 (n lo hi : Int) : GA 88 [.i n, .i lo, .i hi] = (True, .b (Qak n lo hi)) := rfl
theorem gA67 (n lo hi : Int) : GA 102 [.i n, .i lo, .i hi] = (True, .b (Qak n lo hi)) := rfl
theorem gA57 (l s : Int) : GA 72 [.i l, .i s] = (tame 1000000 l ∧ tame 1000000 s, .i (pull l s)) := rfl
end Go.C02
set_option linter.unusedSimpArgs false
set_option linter.unusedVariables false
namespace Go.C02
open Go.Fam Go.Proofs
def Qcn (s : Span) (most : Int) : Bool := Qak s.low 0 s.high && decide (s.high ≤ most)
theorem P73 (s : Span) (m : Int) : Qab Try.prog 109 [.ag (eSpan s), .i m] (.b (Qcn s m)) := by
 refine Qac okA hmix Try.func109 cb109 cc109 cs109 cn109 ?_
 simp only [rc109, rs109, eSpan, gA67, Qa7, Qa8, Qai, Qa4, Qae, Qa5, Qa2, Fam.step, Qaf, Qbz, Qbq, ug, evO, opv, qv, Qb2, binV, ldV, Qaw, V.cells, Qas, Qaa, Qa6, flat, Qa3, Qa0, Qa1, ↓reduceIte, Nat.reduceEqDiff, Nat.reduceAdd, Nat.reduceLT, Nat.reduceLeDiff, Qb, Qc, Q1, Q0, Qd, Qf, Qi, Ql, Qg, Qj, endQ, rvs, rv1, resV, vw_i, vw_b, Qaz, zipA, Qe, V.b.injEq, Qt, Qv, Qh, Qa, true_and, and_true, and_self, implies_true, reduceCtorEq, beq_true, Qff, Q2, imp_self, eSpan]
 by_cases h : Qak s.low 0 s.high = true <;> simp [h, Qcn]
theorem P58 (s : Span) (m : Int) : Qab Try.prog 89 [.ag (eSpan s), .i m] (.b (Qcn s m)) := by
 refine Qac okA hmix Try.func89 cb89 cc89 cs89 cn89 ?_
 simp only [rc89, rs89, eSpan, Qa7, Qa8, Qai, Qa4, Qae, Qa5, Qa2, Fam.step, Qaf, Qbz, Qbq, ug, evO, opv, qv, Qb2, binV, ldV, V.cells, Qas, Qaa, Qa6, Qa3, Qa0, Qa1, ↓reduceIte, Nat.reduceEqDiff, Nat.reduceAdd, Nat.reduceLeDiff, Qb, Qc, Q1, Q0, Qd, Qf, Qi, Ql, Qg, endQ, rvs, rv1, resV, vw_i, vw_b, Qaz, zipA, Qe, V.b.injEq, Qt, Qv, Qh, Qa, decide_eq_true_eq, decide_eq_false_iff_not, true_and, and_true, and_self, implies_true, reduceCtorEq, beq_true, Qff, Q2, imp_self, eSpan]
 by_cases h : 0 ≤ s.low <;> by_cases h' : s.low ≤ s.high <;> simp [h, h', Qcn, Qak]
def Qer (s : Int) (x : Strip) : Bool := !(Qak (pull x.long s) x.pulled.low x.pulled.high)
def Qdl (l : List Strip) (s : Int) : Nat := l.countP (Qer s)
theorem Qar {α : Type} {l : List α} {i : Nat} {x : α} (h : l[i]? = some x) : l.take (i + 1) = l.take i ++ [x] := by
 rw [List.take_add_one, h]; rfl
theorem P66 (b : Bolt) (s : Int) (hs : tame 1000 s) (hb : ∀ x ∈ b.strips, tame 10000 x.long) (hl : b.strips.length < 1000) : Qab Try.prog 93 [.ag (eBolt b), .i s] (.i (Qdl b.strips s)) := by
 refine Qac okA hmix Try.func93 cb93 cc93 cs93 cn93 ?_
 simp only [rc93, rs93, eBolt, Qa7, Qa8, Qa9, Qa4, Qae, Qa5, Qa2, Fam.step, Qaf, evO, opv, qv, V.cells, Qas, Qaa, Qa6, Qa3, Qa0, Qa1, ↓reduceIte, Nat.reduceEqDiff, Qb, Qc, vw_i, Qay, Qaz, zipA, Qe, Qh, true_and, and_self, reduceCtorEq, eBolt]
 refine Qbg b.strips.length (fun i => ⟨lkp [(1, .i s), (2, .pa (eBolt b)), (5, .i (Qdl (b.strips.take i) s)), (6, .i i)], []⟩) ?_ ?_ ?_
 ·simp only [eBolt, Qdl, Xh, Q6, kp, Qa0, Qa1, ↓reduceIte, Nat.reduceEqDiff, Qb, Qc, Zb, eBolt]
 ·intro i hi
  obtain ⟨x, hx⟩ : ∃ x, b.strips[i]? = some x := ⟨_, Qo hi⟩
  have hlt : (i : Int) < b.strips.length := by omega
  have hm := Qw hx
  have hc : Qdl (b.strips.take i) s ≤ i := Nat.le_trans Z4 (by simp; omega)
  simp only [eBolt, gA54, gA57, hx, eStrip, hlt, Qar hx, Qdl, Xc, Z5, Q5, Q7, Qag, Qa7, Qbf, Qa8, Qad, Qbe, Qa9, Qa4, Qba, Qae, Qaj, Qa5, Qa2, Fam.step, Qaf, runX, eff, Qb9, fpR, fpQ, fpV, Qbp, hits, evO, opv, qv, binV, ldV, iadV, lenV, Qaw, Qaa, Qa6, flat, kp, Qa3, Qa0, Qa1, ↓reduceIte, Nat.reduceEqDiff, Nat.reduceAdd, Nat.reduceLT, Nat.reduceLeDiff, Qb, Qc, Q0, Qd, Qf, Qi, Ql, Qg, Qp, Qq, Qj, Zc, Qr, Ze, Za, Zf, vw_i, Qu, Qe, Qt, Qv, Zl, Qh, Zo, Zm, Qa, decide_true, true_and, and_true, and_self, implies_true, Q3, Zq, Zd, Q4, Qk, Qy, Qn, Qs, Zi, eStrip, eBolt]
  have h1 := hb x hm
  have h2 : tame 1000000 x.long ∧ tame 1000000 s := by unfold tame at *; omega
  have h3 : inI ((i : Int) + 1) := by unfold inI; omega
  unfold Qdl at hc
  refine ⟨h2, fun h => ?_, fun h => ?_⟩
  ·have h4 : inI (((b.strips.take i).countP (Qer s) : Int) + 1) := by unfold inI; omega
   have h5 : Qer s x = true := by simpa [Qer] using h
   exact ⟨h4, h3, by simp [h5]⟩
  ·have h5 : Qer s x = false := by simpa [Qer] using h
   exact ⟨h3, by simp [h5]⟩
 ·simp only [eBolt, Zg, Qa7, Qa8, Qad, Qam, Qai, Qa4, Qae, Qaj, Qa5, Qa2, Fam.step, Qaf, evO, opv, qv, binV, ldV, lenV, Qa3, Qa0, Qa1, ↓reduceIte, Nat.reduceEqDiff, Nat.reduceAdd, Nat.reduceLeDiff, Qb, Qc, Qd, Qf, Qi, Ql, Qg, endQ, rvs, rv1, resV, vw_i, Q8, Qe, Qa, decide_false, and_self, Qk, eBolt]
def r73 : List V → Prop × V | [.ag [.i a, .i b], .i m] => (True, .b (Qcn ⟨a, b⟩ m)) | _ => (False, .u)
theorem h73 (vs : List V) (h : (r73 vs).1) : Qab Try.prog 109 vs (r73 vs).2 := by
 unfold r73 at h ⊢; split at h <;> first | exact P73 ⟨_, _⟩ _ | exact h.elim
theorem h58 (vs : List V) (h : (r73 vs).1) : Qab Try.prog 89 vs (r73 vs).2 := by
 unfold r73 at h ⊢; split at h <;> first | exact P58 ⟨_, _⟩ _ | exact h.elim
def eBI (a : Bolt × Int) : List V := [.ag (eBolt a.1), .i a.2]
def dBI : List V → Bolt × Int | [.ag cs, .i n] => (Qnr cs, n) | _ => (⟨⟨0, 0⟩, [], 0⟩, 0)
theorem Qv5 (a : Bolt × Int) : dBI (eBI a) = a := by simp [dBI, eBI, Qeq]
def ok66 (l : List Strip) (s : Int) : Prop := tame 1000 s ∧ (∀ x ∈ l, tame 10000 x.long) ∧ l.length < 1000
def r66 : List V → Prop × V := fnG eBI dBI (fun a => ok66 a.1.strips a.2) (fun a => (Qdl a.1.strips a.2 : Int)) .i
def GB : Gam := ((GA.ext 109 r73).ext 89 r73).ext 93 r66
theorem okB : GOk Try.prog GB :=
 ((okA.ext (fun a w => Try.call109 a w) h73).ext (fun a w => Try.call89 a w) h58).ext (fun a w => Try.call93 a w) (Qau fun a h => P66 a.1 a.2 h.1 h.2.1 h.2.2)
theorem gB54 (n lo hi : Int) : GB 88 [.i n, .i lo, .i hi] = (True, .b (Qak n lo hi)) := rfl
theorem gB67 (n lo hi : Int) : GB 102 [.i n, .i lo, .i hi] = (True, .b (Qak n lo hi)) := rfl
theorem gB73 (a b m : Int) : GB 109 [.ag [.i a, .i b], .i m] = (True, .b (Qcn ⟨a, b⟩ m)) := rfl
theorem gB58 (a b m : Int) : GB 89 [.ag [.i a, .i b], .i m] = (True, .b (Qcn ⟨a, b⟩ m)) := rfl
theorem gB66 (a b : Int) (l : List Strip) (w s : Int) : GB 93 [.ag [.i a, .i b, .sl 3 (l.map eStrip), .i w], .i s] = (ok66 l s, .i (Qdl l s)) :=
 (show GB 93 _ = r66 (eBI (⟨⟨a, b⟩, l, w⟩, s)) from rfl).trans (Qb1 _ (Qv5 _))
end Go.C02
set_option linter.unusedSimpArgs false
set_option linter.unusedVariables false
namespace Go.C02
open Go.Fam Go.Proofs
def can (b : Bolt) (s : Int) : Bool := Qak s b.stretch.low b.stretch.high && decide ((Qdl b.strips s : Int) ≤ b.wrong)
theorem P49 (b : Bolt) (s : Int) (h : ok66 b.strips s) : Qab Try.prog 69 [.ag (eBolt b), .i s] (.b (can b s)) := by
 refine Qac okB hmix Try.func69 cb69 cc69 cs69 cn69 ?_
 simp only [rc69, rs69, eBolt, gB54, gB66, h, Qa7, Qbf, Qa8, Qai, Qa4, Qba, Qae, Qa5, Qa2, Fam.step, Qaf, Qbz, Qbq, ug, runX, eff, Qb9, fpR, fpQ, fpV, Qbp, hits, evO, opv, qv, Qb2, binV, ldV, Qaw, V.cells, Qas, Qaa, Qa6, flat, Qa3, Qa0, Qa1, ↓reduceIte, Nat.reduceEqDiff, Nat.reduceAdd, Nat.reduceLT, Nat.reduceLeDiff, Qb, Qc, Q1, Q0, Qd, Qf, Qi, Ql, Qm, Qx, Qg, Qp, Qq, Qj, Zc, Ze, Za, Zf, endQ, rvs, rv1, resV, vw_i, vw_b, Qay, Qaz, zipA, Qe, V.b.injEq, Qt, Qv, Zl, Qh, Zo, Zm, Qa, true_and, and_true, and_self, implies_true, reduceCtorEq, Zq, Zd, beq_true, Qff, Q2, imp_self, Qn, eBolt]
 rfl
def Qef (x : Strip) : Bool := Qak x.long 1 2000 && Qcn x.pulled 4000
theorem P80 (s : Strip) : Qab Try.prog 116 [.ag (eStrip s)] (.b (Qef s)) := by
 refine Qac okB hmix Try.func116 cb116 cc116 cs116 cn116 ?_
 simp only [rc116, rs116, eStrip, gB67, gB73, Qa7, Qa8, Qai, Qa4, Qae, Qa5, Qa2, Fam.step, Qaf, Qbz, Qbq, ug, evO, opv, qv, Qb2, ldV, Qaw, V.cells, Qas, Qaa, Qa6, flat, Qa3, Qa0, Qa1, ↓reduceIte, Nat.reduceEqDiff, Nat.reduceAdd, Nat.reduceLT, Nat.reduceLeDiff, Qb, Qc, Q1, Q0, Qd, Qf, Qi, Ql, Qm, Qx, Qg, Qj, endQ, rvs, rv1, resV, vw_i, vw_b, Qaz, zipA, Qe, V.b.injEq, Qt, Qv, Qh, Qa, true_and, and_true, and_self, implies_true, beq_true, Qff, Q2, imp_self, Qi9, eStrip]
 rfl
def Qds (b : Bolt) : Bool := Qcn b.stretch 60 && decide (b.strips.length ≤ 8) && Qak b.wrong 0 2 && b.strips.all Qef
theorem P59 (b : Bolt) : Qab Try.prog 90 [.ag (eBolt b)] (.b (Qds b)) := by
 refine Qac okB hmix Try.func90 cb90 cc90 cs90 cn90 ?_
 simp only [rc90, rs90, gB54, gB58, Qag, Qa7, Qa8, Qad, Qbe, Qa9, Qai, Qa4, Qae, Qa5, Qa2, Fam.step, Qaf, Qbz, Qbq, ug, evO, opv, qv, Qb2, binV, ldV, lenV, Qaw, V.cells, Qas, Qaa, Qa6, flat, Qa3, Qa0, Qa1, ↓reduceIte, Nat.reduceEqDiff, Nat.reduceAdd, Nat.reduceLT, Nat.reduceLeDiff, Qb, Qc, Q1, Q0, Qd, Qf, Qi, Ql, Qm, Zb, Qg, Qj, endQ, rvs, rv1, resV, vw_i, vw_b, Qay, Qaz, zipA, Qe, V.b.injEq, Qt, Qv, Qh, Qa, true_and, and_true, and_self, implies_true, beq_false, Zw, Zn, Q4, Qf1, Q2, Zh, imp_self, Qk, Q9, Qi9, eBolt]
 refine ⟨fun h => ?_, fun h => ?_⟩
 ·unfold Qds
  cases h1 : Qcn b.stretch 60 <;> cases h2 : Qak b.wrong 0 2 <;> simp [h1, h2] at h ⊢
  intro h3; omega
 ·have hb : Qcn b.stretch 60 = true ∧ b.strips.length ≤ 8 ∧ Qak b.wrong 0 2 = true := by
   cases h1 : Qcn b.stretch 60 <;> cases h2 : Qak b.wrong 0 2 <;> simp [h1, h2] at h ⊢
   omega
  refine Qb8 b.strips.length (fun i => ⟨lkp [(1, .pa (eBolt b)), (3, .i i)], []⟩) (fun i => (b.strips.take i).all Qef = true) ?_ ?_ ?_ ?_
  ·simp only [Q6, kp, Qa0, Qa1, ↓reduceIte, Nat.reduceEqDiff, Qb, Qc, eBolt]
  ·rfl
  ·intro i hi hc
   obtain ⟨x, hx⟩ : ∃ x, b.strips[i]? = some x := ⟨_, Qo hi⟩
   have hlt : (i : Int) < b.strips.length := by omega
   have h3 : inI ((i : Int) + 1) := by unfold inI; omega
   simp only [gB54, gB58, hx, hlt, Q5, Q7, Qdn hx, hc, h3, Qag, Qa7, Qa8, Qad, Qbe, Qa9, Qai, Qa4, Qae, Qaj, Qa5, Qa2, Fam.step, Qaf, Qbz, Qbq, ug, evO, opv, qv, Qb2, binV, ldV, iadV, lenV, Qaw, Qaa, Qa6, flat, kp, Qa3, Qa0, Qa1, ↓reduceIte, Nat.reduceEqDiff, Nat.reduceAdd, Nat.reduceLT, Nat.reduceLeDiff, Qb, Qc, Q1, Q0, Qd, Qf, Qi, Ql, Qm, Qx, Qg, Qj, Qr, endQ, rvs, rv1, resV, vw_i, vw_b, Qaz, Qu, Qe, V.b.injEq, Qt, Qv, Zs, Qh, Qa, decide_true, true_and, and_true, and_self, implies_true, Q3, beq_false, Zw, Zn, Q4, Qf1, Zh, imp_self, Qk, Qy, Qn, Qs, Q9, Qi9, eStrip, eBolt]
   refine ⟨fun h => ?_, fun h => ?_⟩
   ·have h5 : Qef x = false := by cases h1 : Qak x.long 1 2000 <;> cases h2 : Qcn x.pulled 4000 <;> simp [Qef, h1, h2] at h ⊢
    simp [Qds, Qfm hx h5]
   ·unfold Qef
    cases h1 : Qak x.long 1 2000 <;> cases h2 : Qcn x.pulled 4000 <;> simp [h1, h2] at h ⊢
  ·intro hc
   rw [Zg] at hc
   simp only [Qa7, Qa8, Qad, Qam, Qai, Qa4, Qae, Qaj, Qa5, Qa2, Fam.step, Qaf, evO, opv, qv, binV, ldV, lenV, Qa3, Qa0, Qa1, ↓reduceIte, Nat.reduceEqDiff, Nat.reduceAdd, Nat.reduceLeDiff, Qb, Qc, Qd, Qf, Qi, Ql, Qg, endQ, rvs, rv1, resV, vw_b, Q8, Qe, V.b.injEq, Qa, decide_false, true_and, and_self, Qk, eBolt]
   simp [Qds, hb, hc]
def dB : List V → Bolt | [.ag cs] => Qnr cs | _ => ⟨⟨0, 0⟩, [], 0⟩
def r49 : List V → Prop × V := fnG eBI dBI (fun a => ok66 a.1.strips a.2) (fun a => can a.1 a.2) .b
def r59 : List V → Prop × V := fnG (fun b => [.ag (eBolt b)]) dB (fun _ => True) Qds .b
def r80 : List V → Prop × V | [.ag [.i a, .i b, .i c]] => (True, .b (Qef ⟨a, ⟨b, c⟩⟩)) | _ => (False, .u)
theorem h80 (vs : List V) (h : (r80 vs).1) : Qab Try.prog 116 vs (r80 vs).2 := by
 unfold r80 at h ⊢; split at h <;> first | exact P80 ⟨_, ⟨_, _⟩⟩ | exact h.elim
def GC : Gam := ((GB.ext 69 r49).ext 90 r59).ext 116 r80
theorem okC : GOk Try.prog GC :=
 ((okB.ext (fun a w => Try.call69 a w) (Qau fun a h => P49 a.1 a.2 h)).ext (fun a w => Try.call90 a w) (Qau fun a _ => P59 a)).ext (fun a w => Try.call116 a w) h80
theorem gC54 (n lo hi : Int) : GC 88 [.i n, .i lo, .i hi] = (True, .b (Qak n lo hi)) := rfl
theorem gC67 (n lo hi : Int) : GC 102 [.i n, .i lo, .i hi] = (True, .b (Qak n lo hi)) := rfl
theorem gC69 (l s : Int) : GC 117 [.i l, .i s] = (tame 1000000 l ∧ tame 1000000 s, .i (pull l s)) := rfl
theorem gC73 (a b m : Int) : GC 109 [.ag [.i a, .i b], .i m] = (True, .b (Qcn ⟨a, b⟩ m)) := rfl
theorem gC58 (a b m : Int) : GC 89 [.ag [.i a, .i b], .i m] = (True, .b (Qcn ⟨a, b⟩ m)) := rfl
theorem gC59 (a b : Int) (l : List Strip) (w : Int) : GC 90 [.ag [.i a, .i b, .sl 3 (l.map eStrip), .i w]] = (True, .b (Qds ⟨⟨a, b⟩, l, w⟩)) :=
 (show GC 90 _ = r59 [.ag (eBolt ⟨⟨a, b⟩, l, w⟩)] from rfl).trans (Qb1 (e := fun b => [.ag (eBolt b)]) (⟨⟨a, b⟩, l, w⟩ : Bolt) (Qeq _))
end Go.C02
set_option linter.unusedSimpArgs false
set_option linter.unusedVariables false
namespace Go.C02
open Go.Fam Go.Proofs
def Qio (d : Dome) : Bool := Qak d.bolts.length 1 4 && Qak d.gores.length 3 16 && Qak d.loss 0 20 && Qak d.rounds.length 1 12 && decide (d.widths.length = d.rounds.length) && Qak d.slope 0 500
def Qin (d : Dome) (g : Int) : Bool := Qak g 0 (d.bolts.length - 1)
def Qfj (s : Span) : Bool := Qcn s 40000
def Qfk (d : Dome) (n : Int) : Bool := Qak n (2 * d.loss) 2000
def Qeh (d : Dome) : Bool := Qio d && d.gores.all (Qin d) && d.rounds.all Qfj && d.widths.all (Qfk d)
def Qcl (d : Dome) : Int := if Qeh d then (if d.bolts.all Qds then 0 else 21) else 20
theorem P39 (d : Dome) : Qab Try.prog 58 [.ag (Qal d)] (.i (Qcl d)) := by
 refine Qac okC hmix Try.func58 cb58 cc58 cs58 cn58 ?_
 simp only [rc58, rs58, gC54, Qag, Qa7, Qa8, Qad, Qbe, Qa9, Qai, Qa4, Qae, Qa5, Qa2, Fam.step, Qaf, Qbz, Qbq, ug, evO, opv, qv, Qb2, binV, ldV, lenV, Qaw, V.cells, Qas, Qaa, Qa6, flat, Qa3, Qa0, Qa1, ↓reduceIte, Nat.reduceEqDiff, Nat.reduceAdd, Nat.reduceLT, Nat.reduceLeDiff, Qb, Qc, Q1, Q0, Qd, Qf, Qi, Ql, Qg, Qj, endQ, rvs, rv1, resV, vw_i, Qay, Qaz, zipA, Qe, V.i.injEq, Qt, Qv, Qh, Qa, true_and, and_true, and_self, implies_true, beq_false, Zw, Zn, Q4, Qf1, Q2, Zh, imp_self, Qk, Q9, Qal]
 refine ⟨fun h => ?_, fun h => ?_⟩
 ·have h1 : Qio d = false := by
   unfold Qio
   cases h1 : Qak (↑d.bolts.length) 1 4 <;> cases h2 : Qak (↑d.gores.length) 3 16 <;> cases h3 : Qak d.loss 0 20 <;> cases h4 : Qak (↑d.rounds.length) 1 12 <;> cases h5 : Qak d.slope 0 500 <;>
    simp [h1, h2, h3, h4, h5] at h ⊢
   omega
  simp [Qcl, Qeh, h1]
 have hh : Qio d = true := by
  unfold Qio
  cases h1 : Qak (↑d.bolts.length) 1 4 <;> cases h2 : Qak (↑d.gores.length) 3 16 <;> cases h3 : Qak d.loss 0 20 <;> cases h4 : Qak (↑d.rounds.length) 1 12 <;> cases h5 : Qak d.slope 0 500 <;>
   simp [h1, h2, h3, h4, h5] at h ⊢
  omega
 have hs : d.bolts.length ≤ 4 ∧ d.gores.length ≤ 16 ∧ (0 ≤ d.loss ∧ d.loss ≤ 20) ∧ d.rounds.length ≤ 12 ∧ d.widths.length = d.rounds.length := by
  simp [Qio, Qak] at hh
  omega
 have hin : inI (2 * d.loss) := by unfold inI; omega
 have hin2 : inI ((d.bolts.length : Int) - 1) := by unfold inI; omega
 refine Qb8 d.gores.length (fun i => ⟨lkp [(1, .pa (Qal d)), (3, .i i)], []⟩) (fun i => (d.gores.take i).all (Qin d) = true) ?_ ?_ ?_ ?_
 ·simp only [Q6, kp, Qa0, Qa1, ↓reduceIte, Nat.reduceEqDiff, Qb, Qc, Qal]
 ·rfl
 ·intro i hi hc
  obtain ⟨x, hx⟩ : ∃ x, d.gores[i]? = some x := ⟨_, Qo hi⟩
  have hlt : (i : Int) < d.gores.length := by omega
  have h3 : inI ((i : Int) + 1) := by unfold inI; omega
  simp only [gC54, hx, hlt, Q5, Q7, Qdn hx, hc, h3, hin2, Qag, Qa7, Qbf, Qa8, Qad, Qbe, Qa9, Qai, Qa4, Qba, Qae, Qaj, Qa5, Qa2, Fam.step, Qaf, runX, eff, Qb9, fpR, fpQ, fpV, Qbp, hits, evO, opv, qv, binV, ldV, iadV, lenV, Qaw, Qaa, Qa6, flat, kp, Qa3, Qa0, Qa1, ↓reduceIte, Nat.reduceEqDiff, Nat.reduceAdd, Nat.reduceLT, Nat.reduceLeDiff, Qb, Qc, Q0, Qd, Qf, Qi, Ql, Qg, Qp, Qq, Qj, Zc, Qr, Ze, Za, Zf, endQ, rvs, rv1, resV, vw_i, Qu, Qe, V.i.injEq, Qt, Qv, Zs, Zl, Qh, Zo, Zm, Qa, decide_true, true_and, and_true, and_self, implies_true, Q3, Zq, Zd, Q4, Qk, Qy, Qn, Qs, Zi, Qal, eI]
  refine ⟨fun h => ?_, fun h => ?_⟩
  ·have h5 : Qin d x = false := h
   simp [Qcl, Qeh, Qfm hx h5]
  ·exact h
 intro hc1
 rw [Zg] at hc1
 simp only [Qa7, Qa8, Qad, Qa9, Qam, Qa4, Qae, Qaj, Qa5, Qa2, Fam.step, Qaf, evO, opv, qv, binV, ldV, lenV, Qa3, Qa0, Qa1, ↓reduceIte, Nat.reduceEqDiff, Nat.reduceAdd, Nat.reduceLeDiff, Qb, Qc, Qd, Qf, Qi, Ql, Qg, Q8, Qe, Qa, decide_false, true_and, Qk, Qal]
 refine Qb8 d.rounds.length (fun i => ⟨lkp [(1, .pa (Qal d)), (4, .i i)], []⟩) (fun i => (d.rounds.take i).all Qfj = true ∧ (d.widths.take i).all (Qfk d) = true) ?_ ?_ ?_ ?_
 ·simp only [Q6, kp, Qa0, Qa1, ↓reduceIte, Nat.reduceEqDiff, Qb, Qc, Qal]
 ·exact ⟨rfl, rfl⟩
 ·intro i hi hc
  obtain ⟨x, hx⟩ : ∃ x, d.rounds[i]? = some x := ⟨_, Qo hi⟩
  obtain ⟨y, hy⟩ : ∃ y, d.widths[i]? = some y := ⟨_, Qo (by omega)⟩
  have hlt : (i : Int) < d.rounds.length := by omega
  have hlt' : (i : Int) < d.widths.length := by omega
  have h3 : inI ((i : Int) + 1) := by unfold inI; omega
  simp only [gC54, gC58, hx, hy, hlt, hlt', Q5, Q7, Qdn hx, Qdn hy, hc.1, hc.2, h3, hin, Qag, Qa7, Qbf, Qa8, Qad, Qbe, Qa9, Qai, Qa4, Qba, Qae, Qaj, Qa5, Qa2, Fam.step, Qaf, Qbz, Qbq, ug, runX, eff, Qb9, fpR, fpQ, fpV, Qbp, hits, evO, opv, qv, Qb2, binV, ldV, iadV, lenV, Qaw, Qaa, Qa6, flat, kp, Qa3, Qa0, Qa1, ↓reduceIte, Nat.reduceEqDiff, Nat.reduceAdd, Nat.reduceLT, Nat.reduceLeDiff, Qb, Qc, Q1, Q0, Qd, Qf, Qi, Ql, Qm, Qx, Qg, Qp, Qq, Qj, Zc, Qr, Ze, Za, Zf, endQ, rvs, rv1, resV, vw_i, Qaz, Qu, Qe, V.i.injEq, Qt, Qv, Zs, Zl, Qh, Zo, Zm, Qa, decide_true, true_and, and_true, and_self, implies_true, Q3, Zq, Zd, beq_false, Zw, Zn, Q4, Qf1, Zh, imp_self, Qk, Qy, Qn, Qs, Q9, Qi9, eSpan, Qal, eI]
  refine ⟨fun h => ?_, fun h => ?_⟩
  ·by_cases h5 : Qcn x 40000 = true
   ·have h6 : Qfk d y = false := by simpa [h5, Qfk] using h
    simp [Qcl, Qeh, Qfm hy h6]
   ·have h6 : Qfj x = false := by simpa [Qfj] using h5
    simp [Qcl, Qeh, Qfm hx h6]
  ·have h7 : Qcn x 40000 = true ∧ Qak y (2 * d.loss) 2000 = true := by
    cases h1 : Qcn x 40000 <;> cases h2 : Qak y (2 * d.loss) 2000 <;> simp [h1, h2] at h ⊢
   exact ⟨h7.1, h7.2⟩
 intro hc2
 rw [Zg, ← hs.2.2.2.2, Zg] at hc2
 simp only [Qa7, Qa8, Qad, Qa9, Qam, Qa4, Qae, Qaj, Qa5, Qa2, Fam.step, Qaf, evO, opv, qv, binV, ldV, lenV, Qa3, Qa0, Qa1, ↓reduceIte, Nat.reduceEqDiff, Nat.reduceAdd, Nat.reduceLeDiff, Qb, Qc, Qd, Qf, Qi, Ql, Qg, Q8, Qe, Qa, decide_false, true_and, Qk, Qal]
 refine Qb8 d.bolts.length (fun i => ⟨lkp [(1, .pa (Qal d)), (5, .i i)], []⟩) (fun i => (d.bolts.take i).all Qds = true) ?_ ?_ ?_ ?_
 ·simp only [Q6, kp, Qa0, Qa1, ↓reduceIte, Nat.reduceEqDiff, Qb, Qc, Qal]
 ·rfl
 ·intro i hi hc
  obtain ⟨x, hx⟩ : ∃ x, d.bolts[i]? = some x := ⟨_, Qo hi⟩
  have hlt : (i : Int) < d.bolts.length := by omega
  have h3 : inI ((i : Int) + 1) := by unfold inI; omega
  simp only [gC59, hx, hlt, Q5, Q7, Qdn hx, hc, h3, Qag, Qa7, Qa8, Qad, Qbe, Qa9, Qai, Qa4, Qae, Qaj, Qa5, Qa2, Fam.step, Qaf, evO, opv, qv, binV, ldV, iadV, lenV, Qaw, Qaa, Qa6, flat, kp, Qa3, Qa0, Qa1, ↓reduceIte, Nat.reduceEqDiff, Nat.reduceAdd, Nat.reduceLT, Nat.reduceLeDiff, Qb, Qc, Qd, Qf, Ql, Qm, Qx, Qg, Qj, Qr, endQ, rvs, rv1, resV, vw_i, Qay, Qaz, Qu, Qe, V.i.injEq, Zs, Qh, Qa, decide_true, true_and, and_true, and_self, implies_true, Q3, Q4, imp_self, Qk, Qy, Qn, Qs, Zi, Qi9, Qnp, eBolt, Qal]
  intro h
  simp [Qcl, Qeh, hh, hc1, hc2, Qfm hx h]
 intro hc3
 rw [Zg] at hc3
 simp only [Qa7, Qa8, Qad, Qam, Qai, Qa4, Qae, Qaj, Qa5, Qa2, Fam.step, Qaf, evO, opv, qv, binV, ldV, lenV, Qa3, Qa0, Qa1, ↓reduceIte, Nat.reduceEqDiff, Nat.reduceAdd, Nat.reduceLeDiff, Qb, Qc, Qd, Qf, Ql, Qg, endQ, rvs, rv1, resV, vw_i, Q8, Qe, V.i.injEq, Qa, decide_false, true_and, and_self, Qk, Qal]
 simp [Qcl, Qeh, hh, hc1, hc2, hc3]
end Go.C02
set_option linter.unusedSimpArgs false
set_option linter.unusedVariables false
namespace Go.C02
open Go.Fam Go.Proofs
def dD : List V → Dome | [.ag cs] => Qjh cs | _ => ⟨[], [], 0, [], [], 0⟩
def r39 : List V → Prop × V := fnG (fun d => [.ag (Qal d)]) dD (fun _ => True) Qcl .i
theorem P46 (d : Dome) (n : Int) (h : d.rounds.length < 1000) : Qab Try.prog 97 [.ag (Qal d), .i n] (.b (Qak n 0 (d.rounds.length - 1))) := by
 refine Qac okC hmix Try.func97 cb97 cc97 cs97 cn97 ?_
 simp only [rc97, rs97, gC67, Qa7, Qa8, Qai, Qa4, Qae, Qa5, Qa2, Fam.step, Qaf, evO, opv, qv, binV, ldV, lenV, Qaw, V.cells, Qas, Qaa, Qa6, flat, Qa3, Qa0, Qa1, ↓reduceIte, Nat.reduceEqDiff, Nat.reduceAdd, Nat.reduceLT, Nat.reduceLeDiff, Qb, Qc, Qd, Qf, Qi, Ql, Qg, Qj, endQ, rvs, rv1, resV, vw_i, vw_b, Qay, Qaz, zipA, Qe, Qh, Qa, true_and, and_true, and_self, implies_true, reduceCtorEq, Qk, Qal]
 unfold inI; omega
theorem P56 (d : Dome) (n : Int) (h : d.bolts.length < 1000) : Qab Try.prog 103 [.ag (Qal d), .i n] (.b (Qak n 0 (d.bolts.length - 1))) := by
 refine Qac okC hmix Try.func103 cb103 cc103 cs103 cn103 ?_
 simp only [rc103, rs103, gC67, Qa7, Qa8, Qai, Qa4, Qae, Qa5, Qa2, Fam.step, Qaf, evO, opv, qv, binV, ldV, lenV, Qaw, V.cells, Qas, Qaa, Qa6, flat, Qa3, Qa0, Qa1, ↓reduceIte, Nat.reduceEqDiff, Nat.reduceAdd, Nat.reduceLT, Nat.reduceLeDiff, Qb, Qc, Qd, Qf, Ql, Qg, Qj, endQ, rvs, rv1, resV, vw_i, vw_b, Qay, Qaz, zipA, Qe, Qh, Qa, true_and, and_true, and_self, implies_true, reduceCtorEq, Qk, Qal]
 unfold inI; omega
theorem Qqo {l s : Int} (hl : tame 1000000 l) (hs : tame 1000000 s) : tame 1001000000000 (pull l s) := by
 have h1 : tame 1001000 (1000 + s) := by unfold tame at *; omega
 have h2 := Qt7 hl h1 (by decide) (by decide)
 unfold pull
 unfold tame at *
 generalize l * (1000 + s) = x at *
 constructor
 ·by_cases h : 0 ≤ x
  ·rw [Qz h]; omega
  ·have e : x = -(-x) := by omega
   rw [e, Z2, Qz (by omega)]; omega
 ·by_cases h : 0 ≤ x
  ·rw [Qz h]; omega
  ·have e : x = -(-x) := by omega
   rw [e, Z2, Qz (by omega)]; omega
theorem Qtq {M : Int} (hM : 0 ≤ M) : ∀ (l : List Int), (∀ x ∈ l, tame M x) → tame (M * l.length) l.sum
 | [], _ => by simp [tame]
 | x :: l, h => by
  have h1 := h x (by simp)
  have h2 := Qtq hM l fun y hy => h y (by simp [hy])
  have h3 : M * ((x :: l).length : Int) = M * l.length + M := by rw [Qd, Q5, Int.mul_add]; simp
  rw [h3, List.sum_cons]
  unfold tame at *
  omega
def Qj8 (l : List Int) (f : Int → Int) : Int := (l.map f).sum
theorem Quk {l : List Int} {f : Int → Int} {i : Nat} {x : Int} (h : l[i]? = some x) : Qj8 (l.take (i + 1)) f = Qj8 (l.take i) f + f x := by
 simp [Qj8, Qar h]
theorem Qtp {l : List Int} {f : Int → Int} (i : Nat) (hl : l.length ≤ 100000) (hf : ∀ x ∈ l, tame 1001000000000 (f x)) : tame 100100000000000000 (Qj8 (l.take i) f) := by
 have := Qtq (M := 1001000000000) (by decide) ((l.take i).map f) (fun y hy => by
  obtain ⟨x, hx, rfl⟩ := List.mem_map.1 hy
  exact hf x (List.mem_of_mem_take hx))
 have h2 : ((l.take i).map f).length ≤ l.length := by simp; omega
 unfold Qj8
 unfold tame at *
 omega
theorem P61 (b : Bolt) (s : Int) (h : ok66 b.strips s) : Qab Try.prog 100 [.ag (eBolt b), .i s] (.i (Qdl b.strips s)) := by
 refine Qac okC hmix Try.func100 cb100 cc100 cs100 cn100 ?_
 obtain ⟨hs, hb, hl⟩ := h
 simp only [rc100, rs100, Qa7, Qa8, Qa9, Qa4, Qae, Qa5, Qa2, Fam.step, Qaf, evO, opv, qv, ldV, lenV, V.cells, Qas, Qaa, Qa6, Qa3, Qa0, Qa1, ↓reduceIte, Nat.reduceEqDiff, Nat.reduceAdd, Nat.reduceLeDiff, Qb, Qc, Qd, Qf, Qi, Ql, Qg, vw_i, Qay, Qaz, zipA, Qe, Qh, Qa, true_and, and_self, reduceCtorEq, Qk, eBolt]
 refine Qbg b.strips.length (fun i => ⟨lkp [(1, .i s), (4, .i (Qdl (b.strips.take i) s)), (8, .sl 3 (b.strips.map eStrip)), (9, .i b.strips.length), (10, .i i)], []⟩) ?_ ?_ ?_
 ·simp only [Qdl, Xh, Q6, cutH, kp, cutV, Qa0, Qa1, ↓reduceIte, Nat.reduceEqDiff, Qb, Qc, Zb, Qx]
 ·intro i hi
  obtain ⟨x, hx⟩ : ∃ x, b.strips[i]? = some x := ⟨_, Qo hi⟩
  have hlt : (i : Int) < b.strips.length := by omega
  have hm := Qw hx
  have hc : Qdl (b.strips.take i) s ≤ i := Nat.le_trans Z4 (by simp; omega)
  simp only [gC67, gC69, hx, hlt, Qar hx, Qdl, Xc, Z5, Q5, Q7, Qag, Qa7, Qbf, Qa8, Qad, Qbe, Qa9, Qa4, Qc5, ↓Qbl, Qba, cutH, putB, Qae, Qaj, Qa5, Qa2, Fam.step, Qaf, Qbi, Qb4, runX, eff, Qb9, fpR, fpQ, fpV, Qbp, hits, putB, nv, sv, evO, opv, qv, binV, ldV, iadV, curG, Qaw, putAt, V.cells, Qas, Qb3, Qaa, Qa6, flat, kp, cutV, Qa3, Qat, Qa0, Qa1, ↓reduceIte, Nat.reduceEqDiff, Nat.reduceAdd, Nat.reduceLT, Nat.reduceLeDiff, Qb, Qc, Q1, Q0, Qd, Qf, Qi, Ql, Zx, Qm, Zb, Qx, Qg, Qp, Qq, Qj, Zj, Zc, Qr, Ze, Zr, Za, Zf, vw_i, Qu, beq_self_eq_true, Qe, Z3, Qt, Qv, Zl, Qh, Zo, Zm, Qa, decide_true, true_and, and_true, and_self, implies_true, Q3, Zq, Zv, Zd, Q4, Qk, Qy, Qn, Qs, Zi, eStrip]
  have h1 := hb x hm
  have h2 : tame 1000000 x.long ∧ tame 1000000 s := by unfold tame at *; omega
  have h3 : inI ((i : Int) + 1) := by unfold inI; omega
  unfold Qdl at hc
  refine ⟨h2, fun h => ?_, fun h => ?_⟩
  ·have h4 : inI (((b.strips.take i).countP (Qer s) : Int) + 1) := by unfold inI; omega
   have h5 : Qer s x = true := by simpa [Qer] using h
   exact ⟨h4, h3, by simp [h5]⟩
  ·have h5 : Qer s x = false := by simpa [Qer] using h
   exact ⟨h3, by simp [h5]⟩
 ·simp only [Zg, Qa7, Qa8, Qad, Qam, Qai, Qa4, Qae, Qaj, Qa5, Qa2, Fam.step, Qaf, evO, opv, qv, binV, Qa3, Qa0, Qa1, ↓reduceIte, Nat.reduceEqDiff, Qb, Qc, endQ, rvs, rv1, resV, vw_i, Q8, Qa, decide_false, and_self]
def Qrn (t : Tent) (g : Int) : Int := ((t.can[g.toNat]?).getD []).headD 0
def Qlb (t : Tent) (g : Int) : Int := ((t.can[g.toNat]?).getD []).getLastD 0
def Qe6 (t : Tent) (w : Int) : Span := ⟨Qj8 t.dome.gores fun g => pull (w - 2 * t.dome.loss) (Qrn t g), Qj8 t.dome.gores fun g => pull (w - 2 * t.dome.loss) (Qlb t g)⟩
def ok50 (t : Tent) (w : Int) : Prop := tame 100000 w ∧ tame 100000 t.dome.loss ∧ (∀ g ∈ t.dome.gores, 0 ≤ g ∧ g < t.can.length) ∧ (∀ l ∈ t.can, l ≠ [] ∧ l.length < 100000 ∧ ∀ s ∈ l, tame 100000 s) ∧ t.dome.gores.length < 100000
theorem P50 (t : Tent) (w : Int) (h : ok50 t w) : Qab Try.prog 98 [.pa (Qbk t), .i w] (.ag (eSpan (Qe6 t w))) := by
 refine Qac okC hmix Try.func98 cb98 cc98 cs98 cn98 ?_
 obtain ⟨h1, h2, h3, h4, h5⟩ := h
 simp only [rc98, rs98, Qa7, Qa8, Qa9, Qa4, Qae, Qa5, Qa2, Fam.step, Qaf, Qbi, Qb4, nv, evO, opv, qv, ldV, lenV, Qa3, Qa0, Qa1, ↓reduceIte, Nat.reduceEqDiff, Nat.reduceAdd, Nat.reduceLeDiff, Qb, Qc, Qd, Qf, Qi, Ql, Qg, Qp, Qq, zipA, Qe, Qa, true_and, and_self, reduceCtorEq, Qk, eSpan, Qal, Qbk]
 have i1 : inI (2 * t.dome.loss) := by unfold inI tame at *; omega
 have i2 : inI (w - 2 * t.dome.loss) := by unfold inI tame at *; omega
 have i3 : tame 1000000 (w - 2 * t.dome.loss) := by unfold tame at *; omega
 have hget : ∀ g ∈ t.dome.gores, ∃ x l', t.can[g.toNat]? = some (x :: l') ∧ (∀ s ∈ x :: l', tame 100000 s) ∧ (x :: l').length < 100000 := by
  intro g hg
  obtain ⟨h6, h7⟩ := h3 g hg
  obtain ⟨y, hy⟩ : ∃ y, t.can[g.toNat]? = some y := ⟨_, Qo (by omega)⟩
  obtain ⟨a1, a2, a3⟩ := h4 y (Qw hy)
  cases y with
  | nil => exact absurd rfl a1
  | cons x l' => exact ⟨x, l', hy, a3, a2⟩
 have hlast : ∀ (x : Int) (l' : List Int), (x :: l')[l'.length]? = some ((x :: l').getLastD 0) := by
  intro x l'
  have := List.getLast?_eq_getElem? (l := x :: l')
  simp only [Qd, Nat.add_sub_cancel] at this
  rw [← this, List.getLastD_eq_getLast?, List.getLast?_cons]
  rfl
 have hf1 : ∀ g ∈ t.dome.gores, tame 1001000000000 (pull (w - 2 * t.dome.loss) (Qrn t g)) := by
  intro g hg
  obtain ⟨x, l', e, a, _⟩ := hget g hg
  refine Qqo i3 ?_
  have := a x (by simp)
  simp only [Qrn, e, Qr, Qg]
  unfold tame at *; omega
 have hf2 : ∀ g ∈ t.dome.gores, tame 1001000000000 (pull (w - 2 * t.dome.loss) (Qlb t g)) := by
  intro g hg
  obtain ⟨x, l', e, a, _⟩ := hget g hg
  refine Qqo i3 ?_
  have := a ((x :: l').getLastD 0) (Qw (hlast x l'))
  simp only [Qlb, e, Qr]
  unfold tame at *; omega
 refine Qbg t.dome.gores.length (fun i => ⟨lkp [(0, .pa (Qbk t)), (1, .i w), (4, .ad 0 0 0), (12, .sl 1 (t.dome.gores.map eI)), (13, .i t.dome.gores.length), (14, .i i)],
  [.cells 0 [.i (Qj8 (t.dome.gores.take i) fun g => pull (w - 2 * t.dome.loss) (Qrn t g)), .i (Qj8 (t.dome.gores.take i) fun g => pull (w - 2 * t.dome.loss) (Qlb t g))]]⟩) ?_ ?_ ?_
 ·simp only [Q6, kp, Qa0, Qa1, ↓reduceIte, Nat.reduceEqDiff, Qb, Qc, Zb, Qp, Qq, reduceCtorEq, Qal, Qbk]
  rfl
 ·intro i hi
  obtain ⟨g, hg⟩ : ∃ g, t.dome.gores[i]? = some g := ⟨_, Qo hi⟩
  have hm := Qw hg
  obtain ⟨h6, h7⟩ := h3 g hm
  obtain ⟨x, l', hy, hc, hlen⟩ := hget g hm
  have hl := hlast x l'
  have hlt : (i : Int) < t.dome.gores.length := by omega
  have i4 : inI ((i : Int) + 1) := by unfold inI; omega
  have e1 : Qrn t g = x := by simp [Qrn, hy]
  have e2 : Qlb t g = (x :: l').getLastD 0 := by simp only [Qlb, hy, Qr]
  have i5 : tame 1000000 x := by have := hc x (by simp); unfold tame at *; omega
  have i6 : tame 1000000 ((x :: l').getLastD 0) := by have := hc _ (Qw hl); unfold tame at *; omega
  have j1 := Qtp i (by omega) hf1
  have j2 := Qtp i (by omega) hf2
  have j3 := hf1 g hm
  have j4 := hf2 g hm
  generalize hL : (x :: l').getLastD 0 = z at *
  have hl' : ([V.i x] :: l'.map eI)[l'.length]? = some [V.i z] := by
   have : ((x :: l').map eI)[l'.length]? = some (eI z) := by rw [Qs, hl]; rfl
   exact this
  have k3 : inI (l'.length : Int) := by simp at hlen; unfold inI; omega
  have k4 : (0 : Int) < l'.length + 1 := by omega
  have k5 : (l'.length : Int) < l'.length + 1 := by omega
  have k1 : inI ((Qj8 (t.dome.gores.take i) fun g => pull (w - 2 * t.dome.loss) (Qrn t g)) + pull (w - 2 * t.dome.loss) x) := by rw [e1] at j3; unfold inI tame at *; omega
  have k2 : inI ((Qj8 (t.dome.gores.take i) fun g => pull (w - 2 * t.dome.loss) (Qlb t g)) + pull (w - 2 * t.dome.loss) z) := by rw [e2] at j4; unfold inI tame at *; omega
  simp only [gC69, hg, hlt, Q5, Q7, Quk hg, hy, h6, h7, i1, i2, i3, i4, i5, i6, k1, k2, k3, k4, k5, hl', e1, e2, Qag, Qa7, Qbf, Qa8, Qad, Qa9, Qa4, Qba, optL, Qae, Qaj, Qa5, Qa2, Fam.step, Qaf, Qb4, runX, eff, Qb9, fpR, fpQ, fpV, Qbp, hits, nv, sv, evO, opv, qv, binV, ldV, iadV, lenV, curG, Qaw, putAt, V.cells, Qas, Qb3, Qaa, Qa6, flat, kp, Qa3, Qat, Qa0, Qa1, ↓reduceIte, Nat.reduceEqDiff, Nat.reduceAdd, Nat.reduceLT, Nat.reduceLeDiff, Zz, Z7, Int.reduceLE, Qb, Qc, Q1, Q0, Qd, Qf, Qi, Ql, Zx, Qm, Zb, Qg, Qp, Qq, Qj, Zj, Zc, Qr, Ze, Zr, Za, Zf, Z0, vw_i, Qu, beq_self_eq_true, Qe, Z3, Qt, Qv, Zs, Zl, Qh, Zt, Zo, Zm, Qa, decide_true, and_self, implies_true, reduceCtorEq, Q3, Xb, Zq, Zv, Zd, Qk, Qy, Qn, Qs, Qal, eI, eCan, Qbk]
 ·simp only [Zg, Qe6, Qa7, Qa8, Qad, Qam, Qai, Qa4, putB, Qae, Qaj, Qa5, Qa2, Fam.step, Qaf, Qbi, Qb4, putB, nv, sv, evO, opv, qv, binV, ldV, putAt, V.cells, Qas, Qb3, Qa3, Qat, Qa0, Qa1, ↓reduceIte, Nat.reduceEqDiff, Nat.reduceAdd, Nat.reduceLeDiff, Qb, Qc, Q1, Q0, Qd, Qf, Qi, Ql, Zx, Qm, Zb, Qx, Qp, Qq, Qj, Zj, Zr, endQ, rvs, rv1, resV, vw_i, Qaz, Q8, Qe, Qt, Qa, decide_false, and_self, reduceCtorEq, Qal, Qbk]
end Go.C02
set_option linter.unusedSimpArgs false
set_option linter.unusedVariables false
namespace Go.C02
open Go.Fam Go.Proofs
variable {Γ : Gam}
def idxOf {α : Type} (p : α → Bool) (l : List α) : Int := if l.any p then (l.findIdx p : Int) else -1
theorem Qkm {α : Type} {p : α → Bool} {l : List α} {i : Nat} {x : α} (hx : l[i]? = some x) (e : p x = true) (hc : ∀ j x, j < i → l[j]? = some x → p x = false) : idxOf p l = i := by
 have h1 : l.any p = true := List.any_eq_true.2 ⟨x, Qw hx, e⟩
 have hl := Qav hx
 have h2 : l[i] = x := by have := Qo hl; rw [this] at hx; exact Xf.inj hx
 have h3 : l.findIdx p = i := (List.findIdx_eq hl).2 ⟨by rw [h2]; exact e, fun j hj => hc j _ hj (Qo (by omega))⟩
 simp [idxOf, h1, h3]
theorem Qh9 {α : Type} {p : α → Bool} {l : List α} (h : ∀ x ∈ l, p x = false) : idxOf p l = -1 := by
 have : l.any p = false := by simpa using h
 simp [idxOf, this]
theorem Qir {α : Type} (p : α → Bool) (l : List α) : decide (0 ≤ idxOf p l) = l.any p := by
 unfold idxOf
 cases h : l.any p <;> simp
theorem P87 (hG : GOk Try.prog Γ) (x : Strip) (f : Nat) (hf : f < 1000000) (caps : List V) (b : Bool) (hv : caps.map (vw [] 8) = caps) (hr : Qa6 caps = false) (h : Γ f (V.ag (eStrip x) :: caps) = (True, .b b)) :
  Qab Try.prog 126 [V.ag (eStrip x), .pa [.fn f caps]] (.b (!b)) := by
 refine Qac hG hmix Try.func126 cb126 cc126 cs126 cn126 ?_
 simp only [rc126, rs126, Qa7, Qa8, Qai, Qa4, Qae, Qa5, Qa2, Fam.step, Qaf, evO, opv, qv, ldV, Qaw, V.cells, Qas, Qaa, Qa6, Qa3, Qa0, Qa1, ↓reduceIte, Nat.reduceEqDiff, Nat.reduceAdd, Nat.reduceLeDiff, Qb, Qc, Qd, Qf, Qm, Qx, Qg, Qp, Qq, endQ, rvs, rv1, resV, vw_i, Qaz, zipA, Qe, Qh, Zt, Qa, true_and, and_self, reduceCtorEq, eStrip]
 try simp only [eStrip] at h
 simp only [h, hv, hr, hf, flat, vw_b, Qa, and_self, implies_true]
theorem P90 (hG : GOk Try.prog Γ) (l : List Strip) (f : Nat) (hf : f < 1000000) (caps : List V) (p : Strip → Bool) (hv : caps.map (vw [] 8) = caps) (hr : Qa6 caps = false) (hl : l.length < 10000000)
  (h : ∀ x ∈ l, Γ f (V.ag (eStrip x) :: caps) = (True, .b (p x))) : Qab Try.prog 129 [.sl 3 (l.map eStrip), .fn f caps] (.i (idxOf p l)) := by
 refine Qac hG hmix Try.func129 cb129 cc129 cs129 cn129 ?_
 simp only [rc129, rs129, Qa7, Qa8, Qa9, Qa4, Qae, Qa5, Qa2, Fam.step, Qaf, evO, opv, qv, lenV, Qa3, Qa0, Qa1, ↓reduceIte, Nat.reduceEqDiff, Int.reduceNeg, Qb, Qc, zipA, Qe, true_and, reduceCtorEq, Qk]
 refine Qb8 l.length (fun i => ⟨lkp [(0, .sl 3 (l.map eStrip)), (1, .fn f caps), (7, .i l.length), (8, .i i)], []⟩) (fun i => ∀ j x, j < i → l[j]? = some x → p x = false) ?_ ?_ ?_ ?_
 ·simp only [Q6, kp, Qa0, Qa1, ↓reduceIte, Nat.reduceEqDiff, Qb, Qc, reduceCtorEq]
 ·intro j x h; omega
 ·intro i hi hc
  obtain ⟨x, hx⟩ : ∃ x, l[i]? = some x := ⟨_, Qo hi⟩
  have hlt : (i : Int) < l.length := by omega
  have h3 : inI ((i : Int) + 1) := by unfold inI; omega
  have hp := h x (Qw hx)
  try simp only [eStrip] at hp
  simp only [hx, hlt, Q5, Q7, h3, hp, hv, hr, hf, Qag, Qa7, Qa8, Qad, Qbe, Qa9, Qai, Qa4, Qae, Qaj, Qa5, Qa2, Fam.step, Qaf, evO, opv, qv, binV, ldV, iadV, Qaw, Qaa, Qa6, flat, kp, Qa3, Qa0, Qa1, ↓reduceIte, Nat.reduceEqDiff, Nat.reduceAdd, Nat.reduceLeDiff, Int.reduceNeg, Qb, Qc, Qd, Qf, Qm, Qx, Qp, Qq, Qr, endQ, rvs, rv1, resV, vw_i, Qaz, Qu, Qe, V.i.injEq, Qh, Qa, decide_true, true_and, and_true, and_self, implies_true, reduceCtorEq, Q3, Qk, Qy, Qn, Qs, Q9, eStrip]
  refine ⟨fun e => ?_, fun e => ?_⟩
  ·rw [Qkm hx e hc]
  ·intro j y hj hy
   by_cases hji : j < i
   ·exact hc j y hji hy
   ·have : j = i := by omega
    subst this
    rw [hx] at hy; cases hy; exact e
 ·intro hc
  simp only [Qa7, Qa8, Qad, Qam, Qai, Qa4, Qae, Qaj, Qa5, Qa2, Fam.step, Qaf, evO, opv, qv, binV, Qa3, Qa0, Qa1, ↓reduceIte, Nat.reduceEqDiff, Int.reduceNeg, Qb, Qc, endQ, rvs, rv1, resV, vw_i, Q8, V.i.injEq, Qa, decide_false, true_and, and_self, reduceCtorEq]
  exact (Qh9 fun x hx => by
   obtain ⟨j, hj⟩ := Zu hx
   exact hc j x (by have := Qav hj; exact this) hj).symm
theorem P86 (hG : GOk Try.prog Γ) (l : List Strip) (f : Nat) (caps : List V) (p : Strip → Bool) (hv : caps.map (vw [] 7) = caps) (hr : Qa6 caps = false)
  (h : Γ 129 [.sl 3 (l.map eStrip), .fn f caps] = (True, .i (idxOf p l))) : Qab Try.prog 125 [.sl 3 (l.map eStrip), .fn f caps] (.b (l.any p)) := by
 refine Qac hG hmix Try.func125 cb125 cc125 cs125 cn125 ?_
 simp only [rc125, rs125, hv, hr, h, Qa7, Qa8, Qai, Qa4, Qae, Qa5, Qa2, Fam.step, Qaf, evO, opv, qv, binV, Qaw, Qaa, Qa6, flat, Qa3, Qa0, Qa1, ↓reduceIte, Nat.reduceEqDiff, Nat.reduceLT, Qb, Qc, Qj, endQ, rvs, rv1, resV, vw_b, Qay, Qjb, zipA, Qe, V.b.injEq, Qh, Qa, true_and, and_self, implies_true, reduceCtorEq]
 rw [Qir]
theorem P79 (hG : GOk Try.prog Γ) (l : List Strip) (f : Nat) (caps : List V) (p : Strip → Bool) (hv : caps.map (vw [] 7) = caps) (hr : Qa6 caps = false)
  (h : Γ 125 [.sl 3 (l.map eStrip), .fn 126 [.pa [.fn f caps]]] = (True, .b (l.any fun x => !p x))) : Qab Try.prog 115 [.sl 3 (l.map eStrip), .fn f caps] (.b (l.all p)) := by
 refine Qac hG hmix Try.func115 cb115 cc115 cs115 cn115 ?_
 simp only [rc115, rs115, hv, hr, h, Qa7, Qa8, Qai, Qa4, Qae, Qa5, Qa2, Fam.step, Qaf, evO, opv, qv, Qaw, V.cells, Qas, Qaa, Qa6, flat, Qa3, Qa0, Qa1, ↓reduceIte, Nat.reduceEqDiff, Nat.reduceLT, Qb, Qc, Qj, endQ, rvs, rv1, resV, vw_b, Qay, Qda, Qjb, zipA, Qe, V.b.injEq, Qh, Qa, true_and, and_self, implies_true, reduceCtorEq]
 simp [Zp]
theorem P78 (hG : GOk Try.prog Γ) (x : Bolt) (f : Nat) (hf : f < 1000000) (caps : List V) (b : Bool) (hv : caps.map (vw [] 8) = caps) (hr : Qa6 caps = false) (h : Γ f (V.ag (eBolt x) :: caps) = (True, .b b)) :
  Qab Try.prog 114 [V.ag (eBolt x), .pa [.fn f caps]] (.b (!b)) := by
 refine Qac hG hmix Try.func114 cb114 cc114 cs114 cn114 ?_
 simp only [rc114, rs114, Qa7, Qa8, Qai, Qa4, Qae, Qa5, Qa2, Fam.step, Qaf, evO, opv, qv, ldV, Qaw, V.cells, Qas, Qaa, Qa6, Qa3, Qa0, Qa1, ↓reduceIte, Nat.reduceEqDiff, Nat.reduceAdd, Nat.reduceLeDiff, Qb, Qc, Qd, Qf, Qm, Qx, Qg, Qp, Qq, endQ, rvs, rv1, resV, vw_i, Qay, Qaz, zipA, Qe, Qh, Zt, Qa, true_and, and_self, reduceCtorEq, eBolt]
 try simp only [eBolt] at h
 simp only [h, hv, hr, hf, flat, vw_b, Qa, and_self, implies_true]
theorem P85 (hG : GOk Try.prog Γ) (l : List Bolt) (f : Nat) (hf : f < 1000000) (caps : List V) (p : Bolt → Bool) (hv : caps.map (vw [] 8) = caps) (hr : Qa6 caps = false) (hl : l.length < 10000000)
  (h : ∀ x ∈ l, Γ f (V.ag (eBolt x) :: caps) = (True, .b (p x))) : Qab Try.prog 124 [.sl 4 (l.map eBolt), .fn f caps] (.i (idxOf p l)) := by
 refine Qac hG hmix Try.func124 cb124 cc124 cs124 cn124 ?_
 simp only [rc124, rs124, Qa7, Qa8, Qa9, Qa4, Qae, Qa5, Qa2, Fam.step, Qaf, evO, opv, qv, lenV, Qa3, Qa0, Qa1, ↓reduceIte, Nat.reduceEqDiff, Int.reduceNeg, Qb, Qc, zipA, Qe, true_and, reduceCtorEq, Qk]
 refine Qb8 l.length (fun i => ⟨lkp [(0, .sl 4 (l.map eBolt)), (1, .fn f caps), (7, .i l.length), (8, .i i)], []⟩) (fun i => ∀ j x, j < i → l[j]? = some x → p x = false) ?_ ?_ ?_ ?_
 ·simp only [Q6, kp, Qa0, Qa1, ↓reduceIte, Nat.reduceEqDiff, Qb, Qc, reduceCtorEq]
 ·intro j x h; omega
 ·intro i hi hc
  obtain ⟨x, hx⟩ : ∃ x, l[i]? = some x := ⟨_, Qo hi⟩
  have hlt : (i : Int) < l.length := by omega
  have h3 : inI ((i : Int) + 1) := by unfold inI; omega
  have hp := h x (Qw hx)
  try simp only [eBolt] at hp
  simp only [hx, hlt, Q5, Q7, h3, hp, hv, hr, hf, Qag, Qa7, Qa8, Qad, Qbe, Qa9, Qai, Qa4, Qae, Qaj, Qa5, Qa2, Fam.step, Qaf, evO, opv, qv, binV, ldV, iadV, Qaw, Qaa, Qa6, flat, kp, Qa3, Qa0, Qa1, ↓reduceIte, Nat.reduceEqDiff, Nat.reduceAdd, Nat.reduceLeDiff, Int.reduceNeg, Qb, Qc, Qd, Qf, Qm, Qx, Qp, Qq, Qr, endQ, rvs, rv1, resV, vw_i, Qay, Qaz, Qu, Qe, V.i.injEq, Qh, Qa, decide_true, true_and, and_true, and_self, implies_true, reduceCtorEq, Q3, Qk, Qy, Qn, Qs, Q9, eBolt]
  refine ⟨fun e => ?_, fun e => ?_⟩
  ·rw [Qkm hx e hc]
  ·intro j y hj hy
   by_cases hji : j < i
   ·exact hc j y hji hy
   ·have : j = i := by omega
    subst this
    rw [hx] at hy; cases hy; exact e
 ·intro hc
  simp only [Qa7, Qa8, Qad, Qam, Qai, Qa4, Qae, Qaj, Qa5, Qa2, Fam.step, Qaf, evO, opv, qv, binV, Qa3, Qa0, Qa1, ↓reduceIte, Nat.reduceEqDiff, Int.reduceNeg, Qb, Qc, endQ, rvs, rv1, resV, vw_i, Q8, V.i.injEq, Qa, decide_false, true_and, and_self, reduceCtorEq]
  exact (Qh9 fun x hx => by
   obtain ⟨j, hj⟩ := Zu hx
   exact hc j x (by have := Qav hj; exact this) hj).symm
theorem P77 (hG : GOk Try.prog Γ) (l : List Bolt) (f : Nat) (caps : List V) (p : Bolt → Bool) (hv : caps.map (vw [] 7) = caps) (hr : Qa6 caps = false)
  (h : Γ 124 [.sl 4 (l.map eBolt), .fn f caps] = (True, .i (idxOf p l))) : Qab Try.prog 113 [.sl 4 (l.map eBolt), .fn f caps] (.b (l.any p)) := by
 refine Qac hG hmix Try.func113 cb113 cc113 cs113 cn113 ?_
 simp only [rc113, rs113, hv, hr, h, Qa7, Qa8, Qai, Qa4, Qae, Qa5, Qa2, Fam.step, Qaf, evO, opv, qv, binV, Qaw, Qaa, Qa6, flat, Qa3, Qa0, Qa1, ↓reduceIte, Nat.reduceEqDiff, Nat.reduceLT, Qb, Qc, Qj, endQ, rvs, rv1, resV, vw_b, Qay, Qjb, zipA, Qe, V.b.injEq, Qh, Qa, true_and, and_self, implies_true, reduceCtorEq]
 rw [Qir]
theorem P63 (hG : GOk Try.prog Γ) (l : List Bolt) (f : Nat) (caps : List V) (p : Bolt → Bool) (hv : caps.map (vw [] 7) = caps) (hr : Qa6 caps = false)
  (h : Γ 113 [.sl 4 (l.map eBolt), .fn 114 [.pa [.fn f caps]]] = (True, .b (l.any fun x => !p x))) : Qab Try.prog 95 [.sl 4 (l.map eBolt), .fn f caps] (.b (l.all p)) := by
 refine Qac hG hmix Try.func95 cb95 cc95 cs95 cn95 ?_
 simp only [rc95, rs95, hv, hr, h, Qa7, Qa8, Qai, Qa4, Qae, Qa5, Qa2, Fam.step, Qaf, evO, opv, qv, Qaw, V.cells, Qas, Qaa, Qa6, flat, Qa3, Qa0, Qa1, ↓reduceIte, Nat.reduceEqDiff, Nat.reduceLT, Qb, Qc, Qj, endQ, rvs, rv1, resV, vw_b, Qay, Qda, Qjb, zipA, Qe, V.b.injEq, Qh, Qa, true_and, and_self, implies_true, reduceCtorEq]
 simp [Zp]
theorem P84 (hG : GOk Try.prog Γ) (x : Span) (f : Nat) (hf : f < 1000000) (caps : List V) (b : Bool) (hv : caps.map (vw [] 8) = caps) (hr : Qa6 caps = false) (h : Γ f (V.ag (eSpan x) :: caps) = (True, .b b)) :
  Qab Try.prog 123 [V.ag (eSpan x), .pa [.fn f caps]] (.b (!b)) := by
 refine Qac hG hmix Try.func123 cb123 cc123 cs123 cn123 ?_
 simp only [rc123, rs123, Qa7, Qa8, Qai, Qa4, Qae, Qa5, Qa2, Fam.step, Qaf, evO, opv, qv, ldV, Qaw, V.cells, Qas, Qaa, Qa6, Qa3, Qa0, Qa1, ↓reduceIte, Nat.reduceEqDiff, Nat.reduceAdd, Nat.reduceLeDiff, Qb, Qc, Qd, Qf, Qm, Qx, Qg, Qp, Qq, endQ, rvs, rv1, resV, vw_i, Qaz, zipA, Qe, Qh, Zt, Qa, true_and, and_self, reduceCtorEq, eSpan]
 try simp only [eSpan] at h
 simp only [h, hv, hr, hf, flat, vw_b, Qa, and_self, implies_true]
theorem P89 (hG : GOk Try.prog Γ) (l : List Span) (f : Nat) (hf : f < 1000000) (caps : List V) (p : Span → Bool) (hv : caps.map (vw [] 8) = caps) (hr : Qa6 caps = false) (hl : l.length < 10000000)
  (h : ∀ x ∈ l, Γ f (V.ag (eSpan x) :: caps) = (True, .b (p x))) : Qab Try.prog 128 [.sl 2 (l.map eSpan), .fn f caps] (.i (idxOf p l)) := by
 refine Qac hG hmix Try.func128 cb128 cc128 cs128 cn128 ?_
 simp only [rc128, rs128, Qa7, Qa8, Qa9, Qa4, Qae, Qa5, Qa2, Fam.step, Qaf, evO, opv, qv, lenV, Qa3, Qa0, Qa1, ↓reduceIte, Nat.reduceEqDiff, Int.reduceNeg, Qb, Qc, zipA, Qe, true_and, reduceCtorEq, Qk]
 refine Qb8 l.length (fun i => ⟨lkp [(0, .sl 2 (l.map eSpan)), (1, .fn f caps), (7, .i l.length), (8, .i i)], []⟩) (fun i => ∀ j x, j < i → l[j]? = some x → p x = false) ?_ ?_ ?_ ?_
 ·simp only [Q6, kp, Qa0, Qa1, ↓reduceIte, Nat.reduceEqDiff, Qb, Qc, reduceCtorEq]
 ·intro j x h; omega
 ·intro i hi hc
  obtain ⟨x, hx⟩ : ∃ x, l[i]? = some x := ⟨_, Qo hi⟩
  have hlt : (i : Int) < l.length := by omega
  have h3 : inI ((i : Int) + 1) := by unfold inI; omega
  have hp := h x (Qw hx)
  try simp only [eSpan] at hp
  simp only [hx, hlt, Q5, Q7, h3, hp, hv, hr, hf, Qag, Qa7, Qa8, Qad, Qbe, Qa9, Qai, Qa4, Qae, Qaj, Qa5, Qa2, Fam.step, Qaf, evO, opv, qv, binV, ldV, iadV, Qaw, Qaa, Qa6, flat, kp, Qa3, Qa0, Qa1, ↓reduceIte, Nat.reduceEqDiff, Nat.reduceAdd, Nat.reduceLeDiff, Int.reduceNeg, Qb, Qc, Qd, Qf, Qm, Qx, Qp, Qq, Qr, endQ, rvs, rv1, resV, vw_i, Qaz, Qu, Qe, V.i.injEq, Qh, Qa, decide_true, true_and, and_true, and_self, implies_true, reduceCtorEq, Q3, Qk, Qy, Qn, Qs, Q9, eSpan]
  refine ⟨fun e => ?_, fun e => ?_⟩
  ·rw [Qkm hx e hc]
  ·intro j y hj hy
   by_cases hji : j < i
   ·exact hc j y hji hy
   ·have : j = i := by omega
    subst this
    rw [hx] at hy; cases hy; exact e
 ·intro hc
  simp only [Qa7, Qa8, Qad, Qam, Qai, Qa4, Qae, Qaj, Qa5, Qa2, Fam.step, Qaf, evO, opv, qv, binV, Qa3, Qa0, Qa1, ↓reduceIte, Nat.reduceEqDiff, Int.reduceNeg, Qb, Qc, endQ, rvs, rv1, resV, vw_i, Q8, V.i.injEq, Qa, decide_false, true_and, and_self, reduceCtorEq]
  exact (Qh9 fun x hx => by
   obtain ⟨j, hj⟩ := Zu hx
   exact hc j x (by have := Qav hj; exact this) hj).symm
theorem P83 (hG : GOk Try.prog Γ) (l : List Span) (f : Nat) (caps : List V) (p : Span → Bool) (hv : caps.map (vw [] 7) = caps) (hr : Qa6 caps = false)
  (h : Γ 128 [.sl 2 (l.map eSpan), .fn f caps] = (True, .i (idxOf p l))) : Qab Try.prog 122 [.sl 2 (l.map eSpan), .fn f caps] (.b (l.any p)) := by
 refine Qac hG hmix Try.func122 cb122 cc122 cs122 cn122 ?_
 simp only [rc122, rs122, hv, hr, h, Qa7, Qa8, Qai, Qa4, Qae, Qa5, Qa2, Fam.step, Qaf, evO, opv, qv, binV, Qaw, Qaa, Qa6, flat, Qa3, Qa0, Qa1, ↓reduceIte, Nat.reduceEqDiff, Nat.reduceLT, Qb, Qc, Qj, endQ, rvs, rv1, resV, vw_b, Qay, Qjb, zipA, Qe, V.b.injEq, Qh, Qa, true_and, and_self, implies_true, reduceCtorEq]
 rw [Qir]
theorem P76 (hG : GOk Try.prog Γ) (l : List Span) (f : Nat) (caps : List V) (p : Span → Bool) (hv : caps.map (vw [] 7) = caps) (hr : Qa6 caps = false)
  (h : Γ 122 [.sl 2 (l.map eSpan), .fn 123 [.pa [.fn f caps]]] = (True, .b (l.any fun x => !p x))) : Qab Try.prog 112 [.sl 2 (l.map eSpan), .fn f caps] (.b (l.all p)) := by
 refine Qac hG hmix Try.func112 cb112 cc112 cs112 cn112 ?_
 simp only [rc112, rs112, hv, hr, h, Qa7, Qa8, Qai, Qa4, Qae, Qa5, Qa2, Fam.step, Qaf, evO, opv, qv, Qaw, V.cells, Qas, Qaa, Qa6, flat, Qa3, Qa0, Qa1, ↓reduceIte, Nat.reduceEqDiff, Nat.reduceLT, Qb, Qc, Qj, endQ, rvs, rv1, resV, vw_b, Qay, Qda, Qjb, zipA, Qe, V.b.injEq, Qh, Qa, true_and, and_self, implies_true, reduceCtorEq]
 simp [Zp]
theorem P82 (hG : GOk Try.prog Γ) (x : Int) (f : Nat) (hf : f < 1000000) (caps : List V) (b : Bool) (hv : caps.map (vw [] 8) = caps) (hr : Qa6 caps = false) (h : Γ f (V.i x :: caps) = (True, .b b)) :
  Qab Try.prog 121 [V.i x, .pa [.fn f caps]] (.b (!b)) := by
 refine Qac hG hmix Try.func121 cb121 cc121 cs121 cn121 ?_
 simp only [rc121, rs121, Qa7, Qa8, Qai, Qa4, Qae, Qa5, Qa2, Fam.step, Qaf, evO, opv, qv, ldV, Qaw, Qaa, Qa6, Qa3, Qa0, Qa1, ↓reduceIte, Nat.reduceEqDiff, Nat.reduceLeDiff, Qb, Qc, Qd, Qf, Qg, Qp, Qq, endQ, rvs, rv1, resV, vw_i, zipA, Qe, Zt, Qa, true_and, and_self, reduceCtorEq]
 try simp only [Qag, Qa7, Qbf, Qa8, Qad, Qbe, Qa9, Qam, Qai, Qa4, Qc5, Qgh, Qm4, Qm5, Qk8, Qxd, Qnf, Qcv, ↓Qbl, ↓Qgz, rnQ, rndQ, updL, Qs0, yres, Qs1, ghO, Qmk, ocV, effO, nidQ, plO, plQ, plB, Qox, Qgf, Qoy, Qle, Qba, optL, upTo, rids, Qem, Qjk, Qi2, Qkd, Xi, Xk, Qf2, Qj2, Qgg, shV, shL, shB, Qho, Qmc, swH, sw, renV, renL, renB, cutH, putB, lkpV, keyL, entV, Qwl, keyV, Qch, endO, endK, endI, Qae, Qaj, Qa5, Qa2, Qzn, Fam.step, Qaf, Qbi, Qbz, Qb4, Qbq, ug, runX, Zc6, eff, Qb9, fpR, fpQ, fpV, Qbp, hits, putB, nv, sv, Qce, evO, opv, qv, Qb2, Qrv, Qru, binV, ldV, iadV, lenV, curG, slcV, Qq3, Qaw, Qap, putAt, Qb7, Qb6, V.cells, Qas, Qb3, Qdc, Qaa, Qa6, flat, Qcy, kp, cutV, cutL, cutB, Qa3, Qat, Qa0, Qa1, ↓reduceIte, Nat.reduceEqDiff, Nat.reduceAdd, Nat.reduceSub, Nat.reduceMul, Nat.reduceLT, Nat.reduceLeDiff, Nat.reduceBEq, Int.reduceNeg, Int.reduceToNat, Zz, Z7, Int.reduceLT, Int.reduceLE, Int.reduceAdd, Int.reduceSub, Int.reduceMul, Int.reduceEq, Qb, Qc, Q1, Q0, Qd, Qf, Qi, Ql, Zx, Qm, Zb, Qx, Qg, Xl, Qp, Qq, Qj, Zj, Z1, Zc, Qr, Ze, Zr, Xd, List.set_nil, Za, Z8, Z9, Xa, Zf, Z0, endQ, rvs, rv1, resV, vw_i, vw_b, vw_u, Qul, vw_z, Qay, Qda, Qaz, Qcg, Qjb, Qjx, Qdw, zipA, Q8, Qu, beq_self_eq_true, Qe, Z3, Xf.injEq, V.i.injEq, V.b.injEq, Qt, Qv, Zs, Zl, Xm, Qh, Zt, Bool.or_true, Bool.true_or, Zo, Zm, Qa, Xe, decide_true, decide_false, decide_eq_true_eq, decide_eq_false_iff_not, true_and, and_true, and_self, false_and, and_false, forall_const, false_implies, true_implies, implies_true, reduceCtorEq, ite_true, ite_false, not_true_eq_false, not_false_eq_true, ne_eq, Q3, Xj, Xb, Zq, Zv, Zd, beq_true, beq_false, Zw, Zn, Q4, Qff, Qf1, Q2, Zh, Bool.xor_self, imp_self, Qk, Qy, Qn, Qs, Q9, Zi, Classical.not_not, Z6, Qi9, Qnp, Qzo, Qfd, Qzc, eSpan, eStrip, eBolt, Qal, eI, eIs, eCan, Qbk] at h
 simp only [h, hv, hr, hf, flat, vw_b, Qa, and_self, implies_true]
theorem P88 (hG : GOk Try.prog Γ) (l : List Int) (f : Nat) (hf : f < 1000000) (caps : List V) (p : Int → Bool) (hv : caps.map (vw [] 8) = caps) (hr : Qa6 caps = false) (hl : l.length < 10000000)
  (h : ∀ x ∈ l, Γ f (V.i x :: caps) = (True, .b (p x))) : Qab Try.prog 127 [.sl 1 (l.map eI), .fn f caps] (.i (idxOf p l)) := by
 refine Qac hG hmix Try.func127 cb127 cc127 cs127 cn127 ?_
 simp only [rc127, rs127, Qa7, Qa8, Qa9, Qa4, Qae, Qa5, Qa2, Fam.step, Qaf, evO, opv, qv, lenV, Qa3, Qa0, Qa1, ↓reduceIte, Nat.reduceEqDiff, Int.reduceNeg, Qb, Qc, zipA, Qe, true_and, reduceCtorEq, Qk]
 refine Qb8 l.length (fun i => ⟨lkp [(0, .sl 1 (l.map eI)), (1, .fn f caps), (7, .i l.length), (8, .i i)], []⟩) (fun i => ∀ j x, j < i → l[j]? = some x → p x = false) ?_ ?_ ?_ ?_
 ·simp only [Q6, kp, Qa0, Qa1, ↓reduceIte, Nat.reduceEqDiff, Qb, Qc, reduceCtorEq]
 ·intro j x h; omega
 ·intro i hi hc
  obtain ⟨x, hx⟩ : ∃ x, l[i]? = some x := ⟨_, Qo hi⟩
  have hlt : (i : Int) < l.length := by omega
  have h3 : inI ((i : Int) + 1) := by unfold inI; omega
  have hp := h x (Qw hx)
  try simp only [Qag, Qa7, Qbf, Qa8, Qad, Qbe, Qa9, Qam, Qai, Qa4, Qc5, Qgh, Qm4, Qm5, Qk8, Qxd, Qnf, Qcv, ↓Qbl, ↓Qgz, rnQ, rndQ, updL, Qs0, yres, Qs1, ghO, Qmk, ocV, effO, nidQ, plO, plQ, plB, Qox, Qgf, Qoy, Qle, Qba, optL, upTo, rids, Qem, Qjk, Qi2, Qkd, Xi, Xk, Qf2, Qj2, Qgg, shV, shL, shB, Qho, Qmc, swH, sw, renV, renL, renB, cutH, putB, lkpV, keyL, entV, Qwl, keyV, Qch, endO, endK, endI, Qae, Qaj, Qa5, Qa2, Qzn, Fam.step, Qaf, Qbi, Qbz, Qb4, Qbq, ug, runX, Zc6, eff, Qb9, fpR, fpQ, fpV, Qbp, hits, putB, nv, sv, Qce, evO, opv, qv, Qb2, Qrv, Qru, binV, ldV, iadV, lenV, curG, slcV, Qq3, Qaw, Qap, putAt, Qb7, Qb6, V.cells, Qas, Qb3, Qdc, Qaa, Qa6, flat, Qcy, kp, cutV, cutL, cutB, Qa3, Qat, Qa0, Qa1, ↓reduceIte, Nat.reduceEqDiff, Nat.reduceAdd, Nat.reduceSub, Nat.reduceMul, Nat.reduceLT, Nat.reduceLeDiff, Nat.reduceBEq, Int.reduceNeg, Int.reduceToNat, Zz, Z7, Int.reduceLT, Int.reduceLE, Int.reduceAdd, Int.reduceSub, Int.reduceMul, Int.reduceEq, Qb, Qc, Q1, Q0, Qd, Qf, Qi, Ql, Zx, Qm, Zb, Qx, Qg, Xl, Qp, Qq, Qj, Zj, Z1, Zc, Qr, Ze, Zr, Xd, List.set_nil, Za, Z8, Z9, Xa, Zf, Z0, endQ, rvs, rv1, resV, vw_i, vw_b, vw_u, Qul, vw_z, Qay, Qda, Qaz, Qcg, Qjb, Qjx, Qdw, zipA, Q8, Qu, beq_self_eq_true, Qe, Z3, Xf.injEq, V.i.injEq, V.b.injEq, Qt, Qv, Zs, Zl, Xm, Qh, Zt, Bool.or_true, Bool.true_or, Zo, Zm, Qa, Xe, decide_true, decide_false, decide_eq_true_eq, decide_eq_false_iff_not, true_and, and_true, and_self, false_and, and_false, forall_const, false_implies, true_implies, implies_true, reduceCtorEq, ite_true, ite_false, not_true_eq_false, not_false_eq_true, ne_eq, Q3, Xj, Xb, Zq, Zv, Zd, beq_true, beq_false, Zw, Zn, Q4, Qff, Qf1, Q2, Zh, Bool.xor_self, imp_self, Qk, Qy, Qn, Qs, Q9, Zi, Classical.not_not, Z6, Qi9, Qnp, Qzo, Qfd, Qzc, eSpan, eStrip, eBolt, Qal, eI, eIs, eCan, Qbk] at hp
  simp only [hx, hlt, Q5, Q7, h3, hp, hv, hr, hf, Qag, Qa7, Qa8, Qad, Qbe, Qa9, Qai, Qa4, Qae, Qaj, Qa5, Qa2, Fam.step, Qaf, evO, opv, qv, binV, ldV, iadV, Qaw, Qaa, Qa6, flat, kp, Qa3, Qa0, Qa1, ↓reduceIte, Nat.reduceEqDiff, Nat.reduceLeDiff, Int.reduceNeg, Qb, Qc, Qd, Qf, Qg, Qp, Qq, Qr, endQ, rvs, rv1, resV, vw_i, Qu, Qe, V.i.injEq, Qh, Qa, decide_true, true_and, and_true, and_self, implies_true, reduceCtorEq, Q3, Qk, Qy, Qn, Qs, Q9, eI]
  refine ⟨fun e => ?_, fun e => ?_⟩
  ·rw [Qkm hx e hc]
  ·intro j y hj hy
   by_cases hji : j < i
   ·exact hc j y hji hy
   ·have : j = i := by omega
    subst this
    rw [hx] at hy; cases hy; exact e
 ·intro hc
  simp only [Qa7, Qa8, Qad, Qam, Qai, Qa4, Qae, Qaj, Qa5, Qa2, Fam.step, Qaf, evO, opv, qv, binV, Qa3, Qa0, Qa1, ↓reduceIte, Nat.reduceEqDiff, Int.reduceNeg, Qb, Qc, endQ, rvs, rv1, resV, vw_i, Q8, V.i.injEq, Qa, decide_false, true_and, and_self, reduceCtorEq]
  exact (Qh9 fun x hx => by
   obtain ⟨j, hj⟩ := Zu hx
   exact hc j x (by have := Qav hj; exact this) hj).symm
theorem P81 (hG : GOk Try.prog Γ) (l : List Int) (f : Nat) (caps : List V) (p : Int → Bool) (hv : caps.map (vw [] 7) = caps) (hr : Qa6 caps = false)
  (h : Γ 127 [.sl 1 (l.map eI), .fn f caps] = (True, .i (idxOf p l))) : Qab Try.prog 120 [.sl 1 (l.map eI), .fn f caps] (.b (l.any p)) := by
 refine Qac hG hmix Try.func120 cb120 cc120 cs120 cn120 ?_
 simp only [rc120, rs120, hv, hr, h, Qa7, Qa8, Qai, Qa4, Qae, Qa5, Qa2, Fam.step, Qaf, evO, opv, qv, binV, Qaw, Qaa, Qa6, flat, Qa3, Qa0, Qa1, ↓reduceIte, Nat.reduceEqDiff, Nat.reduceLT, Qb, Qc, Qj, endQ, rvs, rv1, resV, vw_b, Qay, Qjb, zipA, Qe, V.b.injEq, Qh, Qa, true_and, and_self, implies_true, reduceCtorEq]
 rw [Qir]
theorem P75 (hG : GOk Try.prog Γ) (l : List Int) (f : Nat) (caps : List V) (p : Int → Bool) (hv : caps.map (vw [] 7) = caps) (hr : Qa6 caps = false)
  (h : Γ 120 [.sl 1 (l.map eI), .fn 121 [.pa [.fn f caps]]] = (True, .b (l.any fun x => !p x))) : Qab Try.prog 111 [.sl 1 (l.map eI), .fn f caps] (.b (l.all p)) := by
 refine Qac hG hmix Try.func111 cb111 cc111 cs111 cn111 ?_
 simp only [rc111, rs111, hv, hr, h, Qa7, Qa8, Qai, Qa4, Qae, Qa5, Qa2, Fam.step, Qaf, evO, opv, qv, Qaw, V.cells, Qas, Qaa, Qa6, flat, Qa3, Qa0, Qa1, ↓reduceIte, Nat.reduceEqDiff, Nat.reduceLT, Qb, Qc, Qj, endQ, rvs, rv1, resV, vw_b, Qay, Qda, Qjb, zipA, Qe, V.b.injEq, Qh, Qa, true_and, and_self, implies_true, reduceCtorEq]
 simp [Zp]
end Go.C02
set_option linter.unusedSimpArgs false
set_option linter.unusedVariables false
namespace Go.C02
open Go.Fam Go.Proofs
variable {Γ : Gam}
def Qls (_ : Unit) : Prop := True
def Qi7 (_ : Unit) : Strip → Bool := Qef
def Qqi (_ : Unit) : Prop := True
def Qlu (_ : Unit) : Bolt → Bool := Qds
def Qqk (_ : Unit) : Prop := True
def Qlv (_ : Unit) : Span → Bool := Qfj
def Qyw (k : Dome × Bool) : Prop := if k.2 then k.1.bolts.length < 1000000 else inI (2 * k.1.loss)
def Qrw (k : Dome × Bool) : Int → Bool := if k.2 then Qin k.1 else Qfk k.1
def D0 : Dome := ⟨[], [], 0, [], [], 0⟩
def aC : V → List V | .ag cs => cs | _ => []
def pC : V → List V | .pa cs => cs | _ => []
def Qjg (k : Unit) : V := .fn 116 []
def Qnw : V → Unit := fun _ => ()
theorem Ql1 (k : Unit) : Qnw (Qjg k) = k := rfl
def Qie (k : Unit) : List V := []
theorem Qmp (k : Unit) (n : Nat) : (Qie k).map (vw [] (n + 1)) = Qie k := rfl
theorem Qmo (k : Unit) : Qa6 (Qie k) = false := rfl
def Qny (a : Strip × Unit) : List V := [.ag (eStrip a.1), .pa [Qjg a.2]]
def Qr9 : List V → Strip × Unit | [v, .pa [c]] => (Qpn (aC v), Qnw c) | _ => (⟨0, ⟨0, 0⟩⟩, ())
theorem Qv8 (a : Strip × Unit) : Qr9 (Qny a) = a := by obtain ⟨x, k⟩ := a; simp only [Qny, Qr9, Ql1]; simp [aC, Qki]
def Qji (a : List Strip × Unit) : List V := [.sl 3 (a.1.map eStrip), .fn 126 [.pa [Qjg a.2]]]
def Qnt : List V → List Strip × Unit | [.sl _ rows, .fn _ [.pa [c]]] => (rows.map Qpn, Qnw c) | _ => ([], ())
theorem Qpo (a : List Strip × Unit) : Qnt (Qji a) = a := by obtain ⟨x, k⟩ := a; simp only [Qji, Qnt, Ql1, Qeu Qki]
def Qnz (a : List Strip × Unit) : List V := [.sl 3 (a.1.map eStrip), Qjg a.2]
def Qra : List V → List Strip × Unit | [.sl _ rows, c] => (rows.map Qpn, Qnw c) | _ => ([], ())
theorem Qvd (a : List Strip × Unit) : Qra (Qnz a) = a := by obtain ⟨x, k⟩ := a; simp only [Qnz, Qra, Ql1, Qeu Qki]
def Qiy (a : List Strip × Unit) : Prop := a.1.length < 10000000 ∧ Qls a.2
def r87 : List V → Prop × V := fnG Qny Qr9 (fun a => Qls a.2) (fun a => !Qi7 a.2 a.1) .b
def r90 : List V → Prop × V := fnG Qji Qnt Qiy (fun a => idxOf (fun x => !Qi7 a.2 x) a.1) .i
def r86 : List V → Prop × V := fnG Qji Qnt Qiy (fun a => a.1.any fun x => !Qi7 a.2 x) .b
def r79 : List V → Prop × V := fnG Qnz Qra Qiy (fun a => a.1.all (Qi7 a.2)) .b
def Qf4 (Γ : Gam) : Gam := (((Γ.ext 126 r87).ext 129 r90).ext 125 r86).ext 115 r79
theorem Qrg (hG : GOk Try.prog Γ) (hb : ∀ (k : Unit) (x : Strip), Qls k → Γ 116 (V.ag (eStrip x) :: Qie k) = (True, .b (Qi7 k x))) : GOk Try.prog (Qf4 Γ) := by
 have g1 : GOk Try.prog (Γ.ext 126 r87) := hG.ext (fun a w => Try.call126 a w) (Qau fun a h => P87 hG a.1 _ (by decide) _ _ (Qmp a.2 7) (Qmo a.2) (hb a.2 a.1 h))
 have g2 : GOk Try.prog ((Γ.ext 126 r87).ext 129 r90) := g1.ext (fun a w => Try.call129 a w) (Qau fun a h => P90 g1 a.1 _ (by decide) _ _ rfl rfl h.1 fun x hx =>
  (show (Γ.ext 126 r87) 126 _ = r87 (Qny (x, a.2)) from rfl).trans ((Qb1 (x, a.2) (Qv8 _)).trans (by rw [eq_true h.2])))
 have g3 : GOk Try.prog (((Γ.ext 126 r87).ext 129 r90).ext 125 r86) := g2.ext (fun a w => Try.call125 a w) (Qau fun a h => P86 g2 a.1 _ _ _ rfl rfl
  ((show ((Γ.ext 126 r87).ext 129 r90) 129 _ = r90 (Qji a) from rfl).trans ((Qb1 a (Qpo _)).trans (by rw [eq_true h]))))
 exact g3.ext (fun a w => Try.call115 a w) (Qau fun a h => P79 g3 a.1 _ _ _ (Qmp a.2 6) (Qmo a.2)
  ((show (((Γ.ext 126 r87).ext 129 r90).ext 125 r86) 125 _ = r86 (Qji a) from rfl).trans ((Qb1 a (Qpo _)).trans (by rw [eq_true h]))))
theorem Qpv (Γ : Gam) (l : List Strip) (k : Unit) : Qf4 Γ 115 [.sl 3 (l.map eStrip), Qjg k] = (Qiy (l, k), .b (l.all (Qi7 k))) :=
 (show Qf4 Γ 115 _ = r79 (Qnz (l, k)) from rfl).trans (Qb1 (l, k) (Qvd _))
def Qmx (k : Unit) : V := .fn 96 []
def Qsm : V → Unit := fun _ => ()
theorem Qnu (k : Unit) : Qsm (Qmx k) = k := rfl
def Qkw (k : Unit) : List V := []
theorem Qpb (k : Unit) (n : Nat) : (Qkw k).map (vw [] (n + 1)) = Qkw k := rfl
theorem Qpa (k : Unit) : Qa6 (Qkw k) = false := rfl
def Qso (a : Bolt × Unit) : List V := [.ag (eBolt a.1), .pa [Qmx a.2]]
def Qv6 : List V → Bolt × Unit | [v, .pa [c]] => (Qnr (aC v), Qsm c) | _ => (⟨⟨0, 0⟩, [], 0⟩, ())
theorem Qy3 (a : Bolt × Unit) : Qv6 (Qso a) = a := by obtain ⟨x, k⟩ := a; simp only [Qso, Qv6, Qnu]; simp [aC, Qeq]
def Qn0 (a : List Bolt × Unit) : List V := [.sl 4 (a.1.map eBolt), .fn 114 [.pa [Qmx a.2]]]
def Qsi : List V → List Bolt × Unit | [.sl _ rows, .fn _ [.pa [c]]] => (rows.map Qnr, Qsm c) | _ => ([], ())
theorem Qsj (a : List Bolt × Unit) : Qsi (Qn0 a) = a := by obtain ⟨x, k⟩ := a; simp only [Qn0, Qsi, Qnu, Qeu Qeq]
def Qsq (a : List Bolt × Unit) : List V := [.sl 4 (a.1.map eBolt), Qmx a.2]
def Qvb : List V → List Bolt × Unit | [.sl _ rows, c] => (rows.map Qnr, Qsm c) | _ => ([], ())
theorem Qy7 (a : List Bolt × Unit) : Qvb (Qsq a) = a := by obtain ⟨x, k⟩ := a; simp only [Qsq, Qvb, Qnu, Qeu Qeq]
def Qlq (a : List Bolt × Unit) : Prop := a.1.length < 10000000 ∧ Qqi a.2
def r78 : List V → Prop × V := fnG Qso Qv6 (fun a => Qqi a.2) (fun a => !Qlu a.2 a.1) .b
def r85 : List V → Prop × V := fnG Qn0 Qsi Qlq (fun a => idxOf (fun x => !Qlu a.2 x) a.1) .i
def r77 : List V → Prop × V := fnG Qn0 Qsi Qlq (fun a => a.1.any fun x => !Qlu a.2 x) .b
def r63 : List V → Prop × V := fnG Qsq Qvb Qlq (fun a => a.1.all (Qlu a.2)) .b
def Ql3 (Γ : Gam) : Gam := (((Γ.ext 114 r78).ext 124 r85).ext 113 r77).ext 95 r63
theorem Qu4 (hG : GOk Try.prog Γ) (hb : ∀ (k : Unit) (x : Bolt), Qqi k → Γ 96 (V.ag (eBolt x) :: Qkw k) = (True, .b (Qlu k x))) : GOk Try.prog (Ql3 Γ) := by
 have g1 : GOk Try.prog (Γ.ext 114 r78) := hG.ext (fun a w => Try.call114 a w) (Qau fun a h => P78 hG a.1 _ (by decide) _ _ (Qpb a.2 7) (Qpa a.2) (hb a.2 a.1 h))
 have g2 : GOk Try.prog ((Γ.ext 114 r78).ext 124 r85) := g1.ext (fun a w => Try.call124 a w) (Qau fun a h => P85 g1 a.1 _ (by decide) _ _ rfl rfl h.1 fun x hx =>
  (show (Γ.ext 114 r78) 114 _ = r78 (Qso (x, a.2)) from rfl).trans ((Qb1 (x, a.2) (Qy3 _)).trans (by rw [eq_true h.2])))
 have g3 : GOk Try.prog (((Γ.ext 114 r78).ext 124 r85).ext 113 r77) := g2.ext (fun a w => Try.call113 a w) (Qau fun a h => P77 g2 a.1 _ _ _ rfl rfl
  ((show ((Γ.ext 114 r78).ext 124 r85) 124 _ = r85 (Qn0 a) from rfl).trans ((Qb1 a (Qsj _)).trans (by rw [eq_true h]))))
 exact g3.ext (fun a w => Try.call95 a w) (Qau fun a h => P63 g3 a.1 _ _ _ (Qpb a.2 6) (Qpa a.2)
  ((show (((Γ.ext 114 r78).ext 124 r85).ext 113 r77) 113 _ = r77 (Qn0 a) from rfl).trans ((Qb1 a (Qsj _)).trans (by rw [eq_true h]))))
theorem Qre (Γ : Gam) (l : List Bolt) (k : Unit) : Ql3 Γ 95 [.sl 4 (l.map eBolt), Qmx k] = (Qlq (l, k), .b (l.all (Qlu k))) :=
 (show Ql3 Γ 95 _ = r63 (Qsq (l, k)) from rfl).trans (Qb1 (l, k) (Qy7 _))
def Qmy (k : Unit) : V := .fn 108 []
def Qsn : V → Unit := fun _ => ()
theorem Qnv (k : Unit) : Qsn (Qmy k) = k := rfl
def Qkx (k : Unit) : List V := []
theorem Qpe (k : Unit) (n : Nat) : (Qkx k).map (vw [] (n + 1)) = Qkx k := rfl
theorem Qpd (k : Unit) : Qa6 (Qkx k) = false := rfl
def Qsp (a : Span × Unit) : List V := [.ag (eSpan a.1), .pa [Qmy a.2]]
def Qv7 : List V → Span × Unit | [v, .pa [c]] => (Qtz (aC v), Qsn c) | _ => (⟨0, 0⟩, ())
theorem Qy4 (a : Span × Unit) : Qv7 (Qsp a) = a := by obtain ⟨x, k⟩ := a; simp only [Qsp, Qv7, Qnv]; simp [aC, Qns]
def Qn1 (a : List Span × Unit) : List V := [.sl 2 (a.1.map eSpan), .fn 123 [.pa [Qmy a.2]]]
def Qsk : List V → List Span × Unit | [.sl _ rows, .fn _ [.pa [c]]] => (rows.map Qtz, Qsn c) | _ => ([], ())
theorem Qsl (a : List Span × Unit) : Qsk (Qn1 a) = a := by obtain ⟨x, k⟩ := a; simp only [Qn1, Qsk, Qnv, Qeu Qns]
def Qsr (a : List Span × Unit) : List V := [.sl 2 (a.1.map eSpan), Qmy a.2]
def Qvc : List V → List Span × Unit | [.sl _ rows, c] => (rows.map Qtz, Qsn c) | _ => ([], ())
theorem Qy8 (a : List Span × Unit) : Qvc (Qsr a) = a := by obtain ⟨x, k⟩ := a; simp only [Qsr, Qvc, Qnv, Qeu Qns]
def Qlr (a : List Span × Unit) : Prop := a.1.length < 10000000 ∧ Qqk a.2
def r84 : List V → Prop × V := fnG Qsp Qv7 (fun a => Qqk a.2) (fun a => !Qlv a.2 a.1) .b
def r89 : List V → Prop × V := fnG Qn1 Qsk Qlr (fun a => idxOf (fun x => !Qlv a.2 x) a.1) .i
def r83 : List V → Prop × V := fnG Qn1 Qsk Qlr (fun a => a.1.any fun x => !Qlv a.2 x) .b
def r76 : List V → Prop × V := fnG Qsr Qvc Qlr (fun a => a.1.all (Qlv a.2)) .b
def Qhy (Γ : Gam) : Gam := (((Γ.ext 123 r84).ext 128 r89).ext 122 r83).ext 112 r76
theorem Qu5 (hG : GOk Try.prog Γ) (hb : ∀ (k : Unit) (x : Span), Qqk k → Γ 108 (V.ag (eSpan x) :: Qkx k) = (True, .b (Qlv k x))) : GOk Try.prog (Qhy Γ) := by
 have g1 : GOk Try.prog (Γ.ext 123 r84) := hG.ext (fun a w => Try.call123 a w) (Qau fun a h => P84 hG a.1 _ (by decide) _ _ (Qpe a.2 7) (Qpd a.2) (hb a.2 a.1 h))
 have g2 : GOk Try.prog ((Γ.ext 123 r84).ext 128 r89) := g1.ext (fun a w => Try.call128 a w) (Qau fun a h => P89 g1 a.1 _ (by decide) _ _ rfl rfl h.1 fun x hx =>
  (show (Γ.ext 123 r84) 123 _ = r84 (Qsp (x, a.2)) from rfl).trans ((Qb1 (x, a.2) (Qy4 _)).trans (by rw [eq_true h.2])))
 have g3 : GOk Try.prog (((Γ.ext 123 r84).ext 128 r89).ext 122 r83) := g2.ext (fun a w => Try.call122 a w) (Qau fun a h => P83 g2 a.1 _ _ _ rfl rfl
  ((show ((Γ.ext 123 r84).ext 128 r89) 128 _ = r89 (Qn1 a) from rfl).trans ((Qb1 a (Qsl _)).trans (by rw [eq_true h]))))
 exact g3.ext (fun a w => Try.call112 a w) (Qau fun a h => P76 g3 a.1 _ _ _ (Qpe a.2 6) (Qpd a.2)
  ((show (((Γ.ext 123 r84).ext 128 r89).ext 122 r83) 122 _ = r83 (Qn1 a) from rfl).trans ((Qb1 a (Qsl _)).trans (by rw [eq_true h]))))
theorem Qrf (Γ : Gam) (l : List Span) (k : Unit) : Qhy Γ 112 [.sl 2 (l.map eSpan), Qmy k] = (Qlr (l, k), .b (l.all (Qlv k))) :=
 (show Qhy Γ 112 _ = r76 (Qsr (l, k)) from rfl).trans (Qb1 (l, k) (Qy8 _))
def Qpl (k : (Dome × Bool)) : V := .fn (if k.2 then 107 else 110) [.pa (Qal k.1)]
def Qvg : V → (Dome × Bool) | .fn f caps => (Qjh (pC (caps.headD .u)), f == 107) | _ => (D0, false)
theorem Qrd (k : (Dome × Bool)) : Qvg (Qpl k) = k := by obtain ⟨d, b⟩ := k; cases b <;> simp [Qvg, Qpl, pC, Qdh]
def Qpc (k : (Dome × Bool)) : List V := [.pa (Qal k.1)]
theorem Qse (k : (Dome × Bool)) (n : Nat) : (Qpc k).map (vw [] (n + 1)) = Qpc k := rfl
theorem Qsd (k : (Dome × Bool)) : Qa6 (Qpc k) = false := rfl
def Qyd (a : Int × (Dome × Bool)) : List V := [.i a.1, .pa [Qpl a.2]]
def Za0 : List V → Int × (Dome × Bool) | [v, .pa [c]] => (gI v, Qvg c) | _ => (0, (D0, false))
theorem Za1 (a : Int × (Dome × Bool)) : Za0 (Qyd a) = a := by obtain ⟨x, k⟩ := a; simp only [Qyd, Za0, Qrd]; simp [gI]
def Qu2 (a : List Int × (Dome × Bool)) : List V := [.sl 1 (a.1.map eI), .fn 121 [.pa [Qpl a.2]]]
def Qyb : List V → List Int × (Dome × Bool) | [.sl _ rows, .fn _ [.pa [c]]] => (rows.map dI, Qvg c) | _ => ([], (D0, false))
theorem Qvf (a : List Int × (Dome × Bool)) : Qyb (Qu2 a) = a := by obtain ⟨x, k⟩ := a; simp only [Qu2, Qyb, Qrd, Qeu Qfc]
def Qyf (a : List Int × (Dome × Bool)) : List V := [.sl 1 (a.1.map eI), Qpl a.2]
def Za7 : List V → List Int × (Dome × Bool) | [.sl _ rows, c] => (rows.map dI, Qvg c) | _ => ([], (D0, false))
theorem Za8 (a : List Int × (Dome × Bool)) : Za7 (Qyf a) = a := by obtain ⟨x, k⟩ := a; simp only [Qyf, Za7, Qrd, Qeu Qfc]
def Qt9 (a : List Int × (Dome × Bool)) : Prop := a.1.length < 10000000 ∧ Qyw a.2
def r82 : List V → Prop × V := fnG Qyd Za0 (fun a => Qyw a.2) (fun a => !Qrw a.2 a.1) .b
def r88 : List V → Prop × V := fnG Qu2 Qyb Qt9 (fun a => idxOf (fun x => !Qrw a.2 x) a.1) .i
def r81 : List V → Prop × V := fnG Qu2 Qyb Qt9 (fun a => a.1.any fun x => !Qrw a.2 x) .b
def r75 : List V → Prop × V := fnG Qyf Za7 Qt9 (fun a => a.1.all (Qrw a.2)) .b
def Qn4 (Γ : Gam) : Gam := (((Γ.ext 121 r82).ext 127 r88).ext 120 r81).ext 111 r75
theorem Qvs (hG : GOk Try.prog Γ) (hb : ∀ (k : (Dome × Bool)) (x : Int), Qyw k → Γ (if k.2 then 107 else 110) (V.i x :: Qpc k) = (True, .b (Qrw k x))) : GOk Try.prog (Qn4 Γ) := by
 have g1 : GOk Try.prog (Γ.ext 121 r82) := hG.ext (fun a w => Try.call121 a w) (Qau fun a h => P82 hG a.1 _ (by split <;> decide) _ _ (Qse a.2 7) (Qsd a.2) (hb a.2 a.1 h))
 have g2 : GOk Try.prog ((Γ.ext 121 r82).ext 127 r88) := g1.ext (fun a w => Try.call127 a w) (Qau fun a h => P88 g1 a.1 _ (by decide) _ _ rfl rfl h.1 fun x hx =>
  (show (Γ.ext 121 r82) 121 _ = r82 (Qyd (x, a.2)) from rfl).trans ((Qb1 (x, a.2) (Za1 _)).trans (by rw [eq_true h.2])))
 have g3 : GOk Try.prog (((Γ.ext 121 r82).ext 127 r88).ext 120 r81) := g2.ext (fun a w => Try.call120 a w) (Qau fun a h => P81 g2 a.1 _ _ _ rfl rfl
  ((show ((Γ.ext 121 r82).ext 127 r88) 127 _ = r88 (Qu2 a) from rfl).trans ((Qb1 a (Qvf _)).trans (by rw [eq_true h]))))
 exact g3.ext (fun a w => Try.call111 a w) (Qau fun a h => P75 g3 a.1 _ _ _ (Qse a.2 6) (Qsd a.2)
  ((show (((Γ.ext 121 r82).ext 127 r88).ext 120 r81) 120 _ = r81 (Qu2 a) from rfl).trans ((Qb1 a (Qvf _)).trans (by rw [eq_true h]))))
theorem Qn5 (Γ : Gam) (l : List Int) (k : (Dome × Bool)) : Qn4 Γ 111 [.sl 1 (l.map eI), Qpl k] = (Qt9 (l, k), .b (l.all (Qrw k))) :=
 (show Qn4 Γ 111 _ = r75 (Qyf (l, k)) from rfl).trans (Qb1 (l, k) (Za8 _))
end Go.C02
set_option linter.unusedSimpArgs false
set_option linter.unusedVariables false
namespace Go.C02
open Go.Fam Go.Proofs
theorem P71 (d : Dome) (n : Int) (h : d.bolts.length < 1000000) : Qab Try.prog 107 [.i n, .pa (Qal d)] (.b (Qin d n)) := by
 refine Qac okC hmix Try.func107 cb107 cc107 cs107 cn107 ?_
 have h1 : inI ((d.bolts.length : Int) - 1) := by unfold inI; omega
 simp only [rc107, rs107, gC67, h1, Qa7, Qa8, Qai, Qa4, Qae, Qa5, Qa2, Fam.step, Qaf, evO, opv, qv, binV, ldV, lenV, Qaw, Qaa, Qa6, flat, Qa3, Qa0, Qa1, ↓reduceIte, Nat.reduceEqDiff, Nat.reduceAdd, Nat.reduceLT, Nat.reduceLeDiff, Qb, Qc, Qd, Qf, Ql, Qg, Qj, endQ, rvs, rv1, resV, vw_i, vw_b, zipA, Qe, V.b.injEq, Qh, Qa, true_and, and_self, implies_true, reduceCtorEq, Qk, Qal]
 rfl
theorem P74 (d : Dome) (n : Int) (h : inI (2 * d.loss)) : Qab Try.prog 110 [.i n, .pa (Qal d)] (.b (Qfk d n)) := by
 refine Qac okC hmix Try.func110 cb110 cc110 cs110 cn110 ?_
 simp only [rc110, rs110, gC67, h, Qa7, Qa8, Qai, Qa4, Qae, Qa5, Qa2, Fam.step, Qaf, evO, opv, qv, binV, ldV, Qaw, Qaa, Qa6, flat, Qa3, Qa0, Qa1, ↓reduceIte, Nat.reduceEqDiff, Nat.reduceAdd, Nat.reduceLT, Nat.reduceLeDiff, Qb, Qc, Qd, Qf, Qi, Ql, Qg, Qj, endQ, rvs, rv1, resV, vw_i, vw_b, zipA, Qe, V.b.injEq, Qh, Qa, true_and, and_self, implies_true, reduceCtorEq, Qal]
 rfl
theorem P72 (s : Span) : Qab Try.prog 108 [.ag (eSpan s)] (.b (Qfj s)) := by
 refine Qac okC hmix Try.func108 cb108 cc108 cs108 cn108 ?_
 simp only [rc108, rs108, gC73, Qa7, Qa8, Qai, Qa4, Qae, Qa5, Qa2, Fam.step, Qaf, evO, opv, qv, ldV, Qaw, V.cells, Qas, Qaa, Qa6, flat, Qa3, Qa0, Qa1, ↓reduceIte, Nat.reduceEqDiff, Nat.reduceAdd, Nat.reduceLT, Nat.reduceLeDiff, Qb, Qc, Qd, Qf, Qm, Qx, Qj, endQ, rvs, rv1, resV, vw_i, vw_b, Qaz, zipA, Qe, V.b.injEq, Qh, Qa, true_and, and_self, implies_true, Qi9, eSpan]
 rfl
def eND (a : Int × Dome) : List V := [.i a.1, .pa (Qal a.2)]
def dND : List V → Int × Dome | [.i n, .pa cs] => (n, Qjh cs) | _ => (0, D0)
theorem Zc0 (a : Int × Dome) : dND (eND a) = a := by simp [dND, eND, Qdh]
def r71 : List V → Prop × V := fnG eND dND (fun a => a.2.bolts.length < 1000000) (fun a => Qin a.2 a.1) .b
def r74 : List V → Prop × V := fnG eND dND (fun a => inI (2 * a.2.loss)) (fun a => Qfk a.2 a.1) .b
def r72 : List V → Prop × V := fnG (fun s => [.ag (eSpan s)]) (fun vs => Qtz (aC (vs.headD .u))) (fun _ => True) Qfj .b
def GD : Gam := ((GC.ext 107 r71).ext 110 r74).ext 108 r72
theorem okD : GOk Try.prog GD :=
 ((okC.ext (fun a w => Try.call107 a w) (Qau fun a h => P71 a.2 a.1 h)).ext (fun a w => Try.call110 a w) (Qau fun a h => P74 a.2 a.1 h)).ext (fun a w => Try.call108 a w) (Qau fun a _ => P72 a)
theorem Zbn (k : Unit) (x : Strip) (h : Qls k) : GD 116 (V.ag (eStrip x) :: Qie k) = (True, .b (Qi7 k x)) := rfl
theorem Zd7 (Γ : Gam) (hΓ : Γ 108 = r72) (k : Unit) (x : Span) (h : Qqk k) : Γ 108 (V.ag (eSpan x) :: Qkx k) = (True, .b (Qlv k x)) := by
 rw [hΓ]
 exact (show r72 _ = r72 [.ag (eSpan x)] from rfl).trans ((Qb1 (e := fun s => [.ag (eSpan s)]) x rfl).trans (by rfl))
theorem bInt (Γ : Gam) (h1 : Γ 107 = r71) (h2 : Γ 110 = r74) (k : Dome × Bool) (x : Int) (h : Qyw k) : Γ (if k.2 then 107 else 110) (V.i x :: Qpc k) = (True, .b (Qrw k x)) := by
 obtain ⟨d, b⟩ := k
 cases b
 ·exact (show Γ 110 _ = r74 (eND (x, d)) from by rw [h2]; rfl).trans ((Qb1 (x, d) (Zc0 _)).trans (by rw [eq_true (show inI (2 * d.loss) from h)]; rfl))
 ·exact (show Γ 107 _ = r71 (eND (x, d)) from by rw [h1]; rfl).trans ((Qb1 (x, d) (Zc0 _)).trans (by rw [eq_true (show d.bolts.length < 1000000 from h)]; rfl))
def GE : Gam := Qn4 (Qhy (Qf4 GD))
theorem okE : GOk Try.prog GE := Qvs (Qu5 (Qrg okD Zbn) (Zd7 _ rfl)) (bInt _ rfl rfl)
theorem gE67 (n lo hi : Int) : GE 102 [.i n, .i lo, .i hi] = (True, .b (Qak n lo hi)) := rfl
theorem gE73 (a b m : Int) : GE 109 [.ag [.i a, .i b], .i m] = (True, .b (Qcn ⟨a, b⟩ m)) := rfl
theorem gE79 (l : List Strip) : GE 115 [.sl 3 (l.map eStrip), .fn 116 []] = (l.length < 10000000, .b (l.all Qef)) :=
 (show GE 115 _ = Qf4 GD 115 [.sl 3 (l.map eStrip), Qjg ()] from rfl).trans ((Qpv GD l ()).trans (by simp [Qiy, Qls]; rfl))
theorem P64 (b : Bolt) : Qab Try.prog 96 [.ag (eBolt b)] (.b (Qds b)) := by
 refine Qac okE hmix Try.func96 cb96 cc96 cs96 cn96 ?_
 simp only [rc96, rs96, gE67, gE73, gE79, Qa7, Qa8, Qai, Qa4, Qae, Qa5, Qa2, Fam.step, Qaf, Qbz, Qbq, ug, evO, opv, qv, Qb2, binV, ldV, lenV, Qaw, V.cells, Qas, Qaa, Qa6, flat, Qa3, Qa0, Qa1, ↓reduceIte, Nat.reduceEqDiff, Nat.reduceAdd, Nat.reduceLT, Nat.reduceLeDiff, Qb, Qc, Q1, Q0, Qd, Qf, Qi, Ql, Qm, Zb, Qg, Qj, endQ, rvs, rv1, resV, vw_i, vw_b, Qay, Qaz, Qjb, zipA, Qe, V.b.injEq, Qt, Qv, Qh, Qa, true_and, and_true, and_self, implies_true, beq_true, Qff, Q2, imp_self, Qk, Qi9, eBolt]
 have e : Qds b = (Qcn b.stretch 60 && decide ((b.strips.length : Int) ≤ 8) && b.strips.all Qef && Qak b.wrong 0 2) := by
  unfold Qds
  have : decide ((b.strips.length : Int) ≤ 8) = decide (b.strips.length ≤ 8) := by congr 1; simp; omega
  rw [this]
  cases Qcn b.stretch 60 <;> cases Qak b.wrong 0 2 <;> cases b.strips.all Qef <;> simp
 refine ⟨fun h => ⟨h, ?_⟩, e.symm⟩
 have : b.strips.length ≤ 8 := by cases h1 : Qcn b.stretch 60 <;> simp [h1] at h; omega
 omega
def r64 : List V → Prop × V := fnG (fun b => [.ag (eBolt b)]) dB (fun _ => True) Qds .b
def GF : Gam := GE.ext 96 r64
theorem okF : GOk Try.prog GF := okE.ext (fun a w => Try.call96 a w) (Qau fun a _ => P64 a)
theorem Zd6 (Γ : Gam) (h1 : Γ 96 = r64) (k : Unit) (x : Bolt) (h : Qqi k) : Γ 96 (V.ag (eBolt x) :: Qkw k) = (True, .b (Qlu k x)) := by
 rw [h1]
 exact (show r64 _ = r64 [.ag (eBolt x)] from rfl).trans ((Qb1 (e := fun b => [.ag (eBolt b)]) x (Qeq _)).trans (by rfl))
def GG : Gam := Ql3 GF
theorem okG : GOk Try.prog GG := Qu4 okF (Zd6 _ rfl)
theorem gG67 (n lo hi : Int) : GG 102 [.i n, .i lo, .i hi] = (True, .b (Qak n lo hi)) := rfl
theorem gG75 (l : List Int) (d : Dome) : GG 111 [.sl 1 (l.map eI), .fn 107 [.pa (Qal d)]] = (l.length < 10000000 ∧ d.bolts.length < 1000000, .b (l.all (Qin d))) :=
 (show GG 111 _ = Qn4 (Qhy (Qf4 GD)) 111 [.sl 1 (l.map eI), Qpl (d, true)] from rfl).trans ((Qn5 _ l (d, true)).trans (by rfl))
theorem Zdh (l : List Int) (d : Dome) : GG 111 [.sl 1 (l.map eI), .fn 110 [.pa (Qal d)]] = (l.length < 10000000 ∧ inI (2 * d.loss), .b (l.all (Qfk d))) :=
 (show GG 111 _ = Qn4 (Qhy (Qf4 GD)) 111 [.sl 1 (l.map eI), Qpl (d, false)] from rfl).trans ((Qn5 _ l (d, false)).trans (by rfl))
theorem gG76 (l : List Span) : GG 112 [.sl 2 (l.map eSpan), .fn 108 []] = (l.length < 10000000, .b (l.all Qfj)) :=
 (show GG 112 _ = Qhy (Qf4 GD) 112 [.sl 2 (l.map eSpan), Qmy ()] from rfl).trans ((Qrf _ l ()).trans (by simp [Qlr, Qqk]; rfl))
theorem gG63 (l : List Bolt) : GG 95 [.sl 4 (l.map eBolt), .fn 96 []] = (l.length < 10000000, .b (l.all Qds)) :=
 (show GG 95 _ = Ql3 GF 95 [.sl 4 (l.map eBolt), Qmx ()] from rfl).trans ((Qre _ l ()).trans (by simp [Qlq, Qqi]; rfl))
theorem P62 (d : Dome) : Qab Try.prog 94 [.ag (Qal d)] (.b (Qeh d)) := by
 refine Qac okG hmix Try.func94 cb94 cc94 cs94 cn94 ?_
 have g1 := gG75 d.gores d
 have g2 := Zdh d.widths d
 unfold Qal at g1 g2
 simp only [rc94, rs94, gG67, g1, g2, gG76, Qa7, Qa8, Qai, Qa4, Qae, Qa5, Qa2, Fam.step, Qaf, Qbz, Qbq, ug, evO, opv, qv, Qb2, binV, ldV, lenV, Qaw, V.cells, Qas, Qaa, Qa6, flat, Qa3, Qa0, Qa1, ↓reduceIte, Nat.reduceEqDiff, Nat.reduceAdd, Nat.reduceLT, Nat.reduceLeDiff, Qb, Qc, Q1, Q0, Qd, Qf, Qi, Ql, Qg, Qj, endQ, rvs, rv1, resV, vw_i, vw_b, Qay, Qda, Qaz, Qjb, zipA, Qe, V.b.injEq, Qt, Qv, Qh, Qa, true_and, and_true, and_self, implies_true, beq_true, Qff, Q2, imp_self, Qk, Qal]
 have e : Qeh d = (Qak (↑d.bolts.length) 1 4 && Qak (↑d.gores.length) 3 16 && d.gores.all (Qin d) && Qak d.loss 0 20 && Qak (↑d.rounds.length) 1 12 && d.rounds.all Qfj &&
   decide ((d.widths.length : Int) = d.rounds.length) && d.widths.all (Qfk d) && Qak d.slope 0 500) := by
  have : decide ((d.widths.length : Int) = d.rounds.length) = decide (d.widths.length = d.rounds.length) := by congr 1; simp; omega
  rw [this]
  unfold Qeh Qio
  ac_rfl
 refine ⟨fun h => ⟨h, ?_⟩, fun h => ⟨h, ?_⟩, fun h => ⟨h, ?_⟩, e.symm⟩
 ·simp [Qak] at h; omega
 ·simp [Qak] at h; omega
 ·simp [Qak] at h; unfold inI; omega
def r62 : List V → Prop × V := fnG (fun d => [.ag (Qal d)]) dD (fun _ => True) Qeh .b
def GH : Gam := GG.ext 94 r62
theorem okH : GOk Try.prog GH := okG.ext (fun a w => Try.call94 a w) (Qau fun a _ => P62 a)
theorem gH63 (l : List Bolt) : GH 95 [.sl 4 (l.map eBolt), .fn 96 []] = (l.length < 10000000, .b (l.all Qds)) := gG63 l
theorem gH62 (d : Dome) : GH 94 [.ag (Qal d)] = (True, .b (Qeh d)) :=
 (show GH 94 _ = r62 [.ag (Qal d)] from rfl).trans (Qb1 (e := fun d => [.ag (Qal d)]) d (Qdh _))
theorem P41 (d : Dome) : Qab Try.prog 74 [.ag (Qal d)] (.i (Qcl d)) := by
 refine Qac okH hmix Try.func74 cb74 cc74 cs74 cn74 ?_
 have g1 := gH62 d
 unfold Qal at g1
 simp only [rc74, rs74, g1, gH63, Qag, Qa7, Qa8, Qad, Qbe, Qa9, Qai, Qa4, Qae, Qaj, Qa5, Qa2, Fam.step, Qaf, evO, opv, qv, ldV, Qaw, V.cells, Qas, Qaa, Qa6, flat, Qa3, Qa0, Qa1, ↓reduceIte, Nat.reduceEqDiff, Nat.reduceAdd, Nat.reduceLT, Nat.reduceLeDiff, Qb, Qc, Qd, Qf, Ql, Qm, Qx, Qg, Qj, endQ, rvs, rv1, resV, vw_i, Qay, Qaz, Qjb, zipA, Qe, V.i.injEq, Qh, Qa, true_and, and_true, and_self, implies_true, Q4, Zi, Qal]
 refine ⟨fun h => by simp [Qcl, h], fun h => ⟨?_, fun h' => by simp [Qcl, h, h'], fun h' => by simp [Qcl, h, h']⟩⟩
 simp [Qeh, Qio, Qak] at h
 omega
end Go.C02
