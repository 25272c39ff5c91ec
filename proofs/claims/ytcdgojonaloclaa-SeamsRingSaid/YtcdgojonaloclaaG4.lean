import Derived.Test.YtcdgojonaloclaaG3
import Derived.Test.YtcdgojonaloclaaChecked
set_option linter.all false
open List renaming map_cons → Qb, map_nil → Qc, length_cons → Qe, length_nil → Qf, headD_cons → Qg, drop_succ_cons → Qh, length_map → Qj, getD_eq_getElem?_getD → Qk, getElem?_eq_getElem → Ql, append_nil → Qm, drop_zero → Qn, take_succ_cons → Qo, cons_append → Qp, nil_append → Qq, getElem?_map → Qs, mem_of_getElem? → Qu, take_nil → Qz, all_nil → Q0, all_cons → Q2, replicate_zero → Za, getElem?_nil → Zb, contains_nil → Zc, isEmpty_nil → Ze, take_length → Zf, take_zero → Zg, getElem?_cons_zero → Zi, any_eq_not_all_not → Zp, any_nil → Zq, set_cons_zero → Zr, getElem?_of_mem → Zu, contains_cons → Zv, drop_nil → Zx, isEmpty_cons → Z0, getElem?_cons_succ → Z1, countP_le_length → Z4, countP_singleton → Z5, length_replicate → Z6, replicate_succ → Z8, getD_cons_zero → Z9, getD_cons_succ → Xa, any_cons → Xb, countP_append → Xc, set_cons_succ → Xd, countP_nil → Xh, foldl_cons → Xi, foldl_nil → Xk, headD_nil → Xl
open Nat renaming zero_add → Qd, add_zero → Z3
open Bool renaming false_eq_true → Qa, or_false → Qi, and_self → Qx, and_true → Qy, not_eq_true' → Q5, not_eq_true → Q8, decide_eq_true → Q9, decide_eq_false → Zh, false_and → Zk, not_false → Zl, not_eq_false' → Zm, not_eq_false → Zn, not_true → Zo, true_and → Zs, false_or → Zt, not_not → Zw, true_eq_false → Xe, and_false → Xm
open Option renaming getD_some → Qr, map_some → Q1, getD_none → Zd, some → Xf, map_none → Xj
open Int renaming natCast_nonneg → Qt, toNat_natCast → Qv, tdiv_eq_ediv_of_nonneg → Qw, natCast_add → Q3, natCast_zero → Q4, natCast_one → Q6, lt_irrefl → Q7, mul_nonneg → Zj, mul_le_mul → Zy, add_sub_cancel → Zz, neg_tdiv → Z2, toNat_zero → Z7, neg_mul_neg → Xg
namespace Go.C02
open Go.Fam
structure Span where
 low : Int
 high : Int
 deriving DecidableEq
structure Strip where
 long : Int
 pulled : Span
 deriving DecidableEq
structure Bolt where
 stretch : Span
 strips : List Strip
 wrong : Int
 deriving DecidableEq
structure Dome where
 bolts : List Bolt
 gores : List Int
 loss : Int
 rounds : List Span
 widths : List Int
 slope : Int
 deriving DecidableEq
structure Tent where
 dome : Dome
 can : List (List Int)
def eI (n : Int) : List V := [.i n]
def eIs (l : List Int) : V := .sl 1 (l.map eI)
def eSpan (s : Span) : List V := [.i s.low, .i s.high]
def eStrip (s : Strip) : List V := [.i s.long, .i s.pulled.low, .i s.pulled.high]
def eBolt (b : Bolt) : List V := [.i b.stretch.low, .i b.stretch.high, .sl 3 (b.strips.map eStrip), .i b.wrong]
def eDome (d : Dome) : List V := [.sl 4 (d.bolts.map eBolt), .sl 1 (d.gores.map eI), .i d.loss, .sl 2 (d.rounds.map eSpan), .sl 1 (d.widths.map eI), .i d.slope]
def eCan (l : List Int) : List V := [.sl 1 (l.map eI)]
def eTent (t : Tent) : List V := eDome t.dome ++ [.sl 1 (t.can.map eCan)]
def gI : V → Int | .i n => n | _ => 0
def gR : V → List (List V) | .sl _ r => r | _ => []
def dI (r : List V) : Int := gI (r.headD .u)
def dSpan : List V → Span | [a, b] => ⟨gI a, gI b⟩ | _ => ⟨0, 0⟩
def dStrip : List V → Strip | [a, b, c] => ⟨gI a, ⟨gI b, gI c⟩⟩ | _ => ⟨0, ⟨0, 0⟩⟩
def dBolt : List V → Bolt | [a, b, c, d] => ⟨⟨gI a, gI b⟩, (gR c).map dStrip, gI d⟩ | _ => ⟨⟨0, 0⟩, [], 0⟩
def dDome : List V → Dome | [a, b, c, d, e, f] => ⟨(gR a).map dBolt, (gR b).map dI, gI c, (gR d).map dSpan, (gR e).map dI, gI f⟩ | _ => ⟨[], [], 0, [], [], 0⟩
def dCan (r : List V) : List Int := (gR (r.headD .u)).map dI
def dTent : List V → Tent | [a, b, c, d, e, f, g] => ⟨dDome [a, b, c, d, e, f], (gR g).map dCan⟩ | _ => ⟨dDome [], []⟩
theorem map_de {α : Type} {e : α → List V} {d : List V → α} (h : ∀ x, d (e x) = x) (l : List α) : (l.map e).map d = l := by
 rw [List.map_map]; conv => rhs; rw [← List.map_id l]
 exact List.map_congr_left fun x _ => h x
theorem dI_eI (n : Int) : dI (eI n) = n := rfl
theorem dSpan_e (s : Span) : dSpan (eSpan s) = s := rfl
theorem dStrip_e (s : Strip) : dStrip (eStrip s) = s := rfl
theorem dBolt_e (b : Bolt) : dBolt (eBolt b) = b := by simp [dBolt, eBolt, gI, gR, Function.comp_def, dStrip_e]
theorem dDome_e (d : Dome) : dDome (eDome d) = d := by simp [dDome, eDome, gI, gR, Function.comp_def, dBolt_e, dI_eI, dSpan_e]
theorem dCan_e (l : List Int) : dCan (eCan l) = l := by simp [dCan, eCan, gR, Function.comp_def, dI_eI]
theorem dTent_e (t : Tent) : dTent (eTent t) = t := by
 have := dDome_e t.dome
 unfold eDome at this
 simp [dTent, eTent, eDome, this, gR, Function.comp_def, dCan_e]
theorem spanE (s : Span) : (⟨s.low, s.high⟩ : Span) = s := rfl
theorem stripE (s : Strip) : (⟨s.long, s.pulled⟩ : Strip) = s := rfl
theorem boltE (s : Bolt) : (⟨s.stretch, s.strips, s.wrong⟩ : Bolt) = s := rfl
theorem domeE (s : Dome) : (⟨s.bolts, s.gores, s.loss, s.rounds, s.widths, s.slope⟩ : Dome) = s := rfl
theorem tentE (s : Tent) : (⟨s.dome, s.can⟩ : Tent) = s := rfl
def fnG {A B : Type} (e : A → List V) (d : List V → A) (ok : A → Prop) (g : A → B) (eb : B → V) : List V → Prop × V := fun vs => (e (d vs) = vs ∧ ok (d vs), eb (g (d vs)))
theorem fnG_ok {P : Program} {A B : Type} {e : A → List V} {d : List V → A} {ok : A → Prop} {g : A → B} {eb : B → V} {f : Nat} (h : ∀ a, ok a → PureCall P f (e a) (eb (g a))) (vs : List V) (hv : (fnG e d ok g eb vs).1) :
  PureCall P f vs (fnG e d ok g eb vs).2 := by
 have := h (d vs) hv.2
 rw [hv.1] at this
 exact this
theorem fnG_at {A B : Type} {e : A → List V} {d : List V → A} {ok : A → Prop} {g : A → B} {eb : B → V} (a : A) (h : d (e a) = a) : fnG e d ok g eb (e a) = (ok a, eb (g a)) := by
 simp [fnG, h]
end Go.C02
set_option maxRecDepth 8000
namespace Go.C02
open Go.Fam Go.Proofs
def rc37 : RC := (.seq (.reg false [(cX 2 0), (cQ 4 [] (.mv (kB false)))]) (.keep [1,2] (.seq (.seq (.reg false [(cMv 6 1), (cLn 7 6), (cFa 8 2 0), (cLd 9 8 false 1), (cLn 10 9), (cB 11 .neq 7 10)]) (.keep [1,2,11] (.cond (.t 11) (.seq (.reg false [(cQ 4 [] (.mv (kB false)))]) .ret) .skip))) (.keep [1,2] (.seq (.seq (.reg false [(cI 5 0)]) (.keep [1,2,5] (.block 0 (.loop [1,2,5] none (.seq (.seq (.reg false [(cMv 12 5), (cMv 13 1), (cLn 14 13), (cB 15 .lss 12 14)]) (.keep [1,2,5,15] (.cond (.t 15) .skip (.exit 0)))) (.keep [1,2,5] (.seq (.block 1 (.seq (.any false 0 [⟨(cFa 18 2 0), [], []⟩, ⟨(cLd 19 18 false 1), [], [0]⟩, ⟨(cMv 20 5), [], []⟩, ⟨(cA 21 4 19 20), [], [1,0,2]⟩, ⟨(cLd 22 21 true 4), [], [3,1,0,2]⟩, ⟨(cMv 23 1), [], []⟩, ⟨(cMv 24 5), [], []⟩, ⟨(cA 25 1 23 24), [], [5,6]⟩, ⟨(cLd 26 25 false 1), [], [7,5,6]⟩, ⟨(cQ 27 [22,26] (.call (kF 69) [(.t 22), (.t 26)])), [], [4,3,1,0,2,8,7,5,6]⟩, ⟨(cN 28 27), [], [9,4,3,1,0,2,8,7,5,6]⟩]) (.keep [1,2,5,28] (.cond (.t 28) (.seq (.reg false [(cQ 4 [] (.mv (kB false)))]) .ret) .skip)))) (.keep [1,2,5] (.reg false [(cMv 16 5), (cC 17 .add 16 1), (cMv 5 17)]))))))))) (.keep [] (.seq (.reg false [(cQ 4 [] (.mv (kB true)))]) .ret)))))))
def pu37 : List Nat := [2]
def rs37 : List RV := [.t 4]
theorem cc37 : comp Try.prog pu37 (Try.f37.ntmps, 0) 0 1 rc37 (Try.f37.body.getD .skip) = some rc37 := by kernel_rfl
theorem cb37 : Try.f37.body = some (Try.f37.body.getD .skip) := by kernel_rfl
theorem cs37 : resRV Try.prog Try.f37.results.toList = some rs37 := by kernel_rfl
theorem cn37 : 2 ≤ Try.f37.ntmps := by decide
def rc45 : RC := (.seq (.reg false [(cX 1 0), (cQ 2 [] (.mv (.k (.z 1)))), (cI 3 0)]) (.keep [1] (.seq (.reg false [(cLd 10 1 true 6), (cQ 11 [10] (.call (kF 79) [(.t 10), (kB true)])), (cMv 9 11), (cEx 12 9 0), (cEx 13 9 1), (cMv 4 12), (cMv 5 13)]) (.keep [1,4,5] (.seq (.seq (.reg false [(cMv 14 5), (cC 15 .neq 14 0)]) (.keep [1,4,5,15] (.cond (.t 15) (.seq (.reg false [(cMv 16 5), (cQ 2 [] (.mv (.k (.z 1)))), (cMv 3 16)]) .ret) .skip))) (.keep [1,4] (.seq (.reg false [(cQ 6 [] (.mv (.k (.z 1))))]) (.keep [1,4,6] (.seq (.seq (.reg false [(cFa 17 1 4), (cLd 18 17 false 1), (cLn 19 18), (cI 20 0)]) (.keep [4,6,18,19,20] (.block 0 (.own 6 1 (.loop [4,6,18,19,20] none (.seq (.reg false [(cB 21 .lss 20 19)]) (.keep [4,6,18,19,20,21] (.seq (.cond (.t 21) .skip (.exit 0)) (.keep [4,6,18,19,20] (.seq (.block 1 (.seq (.reg false [(cMv 22 20), (cA 23 1 18 20), (cLd 24 23 false 1), (cMv 7 22), (cMv 8 24)]) (.keep [4,6,7,8,18,19,20] (.seq (.reg false [(cMv 25 4), (cMv 26 7), (cMv 27 8), (cQ 28 [25,26,27] (.call (kF 80) [(.t 25), (.t 26), (.t 27)])), (cC 29 .neq 28 1)]) (.keep [4,6,7,18,19,20,29] (.cond (.t 29) (.reg false [(cMv 30 6), (cMv 31 7), (cQ 32 [31] (.bsl 1 1 [(.i 0)] [(0,1, (.t 31))])), ⟨(some 33), none, [30,32], none, .w (.app 1 (.t 30) (.t 32))⟩, (cMv 6 33)]) .skip)))))) (.keep [4,6,18,19,20] (.reg false [(cC 34 .add 20 1), (cMv 20 34)])))))))))))) (.keep [6] (.seq (.reg false [(cMv 35 6), (cMv 2 35), (cI 3 0)]) .ret)))))))))))
def pu45 : List Nat := [1,32]
def rs45 : List RV := [.t 2, .t 3]
theorem cc45 : comp Try.prog pu45 (Try.f45.ntmps, 0) 0 1 rc45 (Try.f45.body.getD .skip) = some rc45 := by kernel_rfl
theorem cb45 : Try.f45.body = some (Try.f45.body.getD .skip) := by kernel_rfl
theorem cs45 : resRV Try.prog Try.f45.results.toList = some rs45 := by kernel_rfl
theorem cn45 : 1 ≤ Try.f45.ntmps := by decide
def rc47 : RC := (.seq (.reg false [(cX 1 0), (cQ 2 [] (.mv (.k (.z 1)))), (cI 3 0)]) (.keep [1] (.seq (.reg false [(cLd 17 1 true 6), (cQ 18 [17] (.call (kF 79) [(.t 17), (kB true)])), (cMv 16 18), (cEx 19 16 0), (cEx 20 16 1), (cMv 4 19), (cMv 5 20)]) (.keep [1,4,5] (.seq (.seq (.reg false [(cMv 21 5), (cC 22 .neq 21 0)]) (.keep [1,4,5,22] (.cond (.t 22) (.seq (.reg false [(cMv 23 5), (cQ 2 [] (.mv (.k (.z 1)))), (cMv 3 23)]) .ret) .skip))) (.keep [1,4] (.seq (.reg false [(cQ 6 [] (.mv (.k (.z 2))))]) (.keep [1,4,6] (.seq (.seq (.reg false [(cFa 24 1 3), (cLd 25 24 false 1), (cLn 26 25), (cI 27 0)]) (.keep [1,4,6,26,27] (.block 0 (.own 6 2 (.loop [1,4,6,26,27] (some 1) (.seq (.reg false [(cB 28 .lss 27 26)]) (.keep [1,4,6,26,27,28] (.seq (.cond (.t 28) .skip (.exit 0)) (.keep [1,4,6,26,27] (.seq (.block 1 (.seq (.reg false [(cMv 29 27), (cMv 7 29)]) (.keep [1,4,6,7,26,27] (.seq (.reg false [(cMv 31 4), (cMv 32 7), (cQ 33 [31,32] (.call (kF 81) [(.t 31), (.t 32)])), (cMv 30 33), (cEx 34 30 0), (cEx 35 30 1), ⟨(some 8), none, [], none, .w (.alc [(.i 0), (.i 0)])⟩, ⟨none, none, [8,34], none, .w (.st 2 (.t 8) (.t 34))⟩, (cMv 9 35)]) (.keep [1,4,6,8,9,26,27] (.seq (.seq (.reg false [(cMv 36 9), (cN 37 36)]) (.keep [1,4,6,8,26,27,37] (.cond (.t 37) (.seq (.reg false [(cQ 2 [] (.mv (.k (.z 1)))), (cI 3 3)]) .ret) .skip))) (.keep [1,4,6,8,26,27] (.reg false [(cMv 38 6), (cLd 39 8 true 2), (cQ 40 [39] (.bsl 2 1 [(.i 0), (.i 0)] [(0,2, (.t 39))])), ⟨(some 41), none, [38,40], none, .w (.app 2 (.t 38) (.t 40))⟩, (cMv 6 41)])))))))) (.drp 1 (.keep [1,4,6,26,27] (.reg false [(cC 42 .add 27 1), (cMv 27 42)]))))))))))))) (.keep [1,6] (.seq (.reg false [(cQ 10 [] (.mv (.k (.z 1))))]) (.keep [1,6,10] (.seq (.seq (.reg false [(cMv 43 6), (cLn 44 43), (cI 45 0)]) (.keep [1,6,10,43,44,45] (.block 2 (.own 10 1 (.loop [1,6,10,43,44,45] (some 2) (.seq (.reg false [(cB 46 .lss 45 44)]) (.keep [1,6,10,43,44,45,46] (.seq (.cond (.t 46) .skip (.exit 2)) (.keep [1,6,10,43,44,45] (.seq (.block 3 (.seq (.reg false [(cMv 47 45), (cA 48 2 43 45), (cLd 49 48 true 2), ⟨(some 12), none, [], none, .w (.alc [(.i 0), (.i 0)])⟩, (cMv 11 47), ⟨none, none, [12,49], none, .w (.st 2 (.t 12) (.t 49))⟩]) (.keep [1,6,10,11,12,43,44,45] (.seq (.reg false [(cFa 50 12 0), (cLd 51 50 false 1), (cMv 13 51)]) (.keep [1,6,10,11,12,13,43,44,45] (.seq (.seq (.reg false [(cMv 52 6), (cLn 53 52), (cI 54 0)]) (.keep [1,6,10,11,12,13,43,44,45,52,53,54] (.block 4 (.loop [1,6,10,11,12,13,43,44,45,52,53,54] (some 3) (.seq (.reg false [(cB 55 .lss 54 53)]) (.keep [1,6,10,11,12,13,43,44,45,52,53,54,55] (.seq (.cond (.t 55) .skip (.exit 4)) (.keep [1,6,10,11,12,13,43,44,45,52,53,54] (.seq (.block 5 (.seq (.reg false [(cMv 56 54), (cA 57 2 52 54), (cLd 58 57 true 2), ⟨(some 15), none, [], none, .w (.alc [(.i 0), (.i 0)])⟩, (cMv 14 56), ⟨none, none, [15,58], none, .w (.st 2 (.t 15) (.t 58))⟩]) (.keep [1,6,10,11,12,13,14,15,43,44,45,52,53,54] (.reg false [(cMv 59 13), (cFa 60 15 0), (cLd 61 60 false 1), (cFa 62 1 5), (cLd 63 62 false 1), (cMv 64 11), (cMv 65 14), (cB 66 .sub 64 65), (cMv 67 14), (cMv 68 11), (cB 69 .sub 67 68), (cQ 70 [66,69] (.mx (.t 66) (.t 69))), (cB 71 .mul 63 70), (cB 72 .sub 61 71), (cQ 73 [59,72] (.mx (.t 59) (.t 72))), (cMv 13 73)])))) (.drp 3 (.keep [1,6,10,11,12,13,43,44,45,52,53,54] (.reg false [(cC 74 .add 54 1), (cMv 54 74)])))))))))))) (.keep [1,6,10,12,13,43,44,45] (.seq (.seq (.reg false [(cMv 75 13), (cFa 76 12 1), (cLd 77 76 false 1), (cB 78 .gtr 75 77)]) (.keep [1,6,10,13,43,44,45,78] (.cond (.t 78) (.seq (.reg false [(cQ 2 [] (.mv (.k (.z 1)))), (cI 3 3)]) .ret) .skip))) (.keep [1,6,10,13,43,44,45] (.reg false [(cMv 79 10), (cMv 80 13), (cQ 81 [80] (.bsl 1 1 [(.i 0)] [(0,1, (.t 80))])), ⟨(some 82), none, [79,81], none, .w (.app 1 (.t 79) (.t 81))⟩, (cMv 10 82)])))))))))) (.drp 2 (.keep [1,6,10,43,44,45] (.reg false [(cC 83 .add 45 1), (cMv 45 83)]))))))))))))) (.keep [10] (.seq (.reg false [(cMv 84 10), (cMv 2 84), (cI 3 0)]) .ret)))))))))))))))
def pu47 : List Nat := [1,40,81]
def rs47 : List RV := [.t 2, .t 3]
theorem cc47 : comp Try.prog pu47 (Try.f47.ntmps, 0) 0 1 rc47 (Try.f47.body.getD .skip) = some rc47 := by kernel_rfl
theorem cb47 : Try.f47.body = some (Try.f47.body.getD .skip) := by kernel_rfl
theorem cs47 : resRV Try.prog Try.f47.results.toList = some rs47 := by kernel_rfl
theorem cn47 : 1 ≤ Try.f47.ntmps := by decide
def rc55 : RC := (.seq (.reg false [(cX 1 0), ⟨(some 2), none, [], none, .w (.alc [(.z 4), (.z 1), (.i 0), (.z 2), (.z 1), (.i 0)])⟩]) (.keep [1,2] (.seq (.reg false [(cLd 5 1 true 6), ⟨(some 3), none, [], none, .w (.alc [(.z 4), (.z 1), (.i 0), (.z 2), (.z 1), (.i 0)])⟩, ⟨none, none, [3,5], none, .w (.st 6 (.t 3) (.t 5))⟩]) (.keep [1,2,3] (.seq (.reg false [⟨(some 6), none, [], none, .w (.bso 4 0 [(.i 0), (.i 0), (.z 3), (.i 0)] [])⟩, (cFa 7 1 0), (cLd 8 7 false 1), ⟨(some 9), none, [6,8], none, .w (.app 4 (.t 6) (.t 8))⟩, (cFa 10 3 0), ⟨none, none, [10,9], none, .w (.st 1 (.t 10) (.t 9))⟩]) (.keep [1,2,3] (.seq (.seq (.reg false [(cI 4 0)]) (.keep [1,2,3,4] (.block 0 (.loop [1,2,3,4] (some 3) (.seq (.seq (.reg false [(cMv 11 4), (cFa 12 3 0), (cLd 13 12 false 1), (cLn 14 13), (cB 15 .lss 11 14)]) (.keep [1,2,3,4,15] (.cond (.t 15) .skip (.exit 0)))) (.keep [1,2,3,4] (.seq (.block 1 (.any false 2 [⟨(cFa 18 3 0), [], []⟩, ⟨(cLd 19 18 false 1), [], [0]⟩, ⟨(cMv 20 4), [], []⟩, ⟨⟨(some 21), none, [], (some 0), .w (.bso 3 0 [(.i 0), (.i 0), (.i 0)] [])⟩, [0,1,2], []⟩, ⟨(cFa 22 1 0), [3], []⟩, ⟨(cLd 23 22 false 1), [3], [4]⟩, ⟨(cMv 24 4), [3], []⟩, ⟨(cA 25 4 23 24), [3], [5,4,6]⟩, ⟨(cFa 26 25 2), [3], [7,5,4,6]⟩, ⟨(cLd 27 26 false 1), [3], [8,7,5,4,6]⟩, ⟨⟨(some 28), none, [21,27], (some 1), .w (.app 3 (.t 21) (.t 27))⟩, [0,1,2], [3,9,8,7,5,4,6]⟩, ⟨(cA 29 4 19 20), [], [1,0,2,3,4,5,6,7,8,9,10]⟩, ⟨(cFa 30 29 2), [], [11,1,0,2,3,4,5,6,7,8,9,10]⟩, ⟨⟨none, none, [30,28], none, .w (.st 1 (.t 30) (.t 28))⟩, [], [12,11,1,0,2,3,4,5,6,7,8,9,10]⟩])) (.drp 3 (.keep [1,2,3,4] (.reg false [(cMv 16 4), (cC 17 .add 16 1), (cMv 4 17)])))))))))) (.keep [1,2,3] (.seq (.any false 6 [⟨⟨(some 31), none, [], (some 0), .w (.bso 1 0 [(.i 0)] [])⟩, [], []⟩, ⟨(cFa 32 1 1), [0], []⟩, ⟨(cLd 33 32 false 1), [0], [1]⟩, ⟨⟨(some 34), none, [31,33], (some 1), .w (.app 1 (.t 31) (.t 33))⟩, [], [0,2,1]⟩, ⟨⟨(some 35), none, [], (some 2), .w (.bso 2 0 [(.i 0), (.i 0)] [])⟩, [0,1,2,3], []⟩, ⟨(cFa 36 1 3), [0,3,4], []⟩, ⟨(cLd 37 36 false 1), [0,3,4], [5]⟩, ⟨⟨(some 38), none, [35,37], (some 3), .w (.app 2 (.t 35) (.t 37))⟩, [], [4,6,5,3,0,2,1]⟩, ⟨⟨(some 39), none, [], (some 4), .w (.bso 1 0 [(.i 0)] [])⟩, [0,1,2,3,4,5,6,7], []⟩, ⟨(cFa 40 1 4), [0,3,4,7,8], []⟩, ⟨(cLd 41 40 false 1), [0,3,4,7,8], [9]⟩, ⟨⟨(some 42), none, [39,41], (some 5), .w (.app 1 (.t 39) (.t 41))⟩, [], [8,10,9,7,4,6,5,3,0,2,1]⟩, ⟨(cFa 43 3 1), [4,7,8,11], [0,1,2,3]⟩, ⟨⟨none, none, [43,34], none, .w (.st 1 (.t 43) (.t 34))⟩, [], [12,0,1,2,3,11,8,10,9,7,4,6,5]⟩, ⟨(cFa 44 3 3), [], [0,1,2,3,4,5,6,7,12,13,11,8,10,9]⟩, ⟨⟨none, none, [44,38], none, .w (.st 1 (.t 44) (.t 38))⟩, [], [14,0,1,2,3,4,5,6,7,12,13,11,8,10,9]⟩, ⟨(cFa 45 3 4), [], [0,1,2,3,4,5,6,7,8,9,10,11,12,13,14,15]⟩, ⟨⟨none, none, [45,42], none, .w (.st 1 (.t 45) (.t 42))⟩, [], [16,0,1,2,3,4,5,6,7,8,9,10,11,12,13,14,15]⟩]) (.keep [2,3] (.seq (.reg false [(cLd 46 3 true 6), ⟨none, none, [2,46], none, .w (.st 6 (.t 2) (.t 46))⟩]) .ret)))))))))))
def pu55 : List Nat := [1]
def rs55 : List RV := [.c 2 true 6]
theorem cc55 : comp Try.prog pu55 (Try.f55.ntmps, 0) 0 1 rc55 (Try.f55.body.getD .skip) = some rc55 := by kernel_rfl
theorem cb55 : Try.f55.body = some (Try.f55.body.getD .skip) := by kernel_rfl
theorem cs55 : resRV Try.prog Try.f55.results.toList = some rs55 := by kernel_rfl
theorem cn55 : 1 ≤ Try.f55.ntmps := by decide
def rc57 : RC := (.seq (.reg false [(cX 1 0), (cQ 2 [] (.mv (kB false)))]) (.keep [1] (.seq (.seq (.reg true [(cFa 8 1 0), (cLd 9 8 false 1), (cLn 10 9), (cC 11 .gtr 10 20), (cMv 12 11), (gQ 13 12 false [1] (.fad 1 (.t 1))), (gQ 14 12 false [13] (.ld false 1 (.t 13))), (gQ 15 12 false [14] (.len (.t 14))), (gQ 16 12 false [15] (.bin .gtr (.t 15) (kI 60))), (cQ 17 [12,16] (.pick (.t 12) (kB true) (.t 16))), (cMv 18 17), (gQ 19 18 false [1] (.fad 3 (.t 1))), (gQ 20 18 false [19] (.ld false 1 (.t 19))), (gQ 21 18 false [20] (.len (.t 20))), (gQ 22 18 false [21] (.bin .gtr (.t 21) (kI 60))), (cQ 23 [18,22] (.pick (.t 18) (kB true) (.t 22))), (cMv 24 23), (gQ 25 24 false [1] (.fad 4 (.t 1))), (gQ 26 24 false [25] (.ld false 1 (.t 25))), (gQ 27 24 false [26] (.len (.t 26))), (gQ 28 24 false [27] (.bin .gtr (.t 27) (kI 60))), (cQ 29 [24,28] (.pick (.t 24) (kB true) (.t 28)))]) (.keep [1,29] (.cond (.t 29) (.seq (.reg false [(cQ 2 [] (.mv (kB true)))]) .ret) .skip))) (.keep [1] (.seq (.seq (.reg false [(cI 3 0)]) (.keep [1,3] (.block 0 (.loop [1,3] none (.seq (.seq (.reg false [(cMv 30 3), (cFa 31 1 0), (cLd 32 31 false 1), (cLn 33 32), (cB 34 .lss 30 33)]) (.keep [1,3,34] (.cond (.t 34) .skip (.exit 0)))) (.keep [1,3] (.seq (.block 1 (.seq (.reg false [(cFa 37 1 0), (cLd 38 37 false 1), (cMv 39 3), (cA 40 4 38 39), (cFa 41 40 2), (cLd 42 41 false 1), (cLn 43 42), (cC 44 .gtr 43 60)]) (.keep [1,3,44] (.cond (.t 44) (.seq (.reg false [(cQ 2 [] (.mv (kB true)))]) .ret) .skip)))) (.keep [1,3] (.reg false [(cMv 35 3), (cC 36 .add 35 1), (cMv 3 36)]))))))))) (.keep [1] (.seq (.seq (.reg false [(cLd 45 1 true 6), (cQ 46 [45] (.call (kF 58) [(.t 45)])), (cC 47 .neq 46 0)]) (.keep [1,47] (.cond (.t 47) (.seq (.reg false [(cQ 2 [] (.mv (kB false)))]) .ret) .skip))) (.keep [1] (.seq (.reg false [(cI 4 1)]) (.keep [1,4] (.seq (.seq (.reg false [(cI 5 0)]) (.keep [1,4,5] (.block 2 (.loop [1,4,5] none (.seq (.seq (.reg false [(cMv 48 5), (cFa 49 1 0), (cLd 50 49 false 1), (cLn 51 50), (cB 52 .lss 48 51)]) (.keep [1,4,5,52] (.cond (.t 52) .skip (.exit 2)))) (.keep [1,4,5] (.seq (.block 3 (.seq (.reg false [(cI 6 0)]) (.keep [1,4,5,6] (.seq (.seq (.reg false [(cFa 55 1 0), (cLd 56 55 false 1), (cMv 57 5), (cA 58 4 56 57), (cFa 59 58 0), (cFa 60 59 0), (cLd 61 60 false 1), (cMv 7 61)]) (.keep [1,4,5,6,7] (.block 4 (.loop [1,4,5,6,7] none (.seq (.seq (.reg false [(cMv 62 7), (cFa 63 1 0), (cLd 64 63 false 1), (cMv 65 5), (cA 66 4 64 65), (cFa 67 66 0), (cFa 68 67 1), (cLd 69 68 false 1), (cB 70 .leq 62 69)]) (.keep [1,4,5,6,7,70] (.cond (.t 70) .skip (.exit 4)))) (.keep [1,4,5,6,7] (.seq (.block 5 (.seq (.reg false [(cFa 73 1 0), (cLd 74 73 false 1), (cMv 75 5), (cA 76 4 74 75), (cLd 77 76 true 4), (cMv 78 7), (cQ 79 [77,78] (.call (kF 69) [(.t 77), (.t 78)]))]) (.keep [1,4,5,6,7,79] (.cond (.t 79) (.reg false [(cMv 80 6), (cC 81 .add 80 1), (cMv 6 81)]) .skip)))) (.keep [1,4,5,6,7] (.reg false [(cMv 71 7), (cC 72 .add 71 1), (cMv 7 72)]))))))))) (.keep [1,4,5,6] (.reg false [(cMv 82 4), (cMv 83 6), (cB 84 .mul 82 83), (cMv 4 84)])))))) (.keep [1,4,5] (.reg false [(cMv 53 5), (cC 54 .add 53 1), (cMv 5 54)]))))))))) (.keep [1,4] (.seq (.reg true [(cMv 85 4), (cC 86 .gtr 85 49), (cMv 87 86), (gQ 88 87 false [1] (.fad 1 (.t 1))), (gQ 89 87 false [88] (.ld false 1 (.t 88))), (gQ 90 87 false [89] (.len (.t 89))), (gQ 91 87 false [90] (.bin .gtr (.t 90) (kI 8))), (cQ 92 [87,91] (.pick (.t 87) (kB true) (.t 91))), (cMv 93 92), (gQ 94 93 false [1] (.fad 3 (.t 1))), (gQ 95 93 false [94] (.ld false 1 (.t 94))), (gQ 96 93 false [95] (.len (.t 95))), (gQ 97 93 false [96] (.bin .gtr (.t 96) (kI 4))), (cQ 98 [93,97] (.pick (.t 93) (kB true) (.t 97))), (cMv 2 98)]) .ret)))))))))))))
def pu57 : List Nat := [1]
def rs57 : List RV := [.t 2]
theorem cc57 : comp Try.prog pu57 (Try.f57.ntmps, 0) 0 1 rc57 (Try.f57.body.getD .skip) = some rc57 := by kernel_rfl
theorem cb57 : Try.f57.body = some (Try.f57.body.getD .skip) := by kernel_rfl
theorem cs57 : resRV Try.prog Try.f57.results.toList = some rs57 := by kernel_rfl
theorem cn57 : 1 ≤ Try.f57.ntmps := by decide
def rc58 : RC := (.seq (.reg false [(cX 1 0), (cI 2 0)]) (.keep [1] (.seq (.seq (.reg true [(cFa 6 1 0), (cLd 7 6 false 1), (cLn 8 7), (cQ 9 [8] (.call (kF 88) [(.t 8), (kI 1), (kI 4)])), (cN 10 9), (cMv 11 10), (gQ 12 11 false [1] (.fad 1 (.t 1))), (gQ 13 11 false [12] (.ld false 1 (.t 12))), (gQ 14 11 false [13] (.len (.t 13))), (gQ 15 11 false [14] (.call (kF 88) [(.t 14), (kI 3), (kI 16)])), (gQ 16 11 false [15] (.not (.t 15))), (cQ 17 [11,16] (.pick (.t 11) (kB true) (.t 16))), (cMv 18 17), (gQ 19 18 false [1] (.fad 2 (.t 1))), (gQ 20 18 false [19] (.ld false 1 (.t 19))), (gQ 21 18 false [20] (.call (kF 88) [(.t 20), (kI 0), (kI 20)])), (gQ 22 18 false [21] (.not (.t 21))), (cQ 23 [18,22] (.pick (.t 18) (kB true) (.t 22))), (cMv 24 23), (gQ 25 24 false [1] (.fad 3 (.t 1))), (gQ 26 24 false [25] (.ld false 1 (.t 25))), (gQ 27 24 false [26] (.len (.t 26))), (gQ 28 24 false [27] (.call (kF 88) [(.t 27), (kI 1), (kI 12)])), (gQ 29 24 false [28] (.not (.t 28))), (cQ 30 [24,29] (.pick (.t 24) (kB true) (.t 29))), (cMv 31 30), (gQ 32 31 false [1] (.fad 4 (.t 1))), (gQ 33 31 false [32] (.ld false 1 (.t 32))), (gQ 34 31 false [33] (.len (.t 33))), (gQ 35 31 false [1] (.fad 3 (.t 1))), (gQ 36 31 false [35] (.ld false 1 (.t 35))), (gQ 37 31 false [36] (.len (.t 36))), (gQ 38 31 false [34,37] (.bin .neq (.t 34) (.t 37))), (cQ 39 [31,38] (.pick (.t 31) (kB true) (.t 38))), (cMv 40 39), (gQ 41 40 false [1] (.fad 5 (.t 1))), (gQ 42 40 false [41] (.ld false 1 (.t 41))), (gQ 43 40 false [42] (.call (kF 88) [(.t 42), (kI 0), (kI 500)])), (gQ 44 40 false [43] (.not (.t 43))), (cQ 45 [40,44] (.pick (.t 40) (kB true) (.t 44)))]) (.keep [1,45] (.cond (.t 45) (.seq (.reg false [(cI 2 20)]) .ret) .skip))) (.keep [1] (.seq (.seq (.reg false [(cI 3 0)]) (.keep [1,3] (.block 0 (.loop [1,3] none (.seq (.seq (.reg false [(cMv 46 3), (cFa 47 1 1), (cLd 48 47 false 1), (cLn 49 48), (cB 50 .lss 46 49)]) (.keep [1,3,50] (.cond (.t 50) .skip (.exit 0)))) (.keep [1,3] (.seq (.block 1 (.seq (.any false 0 [⟨(cFa 53 1 1), [], []⟩, ⟨(cLd 54 53 false 1), [], [0]⟩, ⟨(cMv 55 3), [], []⟩, ⟨(cA 56 1 54 55), [], [1,0,2]⟩, ⟨(cLd 57 56 false 1), [], [3,1,0,2]⟩, ⟨(cFa 58 1 0), [], []⟩, ⟨(cLd 59 58 false 1), [], [5]⟩, ⟨(cLn 60 59), [], [6,5]⟩, ⟨(cC 61 .sub 60 1), [], [7,6,5]⟩, ⟨(cQ 62 [57,61] (.call (kF 88) [(.t 57), (kI 0), (.t 61)])), [], [4,3,1,0,2,8,7,6,5]⟩, ⟨(cN 63 62), [], [9,4,3,1,0,2,8,7,6,5]⟩]) (.keep [1,3,63] (.cond (.t 63) (.seq (.reg false [(cI 2 20)]) .ret) .skip)))) (.keep [1,3] (.reg false [(cMv 51 3), (cC 52 .add 51 1), (cMv 3 52)]))))))))) (.keep [1] (.seq (.seq (.reg false [(cI 4 0)]) (.keep [1,4] (.block 2 (.loop [1,4] none (.seq (.seq (.reg false [(cMv 64 4), (cFa 65 1 3), (cLd 66 65 false 1), (cLn 67 66), (cB 68 .lss 64 67)]) (.keep [1,4,68] (.cond (.t 68) .skip (.exit 2)))) (.keep [1,4] (.seq (.block 3 (.seq (.any true 0 [⟨(cFa 71 1 3), [], []⟩, ⟨(cLd 72 71 false 1), [], [0]⟩, ⟨(cMv 73 4), [], []⟩, ⟨(cA 74 2 72 73), [], [1,0,2]⟩, ⟨(cLd 75 74 true 2), [], [3,1,0,2]⟩, ⟨(cQ 76 [75] (.call (kF 89) [(.t 75), (kI 40000)])), [], [4,3,1,0,2]⟩, ⟨(cN 77 76), [], [5,4,3,1,0,2]⟩, ⟨(cMv 78 77), [], [6,5,4,3,1,0,2]⟩, ⟨(gQ 79 78 false [1] (.fad 4 (.t 1))), [], [7,6,5,4,3,1,0,2]⟩, ⟨(gQ 80 78 false [79] (.ld false 1 (.t 79))), [], [8,7,6,5,4,3,1,0,2]⟩, ⟨(gMv 81 78 false 4), [], [7,6,5,4,3,1,0,2]⟩, ⟨(gQ 82 78 false [80,81] (.iad 1 (.t 80) (.t 81))), [], [9,8,7,6,5,4,3,1,0,2,10]⟩, ⟨(gQ 83 78 false [82] (.ld false 1 (.t 82))), [], [11,9,8,7,6,5,4,3,1,0,2,10]⟩, ⟨(gQ 84 78 false [1] (.fad 2 (.t 1))), [], [7,6,5,4,3,1,0,2]⟩, ⟨(gQ 85 78 false [84] (.ld false 1 (.t 84))), [], [13,7,6,5,4,3,1,0,2]⟩, ⟨(gQ 86 78 false [85] (.bin .mul (kI 2) (.t 85))), [], [14,13,7,6,5,4,3,1,0,2]⟩, ⟨(gQ 87 78 false [83,86] (.call (kF 88) [(.t 83), (.t 86), (kI 2000)])), [], [12,11,9,8,7,6,5,4,3,1,0,2,10,15,14,13]⟩, ⟨(gQ 88 78 false [87] (.not (.t 87))), [], [16,12,11,9,8,7,6,5,4,3,1,0,2,10,15,14,13]⟩, ⟨(cQ 89 [78,88] (.pick (.t 78) (kB true) (.t 88))), [], [7,6,5,4,3,1,0,2,17,16,12,11,9,8,10,15,14,13]⟩]) (.keep [1,4,89] (.cond (.t 89) (.seq (.reg false [(cI 2 20)]) .ret) .skip)))) (.keep [1,4] (.reg false [(cMv 69 4), (cC 70 .add 69 1), (cMv 4 70)]))))))))) (.keep [1] (.seq (.seq (.reg false [(cI 5 0)]) (.keep [1,5] (.block 4 (.loop [1,5] none (.seq (.seq (.reg false [(cMv 90 5), (cFa 91 1 0), (cLd 92 91 false 1), (cLn 93 92), (cB 94 .lss 90 93)]) (.keep [1,5,94] (.cond (.t 94) .skip (.exit 4)))) (.keep [1,5] (.seq (.block 5 (.seq (.reg false [(cFa 97 1 0), (cLd 98 97 false 1), (cMv 99 5), (cA 100 4 98 99), (cLd 101 100 true 4), (cQ 102 [101] (.call (kF 90) [(.t 101)])), (cN 103 102)]) (.keep [1,5,103] (.cond (.t 103) (.seq (.reg false [(cI 2 21)]) .ret) .skip)))) (.keep [1,5] (.reg false [(cMv 95 5), (cC 96 .add 95 1), (cMv 5 96)]))))))))) (.keep [] (.seq (.reg false [(cI 2 0)]) .ret)))))))))))
def pu58 : List Nat := [1]
def rs58 : List RV := [.t 2]
theorem cc58 : comp Try.prog pu58 (Try.f58.ntmps, 0) 0 1 rc58 (Try.f58.body.getD .skip) = some rc58 := by kernel_rfl
theorem cb58 : Try.f58.body = some (Try.f58.body.getD .skip) := by kernel_rfl
theorem cs58 : resRV Try.prog Try.f58.results.toList = some rs58 := by kernel_rfl
theorem cn58 : 1 ≤ Try.f58.ntmps := by decide
def rc69 : RC := (.seq (.reg false [(cX 2 0), (cQ 4 [] (.mv (kB false)))]) (.keep [1,2] (.seq (.any true 0 [⟨(cMv 5 1), [], []⟩, ⟨(cFa 6 2 0), [], []⟩, ⟨(cFa 7 6 0), [], [1]⟩, ⟨(cLd 8 7 false 1), [], [2,1]⟩, ⟨(cFa 9 2 0), [], []⟩, ⟨(cFa 10 9 1), [], [4]⟩, ⟨(cLd 11 10 false 1), [], [5,4]⟩, ⟨(cQ 12 [5,8,11] (.call (kF 88) [(.t 5), (.t 8), (.t 11)])), [], [0,3,2,1,6,5,4]⟩, ⟨(cMv 13 12), [], [7,0,3,2,1,6,5,4]⟩, ⟨(gQ 14 13 true [2] (.ld true 4 (.t 2))), [], [8,7,0,3,2,1,6,5,4]⟩, ⟨(gMv 15 13 true 1), [], [8,7,0,3,2,1,6,5,4]⟩, ⟨(gQ 16 13 true [14,15] (.call (kF 93) [(.t 14), (.t 15)])), [], [9,8,7,0,3,2,1,6,5,4,10]⟩, ⟨(gQ 17 13 true [2] (.fad 3 (.t 2))), [], [8,7,0,3,2,1,6,5,4]⟩, ⟨(gQ 18 13 true [17] (.ld false 1 (.t 17))), [], [12,8,7,0,3,2,1,6,5,4]⟩, ⟨(gQ 19 13 true [16,18] (.bin .leq (.t 16) (.t 18))), [], [11,9,8,7,0,3,2,1,6,5,4,10,13,12]⟩, ⟨(cQ 20 [13,19] (.pick (.t 13) (.t 19) (kB false))), [], [8,7,0,3,2,1,6,5,4,14,11,9,10,13,12]⟩, ⟨(cMv 4 20), [], [15,8,7,0,3,2,1,6,5,4,14,11,9,10,13,12]⟩]) .ret)))
def pu69 : List Nat := [2]
def rs69 : List RV := [.t 4]
theorem cc69 : comp Try.prog pu69 (Try.f69.ntmps, 0) 0 1 rc69 (Try.f69.body.getD .skip) = some rc69 := by kernel_rfl
theorem cb69 : Try.f69.body = some (Try.f69.body.getD .skip) := by kernel_rfl
theorem cs69 : resRV Try.prog Try.f69.results.toList = some rs69 := by kernel_rfl
theorem cn69 : 2 ≤ Try.f69.ntmps := by decide
def rc72 : RC := (.seq (.reg false [(cI 4 0)]) (.keep [0,1] (.seq (.reg false [(cMv 5 0), (cMv 6 1), (cQ 7 [6] (.bin .add (kI 1000) (.t 6))), (cB 8 .mul 5 7), (cC 9 .quo 8 1000), (cMv 4 9)]) .ret)))
def pu72 : List Nat := []
def rs72 : List RV := [.t 4]
theorem cc72 : comp Try.prog pu72 (Try.f72.ntmps, 0) 0 1 rc72 (Try.f72.body.getD .skip) = some rc72 := by kernel_rfl
theorem cb72 : Try.f72.body = some (Try.f72.body.getD .skip) := by kernel_rfl
theorem cs72 : resRV Try.prog Try.f72.results.toList = some rs72 := by kernel_rfl
theorem cn72 : 2 ≤ Try.f72.ntmps := by decide
def rc74 : RC := (.seq (.reg false [(cX 1 0), (cI 2 0)]) (.keep [1] (.seq (.block 0 (.seq (.reg false [(cLd 4 1 true 6), (cQ 5 [4] (.call (kF 94) [(.t 4)])), (cN 6 5), (cMv 3 6)]) (.keep [1,3] (.cond (.t 3) (.seq (.reg false [(cI 2 20)]) .ret) (.seq (.reg false [(cFa 8 1 0), (cLd 9 8 false 1), (cQ 10 [9] (.call (kF 95) [(.t 9), (kF 96)])), (cN 11 10), (cMv 7 11)]) (.keep [7] (.cond (.t 7) (.seq (.reg false [(cI 2 21)]) .ret) .skip))))))) (.keep [] (.seq (.reg false [(cI 2 0)]) .ret)))))
def pu74 : List Nat := [1]
def rs74 : List RV := [.t 2]
theorem cc74 : comp Try.prog pu74 (Try.f74.ntmps, 0) 0 1 rc74 (Try.f74.body.getD .skip) = some rc74 := by kernel_rfl
theorem cb74 : Try.f74.body = some (Try.f74.body.getD .skip) := by kernel_rfl
theorem cs74 : resRV Try.prog Try.f74.results.toList = some rs74 := by kernel_rfl
theorem cn74 : 1 ≤ Try.f74.ntmps := by decide
def rc77 : RC := (.seq (.reg false [(cX 2 0), ⟨(some 4), none, [], none, .w (.alc [(.i 0), (.i 0)])⟩, (cI 5 0)]) (.keep [1,2,4] (.seq (.any false 0 [⟨(cLd 9 2 true 6), [], []⟩, ⟨(cLd 10 2 true 6), [], []⟩, ⟨(cMv 11 1), [], []⟩, ⟨(cQ 12 [10,11] (.call (kF 97) [(.t 10), (.t 11)])), [], [1,2]⟩, ⟨(cQ 13 [9,12] (.call (kF 79) [(.t 9), (.t 12)])), [], [0,3,1,2]⟩, ⟨(cMv 8 13), [], [4,0,3,1,2]⟩, ⟨(cEx 14 8 0), [], [5,4,0,3,1,2]⟩, ⟨(cEx 15 8 1), [], [5,4,0,3,1,2]⟩, ⟨(cMv 6 14), [], [6,5,4,0,3,1,2]⟩, ⟨(cMv 7 15), [], [7,5,4,0,3,1,2,8,6]⟩]) (.keep [1,2,4,6,7] (.seq (.seq (.reg false [(cMv 16 7), (cC 17 .neq 16 0)]) (.keep [1,2,4,6,7,17] (.cond (.t 17) (.seq (.reg false [(cQ 18 [] (.bld [(.i 0), (.i 0)] [])), (cMv 19 7), ⟨none, none, [4,18], none, .w (.st 2 (.t 4) (.t 18))⟩, (cMv 5 19)]) .ret) .skip))) (.keep [1,2,4,6] (.seq (.reg false [(cMv 20 6), (cFa 21 2 4), (cLd 22 21 false 1), (cMv 23 1), (cA 24 1 22 23), (cLd 25 24 false 1), (cQ 26 [20,25] (.call (kF 98) [(.t 20), (.t 25)])), ⟨none, none, [4,26], none, .w (.st 2 (.t 4) (.t 26))⟩, (cI 5 0)]) .ret)))))))
def pu77 : List Nat := [2]
def rs77 : List RV := [.c 4 true 2, .t 5]
theorem cc77 : comp Try.prog pu77 (Try.f77.ntmps, 0) 0 1 rc77 (Try.f77.body.getD .skip) = some rc77 := by kernel_rfl
theorem cb77 : Try.f77.body = some (Try.f77.body.getD .skip) := by kernel_rfl
theorem cs77 : resRV Try.prog Try.f77.results.toList = some rs77 := by kernel_rfl
theorem cn77 : 2 ≤ Try.f77.ntmps := by decide
def rc78 : RC := (.seq (.reg false [⟨(some 0), none, [], none, .w (.alc [(.z 4), (.z 1), (.i 0), (.z 2), (.z 1), (.i 0)])⟩]) (.keep [0] (.seq (.reg false [(cQ 1 [] (.bld [(.i 0), (.i 0)] [(1,1, (kI 20))])), (cQ 2 [] (.bld [(.i 0), (.i 0)] [(0,1, (kI 1005)), (1,1, (kI 1010))])), (cQ 3 [2] (.bld [(.i 0), (.i 0), (.i 0)] [(0,1, (kI 1000)), (1,2, (.t 2))])), (cQ 4 [3] (.bsl 3 1 [(.i 0), (.i 0), (.i 0)] [(0,3, (.t 3))])), (cQ 5 [1,4] (.bld [(.i 0), (.i 0), (.z 3), (.i 0)] [(0,2, (.t 1)), (2,1, (.t 4))])), (cQ 6 [] (.bld [(.i 0), (.i 0)] [(1,1, (kI 10))])), (cQ 7 [6] (.bld [(.i 0), (.i 0), (.z 3), (.i 0)] [(0,2, (.t 6))])), (cQ 8 [5,7] (.bsl 4 2 [(.i 0), (.i 0), (.z 3), (.i 0)] [(0,4, (.t 5)), (4,4, (.t 7))])), (cQ 9 [] (.bsl 1 4 [(.i 0)] [(0,1, (kI 0)), (1,1, (kI 0)), (2,1, (kI 1)), (3,1, (kI 1))])), (cQ 10 [] (.bld [(.i 0), (.i 0)] [(0,1, (kI 400)), (1,1, (kI 404))])), (cQ 11 [] (.bld [(.i 0), (.i 0)] [(0,1, (kI 600)), (1,1, (kI 650))])), (cQ 12 [] (.bld [(.i 0), (.i 0)] [(0,1, (kI 803)), (1,1, (kI 806))])), ⟨(some 13), none, [10,11,12], none, .w (.bso 2 3 [(.i 0), (.i 0)] [(0,2, (.t 10)), (2,2, (.t 11)), (4,2, (.t 12))])⟩, (cQ 14 [] (.bsl 1 3 [(.i 0)] [(0,1, (kI 110)), (1,1, (kI 165)), (2,1, (kI 210))])), (cQ 15 [8,9,13,14] (.bld [(.z 4), (.z 1), (.i 0), (.z 2), (.z 1), (.i 0)] [(0,1, (.t 8)), (1,1, (.t 9)), (2,1, (kI 5)), (3,1, (.t 13)), (4,1, (.t 14)), (5,1, (kI 50))])), ⟨none, none, [0,15], none, .w (.st 6 (.t 0) (.t 15))⟩]) .ret)))
def pu78 : List Nat := [4,8,9,14]
def rs78 : List RV := [.c 0 true 6]
theorem cc78 : comp Try.prog pu78 (Try.f78.ntmps, 0) 0 1 rc78 (Try.f78.body.getD .skip) = some rc78 := by kernel_rfl
theorem cb78 : Try.f78.body = some (Try.f78.body.getD .skip) := by kernel_rfl
theorem cs78 : resRV Try.prog Try.f78.results.toList = some rs78 := by kernel_rfl
theorem cn78 : 0 ≤ Try.f78.ntmps := by decide
def rc79 : RC := (.seq (.reg false [(cX 2 0), (cQ 4 [] (.mv (.k .pn))), (cI 5 0)]) (.keep [1,2,31] (.seq (.seq (.reg false [(cLd 12 2 true 6), (cQ 13 [12] (.call (kF 74) [(.t 12)])), (cMv 6 13)]) (.keep [1,2,6,31] (.seq (.reg false [(cMv 14 6), (cC 15 .neq 14 0)]) (.keep [1,2,6,15,31] (.cond (.t 15) (.seq (.reg false [(cMv 16 6), (cQ 4 [] (.mv (.k .pn))), (cMv 5 16)]) .ret) .skip))))) (.keep [1,2,31] (.seq (.seq (.reg false [(cMv 17 1), (cN 18 17)]) (.keep [2,18,31] (.cond (.t 18) (.seq (.reg false [(cQ 4 [] (.mv (.k .pn))), (cI 5 1)]) .ret) .skip))) (.keep [2,31] (.seq (.reg false [(cLd 19 2 true 6), (cQ 20 [19] (.bld [(.z 4), (.z 1), (.i 0), (.z 2), (.z 1), (.i 0), (.z 1)] [(0,6, (.t 19))])), ⟨(some 21), none, [20], none, .w (.bxo (.t 20))⟩, (cMv 7 21)]) (.keep [2,7,31] (.seq (.seq (.reg false [(cFa 22 2 0), (cLd 23 22 false 1), (cLn 24 23), (cI 25 0)]) (.keep [7,23,24,25,31] (.block 0 (.ownc 7 6 1 (.loop [7,23,24,25,31] (some 2) (.seq (.reg false [(cB 26 .lss 25 24)]) (.keep [7,23,24,25,26,31] (.seq (.cond (.t 26) .skip (.exit 0)) (.keep [7,23,24,25,31] (.seq (.block 1 (.seq (.reg false [(cA 27 4 23 25), (cLd 28 27 true 4), ⟨(some 9), none, [], none, .w (.alc [(.i 0), (.i 0), (.z 3), (.i 0)])⟩, ⟨none, none, [9,28], none, .w (.st 4 (.t 9) (.t 28))⟩]) (.keep [7,9,23,24,25,31] (.seq (.reg false [⟨(some 10), none, [], none, .w (.alc [(.z 1)])⟩]) (.keep [7,9,10,23,24,25,31] (.seq (.seq (.reg false [(cLd 29 9 true 4), (cQ 30 [29] (.call (kF 99) [(.t 29)]))]) (.keep [7,9,10,23,24,25,30,31] (.block 2 (.ownc 10 0 1 (.rfn (.t 30) [31] 5 (.reg false [(cMv 11 31)]) (.block 3 (.seq (.any false 0 [⟨(cLd 32 9 true 4), [], []⟩, ⟨(cMv 33 11), [], []⟩, ⟨(cQ 34 [32,33] (.call (kF 100) [(.t 32), (.t 33)])), [], [0,1]⟩, ⟨(cFa 35 9 3), [], []⟩, ⟨(cLd 36 35 false 1), [], [3]⟩, ⟨(cB 37 .leq 34 36), [], [2,0,1,4,3]⟩]) (.keep [10,11,37] (.cond (.t 37) (.reg false [(cLd 38 10 false 1), (cMv 39 11), (cQ 40 [39] (.bsl 1 1 [(.i 0)] [(0,1, (.t 39))])), ⟨(some 41), none, [38,40], none, .w (.app 1 (.t 38) (.t 40))⟩, ⟨none, none, [10,41], none, .w (.st 1 (.t 10) (.t 41))⟩]) .skip))))))))) (.keep [7,10,23,24,25,31] (.seq (.seq (.reg false [(cLd 42 10 false 1), (cLn 43 42), (cC 44 .eql 43 0)]) (.keep [7,10,23,24,25,31,44] (.cond (.t 44) (.seq (.reg false [(cQ 4 [] (.mv (.k .pn))), (cI 5 3)]) .ret) .skip))) (.keep [7,10,23,24,25,31] (.drp 2 (.any false 1 [⟨(cMv 45 7), [], []⟩, ⟨(cMv 46 7), [], []⟩, ⟨(cZ 47 46), [], [1]⟩, ⟨(cFa 48 47 6), [], [2,1]⟩, ⟨(cLd 49 48 false 1), [], [3,2,1]⟩, ⟨(cLd 50 10 false 1), [], []⟩, ⟨(cQ 51 [50] (.bsl 1 1 [(.z 1)] [(0,1, (.t 50))])), [], [5]⟩, ⟨⟨(some 52), none, [49,51], (some 0), .w (.app 1 (.t 49) (.t 51))⟩, [0], [4,3,2,1,6,5]⟩, ⟨(cZ 53 45), [], [0,1,2,3,4,5,6,7]⟩, ⟨(cFa 54 53 6), [], [8,0,1,2,3,4,5,6,7]⟩, ⟨⟨none, none, [54,52], none, .w (.st 1 (.t 54) (.t 52))⟩, [], [9,8,0,1,2,3,4,5,6,7]⟩]))))))))))) (.drp 2 (.keep [7,23,24,25,31] (.reg false [(cC 55 .add 25 1), (cMv 25 55)]))))))))))))) (.keep [7] (.seq (.reg false [(cMv 56 7), (cMv 4 56), (cI 5 0)]) .ret)))))))))))
def pu79 : List Nat := [2,40,51]
def rs79 : List RV := [.t 4, .t 5]
theorem cc79 : comp Try.prog pu79 (Try.f79.ntmps, 0) 0 1 rc79 (Try.f79.body.getD .skip) = some rc79 := by kernel_rfl
theorem cb79 : Try.f79.body = some (Try.f79.body.getD .skip) := by kernel_rfl
theorem cs79 : resRV Try.prog Try.f79.results.toList = some rs79 := by kernel_rfl
theorem cn79 : 2 ≤ Try.f79.ntmps := by decide
def rc80 : RC := (.seq (.reg false [(cI 6 0)]) (.keep [0,1,2] (.seq (.reg false [(cMv 10 0), (cZ 11 10), (cFa 12 11 0), (cFa 13 12 3), (cLd 14 13 false 1), (cMv 15 1), (cA 16 2 14 15), (cLd 17 16 true 2), ⟨(some 7), none, [], none, .w (.alc [(.i 0), (.i 0)])⟩, ⟨none, none, [7,17], none, .w (.st 2 (.t 7) (.t 17))⟩]) (.keep [0,2,7] (.seq (.seq (.reg false [(cMv 18 0), (cMv 19 2), (cQ 20 [18,19] (.call (kF 98) [(.t 18), (.t 19)])), ⟨(some 8), none, [], none, .w (.alc [(.i 0), (.i 0)])⟩, ⟨none, none, [8,20], none, .w (.st 2 (.t 8) (.t 20))⟩]) (.keep [0,2,7,8] (.seq (.reg true [(cFa 21 7 0), (cLd 22 21 false 1), (cFa 23 8 0), (cLd 24 23 false 1), (cB 25 .leq 22 24), (cMv 26 25), (gQ 27 26 true [8] (.fad 1 (.t 8))), (gQ 28 26 true [27] (.ld false 1 (.t 27))), (gQ 29 26 true [7] (.fad 1 (.t 7))), (gQ 30 26 true [29] (.ld false 1 (.t 29))), (gQ 31 26 true [28,30] (.bin .leq (.t 28) (.t 30))), (cQ 32 [26,31] (.pick (.t 26) (.t 31) (kB false)))]) (.keep [0,2,7,32] (.cond (.t 32) (.seq (.reg false [(cI 6 1)]) .ret) .skip))))) (.keep [0,2,7] (.seq (.seq (.crl false [(cMv 33 0), (cMv 34 2)] ⟨(some 35), none, [33,34], none, .o (kF 101) [(.t 33), (.t 34)]⟩ [⟨(some 36), none, [35], none, .w (.rng (.t 35))⟩]) (.keep [7,36] (.block 0 (.loop [7,36] none (.seq (.nxt 37 38 36) (.keep [7,36,38] (.seq (.cond (.t 38) .skip (.exit 0)) (.keep [7,36] (.block 1 (.seq (.reg false [(cQ 39 [36] (.ent (.t 36))), (cEx 40 39 0), (cMv 9 40)]) (.keep [7,9,36] (.seq (.reg false [(cMv 41 9), (cFa 42 7 0), (cLd 43 42 false 1), (cFa 44 7 1), (cLd 45 44 false 1), (cQ 46 [41,43,45] (.call (kF 102) [(.t 41), (.t 43), (.t 45)]))]) (.keep [7,36,46] (.cond (.t 46) (.seq (.reg false [(cI 6 3)]) .ret) .skip)))))))))))))) (.keep [] (.seq (.reg false [(cI 6 2)]) .ret)))))))))
def pu80 : List Nat := []
def rs80 : List RV := [.t 6]
theorem cc80 : comp Try.prog pu80 (Try.f80.ntmps, 0) 0 1 rc80 (Try.f80.body.getD .skip) = some rc80 := by kernel_rfl
theorem cb80 : Try.f80.body = some (Try.f80.body.getD .skip) := by kernel_rfl
theorem cs80 : resRV Try.prog Try.f80.results.toList = some rs80 := by kernel_rfl
theorem cn80 : 3 ≤ Try.f80.ntmps := by decide
def rc81 : RC := (.seq (.reg false [⟨(some 4), none, [], none, .w (.alc [(.i 0), (.i 0)])⟩, (cQ 5 [] (.mv (kB false)))]) (.keep [0,1,4,5] (.seq (.reg false [(cMv 9 0), (cZ 10 9), (cFa 11 10 0), (cFa 12 11 3), (cLd 13 12 false 1), (cMv 14 1), (cA 15 2 13 14), (cLd 16 15 true 2), ⟨(some 6), none, [], none, .w (.alc [(.i 0), (.i 0)])⟩, ⟨none, none, [6,16], none, .w (.st 2 (.t 6) (.t 16))⟩]) (.keep [0,4,5,6] (.seq (.seq (.reg false [(cMv 17 0), (cZ 18 17), (cFa 19 18 0), (cFa 20 19 2), (cLd 21 20 false 1), (cQ 22 [21] (.bin .mul (kI 2) (.t 21))), (cMv 7 22)]) (.keep [0,4,5,6,7] (.block 0 (.loop [0,4,5,6,7] (some 2) (.seq (.seq (.reg false [(cMv 23 7), (cC 24 .leq 23 2000)]) (.keep [0,4,5,6,7,24] (.cond (.t 24) .skip (.exit 0)))) (.keep [0,4,5,6,7] (.seq (.block 1 (.seq (.seq (.reg false [(cMv 27 0), (cMv 28 7), (cQ 29 [27,28] (.call (kF 98) [(.t 27), (.t 28)])), ⟨(some 8), none, [], none, .w (.alc [(.i 0), (.i 0)])⟩, ⟨none, none, [8,29], none, .w (.st 2 (.t 8) (.t 29))⟩]) (.keep [0,4,5,6,7,8] (.seq (.reg true [(cFa 30 8 0), (cLd 31 30 false 1), (cFa 32 6 0), (cLd 33 32 false 1), (cB 34 .lss 31 33), (cMv 35 34), (gQ 36 35 false [8] (.fad 1 (.t 8))), (gQ 37 35 false [36] (.ld false 1 (.t 36))), (gQ 38 35 false [6] (.fad 1 (.t 6))), (gQ 39 35 false [38] (.ld false 1 (.t 38))), (gQ 40 35 false [37,39] (.bin .gtr (.t 37) (.t 39))), (cQ 41 [35,40] (.pick (.t 35) (kB true) (.t 40)))]) (.keep [0,4,5,6,7,41] (.cond (.t 41) (.exit 1) .skip))))) (.keep [0,4,5,6,7] (.seq (.seq (.reg false [(cMv 42 5), (cN 43 42)]) (.keep [0,4,6,7,43] (.cond (.t 43) (.reg false [(cMv 44 7), (cFa 45 4 0), ⟨none, none, [45,44], none, .w (.st 1 (.t 45) (.t 44))⟩]) .skip))) (.keep [0,4,6,7] (.reg false [(cMv 46 7), (cFa 47 4 1), ⟨none, none, [47,46], none, .w (.st 1 (.t 47) (.t 46))⟩, (cQ 5 [] (.mv (kB true)))])))))) (.drp 2 (.keep [0,4,5,6,7] (.reg false [(cMv 25 7), (cC 26 .add 25 1), (cMv 7 26)])))))))))) (.keep [4,5] (.seq (.reg false [(cLd 48 4 true 2), (cMv 49 5), ⟨none, none, [4,48], none, .w (.st 2 (.t 4) (.t 48))⟩, (cMv 5 49)]) .ret)))))))
def pu81 : List Nat := []
def rs81 : List RV := [.c 4 true 2, .t 5]
theorem cc81 : comp Try.prog pu81 (Try.f81.ntmps, 0) 0 1 rc81 (Try.f81.body.getD .skip) = some rc81 := by kernel_rfl
theorem cb81 : Try.f81.body = some (Try.f81.body.getD .skip) := by kernel_rfl
theorem cs81 : resRV Try.prog Try.f81.results.toList = some rs81 := by kernel_rfl
theorem cn81 : 2 ≤ Try.f81.ntmps := by decide
def rc82 : RC := (.seq (.reg false [(cX 2 0), (cQ 4 [] (.mv (.k (.z 1)))), (cI 5 0)]) (.keep [1,2] (.seq (.any false 0 [⟨(cLd 9 2 true 6), [], []⟩, ⟨(cLd 10 2 true 6), [], []⟩, ⟨(cMv 11 1), [], []⟩, ⟨(cQ 12 [10,11] (.call (kF 103) [(.t 10), (.t 11)])), [], [1,2]⟩, ⟨(cQ 13 [9,12] (.call (kF 79) [(.t 9), (.t 12)])), [], [0,3,1,2]⟩, ⟨(cMv 8 13), [], [4,0,3,1,2]⟩, ⟨(cEx 14 8 0), [], [5,4,0,3,1,2]⟩, ⟨(cEx 15 8 1), [], [5,4,0,3,1,2]⟩, ⟨(cMv 6 14), [], [6,5,4,0,3,1,2]⟩, ⟨(cMv 7 15), [], [7,5,4,0,3,1,2,8,6]⟩]) (.keep [1,6,7] (.seq (.seq (.reg false [(cMv 16 7), (cC 17 .neq 16 0)]) (.keep [1,6,7,17] (.cond (.t 17) (.seq (.reg false [(cMv 18 7), (cQ 4 [] (.mv (.k (.z 1)))), (cMv 5 18)]) .ret) .skip))) (.keep [1,6] (.seq (.reg false [(cMv 19 6), (cZ 20 19), (cFa 21 20 6), (cLd 22 21 false 1), (cMv 23 1), (cA 24 1 22 23), (cLd 25 24 false 1), (cMv 4 25), (cI 5 0)]) .ret)))))))
def pu82 : List Nat := [2]
def rs82 : List RV := [.t 4, .t 5]
theorem cc82 : comp Try.prog pu82 (Try.f82.ntmps, 0) 0 1 rc82 (Try.f82.body.getD .skip) = some rc82 := by kernel_rfl
theorem cb82 : Try.f82.body = some (Try.f82.body.getD .skip) := by kernel_rfl
theorem cs82 : resRV Try.prog Try.f82.results.toList = some rs82 := by kernel_rfl
theorem cn82 : 2 ≤ Try.f82.ntmps := by decide
def rc86 : RC := (.seq (.reg false [(cX 2 0), (cQ 4 [] (.mv (.k (.z 1)))), (cI 5 0)]) (.keep [1,2] (.seq (.seq (.reg false [(cLd 9 2 true 6), (cMv 10 1), (cQ 11 [9,10] (.call (kF 105) [(.t 9), (.t 10), (kI 0)])), (cMv 8 11), (cEx 12 8 0), (cEx 13 8 1), (cMv 6 12), (cMv 7 13)]) (.keep [1,2,7] (.seq (.reg false [(cMv 14 7), (cC 15 .neq 14 0)]) (.keep [1,2,7,15] (.cond (.t 15) (.seq (.reg false [(cMv 16 7), (cQ 4 [] (.mv (.k (.z 1)))), (cMv 5 16)]) .ret) .skip))))) (.keep [1,2] (.seq (.reg false [(cFa 17 2 0), (cLd 18 17 false 1), (cMv 19 1), (cA 20 4 18 19), (cLd 21 20 true 4), (cQ 22 [21] (.call (kF 106) [(.t 21)])), (cMv 4 22), (cI 5 0)]) .ret)))))
def pu86 : List Nat := [2]
def rs86 : List RV := [.t 4, .t 5]
theorem cc86 : comp Try.prog pu86 (Try.f86.ntmps, 0) 0 1 rc86 (Try.f86.body.getD .skip) = some rc86 := by kernel_rfl
theorem cb86 : Try.f86.body = some (Try.f86.body.getD .skip) := by kernel_rfl
theorem cs86 : resRV Try.prog Try.f86.results.toList = some rs86 := by kernel_rfl
theorem cn86 : 2 ≤ Try.f86.ntmps := by decide
def rc88 : RC := (.seq (.reg false [(cQ 6 [] (.mv (kB false)))]) (.keep [0,1,2] (.seq (.reg true [(cMv 7 0), (cMv 8 1), (cB 9 .geq 7 8), (cMv 10 9), (gMv 11 10 true 0), (gMv 12 10 true 2), (gQ 13 10 true [11,12] (.bin .leq (.t 11) (.t 12))), (cQ 14 [10,13] (.pick (.t 10) (.t 13) (kB false))), (cMv 6 14)]) .ret)))
def pu88 : List Nat := []
def rs88 : List RV := [.t 6]
theorem cc88 : comp Try.prog pu88 (Try.f88.ntmps, 0) 0 1 rc88 (Try.f88.body.getD .skip) = some rc88 := by kernel_rfl
theorem cb88 : Try.f88.body = some (Try.f88.body.getD .skip) := by kernel_rfl
theorem cs88 : resRV Try.prog Try.f88.results.toList = some rs88 := by kernel_rfl
theorem cn88 : 3 ≤ Try.f88.ntmps := by decide
def rc89 : RC := (.seq (.reg false [(cX 2 0), (cQ 4 [] (.mv (kB false)))]) (.keep [1,2] (.seq (.reg true [(cFa 5 2 0), (cLd 6 5 false 1), (cQ 7 [6] (.bin .leq (kI 0) (.t 6))), (cMv 8 7), (gQ 9 8 true [2] (.fad 0 (.t 2))), (gQ 10 8 true [9] (.ld false 1 (.t 9))), (gQ 11 8 true [2] (.fad 1 (.t 2))), (gQ 12 8 true [11] (.ld false 1 (.t 11))), (gQ 13 8 true [10,12] (.bin .leq (.t 10) (.t 12))), (cQ 14 [8,13] (.pick (.t 8) (.t 13) (kB false))), (cMv 15 14), (gQ 16 15 true [2] (.fad 1 (.t 2))), (gQ 17 15 true [16] (.ld false 1 (.t 16))), (gMv 18 15 true 1), (gQ 19 15 true [17,18] (.bin .leq (.t 17) (.t 18))), (cQ 20 [15,19] (.pick (.t 15) (.t 19) (kB false))), (cMv 4 20)]) .ret)))
def pu89 : List Nat := [2]
def rs89 : List RV := [.t 4]
theorem cc89 : comp Try.prog pu89 (Try.f89.ntmps, 0) 0 1 rc89 (Try.f89.body.getD .skip) = some rc89 := by kernel_rfl
theorem cb89 : Try.f89.body = some (Try.f89.body.getD .skip) := by kernel_rfl
theorem cs89 : resRV Try.prog Try.f89.results.toList = some rs89 := by kernel_rfl
theorem cn89 : 2 ≤ Try.f89.ntmps := by decide
def rc90 : RC := (.seq (.reg false [(cX 1 0), (cQ 2 [] (.mv (kB false)))]) (.keep [1] (.seq (.seq (.reg true [(cFa 4 1 0), (cLd 5 4 true 2), (cQ 6 [5] (.call (kF 89) [(.t 5), (kI 60)])), (cN 7 6), (cMv 8 7), (gQ 9 8 false [1] (.fad 2 (.t 1))), (gQ 10 8 false [9] (.ld false 1 (.t 9))), (gQ 11 8 false [10] (.len (.t 10))), (gQ 12 8 false [11] (.bin .gtr (.t 11) (kI 8))), (cQ 13 [8,12] (.pick (.t 8) (kB true) (.t 12))), (cMv 14 13), (gQ 15 14 false [1] (.fad 3 (.t 1))), (gQ 16 14 false [15] (.ld false 1 (.t 15))), (gQ 17 14 false [16] (.call (kF 88) [(.t 16), (kI 0), (kI 2)])), (gQ 18 14 false [17] (.not (.t 17))), (cQ 19 [14,18] (.pick (.t 14) (kB true) (.t 18)))]) (.keep [1,19] (.cond (.t 19) (.seq (.reg false [(cQ 2 [] (.mv (kB false)))]) .ret) .skip))) (.keep [1] (.seq (.seq (.reg false [(cI 3 0)]) (.keep [1,3] (.block 0 (.loop [1,3] none (.seq (.seq (.reg false [(cMv 20 3), (cFa 21 1 2), (cLd 22 21 false 1), (cLn 23 22), (cB 24 .lss 20 23)]) (.keep [1,3,24] (.cond (.t 24) .skip (.exit 0)))) (.keep [1,3] (.seq (.block 1 (.seq (.reg true [(cFa 27 1 2), (cLd 28 27 false 1), (cMv 29 3), (cA 30 3 28 29), (cFa 31 30 0), (cLd 32 31 false 1), (cQ 33 [32] (.call (kF 88) [(.t 32), (kI 1), (kI 2000)])), (cN 34 33), (cMv 35 34), (gQ 36 35 false [1] (.fad 2 (.t 1))), (gQ 37 35 false [36] (.ld false 1 (.t 36))), (gMv 38 35 false 3), (gQ 39 35 false [37,38] (.iad 3 (.t 37) (.t 38))), (gQ 40 35 false [39] (.fad 1 (.t 39))), (gQ 41 35 false [40] (.ld true 2 (.t 40))), (gQ 42 35 false [41] (.call (kF 89) [(.t 41), (kI 4000)])), (gQ 43 35 false [42] (.not (.t 42))), (cQ 44 [35,43] (.pick (.t 35) (kB true) (.t 43)))]) (.keep [1,3,44] (.cond (.t 44) (.seq (.reg false [(cQ 2 [] (.mv (kB false)))]) .ret) .skip)))) (.keep [1,3] (.reg false [(cMv 25 3), (cC 26 .add 25 1), (cMv 3 26)]))))))))) (.keep [] (.seq (.reg false [(cQ 2 [] (.mv (kB true)))]) .ret)))))))
def pu90 : List Nat := [1]
def rs90 : List RV := [.t 2]
theorem cc90 : comp Try.prog pu90 (Try.f90.ntmps, 0) 0 1 rc90 (Try.f90.body.getD .skip) = some rc90 := by kernel_rfl
theorem cb90 : Try.f90.body = some (Try.f90.body.getD .skip) := by kernel_rfl
theorem cs90 : resRV Try.prog Try.f90.results.toList = some rs90 := by kernel_rfl
theorem cn90 : 1 ≤ Try.f90.ntmps := by decide
def rc93 : RC := (.seq (.reg false [(cX 2 0), (cI 4 0)]) (.keep [1,2] (.seq (.reg false [(cI 5 0)]) (.keep [1,2,5] (.seq (.seq (.reg false [(cI 6 0)]) (.keep [1,2,5,6] (.block 0 (.loop [1,2,5,6] none (.seq (.seq (.reg false [(cMv 7 6), (cFa 8 2 2), (cLd 9 8 false 1), (cLn 10 9), (cB 11 .lss 7 10)]) (.keep [1,2,5,6,11] (.cond (.t 11) .skip (.exit 0)))) (.keep [1,2,5,6] (.seq (.block 1 (.seq (.any false 0 [⟨(cFa 14 2 2), [], []⟩, ⟨(cLd 15 14 false 1), [], [0]⟩, ⟨(cMv 16 6), [], []⟩, ⟨(cA 17 3 15 16), [], [1,0,2]⟩, ⟨(cFa 18 17 0), [], [3,1,0,2]⟩, ⟨(cLd 19 18 false 1), [], [4,3,1,0,2]⟩, ⟨(cMv 20 1), [], []⟩, ⟨(cQ 21 [19,20] (.call (kF 72) [(.t 19), (.t 20)])), [], [5,4,3,1,0,2,6]⟩, ⟨(cFa 22 2 2), [], []⟩, ⟨(cLd 23 22 false 1), [], [8]⟩, ⟨(cMv 24 6), [], []⟩, ⟨(cA 25 3 23 24), [], [9,8,10]⟩, ⟨(cFa 26 25 1), [], [11,9,8,10]⟩, ⟨(cFa 27 26 0), [], [12,11,9,8,10]⟩, ⟨(cLd 28 27 false 1), [], [13,12,11,9,8,10]⟩, ⟨(cFa 29 2 2), [], []⟩, ⟨(cLd 30 29 false 1), [], [15]⟩, ⟨(cMv 31 6), [], []⟩, ⟨(cA 32 3 30 31), [], [16,15,17]⟩, ⟨(cFa 33 32 1), [], [18,16,15,17]⟩, ⟨(cFa 34 33 1), [], [19,18,16,15,17]⟩, ⟨(cLd 35 34 false 1), [], [20,19,18,16,15,17]⟩, ⟨(cQ 36 [21,28,35] (.call (kF 88) [(.t 21), (.t 28), (.t 35)])), [], [7,5,4,3,1,0,2,6,14,13,12,11,9,8,10,21,20,19,18,16,15,17]⟩, ⟨(cN 37 36), [], [22,7,5,4,3,1,0,2,6,14,13,12,11,9,8,10,21,20,19,18,16,15,17]⟩]) (.keep [1,2,5,6,37] (.cond (.t 37) (.reg false [(cMv 38 5), (cC 39 .add 38 1), (cMv 5 39)]) .skip)))) (.keep [1,2,5,6] (.reg false [(cMv 12 6), (cC 13 .add 12 1), (cMv 6 13)]))))))))) (.keep [5] (.seq (.reg false [(cMv 40 5), (cMv 4 40)]) .ret)))))))
def pu93 : List Nat := [2]
def rs93 : List RV := [.t 4]
theorem cc93 : comp Try.prog pu93 (Try.f93.ntmps, 0) 0 1 rc93 (Try.f93.body.getD .skip) = some rc93 := by kernel_rfl
theorem cb93 : Try.f93.body = some (Try.f93.body.getD .skip) := by kernel_rfl
theorem cs93 : resRV Try.prog Try.f93.results.toList = some rs93 := by kernel_rfl
theorem cn93 : 2 ≤ Try.f93.ntmps := by decide
def rc94 : RC := (.seq (.reg false [(cX 1 0), (cQ 2 [] (.mv (kB false)))]) (.keep [1] (.seq (.reg false [(cQ 6 [1] (.mkf 107 [(.t 1)])), (cMv 3 6)]) (.keep [1,3] (.seq (.reg false [(cQ 4 [] (.mv (kF 108)))]) (.keep [1,3,4] (.seq (.reg false [(cQ 7 [1] (.mkf 110 [(.t 1)])), (cMv 5 7)]) (.keep [1,3,4,5] (.seq (.reg true [(cFa 8 1 0), (cLd 9 8 false 1), (cLn 10 9), (cQ 11 [10] (.call (kF 102) [(.t 10), (kI 1), (kI 4)])), (cMv 12 11), (gQ 13 12 true [1] (.fad 1 (.t 1))), (gQ 14 12 true [13] (.ld false 1 (.t 13))), (gQ 15 12 true [14] (.len (.t 14))), (gQ 16 12 true [15] (.call (kF 102) [(.t 15), (kI 3), (kI 16)])), (cQ 17 [12,16] (.pick (.t 12) (.t 16) (kB false))), (cMv 18 17), (gQ 19 18 true [1] (.fad 1 (.t 1))), (gQ 20 18 true [19] (.ld false 1 (.t 19))), (gMv 21 18 true 3), (gQ 22 18 true [20,21] (.call (kF 111) [(.t 20), (.t 21)])), (cQ 23 [18,22] (.pick (.t 18) (.t 22) (kB false))), (cMv 24 23), (gQ 25 24 true [1] (.fad 2 (.t 1))), (gQ 26 24 true [25] (.ld false 1 (.t 25))), (gQ 27 24 true [26] (.call (kF 102) [(.t 26), (kI 0), (kI 20)])), (cQ 28 [24,27] (.pick (.t 24) (.t 27) (kB false))), (cMv 29 28), (gQ 30 29 true [1] (.fad 3 (.t 1))), (gQ 31 29 true [30] (.ld false 1 (.t 30))), (gQ 32 29 true [31] (.len (.t 31))), (gQ 33 29 true [32] (.call (kF 102) [(.t 32), (kI 1), (kI 12)])), (cQ 34 [29,33] (.pick (.t 29) (.t 33) (kB false))), (cMv 35 34), (gQ 36 35 true [1] (.fad 3 (.t 1))), (gQ 37 35 true [36] (.ld false 1 (.t 36))), (gMv 38 35 true 4), (gQ 39 35 true [37,38] (.call (kF 112) [(.t 37), (.t 38)])), (cQ 40 [35,39] (.pick (.t 35) (.t 39) (kB false))), (cMv 41 40), (gQ 42 41 true [1] (.fad 4 (.t 1))), (gQ 43 41 true [42] (.ld false 1 (.t 42))), (gQ 44 41 true [43] (.len (.t 43))), (gQ 45 41 true [1] (.fad 3 (.t 1))), (gQ 46 41 true [45] (.ld false 1 (.t 45))), (gQ 47 41 true [46] (.len (.t 46))), (gQ 48 41 true [44,47] (.bin .eql (.t 44) (.t 47))), (cQ 49 [41,48] (.pick (.t 41) (.t 48) (kB false))), (cMv 50 49), (gQ 51 50 true [1] (.fad 4 (.t 1))), (gQ 52 50 true [51] (.ld false 1 (.t 51))), (gMv 53 50 true 5), (gQ 54 50 true [52,53] (.call (kF 111) [(.t 52), (.t 53)])), (cQ 55 [50,54] (.pick (.t 50) (.t 54) (kB false))), (cMv 56 55), (gQ 57 56 true [1] (.fad 5 (.t 1))), (gQ 58 56 true [57] (.ld false 1 (.t 57))), (gQ 59 56 true [58] (.call (kF 102) [(.t 58), (kI 0), (kI 500)])), (cQ 60 [56,59] (.pick (.t 56) (.t 59) (kB false))), (cMv 2 60)]) .ret)))))))))
def pu94 : List Nat := [1]
def rs94 : List RV := [.t 2]
theorem cc94 : comp Try.prog pu94 (Try.f94.ntmps, 0) 0 1 rc94 (Try.f94.body.getD .skip) = some rc94 := by kernel_rfl
theorem cb94 : Try.f94.body = some (Try.f94.body.getD .skip) := by kernel_rfl
theorem cs94 : resRV Try.prog Try.f94.results.toList = some rs94 := by kernel_rfl
theorem cn94 : 1 ≤ Try.f94.ntmps := by decide
def rc95 : RC := (.seq (.reg false [(cX 3 1), (cQ 4 [] (.mv (kB false)))]) (.keep [0,3] (.seq (.reg false [(cMv 5 0), (cQ 6 [3] (.mkf 114 [(.t 3)])), (cQ 7 [5,6] (.call (kF 113) [(.t 5), (.t 6)])), (cN 8 7), (cMv 4 8)]) .ret)))
def pu95 : List Nat := [3]
def rs95 : List RV := [.t 4]
theorem cc95 : comp Try.prog pu95 (Try.f95.ntmps, 0) 0 1 rc95 (Try.f95.body.getD .skip) = some rc95 := by kernel_rfl
theorem cb95 : Try.f95.body = some (Try.f95.body.getD .skip) := by kernel_rfl
theorem cs95 : resRV Try.prog Try.f95.results.toList = some rs95 := by kernel_rfl
theorem cn95 : 2 ≤ Try.f95.ntmps := by decide
def rc96 : RC := (.seq (.reg false [(cX 1 0), (cQ 2 [] (.mv (kB false)))]) (.keep [1] (.seq (.reg true [(cFa 3 1 0), (cLd 4 3 true 2), (cQ 5 [4] (.call (kF 109) [(.t 4), (kI 60)])), (cMv 6 5), (gQ 7 6 true [1] (.fad 2 (.t 1))), (gQ 8 6 true [7] (.ld false 1 (.t 7))), (gQ 9 6 true [8] (.len (.t 8))), (gQ 10 6 true [9] (.bin .leq (.t 9) (kI 8))), (cQ 11 [6,10] (.pick (.t 6) (.t 10) (kB false))), (cMv 12 11), (gQ 13 12 true [1] (.fad 2 (.t 1))), (gQ 14 12 true [13] (.ld false 1 (.t 13))), (gQ 15 12 true [14] (.call (kF 115) [(.t 14), (kF 116)])), (cQ 16 [12,15] (.pick (.t 12) (.t 15) (kB false))), (cMv 17 16), (gQ 18 17 true [1] (.fad 3 (.t 1))), (gQ 19 17 true [18] (.ld false 1 (.t 18))), (gQ 20 17 true [19] (.call (kF 102) [(.t 19), (kI 0), (kI 2)])), (cQ 21 [17,20] (.pick (.t 17) (.t 20) (kB false))), (cMv 2 21)]) .ret)))
def pu96 : List Nat := [1]
def rs96 : List RV := [.t 2]
theorem cc96 : comp Try.prog pu96 (Try.f96.ntmps, 0) 0 1 rc96 (Try.f96.body.getD .skip) = some rc96 := by kernel_rfl
theorem cb96 : Try.f96.body = some (Try.f96.body.getD .skip) := by kernel_rfl
theorem cs96 : resRV Try.prog Try.f96.results.toList = some rs96 := by kernel_rfl
theorem cn96 : 1 ≤ Try.f96.ntmps := by decide
def rc97 : RC := (.seq (.reg false [(cX 2 0), (cQ 4 [] (.mv (kB false)))]) (.keep [1,2] (.seq (.reg false [(cMv 5 1), (cFa 6 2 3), (cLd 7 6 false 1), (cLn 8 7), (cC 9 .sub 8 1), (cQ 10 [5,9] (.call (kF 102) [(.t 5), (kI 0), (.t 9)])), (cMv 4 10)]) .ret)))
def pu97 : List Nat := [2]
def rs97 : List RV := [.t 4]
theorem cc97 : comp Try.prog pu97 (Try.f97.ntmps, 0) 0 1 rc97 (Try.f97.body.getD .skip) = some rc97 := by kernel_rfl
theorem cb97 : Try.f97.body = some (Try.f97.body.getD .skip) := by kernel_rfl
theorem cs97 : resRV Try.prog Try.f97.results.toList = some rs97 := by kernel_rfl
theorem cn97 : 2 ≤ Try.f97.ntmps := by decide
def rc98 : RC := (.seq (.reg false [⟨(some 4), none, [], none, .w (.alc [(.i 0), (.i 0)])⟩]) (.keep [0,1,4] (.seq (.seq (.reg false [(cMv 8 0), (cZ 9 8), (cFa 10 9 0), (cFa 11 10 1), (cLd 12 11 false 1), (cLn 13 12), (cI 14 0)]) (.keep [0,1,4,12,13,14] (.block 0 (.loop [0,1,4,12,13,14] none (.seq (.reg false [(cB 15 .lss 14 13)]) (.keep [0,1,4,12,13,14,15] (.seq (.cond (.t 15) .skip (.exit 0)) (.keep [0,1,4,12,13,14] (.seq (.block 1 (.seq (.reg false [(cA 16 1 12 14), (cLd 17 16 false 1), (cMv 6 17)]) (.keep [0,1,4,6,12,13,14] (.seq (.reg false [(cMv 18 0), (cZ 19 18), (cFa 20 19 6), (cLd 21 20 false 1), (cMv 22 6), (cA 23 1 21 22), (cLd 24 23 false 1), (cMv 7 24)]) (.keep [0,1,4,7,12,13,14] (.seq (.any false 0 [⟨(cFa 25 4 0), [], []⟩, ⟨(cLd 26 25 false 1), [], [0]⟩, ⟨(cMv 27 1), [], []⟩, ⟨(cMv 28 0), [], []⟩, ⟨(cZ 29 28), [], [3]⟩, ⟨(cFa 30 29 0), [], [4,3]⟩, ⟨(cFa 31 30 2), [], [5,4,3]⟩, ⟨(cLd 32 31 false 1), [], [6,5,4,3]⟩, ⟨(cQ 33 [32] (.bin .mul (kI 2) (.t 32))), [], [7,6,5,4,3]⟩, ⟨(cB 34 .sub 27 33), [], [2,8,7,6,5,4,3]⟩, ⟨(cMv 35 7), [], []⟩, ⟨(cQ 36 [35] (.iad 1 (.t 35) (kI 0))), [], [10]⟩, ⟨(cLd 37 36 false 1), [], [11,10]⟩, ⟨(cQ 38 [34,37] (.call (kF 117) [(.t 34), (.t 37)])), [], [9,2,8,7,6,5,4,3,12,11,10]⟩, ⟨(cB 39 .add 26 38), [], [1,0,13,9,2,8,7,6,5,4,3,12,11,10]⟩, ⟨(cFa 40 4 0), [], [0,1,2,3,4,5,6,7,8,9,10,11,12,13,14]⟩, ⟨⟨none, none, [40,39], none, .w (.st 1 (.t 40) (.t 39))⟩, [], [15,0,1,2,3,4,5,6,7,8,9,10,11,12,13,14]⟩]) (.keep [0,1,4,7,12,13,14] (.any false 0 [⟨(cFa 41 4 1), [], []⟩, ⟨(cLd 42 41 false 1), [], [0]⟩, ⟨(cMv 43 1), [], []⟩, ⟨(cMv 44 0), [], []⟩, ⟨(cZ 45 44), [], [3]⟩, ⟨(cFa 46 45 0), [], [4,3]⟩, ⟨(cFa 47 46 2), [], [5,4,3]⟩, ⟨(cLd 48 47 false 1), [], [6,5,4,3]⟩, ⟨(cQ 49 [48] (.bin .mul (kI 2) (.t 48))), [], [7,6,5,4,3]⟩, ⟨(cB 50 .sub 43 49), [], [2,8,7,6,5,4,3]⟩, ⟨(cMv 51 7), [], []⟩, ⟨(cMv 52 7), [], []⟩, ⟨(cLn 53 52), [], [11]⟩, ⟨(cC 54 .sub 53 1), [], [12,11]⟩, ⟨(cA 55 1 51 54), [], [10,13,12,11]⟩, ⟨(cLd 56 55 false 1), [], [14,10,13,12,11]⟩, ⟨(cQ 57 [50,56] (.call (kF 117) [(.t 50), (.t 56)])), [], [9,2,8,7,6,5,4,3,15,14,10,13,12,11]⟩, ⟨(cB 58 .add 42 57), [], [1,0,16,9,2,8,7,6,5,4,3,15,14,10,13,12,11]⟩, ⟨(cFa 59 4 1), [], [0,1,2,3,4,5,6,7,8,9,10,11,12,13,14,15,16,17]⟩, ⟨⟨none, none, [59,58], none, .w (.st 1 (.t 59) (.t 58))⟩, [], [18,0,1,2,3,4,5,6,7,8,9,10,11,12,13,14,15,16,17]⟩])))))))) (.keep [0,1,4,12,13,14] (.reg false [(cC 60 .add 14 1), (cMv 14 60)]))))))))))) (.keep [4] (.seq (.reg false [(cLd 61 4 true 2), ⟨none, none, [4,61], none, .w (.st 2 (.t 4) (.t 61))⟩]) .ret)))))
def pu98 : List Nat := []
def rs98 : List RV := [.c 4 true 2]
theorem cc98 : comp Try.prog pu98 (Try.f98.ntmps, 0) 0 1 rc98 (Try.f98.body.getD .skip) = some rc98 := by kernel_rfl
theorem cb98 : Try.f98.body = some (Try.f98.body.getD .skip) := by kernel_rfl
theorem cs98 : resRV Try.prog Try.f98.results.toList = some rs98 := by kernel_rfl
theorem cn98 : 2 ≤ Try.f98.ntmps := by decide
def rc99 : RC := (.seq (.reg false [(cX 1 0), (cQ 2 [] (.mv (.k .u)))]) (.keep [1] (.seq (.reg false [(cQ 3 [1] (.mkf 118 [(.t 1)])), (cMv 2 3)]) .ret)))
def pu99 : List Nat := [1]
def rs99 : List RV := [.t 2]
theorem cc99 : comp Try.prog pu99 (Try.f99.ntmps, 0) 0 1 rc99 (Try.f99.body.getD .skip) = some rc99 := by kernel_rfl
theorem cb99 : Try.f99.body = some (Try.f99.body.getD .skip) := by kernel_rfl
theorem cs99 : resRV Try.prog Try.f99.results.toList = some rs99 := by kernel_rfl
theorem cn99 : 1 ≤ Try.f99.ntmps := by decide
def rc100 : RC := (.seq (.reg false [(cX 2 0), (cI 4 0)]) (.keep [1,2,4] (.seq (.seq (.reg false [(cFa 7 2 2), (cLd 8 7 false 1), (cLn 9 8), (cI 10 0)]) (.keep [1,4,8,9,10] (.block 0 (.loop [1,4,8,9,10] (some 0) (.seq (.reg false [(cB 11 .lss 10 9)]) (.keep [1,4,8,9,10,11] (.seq (.cond (.t 11) .skip (.exit 0)) (.keep [1,4,8,9,10] (.seq (.block 1 (.seq (.reg false [(cA 12 3 8 10), (cLd 13 12 true 3), ⟨(some 6), none, [], none, .w (.alc [(.i 0), (.i 0), (.i 0)])⟩, ⟨none, none, [6,13], none, .w (.st 3 (.t 6) (.t 13))⟩]) (.keep [1,4,6,8,9,10] (.seq (.any false 0 [⟨(cFa 14 6 0), [], []⟩, ⟨(cLd 15 14 false 1), [], [0]⟩, ⟨(cMv 16 1), [], []⟩, ⟨(cQ 17 [15,16] (.call (kF 117) [(.t 15), (.t 16)])), [], [1,0,2]⟩, ⟨(cFa 18 6 1), [], []⟩, ⟨(cFa 19 18 0), [], [4]⟩, ⟨(cLd 20 19 false 1), [], [5,4]⟩, ⟨(cFa 21 6 1), [], []⟩, ⟨(cFa 22 21 1), [], [7]⟩, ⟨(cLd 23 22 false 1), [], [8,7]⟩, ⟨(cQ 24 [17,20,23] (.call (kF 102) [(.t 17), (.t 20), (.t 23)])), [], [3,1,0,2,6,5,4,9,8,7]⟩, ⟨(cN 25 24), [], [10,3,1,0,2,6,5,4,9,8,7]⟩]) (.keep [1,4,8,9,10,25] (.cond (.t 25) (.reg false [(cMv 26 4), (cC 27 .add 26 1), (cMv 4 27)]) .skip)))))) (.drp 0 (.keep [1,4,8,9,10] (.reg false [(cC 28 .add 10 1), (cMv 10 28)])))))))))))) (.keep [4] (.seq (.reg false [(cMv 29 4), (cMv 4 29)]) .ret)))))
def pu100 : List Nat := [2]
def rs100 : List RV := [.t 4]
theorem cc100 : comp Try.prog pu100 (Try.f100.ntmps, 0) 0 1 rc100 (Try.f100.body.getD .skip) = some rc100 := by kernel_rfl
theorem cb100 : Try.f100.body = some (Try.f100.body.getD .skip) := by kernel_rfl
theorem cs100 : resRV Try.prog Try.f100.results.toList = some rs100 := by kernel_rfl
theorem cn100 : 2 ≤ Try.f100.ntmps := by decide
def rc101 : RC := (.seq (.reg false [(cQ 4 [] (.mv (.k .u)))]) (.keep [0,1] (.seq (.reg false [⟨(some 15), none, [], none, .w (.mkm false)⟩, (cMv 5 15)]) (.keep [0,1,5] (.seq (.seq (.reg false [(cMv 16 0), (cZ 17 16), (cFa 18 17 0), (cFa 19 18 1), (cLd 20 19 false 1), (cLn 21 20), (cI 22 0)]) (.keep [0,1,5,20,21,22] (.block 0 (.loop [0,1,5,20,21,22] none (.seq (.reg false [(cB 23 .lss 22 21)]) (.keep [0,1,5,20,21,22,23] (.seq (.cond (.t 23) .skip (.exit 0)) (.keep [0,1,5,20,21,22] (.seq (.block 1 (.seq (.reg false [(cA 24 1 20 22), (cLd 25 24 false 1), (cMv 7 25)]) (.keep [0,1,5,7,20,21,22] (.reg false [(cMv 26 5), (cMv 27 7), (cQ 28 [26,27] (.lkp (.i 0) false 3 false (.t 26) (.t 27))), (cC 29 .add 28 1), ⟨none, none, [26,27,29], none, .w (.mup 3 false (.t 26) (.t 27) (.t 29))⟩])))) (.keep [0,1,5,20,21,22] (.reg false [(cC 30 .add 22 1), (cMv 22 30)]))))))))))) (.keep [0,1,5] (.seq (.reg false [⟨(some 31), none, [], none, .w (.mkm false)⟩, ⟨none, none, [31], none, .w (.mup 3 false (.t 31) (kI 0) (kI 1))⟩, (cMv 32 31), (cMv 8 32)]) (.keep [0,1,5,8] (.seq (.seq (.reg false [(cMv 33 5), ⟨(some 34), none, [33], none, .w (.rng (.t 33))⟩]) (.keep [0,1,8,34] (.block 2 (.loop [0,1,8,34] (some 3) (.seq (.nxt 35 36 34) (.keep [0,1,8,34,36] (.seq (.cond (.t 36) .skip (.exit 2)) (.keep [0,1,8,34] (.block 3 (.seq (.reg false [(cQ 37 [34] (.ent (.t 34))), (cEx 38 37 0), (cEx 39 37 1), (cMv 9 38), (cMv 10 39)]) (.keep [0,1,8,9,10,34] (.seq (.reg false [⟨(some 40), none, [], none, .w (.mkm false)⟩, (cMv 11 40)]) (.keep [0,1,8,9,10,11,34] (.seq (.seq (.reg false [(cMv 41 8), ⟨(some 42), none, [41], none, .w (.rng (.t 41))⟩]) (.keep [0,1,9,10,11,34,42] (.block 4 (.loop [0,1,9,10,11,34,42] none (.seq (.nxt 43 44 42) (.keep [0,1,9,10,11,34,42,44] (.seq (.cond (.t 44) .skip (.exit 4)) (.keep [0,1,9,10,11,34,42] (.block 5 (.seq (.reg false [(cQ 45 [42] (.ent (.t 42))), (cEx 46 45 0), (cMv 12 46)]) (.keep [0,1,9,10,11,12,34,42] (.seq (.reg false [(cMv 47 0), (cZ 48 47), (cFa 49 48 6), (cLd 50 49 false 1), (cMv 51 9), (cA 52 1 50 51), (cLd 53 52 false 1), (cLn 54 53), (cI 55 0)]) (.keep [0,1,9,10,11,12,34,42,53,54,55] (.block 6 (.loop [0,1,9,10,11,12,34,42,53,54,55] none (.seq (.reg false [(cB 56 .lss 55 54)]) (.keep [0,1,9,10,11,12,34,42,53,54,55,56] (.seq (.cond (.t 56) .skip (.exit 6)) (.keep [0,1,9,10,11,12,34,42,53,54,55] (.seq (.block 7 (.seq (.reg false [(cA 57 1 53 55), (cLd 58 57 false 1), (cMv 14 58)]) (.keep [0,1,9,10,11,12,14,34,42,53,54,55] (.reg false [(cMv 59 11), (cMv 60 12), (cMv 61 10), (cMv 62 1), (cMv 63 0), (cZ 64 63), (cFa 65 64 0), (cFa 66 65 2), (cLd 67 66 false 1), (cQ 68 [67] (.bin .mul (kI 2) (.t 67))), (cB 69 .sub 62 68), (cMv 70 14), (cQ 71 [69,70] (.call (kF 117) [(.t 69), (.t 70)])), (cB 72 .mul 61 71), (cB 73 .add 60 72), (cQ 74 [59,73] (.lkp (.i 0) false 3 false (.t 59) (.t 73))), (cC 75 .add 74 1), ⟨none, none, [59,73,75], none, .w (.mup 3 false (.t 59) (.t 73) (.t 75))⟩])))) (.keep [0,1,9,10,11,12,34,42,53,54,55] (.reg false [(cC 76 .add 55 1), (cMv 55 76)])))))))))))))))))))))) (.keep [0,1,11,34] (.swp 1 3 (.reg false [(cMv 77 11), (cMv 8 77)]))))))))))))))))) (.keep [8] (.seq (.swp 0 1 (.drp 1 (.reg false [(cMv 78 8), (cMv 4 78)]))) .ret)))))))))))
def pu101 : List Nat := []
def rs101 : List RV := [.t 4]
theorem cc101 : comp Try.prog pu101 (Try.f101.ntmps, 0) 0 1 rc101 (Try.f101.body.getD .skip) = some rc101 := by kernel_rfl
theorem cb101 : Try.f101.body = some (Try.f101.body.getD .skip) := by kernel_rfl
theorem cs101 : resRV Try.prog Try.f101.results.toList = some rs101 := by kernel_rfl
theorem cn101 : 2 ≤ Try.f101.ntmps := by decide
def rc102 : RC := (.seq (.reg false [(cQ 6 [] (.mv (kB false)))]) (.keep [0,1,2] (.seq (.reg true [(cMv 7 1), (cMv 8 0), (cB 9 .leq 7 8), (cMv 10 9), (gMv 11 10 true 0), (gMv 12 10 true 2), (gQ 13 10 true [11,12] (.bin .leq (.t 11) (.t 12))), (cQ 14 [10,13] (.pick (.t 10) (.t 13) (kB false))), (cMv 6 14)]) .ret)))
def pu102 : List Nat := []
def rs102 : List RV := [.t 6]
theorem cc102 : comp Try.prog pu102 (Try.f102.ntmps, 0) 0 1 rc102 (Try.f102.body.getD .skip) = some rc102 := by kernel_rfl
theorem cb102 : Try.f102.body = some (Try.f102.body.getD .skip) := by kernel_rfl
theorem cs102 : resRV Try.prog Try.f102.results.toList = some rs102 := by kernel_rfl
theorem cn102 : 3 ≤ Try.f102.ntmps := by decide
def rc103 : RC := (.seq (.reg false [(cX 2 0), (cQ 4 [] (.mv (kB false)))]) (.keep [1,2] (.seq (.reg false [(cMv 5 1), (cFa 6 2 0), (cLd 7 6 false 1), (cLn 8 7), (cC 9 .sub 8 1), (cQ 10 [5,9] (.call (kF 102) [(.t 5), (kI 0), (.t 9)])), (cMv 4 10)]) .ret)))
def pu103 : List Nat := [2]
def rs103 : List RV := [.t 4]
theorem cc103 : comp Try.prog pu103 (Try.f103.ntmps, 0) 0 1 rc103 (Try.f103.body.getD .skip) = some rc103 := by kernel_rfl
theorem cb103 : Try.f103.body = some (Try.f103.body.getD .skip) := by kernel_rfl
theorem cs103 : resRV Try.prog Try.f103.results.toList = some rs103 := by kernel_rfl
theorem cn103 : 2 ≤ Try.f103.ntmps := by decide
def rc105 : RC := (.seq (.reg false [(cX 3 0), (cQ 6 [] (.mv (.k (.z 1)))), (cI 7 0)]) (.keep [1,2,3] (.seq (.seq (.reg false [(cLd 10 3 true 6), (cQ 11 [10] (.call (kF 58) [(.t 10)])), (cMv 8 11)]) (.keep [1,2,3,8] (.seq (.reg false [(cMv 12 8), (cC 13 .neq 12 0)]) (.keep [1,2,3,8,13] (.cond (.t 13) (.seq (.reg false [(cMv 14 8), (cQ 6 [] (.mv (.k (.z 1)))), (cMv 7 14)]) .ret) .skip))))) (.keep [1,2,3] (.seq (.seq (.reg true [(cMv 15 1), (cFa 16 3 0), (cLd 17 16 false 1), (cLn 18 17), (cC 19 .sub 18 1), (cQ 20 [15,19] (.call (kF 88) [(.t 15), (kI 0), (.t 19)])), (cN 21 20), (cMv 22 21), (gMv 23 22 false 2), (gQ 24 22 false [3] (.fad 3 (.t 3))), (gQ 25 22 false [24] (.ld false 1 (.t 24))), (gQ 26 22 false [25] (.len (.t 25))), (gQ 27 22 false [26] (.bin .sub (.t 26) (kI 1))), (gQ 28 22 false [23,27] (.call (kF 88) [(.t 23), (kI 0), (.t 27)])), (gQ 29 22 false [28] (.not (.t 28))), (cQ 30 [22,29] (.pick (.t 22) (kB true) (.t 29)))]) (.keep [3,30] (.cond (.t 30) (.seq (.reg false [(cQ 6 [] (.mv (.k (.z 1)))), (cI 7 1)]) .ret) .skip))) (.keep [3] (.seq (.reg false [(cLd 31 3 true 6), (cQ 32 [31] (.call (kF 119) [(.t 31), (.k (.z 1))])), (cMv 9 32)]) (.keep [9] (.seq (.seq (.reg false [(cMv 33 9), (cLn 34 33), (cC 35 .eql 34 0)]) (.keep [9,35] (.cond (.t 35) (.seq (.reg false [(cQ 6 [] (.mv (.k (.z 1)))), (cI 7 3)]) .ret) .skip))) (.keep [9] (.seq (.reg false [(cMv 36 9), (cMv 6 36), (cI 7 0)]) .ret)))))))))))
def pu105 : List Nat := [3]
def rs105 : List RV := [.t 6, .t 7]
theorem cc105 : comp Try.prog pu105 (Try.f105.ntmps, 0) 0 1 rc105 (Try.f105.body.getD .skip) = some rc105 := by kernel_rfl
theorem cb105 : Try.f105.body = some (Try.f105.body.getD .skip) := by kernel_rfl
theorem cs105 : resRV Try.prog Try.f105.results.toList = some rs105 := by kernel_rfl
theorem cn105 : 3 ≤ Try.f105.ntmps := by decide
def rc106 : RC := (.seq (.reg false [(cX 1 0), (cQ 2 [] (.mv (.k (.z 1))))]) (.keep [1] (.seq (.reg false [(cQ 3 [] (.mv (.k (.z 1))))]) (.keep [1,3] (.seq (.seq (.reg false [(cFa 5 1 0), (cFa 6 5 0), (cLd 7 6 false 1), (cMv 4 7)]) (.keep [1,3,4] (.block 0 (.own 3 1 (.loop [1,3,4] none (.seq (.seq (.reg false [(cMv 8 4), (cFa 9 1 0), (cFa 10 9 1), (cLd 11 10 false 1), (cB 12 .leq 8 11)]) (.keep [1,3,4,12] (.cond (.t 12) .skip (.exit 0)))) (.keep [1,3,4] (.seq (.block 1 (.seq (.reg false [(cLd 15 1 true 4), (cMv 16 4), (cQ 17 [15,16] (.call (kF 69) [(.t 15), (.t 16)]))]) (.keep [1,3,4,17] (.cond (.t 17) (.reg false [(cMv 18 3), (cMv 19 4), (cQ 20 [19] (.bsl 1 1 [(.i 0)] [(0,1, (.t 19))])), ⟨(some 21), none, [18,20], none, .w (.app 1 (.t 18) (.t 20))⟩, (cMv 3 21)]) .skip)))) (.keep [1,3,4] (.reg false [(cMv 13 4), (cC 14 .add 13 1), (cMv 4 14)])))))))))) (.keep [3] (.seq (.reg false [(cMv 22 3), (cMv 2 22)]) .ret)))))))
def pu106 : List Nat := [1,20]
def rs106 : List RV := [.t 2]
theorem cc106 : comp Try.prog pu106 (Try.f106.ntmps, 0) 0 1 rc106 (Try.f106.body.getD .skip) = some rc106 := by kernel_rfl
theorem cb106 : Try.f106.body = some (Try.f106.body.getD .skip) := by kernel_rfl
theorem cs106 : resRV Try.prog Try.f106.results.toList = some rs106 := by kernel_rfl
theorem cn106 : 1 ≤ Try.f106.ntmps := by decide
def rc107 : RC := (.seq (.reg false [(cQ 3 [] (.mv (kB false)))]) (.keep [0,1] (.seq (.reg false [(cMv 4 0), (cFa 5 1 0), (cLd 6 5 false 1), (cLn 7 6), (cC 8 .sub 7 1), (cQ 9 [4,8] (.call (kF 102) [(.t 4), (kI 0), (.t 8)])), (cMv 3 9)]) .ret)))
def pu107 : List Nat := []
def rs107 : List RV := [.t 3]
theorem cc107 : comp Try.prog pu107 (Try.f107.ntmps, 0) 0 1 rc107 (Try.f107.body.getD .skip) = some rc107 := by kernel_rfl
theorem cb107 : Try.f107.body = some (Try.f107.body.getD .skip) := by kernel_rfl
theorem cs107 : resRV Try.prog Try.f107.results.toList = some rs107 := by kernel_rfl
theorem cn107 : 2 ≤ Try.f107.ntmps := by decide
def rc108 : RC := (.seq (.reg false [(cX 1 0), (cQ 2 [] (.mv (kB false)))]) (.keep [1] (.seq (.reg false [(cLd 3 1 true 2), (cQ 4 [3] (.call (kF 109) [(.t 3), (kI 40000)])), (cMv 2 4)]) .ret)))
def pu108 : List Nat := [1]
def rs108 : List RV := [.t 2]
theorem cc108 : comp Try.prog pu108 (Try.f108.ntmps, 0) 0 1 rc108 (Try.f108.body.getD .skip) = some rc108 := by kernel_rfl
theorem cb108 : Try.f108.body = some (Try.f108.body.getD .skip) := by kernel_rfl
theorem cs108 : resRV Try.prog Try.f108.results.toList = some rs108 := by kernel_rfl
theorem cn108 : 1 ≤ Try.f108.ntmps := by decide
def rc109 : RC := (.seq (.reg false [(cX 2 0), (cQ 4 [] (.mv (kB false)))]) (.keep [1,2] (.seq (.reg true [(cFa 5 2 0), (cLd 6 5 false 1), (cFa 7 2 1), (cLd 8 7 false 1), (cQ 9 [6,8] (.call (kF 102) [(.t 6), (kI 0), (.t 8)])), (cMv 10 9), (gQ 11 10 true [2] (.fad 1 (.t 2))), (gQ 12 10 true [11] (.ld false 1 (.t 11))), (gMv 13 10 true 1), (gQ 14 10 true [12,13] (.bin .leq (.t 12) (.t 13))), (cQ 15 [10,14] (.pick (.t 10) (.t 14) (kB false))), (cMv 4 15)]) .ret)))
def pu109 : List Nat := [2]
def rs109 : List RV := [.t 4]
theorem cc109 : comp Try.prog pu109 (Try.f109.ntmps, 0) 0 1 rc109 (Try.f109.body.getD .skip) = some rc109 := by kernel_rfl
theorem cb109 : Try.f109.body = some (Try.f109.body.getD .skip) := by kernel_rfl
theorem cs109 : resRV Try.prog Try.f109.results.toList = some rs109 := by kernel_rfl
theorem cn109 : 2 ≤ Try.f109.ntmps := by decide
def rc110 : RC := (.seq (.reg false [(cQ 3 [] (.mv (kB false)))]) (.keep [0,1] (.seq (.reg false [(cMv 4 0), (cFa 5 1 2), (cLd 6 5 false 1), (cQ 7 [6] (.bin .mul (kI 2) (.t 6))), (cQ 8 [4,7] (.call (kF 102) [(.t 4), (.t 7), (kI 2000)])), (cMv 3 8)]) .ret)))
def pu110 : List Nat := []
def rs110 : List RV := [.t 3]
theorem cc110 : comp Try.prog pu110 (Try.f110.ntmps, 0) 0 1 rc110 (Try.f110.body.getD .skip) = some rc110 := by kernel_rfl
theorem cb110 : Try.f110.body = some (Try.f110.body.getD .skip) := by kernel_rfl
theorem cs110 : resRV Try.prog Try.f110.results.toList = some rs110 := by kernel_rfl
theorem cn110 : 2 ≤ Try.f110.ntmps := by decide
def rc111 : RC := (.seq (.reg false [(cX 3 1), (cQ 4 [] (.mv (kB false)))]) (.keep [0,3] (.seq (.reg false [(cMv 5 0), (cQ 6 [3] (.mkf 121 [(.t 3)])), (cQ 7 [5,6] (.call (kF 120) [(.t 5), (.t 6)])), (cN 8 7), (cMv 4 8)]) .ret)))
def pu111 : List Nat := [3]
def rs111 : List RV := [.t 4]
theorem cc111 : comp Try.prog pu111 (Try.f111.ntmps, 0) 0 1 rc111 (Try.f111.body.getD .skip) = some rc111 := by kernel_rfl
theorem cb111 : Try.f111.body = some (Try.f111.body.getD .skip) := by kernel_rfl
theorem cs111 : resRV Try.prog Try.f111.results.toList = some rs111 := by kernel_rfl
theorem cn111 : 2 ≤ Try.f111.ntmps := by decide
def rc112 : RC := (.seq (.reg false [(cX 3 1), (cQ 4 [] (.mv (kB false)))]) (.keep [0,3] (.seq (.reg false [(cMv 5 0), (cQ 6 [3] (.mkf 123 [(.t 3)])), (cQ 7 [5,6] (.call (kF 122) [(.t 5), (.t 6)])), (cN 8 7), (cMv 4 8)]) .ret)))
def pu112 : List Nat := [3]
def rs112 : List RV := [.t 4]
theorem cc112 : comp Try.prog pu112 (Try.f112.ntmps, 0) 0 1 rc112 (Try.f112.body.getD .skip) = some rc112 := by kernel_rfl
theorem cb112 : Try.f112.body = some (Try.f112.body.getD .skip) := by kernel_rfl
theorem cs112 : resRV Try.prog Try.f112.results.toList = some rs112 := by kernel_rfl
theorem cn112 : 2 ≤ Try.f112.ntmps := by decide
def rc113 : RC := (.seq (.reg false [(cQ 4 [] (.mv (kB false)))]) (.keep [0,1] (.seq (.reg false [(cMv 5 0), (cMv 6 1), (cQ 7 [5,6] (.call (kF 124) [(.t 5), (.t 6)])), (cC 8 .geq 7 0), (cMv 4 8)]) .ret)))
def pu113 : List Nat := []
def rs113 : List RV := [.t 4]
theorem cc113 : comp Try.prog pu113 (Try.f113.ntmps, 0) 0 1 rc113 (Try.f113.body.getD .skip) = some rc113 := by kernel_rfl
theorem cb113 : Try.f113.body = some (Try.f113.body.getD .skip) := by kernel_rfl
theorem cs113 : resRV Try.prog Try.f113.results.toList = some rs113 := by kernel_rfl
theorem cn113 : 2 ≤ Try.f113.ntmps := by decide
def rc114 : RC := (.seq (.reg false [(cX 2 0), (cQ 3 [] (.mv (kB false)))]) (.keep [1,2] (.seq (.reg false [(cLd 4 1 false 1), (cLd 5 2 true 4), (cQ 6 [4,5] (.call (.t 4) [(.t 5)])), (cN 7 6), (cMv 3 7)]) .ret)))
def pu114 : List Nat := [2]
def rs114 : List RV := [.t 3]
theorem cc114 : comp Try.prog pu114 (Try.f114.ntmps, 0) 0 1 rc114 (Try.f114.body.getD .skip) = some rc114 := by kernel_rfl
theorem cb114 : Try.f114.body = some (Try.f114.body.getD .skip) := by kernel_rfl
theorem cs114 : resRV Try.prog Try.f114.results.toList = some rs114 := by kernel_rfl
theorem cn114 : 2 ≤ Try.f114.ntmps := by decide
def rc115 : RC := (.seq (.reg false [(cX 3 1), (cQ 4 [] (.mv (kB false)))]) (.keep [0,3] (.seq (.reg false [(cMv 5 0), (cQ 6 [3] (.mkf 126 [(.t 3)])), (cQ 7 [5,6] (.call (kF 125) [(.t 5), (.t 6)])), (cN 8 7), (cMv 4 8)]) .ret)))
def pu115 : List Nat := [3]
def rs115 : List RV := [.t 4]
theorem cc115 : comp Try.prog pu115 (Try.f115.ntmps, 0) 0 1 rc115 (Try.f115.body.getD .skip) = some rc115 := by kernel_rfl
theorem cb115 : Try.f115.body = some (Try.f115.body.getD .skip) := by kernel_rfl
theorem cs115 : resRV Try.prog Try.f115.results.toList = some rs115 := by kernel_rfl
theorem cn115 : 2 ≤ Try.f115.ntmps := by decide
def rc116 : RC := (.seq (.reg false [(cX 1 0), (cQ 2 [] (.mv (kB false)))]) (.keep [1] (.seq (.reg true [(cFa 3 1 0), (cLd 4 3 false 1), (cQ 5 [4] (.call (kF 102) [(.t 4), (kI 1), (kI 2000)])), (cMv 6 5), (gQ 7 6 true [1] (.fad 1 (.t 1))), (gQ 8 6 true [7] (.ld true 2 (.t 7))), (gQ 9 6 true [8] (.call (kF 109) [(.t 8), (kI 4000)])), (cQ 10 [6,9] (.pick (.t 6) (.t 9) (kB false))), (cMv 2 10)]) .ret)))
def pu116 : List Nat := [1]
def rs116 : List RV := [.t 2]
theorem cc116 : comp Try.prog pu116 (Try.f116.ntmps, 0) 0 1 rc116 (Try.f116.body.getD .skip) = some rc116 := by kernel_rfl
theorem cb116 : Try.f116.body = some (Try.f116.body.getD .skip) := by kernel_rfl
theorem cs116 : resRV Try.prog Try.f116.results.toList = some rs116 := by kernel_rfl
theorem cn116 : 1 ≤ Try.f116.ntmps := by decide
def rc117 : RC := (.seq (.reg false [(cI 4 0)]) (.keep [0,1] (.seq (.reg false [(cMv 5 0), (cMv 6 1), (cQ 7 [6] (.bin .add (kI 1000) (.t 6))), (cB 8 .mul 5 7), (cC 9 .quo 8 1000), (cMv 4 9)]) .ret)))
def pu117 : List Nat := []
def rs117 : List RV := [.t 4]
theorem cc117 : comp Try.prog pu117 (Try.f117.ntmps, 0) 0 1 rc117 (Try.f117.body.getD .skip) = some rc117 := by kernel_rfl
theorem cb117 : Try.f117.body = some (Try.f117.body.getD .skip) := by kernel_rfl
theorem cs117 : resRV Try.prog Try.f117.results.toList = some rs117 := by kernel_rfl
theorem cn117 : 2 ≤ Try.f117.ntmps := by decide
def rc118 : RC := (.seq (.reg false [(cFa 4 1 0), (cFa 5 4 0), (cLd 6 5 false 1), (cMv 3 6)]) (.keep [0,1,3] (.block 0 (.loop [0,1,3] none (.seq (.seq (.reg false [(cMv 7 3), (cFa 8 1 0), (cFa 9 8 1), (cLd 10 9 false 1), (cB 11 .leq 7 10)]) (.keep [0,1,3,11] (.cond (.t 11) .skip (.exit 0)))) (.keep [0,1,3] (.seq (.block 1 (.seq (.yrg false [(cMv 14 0), (cMv 15 3)] ⟨(some 16), none, [14,15], none, .o (.t 14) [(.t 15)]⟩ [0,1,3] [(cN 17 16)]) (.keep [0,1,3,17] (.cond (.t 17) .ret .skip)))) (.keep [0,1,3] (.reg false [(cMv 12 3), (cC 13 .add 12 1), (cMv 3 13)])))))))))
def pu118 : List Nat := []
def rs118 : List RV := []
theorem cc118 : comp Try.prog pu118 (Try.f118.ntmps, 2) 1 2 rc118 (Try.f118.body.getD .skip) = some rc118 := by kernel_rfl
theorem cb118 : Try.f118.body = some (Try.f118.body.getD .skip) := by kernel_rfl
theorem cs118 : resRV Try.prog Try.f118.results.toList = some rs118 := by kernel_rfl
theorem cn118 : 2 ≤ Try.f118.ntmps := by decide
def rc119 : RC := (.seq (.reg false [(cX 2 0), (cQ 4 [] (.mv (.k (.z 1))))]) (.keep [1,2] (.seq (.seq (.reg false [(cMv 8 1), (cLn 9 8), (cFa 10 2 0), (cLd 11 10 false 1), (cLn 12 11), (cB 13 .eql 9 12)]) (.keep [1,2,13] (.cond (.t 13) (.seq (.reg false [(cMv 14 1), (cQ 15 [14] (.bsl 1 1 [(.z 1)] [(0,1, (.t 14))])), (cMv 4 15)]) .ret) .skip))) (.keep [1,2] (.seq (.reg false [(cQ 5 [] (.mv (.k (.z 1))))]) (.keep [1,2,5] (.seq (.reg false [(cFa 16 2 0), (cLd 17 16 false 1), (cMv 18 1), (cLn 19 18), (cA 20 4 17 19), (cLd 21 20 true 4), (cQ 22 [21] (.call (kF 106) [(.t 21)])), (cMv 6 22)]) (.keep [1,2,5,6] (.seq (.seq (.reg false [(cI 7 0)]) (.keep [1,2,5,6,7] (.block 0 (.own 5 1 (.loop [1,2,5,6,7] (some 1) (.seq (.seq (.reg false [(cMv 23 7), (cMv 24 6), (cLn 25 24), (cB 26 .lss 23 25)]) (.keep [1,2,5,6,7,26] (.cond (.t 26) .skip (.exit 0)))) (.keep [1,2,5,6,7] (.seq (.block 1 (.any false 4 [⟨(cMv 29 5), [], []⟩, ⟨(cLd 30 2 true 6), [], []⟩, ⟨⟨(some 31), none, [], (some 0), .w (.bso 1 0 [(.i 0)] [])⟩, [0,1], []⟩, ⟨(cMv 32 1), [2], []⟩, ⟨⟨(some 33), none, [31,32], (some 1), .w (.app 1 (.t 31) (.t 32))⟩, [0,1], [2,3]⟩, ⟨(cMv 34 6), [2,4], []⟩, ⟨(cMv 35 7), [2,4], []⟩, ⟨(cA 36 1 34 35), [2,4], [5,6]⟩, ⟨(cLd 37 36 false 1), [2,4], [7,5,6]⟩, ⟨(cQ 38 [37] (.bsl 1 1 [(.i 0)] [(0,1, (.t 37))])), [2,4], [8,7,5,6]⟩, ⟨⟨(some 39), none, [33,38], (some 2), .w (.app 1 (.t 33) (.t 38))⟩, [0,1], [4,2,3,9,8,7,5,6]⟩, ⟨⟨(some 40), none, [30,39], none, .o (kF 119) [(.t 30), (.t 39)]⟩, [0], [1,10,4,2,3,9,8,7,5,6]⟩, ⟨⟨(some 41), none, [29,40], (some 3), .w (.app 1 (.t 29) (.t 40))⟩, [], [0,11,1,10,4,2,3,9,8,7,5,6]⟩, ⟨(cMv 5 41), [], [12,0,11,1,10,4,2,3,9,8,7,5,6]⟩])) (.drp 1 (.keep [1,2,5,6,7] (.reg false [(cMv 27 7), (cC 28 .add 27 1), (cMv 7 28)]))))))))))) (.keep [5] (.seq (.reg false [(cMv 42 5), (cMv 4 42)]) .ret)))))))))))
def pu119 : List Nat := [1000040,2,15,38]
def rs119 : List RV := [.t 4]
theorem cc119 : comp Try.prog pu119 (Try.f119.ntmps, 0) 0 1 rc119 (Try.f119.body.getD .skip) = some rc119 := by kernel_rfl
theorem cb119 : Try.f119.body = some (Try.f119.body.getD .skip) := by kernel_rfl
theorem cs119 : resRV Try.prog Try.f119.results.toList = some rs119 := by kernel_rfl
theorem cn119 : 2 ≤ Try.f119.ntmps := by decide
def rc120 : RC := (.seq (.reg false [(cQ 4 [] (.mv (kB false)))]) (.keep [0,1] (.seq (.reg false [(cMv 5 0), (cMv 6 1), (cQ 7 [5,6] (.call (kF 127) [(.t 5), (.t 6)])), (cC 8 .geq 7 0), (cMv 4 8)]) .ret)))
def pu120 : List Nat := []
def rs120 : List RV := [.t 4]
theorem cc120 : comp Try.prog pu120 (Try.f120.ntmps, 0) 0 1 rc120 (Try.f120.body.getD .skip) = some rc120 := by kernel_rfl
theorem cb120 : Try.f120.body = some (Try.f120.body.getD .skip) := by kernel_rfl
theorem cs120 : resRV Try.prog Try.f120.results.toList = some rs120 := by kernel_rfl
theorem cn120 : 2 ≤ Try.f120.ntmps := by decide
def rc121 : RC := (.seq (.reg false [(cQ 3 [] (.mv (kB false)))]) (.keep [0,1] (.seq (.reg false [(cLd 4 1 false 1), (cMv 5 0), (cQ 6 [4,5] (.call (.t 4) [(.t 5)])), (cN 7 6), (cMv 3 7)]) .ret)))
def pu121 : List Nat := []
def rs121 : List RV := [.t 3]
theorem cc121 : comp Try.prog pu121 (Try.f121.ntmps, 0) 0 1 rc121 (Try.f121.body.getD .skip) = some rc121 := by kernel_rfl
theorem cb121 : Try.f121.body = some (Try.f121.body.getD .skip) := by kernel_rfl
theorem cs121 : resRV Try.prog Try.f121.results.toList = some rs121 := by kernel_rfl
theorem cn121 : 2 ≤ Try.f121.ntmps := by decide
def rc122 : RC := (.seq (.reg false [(cQ 4 [] (.mv (kB false)))]) (.keep [0,1] (.seq (.reg false [(cMv 5 0), (cMv 6 1), (cQ 7 [5,6] (.call (kF 128) [(.t 5), (.t 6)])), (cC 8 .geq 7 0), (cMv 4 8)]) .ret)))
def pu122 : List Nat := []
def rs122 : List RV := [.t 4]
theorem cc122 : comp Try.prog pu122 (Try.f122.ntmps, 0) 0 1 rc122 (Try.f122.body.getD .skip) = some rc122 := by kernel_rfl
theorem cb122 : Try.f122.body = some (Try.f122.body.getD .skip) := by kernel_rfl
theorem cs122 : resRV Try.prog Try.f122.results.toList = some rs122 := by kernel_rfl
theorem cn122 : 2 ≤ Try.f122.ntmps := by decide
def rc123 : RC := (.seq (.reg false [(cX 2 0), (cQ 3 [] (.mv (kB false)))]) (.keep [1,2] (.seq (.reg false [(cLd 4 1 false 1), (cLd 5 2 true 2), (cQ 6 [4,5] (.call (.t 4) [(.t 5)])), (cN 7 6), (cMv 3 7)]) .ret)))
def pu123 : List Nat := [2]
def rs123 : List RV := [.t 3]
theorem cc123 : comp Try.prog pu123 (Try.f123.ntmps, 0) 0 1 rc123 (Try.f123.body.getD .skip) = some rc123 := by kernel_rfl
theorem cb123 : Try.f123.body = some (Try.f123.body.getD .skip) := by kernel_rfl
theorem cs123 : resRV Try.prog Try.f123.results.toList = some rs123 := by kernel_rfl
theorem cn123 : 2 ≤ Try.f123.ntmps := by decide
def rc124 : RC := (.seq (.reg false [(cI 4 0)]) (.keep [0,1] (.seq (.seq (.reg false [(cMv 6 0), (cLn 7 6), (cI 8 0)]) (.keep [0,1,7,8] (.block 0 (.loop [0,1,7,8] none (.seq (.reg false [(cB 9 .lss 8 7)]) (.keep [0,1,7,8,9] (.seq (.cond (.t 9) .skip (.exit 0)) (.keep [0,1,7,8] (.seq (.block 1 (.seq (.reg false [(cMv 10 8), (cMv 5 10)]) (.keep [0,1,5,7,8] (.seq (.reg false [(cMv 11 1), (cMv 12 0), (cMv 13 5), (cA 14 4 12 13), (cLd 15 14 true 4), (cQ 16 [11,15] (.call (.t 11) [(.t 15)]))]) (.keep [0,1,5,7,8,16] (.cond (.t 16) (.seq (.reg false [(cMv 17 5), (cMv 4 17)]) .ret) .skip)))))) (.keep [0,1,7,8] (.reg false [(cC 18 .add 8 1), (cMv 8 18)]))))))))))) (.keep [] (.seq (.reg false [(cQ 4 [] (.mv (.k (.i (-1)))))]) .ret)))))
def pu124 : List Nat := []
def rs124 : List RV := [.t 4]
theorem cc124 : comp Try.prog pu124 (Try.f124.ntmps, 0) 0 1 rc124 (Try.f124.body.getD .skip) = some rc124 := by kernel_rfl
theorem cb124 : Try.f124.body = some (Try.f124.body.getD .skip) := by kernel_rfl
theorem cs124 : resRV Try.prog Try.f124.results.toList = some rs124 := by kernel_rfl
theorem cn124 : 2 ≤ Try.f124.ntmps := by decide
def rc125 : RC := (.seq (.reg false [(cQ 4 [] (.mv (kB false)))]) (.keep [0,1] (.seq (.reg false [(cMv 5 0), (cMv 6 1), (cQ 7 [5,6] (.call (kF 129) [(.t 5), (.t 6)])), (cC 8 .geq 7 0), (cMv 4 8)]) .ret)))
def pu125 : List Nat := []
def rs125 : List RV := [.t 4]
theorem cc125 : comp Try.prog pu125 (Try.f125.ntmps, 0) 0 1 rc125 (Try.f125.body.getD .skip) = some rc125 := by kernel_rfl
theorem cb125 : Try.f125.body = some (Try.f125.body.getD .skip) := by kernel_rfl
theorem cs125 : resRV Try.prog Try.f125.results.toList = some rs125 := by kernel_rfl
theorem cn125 : 2 ≤ Try.f125.ntmps := by decide
def rc126 : RC := (.seq (.reg false [(cX 2 0), (cQ 3 [] (.mv (kB false)))]) (.keep [1,2] (.seq (.reg false [(cLd 4 1 false 1), (cLd 5 2 true 3), (cQ 6 [4,5] (.call (.t 4) [(.t 5)])), (cN 7 6), (cMv 3 7)]) .ret)))
def pu126 : List Nat := [2]
def rs126 : List RV := [.t 3]
theorem cc126 : comp Try.prog pu126 (Try.f126.ntmps, 0) 0 1 rc126 (Try.f126.body.getD .skip) = some rc126 := by kernel_rfl
theorem cb126 : Try.f126.body = some (Try.f126.body.getD .skip) := by kernel_rfl
theorem cs126 : resRV Try.prog Try.f126.results.toList = some rs126 := by kernel_rfl
theorem cn126 : 2 ≤ Try.f126.ntmps := by decide
def rc127 : RC := (.seq (.reg false [(cI 4 0)]) (.keep [0,1] (.seq (.seq (.reg false [(cMv 6 0), (cLn 7 6), (cI 8 0)]) (.keep [0,1,7,8] (.block 0 (.loop [0,1,7,8] none (.seq (.reg false [(cB 9 .lss 8 7)]) (.keep [0,1,7,8,9] (.seq (.cond (.t 9) .skip (.exit 0)) (.keep [0,1,7,8] (.seq (.block 1 (.seq (.reg false [(cMv 10 8), (cMv 5 10)]) (.keep [0,1,5,7,8] (.seq (.reg false [(cMv 11 1), (cMv 12 0), (cMv 13 5), (cA 14 1 12 13), (cLd 15 14 false 1), (cQ 16 [11,15] (.call (.t 11) [(.t 15)]))]) (.keep [0,1,5,7,8,16] (.cond (.t 16) (.seq (.reg false [(cMv 17 5), (cMv 4 17)]) .ret) .skip)))))) (.keep [0,1,7,8] (.reg false [(cC 18 .add 8 1), (cMv 8 18)]))))))))))) (.keep [] (.seq (.reg false [(cQ 4 [] (.mv (.k (.i (-1)))))]) .ret)))))
def pu127 : List Nat := []
def rs127 : List RV := [.t 4]
theorem cc127 : comp Try.prog pu127 (Try.f127.ntmps, 0) 0 1 rc127 (Try.f127.body.getD .skip) = some rc127 := by kernel_rfl
theorem cb127 : Try.f127.body = some (Try.f127.body.getD .skip) := by kernel_rfl
theorem cs127 : resRV Try.prog Try.f127.results.toList = some rs127 := by kernel_rfl
theorem cn127 : 2 ≤ Try.f127.ntmps := by decide
def rc128 : RC := (.seq (.reg false [(cI 4 0)]) (.keep [0,1] (.seq (.seq (.reg false [(cMv 6 0), (cLn 7 6), (cI 8 0)]) (.keep [0,1,7,8] (.block 0 (.loop [0,1,7,8] none (.seq (.reg false [(cB 9 .lss 8 7)]) (.keep [0,1,7,8,9] (.seq (.cond (.t 9) .skip (.exit 0)) (.keep [0,1,7,8] (.seq (.block 1 (.seq (.reg false [(cMv 10 8), (cMv 5 10)]) (.keep [0,1,5,7,8] (.seq (.reg false [(cMv 11 1), (cMv 12 0), (cMv 13 5), (cA 14 2 12 13), (cLd 15 14 true 2), (cQ 16 [11,15] (.call (.t 11) [(.t 15)]))]) (.keep [0,1,5,7,8,16] (.cond (.t 16) (.seq (.reg false [(cMv 17 5), (cMv 4 17)]) .ret) .skip)))))) (.keep [0,1,7,8] (.reg false [(cC 18 .add 8 1), (cMv 8 18)]))))))))))) (.keep [] (.seq (.reg false [(cQ 4 [] (.mv (.k (.i (-1)))))]) .ret)))))
def pu128 : List Nat := []
def rs128 : List RV := [.t 4]
theorem cc128 : comp Try.prog pu128 (Try.f128.ntmps, 0) 0 1 rc128 (Try.f128.body.getD .skip) = some rc128 := by kernel_rfl
theorem cb128 : Try.f128.body = some (Try.f128.body.getD .skip) := by kernel_rfl
theorem cs128 : resRV Try.prog Try.f128.results.toList = some rs128 := by kernel_rfl
theorem cn128 : 2 ≤ Try.f128.ntmps := by decide
def rc129 : RC := (.seq (.reg false [(cI 4 0)]) (.keep [0,1] (.seq (.seq (.reg false [(cMv 6 0), (cLn 7 6), (cI 8 0)]) (.keep [0,1,7,8] (.block 0 (.loop [0,1,7,8] none (.seq (.reg false [(cB 9 .lss 8 7)]) (.keep [0,1,7,8,9] (.seq (.cond (.t 9) .skip (.exit 0)) (.keep [0,1,7,8] (.seq (.block 1 (.seq (.reg false [(cMv 10 8), (cMv 5 10)]) (.keep [0,1,5,7,8] (.seq (.reg false [(cMv 11 1), (cMv 12 0), (cMv 13 5), (cA 14 3 12 13), (cLd 15 14 true 3), (cQ 16 [11,15] (.call (.t 11) [(.t 15)]))]) (.keep [0,1,5,7,8,16] (.cond (.t 16) (.seq (.reg false [(cMv 17 5), (cMv 4 17)]) .ret) .skip)))))) (.keep [0,1,7,8] (.reg false [(cC 18 .add 8 1), (cMv 8 18)]))))))))))) (.keep [] (.seq (.reg false [(cQ 4 [] (.mv (.k (.i (-1)))))]) .ret)))))
def pu129 : List Nat := []
def rs129 : List RV := [.t 4]
theorem cc129 : comp Try.prog pu129 (Try.f129.ntmps, 0) 0 1 rc129 (Try.f129.body.getD .skip) = some rc129 := by kernel_rfl
theorem cb129 : Try.f129.body = some (Try.f129.body.getD .skip) := by kernel_rfl
theorem cs129 : resRV Try.prog Try.f129.results.toList = some rs129 := by kernel_rfl
theorem cn129 : 2 ≤ Try.f129.ntmps := by decide
end Go.C02
set_option linter.unusedSimpArgs false
set_option linter.unusedVariables false
namespace Go.C02
open Go.Fam Go.Proofs
theorem hmix : Try.prog.follows .mixedOrders = true := by kernel_rfl
variable {Γ : Gam}
def within (n lo hi : Int) : Bool := decide (lo ≤ n) && decide (n ≤ hi)
def pull (l s : Int) : Int := (l * (1000 + s)).tdiv 1000
def tame (m n : Int) : Prop := -m ≤ n ∧ n ≤ m
theorem P54 (hG : GOk Try.prog Γ) (n lo hi : Int) : PureCall Try.prog 88 [.i n, .i lo, .i hi] (.b (within n lo hi)) := by
 refine pure_body hG hmix Try.func88 cb88 cc88 cs88 cn88 ?_
 simp only [rc88, rs88, ru_reg, ru_seq, ru_ret, ru_keep, thenQ, run_nil, run_cons, Fam.step, stepQ, needQ, condB, ug, evO, opv, qv, pickV_bb, binV, upd_some, lkp_cons, lkp_nil, ↓reduceIte, Nat.reduceEqDiff, Nat.reduceAdd, Qb, Qc, Q2, Q0, endQ, rvs, rv1, resV, vw_b, zipA, Qd, V.b.injEq, Qx, Qy, decide_eq_true_eq, decide_eq_false_iff_not, true_and, and_true, and_self, implies_true, reduceCtorEq, beq_true, ite_f, imp_self]
 by_cases h : lo ≤ n <;> simp [h, within]
theorem P67 (hG : GOk Try.prog Γ) (n lo hi : Int) : PureCall Try.prog 102 [.i n, .i lo, .i hi] (.b (within n lo hi)) := by
 refine pure_body hG hmix Try.func102 cb102 cc102 cs102 cn102 ?_
 simp only [rc102, rs102, ru_reg, ru_seq, ru_ret, ru_keep, thenQ, run_nil, run_cons, Fam.step, stepQ, needQ, condB, ug, evO, opv, qv, pickV_bb, binV, upd_some, lkp_cons, lkp_nil, ↓reduceIte, Nat.reduceEqDiff, Nat.reduceAdd, Qb, Qc, Q2, Q0, endQ, rvs, rv1, resV, vw_b, zipA, Qd, V.b.injEq, Qx, Qy, decide_eq_true_eq, decide_eq_false_iff_not, true_and, and_true, and_self, implies_true, reduceCtorEq, beq_true, ite_f, imp_self]
 by_cases h : lo ≤ n <;> simp [h, within]
theorem mul_tame {a b m n : Int} (ha : tame m a) (hb : tame n b) (hm : 0 ≤ m) (hn : 0 ≤ n) : tame (m * n) (a * b) := by
 unfold tame at *
 constructor
 ·by_cases h : 0 ≤ a
  ·by_cases h' : 0 ≤ b
   ·have := Zj h h'; have := Zj hm hn; omega
   ·have := Zy ha.2 (show -b ≤ n by omega) (by omega) hm
    have e := Int.mul_neg a b
    omega
  ·by_cases h' : 0 ≤ b
   ·have := Zy (show -a ≤ m by omega) hb.2 (by omega) hm
    have e := Int.neg_mul a b
    omega
   ·have := Zj (show 0 ≤ -a by omega) (show 0 ≤ -b by omega)
    have e := Xg a b
    have := Zj hm hn
    omega
 ·by_cases h : 0 ≤ a
  ·by_cases h' : 0 ≤ b
   ·exact Zy ha.2 hb.2 h' hm
   ·have := Zj h (show 0 ≤ -b by omega)
    have e := Int.mul_neg a b
    have := Zj hm hn
    omega
  ·by_cases h' : 0 ≤ b
   ·have := Zj (show 0 ≤ -a by omega) h'
    have e := Int.neg_mul a b
    have := Zj hm hn
    omega
   ·have := Zy (show -a ≤ m by omega) (show -b ≤ n by omega) (by omega) hm
    have e := Xg a b
    omega
theorem pull_in {l s : Int} (hl : tame 1000000 l) (hs : tame 1000000 s) : inI (1000 + s) ∧ inI (l * (1000 + s)) ∧ inI (pull l s) := by
 have h1 : tame 1001000 (1000 + s) := by unfold tame at *; omega
 have h2 := mul_tame hl h1 (by decide) (by decide)
 unfold pull inI
 unfold tame at *
 have h3 : (l * (1000 + s)).tdiv 1000 ≤ 1000000 * 1001000 ∧ -(1000000 * 1001000) ≤ (l * (1000 + s)).tdiv 1000 := by
  generalize l * (1000 + s) = x at *
  constructor
  ·by_cases h : 0 ≤ x
   ·rw [Qw h]; omega
   ·have : x.tdiv 1000 ≤ 0 := by
     have e : x = -(-x) := by omega
     rw [e, Z2, Qw (by omega)]; omega
    omega
  ·by_cases h : 0 ≤ x
   ·rw [Qw h]; omega
   ·have e : x = -(-x) := by omega
    rw [e, Z2, Qw (by omega)]; omega
 omega
theorem P57 (hG : GOk Try.prog Γ) (l s : Int) (hl : tame 1000000 l) (hs : tame 1000000 s) : PureCall Try.prog 72 [.i l, .i s] (.i (pull l s)) := by
 obtain ⟨h1, h2, h3⟩ := pull_in hl hs
 refine pure_body hG hmix Try.func72 cb72 cc72 cs72 cn72 ?_
 simp only [rc72, rs72, ru_reg, ru_seq, ru_ret, ru_keep, thenQ, run_nil, run_cons, Fam.step, stepQ, evO, opv, qv, binV, upd_some, lkp_cons, lkp_nil, ↓reduceIte, Nat.reduceEqDiff, Int.reduceEq, Qb, Qc, endQ, rvs, rv1, resV, vw_i, zipA, Qd, V.i.injEq, true_and, and_self, reduceCtorEq, not_false_eq_true, ne_eq]
 exact ⟨h1, h2, by simpa [pull] using h3, rfl⟩
theorem P69 (hG : GOk Try.prog Γ) (l s : Int) (hl : tame 1000000 l) (hs : tame 1000000 s) : PureCall Try.prog 117 [.i l, .i s] (.i (pull l s)) := by
 obtain ⟨h1, h2, h3⟩ := pull_in hl hs
 refine pure_body hG hmix Try.func117 cb117 cc117 cs117 cn117 ?_
 simp only [rc117, rs117, ru_reg, ru_seq, ru_ret, ru_keep, thenQ, run_nil, run_cons, Fam.step, stepQ, evO, opv, qv, binV, upd_some, lkp_cons, lkp_nil, ↓reduceIte, Nat.reduceEqDiff, Int.reduceEq, Qb, Qc, endQ, rvs, rv1, resV, vw_i, zipA, Qd, V.i.injEq, true_and, and_self, reduceCtorEq, not_false_eq_true, ne_eq]
 exact ⟨h1, h2, by simpa [pull] using h3, rfl⟩
def r54 : List V → Prop × V | [.i n, .i lo, .i hi] => (True, .b (within n lo hi)) | _ => (False, .u)
def r57 : List V → Prop × V | [.i l, .i s] => (tame 1000000 l ∧ tame 1000000 s, .i (pull l s)) | _ => (False, .u)
theorem h54 (hG : GOk Try.prog Γ) (vs : List V) (h : (r54 vs).1) : PureCall Try.prog 88 vs (r54 vs).2 := by
 unfold r54 at h ⊢; split at h <;> first | exact P54 hG _ _ _ | exact h.elim
theorem h67 (hG : GOk Try.prog Γ) (vs : List V) (h : (r54 vs).1) : PureCall Try.prog 102 vs (r54 vs).2 := by
 unfold r54 at h ⊢; split at h <;> first | exact P67 hG _ _ _ | exact h.elim
theorem h57 (hG : GOk Try.prog Γ) (vs : List V) (h : (r57 vs).1) : PureCall Try.prog 72 vs (r57 vs).2 := by
 unfold r57 at h ⊢; split at h <;> first | exact P57 hG _ _ h.1 h.2 | exact h.elim
theorem h69 (hG : GOk Try.prog Γ) (vs : List V) (h : (r57 vs).1) : PureCall Try.prog 117 vs (r57 vs).2 := by
 unfold r57 at h ⊢; split at h <;> first | exact P69 hG _ _ h.1 h.2 | exact h.elim
def GA : Gam := (((Γ0.ext 88 r54).ext 102 r54).ext 72 r57).ext 117 r57
theorem okA : GOk Try.prog GA :=
 (((g0_ok.ext (fun a w => Try.call88 a w) (h54 g0_ok)).ext (fun a w => Try.call102 a w) (h67 g0_ok)).ext (fun a w => Try.call72 a w) (h57 g0_ok)).ext (fun a w => Try.call117 a w) (h69 g0_ok)
theorem gA54 (n lo hi : Int) : GA 88 [.i n, .i lo, .i hi] = (True, .b (within n lo hi)) := rfl
theorem gA67 (n lo hi : Int) : GA 102 [.i n, .i lo, .i hi] = (True, .b (within n lo hi)) := rfl
theorem gA57 (l s : Int) : GA 72 [.i l, .i s] = (tame 1000000 l ∧ tame 1000000 s, .i (pull l s)) := rfl
end Go.C02
set_option linter.unusedSimpArgs false
set_option linter.unusedVariables false
namespace Go.C02
open Go.Fam Go.Proofs
def isSpan (s : Span) (most : Int) : Bool := within s.low 0 s.high && decide (s.high ≤ most)
theorem P73 (s : Span) (m : Int) : PureCall Try.prog 109 [.ag (eSpan s), .i m] (.b (isSpan s m)) := by
 refine pure_body okA hmix Try.func109 cb109 cc109 cs109 cn109 ?_
 simp only [rc109, rs109, eSpan, gA67, ru_reg, ru_seq, ru_ret, ru_keep, thenQ, run_nil, run_cons, Fam.step, stepQ, needQ, condB, ug, evO, opv, qv, pickV_bb, binV, ldV, callV, V.cells, solid, hasRef, hasRefL, flat, upd_some, lkp_cons, lkp_nil, ↓reduceIte, Nat.reduceEqDiff, Nat.reduceAdd, Nat.reduceLT, Nat.reduceLeDiff, Qb, Qc, Q2, Q0, Qe, Qf, Qh, Qn, Qg, Qm, endQ, rvs, rv1, resV, vw_i, vw_b, vw_ag, zipA, Qd, V.b.injEq, Qx, Qy, Qi, Qa, true_and, and_true, and_self, implies_true, reduceCtorEq, beq_true, ite_f, Q9, imp_self, eSpan]
 by_cases h : within s.low 0 s.high = true <;> simp [h, isSpan]
theorem P58 (s : Span) (m : Int) : PureCall Try.prog 89 [.ag (eSpan s), .i m] (.b (isSpan s m)) := by
 refine pure_body okA hmix Try.func89 cb89 cc89 cs89 cn89 ?_
 simp only [rc89, rs89, eSpan, ru_reg, ru_seq, ru_ret, ru_keep, thenQ, run_nil, run_cons, Fam.step, stepQ, needQ, condB, ug, evO, opv, qv, pickV_bb, binV, ldV, V.cells, solid, hasRef, hasRefL, upd_some, lkp_cons, lkp_nil, ↓reduceIte, Nat.reduceEqDiff, Nat.reduceAdd, Nat.reduceLeDiff, Qb, Qc, Q2, Q0, Qe, Qf, Qh, Qn, Qg, endQ, rvs, rv1, resV, vw_i, vw_b, vw_ag, zipA, Qd, V.b.injEq, Qx, Qy, Qi, Qa, decide_eq_true_eq, decide_eq_false_iff_not, true_and, and_true, and_self, implies_true, reduceCtorEq, beq_true, ite_f, Q9, imp_self, eSpan]
 by_cases h : 0 ≤ s.low <;> by_cases h' : s.low ≤ s.high <;> simp [h, h', isSpan, within]
def isFalse (s : Int) (x : Strip) : Bool := !(within (pull x.long s) x.pulled.low x.pulled.high)
def falses (l : List Strip) (s : Int) : Nat := l.countP (isFalse s)
theorem take_succ_of {α : Type} {l : List α} {i : Nat} {x : α} (h : l[i]? = some x) : l.take (i + 1) = l.take i ++ [x] := by
 rw [List.take_add_one, h]; rfl
theorem P66 (b : Bolt) (s : Int) (hs : tame 1000 s) (hb : ∀ x ∈ b.strips, tame 10000 x.long) (hl : b.strips.length < 1000) : PureCall Try.prog 93 [.ag (eBolt b), .i s] (.i (falses b.strips s)) := by
 refine pure_body okA hmix Try.func93 cb93 cc93 cs93 cn93 ?_
 simp only [rc93, rs93, eBolt, ru_reg, ru_seq, ru_block, ru_keep, thenQ, run_nil, run_cons, Fam.step, stepQ, evO, opv, qv, V.cells, solid, hasRef, hasRefL, upd_some, lkp_cons, lkp_nil, ↓reduceIte, Nat.reduceEqDiff, Qb, Qc, vw_i, vw_sl, vw_ag, zipA, Qd, Qi, true_and, and_self, reduceCtorEq, eBolt]
 refine ru_count b.strips.length (fun i => ⟨lkp [(1, .i s), (2, .pa (eBolt b)), (5, .i (falses (b.strips.take i) s)), (6, .i i)], []⟩) ?_ ?_ ?_
 ·simp only [eBolt, falses, Xh, Q4, kp, lkp_cons, lkp_nil, ↓reduceIte, Nat.reduceEqDiff, Qb, Qc, Zg, eBolt]
 ·intro i hi
  obtain ⟨x, hx⟩ : ∃ x, b.strips[i]? = some x := ⟨_, Ql hi⟩
  have hlt : (i : Int) < b.strips.length := by omega
  have hm := Qu hx
  have hc : falses (b.strips.take i) s ≤ i := Nat.le_trans Z4 (by simp; omega)
  simp only [eBolt, gA54, gA57, hx, eStrip, hlt, take_succ_of hx, falses, Xc, Z5, Q3, Q6, ru_skip, ru_reg, ru_any, ru_seq, ru_cnd, ite_P, ru_block, ru_keep, putBs, thenQ, blockQ, run_nil, run_cons, Fam.step, stepQ, runX, eff, nextD, fpR, fpQ, fpV, disjB, hits, evO, opv, qv, binV, ldV, iadV, lenV, callV, hasRef, hasRefL, flat, kp, upd_some, lkp_cons, lkp_nil, ↓reduceIte, Nat.reduceEqDiff, Nat.reduceAdd, Nat.reduceLT, Nat.reduceLeDiff, Qb, Qc, Q0, Qe, Qf, Qh, Qn, Qg, Qp, Qq, Qm, Zb, Qr, Zd, Za, Ze, vw_i, Qt, Qd, Qx, Qy, Zk, Qi, Zo, Zl, Qa, decide_true, true_and, and_true, and_self, implies_true, Q1, Zq, Zc, Q5, Qj, Qv, Qk, Qs, Zn, eStrip, eBolt]
  have h1 := hb x hm
  have h2 : tame 1000000 x.long ∧ tame 1000000 s := by unfold tame at *; omega
  have h3 : inI ((i : Int) + 1) := by unfold inI; omega
  unfold falses at hc
  refine ⟨h2, fun h => ?_, fun h => ?_⟩
  ·have h4 : inI (((b.strips.take i).countP (isFalse s) : Int) + 1) := by unfold inI; omega
   have h5 : isFalse s x = true := by simpa [isFalse] using h
   exact ⟨h4, h3, by simp [h5]⟩
  ·have h5 : isFalse s x = false := by simpa [isFalse] using h
   exact ⟨h3, by simp [h5]⟩
 ·simp only [eBolt, Zf, ru_reg, ru_seq, ru_cnd, ru_exit, ru_ret, ru_keep, thenQ, blockQ, run_nil, run_cons, Fam.step, stepQ, evO, opv, qv, binV, ldV, lenV, upd_some, lkp_cons, lkp_nil, ↓reduceIte, Nat.reduceEqDiff, Nat.reduceAdd, Nat.reduceLeDiff, Qb, Qc, Qe, Qf, Qh, Qn, Qg, endQ, rvs, rv1, resV, vw_i, Q7, Qd, Qa, decide_false, and_self, Qj, eBolt]
def r73 : List V → Prop × V | [.ag [.i a, .i b], .i m] => (True, .b (isSpan ⟨a, b⟩ m)) | _ => (False, .u)
theorem h73 (vs : List V) (h : (r73 vs).1) : PureCall Try.prog 109 vs (r73 vs).2 := by
 unfold r73 at h ⊢; split at h <;> first | exact P73 ⟨_, _⟩ _ | exact h.elim
theorem h58 (vs : List V) (h : (r73 vs).1) : PureCall Try.prog 89 vs (r73 vs).2 := by
 unfold r73 at h ⊢; split at h <;> first | exact P58 ⟨_, _⟩ _ | exact h.elim
def eBI (a : Bolt × Int) : List V := [.ag (eBolt a.1), .i a.2]
def dBI : List V → Bolt × Int | [.ag cs, .i n] => (dBolt cs, n) | _ => (⟨⟨0, 0⟩, [], 0⟩, 0)
theorem dBI_e (a : Bolt × Int) : dBI (eBI a) = a := by simp [dBI, eBI, dBolt_e]
def ok66 (l : List Strip) (s : Int) : Prop := tame 1000 s ∧ (∀ x ∈ l, tame 10000 x.long) ∧ l.length < 1000
def r66 : List V → Prop × V := fnG eBI dBI (fun a => ok66 a.1.strips a.2) (fun a => (falses a.1.strips a.2 : Int)) .i
def GB : Gam := ((GA.ext 109 r73).ext 89 r73).ext 93 r66
theorem okB : GOk Try.prog GB :=
 ((okA.ext (fun a w => Try.call109 a w) h73).ext (fun a w => Try.call89 a w) h58).ext (fun a w => Try.call93 a w) (fnG_ok fun a h => P66 a.1 a.2 h.1 h.2.1 h.2.2)
theorem gB54 (n lo hi : Int) : GB 88 [.i n, .i lo, .i hi] = (True, .b (within n lo hi)) := rfl
theorem gB67 (n lo hi : Int) : GB 102 [.i n, .i lo, .i hi] = (True, .b (within n lo hi)) := rfl
theorem gB73 (a b m : Int) : GB 109 [.ag [.i a, .i b], .i m] = (True, .b (isSpan ⟨a, b⟩ m)) := rfl
theorem gB58 (a b m : Int) : GB 89 [.ag [.i a, .i b], .i m] = (True, .b (isSpan ⟨a, b⟩ m)) := rfl
theorem gB66 (a b : Int) (l : List Strip) (w s : Int) : GB 93 [.ag [.i a, .i b, .sl 3 (l.map eStrip), .i w], .i s] = (ok66 l s, .i (falses l s)) :=
 (show GB 93 _ = r66 (eBI (⟨⟨a, b⟩, l, w⟩, s)) from rfl).trans (fnG_at _ (dBI_e _))
end Go.C02
set_option linter.unusedSimpArgs false
set_option linter.unusedVariables false
namespace Go.C02
open Go.Fam Go.Proofs
def can (b : Bolt) (s : Int) : Bool := within s b.stretch.low b.stretch.high && decide ((falses b.strips s : Int) ≤ b.wrong)
theorem P49 (b : Bolt) (s : Int) (h : ok66 b.strips s) : PureCall Try.prog 69 [.ag (eBolt b), .i s] (.b (can b s)) := by
 refine pure_body okB hmix Try.func69 cb69 cc69 cs69 cn69 ?_
 simp only [rc69, rs69, eBolt, gB54, gB66, h, ru_reg, ru_any, ru_seq, ru_ret, ru_keep, putBs, thenQ, run_nil, run_cons, Fam.step, stepQ, needQ, condB, ug, runX, eff, nextD, fpR, fpQ, fpV, disjB, hits, evO, opv, qv, pickV_bb, binV, ldV, callV, V.cells, solid, hasRef, hasRefL, flat, upd_some, lkp_cons, lkp_nil, ↓reduceIte, Nat.reduceEqDiff, Nat.reduceAdd, Nat.reduceLT, Nat.reduceLeDiff, Qb, Qc, Q2, Q0, Qe, Qf, Qh, Qn, Qo, Qz, Qg, Qp, Qq, Qm, Zb, Zd, Za, Ze, endQ, rvs, rv1, resV, vw_i, vw_b, vw_sl, vw_ag, zipA, Qd, V.b.injEq, Qx, Qy, Zk, Qi, Zo, Zl, Qa, true_and, and_true, and_self, implies_true, reduceCtorEq, Zq, Zc, beq_true, ite_f, Q9, imp_self, Qk, eBolt]
 rfl
def isStrip (x : Strip) : Bool := within x.long 1 2000 && isSpan x.pulled 4000
theorem P80 (s : Strip) : PureCall Try.prog 116 [.ag (eStrip s)] (.b (isStrip s)) := by
 refine pure_body okB hmix Try.func116 cb116 cc116 cs116 cn116 ?_
 simp only [rc116, rs116, eStrip, gB67, gB73, ru_reg, ru_seq, ru_ret, ru_keep, thenQ, run_nil, run_cons, Fam.step, stepQ, needQ, condB, ug, evO, opv, qv, pickV_bb, ldV, callV, V.cells, solid, hasRef, hasRefL, flat, upd_some, lkp_cons, lkp_nil, ↓reduceIte, Nat.reduceEqDiff, Nat.reduceAdd, Nat.reduceLT, Nat.reduceLeDiff, Qb, Qc, Q2, Q0, Qe, Qf, Qh, Qn, Qo, Qz, Qg, Qm, endQ, rvs, rv1, resV, vw_i, vw_b, vw_ag, zipA, Qd, V.b.injEq, Qx, Qy, Qi, Qa, true_and, and_true, and_self, implies_true, beq_true, ite_f, Q9, imp_self, spanE, eStrip]
 rfl
def isBolt (b : Bolt) : Bool := isSpan b.stretch 60 && decide (b.strips.length ≤ 8) && within b.wrong 0 2 && b.strips.all isStrip
theorem P59 (b : Bolt) : PureCall Try.prog 90 [.ag (eBolt b)] (.b (isBolt b)) := by
 refine pure_body okB hmix Try.func90 cb90 cc90 cs90 cn90 ?_
 simp only [rc90, rs90, gB54, gB58, ru_skip, ru_reg, ru_seq, ru_cnd, ite_P, ru_block, ru_ret, ru_keep, thenQ, run_nil, run_cons, Fam.step, stepQ, needQ, condB, ug, evO, opv, qv, pickV_bb, binV, ldV, lenV, callV, V.cells, solid, hasRef, hasRefL, flat, upd_some, lkp_cons, lkp_nil, ↓reduceIte, Nat.reduceEqDiff, Nat.reduceAdd, Nat.reduceLT, Nat.reduceLeDiff, Qb, Qc, Q2, Q0, Qe, Qf, Qh, Qn, Qo, Zg, Qg, Qm, endQ, rvs, rv1, resV, vw_i, vw_b, vw_sl, vw_ag, zipA, Qd, V.b.injEq, Qx, Qy, Qi, Qa, true_and, and_true, and_self, implies_true, beq_false, Zw, Zm, Q5, ite_t, Q9, Zh, imp_self, Qj, Q8, spanE, eBolt]
 refine ⟨fun h => ?_, fun h => ?_⟩
 ·unfold isBolt
  cases h1 : isSpan b.stretch 60 <;> cases h2 : within b.wrong 0 2 <;> simp [h1, h2] at h ⊢
  intro h3; omega
 ·have hb : isSpan b.stretch 60 = true ∧ b.strips.length ≤ 8 ∧ within b.wrong 0 2 = true := by
   cases h1 : isSpan b.stretch 60 <;> cases h2 : within b.wrong 0 2 <;> simp [h1, h2] at h ⊢
   omega
  refine ru_countC b.strips.length (fun i => ⟨lkp [(1, .pa (eBolt b)), (3, .i i)], []⟩) (fun i => (b.strips.take i).all isStrip = true) ?_ ?_ ?_ ?_
  ·simp only [Q4, kp, lkp_cons, lkp_nil, ↓reduceIte, Nat.reduceEqDiff, Qb, Qc, eBolt]
  ·rfl
  ·intro i hi hc
   obtain ⟨x, hx⟩ : ∃ x, b.strips[i]? = some x := ⟨_, Ql hi⟩
   have hlt : (i : Int) < b.strips.length := by omega
   have h3 : inI ((i : Int) + 1) := by unfold inI; omega
   simp only [gB54, gB58, hx, hlt, Q3, Q6, all_take_succ hx, hc, h3, ru_skip, ru_reg, ru_seq, ru_cnd, ite_P, ru_block, ru_ret, ru_keep, thenQ, blockQ, run_nil, run_cons, Fam.step, stepQ, needQ, condB, ug, evO, opv, qv, pickV_bb, binV, ldV, iadV, lenV, callV, hasRef, hasRefL, flat, kp, upd_some, lkp_cons, lkp_nil, ↓reduceIte, Nat.reduceEqDiff, Nat.reduceAdd, Nat.reduceLT, Nat.reduceLeDiff, Qb, Qc, Q2, Q0, Qe, Qf, Qh, Qn, Qo, Qz, Qg, Qm, Qr, endQ, rvs, rv1, resV, vw_i, vw_b, vw_ag, Qt, Qd, V.b.injEq, Qx, Qy, Zs, Qi, Qa, decide_true, true_and, and_true, and_self, implies_true, Q1, beq_false, Zw, Zm, Q5, ite_t, Zh, imp_self, Qj, Qv, Qk, Qs, Q8, spanE, eStrip, eBolt]
   refine ⟨fun h => ?_, fun h => ?_⟩
   ·have h5 : isStrip x = false := by cases h1 : within x.long 1 2000 <;> cases h2 : isSpan x.pulled 4000 <;> simp [isStrip, h1, h2] at h ⊢
    simp [isBolt, all_of_mem hx h5]
   ·unfold isStrip
    cases h1 : within x.long 1 2000 <;> cases h2 : isSpan x.pulled 4000 <;> simp [h1, h2] at h ⊢
  ·intro hc
   rw [Zf] at hc
   simp only [ru_reg, ru_seq, ru_cnd, ru_exit, ru_ret, ru_keep, thenQ, blockQ, run_nil, run_cons, Fam.step, stepQ, evO, opv, qv, binV, ldV, lenV, upd_some, lkp_cons, lkp_nil, ↓reduceIte, Nat.reduceEqDiff, Nat.reduceAdd, Nat.reduceLeDiff, Qb, Qc, Qe, Qf, Qh, Qn, Qg, endQ, rvs, rv1, resV, vw_b, Q7, Qd, V.b.injEq, Qa, decide_false, true_and, and_self, Qj, eBolt]
   simp [isBolt, hb, hc]
def dB : List V → Bolt | [.ag cs] => dBolt cs | _ => ⟨⟨0, 0⟩, [], 0⟩
def r49 : List V → Prop × V := fnG eBI dBI (fun a => ok66 a.1.strips a.2) (fun a => can a.1 a.2) .b
def r59 : List V → Prop × V := fnG (fun b => [.ag (eBolt b)]) dB (fun _ => True) isBolt .b
def r80 : List V → Prop × V | [.ag [.i a, .i b, .i c]] => (True, .b (isStrip ⟨a, ⟨b, c⟩⟩)) | _ => (False, .u)
theorem h80 (vs : List V) (h : (r80 vs).1) : PureCall Try.prog 116 vs (r80 vs).2 := by
 unfold r80 at h ⊢; split at h <;> first | exact P80 ⟨_, ⟨_, _⟩⟩ | exact h.elim
def GC : Gam := ((GB.ext 69 r49).ext 90 r59).ext 116 r80
theorem okC : GOk Try.prog GC :=
 ((okB.ext (fun a w => Try.call69 a w) (fnG_ok fun a h => P49 a.1 a.2 h)).ext (fun a w => Try.call90 a w) (fnG_ok fun a _ => P59 a)).ext (fun a w => Try.call116 a w) h80
theorem gC54 (n lo hi : Int) : GC 88 [.i n, .i lo, .i hi] = (True, .b (within n lo hi)) := rfl
theorem gC67 (n lo hi : Int) : GC 102 [.i n, .i lo, .i hi] = (True, .b (within n lo hi)) := rfl
theorem gC69 (l s : Int) : GC 117 [.i l, .i s] = (tame 1000000 l ∧ tame 1000000 s, .i (pull l s)) := rfl
theorem gC73 (a b m : Int) : GC 109 [.ag [.i a, .i b], .i m] = (True, .b (isSpan ⟨a, b⟩ m)) := rfl
theorem gC58 (a b m : Int) : GC 89 [.ag [.i a, .i b], .i m] = (True, .b (isSpan ⟨a, b⟩ m)) := rfl
theorem gC59 (a b : Int) (l : List Strip) (w : Int) : GC 90 [.ag [.i a, .i b, .sl 3 (l.map eStrip), .i w]] = (True, .b (isBolt ⟨⟨a, b⟩, l, w⟩)) :=
 (show GC 90 _ = r59 [.ag (eBolt ⟨⟨a, b⟩, l, w⟩)] from rfl).trans (fnG_at (e := fun b => [.ag (eBolt b)]) (⟨⟨a, b⟩, l, w⟩ : Bolt) (dBolt_e _))
end Go.C02
set_option linter.unusedSimpArgs false
set_option linter.unusedVariables false
namespace Go.C02
open Go.Fam Go.Proofs
def headOk (d : Dome) : Bool := within d.bolts.length 1 4 && within d.gores.length 3 16 && within d.loss 0 20 && within d.rounds.length 1 12 && decide (d.widths.length = d.rounds.length) && within d.slope 0 500
def goreOk (d : Dome) (g : Int) : Bool := within g 0 (d.bolts.length - 1)
def roundOk (s : Span) : Bool := isSpan s 40000
def widthOk (d : Dome) (n : Int) : Bool := within n (2 * d.loss) 2000
def isDome (d : Dome) : Bool := headOk d && d.gores.all (goreOk d) && d.rounds.all roundOk && d.widths.all (widthOk d)
def check (d : Dome) : Int := if isDome d then (if d.bolts.all isBolt then 0 else 21) else 20
theorem P39 (d : Dome) : PureCall Try.prog 58 [.ag (eDome d)] (.i (check d)) := by
 refine pure_body okC hmix Try.func58 cb58 cc58 cs58 cn58 ?_
 simp only [rc58, rs58, gC54, ru_skip, ru_reg, ru_seq, ru_cnd, ite_P, ru_block, ru_ret, ru_keep, thenQ, run_nil, run_cons, Fam.step, stepQ, needQ, condB, ug, evO, opv, qv, pickV_bb, binV, ldV, lenV, callV, V.cells, solid, hasRef, hasRefL, flat, upd_some, lkp_cons, lkp_nil, ↓reduceIte, Nat.reduceEqDiff, Nat.reduceAdd, Nat.reduceLT, Nat.reduceLeDiff, Qb, Qc, Q2, Q0, Qe, Qf, Qh, Qn, Qg, Qm, endQ, rvs, rv1, resV, vw_i, vw_sl, vw_ag, zipA, Qd, V.i.injEq, Qx, Qy, Qi, Qa, true_and, and_true, and_self, implies_true, beq_false, Zw, Zm, Q5, ite_t, Q9, Zh, imp_self, Qj, Q8, eDome]
 refine ⟨fun h => ?_, fun h => ?_⟩
 ·have h1 : headOk d = false := by
   unfold headOk
   cases h1 : within (↑d.bolts.length) 1 4 <;> cases h2 : within (↑d.gores.length) 3 16 <;> cases h3 : within d.loss 0 20 <;> cases h4 : within (↑d.rounds.length) 1 12 <;> cases h5 : within d.slope 0 500 <;>
    simp [h1, h2, h3, h4, h5] at h ⊢
   omega
  simp [check, isDome, h1]
 have hh : headOk d = true := by
  unfold headOk
  cases h1 : within (↑d.bolts.length) 1 4 <;> cases h2 : within (↑d.gores.length) 3 16 <;> cases h3 : within d.loss 0 20 <;> cases h4 : within (↑d.rounds.length) 1 12 <;> cases h5 : within d.slope 0 500 <;>
   simp [h1, h2, h3, h4, h5] at h ⊢
  omega
 have hs : d.bolts.length ≤ 4 ∧ d.gores.length ≤ 16 ∧ (0 ≤ d.loss ∧ d.loss ≤ 20) ∧ d.rounds.length ≤ 12 ∧ d.widths.length = d.rounds.length := by
  simp [headOk, within] at hh
  omega
 have hin : inI (2 * d.loss) := by unfold inI; omega
 have hin2 : inI ((d.bolts.length : Int) - 1) := by unfold inI; omega
 refine ru_countC d.gores.length (fun i => ⟨lkp [(1, .pa (eDome d)), (3, .i i)], []⟩) (fun i => (d.gores.take i).all (goreOk d) = true) ?_ ?_ ?_ ?_
 ·simp only [Q4, kp, lkp_cons, lkp_nil, ↓reduceIte, Nat.reduceEqDiff, Qb, Qc, eDome]
 ·rfl
 ·intro i hi hc
  obtain ⟨x, hx⟩ : ∃ x, d.gores[i]? = some x := ⟨_, Ql hi⟩
  have hlt : (i : Int) < d.gores.length := by omega
  have h3 : inI ((i : Int) + 1) := by unfold inI; omega
  simp only [gC54, hx, hlt, Q3, Q6, all_take_succ hx, hc, h3, hin2, ru_skip, ru_reg, ru_any, ru_seq, ru_cnd, ite_P, ru_block, ru_ret, ru_keep, putBs, thenQ, blockQ, run_nil, run_cons, Fam.step, stepQ, runX, eff, nextD, fpR, fpQ, fpV, disjB, hits, evO, opv, qv, binV, ldV, iadV, lenV, callV, hasRef, hasRefL, flat, kp, upd_some, lkp_cons, lkp_nil, ↓reduceIte, Nat.reduceEqDiff, Nat.reduceAdd, Nat.reduceLT, Nat.reduceLeDiff, Qb, Qc, Q0, Qe, Qf, Qh, Qn, Qg, Qp, Qq, Qm, Zb, Qr, Zd, Za, Ze, endQ, rvs, rv1, resV, vw_i, Qt, Qd, V.i.injEq, Qx, Qy, Zs, Zk, Qi, Zo, Zl, Qa, decide_true, true_and, and_true, and_self, implies_true, Q1, Zq, Zc, Q5, Qj, Qv, Qk, Qs, Zn, eDome, eI]
  refine ⟨fun h => ?_, fun h => ?_⟩
  ·have h5 : goreOk d x = false := h
   simp [check, isDome, all_of_mem hx h5]
  ·exact h
 intro hc1
 rw [Zf] at hc1
 simp only [ru_reg, ru_seq, ru_cnd, ru_block, ru_exit, ru_keep, thenQ, blockQ, run_nil, run_cons, Fam.step, stepQ, evO, opv, qv, binV, ldV, lenV, upd_some, lkp_cons, lkp_nil, ↓reduceIte, Nat.reduceEqDiff, Nat.reduceAdd, Nat.reduceLeDiff, Qb, Qc, Qe, Qf, Qh, Qn, Qg, Q7, Qd, Qa, decide_false, true_and, Qj, eDome]
 refine ru_countC d.rounds.length (fun i => ⟨lkp [(1, .pa (eDome d)), (4, .i i)], []⟩) (fun i => (d.rounds.take i).all roundOk = true ∧ (d.widths.take i).all (widthOk d) = true) ?_ ?_ ?_ ?_
 ·simp only [Q4, kp, lkp_cons, lkp_nil, ↓reduceIte, Nat.reduceEqDiff, Qb, Qc, eDome]
 ·exact ⟨rfl, rfl⟩
 ·intro i hi hc
  obtain ⟨x, hx⟩ : ∃ x, d.rounds[i]? = some x := ⟨_, Ql hi⟩
  obtain ⟨y, hy⟩ : ∃ y, d.widths[i]? = some y := ⟨_, Ql (by omega)⟩
  have hlt : (i : Int) < d.rounds.length := by omega
  have hlt' : (i : Int) < d.widths.length := by omega
  have h3 : inI ((i : Int) + 1) := by unfold inI; omega
  simp only [gC54, gC58, hx, hy, hlt, hlt', Q3, Q6, all_take_succ hx, all_take_succ hy, hc.1, hc.2, h3, hin, ru_skip, ru_reg, ru_any, ru_seq, ru_cnd, ite_P, ru_block, ru_ret, ru_keep, putBs, thenQ, blockQ, run_nil, run_cons, Fam.step, stepQ, needQ, condB, ug, runX, eff, nextD, fpR, fpQ, fpV, disjB, hits, evO, opv, qv, pickV_bb, binV, ldV, iadV, lenV, callV, hasRef, hasRefL, flat, kp, upd_some, lkp_cons, lkp_nil, ↓reduceIte, Nat.reduceEqDiff, Nat.reduceAdd, Nat.reduceLT, Nat.reduceLeDiff, Qb, Qc, Q2, Q0, Qe, Qf, Qh, Qn, Qo, Qz, Qg, Qp, Qq, Qm, Zb, Qr, Zd, Za, Ze, endQ, rvs, rv1, resV, vw_i, vw_ag, Qt, Qd, V.i.injEq, Qx, Qy, Zs, Zk, Qi, Zo, Zl, Qa, decide_true, true_and, and_true, and_self, implies_true, Q1, Zq, Zc, beq_false, Zw, Zm, Q5, ite_t, Zh, imp_self, Qj, Qv, Qk, Qs, Q8, spanE, eSpan, eDome, eI]
  refine ⟨fun h => ?_, fun h => ?_⟩
  ·by_cases h5 : isSpan x 40000 = true
   ·have h6 : widthOk d y = false := by simpa [h5, widthOk] using h
    simp [check, isDome, all_of_mem hy h6]
   ·have h6 : roundOk x = false := by simpa [roundOk] using h5
    simp [check, isDome, all_of_mem hx h6]
  ·have h7 : isSpan x 40000 = true ∧ within y (2 * d.loss) 2000 = true := by
    cases h1 : isSpan x 40000 <;> cases h2 : within y (2 * d.loss) 2000 <;> simp [h1, h2] at h ⊢
   exact ⟨h7.1, h7.2⟩
 intro hc2
 rw [Zf, ← hs.2.2.2.2, Zf] at hc2
 simp only [ru_reg, ru_seq, ru_cnd, ru_block, ru_exit, ru_keep, thenQ, blockQ, run_nil, run_cons, Fam.step, stepQ, evO, opv, qv, binV, ldV, lenV, upd_some, lkp_cons, lkp_nil, ↓reduceIte, Nat.reduceEqDiff, Nat.reduceAdd, Nat.reduceLeDiff, Qb, Qc, Qe, Qf, Qh, Qn, Qg, Q7, Qd, Qa, decide_false, true_and, Qj, eDome]
 refine ru_countC d.bolts.length (fun i => ⟨lkp [(1, .pa (eDome d)), (5, .i i)], []⟩) (fun i => (d.bolts.take i).all isBolt = true) ?_ ?_ ?_ ?_
 ·simp only [Q4, kp, lkp_cons, lkp_nil, ↓reduceIte, Nat.reduceEqDiff, Qb, Qc, eDome]
 ·rfl
 ·intro i hi hc
  obtain ⟨x, hx⟩ : ∃ x, d.bolts[i]? = some x := ⟨_, Ql hi⟩
  have hlt : (i : Int) < d.bolts.length := by omega
  have h3 : inI ((i : Int) + 1) := by unfold inI; omega
  simp only [gC59, hx, hlt, Q3, Q6, all_take_succ hx, hc, h3, ru_skip, ru_reg, ru_seq, ru_cnd, ite_P, ru_block, ru_ret, ru_keep, thenQ, blockQ, run_nil, run_cons, Fam.step, stepQ, evO, opv, qv, binV, ldV, iadV, lenV, callV, hasRef, hasRefL, flat, kp, upd_some, lkp_cons, lkp_nil, ↓reduceIte, Nat.reduceEqDiff, Nat.reduceAdd, Nat.reduceLT, Nat.reduceLeDiff, Qb, Qc, Qe, Qf, Qn, Qo, Qz, Qg, Qm, Qr, endQ, rvs, rv1, resV, vw_i, vw_sl, vw_ag, Qt, Qd, V.i.injEq, Zs, Qi, Qa, decide_true, true_and, and_true, and_self, implies_true, Q1, Q5, imp_self, Qj, Qv, Qk, Qs, Zn, spanE, boltE, eBolt, eDome]
  intro h
  simp [check, isDome, hh, hc1, hc2, all_of_mem hx h]
 intro hc3
 rw [Zf] at hc3
 simp only [ru_reg, ru_seq, ru_cnd, ru_exit, ru_ret, ru_keep, thenQ, blockQ, run_nil, run_cons, Fam.step, stepQ, evO, opv, qv, binV, ldV, lenV, upd_some, lkp_cons, lkp_nil, ↓reduceIte, Nat.reduceEqDiff, Nat.reduceAdd, Nat.reduceLeDiff, Qb, Qc, Qe, Qf, Qn, Qg, endQ, rvs, rv1, resV, vw_i, Q7, Qd, V.i.injEq, Qa, decide_false, true_and, and_self, Qj, eDome]
 simp [check, isDome, hh, hc1, hc2, hc3]
end Go.C02
set_option linter.unusedSimpArgs false
set_option linter.unusedVariables false
namespace Go.C02
open Go.Fam Go.Proofs
def dD : List V → Dome | [.ag cs] => dDome cs | _ => ⟨[], [], 0, [], [], 0⟩
def r39 : List V → Prop × V := fnG (fun d => [.ag (eDome d)]) dD (fun _ => True) check .i
theorem P46 (d : Dome) (n : Int) (h : d.rounds.length < 1000) : PureCall Try.prog 97 [.ag (eDome d), .i n] (.b (within n 0 (d.rounds.length - 1))) := by
 refine pure_body okC hmix Try.func97 cb97 cc97 cs97 cn97 ?_
 simp only [rc97, rs97, gC67, ru_reg, ru_seq, ru_ret, ru_keep, thenQ, run_nil, run_cons, Fam.step, stepQ, evO, opv, qv, binV, ldV, lenV, callV, V.cells, solid, hasRef, hasRefL, flat, upd_some, lkp_cons, lkp_nil, ↓reduceIte, Nat.reduceEqDiff, Nat.reduceAdd, Nat.reduceLT, Nat.reduceLeDiff, Qb, Qc, Qe, Qf, Qh, Qn, Qg, Qm, endQ, rvs, rv1, resV, vw_i, vw_b, vw_sl, vw_ag, zipA, Qd, Qi, Qa, true_and, and_true, and_self, implies_true, reduceCtorEq, Qj, eDome]
 unfold inI; omega
theorem P56 (d : Dome) (n : Int) (h : d.bolts.length < 1000) : PureCall Try.prog 103 [.ag (eDome d), .i n] (.b (within n 0 (d.bolts.length - 1))) := by
 refine pure_body okC hmix Try.func103 cb103 cc103 cs103 cn103 ?_
 simp only [rc103, rs103, gC67, ru_reg, ru_seq, ru_ret, ru_keep, thenQ, run_nil, run_cons, Fam.step, stepQ, evO, opv, qv, binV, ldV, lenV, callV, V.cells, solid, hasRef, hasRefL, flat, upd_some, lkp_cons, lkp_nil, ↓reduceIte, Nat.reduceEqDiff, Nat.reduceAdd, Nat.reduceLT, Nat.reduceLeDiff, Qb, Qc, Qe, Qf, Qn, Qg, Qm, endQ, rvs, rv1, resV, vw_i, vw_b, vw_sl, vw_ag, zipA, Qd, Qi, Qa, true_and, and_true, and_self, implies_true, reduceCtorEq, Qj, eDome]
 unfold inI; omega
theorem pull_tame {l s : Int} (hl : tame 1000000 l) (hs : tame 1000000 s) : tame 1001000000000 (pull l s) := by
 have h1 : tame 1001000 (1000 + s) := by unfold tame at *; omega
 have h2 := mul_tame hl h1 (by decide) (by decide)
 unfold pull
 unfold tame at *
 generalize l * (1000 + s) = x at *
 constructor
 ·by_cases h : 0 ≤ x
  ·rw [Qw h]; omega
  ·have e : x = -(-x) := by omega
   rw [e, Z2, Qw (by omega)]; omega
 ·by_cases h : 0 ≤ x
  ·rw [Qw h]; omega
  ·have e : x = -(-x) := by omega
   rw [e, Z2, Qw (by omega)]; omega
theorem sum_tame {M : Int} (hM : 0 ≤ M) : ∀ (l : List Int), (∀ x ∈ l, tame M x) → tame (M * l.length) l.sum
 | [], _ => by simp [tame]
 | x :: l, h => by
  have h1 := h x (by simp)
  have h2 := sum_tame hM l fun y hy => h y (by simp [hy])
  have h3 : M * ((x :: l).length : Int) = M * l.length + M := by rw [Qe, Q3, Int.mul_add]; simp
  rw [h3, List.sum_cons]
  unfold tame at *
  omega
def sumBy (l : List Int) (f : Int → Int) : Int := (l.map f).sum
theorem sumBy_succ {l : List Int} {f : Int → Int} {i : Nat} {x : Int} (h : l[i]? = some x) : sumBy (l.take (i + 1)) f = sumBy (l.take i) f + f x := by
 simp [sumBy, take_succ_of h]
theorem sumBy_in {l : List Int} {f : Int → Int} (i : Nat) (hl : l.length ≤ 100000) (hf : ∀ x ∈ l, tame 1001000000000 (f x)) : tame 100100000000000000 (sumBy (l.take i) f) := by
 have := sum_tame (M := 1001000000000) (by decide) ((l.take i).map f) (fun y hy => by
  obtain ⟨x, hx, rfl⟩ := List.mem_map.1 hy
  exact hf x (List.mem_of_mem_take hx))
 have h2 : ((l.take i).map f).length ≤ l.length := by simp; omega
 unfold sumBy
 unfold tame at *
 omega
theorem P61 (b : Bolt) (s : Int) (h : ok66 b.strips s) : PureCall Try.prog 100 [.ag (eBolt b), .i s] (.i (falses b.strips s)) := by
 refine pure_body okC hmix Try.func100 cb100 cc100 cs100 cn100 ?_
 obtain ⟨hs, hb, hl⟩ := h
 simp only [rc100, rs100, ru_reg, ru_seq, ru_block, ru_keep, thenQ, run_nil, run_cons, Fam.step, stepQ, evO, opv, qv, ldV, lenV, V.cells, solid, hasRef, hasRefL, upd_some, lkp_cons, lkp_nil, ↓reduceIte, Nat.reduceEqDiff, Nat.reduceAdd, Nat.reduceLeDiff, Qb, Qc, Qe, Qf, Qh, Qn, Qg, vw_i, vw_sl, vw_ag, zipA, Qd, Qi, Qa, true_and, and_self, reduceCtorEq, Qj, eBolt]
 refine ru_count b.strips.length (fun i => ⟨lkp [(1, .i s), (4, .i (falses (b.strips.take i) s)), (8, .sl 3 (b.strips.map eStrip)), (9, .i b.strips.length), (10, .i i)], []⟩) ?_ ?_ ?_
 ·simp only [falses, Xh, Q4, cutH, kp, cutV, lkp_cons, lkp_nil, ↓reduceIte, Nat.reduceEqDiff, Qb, Qc, Zg, Qz]
 ·intro i hi
  obtain ⟨x, hx⟩ : ∃ x, b.strips[i]? = some x := ⟨_, Ql hi⟩
  have hlt : (i : Int) < b.strips.length := by omega
  have hm := Qu hx
  have hc : falses (b.strips.take i) s ≤ i := Nat.le_trans Z4 (by simp; omega)
  simp only [gC67, gC69, hx, hlt, take_succ_of hx, falses, Xc, Z5, Q3, Q6, ru_skip, ru_reg, ru_any, ru_seq, ru_cnd, ite_P, ru_block, ru_keep, ru_drp, ↓cut_lkp, putBs, cutH, putB, thenQ, blockQ, run_nil, run_cons, Fam.step, stepQ, stepW, needW, runX, eff, nextD, fpR, fpQ, fpV, disjB, hits, putB, nv, sv, evO, opv, qv, binV, ldV, iadV, curG, callV, putAt, V.cells, solid, cellOk, hasRef, hasRefL, flat, kp, cutV, upd_some, upd_none, lkp_cons, lkp_nil, ↓reduceIte, Nat.reduceEqDiff, Nat.reduceAdd, Nat.reduceLT, Nat.reduceLeDiff, Qb, Qc, Q2, Q0, Qe, Qf, Qh, Qn, Zx, Qo, Zg, Qz, Qg, Qp, Qq, Qm, Zi, Zb, Qr, Zd, Zr, Za, Ze, vw_i, Qt, beq_self_eq_true, Qd, Z3, Qx, Qy, Zk, Qi, Zo, Zl, Qa, decide_true, true_and, and_true, and_self, implies_true, Q1, Zq, Zv, Zc, Q5, Qj, Qv, Qk, Qs, Zn, eStrip]
  have h1 := hb x hm
  have h2 : tame 1000000 x.long ∧ tame 1000000 s := by unfold tame at *; omega
  have h3 : inI ((i : Int) + 1) := by unfold inI; omega
  unfold falses at hc
  refine ⟨h2, fun h => ?_, fun h => ?_⟩
  ·have h4 : inI (((b.strips.take i).countP (isFalse s) : Int) + 1) := by unfold inI; omega
   have h5 : isFalse s x = true := by simpa [isFalse] using h
   exact ⟨h4, h3, by simp [h5]⟩
  ·have h5 : isFalse s x = false := by simpa [isFalse] using h
   exact ⟨h3, by simp [h5]⟩
 ·simp only [Zf, ru_reg, ru_seq, ru_cnd, ru_exit, ru_ret, ru_keep, thenQ, blockQ, run_nil, run_cons, Fam.step, stepQ, evO, opv, qv, binV, upd_some, lkp_cons, lkp_nil, ↓reduceIte, Nat.reduceEqDiff, Qb, Qc, endQ, rvs, rv1, resV, vw_i, Q7, Qa, decide_false, and_self]
def lowOf (t : Tent) (g : Int) : Int := ((t.can[g.toNat]?).getD []).headD 0
def highOf (t : Tent) (g : Int) : Int := ((t.can[g.toNat]?).getD []).getLastD 0
def roundOf (t : Tent) (w : Int) : Span := ⟨sumBy t.dome.gores fun g => pull (w - 2 * t.dome.loss) (lowOf t g), sumBy t.dome.gores fun g => pull (w - 2 * t.dome.loss) (highOf t g)⟩
def ok50 (t : Tent) (w : Int) : Prop := tame 100000 w ∧ tame 100000 t.dome.loss ∧ (∀ g ∈ t.dome.gores, 0 ≤ g ∧ g < t.can.length) ∧ (∀ l ∈ t.can, l ≠ [] ∧ l.length < 100000 ∧ ∀ s ∈ l, tame 100000 s) ∧ t.dome.gores.length < 100000
theorem P50 (t : Tent) (w : Int) (h : ok50 t w) : PureCall Try.prog 98 [.pa (eTent t), .i w] (.ag (eSpan (roundOf t w))) := by
 refine pure_body okC hmix Try.func98 cb98 cc98 cs98 cn98 ?_
 obtain ⟨h1, h2, h3, h4, h5⟩ := h
 simp only [rc98, rs98, ru_reg, ru_seq, ru_block, ru_keep, thenQ, run_nil, run_cons, Fam.step, stepQ, stepW, needW, nv, evO, opv, qv, ldV, lenV, upd_some, lkp_cons, lkp_nil, ↓reduceIte, Nat.reduceEqDiff, Nat.reduceAdd, Nat.reduceLeDiff, Qb, Qc, Qe, Qf, Qh, Qn, Qg, Qp, Qq, zipA, Qd, Qa, true_and, and_self, reduceCtorEq, Qj, eSpan, eDome, eTent]
 have i1 : inI (2 * t.dome.loss) := by unfold inI tame at *; omega
 have i2 : inI (w - 2 * t.dome.loss) := by unfold inI tame at *; omega
 have i3 : tame 1000000 (w - 2 * t.dome.loss) := by unfold tame at *; omega
 have hget : ∀ g ∈ t.dome.gores, ∃ x l', t.can[g.toNat]? = some (x :: l') ∧ (∀ s ∈ x :: l', tame 100000 s) ∧ (x :: l').length < 100000 := by
  intro g hg
  obtain ⟨h6, h7⟩ := h3 g hg
  obtain ⟨y, hy⟩ : ∃ y, t.can[g.toNat]? = some y := ⟨_, Ql (by omega)⟩
  obtain ⟨a1, a2, a3⟩ := h4 y (Qu hy)
  cases y with
  | nil => exact absurd rfl a1
  | cons x l' => exact ⟨x, l', hy, a3, a2⟩
 have hlast : ∀ (x : Int) (l' : List Int), (x :: l')[l'.length]? = some ((x :: l').getLastD 0) := by
  intro x l'
  have := List.getLast?_eq_getElem? (l := x :: l')
  simp only [Qe, Nat.add_sub_cancel] at this
  rw [← this, List.getLastD_eq_getLast?, List.getLast?_cons]
  rfl
 have hf1 : ∀ g ∈ t.dome.gores, tame 1001000000000 (pull (w - 2 * t.dome.loss) (lowOf t g)) := by
  intro g hg
  obtain ⟨x, l', e, a, _⟩ := hget g hg
  refine pull_tame i3 ?_
  have := a x (by simp)
  simp only [lowOf, e, Qr, Qg]
  unfold tame at *; omega
 have hf2 : ∀ g ∈ t.dome.gores, tame 1001000000000 (pull (w - 2 * t.dome.loss) (highOf t g)) := by
  intro g hg
  obtain ⟨x, l', e, a, _⟩ := hget g hg
  refine pull_tame i3 ?_
  have := a ((x :: l').getLastD 0) (Qu (hlast x l'))
  simp only [highOf, e, Qr]
  unfold tame at *; omega
 refine ru_count t.dome.gores.length (fun i => ⟨lkp [(0, .pa (eTent t)), (1, .i w), (4, .ad 0 0 0), (12, .sl 1 (t.dome.gores.map eI)), (13, .i t.dome.gores.length), (14, .i i)],
  [.cells 0 [.i (sumBy (t.dome.gores.take i) fun g => pull (w - 2 * t.dome.loss) (lowOf t g)), .i (sumBy (t.dome.gores.take i) fun g => pull (w - 2 * t.dome.loss) (highOf t g))]]⟩) ?_ ?_ ?_
 ·simp only [Q4, kp, lkp_cons, lkp_nil, ↓reduceIte, Nat.reduceEqDiff, Qb, Qc, Zg, Qp, Qq, reduceCtorEq, eDome, eTent]
  rfl
 ·intro i hi
  obtain ⟨g, hg⟩ : ∃ g, t.dome.gores[i]? = some g := ⟨_, Ql hi⟩
  have hm := Qu hg
  obtain ⟨h6, h7⟩ := h3 g hm
  obtain ⟨x, l', hy, hc, hlen⟩ := hget g hm
  have hl := hlast x l'
  have hlt : (i : Int) < t.dome.gores.length := by omega
  have i4 : inI ((i : Int) + 1) := by unfold inI; omega
  have e1 : lowOf t g = x := by simp [lowOf, hy]
  have e2 : highOf t g = (x :: l').getLastD 0 := by simp only [highOf, hy, Qr]
  have i5 : tame 1000000 x := by have := hc x (by simp); unfold tame at *; omega
  have i6 : tame 1000000 ((x :: l').getLastD 0) := by have := hc _ (Qu hl); unfold tame at *; omega
  have j1 := sumBy_in i (by omega) hf1
  have j2 := sumBy_in i (by omega) hf2
  have j3 := hf1 g hm
  have j4 := hf2 g hm
  generalize hL : (x :: l').getLastD 0 = z at *
  have hl' : ([V.i x] :: l'.map eI)[l'.length]? = some [V.i z] := by
   have : ((x :: l').map eI)[l'.length]? = some (eI z) := by rw [Qs, hl]; rfl
   exact this
  have k3 : inI (l'.length : Int) := by simp at hlen; unfold inI; omega
  have k4 : (0 : Int) < l'.length + 1 := by omega
  have k5 : (l'.length : Int) < l'.length + 1 := by omega
  have k1 : inI ((sumBy (t.dome.gores.take i) fun g => pull (w - 2 * t.dome.loss) (lowOf t g)) + pull (w - 2 * t.dome.loss) x) := by rw [e1] at j3; unfold inI tame at *; omega
  have k2 : inI ((sumBy (t.dome.gores.take i) fun g => pull (w - 2 * t.dome.loss) (highOf t g)) + pull (w - 2 * t.dome.loss) z) := by rw [e2] at j4; unfold inI tame at *; omega
  simp only [gC69, hg, hlt, Q3, Q6, sumBy_succ hg, hy, h6, h7, i1, i2, i3, i4, i5, i6, k1, k2, k3, k4, k5, hl', e1, e2, ru_skip, ru_reg, ru_any, ru_seq, ru_cnd, ru_block, ru_keep, putBs, optL, thenQ, blockQ, run_nil, run_cons, Fam.step, stepQ, needW, runX, eff, nextD, fpR, fpQ, fpV, disjB, hits, nv, sv, evO, opv, qv, binV, ldV, iadV, lenV, curG, callV, putAt, V.cells, solid, cellOk, hasRef, hasRefL, flat, kp, upd_some, upd_none, lkp_cons, lkp_nil, ↓reduceIte, Nat.reduceEqDiff, Nat.reduceAdd, Nat.reduceLT, Nat.reduceLeDiff, Zz, Z7, Int.reduceLE, Qb, Qc, Q2, Q0, Qe, Qf, Qh, Qn, Zx, Qo, Zg, Qg, Qp, Qq, Qm, Zi, Zb, Qr, Zd, Zr, Za, Ze, Z0, vw_i, Qt, beq_self_eq_true, Qd, Z3, Qx, Qy, Zs, Zk, Qi, Zt, Zo, Zl, Qa, decide_true, and_self, implies_true, reduceCtorEq, Q1, Xb, Zq, Zv, Zc, Qj, Qv, Qk, Qs, eDome, eI, eCan, eTent]
 ·simp only [Zf, roundOf, ru_reg, ru_seq, ru_cnd, ru_exit, ru_ret, ru_keep, putB, thenQ, blockQ, run_nil, run_cons, Fam.step, stepQ, stepW, needW, putB, nv, sv, evO, opv, qv, binV, ldV, putAt, V.cells, solid, cellOk, upd_some, upd_none, lkp_cons, lkp_nil, ↓reduceIte, Nat.reduceEqDiff, Nat.reduceAdd, Nat.reduceLeDiff, Qb, Qc, Q2, Q0, Qe, Qf, Qh, Qn, Zx, Qo, Zg, Qz, Qp, Qq, Qm, Zi, Zr, endQ, rvs, rv1, resV, vw_i, vw_ag, Q7, Qd, Qx, Qa, decide_false, and_self, reduceCtorEq, eDome, eTent]
end Go.C02
set_option linter.unusedSimpArgs false
set_option linter.unusedVariables false
namespace Go.C02
open Go.Fam Go.Proofs
variable {Γ : Gam}
def idxOf {α : Type} (p : α → Bool) (l : List α) : Int := if l.any p then (l.findIdx p : Int) else -1
theorem idxOf_at {α : Type} {p : α → Bool} {l : List α} {i : Nat} {x : α} (hx : l[i]? = some x) (e : p x = true) (hc : ∀ j x, j < i → l[j]? = some x → p x = false) : idxOf p l = i := by
 have h1 : l.any p = true := List.any_eq_true.2 ⟨x, Qu hx, e⟩
 have hl := getElemLt hx
 have h2 : l[i] = x := by have := Ql hl; rw [this] at hx; exact Xf.inj hx
 have h3 : l.findIdx p = i := (List.findIdx_eq hl).2 ⟨by rw [h2]; exact e, fun j hj => hc j _ hj (Ql (by omega))⟩
 simp [idxOf, h1, h3]
theorem idxOf_none {α : Type} {p : α → Bool} {l : List α} (h : ∀ x ∈ l, p x = false) : idxOf p l = -1 := by
 have : l.any p = false := by simpa using h
 simp [idxOf, this]
theorem idxOf_any {α : Type} (p : α → Bool) (l : List α) : decide (0 ≤ idxOf p l) = l.any p := by
 unfold idxOf
 cases h : l.any p <;> simp
theorem P87 (hG : GOk Try.prog Γ) (x : Strip) (f : Nat) (hf : f < 1000000) (caps : List V) (b : Bool) (hv : caps.map (vw [] 8) = caps) (hr : hasRefL caps = false) (h : Γ f (V.ag (eStrip x) :: caps) = (True, .b b)) :
  PureCall Try.prog 126 [V.ag (eStrip x), .pa [.fn f caps]] (.b (!b)) := by
 refine pure_body hG hmix Try.func126 cb126 cc126 cs126 cn126 ?_
 simp only [rc126, rs126, ru_reg, ru_seq, ru_ret, ru_keep, thenQ, run_nil, run_cons, Fam.step, stepQ, evO, opv, qv, ldV, callV, V.cells, solid, hasRef, hasRefL, upd_some, lkp_cons, lkp_nil, ↓reduceIte, Nat.reduceEqDiff, Nat.reduceAdd, Nat.reduceLeDiff, Qb, Qc, Qe, Qf, Qo, Qz, Qg, Qp, Qq, endQ, rvs, rv1, resV, vw_i, vw_ag, zipA, Qd, Qi, Zt, Qa, true_and, and_self, reduceCtorEq, eStrip]
 try simp only [eStrip] at h
 simp only [h, hv, hr, hf, flat, vw_b, Qa, and_self, implies_true]
theorem P90 (hG : GOk Try.prog Γ) (l : List Strip) (f : Nat) (hf : f < 1000000) (caps : List V) (p : Strip → Bool) (hv : caps.map (vw [] 8) = caps) (hr : hasRefL caps = false) (hl : l.length < 10000000)
  (h : ∀ x ∈ l, Γ f (V.ag (eStrip x) :: caps) = (True, .b (p x))) : PureCall Try.prog 129 [.sl 3 (l.map eStrip), .fn f caps] (.i (idxOf p l)) := by
 refine pure_body hG hmix Try.func129 cb129 cc129 cs129 cn129 ?_
 simp only [rc129, rs129, ru_reg, ru_seq, ru_block, ru_keep, thenQ, run_nil, run_cons, Fam.step, stepQ, evO, opv, qv, lenV, upd_some, lkp_cons, lkp_nil, ↓reduceIte, Nat.reduceEqDiff, Int.reduceNeg, Qb, Qc, zipA, Qd, true_and, reduceCtorEq, Qj]
 refine ru_countC l.length (fun i => ⟨lkp [(0, .sl 3 (l.map eStrip)), (1, .fn f caps), (7, .i l.length), (8, .i i)], []⟩) (fun i => ∀ j x, j < i → l[j]? = some x → p x = false) ?_ ?_ ?_ ?_
 ·simp only [Q4, kp, lkp_cons, lkp_nil, ↓reduceIte, Nat.reduceEqDiff, Qb, Qc, reduceCtorEq]
 ·intro j x h; omega
 ·intro i hi hc
  obtain ⟨x, hx⟩ : ∃ x, l[i]? = some x := ⟨_, Ql hi⟩
  have hlt : (i : Int) < l.length := by omega
  have h3 : inI ((i : Int) + 1) := by unfold inI; omega
  have hp := h x (Qu hx)
  try simp only [eStrip] at hp
  simp only [hx, hlt, Q3, Q6, h3, hp, hv, hr, hf, ru_skip, ru_reg, ru_seq, ru_cnd, ite_P, ru_block, ru_ret, ru_keep, thenQ, blockQ, run_nil, run_cons, Fam.step, stepQ, evO, opv, qv, binV, ldV, iadV, callV, hasRef, hasRefL, flat, kp, upd_some, lkp_cons, lkp_nil, ↓reduceIte, Nat.reduceEqDiff, Nat.reduceAdd, Nat.reduceLeDiff, Int.reduceNeg, Qb, Qc, Qe, Qf, Qo, Qz, Qp, Qq, Qr, endQ, rvs, rv1, resV, vw_i, vw_ag, Qt, Qd, V.i.injEq, Qi, Qa, decide_true, true_and, and_true, and_self, implies_true, reduceCtorEq, Q1, Qj, Qv, Qk, Qs, Q8, eStrip]
  refine ⟨fun e => ?_, fun e => ?_⟩
  ·rw [idxOf_at hx e hc]
  ·intro j y hj hy
   by_cases hji : j < i
   ·exact hc j y hji hy
   ·have : j = i := by omega
    subst this
    rw [hx] at hy; cases hy; exact e
 ·intro hc
  simp only [ru_reg, ru_seq, ru_cnd, ru_exit, ru_ret, ru_keep, thenQ, blockQ, run_nil, run_cons, Fam.step, stepQ, evO, opv, qv, binV, upd_some, lkp_cons, lkp_nil, ↓reduceIte, Nat.reduceEqDiff, Int.reduceNeg, Qb, Qc, endQ, rvs, rv1, resV, vw_i, Q7, V.i.injEq, Qa, decide_false, true_and, and_self, reduceCtorEq]
  exact (idxOf_none fun x hx => by
   obtain ⟨j, hj⟩ := Zu hx
   exact hc j x (by have := getElemLt hj; exact this) hj).symm
theorem P86 (hG : GOk Try.prog Γ) (l : List Strip) (f : Nat) (caps : List V) (p : Strip → Bool) (hv : caps.map (vw [] 7) = caps) (hr : hasRefL caps = false)
  (h : Γ 129 [.sl 3 (l.map eStrip), .fn f caps] = (True, .i (idxOf p l))) : PureCall Try.prog 125 [.sl 3 (l.map eStrip), .fn f caps] (.b (l.any p)) := by
 refine pure_body hG hmix Try.func125 cb125 cc125 cs125 cn125 ?_
 simp only [rc125, rs125, hv, hr, h, ru_reg, ru_seq, ru_ret, ru_keep, thenQ, run_nil, run_cons, Fam.step, stepQ, evO, opv, qv, binV, callV, hasRef, hasRefL, flat, upd_some, lkp_cons, lkp_nil, ↓reduceIte, Nat.reduceEqDiff, Nat.reduceLT, Qb, Qc, Qm, endQ, rvs, rv1, resV, vw_b, vw_sl, vw_fn, zipA, Qd, V.b.injEq, Qi, Qa, true_and, and_self, implies_true, reduceCtorEq]
 rw [idxOf_any]
theorem P79 (hG : GOk Try.prog Γ) (l : List Strip) (f : Nat) (caps : List V) (p : Strip → Bool) (hv : caps.map (vw [] 7) = caps) (hr : hasRefL caps = false)
  (h : Γ 125 [.sl 3 (l.map eStrip), .fn 126 [.pa [.fn f caps]]] = (True, .b (l.any fun x => !p x))) : PureCall Try.prog 115 [.sl 3 (l.map eStrip), .fn f caps] (.b (l.all p)) := by
 refine pure_body hG hmix Try.func115 cb115 cc115 cs115 cn115 ?_
 simp only [rc115, rs115, hv, hr, h, ru_reg, ru_seq, ru_ret, ru_keep, thenQ, run_nil, run_cons, Fam.step, stepQ, evO, opv, qv, callV, V.cells, solid, hasRef, hasRefL, flat, upd_some, lkp_cons, lkp_nil, ↓reduceIte, Nat.reduceEqDiff, Nat.reduceLT, Qb, Qc, Qm, endQ, rvs, rv1, resV, vw_b, vw_sl, vw_pa, vw_fn, zipA, Qd, V.b.injEq, Qi, Qa, true_and, and_self, implies_true, reduceCtorEq]
 simp [Zp]
theorem P78 (hG : GOk Try.prog Γ) (x : Bolt) (f : Nat) (hf : f < 1000000) (caps : List V) (b : Bool) (hv : caps.map (vw [] 8) = caps) (hr : hasRefL caps = false) (h : Γ f (V.ag (eBolt x) :: caps) = (True, .b b)) :
  PureCall Try.prog 114 [V.ag (eBolt x), .pa [.fn f caps]] (.b (!b)) := by
 refine pure_body hG hmix Try.func114 cb114 cc114 cs114 cn114 ?_
 simp only [rc114, rs114, ru_reg, ru_seq, ru_ret, ru_keep, thenQ, run_nil, run_cons, Fam.step, stepQ, evO, opv, qv, ldV, callV, V.cells, solid, hasRef, hasRefL, upd_some, lkp_cons, lkp_nil, ↓reduceIte, Nat.reduceEqDiff, Nat.reduceAdd, Nat.reduceLeDiff, Qb, Qc, Qe, Qf, Qo, Qz, Qg, Qp, Qq, endQ, rvs, rv1, resV, vw_i, vw_sl, vw_ag, zipA, Qd, Qi, Zt, Qa, true_and, and_self, reduceCtorEq, eBolt]
 try simp only [eBolt] at h
 simp only [h, hv, hr, hf, flat, vw_b, Qa, and_self, implies_true]
theorem P85 (hG : GOk Try.prog Γ) (l : List Bolt) (f : Nat) (hf : f < 1000000) (caps : List V) (p : Bolt → Bool) (hv : caps.map (vw [] 8) = caps) (hr : hasRefL caps = false) (hl : l.length < 10000000)
  (h : ∀ x ∈ l, Γ f (V.ag (eBolt x) :: caps) = (True, .b (p x))) : PureCall Try.prog 124 [.sl 4 (l.map eBolt), .fn f caps] (.i (idxOf p l)) := by
 refine pure_body hG hmix Try.func124 cb124 cc124 cs124 cn124 ?_
 simp only [rc124, rs124, ru_reg, ru_seq, ru_block, ru_keep, thenQ, run_nil, run_cons, Fam.step, stepQ, evO, opv, qv, lenV, upd_some, lkp_cons, lkp_nil, ↓reduceIte, Nat.reduceEqDiff, Int.reduceNeg, Qb, Qc, zipA, Qd, true_and, reduceCtorEq, Qj]
 refine ru_countC l.length (fun i => ⟨lkp [(0, .sl 4 (l.map eBolt)), (1, .fn f caps), (7, .i l.length), (8, .i i)], []⟩) (fun i => ∀ j x, j < i → l[j]? = some x → p x = false) ?_ ?_ ?_ ?_
 ·simp only [Q4, kp, lkp_cons, lkp_nil, ↓reduceIte, Nat.reduceEqDiff, Qb, Qc, reduceCtorEq]
 ·intro j x h; omega
 ·intro i hi hc
  obtain ⟨x, hx⟩ : ∃ x, l[i]? = some x := ⟨_, Ql hi⟩
  have hlt : (i : Int) < l.length := by omega
  have h3 : inI ((i : Int) + 1) := by unfold inI; omega
  have hp := h x (Qu hx)
  try simp only [eBolt] at hp
  simp only [hx, hlt, Q3, Q6, h3, hp, hv, hr, hf, ru_skip, ru_reg, ru_seq, ru_cnd, ite_P, ru_block, ru_ret, ru_keep, thenQ, blockQ, run_nil, run_cons, Fam.step, stepQ, evO, opv, qv, binV, ldV, iadV, callV, hasRef, hasRefL, flat, kp, upd_some, lkp_cons, lkp_nil, ↓reduceIte, Nat.reduceEqDiff, Nat.reduceAdd, Nat.reduceLeDiff, Int.reduceNeg, Qb, Qc, Qe, Qf, Qo, Qz, Qp, Qq, Qr, endQ, rvs, rv1, resV, vw_i, vw_sl, vw_ag, Qt, Qd, V.i.injEq, Qi, Qa, decide_true, true_and, and_true, and_self, implies_true, reduceCtorEq, Q1, Qj, Qv, Qk, Qs, Q8, eBolt]
  refine ⟨fun e => ?_, fun e => ?_⟩
  ·rw [idxOf_at hx e hc]
  ·intro j y hj hy
   by_cases hji : j < i
   ·exact hc j y hji hy
   ·have : j = i := by omega
    subst this
    rw [hx] at hy; cases hy; exact e
 ·intro hc
  simp only [ru_reg, ru_seq, ru_cnd, ru_exit, ru_ret, ru_keep, thenQ, blockQ, run_nil, run_cons, Fam.step, stepQ, evO, opv, qv, binV, upd_some, lkp_cons, lkp_nil, ↓reduceIte, Nat.reduceEqDiff, Int.reduceNeg, Qb, Qc, endQ, rvs, rv1, resV, vw_i, Q7, V.i.injEq, Qa, decide_false, true_and, and_self, reduceCtorEq]
  exact (idxOf_none fun x hx => by
   obtain ⟨j, hj⟩ := Zu hx
   exact hc j x (by have := getElemLt hj; exact this) hj).symm
theorem P77 (hG : GOk Try.prog Γ) (l : List Bolt) (f : Nat) (caps : List V) (p : Bolt → Bool) (hv : caps.map (vw [] 7) = caps) (hr : hasRefL caps = false)
  (h : Γ 124 [.sl 4 (l.map eBolt), .fn f caps] = (True, .i (idxOf p l))) : PureCall Try.prog 113 [.sl 4 (l.map eBolt), .fn f caps] (.b (l.any p)) := by
 refine pure_body hG hmix Try.func113 cb113 cc113 cs113 cn113 ?_
 simp only [rc113, rs113, hv, hr, h, ru_reg, ru_seq, ru_ret, ru_keep, thenQ, run_nil, run_cons, Fam.step, stepQ, evO, opv, qv, binV, callV, hasRef, hasRefL, flat, upd_some, lkp_cons, lkp_nil, ↓reduceIte, Nat.reduceEqDiff, Nat.reduceLT, Qb, Qc, Qm, endQ, rvs, rv1, resV, vw_b, vw_sl, vw_fn, zipA, Qd, V.b.injEq, Qi, Qa, true_and, and_self, implies_true, reduceCtorEq]
 rw [idxOf_any]
theorem P63 (hG : GOk Try.prog Γ) (l : List Bolt) (f : Nat) (caps : List V) (p : Bolt → Bool) (hv : caps.map (vw [] 7) = caps) (hr : hasRefL caps = false)
  (h : Γ 113 [.sl 4 (l.map eBolt), .fn 114 [.pa [.fn f caps]]] = (True, .b (l.any fun x => !p x))) : PureCall Try.prog 95 [.sl 4 (l.map eBolt), .fn f caps] (.b (l.all p)) := by
 refine pure_body hG hmix Try.func95 cb95 cc95 cs95 cn95 ?_
 simp only [rc95, rs95, hv, hr, h, ru_reg, ru_seq, ru_ret, ru_keep, thenQ, run_nil, run_cons, Fam.step, stepQ, evO, opv, qv, callV, V.cells, solid, hasRef, hasRefL, flat, upd_some, lkp_cons, lkp_nil, ↓reduceIte, Nat.reduceEqDiff, Nat.reduceLT, Qb, Qc, Qm, endQ, rvs, rv1, resV, vw_b, vw_sl, vw_pa, vw_fn, zipA, Qd, V.b.injEq, Qi, Qa, true_and, and_self, implies_true, reduceCtorEq]
 simp [Zp]
theorem P84 (hG : GOk Try.prog Γ) (x : Span) (f : Nat) (hf : f < 1000000) (caps : List V) (b : Bool) (hv : caps.map (vw [] 8) = caps) (hr : hasRefL caps = false) (h : Γ f (V.ag (eSpan x) :: caps) = (True, .b b)) :
  PureCall Try.prog 123 [V.ag (eSpan x), .pa [.fn f caps]] (.b (!b)) := by
 refine pure_body hG hmix Try.func123 cb123 cc123 cs123 cn123 ?_
 simp only [rc123, rs123, ru_reg, ru_seq, ru_ret, ru_keep, thenQ, run_nil, run_cons, Fam.step, stepQ, evO, opv, qv, ldV, callV, V.cells, solid, hasRef, hasRefL, upd_some, lkp_cons, lkp_nil, ↓reduceIte, Nat.reduceEqDiff, Nat.reduceAdd, Nat.reduceLeDiff, Qb, Qc, Qe, Qf, Qo, Qz, Qg, Qp, Qq, endQ, rvs, rv1, resV, vw_i, vw_ag, zipA, Qd, Qi, Zt, Qa, true_and, and_self, reduceCtorEq, eSpan]
 try simp only [eSpan] at h
 simp only [h, hv, hr, hf, flat, vw_b, Qa, and_self, implies_true]
theorem P89 (hG : GOk Try.prog Γ) (l : List Span) (f : Nat) (hf : f < 1000000) (caps : List V) (p : Span → Bool) (hv : caps.map (vw [] 8) = caps) (hr : hasRefL caps = false) (hl : l.length < 10000000)
  (h : ∀ x ∈ l, Γ f (V.ag (eSpan x) :: caps) = (True, .b (p x))) : PureCall Try.prog 128 [.sl 2 (l.map eSpan), .fn f caps] (.i (idxOf p l)) := by
 refine pure_body hG hmix Try.func128 cb128 cc128 cs128 cn128 ?_
 simp only [rc128, rs128, ru_reg, ru_seq, ru_block, ru_keep, thenQ, run_nil, run_cons, Fam.step, stepQ, evO, opv, qv, lenV, upd_some, lkp_cons, lkp_nil, ↓reduceIte, Nat.reduceEqDiff, Int.reduceNeg, Qb, Qc, zipA, Qd, true_and, reduceCtorEq, Qj]
 refine ru_countC l.length (fun i => ⟨lkp [(0, .sl 2 (l.map eSpan)), (1, .fn f caps), (7, .i l.length), (8, .i i)], []⟩) (fun i => ∀ j x, j < i → l[j]? = some x → p x = false) ?_ ?_ ?_ ?_
 ·simp only [Q4, kp, lkp_cons, lkp_nil, ↓reduceIte, Nat.reduceEqDiff, Qb, Qc, reduceCtorEq]
 ·intro j x h; omega
 ·intro i hi hc
  obtain ⟨x, hx⟩ : ∃ x, l[i]? = some x := ⟨_, Ql hi⟩
  have hlt : (i : Int) < l.length := by omega
  have h3 : inI ((i : Int) + 1) := by unfold inI; omega
  have hp := h x (Qu hx)
  try simp only [eSpan] at hp
  simp only [hx, hlt, Q3, Q6, h3, hp, hv, hr, hf, ru_skip, ru_reg, ru_seq, ru_cnd, ite_P, ru_block, ru_ret, ru_keep, thenQ, blockQ, run_nil, run_cons, Fam.step, stepQ, evO, opv, qv, binV, ldV, iadV, callV, hasRef, hasRefL, flat, kp, upd_some, lkp_cons, lkp_nil, ↓reduceIte, Nat.reduceEqDiff, Nat.reduceAdd, Nat.reduceLeDiff, Int.reduceNeg, Qb, Qc, Qe, Qf, Qo, Qz, Qp, Qq, Qr, endQ, rvs, rv1, resV, vw_i, vw_ag, Qt, Qd, V.i.injEq, Qi, Qa, decide_true, true_and, and_true, and_self, implies_true, reduceCtorEq, Q1, Qj, Qv, Qk, Qs, Q8, eSpan]
  refine ⟨fun e => ?_, fun e => ?_⟩
  ·rw [idxOf_at hx e hc]
  ·intro j y hj hy
   by_cases hji : j < i
   ·exact hc j y hji hy
   ·have : j = i := by omega
    subst this
    rw [hx] at hy; cases hy; exact e
 ·intro hc
  simp only [ru_reg, ru_seq, ru_cnd, ru_exit, ru_ret, ru_keep, thenQ, blockQ, run_nil, run_cons, Fam.step, stepQ, evO, opv, qv, binV, upd_some, lkp_cons, lkp_nil, ↓reduceIte, Nat.reduceEqDiff, Int.reduceNeg, Qb, Qc, endQ, rvs, rv1, resV, vw_i, Q7, V.i.injEq, Qa, decide_false, true_and, and_self, reduceCtorEq]
  exact (idxOf_none fun x hx => by
   obtain ⟨j, hj⟩ := Zu hx
   exact hc j x (by have := getElemLt hj; exact this) hj).symm
theorem P83 (hG : GOk Try.prog Γ) (l : List Span) (f : Nat) (caps : List V) (p : Span → Bool) (hv : caps.map (vw [] 7) = caps) (hr : hasRefL caps = false)
  (h : Γ 128 [.sl 2 (l.map eSpan), .fn f caps] = (True, .i (idxOf p l))) : PureCall Try.prog 122 [.sl 2 (l.map eSpan), .fn f caps] (.b (l.any p)) := by
 refine pure_body hG hmix Try.func122 cb122 cc122 cs122 cn122 ?_
 simp only [rc122, rs122, hv, hr, h, ru_reg, ru_seq, ru_ret, ru_keep, thenQ, run_nil, run_cons, Fam.step, stepQ, evO, opv, qv, binV, callV, hasRef, hasRefL, flat, upd_some, lkp_cons, lkp_nil, ↓reduceIte, Nat.reduceEqDiff, Nat.reduceLT, Qb, Qc, Qm, endQ, rvs, rv1, resV, vw_b, vw_sl, vw_fn, zipA, Qd, V.b.injEq, Qi, Qa, true_and, and_self, implies_true, reduceCtorEq]
 rw [idxOf_any]
theorem P76 (hG : GOk Try.prog Γ) (l : List Span) (f : Nat) (caps : List V) (p : Span → Bool) (hv : caps.map (vw [] 7) = caps) (hr : hasRefL caps = false)
  (h : Γ 122 [.sl 2 (l.map eSpan), .fn 123 [.pa [.fn f caps]]] = (True, .b (l.any fun x => !p x))) : PureCall Try.prog 112 [.sl 2 (l.map eSpan), .fn f caps] (.b (l.all p)) := by
 refine pure_body hG hmix Try.func112 cb112 cc112 cs112 cn112 ?_
 simp only [rc112, rs112, hv, hr, h, ru_reg, ru_seq, ru_ret, ru_keep, thenQ, run_nil, run_cons, Fam.step, stepQ, evO, opv, qv, callV, V.cells, solid, hasRef, hasRefL, flat, upd_some, lkp_cons, lkp_nil, ↓reduceIte, Nat.reduceEqDiff, Nat.reduceLT, Qb, Qc, Qm, endQ, rvs, rv1, resV, vw_b, vw_sl, vw_pa, vw_fn, zipA, Qd, V.b.injEq, Qi, Qa, true_and, and_self, implies_true, reduceCtorEq]
 simp [Zp]
theorem P82 (hG : GOk Try.prog Γ) (x : Int) (f : Nat) (hf : f < 1000000) (caps : List V) (b : Bool) (hv : caps.map (vw [] 8) = caps) (hr : hasRefL caps = false) (h : Γ f (V.i x :: caps) = (True, .b b)) :
  PureCall Try.prog 121 [V.i x, .pa [.fn f caps]] (.b (!b)) := by
 refine pure_body hG hmix Try.func121 cb121 cc121 cs121 cn121 ?_
 simp only [rc121, rs121, ru_reg, ru_seq, ru_ret, ru_keep, thenQ, run_nil, run_cons, Fam.step, stepQ, evO, opv, qv, ldV, callV, hasRef, hasRefL, upd_some, lkp_cons, lkp_nil, ↓reduceIte, Nat.reduceEqDiff, Nat.reduceLeDiff, Qb, Qc, Qe, Qf, Qg, Qp, Qq, endQ, rvs, rv1, resV, vw_i, zipA, Qd, Zt, Qa, true_and, and_self, reduceCtorEq]
 try simp only [ru_skip, ru_reg, ru_any, ru_seq, ru_cnd, ite_P, ru_block, ru_exit, ru_ret, ru_keep, ru_drp, ru_own, ru_ownc, ru_swp, ru_nxt, ru_yrg, ru_crl, chunk1, ↓cut_lkp, ↓ren_lkp, rnQ, rndQ, updL, sfree, yres, slots, ghO, stepO, ocV, effO, nidQ, plO, plQ, plB, setBs, holesB, setsL, killL, putBs, optL, upTo, rids, ridsL, leafB, killB, kill1, Xi, Xk, rflat, rflatL, rflatB, shV, shL, shB, vB_cells, vB_map, swH, sw, renV, renL, renB, cutH, putB, lkpV, keyL, entV, mlenV, keyV, keyFits, endO, endK, endI, thenQ, blockQ, run_nil, run_cons, step_q, Fam.step, stepQ, stepW, needQ, needW, condB, ug, runX, eff_q, eff, nextD, fpR, fpQ, fpV, disjB, hits, putB, nv, sv, newsV, evO, opv, qv, pickV_bb, pickV_t, pickV_f, binV, ldV, iadV, lenV, curG, slcV, intOr, callV, foldParts, putAt, partsOk, partsOne, V.cells, solid, cellOk, intsOf, hasRef, hasRefL, flat, flatL, kp, cutV, cutL, cutB, upd_some, upd_none, lkp_cons, lkp_nil, ↓reduceIte, Nat.reduceEqDiff, Nat.reduceAdd, Nat.reduceSub, Nat.reduceMul, Nat.reduceLT, Nat.reduceLeDiff, Nat.reduceBEq, Int.reduceNeg, Int.reduceToNat, Zz, Z7, Int.reduceLT, Int.reduceLE, Int.reduceAdd, Int.reduceSub, Int.reduceMul, Int.reduceEq, Qb, Qc, Q2, Q0, Qe, Qf, Qh, Qn, Zx, Qo, Zg, Qz, Qg, Xl, Qp, Qq, Qm, Zi, Z1, Zb, Qr, Zd, Zr, Xd, List.set_nil, Za, Z8, Z9, Xa, Ze, Z0, endQ, rvs, rv1, resV, vw_i, vw_b, vw_u, vw_pn, vw_z, vw_sl, vw_pa, vw_ag, vw_tp, vw_fn, vw_ad, vw_rf, zipA, Q7, Qt, beq_self_eq_true, Qd, Z3, Xf.injEq, V.i.injEq, V.b.injEq, Qx, Qy, Zs, Zk, Xm, Qi, Zt, Bool.or_true, Bool.true_or, Zo, Zl, Qa, Xe, decide_true, decide_false, decide_eq_true_eq, decide_eq_false_iff_not, true_and, and_true, and_self, false_and, and_false, forall_const, false_implies, true_implies, implies_true, reduceCtorEq, ite_true, ite_false, not_true_eq_false, not_false_eq_true, ne_eq, Q1, Xj, Xb, Zq, Zv, Zc, beq_true, beq_false, Zw, Zm, Q5, ite_f, ite_t, Q9, Zh, Bool.xor_self, imp_self, Qj, Qv, Qk, Qs, Q8, Zn, Classical.not_not, Z6, spanE, boltE, stripE, domeE, tentE, eSpan, eStrip, eBolt, eDome, eI, eIs, eCan, eTent] at h
 simp only [h, hv, hr, hf, flat, vw_b, Qa, and_self, implies_true]
theorem P88 (hG : GOk Try.prog Γ) (l : List Int) (f : Nat) (hf : f < 1000000) (caps : List V) (p : Int → Bool) (hv : caps.map (vw [] 8) = caps) (hr : hasRefL caps = false) (hl : l.length < 10000000)
  (h : ∀ x ∈ l, Γ f (V.i x :: caps) = (True, .b (p x))) : PureCall Try.prog 127 [.sl 1 (l.map eI), .fn f caps] (.i (idxOf p l)) := by
 refine pure_body hG hmix Try.func127 cb127 cc127 cs127 cn127 ?_
 simp only [rc127, rs127, ru_reg, ru_seq, ru_block, ru_keep, thenQ, run_nil, run_cons, Fam.step, stepQ, evO, opv, qv, lenV, upd_some, lkp_cons, lkp_nil, ↓reduceIte, Nat.reduceEqDiff, Int.reduceNeg, Qb, Qc, zipA, Qd, true_and, reduceCtorEq, Qj]
 refine ru_countC l.length (fun i => ⟨lkp [(0, .sl 1 (l.map eI)), (1, .fn f caps), (7, .i l.length), (8, .i i)], []⟩) (fun i => ∀ j x, j < i → l[j]? = some x → p x = false) ?_ ?_ ?_ ?_
 ·simp only [Q4, kp, lkp_cons, lkp_nil, ↓reduceIte, Nat.reduceEqDiff, Qb, Qc, reduceCtorEq]
 ·intro j x h; omega
 ·intro i hi hc
  obtain ⟨x, hx⟩ : ∃ x, l[i]? = some x := ⟨_, Ql hi⟩
  have hlt : (i : Int) < l.length := by omega
  have h3 : inI ((i : Int) + 1) := by unfold inI; omega
  have hp := h x (Qu hx)
  try simp only [ru_skip, ru_reg, ru_any, ru_seq, ru_cnd, ite_P, ru_block, ru_exit, ru_ret, ru_keep, ru_drp, ru_own, ru_ownc, ru_swp, ru_nxt, ru_yrg, ru_crl, chunk1, ↓cut_lkp, ↓ren_lkp, rnQ, rndQ, updL, sfree, yres, slots, ghO, stepO, ocV, effO, nidQ, plO, plQ, plB, setBs, holesB, setsL, killL, putBs, optL, upTo, rids, ridsL, leafB, killB, kill1, Xi, Xk, rflat, rflatL, rflatB, shV, shL, shB, vB_cells, vB_map, swH, sw, renV, renL, renB, cutH, putB, lkpV, keyL, entV, mlenV, keyV, keyFits, endO, endK, endI, thenQ, blockQ, run_nil, run_cons, step_q, Fam.step, stepQ, stepW, needQ, needW, condB, ug, runX, eff_q, eff, nextD, fpR, fpQ, fpV, disjB, hits, putB, nv, sv, newsV, evO, opv, qv, pickV_bb, pickV_t, pickV_f, binV, ldV, iadV, lenV, curG, slcV, intOr, callV, foldParts, putAt, partsOk, partsOne, V.cells, solid, cellOk, intsOf, hasRef, hasRefL, flat, flatL, kp, cutV, cutL, cutB, upd_some, upd_none, lkp_cons, lkp_nil, ↓reduceIte, Nat.reduceEqDiff, Nat.reduceAdd, Nat.reduceSub, Nat.reduceMul, Nat.reduceLT, Nat.reduceLeDiff, Nat.reduceBEq, Int.reduceNeg, Int.reduceToNat, Zz, Z7, Int.reduceLT, Int.reduceLE, Int.reduceAdd, Int.reduceSub, Int.reduceMul, Int.reduceEq, Qb, Qc, Q2, Q0, Qe, Qf, Qh, Qn, Zx, Qo, Zg, Qz, Qg, Xl, Qp, Qq, Qm, Zi, Z1, Zb, Qr, Zd, Zr, Xd, List.set_nil, Za, Z8, Z9, Xa, Ze, Z0, endQ, rvs, rv1, resV, vw_i, vw_b, vw_u, vw_pn, vw_z, vw_sl, vw_pa, vw_ag, vw_tp, vw_fn, vw_ad, vw_rf, zipA, Q7, Qt, beq_self_eq_true, Qd, Z3, Xf.injEq, V.i.injEq, V.b.injEq, Qx, Qy, Zs, Zk, Xm, Qi, Zt, Bool.or_true, Bool.true_or, Zo, Zl, Qa, Xe, decide_true, decide_false, decide_eq_true_eq, decide_eq_false_iff_not, true_and, and_true, and_self, false_and, and_false, forall_const, false_implies, true_implies, implies_true, reduceCtorEq, ite_true, ite_false, not_true_eq_false, not_false_eq_true, ne_eq, Q1, Xj, Xb, Zq, Zv, Zc, beq_true, beq_false, Zw, Zm, Q5, ite_f, ite_t, Q9, Zh, Bool.xor_self, imp_self, Qj, Qv, Qk, Qs, Q8, Zn, Classical.not_not, Z6, spanE, boltE, stripE, domeE, tentE, eSpan, eStrip, eBolt, eDome, eI, eIs, eCan, eTent] at hp
  simp only [hx, hlt, Q3, Q6, h3, hp, hv, hr, hf, ru_skip, ru_reg, ru_seq, ru_cnd, ite_P, ru_block, ru_ret, ru_keep, thenQ, blockQ, run_nil, run_cons, Fam.step, stepQ, evO, opv, qv, binV, ldV, iadV, callV, hasRef, hasRefL, flat, kp, upd_some, lkp_cons, lkp_nil, ↓reduceIte, Nat.reduceEqDiff, Nat.reduceLeDiff, Int.reduceNeg, Qb, Qc, Qe, Qf, Qg, Qp, Qq, Qr, endQ, rvs, rv1, resV, vw_i, Qt, Qd, V.i.injEq, Qi, Qa, decide_true, true_and, and_true, and_self, implies_true, reduceCtorEq, Q1, Qj, Qv, Qk, Qs, Q8, eI]
  refine ⟨fun e => ?_, fun e => ?_⟩
  ·rw [idxOf_at hx e hc]
  ·intro j y hj hy
   by_cases hji : j < i
   ·exact hc j y hji hy
   ·have : j = i := by omega
    subst this
    rw [hx] at hy; cases hy; exact e
 ·intro hc
  simp only [ru_reg, ru_seq, ru_cnd, ru_exit, ru_ret, ru_keep, thenQ, blockQ, run_nil, run_cons, Fam.step, stepQ, evO, opv, qv, binV, upd_some, lkp_cons, lkp_nil, ↓reduceIte, Nat.reduceEqDiff, Int.reduceNeg, Qb, Qc, endQ, rvs, rv1, resV, vw_i, Q7, V.i.injEq, Qa, decide_false, true_and, and_self, reduceCtorEq]
  exact (idxOf_none fun x hx => by
   obtain ⟨j, hj⟩ := Zu hx
   exact hc j x (by have := getElemLt hj; exact this) hj).symm
theorem P81 (hG : GOk Try.prog Γ) (l : List Int) (f : Nat) (caps : List V) (p : Int → Bool) (hv : caps.map (vw [] 7) = caps) (hr : hasRefL caps = false)
  (h : Γ 127 [.sl 1 (l.map eI), .fn f caps] = (True, .i (idxOf p l))) : PureCall Try.prog 120 [.sl 1 (l.map eI), .fn f caps] (.b (l.any p)) := by
 refine pure_body hG hmix Try.func120 cb120 cc120 cs120 cn120 ?_
 simp only [rc120, rs120, hv, hr, h, ru_reg, ru_seq, ru_ret, ru_keep, thenQ, run_nil, run_cons, Fam.step, stepQ, evO, opv, qv, binV, callV, hasRef, hasRefL, flat, upd_some, lkp_cons, lkp_nil, ↓reduceIte, Nat.reduceEqDiff, Nat.reduceLT, Qb, Qc, Qm, endQ, rvs, rv1, resV, vw_b, vw_sl, vw_fn, zipA, Qd, V.b.injEq, Qi, Qa, true_and, and_self, implies_true, reduceCtorEq]
 rw [idxOf_any]
theorem P75 (hG : GOk Try.prog Γ) (l : List Int) (f : Nat) (caps : List V) (p : Int → Bool) (hv : caps.map (vw [] 7) = caps) (hr : hasRefL caps = false)
  (h : Γ 120 [.sl 1 (l.map eI), .fn 121 [.pa [.fn f caps]]] = (True, .b (l.any fun x => !p x))) : PureCall Try.prog 111 [.sl 1 (l.map eI), .fn f caps] (.b (l.all p)) := by
 refine pure_body hG hmix Try.func111 cb111 cc111 cs111 cn111 ?_
 simp only [rc111, rs111, hv, hr, h, ru_reg, ru_seq, ru_ret, ru_keep, thenQ, run_nil, run_cons, Fam.step, stepQ, evO, opv, qv, callV, V.cells, solid, hasRef, hasRefL, flat, upd_some, lkp_cons, lkp_nil, ↓reduceIte, Nat.reduceEqDiff, Nat.reduceLT, Qb, Qc, Qm, endQ, rvs, rv1, resV, vw_b, vw_sl, vw_pa, vw_fn, zipA, Qd, V.b.injEq, Qi, Qa, true_and, and_self, implies_true, reduceCtorEq]
 simp [Zp]
end Go.C02
set_option linter.unusedSimpArgs false
set_option linter.unusedVariables false
namespace Go.C02
open Go.Fam Go.Proofs
variable {Γ : Gam}
def okStrip (_ : Unit) : Prop := True
def prStrip (_ : Unit) : Strip → Bool := isStrip
def okBolt (_ : Unit) : Prop := True
def prBolt (_ : Unit) : Bolt → Bool := isBolt
def okSpan (_ : Unit) : Prop := True
def prSpan (_ : Unit) : Span → Bool := roundOk
def okInt (k : Dome × Bool) : Prop := if k.2 then k.1.bolts.length < 1000000 else inI (2 * k.1.loss)
def prInt (k : Dome × Bool) : Int → Bool := if k.2 then goreOk k.1 else widthOk k.1
def D0 : Dome := ⟨[], [], 0, [], [], 0⟩
def aC : V → List V | .ag cs => cs | _ => []
def pC : V → List V | .pa cs => cs | _ => []
def cvStrip (k : Unit) : V := .fn 116 []
def dkStrip : V → Unit := fun _ => ()
theorem dkStrip_e (k : Unit) : dkStrip (cvStrip k) = k := rfl
def capStrip (k : Unit) : List V := []
theorem capStrip_v (k : Unit) (n : Nat) : (capStrip k).map (vw [] (n + 1)) = capStrip k := rfl
theorem capStrip_r (k : Unit) : hasRefL (capStrip k) = false := rfl
def eCStrip (a : Strip × Unit) : List V := [.ag (eStrip a.1), .pa [cvStrip a.2]]
def dCStrip : List V → Strip × Unit | [v, .pa [c]] => (dStrip (aC v), dkStrip c) | _ => (⟨0, ⟨0, 0⟩⟩, ())
theorem dCStrip_e (a : Strip × Unit) : dCStrip (eCStrip a) = a := by obtain ⟨x, k⟩ := a; simp only [eCStrip, dCStrip, dkStrip_e]; simp [aC, dStrip_e]
def eXStrip (a : List Strip × Unit) : List V := [.sl 3 (a.1.map eStrip), .fn 126 [.pa [cvStrip a.2]]]
def dXStrip : List V → List Strip × Unit | [.sl _ rows, .fn _ [.pa [c]]] => (rows.map dStrip, dkStrip c) | _ => ([], ())
theorem dXStrip_e (a : List Strip × Unit) : dXStrip (eXStrip a) = a := by obtain ⟨x, k⟩ := a; simp only [eXStrip, dXStrip, dkStrip_e, map_de dStrip_e]
def eLStrip (a : List Strip × Unit) : List V := [.sl 3 (a.1.map eStrip), cvStrip a.2]
def dLStrip : List V → List Strip × Unit | [.sl _ rows, c] => (rows.map dStrip, dkStrip c) | _ => ([], ())
theorem dLStrip_e (a : List Strip × Unit) : dLStrip (eLStrip a) = a := by obtain ⟨x, k⟩ := a; simp only [eLStrip, dLStrip, dkStrip_e, map_de dStrip_e]
def okLStrip (a : List Strip × Unit) : Prop := a.1.length < 10000000 ∧ okStrip a.2
def r87 : List V → Prop × V := fnG eCStrip dCStrip (fun a => okStrip a.2) (fun a => !prStrip a.2 a.1) .b
def r90 : List V → Prop × V := fnG eXStrip dXStrip okLStrip (fun a => idxOf (fun x => !prStrip a.2 x) a.1) .i
def r86 : List V → Prop × V := fnG eXStrip dXStrip okLStrip (fun a => a.1.any fun x => !prStrip a.2 x) .b
def r79 : List V → Prop × V := fnG eLStrip dLStrip okLStrip (fun a => a.1.all (prStrip a.2)) .b
def famStrip (Γ : Gam) : Gam := (((Γ.ext 126 r87).ext 129 r90).ext 125 r86).ext 115 r79
theorem famStrip_ok (hG : GOk Try.prog Γ) (hb : ∀ (k : Unit) (x : Strip), okStrip k → Γ 116 (V.ag (eStrip x) :: capStrip k) = (True, .b (prStrip k x))) : GOk Try.prog (famStrip Γ) := by
 have g1 : GOk Try.prog (Γ.ext 126 r87) := hG.ext (fun a w => Try.call126 a w) (fnG_ok fun a h => P87 hG a.1 _ (by decide) _ _ (capStrip_v a.2 7) (capStrip_r a.2) (hb a.2 a.1 h))
 have g2 : GOk Try.prog ((Γ.ext 126 r87).ext 129 r90) := g1.ext (fun a w => Try.call129 a w) (fnG_ok fun a h => P90 g1 a.1 _ (by decide) _ _ rfl rfl h.1 fun x hx =>
  (show (Γ.ext 126 r87) 126 _ = r87 (eCStrip (x, a.2)) from rfl).trans ((fnG_at (x, a.2) (dCStrip_e _)).trans (by rw [eq_true h.2])))
 have g3 : GOk Try.prog (((Γ.ext 126 r87).ext 129 r90).ext 125 r86) := g2.ext (fun a w => Try.call125 a w) (fnG_ok fun a h => P86 g2 a.1 _ _ _ rfl rfl
  ((show ((Γ.ext 126 r87).ext 129 r90) 129 _ = r90 (eXStrip a) from rfl).trans ((fnG_at a (dXStrip_e _)).trans (by rw [eq_true h]))))
 exact g3.ext (fun a w => Try.call115 a w) (fnG_ok fun a h => P79 g3 a.1 _ _ _ (capStrip_v a.2 6) (capStrip_r a.2)
  ((show (((Γ.ext 126 r87).ext 129 r90).ext 125 r86) 125 _ = r86 (eXStrip a) from rfl).trans ((fnG_at a (dXStrip_e _)).trans (by rw [eq_true h]))))
theorem famStrip_all (Γ : Gam) (l : List Strip) (k : Unit) : famStrip Γ 115 [.sl 3 (l.map eStrip), cvStrip k] = (okLStrip (l, k), .b (l.all (prStrip k))) :=
 (show famStrip Γ 115 _ = r79 (eLStrip (l, k)) from rfl).trans (fnG_at (l, k) (dLStrip_e _))
def cvBolt (k : Unit) : V := .fn 96 []
def dkBolt : V → Unit := fun _ => ()
theorem dkBolt_e (k : Unit) : dkBolt (cvBolt k) = k := rfl
def capBolt (k : Unit) : List V := []
theorem capBolt_v (k : Unit) (n : Nat) : (capBolt k).map (vw [] (n + 1)) = capBolt k := rfl
theorem capBolt_r (k : Unit) : hasRefL (capBolt k) = false := rfl
def eCBolt (a : Bolt × Unit) : List V := [.ag (eBolt a.1), .pa [cvBolt a.2]]
def dCBolt : List V → Bolt × Unit | [v, .pa [c]] => (dBolt (aC v), dkBolt c) | _ => (⟨⟨0, 0⟩, [], 0⟩, ())
theorem dCBolt_e (a : Bolt × Unit) : dCBolt (eCBolt a) = a := by obtain ⟨x, k⟩ := a; simp only [eCBolt, dCBolt, dkBolt_e]; simp [aC, dBolt_e]
def eXBolt (a : List Bolt × Unit) : List V := [.sl 4 (a.1.map eBolt), .fn 114 [.pa [cvBolt a.2]]]
def dXBolt : List V → List Bolt × Unit | [.sl _ rows, .fn _ [.pa [c]]] => (rows.map dBolt, dkBolt c) | _ => ([], ())
theorem dXBolt_e (a : List Bolt × Unit) : dXBolt (eXBolt a) = a := by obtain ⟨x, k⟩ := a; simp only [eXBolt, dXBolt, dkBolt_e, map_de dBolt_e]
def eLBolt (a : List Bolt × Unit) : List V := [.sl 4 (a.1.map eBolt), cvBolt a.2]
def dLBolt : List V → List Bolt × Unit | [.sl _ rows, c] => (rows.map dBolt, dkBolt c) | _ => ([], ())
theorem dLBolt_e (a : List Bolt × Unit) : dLBolt (eLBolt a) = a := by obtain ⟨x, k⟩ := a; simp only [eLBolt, dLBolt, dkBolt_e, map_de dBolt_e]
def okLBolt (a : List Bolt × Unit) : Prop := a.1.length < 10000000 ∧ okBolt a.2
def r78 : List V → Prop × V := fnG eCBolt dCBolt (fun a => okBolt a.2) (fun a => !prBolt a.2 a.1) .b
def r85 : List V → Prop × V := fnG eXBolt dXBolt okLBolt (fun a => idxOf (fun x => !prBolt a.2 x) a.1) .i
def r77 : List V → Prop × V := fnG eXBolt dXBolt okLBolt (fun a => a.1.any fun x => !prBolt a.2 x) .b
def r63 : List V → Prop × V := fnG eLBolt dLBolt okLBolt (fun a => a.1.all (prBolt a.2)) .b
def famBolt (Γ : Gam) : Gam := (((Γ.ext 114 r78).ext 124 r85).ext 113 r77).ext 95 r63
theorem famBolt_ok (hG : GOk Try.prog Γ) (hb : ∀ (k : Unit) (x : Bolt), okBolt k → Γ 96 (V.ag (eBolt x) :: capBolt k) = (True, .b (prBolt k x))) : GOk Try.prog (famBolt Γ) := by
 have g1 : GOk Try.prog (Γ.ext 114 r78) := hG.ext (fun a w => Try.call114 a w) (fnG_ok fun a h => P78 hG a.1 _ (by decide) _ _ (capBolt_v a.2 7) (capBolt_r a.2) (hb a.2 a.1 h))
 have g2 : GOk Try.prog ((Γ.ext 114 r78).ext 124 r85) := g1.ext (fun a w => Try.call124 a w) (fnG_ok fun a h => P85 g1 a.1 _ (by decide) _ _ rfl rfl h.1 fun x hx =>
  (show (Γ.ext 114 r78) 114 _ = r78 (eCBolt (x, a.2)) from rfl).trans ((fnG_at (x, a.2) (dCBolt_e _)).trans (by rw [eq_true h.2])))
 have g3 : GOk Try.prog (((Γ.ext 114 r78).ext 124 r85).ext 113 r77) := g2.ext (fun a w => Try.call113 a w) (fnG_ok fun a h => P77 g2 a.1 _ _ _ rfl rfl
  ((show ((Γ.ext 114 r78).ext 124 r85) 124 _ = r85 (eXBolt a) from rfl).trans ((fnG_at a (dXBolt_e _)).trans (by rw [eq_true h]))))
 exact g3.ext (fun a w => Try.call95 a w) (fnG_ok fun a h => P63 g3 a.1 _ _ _ (capBolt_v a.2 6) (capBolt_r a.2)
  ((show (((Γ.ext 114 r78).ext 124 r85).ext 113 r77) 113 _ = r77 (eXBolt a) from rfl).trans ((fnG_at a (dXBolt_e _)).trans (by rw [eq_true h]))))
theorem famBolt_all (Γ : Gam) (l : List Bolt) (k : Unit) : famBolt Γ 95 [.sl 4 (l.map eBolt), cvBolt k] = (okLBolt (l, k), .b (l.all (prBolt k))) :=
 (show famBolt Γ 95 _ = r63 (eLBolt (l, k)) from rfl).trans (fnG_at (l, k) (dLBolt_e _))
def cvSpan (k : Unit) : V := .fn 108 []
def dkSpan : V → Unit := fun _ => ()
theorem dkSpan_e (k : Unit) : dkSpan (cvSpan k) = k := rfl
def capSpan (k : Unit) : List V := []
theorem capSpan_v (k : Unit) (n : Nat) : (capSpan k).map (vw [] (n + 1)) = capSpan k := rfl
theorem capSpan_r (k : Unit) : hasRefL (capSpan k) = false := rfl
def eCSpan (a : Span × Unit) : List V := [.ag (eSpan a.1), .pa [cvSpan a.2]]
def dCSpan : List V → Span × Unit | [v, .pa [c]] => (dSpan (aC v), dkSpan c) | _ => (⟨0, 0⟩, ())
theorem dCSpan_e (a : Span × Unit) : dCSpan (eCSpan a) = a := by obtain ⟨x, k⟩ := a; simp only [eCSpan, dCSpan, dkSpan_e]; simp [aC, dSpan_e]
def eXSpan (a : List Span × Unit) : List V := [.sl 2 (a.1.map eSpan), .fn 123 [.pa [cvSpan a.2]]]
def dXSpan : List V → List Span × Unit | [.sl _ rows, .fn _ [.pa [c]]] => (rows.map dSpan, dkSpan c) | _ => ([], ())
theorem dXSpan_e (a : List Span × Unit) : dXSpan (eXSpan a) = a := by obtain ⟨x, k⟩ := a; simp only [eXSpan, dXSpan, dkSpan_e, map_de dSpan_e]
def eLSpan (a : List Span × Unit) : List V := [.sl 2 (a.1.map eSpan), cvSpan a.2]
def dLSpan : List V → List Span × Unit | [.sl _ rows, c] => (rows.map dSpan, dkSpan c) | _ => ([], ())
theorem dLSpan_e (a : List Span × Unit) : dLSpan (eLSpan a) = a := by obtain ⟨x, k⟩ := a; simp only [eLSpan, dLSpan, dkSpan_e, map_de dSpan_e]
def okLSpan (a : List Span × Unit) : Prop := a.1.length < 10000000 ∧ okSpan a.2
def r84 : List V → Prop × V := fnG eCSpan dCSpan (fun a => okSpan a.2) (fun a => !prSpan a.2 a.1) .b
def r89 : List V → Prop × V := fnG eXSpan dXSpan okLSpan (fun a => idxOf (fun x => !prSpan a.2 x) a.1) .i
def r83 : List V → Prop × V := fnG eXSpan dXSpan okLSpan (fun a => a.1.any fun x => !prSpan a.2 x) .b
def r76 : List V → Prop × V := fnG eLSpan dLSpan okLSpan (fun a => a.1.all (prSpan a.2)) .b
def famSpan (Γ : Gam) : Gam := (((Γ.ext 123 r84).ext 128 r89).ext 122 r83).ext 112 r76
theorem famSpan_ok (hG : GOk Try.prog Γ) (hb : ∀ (k : Unit) (x : Span), okSpan k → Γ 108 (V.ag (eSpan x) :: capSpan k) = (True, .b (prSpan k x))) : GOk Try.prog (famSpan Γ) := by
 have g1 : GOk Try.prog (Γ.ext 123 r84) := hG.ext (fun a w => Try.call123 a w) (fnG_ok fun a h => P84 hG a.1 _ (by decide) _ _ (capSpan_v a.2 7) (capSpan_r a.2) (hb a.2 a.1 h))
 have g2 : GOk Try.prog ((Γ.ext 123 r84).ext 128 r89) := g1.ext (fun a w => Try.call128 a w) (fnG_ok fun a h => P89 g1 a.1 _ (by decide) _ _ rfl rfl h.1 fun x hx =>
  (show (Γ.ext 123 r84) 123 _ = r84 (eCSpan (x, a.2)) from rfl).trans ((fnG_at (x, a.2) (dCSpan_e _)).trans (by rw [eq_true h.2])))
 have g3 : GOk Try.prog (((Γ.ext 123 r84).ext 128 r89).ext 122 r83) := g2.ext (fun a w => Try.call122 a w) (fnG_ok fun a h => P83 g2 a.1 _ _ _ rfl rfl
  ((show ((Γ.ext 123 r84).ext 128 r89) 128 _ = r89 (eXSpan a) from rfl).trans ((fnG_at a (dXSpan_e _)).trans (by rw [eq_true h]))))
 exact g3.ext (fun a w => Try.call112 a w) (fnG_ok fun a h => P76 g3 a.1 _ _ _ (capSpan_v a.2 6) (capSpan_r a.2)
  ((show (((Γ.ext 123 r84).ext 128 r89).ext 122 r83) 122 _ = r83 (eXSpan a) from rfl).trans ((fnG_at a (dXSpan_e _)).trans (by rw [eq_true h]))))
theorem famSpan_all (Γ : Gam) (l : List Span) (k : Unit) : famSpan Γ 112 [.sl 2 (l.map eSpan), cvSpan k] = (okLSpan (l, k), .b (l.all (prSpan k))) :=
 (show famSpan Γ 112 _ = r76 (eLSpan (l, k)) from rfl).trans (fnG_at (l, k) (dLSpan_e _))
def cvInt (k : (Dome × Bool)) : V := .fn (if k.2 then 107 else 110) [.pa (eDome k.1)]
def dkInt : V → (Dome × Bool) | .fn f caps => (dDome (pC (caps.headD .u)), f == 107) | _ => (D0, false)
theorem dkInt_e (k : (Dome × Bool)) : dkInt (cvInt k) = k := by obtain ⟨d, b⟩ := k; cases b <;> simp [dkInt, cvInt, pC, dDome_e]
def capInt (k : (Dome × Bool)) : List V := [.pa (eDome k.1)]
theorem capInt_v (k : (Dome × Bool)) (n : Nat) : (capInt k).map (vw [] (n + 1)) = capInt k := rfl
theorem capInt_r (k : (Dome × Bool)) : hasRefL (capInt k) = false := rfl
def eCInt (a : Int × (Dome × Bool)) : List V := [.i a.1, .pa [cvInt a.2]]
def dCInt : List V → Int × (Dome × Bool) | [v, .pa [c]] => (gI v, dkInt c) | _ => (0, (D0, false))
theorem dCInt_e (a : Int × (Dome × Bool)) : dCInt (eCInt a) = a := by obtain ⟨x, k⟩ := a; simp only [eCInt, dCInt, dkInt_e]; simp [gI]
def eXInt (a : List Int × (Dome × Bool)) : List V := [.sl 1 (a.1.map eI), .fn 121 [.pa [cvInt a.2]]]
def dXInt : List V → List Int × (Dome × Bool) | [.sl _ rows, .fn _ [.pa [c]]] => (rows.map dI, dkInt c) | _ => ([], (D0, false))
theorem dXInt_e (a : List Int × (Dome × Bool)) : dXInt (eXInt a) = a := by obtain ⟨x, k⟩ := a; simp only [eXInt, dXInt, dkInt_e, map_de dI_eI]
def eLInt (a : List Int × (Dome × Bool)) : List V := [.sl 1 (a.1.map eI), cvInt a.2]
def dLInt : List V → List Int × (Dome × Bool) | [.sl _ rows, c] => (rows.map dI, dkInt c) | _ => ([], (D0, false))
theorem dLInt_e (a : List Int × (Dome × Bool)) : dLInt (eLInt a) = a := by obtain ⟨x, k⟩ := a; simp only [eLInt, dLInt, dkInt_e, map_de dI_eI]
def okLInt (a : List Int × (Dome × Bool)) : Prop := a.1.length < 10000000 ∧ okInt a.2
def r82 : List V → Prop × V := fnG eCInt dCInt (fun a => okInt a.2) (fun a => !prInt a.2 a.1) .b
def r88 : List V → Prop × V := fnG eXInt dXInt okLInt (fun a => idxOf (fun x => !prInt a.2 x) a.1) .i
def r81 : List V → Prop × V := fnG eXInt dXInt okLInt (fun a => a.1.any fun x => !prInt a.2 x) .b
def r75 : List V → Prop × V := fnG eLInt dLInt okLInt (fun a => a.1.all (prInt a.2)) .b
def famInt (Γ : Gam) : Gam := (((Γ.ext 121 r82).ext 127 r88).ext 120 r81).ext 111 r75
theorem famInt_ok (hG : GOk Try.prog Γ) (hb : ∀ (k : (Dome × Bool)) (x : Int), okInt k → Γ (if k.2 then 107 else 110) (V.i x :: capInt k) = (True, .b (prInt k x))) : GOk Try.prog (famInt Γ) := by
 have g1 : GOk Try.prog (Γ.ext 121 r82) := hG.ext (fun a w => Try.call121 a w) (fnG_ok fun a h => P82 hG a.1 _ (by split <;> decide) _ _ (capInt_v a.2 7) (capInt_r a.2) (hb a.2 a.1 h))
 have g2 : GOk Try.prog ((Γ.ext 121 r82).ext 127 r88) := g1.ext (fun a w => Try.call127 a w) (fnG_ok fun a h => P88 g1 a.1 _ (by decide) _ _ rfl rfl h.1 fun x hx =>
  (show (Γ.ext 121 r82) 121 _ = r82 (eCInt (x, a.2)) from rfl).trans ((fnG_at (x, a.2) (dCInt_e _)).trans (by rw [eq_true h.2])))
 have g3 : GOk Try.prog (((Γ.ext 121 r82).ext 127 r88).ext 120 r81) := g2.ext (fun a w => Try.call120 a w) (fnG_ok fun a h => P81 g2 a.1 _ _ _ rfl rfl
  ((show ((Γ.ext 121 r82).ext 127 r88) 127 _ = r88 (eXInt a) from rfl).trans ((fnG_at a (dXInt_e _)).trans (by rw [eq_true h]))))
 exact g3.ext (fun a w => Try.call111 a w) (fnG_ok fun a h => P75 g3 a.1 _ _ _ (capInt_v a.2 6) (capInt_r a.2)
  ((show (((Γ.ext 121 r82).ext 127 r88).ext 120 r81) 120 _ = r81 (eXInt a) from rfl).trans ((fnG_at a (dXInt_e _)).trans (by rw [eq_true h]))))
theorem famInt_all (Γ : Gam) (l : List Int) (k : (Dome × Bool)) : famInt Γ 111 [.sl 1 (l.map eI), cvInt k] = (okLInt (l, k), .b (l.all (prInt k))) :=
 (show famInt Γ 111 _ = r75 (eLInt (l, k)) from rfl).trans (fnG_at (l, k) (dLInt_e _))
end Go.C02
