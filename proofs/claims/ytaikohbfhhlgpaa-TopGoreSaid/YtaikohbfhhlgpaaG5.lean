import Derived.Test.YtaikohbfhhlgpaaG4
import Derived.Test.YtaikohbfhhlgpaaRows
import Derived.Test.YtaikohbfhhlgpaaChecked
import Derived.WalkKit
import Derived.OwnWalkIn
import Derived.TacticsInMore
import Derived.LoopNIn
import Derived.LoopIn
set_option linter.all false
open List renaming map_cons → Qb, map_nil → Qc, length_cons → Qd, length_nil → Qf, headD_cons → Qg, drop_succ_cons → Qh, length_map → Qj, append_nil → Qk, getD_eq_getElem?_getD → Ql, getElem?_eq_getElem → Qm, drop_zero → Qn, take_succ_cons → Qo, cons_append → Qp, nil_append → Qq, getElem?_map → Qs, mem_of_getElem? → Qv, all_nil → Qx, all_cons → Qy, take_nil → Q0, replicate_zero → Za, getElem?_cons_zero → Zb, take_zero → Zc, getElem?_nil → Zd, contains_nil → Ze, isEmpty_nil → Zg, take_length → Zh, set_cons_zero → Zk, any_eq_not_all_not → Zq, any_nil → Zr, getElem?_of_mem → Zu, drop_nil → Zv, contains_cons → Zw, isEmpty_cons → Z1, getElem?_cons_succ → Z2, countP_le_length → Z4, countP_singleton → Z5, length_replicate → Z6, append_toArray → Z8, replicate_succ → Z9, getD_cons_zero → Xa, getD_cons_succ → Xb, any_cons → Xc, countP_append → Xd, set_cons_succ → Xe, size_toArray → Xg, push_toArray → Xh, countP_nil → Xk, foldl_cons → Xl, foldl_nil → Xn, headD_nil → Xo
open Nat renaming zero_add → Qe, add_zero → Zy
open Bool renaming false_eq_true → Qa, or_false → Qi, and_self → Qu, and_true → Qz, decide_eq_true → Q6, not_eq_true' → Q7, not_eq_true → Q9, not_true → Zi, decide_eq_false → Zj, false_and → Zm, not_false → Zn, not_eq_false' → Zo, not_eq_false → Zp, true_and → Zs, false_or → Zt, not_not → Zx, true_eq_false → Xf, and_false → Xp
open Option renaming getD_some → Qr, map_some → Q2, getD_none → Zf, some → Xi, map_none → Xm
open Int renaming natCast_nonneg → Qt, toNat_natCast → Qw, tdiv_eq_ediv_of_nonneg → Q1, natCast_add → Q3, natCast_zero → Q4, natCast_one → Q5, lt_irrefl → Q8, mul_nonneg → Zl, mul_le_mul → Zz, add_sub_cancel → Z0, neg_tdiv → Z3, toNat_zero → Z7, neg_mul_neg → Xj
namespace Go.C02
open Go.Fam
structure Span where
 low : Int
 high : Int
 deriving DecidableEq
structure Strip where
 long : Int
 pulled : Span
 deriving DecidableEq
structure Bolt where
 stretch : Span
 strips : List Strip
 wrong : Int
 deriving DecidableEq
structure Dome where
 bolts : List Bolt
 gores : List Int
 loss : Int
 rounds : List Span
 widths : List Int
 slope : Int
 deriving DecidableEq
structure Tent where
 dome : Dome
 can : List (List Int)
def eI (n : Int) : List V := [.i n]
def eIs (l : List Int) : V := .sl 1 (l.map eI)
def eSpan (s : Span) : List V := [.i s.low, .i s.high]
def Qbd (s : Strip) : List V := [.i s.long, .i s.pulled.low, .i s.pulled.high]
def Qan (b : Bolt) : List V := [.i b.stretch.low, .i b.stretch.high, .sl 3 (b.strips.map Qbd), .i b.wrong]
def Qaj (d : Dome) : List V := [.sl 4 (d.bolts.map Qan), .sl 1 (d.gores.map eI), .i d.loss, .sl 2 (d.rounds.map eSpan), .sl 1 (d.widths.map eI), .i d.slope]
def eCan (l : List Int) : List V := [.sl 1 (l.map eI)]
def Qcz (t : Tent) : List V := Qaj t.dome ++ [.sl 1 (t.can.map eCan)]
def gI : V → Int | .i n => n | _ => 0
def gR : V → List (List V) | .sl _ r => r | _ => []
def dI (r : List V) : Int := gI (r.headD .u)
def Qr6 : List V → Span | [a, b] => ⟨gI a, gI b⟩ | _ => ⟨0, 0⟩
def Qn1 : List V → Strip | [a, b, c] => ⟨gI a, ⟨gI b, gI c⟩⟩ | _ => ⟨0, ⟨0, 0⟩⟩
def Qli : List V → Bolt | [a, b, c, d] => ⟨⟨gI a, gI b⟩, (gR c).map Qn1, gI d⟩ | _ => ⟨⟨0, 0⟩, [], 0⟩
def Qj9 : List V → Dome | [a, b, c, d, e, f] => ⟨(gR a).map Qli, (gR b).map dI, gI c, (gR d).map Qr6, (gR e).map dI, gI f⟩ | _ => ⟨[], [], 0, [], [], 0⟩
def dCan (r : List V) : List Int := (gR (r.headD .u)).map dI
def Qwm : List V → Tent | [a, b, c, d, e, f, g] => ⟨Qj9 [a, b, c, d, e, f], (gR g).map dCan⟩ | _ => ⟨Qj9 [], []⟩
theorem Qig {α : Type} {e : α → List V} {d : List V → α} (h : ∀ x, d (e x) = x) (l : List α) : (l.map e).map d = l := by
 rw [List.map_map]; conv => rhs; rw [← List.map_id l]
 exact List.map_congr_left fun x _ => h x
theorem Qs4 (n : Int) : dI (eI n) = n := rfl
theorem Qlj (s : Span) : Qr6 (eSpan s) = s := rfl
theorem Qir (s : Strip) : Qn1 (Qbd s) = s := rfl
theorem Qep (b : Bolt) : Qli (Qan b) = b := by simp [Qli, Qan, gI, gR, Function.comp_def, Qir]
theorem Qeq (d : Dome) : Qj9 (Qaj d) = d := by simp [Qj9, Qaj, gI, gR, Function.comp_def, Qep, Qs4, Qlj]
theorem Qvm (l : List Int) : dCan (eCan l) = l := by simp [dCan, eCan, gR, Function.comp_def, Qs4]
theorem Qwn (t : Tent) : Qwm (Qcz t) = t := by
 have := Qeq t.dome
 unfold Qaj at this
 simp [Qwm, Qcz, Qaj, this, gR, Function.comp_def, Qvm]
theorem Qkm (s : Span) : (⟨s.low, s.high⟩ : Span) = s := rfl
theorem Qw3 (s : Strip) : (⟨s.long, s.pulled⟩ : Strip) = s := rfl
theorem Quh (s : Bolt) : (⟨s.stretch, s.strips, s.wrong⟩ : Bolt) = s := rfl
theorem Qlo (s : Dome) : (⟨s.bolts, s.gores, s.loss, s.rounds, s.widths, s.slope⟩ : Dome) = s := rfl
theorem Qxe (s : Tent) : (⟨s.dome, s.can⟩ : Tent) = s := rfl
def fnG {A B : Type} (e : A → List V) (d : List V → A) (ok : A → Prop) (g : A → B) (eb : B → V) : List V → Prop × V := fun vs => (e (d vs) = vs ∧ ok (d vs), eb (g (d vs)))
theorem Qb7 {P : Program} {A B : Type} {e : A → List V} {d : List V → A} {ok : A → Prop} {g : A → B} {eb : B → V} {f : Nat} (h : ∀ a, ok a → Qa9 P f (e a) (eb (g a))) (vs : List V) (hv : (fnG e d ok g eb vs).1) :
  Qa9 P f vs (fnG e d ok g eb vs).2 := by
 have := h (d vs) hv.2
 rw [hv.1] at this
 exact this
theorem Qb9 {A B : Type} {e : A → List V} {d : List V → A} {ok : A → Prop} {g : A → B} {eb : B → V} (a : A) (h : d (e a) = a) : fnG e d ok g eb (e a) = (ok a, eb (g a)) := by
 simp [fnG, h]
end Go.C02
set_option linter.unusedSimpArgs false
set_option linter.unusedVariables false
namespace Go.CT
open Go.Fam Go.Proofs Go.ChangeAt Go.C02
variable {H : Type} {enc : TypeId × Value → H} {W : World}
theorem uInt : Try.prog.underlying 3 = some (.int .i64) := by kernel_rfl
theorem Qpd : Rd enc Try.prog W 3 eI inI := Qy7 uInt
theorem Qto : Rd enc Try.prog W 42 eSpan (fun _ => True) :=
 (RdP.rd (fs := Try.prog.fieldsOf 42) (n := 2) (ps := [(3, 0), (3, 1)]) (by kernel_rfl) (by kernel_rfl) (by kernel_rfl)
  (Qck (k := 1) (by kernel_rfl) Qpd (Qck (k := 1) (by kernel_rfl) Qpd (Qmc (by decide))))).map (fun p => ⟨p.1, p.2.1⟩) (fun _ => rfl) fun _ _ => trivial
theorem Qx4 : Rd enc Try.prog W 76 Qbd (fun _ => True) :=
 (RdP.rd (fs := Try.prog.fieldsOf 76) (n := 3) (ps := [(3, 0), (42, 1)]) (by kernel_rfl) (by kernel_rfl) (by kernel_rfl)
  (Qck (k := 1) (by kernel_rfl) Qpd (Qck (k := 2) (by kernel_rfl) Qto (Qmc (by decide))))).map (fun p => ⟨p.1, p.2.1⟩) (fun _ => rfl) fun _ _ => trivial
theorem Qvc : Rd enc Try.prog W 50 (fun l : List Strip => [.sl 3 (l.map Qbd)]) (fun _ => True) :=
 (Qiy (el := 76) (es := 3) (by kernel_rfl) (by kernel_rfl) (by decide) Qx4).map id (fun _ => rfl) fun _ _ => trivial
theorem Qvv : Rd enc Try.prog W 23 (fun l : List Int => [.sl 1 (l.map eI)]) (fun l => ∀ x ∈ l, inI x) :=
 (Qiy (el := 3) (es := 1) (by kernel_rfl) (by kernel_rfl) (by decide) Qpd).map id (fun _ => rfl) fun _ h => h.1
theorem Qx3 : Rd enc Try.prog W 24 (fun l : List Span => [.sl 2 (l.map eSpan)]) (fun _ => True) :=
 (Qiy (el := 42) (es := 2) (by kernel_rfl) (by kernel_rfl) (by decide) Qto).map id (fun _ => rfl) fun _ _ => trivial
theorem Qy5 : Rd enc Try.prog W 52 Qan (fun _ => True) :=
 (RdP.rd (fs := Try.prog.fieldsOf 52) (n := 4) (ps := [(42, 0), (50, 2), (3, 3)]) (by kernel_rfl) (by kernel_rfl) (by kernel_rfl)
  (Qck (k := 2) (by kernel_rfl) Qto (Qck (k := 1) (by kernel_rfl) Qvc (Qck (k := 1) (by kernel_rfl) Qpd (Qmc (by decide)))))).map (fun p => ⟨p.1, p.2.1, p.2.2.1⟩) (fun _ => rfl) fun _ _ => trivial
theorem Qx1 : Rd enc Try.prog W 22 (fun l : List Bolt => [.sl 4 (l.map Qan)]) (fun _ => True) :=
 (Qiy (el := 52) (es := 4) (by kernel_rfl) (by kernel_rfl) (by decide) Qy5).map id (fun _ => rfl) fun _ _ => trivial
theorem Qy6 : Rd enc Try.prog W 26 Qaj (fun _ => True) :=
 (RdP.rd (fs := Try.prog.fieldsOf 26) (n := 6) (ps := [(22, 0), (23, 1), (3, 2), (24, 3), (23, 4), (3, 5)]) (by kernel_rfl) (by kernel_rfl) (by kernel_rfl)
  (Qck (k := 1) (by kernel_rfl) Qx1 (Qck (k := 1) (by kernel_rfl) Qvv (Qck (k := 1) (by kernel_rfl) Qpd
   (Qck (k := 1) (by kernel_rfl) Qx3 (Qck (k := 1) (by kernel_rfl) Qvv (Qck (k := 1) (by kernel_rfl) Qpd (Qmc (by decide))))))))).map
  (fun p => ⟨p.1, p.2.1, p.2.2.1, p.2.2.2.1, p.2.2.2.2.1, p.2.2.2.2.2.1⟩) (fun _ => rfl) fun _ _ => trivial
theorem aDome : RdV enc Try.prog W 26 (fun d => .ag (Qaj d)) (fun _ => True) := Qy6.agg (fs := Try.prog.fieldsOf 26) (by kernel_rfl)
theorem own : ownKnob Try.prog.godebug = none := by kernel_rfl
theorem laid : laidOutB Try.prog = true := by kernel_rfl
end Go.CT
set_option maxRecDepth 8000
namespace Go.CT
open Go.Fam Go.Proofs
def rc23 : RC := (.seq (.reg false [(cQ 6 [] (.mv (kB false)))]) (.keep [0,1,2] (.seq (.reg true [(cMv 7 1), (cMv 8 0), (cB 9 .leq 7 8), (cMv 10 9), (gMv 11 10 true 0), (gMv 12 10 true 2), (gQ 13 10 true [11,12] (.bin .leq (.t 11) (.t 12))), (cQ 14 [10,13] (.pick (.t 10) (.t 13) (kB false))), (cMv 6 14)]) .ret)))
def pu23 : List Nat := []
def rs23 : List RV := [.t 6]
theorem cc23 : CCx Try.prog Try.f23 pu23 rc23 := by unfold CCx; kernel_rfl
theorem cb23 : CBx Try.f23 := by unfold CBx; kernel_rfl
theorem cs23 : CSx Try.prog Try.f23 rs23 := by unfold CSx; kernel_rfl
theorem cn23 : 3 ≤ Try.f23.ntmps := by decide
def rc24 : RC := (.seq (.reg false [(cX 1 0), (cQ 2 [] (.mv (kB false)))]) (.keep [1] (.seq (.reg true [(cFa 3 1 0), (cLd 4 3 false 1), (cQ 5 [4] (.call (kF 23) [(.t 4), (kI 0), (kI 12)])), (cMv 6 5), (gQ 7 6 true [1] (.fad 1 (.t 1))), (gQ 8 6 true [7] (.ld false 1 (.t 7))), (gQ 9 6 true [8] (.call (kF 23) [(.t 8), (kI 0), (kI 12)])), (cQ 10 [6,9] (.pick (.t 6) (.t 9) (kB false))), (cMv 11 10), (gQ 12 11 true [1] (.fad 2 (.t 1))), (gQ 13 11 true [12] (.ld false 1 (.t 12))), (gQ 14 11 true [13] (.call (kF 23) [(.t 13), (kI 0), (kI 1)])), (cQ 15 [11,14] (.pick (.t 11) (.t 14) (kB false))), (cMv 2 15)]) .ret)))
def pu24 : List Nat := [1]
def rs24 : List RV := [.t 2]
theorem cc24 : CCx Try.prog Try.f24 pu24 rc24 := by unfold CCx; kernel_rfl
theorem cb24 : CBx Try.f24 := by unfold CBx; kernel_rfl
theorem cs24 : CSx Try.prog Try.f24 rs24 := by unfold CSx; kernel_rfl
theorem cn24 : 1 ≤ Try.f24.ntmps := by decide
def rc39 : RC := (.seq (.reg false [(cX 1 0), (cQ 2 [] (.mv (kB false)))]) (.keep [1] (.seq (.seq (.reg false [(cFa 6 1 0), (cLd 7 6 false 1), (cLn 8 7), (cQ 9 [8] (.call (kF 23) [(.t 8), (kI 1), (kI 4)])), (cN 10 9)]) (.keep [1,10] (.cond (.t 10) (.seq (.reg false [(cQ 2 [] (.mv (kB false)))]) .ret) .skip))) (.keep [1] (.seq (.reg false [(cI 3 8)]) (.keep [1,3] (.seq (.seq (.reg false [(cFa 11 1 0), (cLd 12 11 false 1), (cLn 13 12), (cI 14 0)]) (.keep [3,12,13,14] (.block 0 (.loop [3,12,13,14] (some 0) (.seq (.reg false [(cB 15 .lss 14 13)]) (.keep [3,12,13,14,15] (.seq (.cond (.t 15) .skip (.exit 0)) (.keep [3,12,13,14] (.seq (.block 1 (.seq (.reg false [(cA 16 2 12 14), (cLd 17 16 true 2), ⟨(some 5), none, [], none, .w (.alc [(.i 0), (.i 0)])⟩, ⟨none, none, [5,17], none, .w (.st 2 (.t 5) (.t 17))⟩]) (.keep [3,5,12,13,14] (.seq (.seq (.reg true [(cFa 18 5 0), (cLd 19 18 false 1), (cFa 20 5 1), (cLd 21 20 false 1), (cQ 22 [19,21] (.call (kF 23) [(.t 19), (kI 0), (.t 21)])), (cN 23 22), (cMv 24 23), (gQ 25 24 false [5] (.fad 1 (.t 5))), (gQ 26 24 false [25] (.ld false 1 (.t 25))), (gQ 27 24 false [26] (.bin .geq (.t 26) (kI 8))), (cQ 28 [24,27] (.pick (.t 24) (kB true) (.t 27)))]) (.keep [3,5,12,13,14,28] (.cond (.t 28) (.seq (.reg false [(cQ 2 [] (.mv (kB false)))]) .ret) .skip))) (.keep [3,5,12,13,14] (.reg false [(cMv 29 3), (cFa 30 5 0), (cLd 31 30 false 1), (cQ 32 [29,31] (.mn (.t 29) (.t 31))), (cMv 3 32)])))))) (.drp 0 (.keep [3,12,13,14] (.reg false [(cC 33 .add 14 1), (cMv 14 33)])))))))))))) (.keep [3] (.seq (.reg false [(cMv 34 3), (cC 35 .eql 34 0), (cMv 2 35)]) .ret)))))))))
def pu39 : List Nat := [1]
def rs39 : List RV := [.t 2]
theorem cc39 : CCx Try.prog Try.f39 pu39 rc39 := by unfold CCx; kernel_rfl
theorem cb39 : CBx Try.f39 := by unfold CBx; kernel_rfl
theorem cs39 : CSx Try.prog Try.f39 rs39 := by unfold CSx; kernel_rfl
theorem cn39 : 1 ≤ Try.f39.ntmps := by decide
def rc38 : RC := (.seq (.reg false [(cX 1 0), (cQ 2 [] (.mv (kB false)))]) (.keep [1] (.seq (.reg false [(cLd 3 1 true 1), (cQ 4 [3] (.call (kF 39) [(.t 3)])), (cN 5 4), (cMv 2 5)]) .ret)))
def pu38 : List Nat := [1]
def rs38 : List RV := [.t 2]
theorem cc38 : CCx Try.prog Try.f38 pu38 rc38 := by unfold CCx; kernel_rfl
theorem cb38 : CBx Try.f38 := by unfold CBx; kernel_rfl
theorem cs38 : CSx Try.prog Try.f38 rs38 := by unfold CSx; kernel_rfl
theorem cn38 : 1 ≤ Try.f38.ntmps := by decide
def rc55 : RC := (.seq (.reg false [(cI 4 0)]) (.keep [0,1] (.seq (.seq (.reg false [(cMv 6 0), (cLn 7 6), (cI 8 0)]) (.keep [0,1,7,8] (.block 0 (.loop [0,1,7,8] none (.seq (.reg false [(cB 9 .lss 8 7)]) (.keep [0,1,7,8,9] (.seq (.cond (.t 9) .skip (.exit 0)) (.keep [0,1,7,8] (.seq (.block 1 (.seq (.reg false [(cMv 10 8), (cMv 5 10)]) (.keep [0,1,5,7,8] (.seq (.reg false [(cMv 11 1), (cMv 12 0), (cMv 13 5), (cA 14 1 12 13), (cLd 15 14 true 1), (cQ 16 [11,15] (.call (.t 11) [(.t 15)]))]) (.keep [0,1,5,7,8,16] (.cond (.t 16) (.seq (.reg false [(cMv 17 5), (cMv 4 17)]) .ret) .skip)))))) (.keep [0,1,7,8] (.reg false [(cC 18 .add 8 1), (cMv 8 18)]))))))))))) (.keep [] (.seq (.reg false [(cQ 4 [] (.mv (.k (.i (-1)))))]) .ret)))))
def pu55 : List Nat := []
def rs55 : List RV := [.t 4]
theorem cc55 : CCx Try.prog Try.f55 pu55 rc55 := by unfold CCx; kernel_rfl
theorem cb55 : CBx Try.f55 := by unfold CBx; kernel_rfl
theorem cs55 : CSx Try.prog Try.f55 rs55 := by unfold CSx; kernel_rfl
theorem cn55 : 2 ≤ Try.f55.ntmps := by decide
def rc37 : RC := (.seq (.reg false [(cQ 4 [] (.mv (kB false)))]) (.keep [0,1] (.seq (.reg false [(cMv 5 0), (cMv 6 1), (cQ 7 [5,6] (.call (kF 55) [(.t 5), (.t 6)])), (cC 8 .geq 7 0), (cMv 4 8)]) .ret)))
def pu37 : List Nat := []
def rs37 : List RV := [.t 4]
theorem cc37 : CCx Try.prog Try.f37 pu37 rc37 := by unfold CCx; kernel_rfl
theorem cb37 : CBx Try.f37 := by unfold CBx; kernel_rfl
theorem cs37 : CSx Try.prog Try.f37 rs37 := by unfold CSx; kernel_rfl
theorem cn37 : 2 ≤ Try.f37.ntmps := by decide
def rc22 : RC := (.seq (.reg false [(cX 1 0), (cI 2 0)]) (.keep [1] (.seq (.seq (.reg true [(cFa 6 1 0), (cLd 7 6 false 1), (cQ 8 [7] (.call (kF 23) [(.t 7), (kI 1), (kI 8)])), (cN 9 8), (cMv 10 9), (gQ 11 10 false [1] (.fad 1 (.t 1))), (gQ 12 10 false [11] (.ld false 1 (.t 11))), (gQ 13 10 false [12] (.call (kF 23) [(.t 12), (kI 1), (kI 12)])), (gQ 14 10 false [13] (.not (.t 13))), (cQ 15 [10,14] (.pick (.t 10) (kB true) (.t 14))), (cMv 16 15), (gQ 17 16 false [1] (.fad 2 (.t 1))), (gQ 18 16 false [17] (.ld false 1 (.t 17))), (gQ 19 16 false [18] (.len (.t 18))), (gQ 20 16 false [19] (.bin .gtr (.t 19) (kI 20))), (cQ 21 [16,20] (.pick (.t 16) (kB true) (.t 20))), (cMv 22 21), (gQ 23 22 false [1] (.fad 3 (.t 1))), (gQ 24 22 false [23] (.ld false 1 (.t 23))), (gQ 25 22 false [24] (.len (.t 24))), (gQ 26 22 false [25] (.bin .gtr (.t 25) (kI 20))), (cQ 27 [22,26] (.pick (.t 22) (kB true) (.t 26))), (cMv 28 27), (gQ 29 28 false [1] (.fad 4 (.t 1))), (gQ 30 28 false [29] (.ld false 1 (.t 29))), (gQ 31 28 false [30] (.len (.t 30))), (gQ 32 28 false [31] (.bin .gtr (.t 31) (kI 5))), (cQ 33 [28,32] (.pick (.t 28) (kB true) (.t 32)))]) (.keep [1,33] (.cond (.t 33) (.seq (.reg false [(cI 2 30)]) .ret) .skip))) (.keep [1] (.seq (.reg false [⟨(some 34), none, [], none, .w (.mkm true)⟩, (cMv 3 34)]) (.keep [1,3] (.seq (.seq (.reg false [(cFa 35 1 2), (cLd 36 35 false 1), (cFa 37 1 3), (cLd 38 37 false 1), (cQ 39 [36,38] (.bsl 1 2 [(.z 2)] [(0,1, (.t 36)), (1,1, (.t 38))])), (cQ 40 [39] (.call (kF 36) [(.t 39)])), (cLn 41 40), (cI 42 0)]) (.keep [1,3,40,41,42] (.block 0 (.loop [1,3,40,41,42] (some 1) (.seq (.reg false [(cB 43 .lss 42 41)]) (.keep [1,3,40,41,42,43] (.seq (.cond (.t 43) .skip (.exit 0)) (.keep [1,3,40,41,42] (.seq (.block 1 (.seq (.reg false [(cA 44 2 40 42), (cLd 45 44 true 2), ⟨(some 5), none, [], none, .w (.alc [(.i 0), (.i 0)])⟩, ⟨none, none, [5,45], none, .w (.st 2 (.t 5) (.t 45))⟩]) (.keep [1,3,5,40,41,42] (.seq (.any false 0 [⟨(cMv 46 3), [], []⟩, ⟨(cLd 47 5 true 2), [], []⟩, ⟨(cQ 48 [46,47] (.lkp (.i 0) false 91 true (.t 46) (.t 47))), [], [0,1]⟩, ⟨(cC 49 .add 48 1), [], [2,0,1]⟩, ⟨⟨(some 50), none, [46,47], none, .w (.men 91 true (.i 0) (.t 46) (.t 47))⟩, [2,3], [0,1]⟩, ⟨(cEx 51 50 1), [], [4,0,1]⟩, ⟨⟨none, none, [46,51,49], none, .w (.mes (.t 46) (.t 51) (.t 49))⟩, [], [0,5,4,1,3,2]⟩]) (.keep [1,3,5,40,41,42] (.seq (.reg true [(cMv 52 3), (cLd 53 5 true 2), (cQ 54 [52,53] (.lkp (.i 0) false 91 true (.t 52) (.t 53))), (cC 55 .gtr 54 1), (cMv 56 55), (gQ 57 56 false [5] (.fad 0 (.t 5))), (gQ 58 56 false [57] (.ld false 1 (.t 57))), (gQ 59 56 false [1] (.fad 1 (.t 1))), (gQ 60 56 false [59] (.ld false 1 (.t 59))), (gQ 61 56 false [60] (.bin .sub (.t 60) (kI 1))), (gQ 62 56 false [58,61] (.call (kF 23) [(.t 58), (kI 0), (.t 61)])), (gQ 63 56 false [62] (.not (.t 62))), (cQ 64 [56,63] (.pick (.t 56) (kB true) (.t 63))), (cMv 65 64), (gQ 66 65 false [5] (.fad 1 (.t 5))), (gQ 67 65 false [66] (.ld false 1 (.t 66))), (gQ 68 65 false [1] (.fad 0 (.t 1))), (gQ 69 65 false [68] (.ld false 1 (.t 68))), (gQ 70 65 false [69] (.bin .sub (.t 69) (kI 1))), (gQ 71 65 false [67,70] (.call (kF 23) [(.t 67), (kI 0), (.t 70)])), (gQ 72 65 false [71] (.not (.t 71))), (cQ 73 [65,72] (.pick (.t 65) (kB true) (.t 72)))]) (.keep [1,3,40,41,42,73] (.cond (.t 73) (.seq (.reg false [(cI 2 30)]) .ret) .skip)))))))) (.drp 1 (.keep [1,3,40,41,42] (.reg false [(cC 74 .add 42 1), (cMv 42 74)])))))))))))) (.keep [1] (.seq (.seq (.reg false [(cFa 75 1 4), (cLd 76 75 false 1), (cQ 77 [76] (.call (kF 37) [(.t 76), (kF 38)]))]) (.keep [77] (.cond (.t 77) (.seq (.reg false [(cI 2 30)]) .ret) .skip))) (.keep [] (.seq (.reg false [(cI 2 0)]) .ret)))))))))))
def pu22 : List Nat := [1,39]
def rs22 : List RV := [.t 2]
theorem cc22 : CCx Try.prog Try.f22 pu22 rc22 := by unfold CCx; kernel_rfl
theorem cb22 : CBx Try.f22 := by unfold CBx; kernel_rfl
theorem cs22 : CSx Try.prog Try.f22 rs22 := by unfold CSx; kernel_rfl
theorem cn22 : 1 ≤ Try.f22.ntmps := by decide
def rc71 : RC := (.seq (.reg false [(cLd 4 1 false 1), (cLn 5 4), (cC 6 .sub 5 1), (cMv 3 6)]) (.keep [0,1,3] (.block 0 (.loop [0,1,3] none (.seq (.seq (.reg false [(cMv 7 3), (cC 8 .geq 7 0)]) (.keep [0,1,3,8] (.cond (.t 8) .skip (.exit 0)))) (.keep [0,1,3] (.seq (.block 1 (.seq (.yrg false [(cMv 11 0), (cMv 12 3), (cLd 13 1 false 1), (cMv 14 3), (cA 15 2 13 14), (cLd 16 15 true 2)] ⟨(some 17), none, [11,12,16], none, .o (.t 11) [(.t 12), (.t 16)]⟩ [0,1,3] [(cN 18 17)]) (.keep [0,1,3,18] (.cond (.t 18) .ret .skip)))) (.keep [0,1,3] (.reg false [(cMv 9 3), (cC 10 .sub 9 1), (cMv 3 10)])))))))))
def pu71 : List Nat := []
def rs71 : List RV := []
theorem cc71 : comp Try.prog pu71 (Try.f71.ntmps, 2) 1 2 rc71 (Try.f71.body.getD .skip) = some rc71 := by kernel_rfl
theorem cb71 : CBx Try.f71 := by unfold CBx; kernel_rfl
theorem cs71 : CSx Try.prog Try.f71 rs71 := by unfold CSx; kernel_rfl
theorem cn71 : 2 ≤ Try.f71.ntmps := by decide
def rc56 : RC := (.seq (.reg false [(cX 1 0), (cQ 2 [] (.mv (.k .u)))]) (.keep [1] (.seq (.reg false [(cQ 3 [1] (.mkf 71 [(.t 1)])), (cMv 2 3)]) .ret)))
def pu56 : List Nat := [1]
def rs56 : List RV := [.t 2]
theorem cc56 : CCx Try.prog Try.f56 pu56 rc56 := by unfold CCx; kernel_rfl
theorem cb56 : CBx Try.f56 := by unfold CBx; kernel_rfl
theorem cs56 : CSx Try.prog Try.f56 rs56 := by unfold CSx; kernel_rfl
theorem cn56 : 1 ≤ Try.f56.ntmps := by decide
def rc40 : RC := (.seq (.reg false [(cX 2 0), (cQ 4 [] (.mv (.k (.z 2))))]) (.keep [1,2,31] (.seq (.seq (.reg false [(cMv 11 1), (cC 12 .eql 11 0)]) (.keep [2,12,31] (.cond (.t 12) (.seq (.reg false [(cFa 13 2 0), (cLd 14 13 false 1), (cMv 4 14)]) .ret) .skip))) (.keep [2,31] (.seq (.reg false [⟨(some 5), none, [], none, .w (.alc [(.i 0)])⟩, ⟨none, none, [5], none, .w (.st 1 (.t 5) (kI 0))⟩]) (.keep [2,5,31] (.seq (.seq (.reg false [(cFa 15 2 0), (cLd 16 15 false 1), (cLn 17 16), (cI 18 0)]) (.keep [2,5,16,17,18,31] (.block 0 (.loop [2,5,16,17,18,31] (some 1) (.seq (.reg false [(cB 19 .lss 18 17)]) (.keep [2,5,16,17,18,19,31] (.seq (.cond (.t 19) .skip (.exit 0)) (.keep [2,5,16,17,18,31] (.seq (.block 1 (.seq (.reg false [(cA 20 2 16 18), (cLd 21 20 true 2), ⟨(some 7), none, [], none, .w (.alc [(.i 0), (.i 0)])⟩, ⟨none, none, [7,21], none, .w (.st 2 (.t 7) (.t 21))⟩]) (.keep [2,5,7,16,17,18,31] (.reg false [(cLd 22 5 false 1), (cFa 23 7 1), (cLd 24 23 false 1), (cQ 25 [22,24] (.mx (.t 22) (.t 24))), ⟨none, none, [5,25], none, .w (.st 1 (.t 5) (.t 25))⟩])))) (.drp 1 (.keep [2,5,16,17,18,31] (.reg false [(cC 26 .add 18 1), (cMv 18 26)])))))))))))) (.keep [2,5,31] (.seq (.reg false [⟨(some 8), none, [], none, .w (.alc [(.z 2)])⟩]) (.keep [2,5,8,31] (.seq (.seq (.reg false [(cFa 27 2 0), (cLd 28 27 false 1), (cQ 29 [28] (.call (kF 56) [(.t 28)]))]) (.keep [5,8,29,31] (.block 2 (.ownc 8 0 2 (.rfn (.t 29) [30,31] 3 (.reg false [⟨(some 10), none, [], none, .w (.alc [(.i 0), (.i 0)])⟩, ⟨none, none, [10,31], none, .w (.st 2 (.t 10) (.t 31))⟩]) (.block 3 (.reg false [(cLd 32 8 false 1), (cLd 33 5 false 1), (cFa 34 10 1), (cLd 35 34 false 1), (cB 36 .sub 33 35), (cLd 37 5 false 1), (cFa 38 10 0), (cLd 39 38 false 1), (cB 40 .sub 37 39), (cQ 41 [36,40] (.bld [(.i 0), (.i 0)] [(0,1, (.t 36)), (1,1, (.t 40))])), (cQ 42 [41] (.bsl 2 1 [(.i 0), (.i 0)] [(0,2, (.t 41))])), ⟨(some 43), none, [32,42], none, .w (.app 2 (.t 32) (.t 42))⟩, ⟨none, none, [8,43], none, .w (.st 1 (.t 8) (.t 43))⟩]))))))) (.keep [8] (.seq (.reg false [(cLd 44 8 false 1), (cMv 4 44)]) .ret)))))))))))))
def pu40 : List Nat := [2,42]
def rs40 : List RV := [.t 4]
theorem cc40 : CCx Try.prog Try.f40 pu40 rc40 := by unfold CCx; kernel_rfl
theorem cb40 : CBx Try.f40 := by unfold CBx; kernel_rfl
theorem cs40 : CSx Try.prog Try.f40 rs40 := by unfold CSx; kernel_rfl
theorem cn40 : 2 ≤ Try.f40.ntmps := by decide
def rc25 : RC := (.seq (.reg false [(cX 2 0), (cX 3 1), (cQ 4 [] (.mv (.k (.z 2))))]) (.keep [2,3] (.seq (.reg false [(cQ 5 [] (.mv (.k (.z 2))))]) (.keep [2,3,5] (.seq (.seq (.reg false [(cLd 9 2 true 1), (cFa 10 3 2), (cLd 11 10 false 1), (cQ 12 [9,11] (.call (kF 40) [(.t 9), (.t 11)])), (cLn 13 12), (cI 14 0)]) (.keep [3,5,12,13,14] (.block 0 (.own 5 2 (.loop [3,5,12,13,14] (some 1) (.seq (.reg false [(cB 15 .lss 14 13)]) (.keep [3,5,12,13,14,15] (.seq (.cond (.t 15) .skip (.exit 0)) (.keep [3,5,12,13,14] (.seq (.block 1 (.seq (.reg false [(cMv 16 14), (cA 17 2 12 14), (cLd 18 17 true 2), ⟨(some 7), none, [], none, .w (.alc [(.i 0), (.i 0)])⟩, (cMv 6 16), ⟨none, none, [7,18], none, .w (.st 2 (.t 7) (.t 18))⟩]) (.keep [3,5,6,7,12,13,14] (.seq (.reg false [(cFa 19 7 0), (cLd 20 19 false 1), (cMv 8 20)]) (.keep [3,5,6,7,8,12,13,14] (.block 2 (.loop [3,5,6,7,8,12,13,14] none (.seq (.seq (.reg false [(cMv 21 8), (cFa 22 7 1), (cLd 23 22 false 1), (cB 24 .leq 21 23)]) (.keep [3,5,6,7,8,12,13,14,24] (.cond (.t 24) .skip (.exit 2)))) (.keep [3,5,6,7,8,12,13,14] (.seq (.block 3 (.reg false [(cMv 27 5), (cFa 28 3 0), (cLd 29 28 false 1), (cMv 30 6), (cB 31 .add 29 30), (cFa 32 3 1), (cLd 33 32 false 1), (cMv 34 8), (cB 35 .add 33 34), (cQ 36 [31,35] (.bld [(.i 0), (.i 0)] [(0,1, (.t 31)), (1,1, (.t 35))])), (cQ 37 [36] (.bsl 2 1 [(.i 0), (.i 0)] [(0,2, (.t 36))])), ⟨(some 38), none, [27,37], none, .w (.app 2 (.t 27) (.t 37))⟩, (cMv 5 38)])) (.keep [3,5,6,7,8,12,13,14] (.reg false [(cMv 25 8), (cC 26 .add 25 1), (cMv 8 26)])))))))))))) (.drp 1 (.keep [3,5,12,13,14] (.reg false [(cC 39 .add 14 1), (cMv 14 39)]))))))))))))) (.keep [5] (.seq (.reg false [(cMv 40 5), (cMv 4 40)]) .ret)))))))
def pu25 : List Nat := [2,3,37]
def rs25 : List RV := [.t 4]
theorem cc25 : CCx Try.prog Try.f25 pu25 rc25 := by unfold CCx; kernel_rfl
theorem cb25 : CBx Try.f25 := by unfold CBx; kernel_rfl
theorem cs25 : CSx Try.prog Try.f25 rs25 := by unfold CSx; kernel_rfl
theorem cn25 : 2 ≤ Try.f25.ntmps := by decide
def rc9 : RC := (.seq (.reg false [(cX 3 0), (cX 5 2), (cQ 6 [] (.mv (.k (.z 2)))), (cI 7 0)]) (.keep [1,3,5] (.seq (.seq (.reg false [(cLd 9 3 true 5), (cQ 10 [9] (.call (kF 22) [(.t 9)])), (cMv 8 10)]) (.keep [1,3,5,8] (.seq (.reg false [(cMv 11 8), (cC 12 .neq 11 0)]) (.keep [1,3,5,8,12] (.cond (.t 12) (.seq (.reg false [(cMv 13 8), (cQ 6 [] (.mv (.k (.z 2)))), (cMv 7 13)]) .ret) .skip))))) (.keep [1,3,5] (.seq (.seq (.reg true [(cMv 14 1), (cFa 15 3 4), (cLd 16 15 false 1), (cLn 17 16), (cC 18 .sub 17 1), (cQ 19 [14,18] (.call (kF 23) [(.t 14), (kI 0), (.t 18)])), (cN 20 19), (cMv 21 20), (gQ 22 21 false [5] (.ld true 3 (.t 5))), (gQ 23 21 false [22] (.call (kF 24) [(.t 22)])), (gQ 24 21 false [23] (.not (.t 23))), (cQ 25 [21,24] (.pick (.t 21) (kB true) (.t 24)))]) (.keep [1,3,5,25] (.cond (.t 25) (.seq (.reg false [(cQ 6 [] (.mv (.k (.z 2)))), (cI 7 1)]) .ret) .skip))) (.keep [1,3,5] (.seq (.any false 0 [⟨(cFa 26 3 4), [], []⟩, ⟨(cLd 27 26 false 1), [], [0]⟩, ⟨(cMv 28 1), [], []⟩, ⟨(cA 29 1 27 28), [], [1,0,2]⟩, ⟨(cLd 30 29 true 1), [], [3,1,0,2]⟩, ⟨(cLd 31 5 true 3), [], []⟩, ⟨(cQ 32 [30,31] (.call (kF 25) [(.t 30), (.t 31)])), [], [4,3,1,0,2,5]⟩, ⟨(cMv 6 32), [], [6,4,3,1,0,2,5]⟩, ⟨(cI 7 0), [], [7,6,4,3,1,0,2,5]⟩]) .ret)))))))
def pu9 : List Nat := [3,5]
def rs9 : List RV := [.t 6, .t 7]
theorem cc9 : CCx Try.prog Try.f9 pu9 rc9 := by unfold CCx; kernel_rfl
theorem cb9 : CBx Try.f9 := by unfold CBx; kernel_rfl
theorem cs9 : CSx Try.prog Try.f9 rs9 := by unfold CSx; kernel_rfl
theorem cn9 : 3 ≤ Try.f9.ntmps := by decide
end Go.CT
set_option linter.unusedSimpArgs false
set_option linter.unusedVariables false
namespace Go.CT
open Go.Fam Go.Proofs Go.RowKit Go.C02
theorem _root_.Go.Fam.vw_w (hp : List Blk) (n : Nat) (k : IntKind) (a : Int) : vw hp (n + 1) (.w k a) = .w k a := rfl
theorem hmix : Try.prog.follows .mixedOrders = true := by kernel_rfl
set_option maxRecDepth 100000 in
theorem Qqc (a : Option Addr) (w : World) : CallsIn Fence.wide 0 Try.prog 54 #[.slice a 0 0, .int .i64 0] w fun e w' => e = .returned (.slice a 0 0) ∧ w' = w := by
 refine callsIn_of_wp Try.func54 rfl trivial ?_ rfl
 simp only [Try.ntmps54, Xg, Qd, Qf, Nat.reduceAdd, Nat.reduceSub, Array.replicate_succ, Array.replicate_zero, Xh, Z8, Qq, Qp]
 gi_wp2
 go_ret
 exact ⟨rfl, rfl⟩
def inW (n lo hi : Int) : Bool := decide (lo ≤ n) && decide (n ≤ hi)
theorem W23 (n lo hi : Int) : Qa9 Try.prog 23 [.i n, .i lo, .i hi] (.b (inW n lo hi)) := by
 refine Qac Qlu hmix Try.func23 cb23 cc23 cs23 cn23 ?_
 simp only [rc23, rs23, Qa7, Qa8, Qag, Qa6, Qad, Qa5, Qa2, Fam.step, Qae, Qbu, Qb8, ug, evO, opv, qv, Qao, binV, Qa3, Qa0, Qa1, ↓reduceIte, Nat.reduceEqDiff, Nat.reduceAdd, Qb, Qc, Qy, Qx, endQ, rvs, rv1, resV, vw_b, zipA, Qe, V.b.injEq, Qu, Qz, decide_eq_true_eq, decide_eq_false_iff_not, true_and, and_true, and_self, implies_true, reduceCtorEq, beq_true, Qg2, imp_self]
 by_cases h : lo ≤ n <;> simp [h, inW]
def s23 : List V → Prop × V | [.i n, .i lo, .i hi] => (True, .b (inW n lo hi)) | _ => (False, .u)
theorem Qya (vs : List V) (h : (s23 vs).1) : Qa9 Try.prog 23 vs (s23 vs).2 := by
 unfold s23 at h ⊢
 split at h
 ·exact W23 _ _ _
 ·exact h.elim
def one (args : List V) (r : V) : List V → Prop × V := fun vs => (vs = args, r)
theorem Qcc {P : Program} {f : Nat} {args : List V} {r : V} (h : Qa9 P f args r) (vs : List V) (hv : (one args r vs).1) : Qa9 P f vs (one args r vs).2 := by
 have : vs = args := hv
 subst this
 exact h
theorem Qc8 (args : List V) (r : V) : one args r args = (True, r) := by simp [one]
theorem W54 : Qa9 Try.prog 54 [.z 2, .i 0] (.z 2) := by
 intro S w cargs hS hsz hr
 obtain ⟨a, b, rfl⟩ : ∃ a b, cargs = #[a, b] := by
  match cargs, hsz with
  | ⟨[a, b]⟩, _ => exact ⟨a, b, rfl⟩
 simp only [RepL, Rep, and_true] at hr
 obtain ⟨⟨a', rfl⟩, rfl⟩ := hr
 refine (Qcx.calls (n := 0) (Qqc a' w)).mono ?_
 rintro e w' ⟨rfl, rfl⟩
 have he := Evol.refl S w' noO
 refine ⟨_, rfl, ⟨⟨fun n hn => ⟨.inl hn, rfl⟩, fun _ _ _ h => nomatch h⟩, rfl, rfl, rfl, Nat.le_refl _, fun _ _ => rfl, fun _ _ _ => rfl, he.fresh, fun n hn => hn.elim .inl fun h => by omega⟩, ?_⟩
 simp only [Rep]
 exact ⟨a', rfl⟩
noncomputable def KG1 : Gam := (Γ0.ext 23 s23).ext 54 (one [.z 2, .i 0] (.z 2))
theorem Qp8 : GOk Try.prog KG1 := (Qlu.ext (f := 23) (r := s23) (fun a w => Try.call23 a w) Qya).ext (f := 54) (fun a w => Try.call54 a w) (Qcc W54)
theorem h23 (n lo hi : Int) : KG1 23 [.i n, .i lo, .i hi] = (True, .b (inW n lo hi)) := rfl
theorem h54 : KG1 54 [.z 2, .i 0] = (True, .z 2) := (show KG1 54 _ = one _ _ _ from rfl).trans (Qc8 _ _)
theorem W24 (r c t : Int) : Qa9 Try.prog 24 [.ag [.i r, .i c, .i t]] (.b (inW r 0 12 && (inW c 0 12 && inW t 0 1))) := by
 refine Qac Qp8 hmix Try.func24 cb24 cc24 cs24 cn24 ?_
 simp only [rc24, rs24, h23, Qa7, Qa8, Qag, Qa6, Qad, Qa5, Qa2, Fam.step, Qae, Qbu, Qb8, ug, evO, opv, qv, Qao, ldV, Qaw, V.cells, Qas, Qaa, Qa4, flat, Qa3, Qa0, Qa1, ↓reduceIte, Nat.reduceEqDiff, Nat.reduceAdd, Nat.reduceLT, Nat.reduceLeDiff, Qb, Qc, Qy, Qx, Qd, Qf, Qh, Qn, Qg, Qk, endQ, rvs, rv1, resV, vw_i, vw_b, Qb1, zipA, Qe, V.b.injEq, Qu, Qz, Qi, Qa, true_and, and_true, and_self, implies_true, beq_true, Qg2, Q6, imp_self]
 cases inW r 0 12 <;> cases inW c 0 12 <;> cases inW t 0 1 <;> simp
structure OkR (rs : List Span) : Prop where
 len : 1 ≤ rs.length ∧ rs.length ≤ 4
 row : ∀ s ∈ rs, s.low = 0 ∧ 0 ≤ s.high ∧ s.high < 8
theorem W39 (rs : List Span) (h : OkR rs) : Qa9 Try.prog 39 [.ag [.sl 2 (rs.map eSpan)]] (.b true) := by
 refine Qac Qp8 hmix Try.func39 cb39 cc39 cs39 cn39 ?_
 have hl := h.len
 have g1 : inW rs.length 1 4 = true := by unfold inW; simp; omega
 have hpos : 0 < rs.length := by omega
 simp only [rc39, rs39, h23, g1, Qah, Qa7, Qa8, Qaf, Qab, Qa6, Qad, Qa5, Qa2, Fam.step, Qae, evO, opv, qv, ldV, lenV, Qaw, V.cells, Qas, Qaa, Qa4, flat, Qa3, Qa0, Qa1, ↓reduceIte, Nat.reduceEqDiff, Nat.reduceLT, Nat.reduceLeDiff, Qb, Qc, Qd, Qf, Qn, Qg, Qk, vw_i, Qb3, Qb1, zipA, Qe, Qi, Zi, Qa, true_and, and_self, implies_true, Qj]
 refine Qbm rs.length (fun i => ⟨lkp [(3, .i (if i = 0 then 8 else 0)), (12, .sl 2 (rs.map eSpan)), (13, .i rs.length), (14, .i i)], []⟩) ?_ ?_ ?_
 ·simp only [Q4, cutH, kp, cutV, Qa0, Qa1, ↓reduceIte, Nat.reduceEqDiff, Qb, Qc, Q0]
 ·intro i hi
  obtain ⟨s, hs⟩ : ∃ s, rs[i]? = some s := ⟨_, Qm hi⟩
  obtain ⟨r1, r2, r3⟩ := h.row s (Qv hs)
  have hlt : (i : Int) < rs.length := by omega
  have h3 : inI ((i : Int) + 1) := by unfold inI; omega
  have g2 : inW s.low 0 s.high = true := by unfold inW; simp; omega
  have g3 : ¬ (8 : Int) ≤ s.high := by omega
  have g4 : min (if i = 0 then (8 : Int) else 0) s.low = 0 := by split <;> omega
  have g5 : (if i + 1 = 0 then (8 : Int) else 0) = 0 := if_neg (by omega)
  simp only [hs, hlt, h3, h23, g2, g3, g4, Q3, Q5, Qah, Qa7, Qa8, Qaf, Qab, Qa6, Qc9, ↓Qbj, cutH, putB, Qad, Qai, Qa5, Qa2, Fam.step, Qae, Qbp, Qbu, Qau, Qb8, ug, putB, nv, sv, evO, opv, qv, Qao, binV, ldV, iadV, curG, Qaw, putAt, V.cells, Qas, Qaz, Qaa, Qa4, flat, kp, cutV, Qa3, Qap, Qa0, Qa1, ↓reduceIte, Nat.reduceEqDiff, Nat.reduceAdd, Nat.reduceLT, Nat.reduceLeDiff, Qb, Qc, Qy, Qx, Qd, Qf, Qh, Qn, Zv, Qo, Zc, Q0, Qg, Qq, Qk, Zb, Qr, Zk, vw_i, Qhq, Qt, beq_self_eq_true, Qe, Zy, Qu, Qi, Zi, Qa, decide_true, decide_false, and_self, forall_const, implies_true, reduceCtorEq, Q2, Qj, Qw, Ql, Qs, eSpan]
 ·have hlt : ¬ ((rs.length : Int) < rs.length) := by omega
  have g5 : (if rs.length = 0 then (8 : Int) else 0) = 0 := if_neg (by omega)
  simp only [hlt, g5, Qa7, Qa8, Qaf, Qar, Qag, Qa6, Qad, Qai, Qa5, Qa2, Fam.step, Qae, evO, opv, qv, binV, Qa3, Qa0, Qa1, ↓reduceIte, Nat.reduceEqDiff, Qb, Qc, endQ, rvs, rv1, resV, vw_b, Qa, decide_true, decide_false, and_self]
end Go.CT
set_option linter.unusedSimpArgs false
set_option linter.unusedVariables false
namespace Go.CT
open Go.Fam Go.Proofs Go.RowKit Go.C02
set_option maxRecDepth 100000 in
set_option maxHeartbeats 2000000 in
theorem Qr5 (b off cap c1 c2 : Nat) (a1 a2 : Option Addr) (w : World) (h0 : w.cell? ⟨b, off, none⟩ = some (.slice a1 0 c1)) (h1 : w.cell? ⟨b, off + 1, none⟩ = some (.slice a2 0 c2)) :
  CallsIn Fence.wide 0 Try.prog 36 #[.slice (some ⟨b, off, none⟩) 2 cap] w fun e w' => e = .returned (.slice none 0 0) ∧ w' = w := by
 refine callsIn_of_wp Try.func36 rfl trivial ?_ rfl
 simp only [Try.ntmps36, Xg, Qd, Qf, Nat.reduceAdd, Nat.reduceSub, Array.replicate_succ, Array.replicate_zero, Xh, Z8, Qq, Qp]
 rcases a1 with _ | a1 <;> rcases a2 with _ | a2
 all_goals
  gi_wp2
  refine wpIn_loop_rounds 3 ?_
  rw [roundsIn_succ]
  gi_wp2
  rw [roundsIn_succ]
  gi_wp2
  rw [roundsIn_succ]
  gi_wp2
  refine ⟨trivial, rfl, (Qqc _ _).mono ?_⟩
  rintro e w' ⟨rfl, rfl⟩
  gi_wp2
  refine wpIn_loop_rounds 3 ?_
  rw [roundsIn_succ]
  gi_wp2
  rw [roundsIn_succ]
  gi_wp2
  rw [roundsIn_succ]
  gi_wp2
  go_ret
  exact ⟨rfl, rfl⟩
end Go.CT
set_option maxRecDepth 8000
namespace Go.C02
open Go.Fam Go.Proofs
def rc4 : RC := (.seq (.reg false [(cX 1 0), (cQ 2 [] (.mv (kB false)))]) (.keep [1] (.seq (.seq (.reg true [(cFa 8 1 0), (cLd 9 8 false 1), (cLn 10 9), (cC 11 .gtr 10 20), (cMv 12 11), (gQ 13 12 false [1] (.fad 1 (.t 1))), (gQ 14 12 false [13] (.ld false 1 (.t 13))), (gQ 15 12 false [14] (.len (.t 14))), (gQ 16 12 false [15] (.bin .gtr (.t 15) (kI 60))), (cQ 17 [12,16] (.pick (.t 12) (kB true) (.t 16))), (cMv 18 17), (gQ 19 18 false [1] (.fad 3 (.t 1))), (gQ 20 18 false [19] (.ld false 1 (.t 19))), (gQ 21 18 false [20] (.len (.t 20))), (gQ 22 18 false [21] (.bin .gtr (.t 21) (kI 60))), (cQ 23 [18,22] (.pick (.t 18) (kB true) (.t 22))), (cMv 24 23), (gQ 25 24 false [1] (.fad 4 (.t 1))), (gQ 26 24 false [25] (.ld false 1 (.t 25))), (gQ 27 24 false [26] (.len (.t 26))), (gQ 28 24 false [27] (.bin .gtr (.t 27) (kI 60))), (cQ 29 [24,28] (.pick (.t 24) (kB true) (.t 28)))]) (.keep [1,29] (.cond (.t 29) (.seq (.reg false [(cQ 2 [] (.mv (kB true)))]) .ret) .skip))) (.keep [1] (.seq (.seq (.reg false [(cI 3 0)]) (.keep [1,3] (.block 0 (.loop [1,3] none (.seq (.seq (.reg false [(cMv 30 3), (cFa 31 1 0), (cLd 32 31 false 1), (cLn 33 32), (cB 34 .lss 30 33)]) (.keep [1,3,34] (.cond (.t 34) .skip (.exit 0)))) (.keep [1,3] (.seq (.block 1 (.seq (.reg false [(cFa 37 1 0), (cLd 38 37 false 1), (cMv 39 3), (cA 40 4 38 39), (cFa 41 40 2), (cLd 42 41 false 1), (cLn 43 42), (cC 44 .gtr 43 60)]) (.keep [1,3,44] (.cond (.t 44) (.seq (.reg false [(cQ 2 [] (.mv (kB true)))]) .ret) .skip)))) (.keep [1,3] (.reg false [(cMv 35 3), (cC 36 .add 35 1), (cMv 3 36)]))))))))) (.keep [1] (.seq (.seq (.reg false [(cLd 45 1 true 6), (cQ 46 [45] (.call (kF 5) [(.t 45)])), (cC 47 .neq 46 0)]) (.keep [1,47] (.cond (.t 47) (.seq (.reg false [(cQ 2 [] (.mv (kB false)))]) .ret) .skip))) (.keep [1] (.seq (.reg false [(cI 4 1)]) (.keep [1,4] (.seq (.seq (.reg false [(cI 5 0)]) (.keep [1,4,5] (.block 2 (.loop [1,4,5] none (.seq (.seq (.reg false [(cMv 48 5), (cFa 49 1 0), (cLd 50 49 false 1), (cLn 51 50), (cB 52 .lss 48 51)]) (.keep [1,4,5,52] (.cond (.t 52) .skip (.exit 2)))) (.keep [1,4,5] (.seq (.block 3 (.seq (.reg false [(cI 6 0)]) (.keep [1,4,5,6] (.seq (.seq (.reg false [(cFa 55 1 0), (cLd 56 55 false 1), (cMv 57 5), (cA 58 4 56 57), (cFa 59 58 0), (cFa 60 59 0), (cLd 61 60 false 1), (cMv 7 61)]) (.keep [1,4,5,6,7] (.block 4 (.loop [1,4,5,6,7] none (.seq (.seq (.reg false [(cMv 62 7), (cFa 63 1 0), (cLd 64 63 false 1), (cMv 65 5), (cA 66 4 64 65), (cFa 67 66 0), (cFa 68 67 1), (cLd 69 68 false 1), (cB 70 .leq 62 69)]) (.keep [1,4,5,6,7,70] (.cond (.t 70) .skip (.exit 4)))) (.keep [1,4,5,6,7] (.seq (.block 5 (.seq (.reg false [(cFa 73 1 0), (cLd 74 73 false 1), (cMv 75 5), (cA 76 4 74 75), (cLd 77 76 true 4), (cMv 78 7), (cQ 79 [77,78] (.call (kF 12) [(.t 77), (.t 78)]))]) (.keep [1,4,5,6,7,79] (.cond (.t 79) (.reg false [(cMv 80 6), (cC 81 .add 80 1), (cMv 6 81)]) .skip)))) (.keep [1,4,5,6,7] (.reg false [(cMv 71 7), (cC 72 .add 71 1), (cMv 7 72)]))))))))) (.keep [1,4,5,6] (.reg false [(cMv 82 4), (cMv 83 6), (cB 84 .mul 82 83), (cMv 4 84)])))))) (.keep [1,4,5] (.reg false [(cMv 53 5), (cC 54 .add 53 1), (cMv 5 54)]))))))))) (.keep [1,4] (.seq (.reg true [(cMv 85 4), (cC 86 .gtr 85 49), (cMv 87 86), (gQ 88 87 false [1] (.fad 1 (.t 1))), (gQ 89 87 false [88] (.ld false 1 (.t 88))), (gQ 90 87 false [89] (.len (.t 89))), (gQ 91 87 false [90] (.bin .gtr (.t 90) (kI 8))), (cQ 92 [87,91] (.pick (.t 87) (kB true) (.t 91))), (cMv 93 92), (gQ 94 93 false [1] (.fad 3 (.t 1))), (gQ 95 93 false [94] (.ld false 1 (.t 94))), (gQ 96 93 false [95] (.len (.t 95))), (gQ 97 93 false [96] (.bin .gtr (.t 96) (kI 4))), (cQ 98 [93,97] (.pick (.t 93) (kB true) (.t 97))), (cMv 2 98)]) .ret)))))))))))))
def pu4 : List Nat := [1]
def rs4 : List RV := [.t 2]
theorem cc4 : CCx Try.prog Try.f4 pu4 rc4 := by unfold CCx; kernel_rfl
theorem cb4 : CBx Try.f4 := by unfold CBx; kernel_rfl
theorem cs4 : CSx Try.prog Try.f4 rs4 := by unfold CSx; kernel_rfl
theorem cn4 : 1 ≤ Try.f4.ntmps := by decide
def rc5 : RC := (.seq (.reg false [(cX 1 0), (cI 2 0)]) (.keep [1] (.seq (.seq (.reg true [(cFa 6 1 0), (cLd 7 6 false 1), (cLn 8 7), (cQ 9 [8] (.call (kF 13) [(.t 8), (kI 1), (kI 4)])), (cN 10 9), (cMv 11 10), (gQ 12 11 false [1] (.fad 1 (.t 1))), (gQ 13 11 false [12] (.ld false 1 (.t 12))), (gQ 14 11 false [13] (.len (.t 13))), (gQ 15 11 false [14] (.call (kF 13) [(.t 14), (kI 3), (kI 16)])), (gQ 16 11 false [15] (.not (.t 15))), (cQ 17 [11,16] (.pick (.t 11) (kB true) (.t 16))), (cMv 18 17), (gQ 19 18 false [1] (.fad 2 (.t 1))), (gQ 20 18 false [19] (.ld false 1 (.t 19))), (gQ 21 18 false [20] (.call (kF 13) [(.t 20), (kI 0), (kI 20)])), (gQ 22 18 false [21] (.not (.t 21))), (cQ 23 [18,22] (.pick (.t 18) (kB true) (.t 22))), (cMv 24 23), (gQ 25 24 false [1] (.fad 3 (.t 1))), (gQ 26 24 false [25] (.ld false 1 (.t 25))), (gQ 27 24 false [26] (.len (.t 26))), (gQ 28 24 false [27] (.call (kF 13) [(.t 27), (kI 1), (kI 12)])), (gQ 29 24 false [28] (.not (.t 28))), (cQ 30 [24,29] (.pick (.t 24) (kB true) (.t 29))), (cMv 31 30), (gQ 32 31 false [1] (.fad 4 (.t 1))), (gQ 33 31 false [32] (.ld false 1 (.t 32))), (gQ 34 31 false [33] (.len (.t 33))), (gQ 35 31 false [1] (.fad 3 (.t 1))), (gQ 36 31 false [35] (.ld false 1 (.t 35))), (gQ 37 31 false [36] (.len (.t 36))), (gQ 38 31 false [34,37] (.bin .neq (.t 34) (.t 37))), (cQ 39 [31,38] (.pick (.t 31) (kB true) (.t 38))), (cMv 40 39), (gQ 41 40 false [1] (.fad 5 (.t 1))), (gQ 42 40 false [41] (.ld false 1 (.t 41))), (gQ 43 40 false [42] (.call (kF 13) [(.t 42), (kI 0), (kI 500)])), (gQ 44 40 false [43] (.not (.t 43))), (cQ 45 [40,44] (.pick (.t 40) (kB true) (.t 44)))]) (.keep [1,45] (.cond (.t 45) (.seq (.reg false [(cI 2 20)]) .ret) .skip))) (.keep [1] (.seq (.seq (.reg false [(cI 3 0)]) (.keep [1,3] (.block 0 (.loop [1,3] none (.seq (.seq (.reg false [(cMv 46 3), (cFa 47 1 1), (cLd 48 47 false 1), (cLn 49 48), (cB 50 .lss 46 49)]) (.keep [1,3,50] (.cond (.t 50) .skip (.exit 0)))) (.keep [1,3] (.seq (.block 1 (.seq (.any false 0 [⟨(cFa 53 1 1), [], []⟩, ⟨(cLd 54 53 false 1), [], [0]⟩, ⟨(cMv 55 3), [], []⟩, ⟨(cA 56 1 54 55), [], [1,0,2]⟩, ⟨(cLd 57 56 false 1), [], [3,1,0,2]⟩, ⟨(cFa 58 1 0), [], []⟩, ⟨(cLd 59 58 false 1), [], [5]⟩, ⟨(cLn 60 59), [], [6,5]⟩, ⟨(cC 61 .sub 60 1), [], [7,6,5]⟩, ⟨(cQ 62 [57,61] (.call (kF 13) [(.t 57), (kI 0), (.t 61)])), [], [4,3,1,0,2,8,7,6,5]⟩, ⟨(cN 63 62), [], [9,4,3,1,0,2,8,7,6,5]⟩]) (.keep [1,3,63] (.cond (.t 63) (.seq (.reg false [(cI 2 20)]) .ret) .skip)))) (.keep [1,3] (.reg false [(cMv 51 3), (cC 52 .add 51 1), (cMv 3 52)]))))))))) (.keep [1] (.seq (.seq (.reg false [(cI 4 0)]) (.keep [1,4] (.block 2 (.loop [1,4] none (.seq (.seq (.reg false [(cMv 64 4), (cFa 65 1 3), (cLd 66 65 false 1), (cLn 67 66), (cB 68 .lss 64 67)]) (.keep [1,4,68] (.cond (.t 68) .skip (.exit 2)))) (.keep [1,4] (.seq (.block 3 (.seq (.any true 0 [⟨(cFa 71 1 3), [], []⟩, ⟨(cLd 72 71 false 1), [], [0]⟩, ⟨(cMv 73 4), [], []⟩, ⟨(cA 74 2 72 73), [], [1,0,2]⟩, ⟨(cLd 75 74 true 2), [], [3,1,0,2]⟩, ⟨(cQ 76 [75] (.call (kF 14) [(.t 75), (kI 40000)])), [], [4,3,1,0,2]⟩, ⟨(cN 77 76), [], [5,4,3,1,0,2]⟩, ⟨(cMv 78 77), [], [6,5,4,3,1,0,2]⟩, ⟨(gQ 79 78 false [1] (.fad 4 (.t 1))), [], [7,6,5,4,3,1,0,2]⟩, ⟨(gQ 80 78 false [79] (.ld false 1 (.t 79))), [], [8,7,6,5,4,3,1,0,2]⟩, ⟨(gMv 81 78 false 4), [], [7,6,5,4,3,1,0,2]⟩, ⟨(gQ 82 78 false [80,81] (.iad 1 (.t 80) (.t 81))), [], [9,8,7,6,5,4,3,1,0,2,10]⟩, ⟨(gQ 83 78 false [82] (.ld false 1 (.t 82))), [], [11,9,8,7,6,5,4,3,1,0,2,10]⟩, ⟨(gQ 84 78 false [1] (.fad 2 (.t 1))), [], [7,6,5,4,3,1,0,2]⟩, ⟨(gQ 85 78 false [84] (.ld false 1 (.t 84))), [], [13,7,6,5,4,3,1,0,2]⟩, ⟨(gQ 86 78 false [85] (.bin .mul (kI 2) (.t 85))), [], [14,13,7,6,5,4,3,1,0,2]⟩, ⟨(gQ 87 78 false [83,86] (.call (kF 13) [(.t 83), (.t 86), (kI 2000)])), [], [12,11,9,8,7,6,5,4,3,1,0,2,10,15,14,13]⟩, ⟨(gQ 88 78 false [87] (.not (.t 87))), [], [16,12,11,9,8,7,6,5,4,3,1,0,2,10,15,14,13]⟩, ⟨(cQ 89 [78,88] (.pick (.t 78) (kB true) (.t 88))), [], [7,6,5,4,3,1,0,2,17,16,12,11,9,8,10,15,14,13]⟩]) (.keep [1,4,89] (.cond (.t 89) (.seq (.reg false [(cI 2 20)]) .ret) .skip)))) (.keep [1,4] (.reg false [(cMv 69 4), (cC 70 .add 69 1), (cMv 4 70)]))))))))) (.keep [1] (.seq (.seq (.reg false [(cI 5 0)]) (.keep [1,5] (.block 4 (.loop [1,5] none (.seq (.seq (.reg false [(cMv 90 5), (cFa 91 1 0), (cLd 92 91 false 1), (cLn 93 92), (cB 94 .lss 90 93)]) (.keep [1,5,94] (.cond (.t 94) .skip (.exit 4)))) (.keep [1,5] (.seq (.block 5 (.seq (.reg false [(cFa 97 1 0), (cLd 98 97 false 1), (cMv 99 5), (cA 100 4 98 99), (cLd 101 100 true 4), (cQ 102 [101] (.call (kF 15) [(.t 101)])), (cN 103 102)]) (.keep [1,5,103] (.cond (.t 103) (.seq (.reg false [(cI 2 21)]) .ret) .skip)))) (.keep [1,5] (.reg false [(cMv 95 5), (cC 96 .add 95 1), (cMv 5 96)]))))))))) (.keep [] (.seq (.reg false [(cI 2 0)]) .ret)))))))))))
def pu5 : List Nat := [1]
def rs5 : List RV := [.t 2]
theorem cc5 : CCx Try.prog Try.f5 pu5 rc5 := by unfold CCx; kernel_rfl
theorem cb5 : CBx Try.f5 := by unfold CBx; kernel_rfl
theorem cs5 : CSx Try.prog Try.f5 rs5 := by unfold CSx; kernel_rfl
theorem cn5 : 1 ≤ Try.f5.ntmps := by decide
def rc7 : RC := (.seq (.reg false [(cX 1 0), (cQ 2 [] (.mv (.k (.z 1)))), (cI 3 0)]) (.keep [1] (.seq (.reg false [(cLd 17 1 true 6), (cQ 18 [17] (.call (kF 20) [(.t 17), (kB true)])), (cMv 16 18), (cEx 19 16 0), (cEx 20 16 1), (cMv 4 19), (cMv 5 20)]) (.keep [1,4,5] (.seq (.seq (.reg false [(cMv 21 5), (cC 22 .neq 21 0)]) (.keep [1,4,5,22] (.cond (.t 22) (.seq (.reg false [(cMv 23 5), (cQ 2 [] (.mv (.k (.z 1)))), (cMv 3 23)]) .ret) .skip))) (.keep [1,4] (.seq (.reg false [(cQ 6 [] (.mv (.k (.z 2))))]) (.keep [1,4,6] (.seq (.seq (.reg false [(cFa 24 1 3), (cLd 25 24 false 1), (cLn 26 25), (cI 27 0)]) (.keep [1,4,6,26,27] (.block 0 (.own 6 2 (.loop [1,4,6,26,27] (some 1) (.seq (.reg false [(cB 28 .lss 27 26)]) (.keep [1,4,6,26,27,28] (.seq (.cond (.t 28) .skip (.exit 0)) (.keep [1,4,6,26,27] (.seq (.block 1 (.seq (.reg false [(cMv 29 27), (cMv 7 29)]) (.keep [1,4,6,7,26,27] (.seq (.reg false [(cMv 31 4), (cMv 32 7), (cQ 33 [31,32] (.call (kF 21) [(.t 31), (.t 32)])), (cMv 30 33), (cEx 34 30 0), (cEx 35 30 1), ⟨(some 8), none, [], none, .w (.alc [(.i 0), (.i 0)])⟩, ⟨none, none, [8,34], none, .w (.st 2 (.t 8) (.t 34))⟩, (cMv 9 35)]) (.keep [1,4,6,8,9,26,27] (.seq (.seq (.reg false [(cMv 36 9), (cN 37 36)]) (.keep [1,4,6,8,26,27,37] (.cond (.t 37) (.seq (.reg false [(cQ 2 [] (.mv (.k (.z 1)))), (cI 3 3)]) .ret) .skip))) (.keep [1,4,6,8,26,27] (.reg false [(cMv 38 6), (cLd 39 8 true 2), (cQ 40 [39] (.bsl 2 1 [(.i 0), (.i 0)] [(0,2, (.t 39))])), ⟨(some 41), none, [38,40], none, .w (.app 2 (.t 38) (.t 40))⟩, (cMv 6 41)])))))))) (.drp 1 (.keep [1,4,6,26,27] (.reg false [(cC 42 .add 27 1), (cMv 27 42)]))))))))))))) (.keep [1,6] (.seq (.reg false [(cQ 10 [] (.mv (.k (.z 1))))]) (.keep [1,6,10] (.seq (.seq (.reg false [(cMv 43 6), (cLn 44 43), (cI 45 0)]) (.keep [1,6,10,43,44,45] (.block 2 (.own 10 1 (.loop [1,6,10,43,44,45] (some 2) (.seq (.reg false [(cB 46 .lss 45 44)]) (.keep [1,6,10,43,44,45,46] (.seq (.cond (.t 46) .skip (.exit 2)) (.keep [1,6,10,43,44,45] (.seq (.block 3 (.seq (.reg false [(cMv 47 45), (cA 48 2 43 45), (cLd 49 48 true 2), ⟨(some 12), none, [], none, .w (.alc [(.i 0), (.i 0)])⟩, (cMv 11 47), ⟨none, none, [12,49], none, .w (.st 2 (.t 12) (.t 49))⟩]) (.keep [1,6,10,11,12,43,44,45] (.seq (.reg false [(cFa 50 12 0), (cLd 51 50 false 1), (cMv 13 51)]) (.keep [1,6,10,11,12,13,43,44,45] (.seq (.seq (.reg false [(cMv 52 6), (cLn 53 52), (cI 54 0)]) (.keep [1,6,10,11,12,13,43,44,45,52,53,54] (.block 4 (.loop [1,6,10,11,12,13,43,44,45,52,53,54] (some 3) (.seq (.reg false [(cB 55 .lss 54 53)]) (.keep [1,6,10,11,12,13,43,44,45,52,53,54,55] (.seq (.cond (.t 55) .skip (.exit 4)) (.keep [1,6,10,11,12,13,43,44,45,52,53,54] (.seq (.block 5 (.seq (.reg false [(cMv 56 54), (cA 57 2 52 54), (cLd 58 57 true 2), ⟨(some 15), none, [], none, .w (.alc [(.i 0), (.i 0)])⟩, (cMv 14 56), ⟨none, none, [15,58], none, .w (.st 2 (.t 15) (.t 58))⟩]) (.keep [1,6,10,11,12,13,14,15,43,44,45,52,53,54] (.reg false [(cMv 59 13), (cFa 60 15 0), (cLd 61 60 false 1), (cFa 62 1 5), (cLd 63 62 false 1), (cMv 64 11), (cMv 65 14), (cB 66 .sub 64 65), (cMv 67 14), (cMv 68 11), (cB 69 .sub 67 68), (cQ 70 [66,69] (.mx (.t 66) (.t 69))), (cB 71 .mul 63 70), (cB 72 .sub 61 71), (cQ 73 [59,72] (.mx (.t 59) (.t 72))), (cMv 13 73)])))) (.drp 3 (.keep [1,6,10,11,12,13,43,44,45,52,53,54] (.reg false [(cC 74 .add 54 1), (cMv 54 74)])))))))))))) (.keep [1,6,10,12,13,43,44,45] (.seq (.seq (.reg false [(cMv 75 13), (cFa 76 12 1), (cLd 77 76 false 1), (cB 78 .gtr 75 77)]) (.keep [1,6,10,13,43,44,45,78] (.cond (.t 78) (.seq (.reg false [(cQ 2 [] (.mv (.k (.z 1)))), (cI 3 3)]) .ret) .skip))) (.keep [1,6,10,13,43,44,45] (.reg false [(cMv 79 10), (cMv 80 13), (cQ 81 [80] (.bsl 1 1 [(.i 0)] [(0,1, (.t 80))])), ⟨(some 82), none, [79,81], none, .w (.app 1 (.t 79) (.t 81))⟩, (cMv 10 82)])))))))))) (.drp 2 (.keep [1,6,10,43,44,45] (.reg false [(cC 83 .add 45 1), (cMv 45 83)]))))))))))))) (.keep [10] (.seq (.reg false [(cMv 84 10), (cMv 2 84), (cI 3 0)]) .ret)))))))))))))))
def pu7 : List Nat := [1,40,81]
def rs7 : List RV := [.t 2, .t 3]
theorem cc7 : CCx Try.prog Try.f7 pu7 rc7 := by unfold CCx; kernel_rfl
theorem cb7 : CBx Try.f7 := by unfold CBx; kernel_rfl
theorem cs7 : CSx Try.prog Try.f7 rs7 := by unfold CSx; kernel_rfl
theorem cn7 : 1 ≤ Try.f7.ntmps := by decide
def rc12 : RC := (.seq (.reg false [(cX 2 0), (cQ 4 [] (.mv (kB false)))]) (.keep [1,2] (.seq (.any true 0 [⟨(cMv 5 1), [], []⟩, ⟨(cFa 6 2 0), [], []⟩, ⟨(cFa 7 6 0), [], [1]⟩, ⟨(cLd 8 7 false 1), [], [2,1]⟩, ⟨(cFa 9 2 0), [], []⟩, ⟨(cFa 10 9 1), [], [4]⟩, ⟨(cLd 11 10 false 1), [], [5,4]⟩, ⟨(cQ 12 [5,8,11] (.call (kF 13) [(.t 5), (.t 8), (.t 11)])), [], [0,3,2,1,6,5,4]⟩, ⟨(cMv 13 12), [], [7,0,3,2,1,6,5,4]⟩, ⟨(gQ 14 13 true [2] (.ld true 4 (.t 2))), [], [8,7,0,3,2,1,6,5,4]⟩, ⟨(gMv 15 13 true 1), [], [8,7,0,3,2,1,6,5,4]⟩, ⟨(gQ 16 13 true [14,15] (.call (kF 28) [(.t 14), (.t 15)])), [], [9,8,7,0,3,2,1,6,5,4,10]⟩, ⟨(gQ 17 13 true [2] (.fad 3 (.t 2))), [], [8,7,0,3,2,1,6,5,4]⟩, ⟨(gQ 18 13 true [17] (.ld false 1 (.t 17))), [], [12,8,7,0,3,2,1,6,5,4]⟩, ⟨(gQ 19 13 true [16,18] (.bin .leq (.t 16) (.t 18))), [], [11,9,8,7,0,3,2,1,6,5,4,10,13,12]⟩, ⟨(cQ 20 [13,19] (.pick (.t 13) (.t 19) (kB false))), [], [8,7,0,3,2,1,6,5,4,14,11,9,10,13,12]⟩, ⟨(cMv 4 20), [], [15,8,7,0,3,2,1,6,5,4,14,11,9,10,13,12]⟩]) .ret)))
def pu12 : List Nat := [2]
def rs12 : List RV := [.t 4]
theorem cc12 : CCx Try.prog Try.f12 pu12 rc12 := by unfold CCx; kernel_rfl
theorem cb12 : CBx Try.f12 := by unfold CBx; kernel_rfl
theorem cs12 : CSx Try.prog Try.f12 rs12 := by unfold CSx; kernel_rfl
theorem cn12 : 2 ≤ Try.f12.ntmps := by decide
def rc13 : RC := (.seq (.reg false [(cQ 6 [] (.mv (kB false)))]) (.keep [0,1,2] (.seq (.reg true [(cMv 7 0), (cMv 8 1), (cB 9 .geq 7 8), (cMv 10 9), (gMv 11 10 true 0), (gMv 12 10 true 2), (gQ 13 10 true [11,12] (.bin .leq (.t 11) (.t 12))), (cQ 14 [10,13] (.pick (.t 10) (.t 13) (kB false))), (cMv 6 14)]) .ret)))
def pu13 : List Nat := []
def rs13 : List RV := [.t 6]
theorem cc13 : CCx Try.prog Try.f13 pu13 rc13 := by unfold CCx; kernel_rfl
theorem cb13 : CBx Try.f13 := by unfold CBx; kernel_rfl
theorem cs13 : CSx Try.prog Try.f13 rs13 := by unfold CSx; kernel_rfl
theorem cn13 : 3 ≤ Try.f13.ntmps := by decide
def rc14 : RC := (.seq (.reg false [(cX 2 0), (cQ 4 [] (.mv (kB false)))]) (.keep [1,2] (.seq (.reg true [(cFa 5 2 0), (cLd 6 5 false 1), (cQ 7 [6] (.bin .leq (kI 0) (.t 6))), (cMv 8 7), (gQ 9 8 true [2] (.fad 0 (.t 2))), (gQ 10 8 true [9] (.ld false 1 (.t 9))), (gQ 11 8 true [2] (.fad 1 (.t 2))), (gQ 12 8 true [11] (.ld false 1 (.t 11))), (gQ 13 8 true [10,12] (.bin .leq (.t 10) (.t 12))), (cQ 14 [8,13] (.pick (.t 8) (.t 13) (kB false))), (cMv 15 14), (gQ 16 15 true [2] (.fad 1 (.t 2))), (gQ 17 15 true [16] (.ld false 1 (.t 16))), (gMv 18 15 true 1), (gQ 19 15 true [17,18] (.bin .leq (.t 17) (.t 18))), (cQ 20 [15,19] (.pick (.t 15) (.t 19) (kB false))), (cMv 4 20)]) .ret)))
def pu14 : List Nat := [2]
def rs14 : List RV := [.t 4]
theorem cc14 : CCx Try.prog Try.f14 pu14 rc14 := by unfold CCx; kernel_rfl
theorem cb14 : CBx Try.f14 := by unfold CBx; kernel_rfl
theorem cs14 : CSx Try.prog Try.f14 rs14 := by unfold CSx; kernel_rfl
theorem cn14 : 2 ≤ Try.f14.ntmps := by decide
def rc15 : RC := (.seq (.reg false [(cX 1 0), (cQ 2 [] (.mv (kB false)))]) (.keep [1] (.seq (.seq (.reg true [(cFa 4 1 0), (cLd 5 4 true 2), (cQ 6 [5] (.call (kF 14) [(.t 5), (kI 60)])), (cN 7 6), (cMv 8 7), (gQ 9 8 false [1] (.fad 2 (.t 1))), (gQ 10 8 false [9] (.ld false 1 (.t 9))), (gQ 11 8 false [10] (.len (.t 10))), (gQ 12 8 false [11] (.bin .gtr (.t 11) (kI 8))), (cQ 13 [8,12] (.pick (.t 8) (kB true) (.t 12))), (cMv 14 13), (gQ 15 14 false [1] (.fad 3 (.t 1))), (gQ 16 14 false [15] (.ld false 1 (.t 15))), (gQ 17 14 false [16] (.call (kF 13) [(.t 16), (kI 0), (kI 2)])), (gQ 18 14 false [17] (.not (.t 17))), (cQ 19 [14,18] (.pick (.t 14) (kB true) (.t 18)))]) (.keep [1,19] (.cond (.t 19) (.seq (.reg false [(cQ 2 [] (.mv (kB false)))]) .ret) .skip))) (.keep [1] (.seq (.seq (.reg false [(cI 3 0)]) (.keep [1,3] (.block 0 (.loop [1,3] none (.seq (.seq (.reg false [(cMv 20 3), (cFa 21 1 2), (cLd 22 21 false 1), (cLn 23 22), (cB 24 .lss 20 23)]) (.keep [1,3,24] (.cond (.t 24) .skip (.exit 0)))) (.keep [1,3] (.seq (.block 1 (.seq (.reg true [(cFa 27 1 2), (cLd 28 27 false 1), (cMv 29 3), (cA 30 3 28 29), (cFa 31 30 0), (cLd 32 31 false 1), (cQ 33 [32] (.call (kF 13) [(.t 32), (kI 1), (kI 2000)])), (cN 34 33), (cMv 35 34), (gQ 36 35 false [1] (.fad 2 (.t 1))), (gQ 37 35 false [36] (.ld false 1 (.t 36))), (gMv 38 35 false 3), (gQ 39 35 false [37,38] (.iad 3 (.t 37) (.t 38))), (gQ 40 35 false [39] (.fad 1 (.t 39))), (gQ 41 35 false [40] (.ld true 2 (.t 40))), (gQ 42 35 false [41] (.call (kF 14) [(.t 41), (kI 4000)])), (gQ 43 35 false [42] (.not (.t 42))), (cQ 44 [35,43] (.pick (.t 35) (kB true) (.t 43)))]) (.keep [1,3,44] (.cond (.t 44) (.seq (.reg false [(cQ 2 [] (.mv (kB false)))]) .ret) .skip)))) (.keep [1,3] (.reg false [(cMv 25 3), (cC 26 .add 25 1), (cMv 3 26)]))))))))) (.keep [] (.seq (.reg false [(cQ 2 [] (.mv (kB true)))]) .ret)))))))
def pu15 : List Nat := [1]
def rs15 : List RV := [.t 2]
theorem cc15 : CCx Try.prog Try.f15 pu15 rc15 := by unfold CCx; kernel_rfl
theorem cb15 : CBx Try.f15 := by unfold CBx; kernel_rfl
theorem cs15 : CSx Try.prog Try.f15 rs15 := by unfold CSx; kernel_rfl
theorem cn15 : 1 ≤ Try.f15.ntmps := by decide
def rc16 : RC := (.seq (.reg false [(cX 2 0), ⟨(some 4), none, [], none, .w (.alc [(.i 0), (.i 0)])⟩, (cI 5 0)]) (.keep [1,2,4] (.seq (.any false 0 [⟨(cLd 9 2 true 6), [], []⟩, ⟨(cLd 10 2 true 6), [], []⟩, ⟨(cMv 11 1), [], []⟩, ⟨(cQ 12 [10,11] (.call (kF 29) [(.t 10), (.t 11)])), [], [1,2]⟩, ⟨(cQ 13 [9,12] (.call (kF 20) [(.t 9), (.t 12)])), [], [0,3,1,2]⟩, ⟨(cMv 8 13), [], [4,0,3,1,2]⟩, ⟨(cEx 14 8 0), [], [5,4,0,3,1,2]⟩, ⟨(cEx 15 8 1), [], [5,4,0,3,1,2]⟩, ⟨(cMv 6 14), [], [6,5,4,0,3,1,2]⟩, ⟨(cMv 7 15), [], [7,5,4,0,3,1,2,8,6]⟩]) (.keep [1,2,4,6,7] (.seq (.seq (.reg false [(cMv 16 7), (cC 17 .neq 16 0)]) (.keep [1,2,4,6,7,17] (.cond (.t 17) (.seq (.reg false [(cQ 18 [] (.bld [(.i 0), (.i 0)] [])), (cMv 19 7), ⟨none, none, [4,18], none, .w (.st 2 (.t 4) (.t 18))⟩, (cMv 5 19)]) .ret) .skip))) (.keep [1,2,4,6] (.seq (.reg false [(cMv 20 6), (cFa 21 2 4), (cLd 22 21 false 1), (cMv 23 1), (cA 24 1 22 23), (cLd 25 24 false 1), (cQ 26 [20,25] (.call (kF 30) [(.t 20), (.t 25)])), ⟨none, none, [4,26], none, .w (.st 2 (.t 4) (.t 26))⟩, (cI 5 0)]) .ret)))))))
def pu16 : List Nat := [2]
def rs16 : List RV := [.c 4 true 2, .t 5]
theorem cc16 : CCx Try.prog Try.f16 pu16 rc16 := by unfold CCx; kernel_rfl
theorem cb16 : CBx Try.f16 := by unfold CBx; kernel_rfl
theorem cs16 : CSx Try.prog Try.f16 rs16 := by unfold CSx; kernel_rfl
theorem cn16 : 2 ≤ Try.f16.ntmps := by decide
def rc17 : RC := (.seq (.reg false [⟨(some 0), none, [], none, .w (.alc [(.z 4), (.z 1), (.i 0), (.z 2), (.z 1), (.i 0)])⟩]) (.keep [0] (.seq (.reg false [(cQ 1 [] (.bld [(.i 0), (.i 0)] [(1,1, (kI 20))])), (cQ 2 [] (.bld [(.i 0), (.i 0)] [(0,1, (kI 1005)), (1,1, (kI 1010))])), (cQ 3 [2] (.bld [(.i 0), (.i 0), (.i 0)] [(0,1, (kI 1000)), (1,2, (.t 2))])), (cQ 4 [3] (.bsl 3 1 [(.i 0), (.i 0), (.i 0)] [(0,3, (.t 3))])), (cQ 5 [1,4] (.bld [(.i 0), (.i 0), (.z 3), (.i 0)] [(0,2, (.t 1)), (2,1, (.t 4))])), (cQ 6 [] (.bld [(.i 0), (.i 0)] [(1,1, (kI 10))])), (cQ 7 [6] (.bld [(.i 0), (.i 0), (.z 3), (.i 0)] [(0,2, (.t 6))])), (cQ 8 [5,7] (.bsl 4 2 [(.i 0), (.i 0), (.z 3), (.i 0)] [(0,4, (.t 5)), (4,4, (.t 7))])), (cQ 9 [] (.bsl 1 4 [(.i 0)] [(0,1, (kI 0)), (1,1, (kI 0)), (2,1, (kI 1)), (3,1, (kI 1))])), (cQ 10 [] (.bld [(.i 0), (.i 0)] [(0,1, (kI 400)), (1,1, (kI 404))])), (cQ 11 [] (.bld [(.i 0), (.i 0)] [(0,1, (kI 600)), (1,1, (kI 650))])), (cQ 12 [] (.bld [(.i 0), (.i 0)] [(0,1, (kI 803)), (1,1, (kI 806))])), ⟨(some 13), none, [10,11,12], none, .w (.bso 2 3 [(.i 0), (.i 0)] [(0,2, (.t 10)), (2,2, (.t 11)), (4,2, (.t 12))])⟩, (cQ 14 [] (.bsl 1 3 [(.i 0)] [(0,1, (kI 110)), (1,1, (kI 165)), (2,1, (kI 210))])), (cQ 15 [8,9,13,14] (.bld [(.z 4), (.z 1), (.i 0), (.z 2), (.z 1), (.i 0)] [(0,1, (.t 8)), (1,1, (.t 9)), (2,1, (kI 5)), (3,1, (.t 13)), (4,1, (.t 14)), (5,1, (kI 50))])), ⟨none, none, [0,15], none, .w (.st 6 (.t 0) (.t 15))⟩]) .ret)))
def pu17 : List Nat := [4,8,9,14]
def rs17 : List RV := [.c 0 true 6]
theorem cc17 : CCx Try.prog Try.f17 pu17 rc17 := by unfold CCx; kernel_rfl
theorem cb17 : CBx Try.f17 := by unfold CBx; kernel_rfl
theorem cs17 : CSx Try.prog Try.f17 rs17 := by unfold CSx; kernel_rfl
theorem cn17 : 0 ≤ Try.f17.ntmps := by decide
def rc20 : RC := (.seq (.reg false [(cX 2 0), (cQ 4 [] (.mv (.k .pn))), (cI 5 0)]) (.keep [1,2,31] (.seq (.seq (.reg false [(cLd 12 2 true 6), (cQ 13 [12] (.call (kF 33) [(.t 12)])), (cMv 6 13)]) (.keep [1,2,6,31] (.seq (.reg false [(cMv 14 6), (cC 15 .neq 14 0)]) (.keep [1,2,6,15,31] (.cond (.t 15) (.seq (.reg false [(cMv 16 6), (cQ 4 [] (.mv (.k .pn))), (cMv 5 16)]) .ret) .skip))))) (.keep [1,2,31] (.seq (.seq (.reg false [(cMv 17 1), (cN 18 17)]) (.keep [2,18,31] (.cond (.t 18) (.seq (.reg false [(cQ 4 [] (.mv (.k .pn))), (cI 5 1)]) .ret) .skip))) (.keep [2,31] (.seq (.reg false [(cLd 19 2 true 6), (cQ 20 [19] (.bld [(.z 4), (.z 1), (.i 0), (.z 2), (.z 1), (.i 0), (.z 1)] [(0,6, (.t 19))])), ⟨(some 21), none, [20], none, .w (.bxo (.t 20))⟩, (cMv 7 21)]) (.keep [2,7,31] (.seq (.seq (.reg false [(cFa 22 2 0), (cLd 23 22 false 1), (cLn 24 23), (cI 25 0)]) (.keep [7,23,24,25,31] (.block 0 (.ownc 7 6 1 (.loop [7,23,24,25,31] (some 2) (.seq (.reg false [(cB 26 .lss 25 24)]) (.keep [7,23,24,25,26,31] (.seq (.cond (.t 26) .skip (.exit 0)) (.keep [7,23,24,25,31] (.seq (.block 1 (.seq (.reg false [(cA 27 4 23 25), (cLd 28 27 true 4), ⟨(some 9), none, [], none, .w (.alc [(.i 0), (.i 0), (.z 3), (.i 0)])⟩, ⟨none, none, [9,28], none, .w (.st 4 (.t 9) (.t 28))⟩]) (.keep [7,9,23,24,25,31] (.seq (.reg false [⟨(some 10), none, [], none, .w (.alc [(.z 1)])⟩]) (.keep [7,9,10,23,24,25,31] (.seq (.seq (.reg false [(cLd 29 9 true 4), (cQ 30 [29] (.call (kF 34) [(.t 29)]))]) (.keep [7,9,10,23,24,25,30,31] (.block 2 (.ownc 10 0 1 (.rfn (.t 30) [31] 5 (.reg false [(cMv 11 31)]) (.block 3 (.seq (.any false 0 [⟨(cLd 32 9 true 4), [], []⟩, ⟨(cMv 33 11), [], []⟩, ⟨(cQ 34 [32,33] (.call (kF 35) [(.t 32), (.t 33)])), [], [0,1]⟩, ⟨(cFa 35 9 3), [], []⟩, ⟨(cLd 36 35 false 1), [], [3]⟩, ⟨(cB 37 .leq 34 36), [], [2,0,1,4,3]⟩]) (.keep [10,11,37] (.cond (.t 37) (.reg false [(cLd 38 10 false 1), (cMv 39 11), (cQ 40 [39] (.bsl 1 1 [(.i 0)] [(0,1, (.t 39))])), ⟨(some 41), none, [38,40], none, .w (.app 1 (.t 38) (.t 40))⟩, ⟨none, none, [10,41], none, .w (.st 1 (.t 10) (.t 41))⟩]) .skip))))))))) (.keep [7,10,23,24,25,31] (.seq (.seq (.reg false [(cLd 42 10 false 1), (cLn 43 42), (cC 44 .eql 43 0)]) (.keep [7,10,23,24,25,31,44] (.cond (.t 44) (.seq (.reg false [(cQ 4 [] (.mv (.k .pn))), (cI 5 3)]) .ret) .skip))) (.keep [7,10,23,24,25,31] (.drp 2 (.any false 1 [⟨(cMv 45 7), [], []⟩, ⟨(cMv 46 7), [], []⟩, ⟨(cZ 47 46), [], [1]⟩, ⟨(cFa 48 47 6), [], [2,1]⟩, ⟨(cLd 49 48 false 1), [], [3,2,1]⟩, ⟨(cLd 50 10 false 1), [], []⟩, ⟨(cQ 51 [50] (.bsl 1 1 [(.z 1)] [(0,1, (.t 50))])), [], [5]⟩, ⟨⟨(some 52), none, [49,51], (some 0), .w (.app 1 (.t 49) (.t 51))⟩, [0], [4,3,2,1,6,5]⟩, ⟨(cZ 53 45), [], [0,1,2,3,4,5,6,7]⟩, ⟨(cFa 54 53 6), [], [8,0,1,2,3,4,5,6,7]⟩, ⟨⟨none, none, [54,52], none, .w (.st 1 (.t 54) (.t 52))⟩, [], [9,8,0,1,2,3,4,5,6,7]⟩]))))))))))) (.drp 2 (.keep [7,23,24,25,31] (.reg false [(cC 55 .add 25 1), (cMv 25 55)]))))))))))))) (.keep [7] (.seq (.reg false [(cMv 56 7), (cMv 4 56), (cI 5 0)]) .ret)))))))))))
def pu20 : List Nat := [2,40,51]
def rs20 : List RV := [.t 4, .t 5]
theorem cc20 : CCx Try.prog Try.f20 pu20 rc20 := by unfold CCx; kernel_rfl
theorem cb20 : CBx Try.f20 := by unfold CBx; kernel_rfl
theorem cs20 : CSx Try.prog Try.f20 rs20 := by unfold CSx; kernel_rfl
theorem cn20 : 2 ≤ Try.f20.ntmps := by decide
def rc21 : RC := (.seq (.reg false [⟨(some 4), none, [], none, .w (.alc [(.i 0), (.i 0)])⟩, (cQ 5 [] (.mv (kB false)))]) (.keep [0,1,4,5] (.seq (.reg false [(cMv 9 0), (cZ 10 9), (cFa 11 10 0), (cFa 12 11 3), (cLd 13 12 false 1), (cMv 14 1), (cA 15 2 13 14), (cLd 16 15 true 2), ⟨(some 6), none, [], none, .w (.alc [(.i 0), (.i 0)])⟩, ⟨none, none, [6,16], none, .w (.st 2 (.t 6) (.t 16))⟩]) (.keep [0,4,5,6] (.seq (.seq (.reg false [(cMv 17 0), (cZ 18 17), (cFa 19 18 0), (cFa 20 19 2), (cLd 21 20 false 1), (cQ 22 [21] (.bin .mul (kI 2) (.t 21))), (cMv 7 22)]) (.keep [0,4,5,6,7] (.block 0 (.loop [0,4,5,6,7] (some 2) (.seq (.seq (.reg false [(cMv 23 7), (cC 24 .leq 23 2000)]) (.keep [0,4,5,6,7,24] (.cond (.t 24) .skip (.exit 0)))) (.keep [0,4,5,6,7] (.seq (.block 1 (.seq (.seq (.reg false [(cMv 27 0), (cMv 28 7), (cQ 29 [27,28] (.call (kF 30) [(.t 27), (.t 28)])), ⟨(some 8), none, [], none, .w (.alc [(.i 0), (.i 0)])⟩, ⟨none, none, [8,29], none, .w (.st 2 (.t 8) (.t 29))⟩]) (.keep [0,4,5,6,7,8] (.seq (.reg true [(cFa 30 8 0), (cLd 31 30 false 1), (cFa 32 6 0), (cLd 33 32 false 1), (cB 34 .lss 31 33), (cMv 35 34), (gQ 36 35 false [8] (.fad 1 (.t 8))), (gQ 37 35 false [36] (.ld false 1 (.t 36))), (gQ 38 35 false [6] (.fad 1 (.t 6))), (gQ 39 35 false [38] (.ld false 1 (.t 38))), (gQ 40 35 false [37,39] (.bin .gtr (.t 37) (.t 39))), (cQ 41 [35,40] (.pick (.t 35) (kB true) (.t 40)))]) (.keep [0,4,5,6,7,41] (.cond (.t 41) (.exit 1) .skip))))) (.keep [0,4,5,6,7] (.seq (.seq (.reg false [(cMv 42 5), (cN 43 42)]) (.keep [0,4,6,7,43] (.cond (.t 43) (.reg false [(cMv 44 7), (cFa 45 4 0), ⟨none, none, [45,44], none, .w (.st 1 (.t 45) (.t 44))⟩]) .skip))) (.keep [0,4,6,7] (.reg false [(cMv 46 7), (cFa 47 4 1), ⟨none, none, [47,46], none, .w (.st 1 (.t 47) (.t 46))⟩, (cQ 5 [] (.mv (kB true)))])))))) (.drp 2 (.keep [0,4,5,6,7] (.reg false [(cMv 25 7), (cC 26 .add 25 1), (cMv 7 26)])))))))))) (.keep [4,5] (.seq (.reg false [(cLd 48 4 true 2), (cMv 49 5), ⟨none, none, [4,48], none, .w (.st 2 (.t 4) (.t 48))⟩, (cMv 5 49)]) .ret)))))))
def pu21 : List Nat := []
def rs21 : List RV := [.c 4 true 2, .t 5]
theorem cc21 : CCx Try.prog Try.f21 pu21 rc21 := by unfold CCx; kernel_rfl
theorem cb21 : CBx Try.f21 := by unfold CBx; kernel_rfl
theorem cs21 : CSx Try.prog Try.f21 rs21 := by unfold CSx; kernel_rfl
theorem cn21 : 2 ≤ Try.f21.ntmps := by decide
def rc28 : RC := (.seq (.reg false [(cX 2 0), (cI 4 0)]) (.keep [1,2] (.seq (.reg false [(cI 5 0)]) (.keep [1,2,5] (.seq (.seq (.reg false [(cI 6 0)]) (.keep [1,2,5,6] (.block 0 (.loop [1,2,5,6] none (.seq (.seq (.reg false [(cMv 7 6), (cFa 8 2 2), (cLd 9 8 false 1), (cLn 10 9), (cB 11 .lss 7 10)]) (.keep [1,2,5,6,11] (.cond (.t 11) .skip (.exit 0)))) (.keep [1,2,5,6] (.seq (.block 1 (.seq (.any false 0 [⟨(cFa 14 2 2), [], []⟩, ⟨(cLd 15 14 false 1), [], [0]⟩, ⟨(cMv 16 6), [], []⟩, ⟨(cA 17 3 15 16), [], [1,0,2]⟩, ⟨(cFa 18 17 0), [], [3,1,0,2]⟩, ⟨(cLd 19 18 false 1), [], [4,3,1,0,2]⟩, ⟨(cMv 20 1), [], []⟩, ⟨(cQ 21 [19,20] (.call (kF 43) [(.t 19), (.t 20)])), [], [5,4,3,1,0,2,6]⟩, ⟨(cFa 22 2 2), [], []⟩, ⟨(cLd 23 22 false 1), [], [8]⟩, ⟨(cMv 24 6), [], []⟩, ⟨(cA 25 3 23 24), [], [9,8,10]⟩, ⟨(cFa 26 25 1), [], [11,9,8,10]⟩, ⟨(cFa 27 26 0), [], [12,11,9,8,10]⟩, ⟨(cLd 28 27 false 1), [], [13,12,11,9,8,10]⟩, ⟨(cFa 29 2 2), [], []⟩, ⟨(cLd 30 29 false 1), [], [15]⟩, ⟨(cMv 31 6), [], []⟩, ⟨(cA 32 3 30 31), [], [16,15,17]⟩, ⟨(cFa 33 32 1), [], [18,16,15,17]⟩, ⟨(cFa 34 33 1), [], [19,18,16,15,17]⟩, ⟨(cLd 35 34 false 1), [], [20,19,18,16,15,17]⟩, ⟨(cQ 36 [21,28,35] (.call (kF 13) [(.t 21), (.t 28), (.t 35)])), [], [7,5,4,3,1,0,2,6,14,13,12,11,9,8,10,21,20,19,18,16,15,17]⟩, ⟨(cN 37 36), [], [22,7,5,4,3,1,0,2,6,14,13,12,11,9,8,10,21,20,19,18,16,15,17]⟩]) (.keep [1,2,5,6,37] (.cond (.t 37) (.reg false [(cMv 38 5), (cC 39 .add 38 1), (cMv 5 39)]) .skip)))) (.keep [1,2,5,6] (.reg false [(cMv 12 6), (cC 13 .add 12 1), (cMv 6 13)]))))))))) (.keep [5] (.seq (.reg false [(cMv 40 5), (cMv 4 40)]) .ret)))))))
def pu28 : List Nat := [2]
def rs28 : List RV := [.t 4]
theorem cc28 : CCx Try.prog Try.f28 pu28 rc28 := by unfold CCx; kernel_rfl
theorem cb28 : CBx Try.f28 := by unfold CBx; kernel_rfl
theorem cs28 : CSx Try.prog Try.f28 rs28 := by unfold CSx; kernel_rfl
theorem cn28 : 2 ≤ Try.f28.ntmps := by decide
def rc29 : RC := (.seq (.reg false [(cX 2 0), (cQ 4 [] (.mv (kB false)))]) (.keep [1,2] (.seq (.reg false [(cMv 5 1), (cFa 6 2 3), (cLd 7 6 false 1), (cLn 8 7), (cC 9 .sub 8 1), (cQ 10 [5,9] (.call (kF 44) [(.t 5), (kI 0), (.t 9)])), (cMv 4 10)]) .ret)))
def pu29 : List Nat := [2]
def rs29 : List RV := [.t 4]
theorem cc29 : CCx Try.prog Try.f29 pu29 rc29 := by unfold CCx; kernel_rfl
theorem cb29 : CBx Try.f29 := by unfold CBx; kernel_rfl
theorem cs29 : CSx Try.prog Try.f29 rs29 := by unfold CSx; kernel_rfl
theorem cn29 : 2 ≤ Try.f29.ntmps := by decide
def rc30 : RC := (.seq (.reg false [⟨(some 4), none, [], none, .w (.alc [(.i 0), (.i 0)])⟩]) (.keep [0,1,4] (.seq (.seq (.reg false [(cMv 8 0), (cZ 9 8), (cFa 10 9 0), (cFa 11 10 1), (cLd 12 11 false 1), (cLn 13 12), (cI 14 0)]) (.keep [0,1,4,12,13,14] (.block 0 (.loop [0,1,4,12,13,14] none (.seq (.reg false [(cB 15 .lss 14 13)]) (.keep [0,1,4,12,13,14,15] (.seq (.cond (.t 15) .skip (.exit 0)) (.keep [0,1,4,12,13,14] (.seq (.block 1 (.seq (.reg false [(cA 16 1 12 14), (cLd 17 16 false 1), (cMv 6 17)]) (.keep [0,1,4,6,12,13,14] (.seq (.reg false [(cMv 18 0), (cZ 19 18), (cFa 20 19 6), (cLd 21 20 false 1), (cMv 22 6), (cA 23 1 21 22), (cLd 24 23 false 1), (cMv 7 24)]) (.keep [0,1,4,7,12,13,14] (.seq (.any false 0 [⟨(cFa 25 4 0), [], []⟩, ⟨(cLd 26 25 false 1), [], [0]⟩, ⟨(cMv 27 1), [], []⟩, ⟨(cMv 28 0), [], []⟩, ⟨(cZ 29 28), [], [3]⟩, ⟨(cFa 30 29 0), [], [4,3]⟩, ⟨(cFa 31 30 2), [], [5,4,3]⟩, ⟨(cLd 32 31 false 1), [], [6,5,4,3]⟩, ⟨(cQ 33 [32] (.bin .mul (kI 2) (.t 32))), [], [7,6,5,4,3]⟩, ⟨(cB 34 .sub 27 33), [], [2,8,7,6,5,4,3]⟩, ⟨(cMv 35 7), [], []⟩, ⟨(cQ 36 [35] (.iad 1 (.t 35) (kI 0))), [], [10]⟩, ⟨(cLd 37 36 false 1), [], [11,10]⟩, ⟨(cQ 38 [34,37] (.call (kF 45) [(.t 34), (.t 37)])), [], [9,2,8,7,6,5,4,3,12,11,10]⟩, ⟨(cB 39 .add 26 38), [], [1,0,13,9,2,8,7,6,5,4,3,12,11,10]⟩, ⟨(cFa 40 4 0), [], [0,1,2,3,4,5,6,7,8,9,10,11,12,13,14]⟩, ⟨⟨none, none, [40,39], none, .w (.st 1 (.t 40) (.t 39))⟩, [], [15,0,1,2,3,4,5,6,7,8,9,10,11,12,13,14]⟩]) (.keep [0,1,4,7,12,13,14] (.any false 0 [⟨(cFa 41 4 1), [], []⟩, ⟨(cLd 42 41 false 1), [], [0]⟩, ⟨(cMv 43 1), [], []⟩, ⟨(cMv 44 0), [], []⟩, ⟨(cZ 45 44), [], [3]⟩, ⟨(cFa 46 45 0), [], [4,3]⟩, ⟨(cFa 47 46 2), [], [5,4,3]⟩, ⟨(cLd 48 47 false 1), [], [6,5,4,3]⟩, ⟨(cQ 49 [48] (.bin .mul (kI 2) (.t 48))), [], [7,6,5,4,3]⟩, ⟨(cB 50 .sub 43 49), [], [2,8,7,6,5,4,3]⟩, ⟨(cMv 51 7), [], []⟩, ⟨(cMv 52 7), [], []⟩, ⟨(cLn 53 52), [], [11]⟩, ⟨(cC 54 .sub 53 1), [], [12,11]⟩, ⟨(cA 55 1 51 54), [], [10,13,12,11]⟩, ⟨(cLd 56 55 false 1), [], [14,10,13,12,11]⟩, ⟨(cQ 57 [50,56] (.call (kF 45) [(.t 50), (.t 56)])), [], [9,2,8,7,6,5,4,3,15,14,10,13,12,11]⟩, ⟨(cB 58 .add 42 57), [], [1,0,16,9,2,8,7,6,5,4,3,15,14,10,13,12,11]⟩, ⟨(cFa 59 4 1), [], [0,1,2,3,4,5,6,7,8,9,10,11,12,13,14,15,16,17]⟩, ⟨⟨none, none, [59,58], none, .w (.st 1 (.t 59) (.t 58))⟩, [], [18,0,1,2,3,4,5,6,7,8,9,10,11,12,13,14,15,16,17]⟩])))))))) (.keep [0,1,4,12,13,14] (.reg false [(cC 60 .add 14 1), (cMv 14 60)]))))))))))) (.keep [4] (.seq (.reg false [(cLd 61 4 true 2), ⟨none, none, [4,61], none, .w (.st 2 (.t 4) (.t 61))⟩]) .ret)))))
def pu30 : List Nat := []
def rs30 : List RV := [.c 4 true 2]
theorem cc30 : CCx Try.prog Try.f30 pu30 rc30 := by unfold CCx; kernel_rfl
theorem cb30 : CBx Try.f30 := by unfold CBx; kernel_rfl
theorem cs30 : CSx Try.prog Try.f30 rs30 := by unfold CSx; kernel_rfl
theorem cn30 : 2 ≤ Try.f30.ntmps := by decide
def rc33 : RC := (.seq (.reg false [(cX 1 0), (cI 2 0)]) (.keep [1] (.seq (.block 0 (.seq (.reg false [(cLd 4 1 true 6), (cQ 5 [4] (.call (kF 50) [(.t 4)])), (cN 6 5), (cMv 3 6)]) (.keep [1,3] (.cond (.t 3) (.seq (.reg false [(cI 2 20)]) .ret) (.seq (.reg false [(cFa 8 1 0), (cLd 9 8 false 1), (cQ 10 [9] (.call (kF 51) [(.t 9), (kF 52)])), (cN 11 10), (cMv 7 11)]) (.keep [7] (.cond (.t 7) (.seq (.reg false [(cI 2 21)]) .ret) .skip))))))) (.keep [] (.seq (.reg false [(cI 2 0)]) .ret)))))
def pu33 : List Nat := [1]
def rs33 : List RV := [.t 2]
theorem cc33 : CCx Try.prog Try.f33 pu33 rc33 := by unfold CCx; kernel_rfl
theorem cb33 : CBx Try.f33 := by unfold CBx; kernel_rfl
theorem cs33 : CSx Try.prog Try.f33 rs33 := by unfold CSx; kernel_rfl
theorem cn33 : 1 ≤ Try.f33.ntmps := by decide
def rc34 : RC := (.seq (.reg false [(cX 1 0), (cQ 2 [] (.mv (.k .u)))]) (.keep [1] (.seq (.reg false [(cQ 3 [1] (.mkf 53 [(.t 1)])), (cMv 2 3)]) .ret)))
def pu34 : List Nat := [1]
def rs34 : List RV := [.t 2]
theorem cc34 : CCx Try.prog Try.f34 pu34 rc34 := by unfold CCx; kernel_rfl
theorem cb34 : CBx Try.f34 := by unfold CBx; kernel_rfl
theorem cs34 : CSx Try.prog Try.f34 rs34 := by unfold CSx; kernel_rfl
theorem cn34 : 1 ≤ Try.f34.ntmps := by decide
def rc35 : RC := (.seq (.reg false [(cX 2 0), (cI 4 0)]) (.keep [1,2,4] (.seq (.seq (.reg false [(cFa 7 2 2), (cLd 8 7 false 1), (cLn 9 8), (cI 10 0)]) (.keep [1,4,8,9,10] (.block 0 (.loop [1,4,8,9,10] (some 0) (.seq (.reg false [(cB 11 .lss 10 9)]) (.keep [1,4,8,9,10,11] (.seq (.cond (.t 11) .skip (.exit 0)) (.keep [1,4,8,9,10] (.seq (.block 1 (.seq (.reg false [(cA 12 3 8 10), (cLd 13 12 true 3), ⟨(some 6), none, [], none, .w (.alc [(.i 0), (.i 0), (.i 0)])⟩, ⟨none, none, [6,13], none, .w (.st 3 (.t 6) (.t 13))⟩]) (.keep [1,4,6,8,9,10] (.seq (.any false 0 [⟨(cFa 14 6 0), [], []⟩, ⟨(cLd 15 14 false 1), [], [0]⟩, ⟨(cMv 16 1), [], []⟩, ⟨(cQ 17 [15,16] (.call (kF 45) [(.t 15), (.t 16)])), [], [1,0,2]⟩, ⟨(cFa 18 6 1), [], []⟩, ⟨(cFa 19 18 0), [], [4]⟩, ⟨(cLd 20 19 false 1), [], [5,4]⟩, ⟨(cFa 21 6 1), [], []⟩, ⟨(cFa 22 21 1), [], [7]⟩, ⟨(cLd 23 22 false 1), [], [8,7]⟩, ⟨(cQ 24 [17,20,23] (.call (kF 44) [(.t 17), (.t 20), (.t 23)])), [], [3,1,0,2,6,5,4,9,8,7]⟩, ⟨(cN 25 24), [], [10,3,1,0,2,6,5,4,9,8,7]⟩]) (.keep [1,4,8,9,10,25] (.cond (.t 25) (.reg false [(cMv 26 4), (cC 27 .add 26 1), (cMv 4 27)]) .skip)))))) (.drp 0 (.keep [1,4,8,9,10] (.reg false [(cC 28 .add 10 1), (cMv 10 28)])))))))))))) (.keep [4] (.seq (.reg false [(cMv 29 4), (cMv 4 29)]) .ret)))))
def pu35 : List Nat := [2]
def rs35 : List RV := [.t 4]
theorem cc35 : CCx Try.prog Try.f35 pu35 rc35 := by unfold CCx; kernel_rfl
theorem cb35 : CBx Try.f35 := by unfold CBx; kernel_rfl
theorem cs35 : CSx Try.prog Try.f35 rs35 := by unfold CSx; kernel_rfl
theorem cn35 : 2 ≤ Try.f35.ntmps := by decide
def rc43 : RC := (.seq (.reg false [(cI 4 0)]) (.keep [0,1] (.seq (.reg false [(cMv 5 0), (cMv 6 1), (cQ 7 [6] (.bin .add (kI 1000) (.t 6))), (cB 8 .mul 5 7), (cC 9 .quo 8 1000), (cMv 4 9)]) .ret)))
def pu43 : List Nat := []
def rs43 : List RV := [.t 4]
theorem cc43 : CCx Try.prog Try.f43 pu43 rc43 := by unfold CCx; kernel_rfl
theorem cb43 : CBx Try.f43 := by unfold CBx; kernel_rfl
theorem cs43 : CSx Try.prog Try.f43 rs43 := by unfold CSx; kernel_rfl
theorem cn43 : 2 ≤ Try.f43.ntmps := by decide
def rc44 : RC := (.seq (.reg false [(cQ 6 [] (.mv (kB false)))]) (.keep [0,1,2] (.seq (.reg true [(cMv 7 1), (cMv 8 0), (cB 9 .leq 7 8), (cMv 10 9), (gMv 11 10 true 0), (gMv 12 10 true 2), (gQ 13 10 true [11,12] (.bin .leq (.t 11) (.t 12))), (cQ 14 [10,13] (.pick (.t 10) (.t 13) (kB false))), (cMv 6 14)]) .ret)))
def pu44 : List Nat := []
def rs44 : List RV := [.t 6]
theorem cc44 : CCx Try.prog Try.f44 pu44 rc44 := by unfold CCx; kernel_rfl
theorem cb44 : CBx Try.f44 := by unfold CBx; kernel_rfl
theorem cs44 : CSx Try.prog Try.f44 rs44 := by unfold CSx; kernel_rfl
theorem cn44 : 3 ≤ Try.f44.ntmps := by decide
def rc45 : RC := (.seq (.reg false [(cI 4 0)]) (.keep [0,1] (.seq (.reg false [(cMv 5 0), (cMv 6 1), (cQ 7 [6] (.bin .add (kI 1000) (.t 6))), (cB 8 .mul 5 7), (cC 9 .quo 8 1000), (cMv 4 9)]) .ret)))
def pu45 : List Nat := []
def rs45 : List RV := [.t 4]
theorem cc45 : CCx Try.prog Try.f45 pu45 rc45 := by unfold CCx; kernel_rfl
theorem cb45 : CBx Try.f45 := by unfold CBx; kernel_rfl
theorem cs45 : CSx Try.prog Try.f45 rs45 := by unfold CSx; kernel_rfl
theorem cn45 : 2 ≤ Try.f45.ntmps := by decide
def rc47 : RC := (.seq (.reg false [(cX 2 0), (cQ 4 [] (.mv (.k (.z 1)))), (cI 5 0)]) (.keep [1,2] (.seq (.any false 0 [⟨(cLd 9 2 true 6), [], []⟩, ⟨(cLd 10 2 true 6), [], []⟩, ⟨(cMv 11 1), [], []⟩, ⟨(cQ 12 [10,11] (.call (kF 59) [(.t 10), (.t 11)])), [], [1,2]⟩, ⟨(cQ 13 [9,12] (.call (kF 20) [(.t 9), (.t 12)])), [], [0,3,1,2]⟩, ⟨(cMv 8 13), [], [4,0,3,1,2]⟩, ⟨(cEx 14 8 0), [], [5,4,0,3,1,2]⟩, ⟨(cEx 15 8 1), [], [5,4,0,3,1,2]⟩, ⟨(cMv 6 14), [], [6,5,4,0,3,1,2]⟩, ⟨(cMv 7 15), [], [7,5,4,0,3,1,2,8,6]⟩]) (.keep [1,6,7] (.seq (.seq (.reg false [(cMv 16 7), (cC 17 .neq 16 0)]) (.keep [1,6,7,17] (.cond (.t 17) (.seq (.reg false [(cMv 18 7), (cQ 4 [] (.mv (.k (.z 1)))), (cMv 5 18)]) .ret) .skip))) (.keep [1,6] (.seq (.reg false [(cMv 19 6), (cZ 20 19), (cFa 21 20 6), (cLd 22 21 false 1), (cMv 23 1), (cA 24 1 22 23), (cLd 25 24 false 1), (cMv 4 25), (cI 5 0)]) .ret)))))))
def pu47 : List Nat := [2]
def rs47 : List RV := [.t 4, .t 5]
theorem cc47 : CCx Try.prog Try.f47 pu47 rc47 := by unfold CCx; kernel_rfl
theorem cb47 : CBx Try.f47 := by unfold CBx; kernel_rfl
theorem cs47 : CSx Try.prog Try.f47 rs47 := by unfold CSx; kernel_rfl
theorem cn47 : 2 ≤ Try.f47.ntmps := by decide
def rc50 : RC := (.seq (.reg false [(cX 1 0), (cQ 2 [] (.mv (kB false)))]) (.keep [1] (.seq (.reg false [(cQ 6 [1] (.mkf 61 [(.t 1)])), (cMv 3 6)]) (.keep [1,3] (.seq (.reg false [(cQ 4 [] (.mv (kF 62)))]) (.keep [1,3,4] (.seq (.reg false [(cQ 7 [1] (.mkf 64 [(.t 1)])), (cMv 5 7)]) (.keep [1,3,4,5] (.seq (.reg true [(cFa 8 1 0), (cLd 9 8 false 1), (cLn 10 9), (cQ 11 [10] (.call (kF 44) [(.t 10), (kI 1), (kI 4)])), (cMv 12 11), (gQ 13 12 true [1] (.fad 1 (.t 1))), (gQ 14 12 true [13] (.ld false 1 (.t 13))), (gQ 15 12 true [14] (.len (.t 14))), (gQ 16 12 true [15] (.call (kF 44) [(.t 15), (kI 3), (kI 16)])), (cQ 17 [12,16] (.pick (.t 12) (.t 16) (kB false))), (cMv 18 17), (gQ 19 18 true [1] (.fad 1 (.t 1))), (gQ 20 18 true [19] (.ld false 1 (.t 19))), (gMv 21 18 true 3), (gQ 22 18 true [20,21] (.call (kF 65) [(.t 20), (.t 21)])), (cQ 23 [18,22] (.pick (.t 18) (.t 22) (kB false))), (cMv 24 23), (gQ 25 24 true [1] (.fad 2 (.t 1))), (gQ 26 24 true [25] (.ld false 1 (.t 25))), (gQ 27 24 true [26] (.call (kF 44) [(.t 26), (kI 0), (kI 20)])), (cQ 28 [24,27] (.pick (.t 24) (.t 27) (kB false))), (cMv 29 28), (gQ 30 29 true [1] (.fad 3 (.t 1))), (gQ 31 29 true [30] (.ld false 1 (.t 30))), (gQ 32 29 true [31] (.len (.t 31))), (gQ 33 29 true [32] (.call (kF 44) [(.t 32), (kI 1), (kI 12)])), (cQ 34 [29,33] (.pick (.t 29) (.t 33) (kB false))), (cMv 35 34), (gQ 36 35 true [1] (.fad 3 (.t 1))), (gQ 37 35 true [36] (.ld false 1 (.t 36))), (gMv 38 35 true 4), (gQ 39 35 true [37,38] (.call (kF 66) [(.t 37), (.t 38)])), (cQ 40 [35,39] (.pick (.t 35) (.t 39) (kB false))), (cMv 41 40), (gQ 42 41 true [1] (.fad 4 (.t 1))), (gQ 43 41 true [42] (.ld false 1 (.t 42))), (gQ 44 41 true [43] (.len (.t 43))), (gQ 45 41 true [1] (.fad 3 (.t 1))), (gQ 46 41 true [45] (.ld false 1 (.t 45))), (gQ 47 41 true [46] (.len (.t 46))), (gQ 48 41 true [44,47] (.bin .eql (.t 44) (.t 47))), (cQ 49 [41,48] (.pick (.t 41) (.t 48) (kB false))), (cMv 50 49), (gQ 51 50 true [1] (.fad 4 (.t 1))), (gQ 52 50 true [51] (.ld false 1 (.t 51))), (gMv 53 50 true 5), (gQ 54 50 true [52,53] (.call (kF 65) [(.t 52), (.t 53)])), (cQ 55 [50,54] (.pick (.t 50) (.t 54) (kB false))), (cMv 56 55), (gQ 57 56 true [1] (.fad 5 (.t 1))), (gQ 58 56 true [57] (.ld false 1 (.t 57))), (gQ 59 56 true [58] (.call (kF 44) [(.t 58), (kI 0), (kI 500)])), (cQ 60 [56,59] (.pick (.t 56) (.t 59) (kB false))), (cMv 2 60)]) .ret)))))))))
def pu50 : List Nat := [1]
def rs50 : List RV := [.t 2]
theorem cc50 : CCx Try.prog Try.f50 pu50 rc50 := by unfold CCx; kernel_rfl
theorem cb50 : CBx Try.f50 := by unfold CBx; kernel_rfl
theorem cs50 : CSx Try.prog Try.f50 rs50 := by unfold CSx; kernel_rfl
theorem cn50 : 1 ≤ Try.f50.ntmps := by decide
def rc51 : RC := (.seq (.reg false [(cX 3 1), (cQ 4 [] (.mv (kB false)))]) (.keep [0,3] (.seq (.reg false [(cMv 5 0), (cQ 6 [3] (.mkf 68 [(.t 3)])), (cQ 7 [5,6] (.call (kF 67) [(.t 5), (.t 6)])), (cN 8 7), (cMv 4 8)]) .ret)))
def pu51 : List Nat := [3]
def rs51 : List RV := [.t 4]
theorem cc51 : CCx Try.prog Try.f51 pu51 rc51 := by unfold CCx; kernel_rfl
theorem cb51 : CBx Try.f51 := by unfold CBx; kernel_rfl
theorem cs51 : CSx Try.prog Try.f51 rs51 := by unfold CSx; kernel_rfl
theorem cn51 : 2 ≤ Try.f51.ntmps := by decide
def rc52 : RC := (.seq (.reg false [(cX 1 0), (cQ 2 [] (.mv (kB false)))]) (.keep [1] (.seq (.reg true [(cFa 3 1 0), (cLd 4 3 true 2), (cQ 5 [4] (.call (kF 63) [(.t 4), (kI 60)])), (cMv 6 5), (gQ 7 6 true [1] (.fad 2 (.t 1))), (gQ 8 6 true [7] (.ld false 1 (.t 7))), (gQ 9 6 true [8] (.len (.t 8))), (gQ 10 6 true [9] (.bin .leq (.t 9) (kI 8))), (cQ 11 [6,10] (.pick (.t 6) (.t 10) (kB false))), (cMv 12 11), (gQ 13 12 true [1] (.fad 2 (.t 1))), (gQ 14 12 true [13] (.ld false 1 (.t 13))), (gQ 15 12 true [14] (.call (kF 69) [(.t 14), (kF 70)])), (cQ 16 [12,15] (.pick (.t 12) (.t 15) (kB false))), (cMv 17 16), (gQ 18 17 true [1] (.fad 3 (.t 1))), (gQ 19 17 true [18] (.ld false 1 (.t 18))), (gQ 20 17 true [19] (.call (kF 44) [(.t 19), (kI 0), (kI 2)])), (cQ 21 [17,20] (.pick (.t 17) (.t 20) (kB false))), (cMv 2 21)]) .ret)))
def pu52 : List Nat := [1]
def rs52 : List RV := [.t 2]
theorem cc52 : CCx Try.prog Try.f52 pu52 rc52 := by unfold CCx; kernel_rfl
theorem cb52 : CBx Try.f52 := by unfold CBx; kernel_rfl
theorem cs52 : CSx Try.prog Try.f52 rs52 := by unfold CSx; kernel_rfl
theorem cn52 : 1 ≤ Try.f52.ntmps := by decide
def rc53 : RC := (.seq (.reg false [(cFa 4 1 0), (cFa 5 4 0), (cLd 6 5 false 1), (cMv 3 6)]) (.keep [0,1,3] (.block 0 (.loop [0,1,3] none (.seq (.seq (.reg false [(cMv 7 3), (cFa 8 1 0), (cFa 9 8 1), (cLd 10 9 false 1), (cB 11 .leq 7 10)]) (.keep [0,1,3,11] (.cond (.t 11) .skip (.exit 0)))) (.keep [0,1,3] (.seq (.block 1 (.seq (.yrg false [(cMv 14 0), (cMv 15 3)] ⟨(some 16), none, [14,15], none, .o (.t 14) [(.t 15)]⟩ [0,1,3] [(cN 17 16)]) (.keep [0,1,3,17] (.cond (.t 17) .ret .skip)))) (.keep [0,1,3] (.reg false [(cMv 12 3), (cC 13 .add 12 1), (cMv 3 13)])))))))))
def pu53 : List Nat := []
def rs53 : List RV := []
theorem cc53 : comp Try.prog pu53 (Try.f53.ntmps, 2) 1 2 rc53 (Try.f53.body.getD .skip) = some rc53 := by kernel_rfl
theorem cb53 : CBx Try.f53 := by unfold CBx; kernel_rfl
theorem cs53 : CSx Try.prog Try.f53 rs53 := by unfold CSx; kernel_rfl
theorem cn53 : 2 ≤ Try.f53.ntmps := by decide
def rc59 : RC := (.seq (.reg false [(cX 2 0), (cQ 4 [] (.mv (kB false)))]) (.keep [1,2] (.seq (.reg false [(cMv 5 1), (cFa 6 2 0), (cLd 7 6 false 1), (cLn 8 7), (cC 9 .sub 8 1), (cQ 10 [5,9] (.call (kF 44) [(.t 5), (kI 0), (.t 9)])), (cMv 4 10)]) .ret)))
def pu59 : List Nat := [2]
def rs59 : List RV := [.t 4]
theorem cc59 : CCx Try.prog Try.f59 pu59 rc59 := by unfold CCx; kernel_rfl
theorem cb59 : CBx Try.f59 := by unfold CBx; kernel_rfl
theorem cs59 : CSx Try.prog Try.f59 rs59 := by unfold CSx; kernel_rfl
theorem cn59 : 2 ≤ Try.f59.ntmps := by decide
def rc61 : RC := (.seq (.reg false [(cQ 3 [] (.mv (kB false)))]) (.keep [0,1] (.seq (.reg false [(cMv 4 0), (cFa 5 1 0), (cLd 6 5 false 1), (cLn 7 6), (cC 8 .sub 7 1), (cQ 9 [4,8] (.call (kF 44) [(.t 4), (kI 0), (.t 8)])), (cMv 3 9)]) .ret)))
def pu61 : List Nat := []
def rs61 : List RV := [.t 3]
theorem cc61 : CCx Try.prog Try.f61 pu61 rc61 := by unfold CCx; kernel_rfl
theorem cb61 : CBx Try.f61 := by unfold CBx; kernel_rfl
theorem cs61 : CSx Try.prog Try.f61 rs61 := by unfold CSx; kernel_rfl
theorem cn61 : 2 ≤ Try.f61.ntmps := by decide
def rc62 : RC := (.seq (.reg false [(cX 1 0), (cQ 2 [] (.mv (kB false)))]) (.keep [1] (.seq (.reg false [(cLd 3 1 true 2), (cQ 4 [3] (.call (kF 63) [(.t 3), (kI 40000)])), (cMv 2 4)]) .ret)))
def pu62 : List Nat := [1]
def rs62 : List RV := [.t 2]
theorem cc62 : CCx Try.prog Try.f62 pu62 rc62 := by unfold CCx; kernel_rfl
theorem cb62 : CBx Try.f62 := by unfold CBx; kernel_rfl
theorem cs62 : CSx Try.prog Try.f62 rs62 := by unfold CSx; kernel_rfl
theorem cn62 : 1 ≤ Try.f62.ntmps := by decide
def rc63 : RC := (.seq (.reg false [(cX 2 0), (cQ 4 [] (.mv (kB false)))]) (.keep [1,2] (.seq (.reg true [(cFa 5 2 0), (cLd 6 5 false 1), (cFa 7 2 1), (cLd 8 7 false 1), (cQ 9 [6,8] (.call (kF 44) [(.t 6), (kI 0), (.t 8)])), (cMv 10 9), (gQ 11 10 true [2] (.fad 1 (.t 2))), (gQ 12 10 true [11] (.ld false 1 (.t 11))), (gMv 13 10 true 1), (gQ 14 10 true [12,13] (.bin .leq (.t 12) (.t 13))), (cQ 15 [10,14] (.pick (.t 10) (.t 14) (kB false))), (cMv 4 15)]) .ret)))
def pu63 : List Nat := [2]
def rs63 : List RV := [.t 4]
theorem cc63 : CCx Try.prog Try.f63 pu63 rc63 := by unfold CCx; kernel_rfl
theorem cb63 : CBx Try.f63 := by unfold CBx; kernel_rfl
theorem cs63 : CSx Try.prog Try.f63 rs63 := by unfold CSx; kernel_rfl
theorem cn63 : 2 ≤ Try.f63.ntmps := by decide
def rc64 : RC := (.seq (.reg false [(cQ 3 [] (.mv (kB false)))]) (.keep [0,1] (.seq (.reg false [(cMv 4 0), (cFa 5 1 2), (cLd 6 5 false 1), (cQ 7 [6] (.bin .mul (kI 2) (.t 6))), (cQ 8 [4,7] (.call (kF 44) [(.t 4), (.t 7), (kI 2000)])), (cMv 3 8)]) .ret)))
def pu64 : List Nat := []
def rs64 : List RV := [.t 3]
theorem cc64 : CCx Try.prog Try.f64 pu64 rc64 := by unfold CCx; kernel_rfl
theorem cb64 : CBx Try.f64 := by unfold CBx; kernel_rfl
theorem cs64 : CSx Try.prog Try.f64 rs64 := by unfold CSx; kernel_rfl
theorem cn64 : 2 ≤ Try.f64.ntmps := by decide
def rc65 : RC := (.seq (.reg false [(cX 3 1), (cQ 4 [] (.mv (kB false)))]) (.keep [0,3] (.seq (.reg false [(cMv 5 0), (cQ 6 [3] (.mkf 76 [(.t 3)])), (cQ 7 [5,6] (.call (kF 75) [(.t 5), (.t 6)])), (cN 8 7), (cMv 4 8)]) .ret)))
def pu65 : List Nat := [3]
def rs65 : List RV := [.t 4]
theorem cc65 : CCx Try.prog Try.f65 pu65 rc65 := by unfold CCx; kernel_rfl
theorem cb65 : CBx Try.f65 := by unfold CBx; kernel_rfl
theorem cs65 : CSx Try.prog Try.f65 rs65 := by unfold CSx; kernel_rfl
theorem cn65 : 2 ≤ Try.f65.ntmps := by decide
def rc66 : RC := (.seq (.reg false [(cX 3 1), (cQ 4 [] (.mv (kB false)))]) (.keep [0,3] (.seq (.reg false [(cMv 5 0), (cQ 6 [3] (.mkf 78 [(.t 3)])), (cQ 7 [5,6] (.call (kF 77) [(.t 5), (.t 6)])), (cN 8 7), (cMv 4 8)]) .ret)))
def pu66 : List Nat := [3]
def rs66 : List RV := [.t 4]
theorem cc66 : CCx Try.prog Try.f66 pu66 rc66 := by unfold CCx; kernel_rfl
theorem cb66 : CBx Try.f66 := by unfold CBx; kernel_rfl
theorem cs66 : CSx Try.prog Try.f66 rs66 := by unfold CSx; kernel_rfl
theorem cn66 : 2 ≤ Try.f66.ntmps := by decide
def rc67 : RC := (.seq (.reg false [(cQ 4 [] (.mv (kB false)))]) (.keep [0,1] (.seq (.reg false [(cMv 5 0), (cMv 6 1), (cQ 7 [5,6] (.call (kF 79) [(.t 5), (.t 6)])), (cC 8 .geq 7 0), (cMv 4 8)]) .ret)))
def pu67 : List Nat := []
def rs67 : List RV := [.t 4]
theorem cc67 : CCx Try.prog Try.f67 pu67 rc67 := by unfold CCx; kernel_rfl
theorem cb67 : CBx Try.f67 := by unfold CBx; kernel_rfl
theorem cs67 : CSx Try.prog Try.f67 rs67 := by unfold CSx; kernel_rfl
theorem cn67 : 2 ≤ Try.f67.ntmps := by decide
def rc68 : RC := (.seq (.reg false [(cX 2 0), (cQ 3 [] (.mv (kB false)))]) (.keep [1,2] (.seq (.reg false [(cLd 4 1 false 1), (cLd 5 2 true 4), (cQ 6 [4,5] (.call (.t 4) [(.t 5)])), (cN 7 6), (cMv 3 7)]) .ret)))
def pu68 : List Nat := [2]
def rs68 : List RV := [.t 3]
theorem cc68 : CCx Try.prog Try.f68 pu68 rc68 := by unfold CCx; kernel_rfl
theorem cb68 : CBx Try.f68 := by unfold CBx; kernel_rfl
theorem cs68 : CSx Try.prog Try.f68 rs68 := by unfold CSx; kernel_rfl
theorem cn68 : 2 ≤ Try.f68.ntmps := by decide
def rc69 : RC := (.seq (.reg false [(cX 3 1), (cQ 4 [] (.mv (kB false)))]) (.keep [0,3] (.seq (.reg false [(cMv 5 0), (cQ 6 [3] (.mkf 81 [(.t 3)])), (cQ 7 [5,6] (.call (kF 80) [(.t 5), (.t 6)])), (cN 8 7), (cMv 4 8)]) .ret)))
def pu69 : List Nat := [3]
def rs69 : List RV := [.t 4]
theorem cc69 : CCx Try.prog Try.f69 pu69 rc69 := by unfold CCx; kernel_rfl
theorem cb69 : CBx Try.f69 := by unfold CBx; kernel_rfl
theorem cs69 : CSx Try.prog Try.f69 rs69 := by unfold CSx; kernel_rfl
theorem cn69 : 2 ≤ Try.f69.ntmps := by decide
def rc70 : RC := (.seq (.reg false [(cX 1 0), (cQ 2 [] (.mv (kB false)))]) (.keep [1] (.seq (.reg true [(cFa 3 1 0), (cLd 4 3 false 1), (cQ 5 [4] (.call (kF 44) [(.t 4), (kI 1), (kI 2000)])), (cMv 6 5), (gQ 7 6 true [1] (.fad 1 (.t 1))), (gQ 8 6 true [7] (.ld true 2 (.t 7))), (gQ 9 6 true [8] (.call (kF 63) [(.t 8), (kI 4000)])), (cQ 10 [6,9] (.pick (.t 6) (.t 9) (kB false))), (cMv 2 10)]) .ret)))
def pu70 : List Nat := [1]
def rs70 : List RV := [.t 2]
theorem cc70 : CCx Try.prog Try.f70 pu70 rc70 := by unfold CCx; kernel_rfl
theorem cb70 : CBx Try.f70 := by unfold CBx; kernel_rfl
theorem cs70 : CSx Try.prog Try.f70 rs70 := by unfold CSx; kernel_rfl
theorem cn70 : 1 ≤ Try.f70.ntmps := by decide
def rc75 : RC := (.seq (.reg false [(cQ 4 [] (.mv (kB false)))]) (.keep [0,1] (.seq (.reg false [(cMv 5 0), (cMv 6 1), (cQ 7 [5,6] (.call (kF 82) [(.t 5), (.t 6)])), (cC 8 .geq 7 0), (cMv 4 8)]) .ret)))
def pu75 : List Nat := []
def rs75 : List RV := [.t 4]
theorem cc75 : CCx Try.prog Try.f75 pu75 rc75 := by unfold CCx; kernel_rfl
theorem cb75 : CBx Try.f75 := by unfold CBx; kernel_rfl
theorem cs75 : CSx Try.prog Try.f75 rs75 := by unfold CSx; kernel_rfl
theorem cn75 : 2 ≤ Try.f75.ntmps := by decide
def rc76 : RC := (.seq (.reg false [(cQ 3 [] (.mv (kB false)))]) (.keep [0,1] (.seq (.reg false [(cLd 4 1 false 1), (cMv 5 0), (cQ 6 [4,5] (.call (.t 4) [(.t 5)])), (cN 7 6), (cMv 3 7)]) .ret)))
def pu76 : List Nat := []
def rs76 : List RV := [.t 3]
theorem cc76 : CCx Try.prog Try.f76 pu76 rc76 := by unfold CCx; kernel_rfl
theorem cb76 : CBx Try.f76 := by unfold CBx; kernel_rfl
theorem cs76 : CSx Try.prog Try.f76 rs76 := by unfold CSx; kernel_rfl
theorem cn76 : 2 ≤ Try.f76.ntmps := by decide
def rc77 : RC := (.seq (.reg false [(cQ 4 [] (.mv (kB false)))]) (.keep [0,1] (.seq (.reg false [(cMv 5 0), (cMv 6 1), (cQ 7 [5,6] (.call (kF 83) [(.t 5), (.t 6)])), (cC 8 .geq 7 0), (cMv 4 8)]) .ret)))
def pu77 : List Nat := []
def rs77 : List RV := [.t 4]
theorem cc77 : CCx Try.prog Try.f77 pu77 rc77 := by unfold CCx; kernel_rfl
theorem cb77 : CBx Try.f77 := by unfold CBx; kernel_rfl
theorem cs77 : CSx Try.prog Try.f77 rs77 := by unfold CSx; kernel_rfl
theorem cn77 : 2 ≤ Try.f77.ntmps := by decide
def rc78 : RC := (.seq (.reg false [(cX 2 0), (cQ 3 [] (.mv (kB false)))]) (.keep [1,2] (.seq (.reg false [(cLd 4 1 false 1), (cLd 5 2 true 2), (cQ 6 [4,5] (.call (.t 4) [(.t 5)])), (cN 7 6), (cMv 3 7)]) .ret)))
def pu78 : List Nat := [2]
def rs78 : List RV := [.t 3]
theorem cc78 : CCx Try.prog Try.f78 pu78 rc78 := by unfold CCx; kernel_rfl
theorem cb78 : CBx Try.f78 := by unfold CBx; kernel_rfl
theorem cs78 : CSx Try.prog Try.f78 rs78 := by unfold CSx; kernel_rfl
theorem cn78 : 2 ≤ Try.f78.ntmps := by decide
def rc79 : RC := (.seq (.reg false [(cI 4 0)]) (.keep [0,1] (.seq (.seq (.reg false [(cMv 6 0), (cLn 7 6), (cI 8 0)]) (.keep [0,1,7,8] (.block 0 (.loop [0,1,7,8] none (.seq (.reg false [(cB 9 .lss 8 7)]) (.keep [0,1,7,8,9] (.seq (.cond (.t 9) .skip (.exit 0)) (.keep [0,1,7,8] (.seq (.block 1 (.seq (.reg false [(cMv 10 8), (cMv 5 10)]) (.keep [0,1,5,7,8] (.seq (.reg false [(cMv 11 1), (cMv 12 0), (cMv 13 5), (cA 14 4 12 13), (cLd 15 14 true 4), (cQ 16 [11,15] (.call (.t 11) [(.t 15)]))]) (.keep [0,1,5,7,8,16] (.cond (.t 16) (.seq (.reg false [(cMv 17 5), (cMv 4 17)]) .ret) .skip)))))) (.keep [0,1,7,8] (.reg false [(cC 18 .add 8 1), (cMv 8 18)]))))))))))) (.keep [] (.seq (.reg false [(cQ 4 [] (.mv (.k (.i (-1)))))]) .ret)))))
def pu79 : List Nat := []
def rs79 : List RV := [.t 4]
theorem cc79 : CCx Try.prog Try.f79 pu79 rc79 := by unfold CCx; kernel_rfl
theorem cb79 : CBx Try.f79 := by unfold CBx; kernel_rfl
theorem cs79 : CSx Try.prog Try.f79 rs79 := by unfold CSx; kernel_rfl
theorem cn79 : 2 ≤ Try.f79.ntmps := by decide
def rc80 : RC := (.seq (.reg false [(cQ 4 [] (.mv (kB false)))]) (.keep [0,1] (.seq (.reg false [(cMv 5 0), (cMv 6 1), (cQ 7 [5,6] (.call (kF 84) [(.t 5), (.t 6)])), (cC 8 .geq 7 0), (cMv 4 8)]) .ret)))
def pu80 : List Nat := []
def rs80 : List RV := [.t 4]
theorem cc80 : CCx Try.prog Try.f80 pu80 rc80 := by unfold CCx; kernel_rfl
theorem cb80 : CBx Try.f80 := by unfold CBx; kernel_rfl
theorem cs80 : CSx Try.prog Try.f80 rs80 := by unfold CSx; kernel_rfl
theorem cn80 : 2 ≤ Try.f80.ntmps := by decide
def rc81 : RC := (.seq (.reg false [(cX 2 0), (cQ 3 [] (.mv (kB false)))]) (.keep [1,2] (.seq (.reg false [(cLd 4 1 false 1), (cLd 5 2 true 3), (cQ 6 [4,5] (.call (.t 4) [(.t 5)])), (cN 7 6), (cMv 3 7)]) .ret)))
def pu81 : List Nat := [2]
def rs81 : List RV := [.t 3]
theorem cc81 : CCx Try.prog Try.f81 pu81 rc81 := by unfold CCx; kernel_rfl
theorem cb81 : CBx Try.f81 := by unfold CBx; kernel_rfl
theorem cs81 : CSx Try.prog Try.f81 rs81 := by unfold CSx; kernel_rfl
theorem cn81 : 2 ≤ Try.f81.ntmps := by decide
def rc82 : RC := (.seq (.reg false [(cI 4 0)]) (.keep [0,1] (.seq (.seq (.reg false [(cMv 6 0), (cLn 7 6), (cI 8 0)]) (.keep [0,1,7,8] (.block 0 (.loop [0,1,7,8] none (.seq (.reg false [(cB 9 .lss 8 7)]) (.keep [0,1,7,8,9] (.seq (.cond (.t 9) .skip (.exit 0)) (.keep [0,1,7,8] (.seq (.block 1 (.seq (.reg false [(cMv 10 8), (cMv 5 10)]) (.keep [0,1,5,7,8] (.seq (.reg false [(cMv 11 1), (cMv 12 0), (cMv 13 5), (cA 14 1 12 13), (cLd 15 14 false 1), (cQ 16 [11,15] (.call (.t 11) [(.t 15)]))]) (.keep [0,1,5,7,8,16] (.cond (.t 16) (.seq (.reg false [(cMv 17 5), (cMv 4 17)]) .ret) .skip)))))) (.keep [0,1,7,8] (.reg false [(cC 18 .add 8 1), (cMv 8 18)]))))))))))) (.keep [] (.seq (.reg false [(cQ 4 [] (.mv (.k (.i (-1)))))]) .ret)))))
def pu82 : List Nat := []
def rs82 : List RV := [.t 4]
theorem cc82 : CCx Try.prog Try.f82 pu82 rc82 := by unfold CCx; kernel_rfl
theorem cb82 : CBx Try.f82 := by unfold CBx; kernel_rfl
theorem cs82 : CSx Try.prog Try.f82 rs82 := by unfold CSx; kernel_rfl
theorem cn82 : 2 ≤ Try.f82.ntmps := by decide
def rc83 : RC := (.seq (.reg false [(cI 4 0)]) (.keep [0,1] (.seq (.seq (.reg false [(cMv 6 0), (cLn 7 6), (cI 8 0)]) (.keep [0,1,7,8] (.block 0 (.loop [0,1,7,8] none (.seq (.reg false [(cB 9 .lss 8 7)]) (.keep [0,1,7,8,9] (.seq (.cond (.t 9) .skip (.exit 0)) (.keep [0,1,7,8] (.seq (.block 1 (.seq (.reg false [(cMv 10 8), (cMv 5 10)]) (.keep [0,1,5,7,8] (.seq (.reg false [(cMv 11 1), (cMv 12 0), (cMv 13 5), (cA 14 2 12 13), (cLd 15 14 true 2), (cQ 16 [11,15] (.call (.t 11) [(.t 15)]))]) (.keep [0,1,5,7,8,16] (.cond (.t 16) (.seq (.reg false [(cMv 17 5), (cMv 4 17)]) .ret) .skip)))))) (.keep [0,1,7,8] (.reg false [(cC 18 .add 8 1), (cMv 8 18)]))))))))))) (.keep [] (.seq (.reg false [(cQ 4 [] (.mv (.k (.i (-1)))))]) .ret)))))
def pu83 : List Nat := []
def rs83 : List RV := [.t 4]
theorem cc83 : CCx Try.prog Try.f83 pu83 rc83 := by unfold CCx; kernel_rfl
theorem cb83 : CBx Try.f83 := by unfold CBx; kernel_rfl
theorem cs83 : CSx Try.prog Try.f83 rs83 := by unfold CSx; kernel_rfl
theorem cn83 : 2 ≤ Try.f83.ntmps := by decide
def rc84 : RC := (.seq (.reg false [(cI 4 0)]) (.keep [0,1] (.seq (.seq (.reg false [(cMv 6 0), (cLn 7 6), (cI 8 0)]) (.keep [0,1,7,8] (.block 0 (.loop [0,1,7,8] none (.seq (.reg false [(cB 9 .lss 8 7)]) (.keep [0,1,7,8,9] (.seq (.cond (.t 9) .skip (.exit 0)) (.keep [0,1,7,8] (.seq (.block 1 (.seq (.reg false [(cMv 10 8), (cMv 5 10)]) (.keep [0,1,5,7,8] (.seq (.reg false [(cMv 11 1), (cMv 12 0), (cMv 13 5), (cA 14 3 12 13), (cLd 15 14 true 3), (cQ 16 [11,15] (.call (.t 11) [(.t 15)]))]) (.keep [0,1,5,7,8,16] (.cond (.t 16) (.seq (.reg false [(cMv 17 5), (cMv 4 17)]) .ret) .skip)))))) (.keep [0,1,7,8] (.reg false [(cC 18 .add 8 1), (cMv 8 18)]))))))))))) (.keep [] (.seq (.reg false [(cQ 4 [] (.mv (.k (.i (-1)))))]) .ret)))))
def pu84 : List Nat := []
def rs84 : List RV := [.t 4]
theorem cc84 : CCx Try.prog Try.f84 pu84 rc84 := by unfold CCx; kernel_rfl
theorem cb84 : CBx Try.f84 := by unfold CBx; kernel_rfl
theorem cs84 : CSx Try.prog Try.f84 rs84 := by unfold CSx; kernel_rfl
theorem cn84 : 2 ≤ Try.f84.ntmps := by decide
end Go.C02
set_option linter.unusedSimpArgs false
set_option linter.unusedVariables false
namespace Go.C02
open Go.Fam Go.Proofs
theorem hmix : Try.prog.follows .mixedOrders = true := by kernel_rfl
variable {Γ : Gam}
def Qak (n lo hi : Int) : Bool := decide (lo ≤ n) && decide (n ≤ hi)
def pull (l s : Int) : Int := (l * (1000 + s)).tdiv 1000
def tame (m n : Int) : Prop := -m ≤ n ∧ n ≤ m
theorem P54 (hG : GOk Try.prog Γ) (n lo hi : Int) : Qa9 Try.prog 13 [.i n, .i lo, .i hi] (.b (Qak n lo hi)) := by
 refine Qac hG hmix Try.func13 cb13 cc13 cs13 cn13 ?_
 simp only [rc13, rs13, Qa7, Qa8, Qag, Qa6, Qad, Qa5, Qa2, Fam.step, Qae, Qbu, Qb8, ug, evO, opv, qv, Qao, binV, Qa3, Qa0, Qa1, ↓reduceIte, Nat.reduceEqDiff, Nat.reduceAdd, Qb, Qc, Qy, Qx, endQ, rvs, rv1, resV, vw_b, zipA, Qe, V.b.injEq, Qu, Qz, decide_eq_true_eq, decide_eq_false_iff_not, true_and, and_true, and_self, implies_true, reduceCtorEq, beq_true, Qg2, imp_self]
 by_cases h : lo ≤ n <;> simp [h, Qak]
theorem P67 (hG : GOk Try.prog Γ) (n lo hi : Int) : Qa9 Try.prog 44 [.i n, .i lo, .i hi] (.b (Qak n lo hi)) := by
 refine Qac hG hmix Try.func44 cb44 cc44 cs44 cn44 ?_
 simp only [rc44, rs44, Qa7, Qa8, Qag, Qa6, Qad, Qa5, Qa2, Fam.step, Qae, Qbu, Qb8, ug, evO, opv, qv, Qao, binV, Qa3, Qa0, Qa1, ↓reduceIte, Nat.reduceEqDiff, Nat.reduceAdd, Qb, Qc, Qy, Qx, endQ, rvs, rv1, resV, vw_b, zipA, Qe, V.b.injEq, Qu, Qz, decide_eq_true_eq, decide_eq_false_iff_not, true_and, and_true, and_self, implies_true, reduceCtorEq, beq_true, Qg2, imp_self]
 by_cases h : lo ≤ n <;> simp [h, Qak]
theorem Qqi {a b m n : Int} (ha : tame m a) (hb : tame n b) (hm : 0 ≤ m) (hn : 0 ≤ n) : tame (m * n) (a * b) := by
 unfold tame at *
 constructor
 ·by_cases h : 0 ≤ a
  ·by_cases h' : 0 ≤ b
   ·have := Zl h h'; have := Zl hm hn; omega
   ·have := Zz ha.2 (show -b ≤ n by omega) (by omega) hm
    have e := Int.mul_neg a b
    omega
  ·by_cases h' : 0 ≤ b
   ·have := Zz (show -a ≤ m by omega) hb.2 (by omega) hm
    have e := Int.neg_mul a b
    omega
   ·have := Zl (show 0 ≤ -a by omega) (show 0 ≤ -b by omega)
    have e := Xj a b
    have := Zl hm hn
    omega
 ·by_cases h : 0 ≤ a
  ·by_cases h' : 0 ≤ b
   ·exact Zz ha.2 hb.2 h' hm
   ·have := Zl h (show 0 ≤ -b by omega)
    have e := Int.mul_neg a b
    have := Zl hm hn
    omega
  ·by_cases h' : 0 ≤ b
   ·have := Zl (show 0 ≤ -a by omega) h'
    have e := Int.neg_mul a b
    have := Zl hm hn
    omega
   ·have := Zz (show -a ≤ m by omega) (show -b ≤ n by omega) (by omega) hm
    have e := Xj a b
    omega
theorem Qtl {l s : Int} (hl : tame 1000000 l) (hs : tame 1000000 s) : inI (1000 + s) ∧ inI (l * (1000 + s)) ∧ inI (pull l s) := by
 have h1 : tame 1001000 (1000 + s) := by unfold tame at *; omega
 have h2 := Qqi hl h1 (by decide) (by decide)
 unfold pull inI
 unfold tame at *
 have h3 : (l * (1000 + s)).tdiv 1000 ≤ 1000000 * 1001000 ∧ -(1000000 * 1001000) ≤ (l * (1000 + s)).tdiv 1000 := by
  generalize l * (1000 + s) = x at *
  constructor
  ·by_cases h : 0 ≤ x
   ·rw [Q1 h]; omega
   ·have : x.tdiv 1000 ≤ 0 := by
     have e : x = -(-x) := by omega
     rw [e, Z3, Q1 (by omega)]; omega
    omega
  ·by_cases h : 0 ≤ x
   ·rw [Q1 h]; omega
   ·have e : x = -(-x) := by omega
    rw [e, Z3, Q1 (by omega)]; omega
 omega
theorem P57 (hG : GOk Try.prog Γ) (l s : Int) (hl : tame 1000000 l) (hs : tame 1000000 s) : Qa9 Try.prog 43 [.i l, .i s] (.i (pull l s)) := by
 obtain ⟨h1, h2, h3⟩ := Qtl hl hs
 refine Qac hG hmix Try.func43 cb43 cc43 cs43 cn43 ?_
 simp only [rc43, rs43, Qa7, Qa8, Qag, Qa6, Qad, Qa5, Qa2, Fam.step, Qae, evO, opv, qv, binV, Qa3, Qa0, Qa1, ↓reduceIte, Nat.reduceEqDiff, Int.reduceEq, Qb, Qc, endQ, rvs, rv1, resV, vw_i, zipA, Qe, V.i.injEq, true_and, and_self, reduceCtorEq, not_false_eq_true, ne_eq]
 exact ⟨h1, h2, by simpa [pull] using h3, rfl⟩
theorem P69 (hG : GOk Try.prog Γ) (l s : Int) (hl : tame 1000000 l) (hs : tame 1000000 s) : Qa9 Try.prog 45 [.i l, .i s] (.i (pull l s)) := by
 obtain ⟨h1, h2, h3⟩ := Qtl hl hs
 refine Qac hG hmix Try.func45 cb45 cc45 cs45 cn45 ?_
 simp only [rc45, rs45, Qa7, Qa8, Qag, Qa6, Qad, Qa5, Qa2, Fam.step, Qae, evO, opv, qv, binV, Qa3, Qa0, Qa1, ↓reduceIte, Nat.reduceEqDiff, Int.reduceEq, Qb, Qc, endQ, rvs, rv1, resV, vw_i, zipA, Qe, V.i.injEq, true_and, and_self, reduceCtorEq, not_false_eq_true, ne_eq]
 exact ⟨h1, h2, by simpa [pull] using h3, rfl⟩
def r54 : List V → Prop × V | [.i n, .i lo, .i hi] => (True, .b (Qak n lo hi)) | _ => (False, .u)
def r57 : List V → Prop × V | [.i l, .i s] => (tame 1000000 l ∧ tame 1000000 s, .i (pull l s)) | _ => (False, .u)
theorem h54 (hG : GOk Try.prog Γ) (vs : List V) (h : (r54 vs).1) : Qa9 Try.prog 13 vs (r54 vs).2 := by
 unfold r54 at h ⊢; split at h <;> first | exact P54 hG _ _ _ | exact h.elim
theorem h67 (hG : GOk Try.prog Γ) (vs : List V) (h : (r54 vs).1) : Qa9 Try.prog 44 vs (r54 vs).2 := by
 unfold r54 at h ⊢; split at h <;> first | exact P67 hG _ _ _ | exact h.elim
theorem h57 (hG : GOk Try.prog Γ) (vs : List V) (h : (r57 vs).1) : Qa9 Try.prog 43 vs (r57 vs).2 := by
 unfold r57 at h ⊢; split at h <;> first | exact P57 hG _ _ h.1 h.2 | exact h.elim
theorem h69 (hG : GOk Try.prog Γ) (vs : List V) (h : (r57 vs).1) : Qa9 Try.prog 45 vs (r57 vs).2 := by
 unfold r57 at h ⊢; split at h <;> first | exact P69 hG _ _ h.1 h.2 | exact h.elim
def GA : Gam := (((Γ0.ext 13 r54).ext 44 r54).ext 43 r57).ext 45 r57
theorem okA : GOk Try.prog GA :=
 (((Qlu.ext (fun a w => Try.call13 a w) (h54 Qlu)).ext (fun a w => Try.call44 a w) (h67 Qlu)).ext (fun a w => Try.call43 a w) (h57 Qlu)).ext (fun a w => Try.call45 a w) (h69 Qlu)
theorem gA54 (n lo hi : Int) : GA 13 [.i n, .i lo, .i hi] = (True, .b (Qak n lo hi)) := rfl
theorem gA67 (n lo hi : Int) : GA 44 [.i n, .i lo, .i hi] = (True, .b (Qak n lo hi)) := rfl
theorem gA57 (l s : Int) : GA 43 [.i l, .i s] = (tame 1000000 l ∧ tame 1000000 s, .i (pull l s)) := rfl
end Go.C02
set_option linter.unusedSimpArgs false
set_option linter.unusedVariables false
namespace Go.C02
open Go.Fam Go.Proofs
def Qc7 (s : Span) (most : Int) : Bool := Qak s.low 0 s.high && decide (s.high ≤ most)
theorem P73 (s : Span) (m : Int) : Qa9 Try.prog 63 [.ag (eSpan s), .i m] (.b (Qc7 s m)) := by
 refine Qac okA hmix Try.func63 cb63 cc63 cs63 cn63 ?_
 simp only [rc63, rs63, eSpan, gA67, Qa7, Qa8, Qag, Qa6, Qad, Qa5, Qa2, Fam.step, Qae, Qbu, Qb8, ug, evO, opv, qv, Qao, binV, ldV, Qaw, V.cells, Qas, Qaa, Qa4, flat, Qa3, Qa0, Qa1, ↓reduceIte, Nat.reduceEqDiff, Nat.reduceAdd, Nat.reduceLT, Nat.reduceLeDiff, Qb, Qc, Qy, Qx, Qd, Qf, Qh, Qn, Qg, Qk, endQ, rvs, rv1, resV, vw_i, vw_b, Qb1, zipA, Qe, V.b.injEq, Qu, Qz, Qi, Qa, true_and, and_true, and_self, implies_true, reduceCtorEq, beq_true, Qg2, Q6, imp_self, eSpan]
 by_cases h : Qak s.low 0 s.high = true <;> simp [h, Qc7]
theorem P58 (s : Span) (m : Int) : Qa9 Try.prog 14 [.ag (eSpan s), .i m] (.b (Qc7 s m)) := by
 refine Qac okA hmix Try.func14 cb14 cc14 cs14 cn14 ?_
 simp only [rc14, rs14, eSpan, Qa7, Qa8, Qag, Qa6, Qad, Qa5, Qa2, Fam.step, Qae, Qbu, Qb8, ug, evO, opv, qv, Qao, binV, ldV, V.cells, Qas, Qaa, Qa4, Qa3, Qa0, Qa1, ↓reduceIte, Nat.reduceEqDiff, Nat.reduceAdd, Nat.reduceLeDiff, Qb, Qc, Qy, Qx, Qd, Qf, Qh, Qn, Qg, endQ, rvs, rv1, resV, vw_i, vw_b, Qb1, zipA, Qe, V.b.injEq, Qu, Qz, Qi, Qa, decide_eq_true_eq, decide_eq_false_iff_not, true_and, and_true, and_self, implies_true, reduceCtorEq, beq_true, Qg2, Q6, imp_self, eSpan]
 by_cases h : 0 ≤ s.low <;> by_cases h' : s.low ≤ s.high <;> simp [h, h', Qc7, Qak]
def Qdr (s : Int) (x : Strip) : Bool := !(Qak (pull x.long s) x.pulled.low x.pulled.high)
def Qcw (l : List Strip) (s : Int) : Nat := l.countP (Qdr s)
theorem Qb4 {α : Type} {l : List α} {i : Nat} {x : α} (h : l[i]? = some x) : l.take (i + 1) = l.take i ++ [x] := by
 rw [List.take_add_one, h]; rfl
theorem P66 (b : Bolt) (s : Int) (hs : tame 1000 s) (hb : ∀ x ∈ b.strips, tame 10000 x.long) (hl : b.strips.length < 1000) : Qa9 Try.prog 28 [.ag (Qan b), .i s] (.i (Qcw b.strips s)) := by
 refine Qac okA hmix Try.func28 cb28 cc28 cs28 cn28 ?_
 simp only [rc28, rs28, Qan, Qa7, Qa8, Qab, Qa6, Qad, Qa5, Qa2, Fam.step, Qae, evO, opv, qv, V.cells, Qas, Qaa, Qa4, Qa3, Qa0, Qa1, ↓reduceIte, Nat.reduceEqDiff, Qb, Qc, vw_i, Qb3, Qb1, zipA, Qe, Qi, true_and, and_self, reduceCtorEq, Qan]
 refine Qbm b.strips.length (fun i => ⟨lkp [(1, .i s), (2, .pa (Qan b)), (5, .i (Qcw (b.strips.take i) s)), (6, .i i)], []⟩) ?_ ?_ ?_
 ·simp only [Qan, Qcw, Xk, Q4, kp, Qa0, Qa1, ↓reduceIte, Nat.reduceEqDiff, Qb, Qc, Zc, Qan]
 ·intro i hi
  obtain ⟨x, hx⟩ : ∃ x, b.strips[i]? = some x := ⟨_, Qm hi⟩
  have hlt : (i : Int) < b.strips.length := by omega
  have hm := Qv hx
  have hc : Qcw (b.strips.take i) s ≤ i := Nat.le_trans Z4 (by simp; omega)
  simp only [Qan, gA54, gA57, hx, Qbd, hlt, Qb4 hx, Qcw, Xd, Z5, Q3, Q5, Qah, Qa7, Qc6, Qa8, Qaf, Qc2, Qab, Qa6, Qbe, Qad, Qai, Qa5, Qa2, Fam.step, Qae, runX, eff, Qbb, fpR, fpQ, fpV, Qcj, hits, evO, opv, qv, binV, ldV, iadV, lenV, Qaw, Qaa, Qa4, flat, kp, Qa3, Qa0, Qa1, ↓reduceIte, Nat.reduceEqDiff, Nat.reduceAdd, Nat.reduceLT, Nat.reduceLeDiff, Qb, Qc, Qx, Qd, Qf, Qh, Qn, Qg, Qp, Qq, Qk, Zd, Qr, Zf, Za, Zg, vw_i, Qt, Qe, Qu, Qz, Zm, Qi, Zi, Zn, Qa, decide_true, true_and, and_true, and_self, implies_true, Q2, Zr, Ze, Q7, Qj, Qw, Ql, Qs, Zp, Qbd, Qan]
  have h1 := hb x hm
  have h2 : tame 1000000 x.long ∧ tame 1000000 s := by unfold tame at *; omega
  have h3 : inI ((i : Int) + 1) := by unfold inI; omega
  unfold Qcw at hc
  refine ⟨h2, fun h => ?_, fun h => ?_⟩
  ·have h4 : inI (((b.strips.take i).countP (Qdr s) : Int) + 1) := by unfold inI; omega
   have h5 : Qdr s x = true := by simpa [Qdr] using h
   exact ⟨h4, h3, by simp [h5]⟩
  ·have h5 : Qdr s x = false := by simpa [Qdr] using h
   exact ⟨h3, by simp [h5]⟩
 ·simp only [Qan, Zh, Qa7, Qa8, Qaf, Qar, Qag, Qa6, Qad, Qai, Qa5, Qa2, Fam.step, Qae, evO, opv, qv, binV, ldV, lenV, Qa3, Qa0, Qa1, ↓reduceIte, Nat.reduceEqDiff, Nat.reduceAdd, Nat.reduceLeDiff, Qb, Qc, Qd, Qf, Qh, Qn, Qg, endQ, rvs, rv1, resV, vw_i, Q8, Qe, Qa, decide_false, and_self, Qj, Qan]
def r73 : List V → Prop × V | [.ag [.i a, .i b], .i m] => (True, .b (Qc7 ⟨a, b⟩ m)) | _ => (False, .u)
theorem h73 (vs : List V) (h : (r73 vs).1) : Qa9 Try.prog 63 vs (r73 vs).2 := by
 unfold r73 at h ⊢; split at h <;> first | exact P73 ⟨_, _⟩ _ | exact h.elim
theorem h58 (vs : List V) (h : (r73 vs).1) : Qa9 Try.prog 14 vs (r73 vs).2 := by
 unfold r73 at h ⊢; split at h <;> first | exact P58 ⟨_, _⟩ _ | exact h.elim
def eBI (a : Bolt × Int) : List V := [.ag (Qan a.1), .i a.2]
def dBI : List V → Bolt × Int | [.ag cs, .i n] => (Qli cs, n) | _ => (⟨⟨0, 0⟩, [], 0⟩, 0)
theorem Qun (a : Bolt × Int) : dBI (eBI a) = a := by simp [dBI, eBI, Qep]
def ok66 (l : List Strip) (s : Int) : Prop := tame 1000 s ∧ (∀ x ∈ l, tame 10000 x.long) ∧ l.length < 1000
def r66 : List V → Prop × V := fnG eBI dBI (fun a => ok66 a.1.strips a.2) (fun a => (Qcw a.1.strips a.2 : Int)) .i
def GB : Gam := ((GA.ext 63 r73).ext 14 r73).ext 28 r66
theorem okB : GOk Try.prog GB :=
 ((okA.ext (fun a w => Try.call63 a w) h73).ext (fun a w => Try.call14 a w) h58).ext (fun a w => Try.call28 a w) (Qb7 fun a h => P66 a.1 a.2 h.1 h.2.1 h.2.2)
theorem gB54 (n lo hi : Int) : GB 13 [.i n, .i lo, .i hi] = (True, .b (Qak n lo hi)) := rfl
theorem gB67 (n lo hi : Int) : GB 44 [.i n, .i lo, .i hi] = (True, .b (Qak n lo hi)) := rfl
theorem gB73 (a b m : Int) : GB 63 [.ag [.i a, .i b], .i m] = (True, .b (Qc7 ⟨a, b⟩ m)) := rfl
theorem gB58 (a b m : Int) : GB 14 [.ag [.i a, .i b], .i m] = (True, .b (Qc7 ⟨a, b⟩ m)) := rfl
theorem gB66 (a b : Int) (l : List Strip) (w s : Int) : GB 28 [.ag [.i a, .i b, .sl 3 (l.map Qbd), .i w], .i s] = (ok66 l s, .i (Qcw l s)) :=
 (show GB 28 _ = r66 (eBI (⟨⟨a, b⟩, l, w⟩, s)) from rfl).trans (Qb9 _ (Qun _))
end Go.C02
set_option linter.unusedSimpArgs false
set_option linter.unusedVariables false
namespace Go.C02
open Go.Fam Go.Proofs
def can (b : Bolt) (s : Int) : Bool := Qak s b.stretch.low b.stretch.high && decide ((Qcw b.strips s : Int) ≤ b.wrong)
theorem P49 (b : Bolt) (s : Int) (h : ok66 b.strips s) : Qa9 Try.prog 12 [.ag (Qan b), .i s] (.b (can b s)) := by
 refine Qac okB hmix Try.func12 cb12 cc12 cs12 cn12 ?_
 simp only [rc12, rs12, Qan, gB54, gB66, h, Qa7, Qc6, Qa8, Qag, Qa6, Qbe, Qad, Qa5, Qa2, Fam.step, Qae, Qbu, Qb8, ug, runX, eff, Qbb, fpR, fpQ, fpV, Qcj, hits, evO, opv, qv, Qao, binV, ldV, Qaw, V.cells, Qas, Qaa, Qa4, flat, Qa3, Qa0, Qa1, ↓reduceIte, Nat.reduceEqDiff, Nat.reduceAdd, Nat.reduceLT, Nat.reduceLeDiff, Qb, Qc, Qy, Qx, Qd, Qf, Qh, Qn, Qo, Q0, Qg, Qp, Qq, Qk, Zd, Zf, Za, Zg, endQ, rvs, rv1, resV, vw_i, vw_b, Qb3, Qb1, zipA, Qe, V.b.injEq, Qu, Qz, Zm, Qi, Zi, Zn, Qa, true_and, and_true, and_self, implies_true, reduceCtorEq, Zr, Ze, beq_true, Qg2, Q6, imp_self, Ql, Qan]
 rfl
def Qdi (x : Strip) : Bool := Qak x.long 1 2000 && Qc7 x.pulled 4000
theorem P80 (s : Strip) : Qa9 Try.prog 70 [.ag (Qbd s)] (.b (Qdi s)) := by
 refine Qac okB hmix Try.func70 cb70 cc70 cs70 cn70 ?_
 simp only [rc70, rs70, Qbd, gB67, gB73, Qa7, Qa8, Qag, Qa6, Qad, Qa5, Qa2, Fam.step, Qae, Qbu, Qb8, ug, evO, opv, qv, Qao, ldV, Qaw, V.cells, Qas, Qaa, Qa4, flat, Qa3, Qa0, Qa1, ↓reduceIte, Nat.reduceEqDiff, Nat.reduceAdd, Nat.reduceLT, Nat.reduceLeDiff, Qb, Qc, Qy, Qx, Qd, Qf, Qh, Qn, Qo, Q0, Qg, Qk, endQ, rvs, rv1, resV, vw_i, vw_b, Qb1, zipA, Qe, V.b.injEq, Qu, Qz, Qi, Qa, true_and, and_true, and_self, implies_true, beq_true, Qg2, Q6, imp_self, Qkm, Qbd]
 rfl
def Qd5 (b : Bolt) : Bool := Qc7 b.stretch 60 && decide (b.strips.length ≤ 8) && Qak b.wrong 0 2 && b.strips.all Qdi
theorem P59 (b : Bolt) : Qa9 Try.prog 15 [.ag (Qan b)] (.b (Qd5 b)) := by
 refine Qac okB hmix Try.func15 cb15 cc15 cs15 cn15 ?_
 simp only [rc15, rs15, gB54, gB58, Qah, Qa7, Qa8, Qaf, Qc2, Qab, Qag, Qa6, Qad, Qa5, Qa2, Fam.step, Qae, Qbu, Qb8, ug, evO, opv, qv, Qao, binV, ldV, lenV, Qaw, V.cells, Qas, Qaa, Qa4, flat, Qa3, Qa0, Qa1, ↓reduceIte, Nat.reduceEqDiff, Nat.reduceAdd, Nat.reduceLT, Nat.reduceLeDiff, Qb, Qc, Qy, Qx, Qd, Qf, Qh, Qn, Qo, Zc, Qg, Qk, endQ, rvs, rv1, resV, vw_i, vw_b, Qb3, Qb1, zipA, Qe, V.b.injEq, Qu, Qz, Qi, Qa, true_and, and_true, and_self, implies_true, beq_false, Zx, Zo, Q7, Qjm, Q6, Zj, imp_self, Qj, Q9, Qkm, Qan]
 refine ⟨fun h => ?_, fun h => ?_⟩
 ·unfold Qd5
  cases h1 : Qc7 b.stretch 60 <;> cases h2 : Qak b.wrong 0 2 <;> simp [h1, h2] at h ⊢
  intro h3; omega
 ·have hb : Qc7 b.stretch 60 = true ∧ b.strips.length ≤ 8 ∧ Qak b.wrong 0 2 = true := by
   cases h1 : Qc7 b.stretch 60 <;> cases h2 : Qak b.wrong 0 2 <;> simp [h1, h2] at h ⊢
   omega
  refine Qb5 b.strips.length (fun i => ⟨lkp [(1, .pa (Qan b)), (3, .i i)], []⟩) (fun i => (b.strips.take i).all Qdi = true) ?_ ?_ ?_ ?_
  ·simp only [Q4, kp, Qa0, Qa1, ↓reduceIte, Nat.reduceEqDiff, Qb, Qc, Qan]
  ·rfl
  ·intro i hi hc
   obtain ⟨x, hx⟩ : ∃ x, b.strips[i]? = some x := ⟨_, Qm hi⟩
   have hlt : (i : Int) < b.strips.length := by omega
   have h3 : inI ((i : Int) + 1) := by unfold inI; omega
   simp only [gB54, gB58, hx, hlt, Q3, Q5, Qd1 hx, hc, h3, Qah, Qa7, Qa8, Qaf, Qc2, Qab, Qag, Qa6, Qad, Qai, Qa5, Qa2, Fam.step, Qae, Qbu, Qb8, ug, evO, opv, qv, Qao, binV, ldV, iadV, lenV, Qaw, Qaa, Qa4, flat, kp, Qa3, Qa0, Qa1, ↓reduceIte, Nat.reduceEqDiff, Nat.reduceAdd, Nat.reduceLT, Nat.reduceLeDiff, Qb, Qc, Qy, Qx, Qd, Qf, Qh, Qn, Qo, Q0, Qg, Qk, Qr, endQ, rvs, rv1, resV, vw_i, vw_b, Qb1, Qt, Qe, V.b.injEq, Qu, Qz, Zs, Qi, Qa, decide_true, true_and, and_true, and_self, implies_true, Q2, beq_false, Zx, Zo, Q7, Qjm, Zj, imp_self, Qj, Qw, Ql, Qs, Q9, Qkm, Qbd, Qan]
   refine ⟨fun h => ?_, fun h => ?_⟩
   ·have h5 : Qdi x = false := by cases h1 : Qak x.long 1 2000 <;> cases h2 : Qc7 x.pulled 4000 <;> simp [Qdi, h1, h2] at h ⊢
    simp [Qd5, Qeb hx h5]
   ·unfold Qdi
    cases h1 : Qak x.long 1 2000 <;> cases h2 : Qc7 x.pulled 4000 <;> simp [h1, h2] at h ⊢
  ·intro hc
   rw [Zh] at hc
   simp only [Qa7, Qa8, Qaf, Qar, Qag, Qa6, Qad, Qai, Qa5, Qa2, Fam.step, Qae, evO, opv, qv, binV, ldV, lenV, Qa3, Qa0, Qa1, ↓reduceIte, Nat.reduceEqDiff, Nat.reduceAdd, Nat.reduceLeDiff, Qb, Qc, Qd, Qf, Qh, Qn, Qg, endQ, rvs, rv1, resV, vw_b, Q8, Qe, V.b.injEq, Qa, decide_false, true_and, and_self, Qj, Qan]
   simp [Qd5, hb, hc]
def dB : List V → Bolt | [.ag cs] => Qli cs | _ => ⟨⟨0, 0⟩, [], 0⟩
def r49 : List V → Prop × V := fnG eBI dBI (fun a => ok66 a.1.strips a.2) (fun a => can a.1 a.2) .b
def r59 : List V → Prop × V := fnG (fun b => [.ag (Qan b)]) dB (fun _ => True) Qd5 .b
def r80 : List V → Prop × V | [.ag [.i a, .i b, .i c]] => (True, .b (Qdi ⟨a, ⟨b, c⟩⟩)) | _ => (False, .u)
theorem h80 (vs : List V) (h : (r80 vs).1) : Qa9 Try.prog 70 vs (r80 vs).2 := by
 unfold r80 at h ⊢; split at h <;> first | exact P80 ⟨_, ⟨_, _⟩⟩ | exact h.elim
def GC : Gam := ((GB.ext 12 r49).ext 15 r59).ext 70 r80
theorem okC : GOk Try.prog GC :=
 ((okB.ext (fun a w => Try.call12 a w) (Qb7 fun a h => P49 a.1 a.2 h)).ext (fun a w => Try.call15 a w) (Qb7 fun a _ => P59 a)).ext (fun a w => Try.call70 a w) h80
theorem gC54 (n lo hi : Int) : GC 13 [.i n, .i lo, .i hi] = (True, .b (Qak n lo hi)) := rfl
theorem gC67 (n lo hi : Int) : GC 44 [.i n, .i lo, .i hi] = (True, .b (Qak n lo hi)) := rfl
theorem gC69 (l s : Int) : GC 45 [.i l, .i s] = (tame 1000000 l ∧ tame 1000000 s, .i (pull l s)) := rfl
theorem gC73 (a b m : Int) : GC 63 [.ag [.i a, .i b], .i m] = (True, .b (Qc7 ⟨a, b⟩ m)) := rfl
theorem gC58 (a b m : Int) : GC 14 [.ag [.i a, .i b], .i m] = (True, .b (Qc7 ⟨a, b⟩ m)) := rfl
theorem gC59 (a b : Int) (l : List Strip) (w : Int) : GC 15 [.ag [.i a, .i b, .sl 3 (l.map Qbd), .i w]] = (True, .b (Qd5 ⟨⟨a, b⟩, l, w⟩)) :=
 (show GC 15 _ = r59 [.ag (Qan ⟨⟨a, b⟩, l, w⟩)] from rfl).trans (Qb9 (e := fun b => [.ag (Qan b)]) (⟨⟨a, b⟩, l, w⟩ : Bolt) (Qep _))
end Go.C02
set_option linter.unusedSimpArgs false
set_option linter.unusedVariables false
namespace Go.C02
open Go.Fam Go.Proofs
def Qh8 (d : Dome) : Bool := Qak d.bolts.length 1 4 && Qak d.gores.length 3 16 && Qak d.loss 0 20 && Qak d.rounds.length 1 12 && decide (d.widths.length = d.rounds.length) && Qak d.slope 0 500
def Qh7 (d : Dome) (g : Int) : Bool := Qak g 0 (d.bolts.length - 1)
def Qe9 (s : Span) : Bool := Qc7 s 40000
def Qea (d : Dome) (n : Int) : Bool := Qak n (2 * d.loss) 2000
def Qdk (d : Dome) : Bool := Qh8 d && d.gores.all (Qh7 d) && d.rounds.all Qe9 && d.widths.all (Qea d)
def Qc3 (d : Dome) : Int := if Qdk d then (if d.bolts.all Qd5 then 0 else 21) else 20
theorem P39 (d : Dome) : Qa9 Try.prog 5 [.ag (Qaj d)] (.i (Qc3 d)) := by
 refine Qac okC hmix Try.func5 cb5 cc5 cs5 cn5 ?_
 simp only [rc5, rs5, gC54, Qah, Qa7, Qa8, Qaf, Qc2, Qab, Qag, Qa6, Qad, Qa5, Qa2, Fam.step, Qae, Qbu, Qb8, ug, evO, opv, qv, Qao, binV, ldV, lenV, Qaw, V.cells, Qas, Qaa, Qa4, flat, Qa3, Qa0, Qa1, ↓reduceIte, Nat.reduceEqDiff, Nat.reduceAdd, Nat.reduceLT, Nat.reduceLeDiff, Qb, Qc, Qy, Qx, Qd, Qf, Qh, Qn, Qg, Qk, endQ, rvs, rv1, resV, vw_i, Qb3, Qb1, zipA, Qe, V.i.injEq, Qu, Qz, Qi, Qa, true_and, and_true, and_self, implies_true, beq_false, Zx, Zo, Q7, Qjm, Q6, Zj, imp_self, Qj, Q9, Qaj]
 refine ⟨fun h => ?_, fun h => ?_⟩
 ·have h1 : Qh8 d = false := by
   unfold Qh8
   cases h1 : Qak (↑d.bolts.length) 1 4 <;> cases h2 : Qak (↑d.gores.length) 3 16 <;> cases h3 : Qak d.loss 0 20 <;> cases h4 : Qak (↑d.rounds.length) 1 12 <;> cases h5 : Qak d.slope 0 500 <;>
    simp [h1, h2, h3, h4, h5] at h ⊢
   omega
  simp [Qc3, Qdk, h1]
 have hh : Qh8 d = true := by
  unfold Qh8
  cases h1 : Qak (↑d.bolts.length) 1 4 <;> cases h2 : Qak (↑d.gores.length) 3 16 <;> cases h3 : Qak d.loss 0 20 <;> cases h4 : Qak (↑d.rounds.length) 1 12 <;> cases h5 : Qak d.slope 0 500 <;>
   simp [h1, h2, h3, h4, h5] at h ⊢
  omega
 have hs : d.bolts.length ≤ 4 ∧ d.gores.length ≤ 16 ∧ (0 ≤ d.loss ∧ d.loss ≤ 20) ∧ d.rounds.length ≤ 12 ∧ d.widths.length = d.rounds.length := by
  simp [Qh8, Qak] at hh
  omega
 have hin : inI (2 * d.loss) := by unfold inI; omega
 have hin2 : inI ((d.bolts.length : Int) - 1) := by unfold inI; omega
 refine Qb5 d.gores.length (fun i => ⟨lkp [(1, .pa (Qaj d)), (3, .i i)], []⟩) (fun i => (d.gores.take i).all (Qh7 d) = true) ?_ ?_ ?_ ?_
 ·simp only [Q4, kp, Qa0, Qa1, ↓reduceIte, Nat.reduceEqDiff, Qb, Qc, Qaj]
 ·rfl
 ·intro i hi hc
  obtain ⟨x, hx⟩ : ∃ x, d.gores[i]? = some x := ⟨_, Qm hi⟩
  have hlt : (i : Int) < d.gores.length := by omega
  have h3 : inI ((i : Int) + 1) := by unfold inI; omega
  simp only [gC54, hx, hlt, Q3, Q5, Qd1 hx, hc, h3, hin2, Qah, Qa7, Qc6, Qa8, Qaf, Qc2, Qab, Qag, Qa6, Qbe, Qad, Qai, Qa5, Qa2, Fam.step, Qae, runX, eff, Qbb, fpR, fpQ, fpV, Qcj, hits, evO, opv, qv, binV, ldV, iadV, lenV, Qaw, Qaa, Qa4, flat, kp, Qa3, Qa0, Qa1, ↓reduceIte, Nat.reduceEqDiff, Nat.reduceAdd, Nat.reduceLT, Nat.reduceLeDiff, Qb, Qc, Qx, Qd, Qf, Qh, Qn, Qg, Qp, Qq, Qk, Zd, Qr, Zf, Za, Zg, endQ, rvs, rv1, resV, vw_i, Qt, Qe, V.i.injEq, Qu, Qz, Zs, Zm, Qi, Zi, Zn, Qa, decide_true, true_and, and_true, and_self, implies_true, Q2, Zr, Ze, Q7, Qj, Qw, Ql, Qs, Zp, Qaj, eI]
  refine ⟨fun h => ?_, fun h => ?_⟩
  ·have h5 : Qh7 d x = false := h
   simp [Qc3, Qdk, Qeb hx h5]
  ·exact h
 intro hc1
 rw [Zh] at hc1
 simp only [Qa7, Qa8, Qaf, Qab, Qar, Qa6, Qad, Qai, Qa5, Qa2, Fam.step, Qae, evO, opv, qv, binV, ldV, lenV, Qa3, Qa0, Qa1, ↓reduceIte, Nat.reduceEqDiff, Nat.reduceAdd, Nat.reduceLeDiff, Qb, Qc, Qd, Qf, Qh, Qn, Qg, Q8, Qe, Qa, decide_false, true_and, Qj, Qaj]
 refine Qb5 d.rounds.length (fun i => ⟨lkp [(1, .pa (Qaj d)), (4, .i i)], []⟩) (fun i => (d.rounds.take i).all Qe9 = true ∧ (d.widths.take i).all (Qea d) = true) ?_ ?_ ?_ ?_
 ·simp only [Q4, kp, Qa0, Qa1, ↓reduceIte, Nat.reduceEqDiff, Qb, Qc, Qaj]
 ·exact ⟨rfl, rfl⟩
 ·intro i hi hc
  obtain ⟨x, hx⟩ : ∃ x, d.rounds[i]? = some x := ⟨_, Qm hi⟩
  obtain ⟨y, hy⟩ : ∃ y, d.widths[i]? = some y := ⟨_, Qm (by omega)⟩
  have hlt : (i : Int) < d.rounds.length := by omega
  have hlt' : (i : Int) < d.widths.length := by omega
  have h3 : inI ((i : Int) + 1) := by unfold inI; omega
  simp only [gC54, gC58, hx, hy, hlt, hlt', Q3, Q5, Qd1 hx, Qd1 hy, hc.1, hc.2, h3, hin, Qah, Qa7, Qc6, Qa8, Qaf, Qc2, Qab, Qag, Qa6, Qbe, Qad, Qai, Qa5, Qa2, Fam.step, Qae, Qbu, Qb8, ug, runX, eff, Qbb, fpR, fpQ, fpV, Qcj, hits, evO, opv, qv, Qao, binV, ldV, iadV, lenV, Qaw, Qaa, Qa4, flat, kp, Qa3, Qa0, Qa1, ↓reduceIte, Nat.reduceEqDiff, Nat.reduceAdd, Nat.reduceLT, Nat.reduceLeDiff, Qb, Qc, Qy, Qx, Qd, Qf, Qh, Qn, Qo, Q0, Qg, Qp, Qq, Qk, Zd, Qr, Zf, Za, Zg, endQ, rvs, rv1, resV, vw_i, Qb1, Qt, Qe, V.i.injEq, Qu, Qz, Zs, Zm, Qi, Zi, Zn, Qa, decide_true, true_and, and_true, and_self, implies_true, Q2, Zr, Ze, beq_false, Zx, Zo, Q7, Qjm, Zj, imp_self, Qj, Qw, Ql, Qs, Q9, Qkm, eSpan, Qaj, eI]
  refine ⟨fun h => ?_, fun h => ?_⟩
  ·by_cases h5 : Qc7 x 40000 = true
   ·have h6 : Qea d y = false := by simpa [h5, Qea] using h
    simp [Qc3, Qdk, Qeb hy h6]
   ·have h6 : Qe9 x = false := by simpa [Qe9] using h5
    simp [Qc3, Qdk, Qeb hx h6]
  ·have h7 : Qc7 x 40000 = true ∧ Qak y (2 * d.loss) 2000 = true := by
    cases h1 : Qc7 x 40000 <;> cases h2 : Qak y (2 * d.loss) 2000 <;> simp [h1, h2] at h ⊢
   exact ⟨h7.1, h7.2⟩
 intro hc2
 rw [Zh, ← hs.2.2.2.2, Zh] at hc2
 simp only [Qa7, Qa8, Qaf, Qab, Qar, Qa6, Qad, Qai, Qa5, Qa2, Fam.step, Qae, evO, opv, qv, binV, ldV, lenV, Qa3, Qa0, Qa1, ↓reduceIte, Nat.reduceEqDiff, Nat.reduceAdd, Nat.reduceLeDiff, Qb, Qc, Qd, Qf, Qh, Qn, Qg, Q8, Qe, Qa, decide_false, true_and, Qj, Qaj]
 refine Qb5 d.bolts.length (fun i => ⟨lkp [(1, .pa (Qaj d)), (5, .i i)], []⟩) (fun i => (d.bolts.take i).all Qd5 = true) ?_ ?_ ?_ ?_
 ·simp only [Q4, kp, Qa0, Qa1, ↓reduceIte, Nat.reduceEqDiff, Qb, Qc, Qaj]
 ·rfl
 ·intro i hi hc
  obtain ⟨x, hx⟩ : ∃ x, d.bolts[i]? = some x := ⟨_, Qm hi⟩
  have hlt : (i : Int) < d.bolts.length := by omega
  have h3 : inI ((i : Int) + 1) := by unfold inI; omega
  simp only [gC59, hx, hlt, Q3, Q5, Qd1 hx, hc, h3, Qah, Qa7, Qa8, Qaf, Qc2, Qab, Qag, Qa6, Qad, Qai, Qa5, Qa2, Fam.step, Qae, evO, opv, qv, binV, ldV, iadV, lenV, Qaw, Qaa, Qa4, flat, kp, Qa3, Qa0, Qa1, ↓reduceIte, Nat.reduceEqDiff, Nat.reduceAdd, Nat.reduceLT, Nat.reduceLeDiff, Qb, Qc, Qd, Qf, Qn, Qo, Q0, Qg, Qk, Qr, endQ, rvs, rv1, resV, vw_i, Qb3, Qb1, Qt, Qe, V.i.injEq, Zs, Qi, Qa, decide_true, true_and, and_true, and_self, implies_true, Q2, Q7, imp_self, Qj, Qw, Ql, Qs, Zp, Qkm, Quh, Qan, Qaj]
  intro h
  simp [Qc3, Qdk, hh, hc1, hc2, Qeb hx h]
 intro hc3
 rw [Zh] at hc3
 simp only [Qa7, Qa8, Qaf, Qar, Qag, Qa6, Qad, Qai, Qa5, Qa2, Fam.step, Qae, evO, opv, qv, binV, ldV, lenV, Qa3, Qa0, Qa1, ↓reduceIte, Nat.reduceEqDiff, Nat.reduceAdd, Nat.reduceLeDiff, Qb, Qc, Qd, Qf, Qn, Qg, endQ, rvs, rv1, resV, vw_i, Q8, Qe, V.i.injEq, Qa, decide_false, true_and, and_self, Qj, Qaj]
 simp [Qc3, Qdk, hh, hc1, hc2, hc3]
end Go.C02
set_option linter.unusedSimpArgs false
set_option linter.unusedVariables false
namespace Go.C02
open Go.Fam Go.Proofs
def dD : List V → Dome | [.ag cs] => Qj9 cs | _ => ⟨[], [], 0, [], [], 0⟩
def r39 : List V → Prop × V := fnG (fun d => [.ag (Qaj d)]) dD (fun _ => True) Qc3 .i
theorem P46 (d : Dome) (n : Int) (h : d.rounds.length < 1000) : Qa9 Try.prog 29 [.ag (Qaj d), .i n] (.b (Qak n 0 (d.rounds.length - 1))) := by
 refine Qac okC hmix Try.func29 cb29 cc29 cs29 cn29 ?_
 simp only [rc29, rs29, gC67, Qa7, Qa8, Qag, Qa6, Qad, Qa5, Qa2, Fam.step, Qae, evO, opv, qv, binV, ldV, lenV, Qaw, V.cells, Qas, Qaa, Qa4, flat, Qa3, Qa0, Qa1, ↓reduceIte, Nat.reduceEqDiff, Nat.reduceAdd, Nat.reduceLT, Nat.reduceLeDiff, Qb, Qc, Qd, Qf, Qh, Qn, Qg, Qk, endQ, rvs, rv1, resV, vw_i, vw_b, Qb3, Qb1, zipA, Qe, Qi, Qa, true_and, and_true, and_self, implies_true, reduceCtorEq, Qj, Qaj]
 unfold inI; omega
theorem P56 (d : Dome) (n : Int) (h : d.bolts.length < 1000) : Qa9 Try.prog 59 [.ag (Qaj d), .i n] (.b (Qak n 0 (d.bolts.length - 1))) := by
 refine Qac okC hmix Try.func59 cb59 cc59 cs59 cn59 ?_
 simp only [rc59, rs59, gC67, Qa7, Qa8, Qag, Qa6, Qad, Qa5, Qa2, Fam.step, Qae, evO, opv, qv, binV, ldV, lenV, Qaw, V.cells, Qas, Qaa, Qa4, flat, Qa3, Qa0, Qa1, ↓reduceIte, Nat.reduceEqDiff, Nat.reduceAdd, Nat.reduceLT, Nat.reduceLeDiff, Qb, Qc, Qd, Qf, Qn, Qg, Qk, endQ, rvs, rv1, resV, vw_i, vw_b, Qb3, Qb1, zipA, Qe, Qi, Qa, true_and, and_true, and_self, implies_true, reduceCtorEq, Qj, Qaj]
 unfold inI; omega
theorem Qnv {l s : Int} (hl : tame 1000000 l) (hs : tame 1000000 s) : tame 1001000000000 (pull l s) := by
 have h1 : tame 1001000 (1000 + s) := by unfold tame at *; omega
 have h2 := Qqi hl h1 (by decide) (by decide)
 unfold pull
 unfold tame at *
 generalize l * (1000 + s) = x at *
 constructor
 ·by_cases h : 0 ≤ x
  ·rw [Q1 h]; omega
  ·have e : x = -(-x) := by omega
   rw [e, Z3, Q1 (by omega)]; omega
 ·by_cases h : 0 ≤ x
  ·rw [Q1 h]; omega
  ·have e : x = -(-x) := by omega
   rw [e, Z3, Q1 (by omega)]; omega
theorem Qqw {M : Int} (hM : 0 ≤ M) : ∀ (l : List Int), (∀ x ∈ l, tame M x) → tame (M * l.length) l.sum
 | [], _ => by simp [tame]
 | x :: l, h => by
  have h1 := h x (by simp)
  have h2 := Qqw hM l fun y hy => h y (by simp [hy])
  have h3 : M * ((x :: l).length : Int) = M * l.length + M := by rw [Qd, Q3, Int.mul_add]; simp
  rw [h3, List.sum_cons]
  unfold tame at *
  omega
def Qkf (l : List Int) (f : Int → Int) : Int := (l.map f).sum
theorem Qrp {l : List Int} {f : Int → Int} {i : Nat} {x : Int} (h : l[i]? = some x) : Qkf (l.take (i + 1)) f = Qkf (l.take i) f + f x := by
 simp [Qkf, Qb4 h]
theorem Qqv {l : List Int} {f : Int → Int} (i : Nat) (hl : l.length ≤ 100000) (hf : ∀ x ∈ l, tame 1001000000000 (f x)) : tame 100100000000000000 (Qkf (l.take i) f) := by
 have := Qqw (M := 1001000000000) (by decide) ((l.take i).map f) (fun y hy => by
  obtain ⟨x, hx, rfl⟩ := List.mem_map.1 hy
  exact hf x (List.mem_of_mem_take hx))
 have h2 : ((l.take i).map f).length ≤ l.length := by simp; omega
 unfold Qkf
 unfold tame at *
 omega
theorem P61 (b : Bolt) (s : Int) (h : ok66 b.strips s) : Qa9 Try.prog 35 [.ag (Qan b), .i s] (.i (Qcw b.strips s)) := by
 refine Qac okC hmix Try.func35 cb35 cc35 cs35 cn35 ?_
 obtain ⟨hs, hb, hl⟩ := h
 simp only [rc35, rs35, Qa7, Qa8, Qab, Qa6, Qad, Qa5, Qa2, Fam.step, Qae, evO, opv, qv, ldV, lenV, V.cells, Qas, Qaa, Qa4, Qa3, Qa0, Qa1, ↓reduceIte, Nat.reduceEqDiff, Nat.reduceAdd, Nat.reduceLeDiff, Qb, Qc, Qd, Qf, Qh, Qn, Qg, vw_i, Qb3, Qb1, zipA, Qe, Qi, Qa, true_and, and_self, reduceCtorEq, Qj, Qan]
 refine Qbm b.strips.length (fun i => ⟨lkp [(1, .i s), (4, .i (Qcw (b.strips.take i) s)), (8, .sl 3 (b.strips.map Qbd)), (9, .i b.strips.length), (10, .i i)], []⟩) ?_ ?_ ?_
 ·simp only [Qcw, Xk, Q4, cutH, kp, cutV, Qa0, Qa1, ↓reduceIte, Nat.reduceEqDiff, Qb, Qc, Zc, Q0]
 ·intro i hi
  obtain ⟨x, hx⟩ : ∃ x, b.strips[i]? = some x := ⟨_, Qm hi⟩
  have hlt : (i : Int) < b.strips.length := by omega
  have hm := Qv hx
  have hc : Qcw (b.strips.take i) s ≤ i := Nat.le_trans Z4 (by simp; omega)
  simp only [gC67, gC69, hx, hlt, Qb4 hx, Qcw, Xd, Z5, Q3, Q5, Qah, Qa7, Qc6, Qa8, Qaf, Qc2, Qab, Qa6, Qc9, ↓Qbj, Qbe, cutH, putB, Qad, Qai, Qa5, Qa2, Fam.step, Qae, Qbp, Qau, runX, eff, Qbb, fpR, fpQ, fpV, Qcj, hits, putB, nv, sv, evO, opv, qv, binV, ldV, iadV, curG, Qaw, putAt, V.cells, Qas, Qaz, Qaa, Qa4, flat, kp, cutV, Qa3, Qap, Qa0, Qa1, ↓reduceIte, Nat.reduceEqDiff, Nat.reduceAdd, Nat.reduceLT, Nat.reduceLeDiff, Qb, Qc, Qy, Qx, Qd, Qf, Qh, Qn, Zv, Qo, Zc, Q0, Qg, Qp, Qq, Qk, Zb, Zd, Qr, Zf, Zk, Za, Zg, vw_i, Qt, beq_self_eq_true, Qe, Zy, Qu, Qz, Zm, Qi, Zi, Zn, Qa, decide_true, true_and, and_true, and_self, implies_true, Q2, Zr, Zw, Ze, Q7, Qj, Qw, Ql, Qs, Zp, Qbd]
  have h1 := hb x hm
  have h2 : tame 1000000 x.long ∧ tame 1000000 s := by unfold tame at *; omega
  have h3 : inI ((i : Int) + 1) := by unfold inI; omega
  unfold Qcw at hc
  refine ⟨h2, fun h => ?_, fun h => ?_⟩
  ·have h4 : inI (((b.strips.take i).countP (Qdr s) : Int) + 1) := by unfold inI; omega
   have h5 : Qdr s x = true := by simpa [Qdr] using h
   exact ⟨h4, h3, by simp [h5]⟩
  ·have h5 : Qdr s x = false := by simpa [Qdr] using h
   exact ⟨h3, by simp [h5]⟩
 ·simp only [Zh, Qa7, Qa8, Qaf, Qar, Qag, Qa6, Qad, Qai, Qa5, Qa2, Fam.step, Qae, evO, opv, qv, binV, Qa3, Qa0, Qa1, ↓reduceIte, Nat.reduceEqDiff, Qb, Qc, endQ, rvs, rv1, resV, vw_i, Q8, Qa, decide_false, and_self]
def Qp2 (t : Tent) (g : Int) : Int := ((t.can[g.toNat]?).getD []).headD 0
def Qjk (t : Tent) (g : Int) : Int := ((t.can[g.toNat]?).getD []).getLastD 0
def Qgq (t : Tent) (w : Int) : Span := ⟨Qkf t.dome.gores fun g => pull (w - 2 * t.dome.loss) (Qp2 t g), Qkf t.dome.gores fun g => pull (w - 2 * t.dome.loss) (Qjk t g)⟩
def ok50 (t : Tent) (w : Int) : Prop := tame 100000 w ∧ tame 100000 t.dome.loss ∧ (∀ g ∈ t.dome.gores, 0 ≤ g ∧ g < t.can.length) ∧ (∀ l ∈ t.can, l ≠ [] ∧ l.length < 100000 ∧ ∀ s ∈ l, tame 100000 s) ∧ t.dome.gores.length < 100000
theorem P50 (t : Tent) (w : Int) (h : ok50 t w) : Qa9 Try.prog 30 [.pa (Qcz t), .i w] (.ag (eSpan (Qgq t w))) := by
 refine Qac okC hmix Try.func30 cb30 cc30 cs30 cn30 ?_
 obtain ⟨h1, h2, h3, h4, h5⟩ := h
 simp only [rc30, rs30, Qa7, Qa8, Qab, Qa6, Qad, Qa5, Qa2, Fam.step, Qae, Qbp, Qau, nv, evO, opv, qv, ldV, lenV, Qa3, Qa0, Qa1, ↓reduceIte, Nat.reduceEqDiff, Nat.reduceAdd, Nat.reduceLeDiff, Qb, Qc, Qd, Qf, Qh, Qn, Qg, Qp, Qq, zipA, Qe, Qa, true_and, and_self, reduceCtorEq, Qj, eSpan, Qaj, Qcz]
 have i1 : inI (2 * t.dome.loss) := by unfold inI tame at *; omega
 have i2 : inI (w - 2 * t.dome.loss) := by unfold inI tame at *; omega
 have i3 : tame 1000000 (w - 2 * t.dome.loss) := by unfold tame at *; omega
 have hget : ∀ g ∈ t.dome.gores, ∃ x l', t.can[g.toNat]? = some (x :: l') ∧ (∀ s ∈ x :: l', tame 100000 s) ∧ (x :: l').length < 100000 := by
  intro g hg
  obtain ⟨h6, h7⟩ := h3 g hg
  obtain ⟨y, hy⟩ : ∃ y, t.can[g.toNat]? = some y := ⟨_, Qm (by omega)⟩
  obtain ⟨a1, a2, a3⟩ := h4 y (Qv hy)
  cases y with
  | nil => exact absurd rfl a1
  | cons x l' => exact ⟨x, l', hy, a3, a2⟩
 have hlast : ∀ (x : Int) (l' : List Int), (x :: l')[l'.length]? = some ((x :: l').getLastD 0) := by
  intro x l'
  have := List.getLast?_eq_getElem? (l := x :: l')
  simp only [Qd, Nat.add_sub_cancel] at this
  rw [← this, List.getLastD_eq_getLast?, List.getLast?_cons]
  rfl
 have hf1 : ∀ g ∈ t.dome.gores, tame 1001000000000 (pull (w - 2 * t.dome.loss) (Qp2 t g)) := by
  intro g hg
  obtain ⟨x, l', e, a, _⟩ := hget g hg
  refine Qnv i3 ?_
  have := a x (by simp)
  simp only [Qp2, e, Qr, Qg]
  unfold tame at *; omega
 have hf2 : ∀ g ∈ t.dome.gores, tame 1001000000000 (pull (w - 2 * t.dome.loss) (Qjk t g)) := by
  intro g hg
  obtain ⟨x, l', e, a, _⟩ := hget g hg
  refine Qnv i3 ?_
  have := a ((x :: l').getLastD 0) (Qv (hlast x l'))
  simp only [Qjk, e, Qr]
  unfold tame at *; omega
 refine Qbm t.dome.gores.length (fun i => ⟨lkp [(0, .pa (Qcz t)), (1, .i w), (4, .ad 0 0 0), (12, .sl 1 (t.dome.gores.map eI)), (13, .i t.dome.gores.length), (14, .i i)],
  [.cells 0 [.i (Qkf (t.dome.gores.take i) fun g => pull (w - 2 * t.dome.loss) (Qp2 t g)), .i (Qkf (t.dome.gores.take i) fun g => pull (w - 2 * t.dome.loss) (Qjk t g))]]⟩) ?_ ?_ ?_
 ·simp only [Q4, kp, Qa0, Qa1, ↓reduceIte, Nat.reduceEqDiff, Qb, Qc, Zc, Qp, Qq, reduceCtorEq, Qaj, Qcz]
  rfl
 ·intro i hi
  obtain ⟨g, hg⟩ : ∃ g, t.dome.gores[i]? = some g := ⟨_, Qm hi⟩
  have hm := Qv hg
  obtain ⟨h6, h7⟩ := h3 g hm
  obtain ⟨x, l', hy, hc, hlen⟩ := hget g hm
  have hl := hlast x l'
  have hlt : (i : Int) < t.dome.gores.length := by omega
  have i4 : inI ((i : Int) + 1) := by unfold inI; omega
  have e1 : Qp2 t g = x := by simp [Qp2, hy]
  have e2 : Qjk t g = (x :: l').getLastD 0 := by simp only [Qjk, hy, Qr]
  have i5 : tame 1000000 x := by have := hc x (by simp); unfold tame at *; omega
  have i6 : tame 1000000 ((x :: l').getLastD 0) := by have := hc _ (Qv hl); unfold tame at *; omega
  have j1 := Qqv i (by omega) hf1
  have j2 := Qqv i (by omega) hf2
  have j3 := hf1 g hm
  have j4 := hf2 g hm
  generalize hL : (x :: l').getLastD 0 = z at *
  have hl' : ([V.i x] :: l'.map eI)[l'.length]? = some [V.i z] := by
   have : ((x :: l').map eI)[l'.length]? = some (eI z) := by rw [Qs, hl]; rfl
   exact this
  have k3 : inI (l'.length : Int) := by simp at hlen; unfold inI; omega
  have k4 : (0 : Int) < l'.length + 1 := by omega
  have k5 : (l'.length : Int) < l'.length + 1 := by omega
  have k1 : inI ((Qkf (t.dome.gores.take i) fun g => pull (w - 2 * t.dome.loss) (Qp2 t g)) + pull (w - 2 * t.dome.loss) x) := by rw [e1] at j3; unfold inI tame at *; omega
  have k2 : inI ((Qkf (t.dome.gores.take i) fun g => pull (w - 2 * t.dome.loss) (Qjk t g)) + pull (w - 2 * t.dome.loss) z) := by rw [e2] at j4; unfold inI tame at *; omega
  simp only [gC69, hg, hlt, Q3, Q5, Qrp hg, hy, h6, h7, i1, i2, i3, i4, i5, i6, k1, k2, k3, k4, k5, hl', e1, e2, Qah, Qa7, Qc6, Qa8, Qaf, Qab, Qa6, Qbe, optL, Qad, Qai, Qa5, Qa2, Fam.step, Qae, Qau, runX, eff, Qbb, fpR, fpQ, fpV, Qcj, hits, nv, sv, evO, opv, qv, binV, ldV, iadV, lenV, curG, Qaw, putAt, V.cells, Qas, Qaz, Qaa, Qa4, flat, kp, Qa3, Qap, Qa0, Qa1, ↓reduceIte, Nat.reduceEqDiff, Nat.reduceAdd, Nat.reduceLT, Nat.reduceLeDiff, Z0, Z7, Int.reduceLE, Qb, Qc, Qy, Qx, Qd, Qf, Qh, Qn, Zv, Qo, Zc, Qg, Qp, Qq, Qk, Zb, Zd, Qr, Zf, Zk, Za, Zg, Z1, vw_i, Qt, beq_self_eq_true, Qe, Zy, Qu, Qz, Zs, Zm, Qi, Zt, Zi, Zn, Qa, decide_true, and_self, implies_true, reduceCtorEq, Q2, Xc, Zr, Zw, Ze, Qj, Qw, Ql, Qs, Qaj, eI, eCan, Qcz]
 ·simp only [Zh, Qgq, Qa7, Qa8, Qaf, Qar, Qag, Qa6, putB, Qad, Qai, Qa5, Qa2, Fam.step, Qae, Qbp, Qau, putB, nv, sv, evO, opv, qv, binV, ldV, putAt, V.cells, Qas, Qaz, Qa3, Qap, Qa0, Qa1, ↓reduceIte, Nat.reduceEqDiff, Nat.reduceAdd, Nat.reduceLeDiff, Qb, Qc, Qy, Qx, Qd, Qf, Qh, Qn, Zv, Qo, Zc, Q0, Qp, Qq, Qk, Zb, Zk, endQ, rvs, rv1, resV, vw_i, Qb1, Q8, Qe, Qu, Qa, decide_false, and_self, reduceCtorEq, Qaj, Qcz]
end Go.C02
set_option linter.unusedSimpArgs false
set_option linter.unusedVariables false
namespace Go.C02
open Go.Fam Go.Proofs
variable {Γ : Gam}
def idxOf {α : Type} (p : α → Bool) (l : List α) : Int := if l.any p then (l.findIdx p : Int) else -1
theorem Qiu {α : Type} {p : α → Bool} {l : List α} {i : Nat} {x : α} (hx : l[i]? = some x) (e : p x = true) (hc : ∀ j x, j < i → l[j]? = some x → p x = false) : idxOf p l = i := by
 have h1 : l.any p = true := List.any_eq_true.2 ⟨x, Qv hx, e⟩
 have hl := Qam hx
 have h2 : l[i] = x := by have := Qm hl; rw [this] at hx; exact Xi.inj hx
 have h3 : l.findIdx p = i := (List.findIdx_eq hl).2 ⟨by rw [h2]; exact e, fun j hj => hc j _ hj (Qm (by omega))⟩
 simp [idxOf, h1, h3]
theorem Qfp {α : Type} {p : α → Bool} {l : List α} (h : ∀ x ∈ l, p x = false) : idxOf p l = -1 := by
 have : l.any p = false := by simpa using h
 simp [idxOf, this]
theorem Qha {α : Type} (p : α → Bool) (l : List α) : decide (0 ≤ idxOf p l) = l.any p := by
 unfold idxOf
 cases h : l.any p <;> simp
theorem P87 (hG : GOk Try.prog Γ) (x : Strip) (f : Nat) (hf : f < 1000000) (caps : List V) (b : Bool) (hv : caps.map (vw [] 8) = caps) (hr : Qa4 caps = false) (h : Γ f (V.ag (Qbd x) :: caps) = (True, .b b)) :
  Qa9 Try.prog 81 [V.ag (Qbd x), .pa [.fn f caps]] (.b (!b)) := by
 refine Qac hG hmix Try.func81 cb81 cc81 cs81 cn81 ?_
 simp only [rc81, rs81, Qa7, Qa8, Qag, Qa6, Qad, Qa5, Qa2, Fam.step, Qae, evO, opv, qv, ldV, Qaw, V.cells, Qas, Qaa, Qa4, Qa3, Qa0, Qa1, ↓reduceIte, Nat.reduceEqDiff, Nat.reduceAdd, Nat.reduceLeDiff, Qb, Qc, Qd, Qf, Qo, Q0, Qg, Qp, Qq, endQ, rvs, rv1, resV, vw_i, Qb1, zipA, Qe, Qi, Zt, Qa, true_and, and_self, reduceCtorEq, Qbd]
 try simp only [Qbd] at h
 simp only [h, hv, hr, hf, flat, vw_b, Qa, and_self, implies_true]
theorem P90 (hG : GOk Try.prog Γ) (l : List Strip) (f : Nat) (hf : f < 1000000) (caps : List V) (p : Strip → Bool) (hv : caps.map (vw [] 8) = caps) (hr : Qa4 caps = false) (hl : l.length < 10000000)
  (h : ∀ x ∈ l, Γ f (V.ag (Qbd x) :: caps) = (True, .b (p x))) : Qa9 Try.prog 84 [.sl 3 (l.map Qbd), .fn f caps] (.i (idxOf p l)) := by
 refine Qac hG hmix Try.func84 cb84 cc84 cs84 cn84 ?_
 simp only [rc84, rs84, Qa7, Qa8, Qab, Qa6, Qad, Qa5, Qa2, Fam.step, Qae, evO, opv, qv, lenV, Qa3, Qa0, Qa1, ↓reduceIte, Nat.reduceEqDiff, Int.reduceNeg, Qb, Qc, zipA, Qe, true_and, reduceCtorEq, Qj]
 refine Qb5 l.length (fun i => ⟨lkp [(0, .sl 3 (l.map Qbd)), (1, .fn f caps), (7, .i l.length), (8, .i i)], []⟩) (fun i => ∀ j x, j < i → l[j]? = some x → p x = false) ?_ ?_ ?_ ?_
 ·simp only [Q4, kp, Qa0, Qa1, ↓reduceIte, Nat.reduceEqDiff, Qb, Qc, reduceCtorEq]
 ·intro j x h; omega
 ·intro i hi hc
  obtain ⟨x, hx⟩ : ∃ x, l[i]? = some x := ⟨_, Qm hi⟩
  have hlt : (i : Int) < l.length := by omega
  have h3 : inI ((i : Int) + 1) := by unfold inI; omega
  have hp := h x (Qv hx)
  try simp only [Qbd] at hp
  simp only [hx, hlt, Q3, Q5, h3, hp, hv, hr, hf, Qah, Qa7, Qa8, Qaf, Qc2, Qab, Qag, Qa6, Qad, Qai, Qa5, Qa2, Fam.step, Qae, evO, opv, qv, binV, ldV, iadV, Qaw, Qaa, Qa4, flat, kp, Qa3, Qa0, Qa1, ↓reduceIte, Nat.reduceEqDiff, Nat.reduceAdd, Nat.reduceLeDiff, Int.reduceNeg, Qb, Qc, Qd, Qf, Qo, Q0, Qp, Qq, Qr, endQ, rvs, rv1, resV, vw_i, Qb1, Qt, Qe, V.i.injEq, Qi, Qa, decide_true, true_and, and_true, and_self, implies_true, reduceCtorEq, Q2, Qj, Qw, Ql, Qs, Q9, Qbd]
  refine ⟨fun e => ?_, fun e => ?_⟩
  ·rw [Qiu hx e hc]
  ·intro j y hj hy
   by_cases hji : j < i
   ·exact hc j y hji hy
   ·have : j = i := by omega
    subst this
    rw [hx] at hy; cases hy; exact e
 ·intro hc
  simp only [Qa7, Qa8, Qaf, Qar, Qag, Qa6, Qad, Qai, Qa5, Qa2, Fam.step, Qae, evO, opv, qv, binV, Qa3, Qa0, Qa1, ↓reduceIte, Nat.reduceEqDiff, Int.reduceNeg, Qb, Qc, endQ, rvs, rv1, resV, vw_i, Q8, V.i.injEq, Qa, decide_false, true_and, and_self, reduceCtorEq]
  exact (Qfp fun x hx => by
   obtain ⟨j, hj⟩ := Zu hx
   exact hc j x (by have := Qam hj; exact this) hj).symm
theorem P86 (hG : GOk Try.prog Γ) (l : List Strip) (f : Nat) (caps : List V) (p : Strip → Bool) (hv : caps.map (vw [] 7) = caps) (hr : Qa4 caps = false)
  (h : Γ 84 [.sl 3 (l.map Qbd), .fn f caps] = (True, .i (idxOf p l))) : Qa9 Try.prog 80 [.sl 3 (l.map Qbd), .fn f caps] (.b (l.any p)) := by
 refine Qac hG hmix Try.func80 cb80 cc80 cs80 cn80 ?_
 simp only [rc80, rs80, hv, hr, h, Qa7, Qa8, Qag, Qa6, Qad, Qa5, Qa2, Fam.step, Qae, evO, opv, qv, binV, Qaw, Qaa, Qa4, flat, Qa3, Qa0, Qa1, ↓reduceIte, Nat.reduceEqDiff, Nat.reduceLT, Qb, Qc, Qk, endQ, rvs, rv1, resV, vw_b, Qb3, Qfl, zipA, Qe, V.b.injEq, Qi, Qa, true_and, and_self, implies_true, reduceCtorEq]
 rw [Qha]
theorem P79 (hG : GOk Try.prog Γ) (l : List Strip) (f : Nat) (caps : List V) (p : Strip → Bool) (hv : caps.map (vw [] 7) = caps) (hr : Qa4 caps = false)
  (h : Γ 80 [.sl 3 (l.map Qbd), .fn 81 [.pa [.fn f caps]]] = (True, .b (l.any fun x => !p x))) : Qa9 Try.prog 69 [.sl 3 (l.map Qbd), .fn f caps] (.b (l.all p)) := by
 refine Qac hG hmix Try.func69 cb69 cc69 cs69 cn69 ?_
 simp only [rc69, rs69, hv, hr, h, Qa7, Qa8, Qag, Qa6, Qad, Qa5, Qa2, Fam.step, Qae, evO, opv, qv, Qaw, V.cells, Qas, Qaa, Qa4, flat, Qa3, Qa0, Qa1, ↓reduceIte, Nat.reduceEqDiff, Nat.reduceLT, Qb, Qc, Qk, endQ, rvs, rv1, resV, vw_b, Qb3, Qdw, Qfl, zipA, Qe, V.b.injEq, Qi, Qa, true_and, and_self, implies_true, reduceCtorEq]
 simp [Zq]
theorem P78 (hG : GOk Try.prog Γ) (x : Bolt) (f : Nat) (hf : f < 1000000) (caps : List V) (b : Bool) (hv : caps.map (vw [] 8) = caps) (hr : Qa4 caps = false) (h : Γ f (V.ag (Qan x) :: caps) = (True, .b b)) :
  Qa9 Try.prog 68 [V.ag (Qan x), .pa [.fn f caps]] (.b (!b)) := by
 refine Qac hG hmix Try.func68 cb68 cc68 cs68 cn68 ?_
 simp only [rc68, rs68, Qa7, Qa8, Qag, Qa6, Qad, Qa5, Qa2, Fam.step, Qae, evO, opv, qv, ldV, Qaw, V.cells, Qas, Qaa, Qa4, Qa3, Qa0, Qa1, ↓reduceIte, Nat.reduceEqDiff, Nat.reduceAdd, Nat.reduceLeDiff, Qb, Qc, Qd, Qf, Qo, Q0, Qg, Qp, Qq, endQ, rvs, rv1, resV, vw_i, Qb3, Qb1, zipA, Qe, Qi, Zt, Qa, true_and, and_self, reduceCtorEq, Qan]
 try simp only [Qan] at h
 simp only [h, hv, hr, hf, flat, vw_b, Qa, and_self, implies_true]
theorem P85 (hG : GOk Try.prog Γ) (l : List Bolt) (f : Nat) (hf : f < 1000000) (caps : List V) (p : Bolt → Bool) (hv : caps.map (vw [] 8) = caps) (hr : Qa4 caps = false) (hl : l.length < 10000000)
  (h : ∀ x ∈ l, Γ f (V.ag (Qan x) :: caps) = (True, .b (p x))) : Qa9 Try.prog 79 [.sl 4 (l.map Qan), .fn f caps] (.i (idxOf p l)) := by
 refine Qac hG hmix Try.func79 cb79 cc79 cs79 cn79 ?_
 simp only [rc79, rs79, Qa7, Qa8, Qab, Qa6, Qad, Qa5, Qa2, Fam.step, Qae, evO, opv, qv, lenV, Qa3, Qa0, Qa1, ↓reduceIte, Nat.reduceEqDiff, Int.reduceNeg, Qb, Qc, zipA, Qe, true_and, reduceCtorEq, Qj]
 refine Qb5 l.length (fun i => ⟨lkp [(0, .sl 4 (l.map Qan)), (1, .fn f caps), (7, .i l.length), (8, .i i)], []⟩) (fun i => ∀ j x, j < i → l[j]? = some x → p x = false) ?_ ?_ ?_ ?_
 ·simp only [Q4, kp, Qa0, Qa1, ↓reduceIte, Nat.reduceEqDiff, Qb, Qc, reduceCtorEq]
 ·intro j x h; omega
 ·intro i hi hc
  obtain ⟨x, hx⟩ : ∃ x, l[i]? = some x := ⟨_, Qm hi⟩
  have hlt : (i : Int) < l.length := by omega
  have h3 : inI ((i : Int) + 1) := by unfold inI; omega
  have hp := h x (Qv hx)
  try simp only [Qan] at hp
  simp only [hx, hlt, Q3, Q5, h3, hp, hv, hr, hf, Qah, Qa7, Qa8, Qaf, Qc2, Qab, Qag, Qa6, Qad, Qai, Qa5, Qa2, Fam.step, Qae, evO, opv, qv, binV, ldV, iadV, Qaw, Qaa, Qa4, flat, kp, Qa3, Qa0, Qa1, ↓reduceIte, Nat.reduceEqDiff, Nat.reduceAdd, Nat.reduceLeDiff, Int.reduceNeg, Qb, Qc, Qd, Qf, Qo, Q0, Qp, Qq, Qr, endQ, rvs, rv1, resV, vw_i, Qb3, Qb1, Qt, Qe, V.i.injEq, Qi, Qa, decide_true, true_and, and_true, and_self, implies_true, reduceCtorEq, Q2, Qj, Qw, Ql, Qs, Q9, Qan]
  refine ⟨fun e => ?_, fun e => ?_⟩
  ·rw [Qiu hx e hc]
  ·intro j y hj hy
   by_cases hji : j < i
   ·exact hc j y hji hy
   ·have : j = i := by omega
    subst this
    rw [hx] at hy; cases hy; exact e
 ·intro hc
  simp only [Qa7, Qa8, Qaf, Qar, Qag, Qa6, Qad, Qai, Qa5, Qa2, Fam.step, Qae, evO, opv, qv, binV, Qa3, Qa0, Qa1, ↓reduceIte, Nat.reduceEqDiff, Int.reduceNeg, Qb, Qc, endQ, rvs, rv1, resV, vw_i, Q8, V.i.injEq, Qa, decide_false, true_and, and_self, reduceCtorEq]
  exact (Qfp fun x hx => by
   obtain ⟨j, hj⟩ := Zu hx
   exact hc j x (by have := Qam hj; exact this) hj).symm
theorem P77 (hG : GOk Try.prog Γ) (l : List Bolt) (f : Nat) (caps : List V) (p : Bolt → Bool) (hv : caps.map (vw [] 7) = caps) (hr : Qa4 caps = false)
  (h : Γ 79 [.sl 4 (l.map Qan), .fn f caps] = (True, .i (idxOf p l))) : Qa9 Try.prog 67 [.sl 4 (l.map Qan), .fn f caps] (.b (l.any p)) := by
 refine Qac hG hmix Try.func67 cb67 cc67 cs67 cn67 ?_
 simp only [rc67, rs67, hv, hr, h, Qa7, Qa8, Qag, Qa6, Qad, Qa5, Qa2, Fam.step, Qae, evO, opv, qv, binV, Qaw, Qaa, Qa4, flat, Qa3, Qa0, Qa1, ↓reduceIte, Nat.reduceEqDiff, Nat.reduceLT, Qb, Qc, Qk, endQ, rvs, rv1, resV, vw_b, Qb3, Qfl, zipA, Qe, V.b.injEq, Qi, Qa, true_and, and_self, implies_true, reduceCtorEq]
 rw [Qha]
theorem P63 (hG : GOk Try.prog Γ) (l : List Bolt) (f : Nat) (caps : List V) (p : Bolt → Bool) (hv : caps.map (vw [] 7) = caps) (hr : Qa4 caps = false)
  (h : Γ 67 [.sl 4 (l.map Qan), .fn 68 [.pa [.fn f caps]]] = (True, .b (l.any fun x => !p x))) : Qa9 Try.prog 51 [.sl 4 (l.map Qan), .fn f caps] (.b (l.all p)) := by
 refine Qac hG hmix Try.func51 cb51 cc51 cs51 cn51 ?_
 simp only [rc51, rs51, hv, hr, h, Qa7, Qa8, Qag, Qa6, Qad, Qa5, Qa2, Fam.step, Qae, evO, opv, qv, Qaw, V.cells, Qas, Qaa, Qa4, flat, Qa3, Qa0, Qa1, ↓reduceIte, Nat.reduceEqDiff, Nat.reduceLT, Qb, Qc, Qk, endQ, rvs, rv1, resV, vw_b, Qb3, Qdw, Qfl, zipA, Qe, V.b.injEq, Qi, Qa, true_and, and_self, implies_true, reduceCtorEq]
 simp [Zq]
theorem P84 (hG : GOk Try.prog Γ) (x : Span) (f : Nat) (hf : f < 1000000) (caps : List V) (b : Bool) (hv : caps.map (vw [] 8) = caps) (hr : Qa4 caps = false) (h : Γ f (V.ag (eSpan x) :: caps) = (True, .b b)) :
  Qa9 Try.prog 78 [V.ag (eSpan x), .pa [.fn f caps]] (.b (!b)) := by
 refine Qac hG hmix Try.func78 cb78 cc78 cs78 cn78 ?_
 simp only [rc78, rs78, Qa7, Qa8, Qag, Qa6, Qad, Qa5, Qa2, Fam.step, Qae, evO, opv, qv, ldV, Qaw, V.cells, Qas, Qaa, Qa4, Qa3, Qa0, Qa1, ↓reduceIte, Nat.reduceEqDiff, Nat.reduceAdd, Nat.reduceLeDiff, Qb, Qc, Qd, Qf, Qo, Q0, Qg, Qp, Qq, endQ, rvs, rv1, resV, vw_i, Qb1, zipA, Qe, Qi, Zt, Qa, true_and, and_self, reduceCtorEq, eSpan]
 try simp only [eSpan] at h
 simp only [h, hv, hr, hf, flat, vw_b, Qa, and_self, implies_true]
theorem P89 (hG : GOk Try.prog Γ) (l : List Span) (f : Nat) (hf : f < 1000000) (caps : List V) (p : Span → Bool) (hv : caps.map (vw [] 8) = caps) (hr : Qa4 caps = false) (hl : l.length < 10000000)
  (h : ∀ x ∈ l, Γ f (V.ag (eSpan x) :: caps) = (True, .b (p x))) : Qa9 Try.prog 83 [.sl 2 (l.map eSpan), .fn f caps] (.i (idxOf p l)) := by
 refine Qac hG hmix Try.func83 cb83 cc83 cs83 cn83 ?_
 simp only [rc83, rs83, Qa7, Qa8, Qab, Qa6, Qad, Qa5, Qa2, Fam.step, Qae, evO, opv, qv, lenV, Qa3, Qa0, Qa1, ↓reduceIte, Nat.reduceEqDiff, Int.reduceNeg, Qb, Qc, zipA, Qe, true_and, reduceCtorEq, Qj]
 refine Qb5 l.length (fun i => ⟨lkp [(0, .sl 2 (l.map eSpan)), (1, .fn f caps), (7, .i l.length), (8, .i i)], []⟩) (fun i => ∀ j x, j < i → l[j]? = some x → p x = false) ?_ ?_ ?_ ?_
 ·simp only [Q4, kp, Qa0, Qa1, ↓reduceIte, Nat.reduceEqDiff, Qb, Qc, reduceCtorEq]
 ·intro j x h; omega
 ·intro i hi hc
  obtain ⟨x, hx⟩ : ∃ x, l[i]? = some x := ⟨_, Qm hi⟩
  have hlt : (i : Int) < l.length := by omega
  have h3 : inI ((i : Int) + 1) := by unfold inI; omega
  have hp := h x (Qv hx)
  try simp only [eSpan] at hp
  simp only [hx, hlt, Q3, Q5, h3, hp, hv, hr, hf, Qah, Qa7, Qa8, Qaf, Qc2, Qab, Qag, Qa6, Qad, Qai, Qa5, Qa2, Fam.step, Qae, evO, opv, qv, binV, ldV, iadV, Qaw, Qaa, Qa4, flat, kp, Qa3, Qa0, Qa1, ↓reduceIte, Nat.reduceEqDiff, Nat.reduceAdd, Nat.reduceLeDiff, Int.reduceNeg, Qb, Qc, Qd, Qf, Qo, Q0, Qp, Qq, Qr, endQ, rvs, rv1, resV, vw_i, Qb1, Qt, Qe, V.i.injEq, Qi, Qa, decide_true, true_and, and_true, and_self, implies_true, reduceCtorEq, Q2, Qj, Qw, Ql, Qs, Q9, eSpan]
  refine ⟨fun e => ?_, fun e => ?_⟩
  ·rw [Qiu hx e hc]
  ·intro j y hj hy
   by_cases hji : j < i
   ·exact hc j y hji hy
   ·have : j = i := by omega
    subst this
    rw [hx] at hy; cases hy; exact e
 ·intro hc
  simp only [Qa7, Qa8, Qaf, Qar, Qag, Qa6, Qad, Qai, Qa5, Qa2, Fam.step, Qae, evO, opv, qv, binV, Qa3, Qa0, Qa1, ↓reduceIte, Nat.reduceEqDiff, Int.reduceNeg, Qb, Qc, endQ, rvs, rv1, resV, vw_i, Q8, V.i.injEq, Qa, decide_false, true_and, and_self, reduceCtorEq]
  exact (Qfp fun x hx => by
   obtain ⟨j, hj⟩ := Zu hx
   exact hc j x (by have := Qam hj; exact this) hj).symm
theorem P83 (hG : GOk Try.prog Γ) (l : List Span) (f : Nat) (caps : List V) (p : Span → Bool) (hv : caps.map (vw [] 7) = caps) (hr : Qa4 caps = false)
  (h : Γ 83 [.sl 2 (l.map eSpan), .fn f caps] = (True, .i (idxOf p l))) : Qa9 Try.prog 77 [.sl 2 (l.map eSpan), .fn f caps] (.b (l.any p)) := by
 refine Qac hG hmix Try.func77 cb77 cc77 cs77 cn77 ?_
 simp only [rc77, rs77, hv, hr, h, Qa7, Qa8, Qag, Qa6, Qad, Qa5, Qa2, Fam.step, Qae, evO, opv, qv, binV, Qaw, Qaa, Qa4, flat, Qa3, Qa0, Qa1, ↓reduceIte, Nat.reduceEqDiff, Nat.reduceLT, Qb, Qc, Qk, endQ, rvs, rv1, resV, vw_b, Qb3, Qfl, zipA, Qe, V.b.injEq, Qi, Qa, true_and, and_self, implies_true, reduceCtorEq]
 rw [Qha]
theorem P76 (hG : GOk Try.prog Γ) (l : List Span) (f : Nat) (caps : List V) (p : Span → Bool) (hv : caps.map (vw [] 7) = caps) (hr : Qa4 caps = false)
  (h : Γ 77 [.sl 2 (l.map eSpan), .fn 78 [.pa [.fn f caps]]] = (True, .b (l.any fun x => !p x))) : Qa9 Try.prog 66 [.sl 2 (l.map eSpan), .fn f caps] (.b (l.all p)) := by
 refine Qac hG hmix Try.func66 cb66 cc66 cs66 cn66 ?_
 simp only [rc66, rs66, hv, hr, h, Qa7, Qa8, Qag, Qa6, Qad, Qa5, Qa2, Fam.step, Qae, evO, opv, qv, Qaw, V.cells, Qas, Qaa, Qa4, flat, Qa3, Qa0, Qa1, ↓reduceIte, Nat.reduceEqDiff, Nat.reduceLT, Qb, Qc, Qk, endQ, rvs, rv1, resV, vw_b, Qb3, Qdw, Qfl, zipA, Qe, V.b.injEq, Qi, Qa, true_and, and_self, implies_true, reduceCtorEq]
 simp [Zq]
theorem P82 (hG : GOk Try.prog Γ) (x : Int) (f : Nat) (hf : f < 1000000) (caps : List V) (b : Bool) (hv : caps.map (vw [] 8) = caps) (hr : Qa4 caps = false) (h : Γ f (V.i x :: caps) = (True, .b b)) :
  Qa9 Try.prog 76 [V.i x, .pa [.fn f caps]] (.b (!b)) := by
 refine Qac hG hmix Try.func76 cb76 cc76 cs76 cn76 ?_
 simp only [rc76, rs76, Qa7, Qa8, Qag, Qa6, Qad, Qa5, Qa2, Fam.step, Qae, evO, opv, qv, ldV, Qaw, Qaa, Qa4, Qa3, Qa0, Qa1, ↓reduceIte, Nat.reduceEqDiff, Nat.reduceLeDiff, Qb, Qc, Qd, Qf, Qg, Qp, Qq, endQ, rvs, rv1, resV, vw_i, zipA, Qe, Zt, Qa, true_and, and_self, reduceCtorEq]
 try simp only [Qah, Qa7, Qc6, Qa8, Qaf, Qc2, Qab, Qar, Qag, Qa6, Qc9, Qld, Qi6, Qu1, Qty, Qqs, Qvx, Qda, ↓Qbj, ↓Qmd, rnQ, rndQ, updL, Qo3, yres, Qo6, ghO, Qo8, ocV, effO, nidQ, plO, plQ, plB, Qmj, Qf3, Qmk, Qkj, Qbe, optL, upTo, rids, Qdv, Qip, Qgh, Qjn, Xl, Xn, Qew, Qk9, Qfg, shV, shL, shB, Qqy, Qw5, swH, sw, renV, renL, renB, cutH, putB, lkpV, keyL, entV, Qtc, keyV, Qes, endO, endK, endI, Qad, Qai, Qa5, Qa2, Qw2, Fam.step, Qae, Qbp, Qbu, Qau, Qb8, ug, runX, Qxs, eff, Qbb, fpR, fpQ, fpV, Qcj, hits, putB, nv, sv, Qd0, evO, opv, qv, Qao, Qpb, Qpa, binV, ldV, iadV, lenV, curG, slcV, Qnd, Qaw, Qal, putAt, Qb0, Qba, V.cells, Qas, Qaz, Qdg, Qaa, Qa4, flat, Qd3, kp, cutV, cutL, cutB, Qa3, Qap, Qa0, Qa1, ↓reduceIte, Nat.reduceEqDiff, Nat.reduceAdd, Nat.reduceSub, Nat.reduceMul, Nat.reduceLT, Nat.reduceLeDiff, Nat.reduceBEq, Int.reduceNeg, Int.reduceToNat, Z0, Z7, Int.reduceLT, Int.reduceLE, Int.reduceAdd, Int.reduceSub, Int.reduceMul, Int.reduceEq, Qb, Qc, Qy, Qx, Qd, Qf, Qh, Qn, Zv, Qo, Zc, Q0, Qg, Xo, Qp, Qq, Qk, Zb, Z2, Zd, Qr, Zf, Zk, Xe, List.set_nil, Za, Z9, Xa, Xb, Zg, Z1, endQ, rvs, rv1, resV, vw_i, vw_b, vw_u, Qrq, vw_z, Qb3, Qdw, Qb1, Qdj, Qfl, Qhq, Qi9, zipA, Q8, Qt, beq_self_eq_true, Qe, Zy, Xi.injEq, V.i.injEq, V.b.injEq, Qu, Qz, Zs, Zm, Xp, Qi, Zt, Bool.or_true, Bool.true_or, Zi, Zn, Qa, Xf, decide_true, decide_false, decide_eq_true_eq, decide_eq_false_iff_not, true_and, and_true, and_self, false_and, and_false, forall_const, false_implies, true_implies, implies_true, reduceCtorEq, ite_true, ite_false, not_true_eq_false, not_false_eq_true, ne_eq, Q2, Xm, Xc, Zr, Zw, Ze, beq_true, beq_false, Zx, Zo, Q7, Qg2, Qjm, Q6, Zj, Bool.xor_self, imp_self, Qj, Qw, Ql, Qs, Q9, Zp, Classical.not_not, Z6, Qkm, Quh, Qw3, Qlo, Qxe, eSpan, Qbd, Qan, Qaj, eI, eIs, eCan, Qcz] at h
 simp only [h, hv, hr, hf, flat, vw_b, Qa, and_self, implies_true]
theorem P88 (hG : GOk Try.prog Γ) (l : List Int) (f : Nat) (hf : f < 1000000) (caps : List V) (p : Int → Bool) (hv : caps.map (vw [] 8) = caps) (hr : Qa4 caps = false) (hl : l.length < 10000000)
  (h : ∀ x ∈ l, Γ f (V.i x :: caps) = (True, .b (p x))) : Qa9 Try.prog 82 [.sl 1 (l.map eI), .fn f caps] (.i (idxOf p l)) := by
 refine Qac hG hmix Try.func82 cb82 cc82 cs82 cn82 ?_
 simp only [rc82, rs82, Qa7, Qa8, Qab, Qa6, Qad, Qa5, Qa2, Fam.step, Qae, evO, opv, qv, lenV, Qa3, Qa0, Qa1, ↓reduceIte, Nat.reduceEqDiff, Int.reduceNeg, Qb, Qc, zipA, Qe, true_and, reduceCtorEq, Qj]
 refine Qb5 l.length (fun i => ⟨lkp [(0, .sl 1 (l.map eI)), (1, .fn f caps), (7, .i l.length), (8, .i i)], []⟩) (fun i => ∀ j x, j < i → l[j]? = some x → p x = false) ?_ ?_ ?_ ?_
 ·simp only [Q4, kp, Qa0, Qa1, ↓reduceIte, Nat.reduceEqDiff, Qb, Qc, reduceCtorEq]
 ·intro j x h; omega
 ·intro i hi hc
  obtain ⟨x, hx⟩ : ∃ x, l[i]? = some x := ⟨_, Qm hi⟩
  have hlt : (i : Int) < l.length := by omega
  have h3 : inI ((i : Int) + 1) := by unfold inI; omega
  have hp := h x (Qv hx)
  try simp only [Qah, Qa7, Qc6, Qa8, Qaf, Qc2, Qab, Qar, Qag, Qa6, Qc9, Qld, Qi6, Qu1, Qty, Qqs, Qvx, Qda, ↓Qbj, ↓Qmd, rnQ, rndQ, updL, Qo3, yres, Qo6, ghO, Qo8, ocV, effO, nidQ, plO, plQ, plB, Qmj, Qf3, Qmk, Qkj, Qbe, optL, upTo, rids, Qdv, Qip, Qgh, Qjn, Xl, Xn, Qew, Qk9, Qfg, shV, shL, shB, Qqy, Qw5, swH, sw, renV, renL, renB, cutH, putB, lkpV, keyL, entV, Qtc, keyV, Qes, endO, endK, endI, Qad, Qai, Qa5, Qa2, Qw2, Fam.step, Qae, Qbp, Qbu, Qau, Qb8, ug, runX, Qxs, eff, Qbb, fpR, fpQ, fpV, Qcj, hits, putB, nv, sv, Qd0, evO, opv, qv, Qao, Qpb, Qpa, binV, ldV, iadV, lenV, curG, slcV, Qnd, Qaw, Qal, putAt, Qb0, Qba, V.cells, Qas, Qaz, Qdg, Qaa, Qa4, flat, Qd3, kp, cutV, cutL, cutB, Qa3, Qap, Qa0, Qa1, ↓reduceIte, Nat.reduceEqDiff, Nat.reduceAdd, Nat.reduceSub, Nat.reduceMul, Nat.reduceLT, Nat.reduceLeDiff, Nat.reduceBEq, Int.reduceNeg, Int.reduceToNat, Z0, Z7, Int.reduceLT, Int.reduceLE, Int.reduceAdd, Int.reduceSub, Int.reduceMul, Int.reduceEq, Qb, Qc, Qy, Qx, Qd, Qf, Qh, Qn, Zv, Qo, Zc, Q0, Qg, Xo, Qp, Qq, Qk, Zb, Z2, Zd, Qr, Zf, Zk, Xe, List.set_nil, Za, Z9, Xa, Xb, Zg, Z1, endQ, rvs, rv1, resV, vw_i, vw_b, vw_u, Qrq, vw_z, Qb3, Qdw, Qb1, Qdj, Qfl, Qhq, Qi9, zipA, Q8, Qt, beq_self_eq_true, Qe, Zy, Xi.injEq, V.i.injEq, V.b.injEq, Qu, Qz, Zs, Zm, Xp, Qi, Zt, Bool.or_true, Bool.true_or, Zi, Zn, Qa, Xf, decide_true, decide_false, decide_eq_true_eq, decide_eq_false_iff_not, true_and, and_true, and_self, false_and, and_false, forall_const, false_implies, true_implies, implies_true, reduceCtorEq, ite_true, ite_false, not_true_eq_false, not_false_eq_true, ne_eq, Q2, Xm, Xc, Zr, Zw, Ze, beq_true, beq_false, Zx, Zo, Q7, Qg2, Qjm, Q6, Zj, Bool.xor_self, imp_self, Qj, Qw, Ql, Qs, Q9, Zp, Classical.not_not, Z6, Qkm, Quh, Qw3, Qlo, Qxe, eSpan, Qbd, Qan, Qaj, eI, eIs, eCan, Qcz] at hp
  simp only [hx, hlt, Q3, Q5, h3, hp, hv, hr, hf, Qah, Qa7, Qa8, Qaf, Qc2, Qab, Qag, Qa6, Qad, Qai, Qa5, Qa2, Fam.step, Qae, evO, opv, qv, binV, ldV, iadV, Qaw, Qaa, Qa4, flat, kp, Qa3, Qa0, Qa1, ↓reduceIte, Nat.reduceEqDiff, Nat.reduceLeDiff, Int.reduceNeg, Qb, Qc, Qd, Qf, Qg, Qp, Qq, Qr, endQ, rvs, rv1, resV, vw_i, Qt, Qe, V.i.injEq, Qi, Qa, decide_true, true_and, and_true, and_self, implies_true, reduceCtorEq, Q2, Qj, Qw, Ql, Qs, Q9, eI]
  refine ⟨fun e => ?_, fun e => ?_⟩
  ·rw [Qiu hx e hc]
  ·intro j y hj hy
   by_cases hji : j < i
   ·exact hc j y hji hy
   ·have : j = i := by omega
    subst this
    rw [hx] at hy; cases hy; exact e
 ·intro hc
  simp only [Qa7, Qa8, Qaf, Qar, Qag, Qa6, Qad, Qai, Qa5, Qa2, Fam.step, Qae, evO, opv, qv, binV, Qa3, Qa0, Qa1, ↓reduceIte, Nat.reduceEqDiff, Int.reduceNeg, Qb, Qc, endQ, rvs, rv1, resV, vw_i, Q8, V.i.injEq, Qa, decide_false, true_and, and_self, reduceCtorEq]
  exact (Qfp fun x hx => by
   obtain ⟨j, hj⟩ := Zu hx
   exact hc j x (by have := Qam hj; exact this) hj).symm
theorem P81 (hG : GOk Try.prog Γ) (l : List Int) (f : Nat) (caps : List V) (p : Int → Bool) (hv : caps.map (vw [] 7) = caps) (hr : Qa4 caps = false)
  (h : Γ 82 [.sl 1 (l.map eI), .fn f caps] = (True, .i (idxOf p l))) : Qa9 Try.prog 75 [.sl 1 (l.map eI), .fn f caps] (.b (l.any p)) := by
 refine Qac hG hmix Try.func75 cb75 cc75 cs75 cn75 ?_
 simp only [rc75, rs75, hv, hr, h, Qa7, Qa8, Qag, Qa6, Qad, Qa5, Qa2, Fam.step, Qae, evO, opv, qv, binV, Qaw, Qaa, Qa4, flat, Qa3, Qa0, Qa1, ↓reduceIte, Nat.reduceEqDiff, Nat.reduceLT, Qb, Qc, Qk, endQ, rvs, rv1, resV, vw_b, Qb3, Qfl, zipA, Qe, V.b.injEq, Qi, Qa, true_and, and_self, implies_true, reduceCtorEq]
 rw [Qha]
theorem P75 (hG : GOk Try.prog Γ) (l : List Int) (f : Nat) (caps : List V) (p : Int → Bool) (hv : caps.map (vw [] 7) = caps) (hr : Qa4 caps = false)
  (h : Γ 75 [.sl 1 (l.map eI), .fn 76 [.pa [.fn f caps]]] = (True, .b (l.any fun x => !p x))) : Qa9 Try.prog 65 [.sl 1 (l.map eI), .fn f caps] (.b (l.all p)) := by
 refine Qac hG hmix Try.func65 cb65 cc65 cs65 cn65 ?_
 simp only [rc65, rs65, hv, hr, h, Qa7, Qa8, Qag, Qa6, Qad, Qa5, Qa2, Fam.step, Qae, evO, opv, qv, Qaw, V.cells, Qas, Qaa, Qa4, flat, Qa3, Qa0, Qa1, ↓reduceIte, Nat.reduceEqDiff, Nat.reduceLT, Qb, Qc, Qk, endQ, rvs, rv1, resV, vw_b, Qb3, Qdw, Qfl, zipA, Qe, V.b.injEq, Qi, Qa, true_and, and_self, implies_true, reduceCtorEq]
 simp [Zq]
end Go.C02
set_option linter.unusedSimpArgs false
set_option linter.unusedVariables false
namespace Go.C02
open Go.Fam Go.Proofs
variable {Γ : Gam}
def Qk1 (_ : Unit) : Prop := True
def Qgn (_ : Unit) : Strip → Bool := Qdi
def Qnq (_ : Unit) : Prop := True
def Qk4 (_ : Unit) : Bolt → Bool := Qd5
def Qns (_ : Unit) : Prop := True
def Qk5 (_ : Unit) : Span → Bool := Qe9
def Qv7 (k : Dome × Bool) : Prop := if k.2 then k.1.bolts.length < 1000000 else inI (2 * k.1.loss)
def Qpc (k : Dome × Bool) : Int → Bool := if k.2 then Qh7 k.1 else Qea k.1
def D0 : Dome := ⟨[], [], 0, [], [], 0⟩
def aC : V → List V | .ag cs => cs | _ => []
def pC : V → List V | .pa cs => cs | _ => []
def Qhw (k : Unit) : V := .fn 70 []
def Qln : V → Unit := fun _ => ()
theorem Qja (k : Unit) : Qln (Qhw k) = k := rfl
def Qgw (k : Unit) : List V := []
theorem Qkq (k : Unit) (n : Nat) : (Qgw k).map (vw [] (n + 1)) = Qgw k := rfl
theorem Qkp (k : Unit) : Qa4 (Qgw k) = false := rfl
def Qlp (a : Strip × Unit) : List V := [.ag (Qbd a.1), .pa [Qhw a.2]]
def Qoi : List V → Strip × Unit | [v, .pa [c]] => (Qn1 (aC v), Qln c) | _ => (⟨0, ⟨0, 0⟩⟩, ())
theorem Qs3 (a : Strip × Unit) : Qoi (Qlp a) = a := by obtain ⟨x, k⟩ := a; simp only [Qlp, Qoi, Qja]; simp [aC, Qir]
def Qhy (a : List Strip × Unit) : List V := [.sl 3 (a.1.map Qbd), .fn 81 [.pa [Qhw a.2]]]
def Qlk : List V → List Strip × Unit | [.sl _ rows, .fn _ [.pa [c]]] => (rows.map Qn1, Qln c) | _ => ([], ())
theorem Qn2 (a : List Strip × Unit) : Qlk (Qhy a) = a := by obtain ⟨x, k⟩ := a; simp only [Qhy, Qlk, Qja, Qig Qir]
def Qlq (a : List Strip × Unit) : List V := [.sl 3 (a.1.map Qbd), Qhw a.2]
def Qoj : List V → List Strip × Unit | [.sl _ rows, c] => (rows.map Qn1, Qln c) | _ => ([], ())
theorem Qs7 (a : List Strip × Unit) : Qoj (Qlq a) = a := by obtain ⟨x, k⟩ := a; simp only [Qlq, Qoj, Qja, Qig Qir]
def Qhi (a : List Strip × Unit) : Prop := a.1.length < 10000000 ∧ Qk1 a.2
def r87 : List V → Prop × V := fnG Qlp Qoi (fun a => Qk1 a.2) (fun a => !Qgn a.2 a.1) .b
def r90 : List V → Prop × V := fnG Qhy Qlk Qhi (fun a => idxOf (fun x => !Qgn a.2 x) a.1) .i
def r86 : List V → Prop × V := fnG Qhy Qlk Qhi (fun a => a.1.any fun x => !Qgn a.2 x) .b
def r79 : List V → Prop × V := fnG Qlq Qoj Qhi (fun a => a.1.all (Qgn a.2)) .b
def Qdx (Γ : Gam) : Gam := (((Γ.ext 81 r87).ext 84 r90).ext 80 r86).ext 69 r79
theorem Qop (hG : GOk Try.prog Γ) (hb : ∀ (k : Unit) (x : Strip), Qk1 k → Γ 70 (V.ag (Qbd x) :: Qgw k) = (True, .b (Qgn k x))) : GOk Try.prog (Qdx Γ) := by
 have g1 : GOk Try.prog (Γ.ext 81 r87) := hG.ext (fun a w => Try.call81 a w) (Qb7 fun a h => P87 hG a.1 _ (by decide) _ _ (Qkq a.2 7) (Qkp a.2) (hb a.2 a.1 h))
 have g2 : GOk Try.prog ((Γ.ext 81 r87).ext 84 r90) := g1.ext (fun a w => Try.call84 a w) (Qb7 fun a h => P90 g1 a.1 _ (by decide) _ _ rfl rfl h.1 fun x hx =>
  (show (Γ.ext 81 r87) 81 _ = r87 (Qlp (x, a.2)) from rfl).trans ((Qb9 (x, a.2) (Qs3 _)).trans (by rw [eq_true h.2])))
 have g3 : GOk Try.prog (((Γ.ext 81 r87).ext 84 r90).ext 80 r86) := g2.ext (fun a w => Try.call80 a w) (Qb7 fun a h => P86 g2 a.1 _ _ _ rfl rfl
  ((show ((Γ.ext 81 r87).ext 84 r90) 84 _ = r90 (Qhy a) from rfl).trans ((Qb9 a (Qn2 _)).trans (by rw [eq_true h]))))
 exact g3.ext (fun a w => Try.call69 a w) (Qb7 fun a h => P79 g3 a.1 _ _ _ (Qkq a.2 6) (Qkp a.2)
  ((show (((Γ.ext 81 r87).ext 84 r90).ext 80 r86) 80 _ = r86 (Qhy a) from rfl).trans ((Qb9 a (Qn2 _)).trans (by rw [eq_true h]))))
theorem Qn5 (Γ : Gam) (l : List Strip) (k : Unit) : Qdx Γ 69 [.sl 3 (l.map Qbd), Qhw k] = (Qhi (l, k), .b (l.all (Qgn k))) :=
 (show Qdx Γ 69 _ = r79 (Qlq (l, k)) from rfl).trans (Qb9 (l, k) (Qs7 _))
def Qkw (k : Unit) : V := .fn 52 []
def Qpv : V → Unit := fun _ => ()
theorem Qll (k : Unit) : Qpv (Qkw k) = k := rfl
def Qj3 (k : Unit) : List V := []
theorem Qms (k : Unit) (n : Nat) : (Qj3 k).map (vw [] (n + 1)) = Qj3 k := rfl
theorem Qmr (k : Unit) : Qa4 (Qj3 k) = false := rfl
def Qpy (a : Bolt × Unit) : List V := [.ag (Qan a.1), .pa [Qkw a.2]]
def Qs1 : List V → Bolt × Unit | [v, .pa [c]] => (Qli (aC v), Qpv c) | _ => (⟨⟨0, 0⟩, [], 0⟩, ())
theorem Quo (a : Bolt × Unit) : Qs1 (Qpy a) = a := by obtain ⟨x, k⟩ := a; simp only [Qpy, Qs1, Qll]; simp [aC, Qep]
def Qky (a : List Bolt × Unit) : List V := [.sl 4 (a.1.map Qan), .fn 68 [.pa [Qkw a.2]]]
def Qpr : List V → List Bolt × Unit | [.sl _ rows, .fn _ [.pa [c]]] => (rows.map Qli, Qpv c) | _ => ([], ())
theorem Qps (a : List Bolt × Unit) : Qpr (Qky a) = a := by obtain ⟨x, k⟩ := a; simp only [Qky, Qpr, Qll, Qig Qep]
def Qq1 (a : List Bolt × Unit) : List V := [.sl 4 (a.1.map Qan), Qkw a.2]
def Qs5 : List V → List Bolt × Unit | [.sl _ rows, c] => (rows.map Qli, Qpv c) | _ => ([], ())
theorem Quq (a : List Bolt × Unit) : Qs5 (Qq1 a) = a := by obtain ⟨x, k⟩ := a; simp only [Qq1, Qs5, Qll, Qig Qep]
def Qjz (a : List Bolt × Unit) : Prop := a.1.length < 10000000 ∧ Qnq a.2
def r78 : List V → Prop × V := fnG Qpy Qs1 (fun a => Qnq a.2) (fun a => !Qk4 a.2 a.1) .b
def r85 : List V → Prop × V := fnG Qky Qpr Qjz (fun a => idxOf (fun x => !Qk4 a.2 x) a.1) .i
def r77 : List V → Prop × V := fnG Qky Qpr Qjz (fun a => a.1.any fun x => !Qk4 a.2 x) .b
def r63 : List V → Prop × V := fnG Qq1 Qs5 Qjz (fun a => a.1.all (Qk4 a.2)) .b
def Qjc (Γ : Gam) : Gam := (((Γ.ext 68 r78).ext 79 r85).ext 67 r77).ext 51 r63
theorem Qra (hG : GOk Try.prog Γ) (hb : ∀ (k : Unit) (x : Bolt), Qnq k → Γ 52 (V.ag (Qan x) :: Qj3 k) = (True, .b (Qk4 k x))) : GOk Try.prog (Qjc Γ) := by
 have g1 : GOk Try.prog (Γ.ext 68 r78) := hG.ext (fun a w => Try.call68 a w) (Qb7 fun a h => P78 hG a.1 _ (by decide) _ _ (Qms a.2 7) (Qmr a.2) (hb a.2 a.1 h))
 have g2 : GOk Try.prog ((Γ.ext 68 r78).ext 79 r85) := g1.ext (fun a w => Try.call79 a w) (Qb7 fun a h => P85 g1 a.1 _ (by decide) _ _ rfl rfl h.1 fun x hx =>
  (show (Γ.ext 68 r78) 68 _ = r78 (Qpy (x, a.2)) from rfl).trans ((Qb9 (x, a.2) (Quo _)).trans (by rw [eq_true h.2])))
 have g3 : GOk Try.prog (((Γ.ext 68 r78).ext 79 r85).ext 67 r77) := g2.ext (fun a w => Try.call67 a w) (Qb7 fun a h => P77 g2 a.1 _ _ _ rfl rfl
  ((show ((Γ.ext 68 r78).ext 79 r85) 79 _ = r85 (Qky a) from rfl).trans ((Qb9 a (Qps _)).trans (by rw [eq_true h]))))
 exact g3.ext (fun a w => Try.call51 a w) (Qb7 fun a h => P63 g3 a.1 _ _ _ (Qms a.2 6) (Qmr a.2)
  ((show (((Γ.ext 68 r78).ext 79 r85).ext 67 r77) 67 _ = r77 (Qky a) from rfl).trans ((Qb9 a (Qps _)).trans (by rw [eq_true h]))))
theorem Qon (Γ : Gam) (l : List Bolt) (k : Unit) : Qjc Γ 51 [.sl 4 (l.map Qan), Qkw k] = (Qjz (l, k), .b (l.all (Qk4 k))) :=
 (show Qjc Γ 51 _ = r63 (Qq1 (l, k)) from rfl).trans (Qb9 (l, k) (Quq _))
def Qkx (k : Unit) : V := .fn 62 []
def Qpw : V → Unit := fun _ => ()
theorem Qlm (k : Unit) : Qpw (Qkx k) = k := rfl
def Qj4 (k : Unit) : List V := []
theorem Qmv (k : Unit) (n : Nat) : (Qj4 k).map (vw [] (n + 1)) = Qj4 k := rfl
theorem Qmu (k : Unit) : Qa4 (Qj4 k) = false := rfl
def Qpz (a : Span × Unit) : List V := [.ag (eSpan a.1), .pa [Qkx a.2]]
def Qs2 : List V → Span × Unit | [v, .pa [c]] => (Qr6 (aC v), Qpw c) | _ => (⟨0, 0⟩, ())
theorem Qup (a : Span × Unit) : Qs2 (Qpz a) = a := by obtain ⟨x, k⟩ := a; simp only [Qpz, Qs2, Qlm]; simp [aC, Qlj]
def Qkz (a : List Span × Unit) : List V := [.sl 2 (a.1.map eSpan), .fn 78 [.pa [Qkx a.2]]]
def Qpt : List V → List Span × Unit | [.sl _ rows, .fn _ [.pa [c]]] => (rows.map Qr6, Qpw c) | _ => ([], ())
theorem Qpu (a : List Span × Unit) : Qpt (Qkz a) = a := by obtain ⟨x, k⟩ := a; simp only [Qkz, Qpt, Qlm, Qig Qlj]
def Qq2 (a : List Span × Unit) : List V := [.sl 2 (a.1.map eSpan), Qkx a.2]
def Qs6 : List V → List Span × Unit | [.sl _ rows, c] => (rows.map Qr6, Qpw c) | _ => ([], ())
theorem Qur (a : List Span × Unit) : Qs6 (Qq2 a) = a := by obtain ⟨x, k⟩ := a; simp only [Qq2, Qs6, Qlm, Qig Qlj]
def Qk0 (a : List Span × Unit) : Prop := a.1.length < 10000000 ∧ Qns a.2
def r84 : List V → Prop × V := fnG Qpz Qs2 (fun a => Qns a.2) (fun a => !Qk5 a.2 a.1) .b
def r89 : List V → Prop × V := fnG Qkz Qpt Qk0 (fun a => idxOf (fun x => !Qk5 a.2 x) a.1) .i
def r83 : List V → Prop × V := fnG Qkz Qpt Qk0 (fun a => a.1.any fun x => !Qk5 a.2 x) .b
def r76 : List V → Prop × V := fnG Qq2 Qs6 Qk0 (fun a => a.1.all (Qk5 a.2)) .b
def Qgd (Γ : Gam) : Gam := (((Γ.ext 78 r84).ext 83 r89).ext 77 r83).ext 66 r76
theorem Qrb (hG : GOk Try.prog Γ) (hb : ∀ (k : Unit) (x : Span), Qns k → Γ 62 (V.ag (eSpan x) :: Qj4 k) = (True, .b (Qk5 k x))) : GOk Try.prog (Qgd Γ) := by
 have g1 : GOk Try.prog (Γ.ext 78 r84) := hG.ext (fun a w => Try.call78 a w) (Qb7 fun a h => P84 hG a.1 _ (by decide) _ _ (Qmv a.2 7) (Qmu a.2) (hb a.2 a.1 h))
 have g2 : GOk Try.prog ((Γ.ext 78 r84).ext 83 r89) := g1.ext (fun a w => Try.call83 a w) (Qb7 fun a h => P89 g1 a.1 _ (by decide) _ _ rfl rfl h.1 fun x hx =>
  (show (Γ.ext 78 r84) 78 _ = r84 (Qpz (x, a.2)) from rfl).trans ((Qb9 (x, a.2) (Qup _)).trans (by rw [eq_true h.2])))
 have g3 : GOk Try.prog (((Γ.ext 78 r84).ext 83 r89).ext 77 r83) := g2.ext (fun a w => Try.call77 a w) (Qb7 fun a h => P83 g2 a.1 _ _ _ rfl rfl
  ((show ((Γ.ext 78 r84).ext 83 r89) 83 _ = r89 (Qkz a) from rfl).trans ((Qb9 a (Qpu _)).trans (by rw [eq_true h]))))
 exact g3.ext (fun a w => Try.call66 a w) (Qb7 fun a h => P76 g3 a.1 _ _ _ (Qmv a.2 6) (Qmu a.2)
  ((show (((Γ.ext 78 r84).ext 83 r89).ext 77 r83) 77 _ = r83 (Qkz a) from rfl).trans ((Qb9 a (Qpu _)).trans (by rw [eq_true h]))))
theorem Qoo (Γ : Gam) (l : List Span) (k : Unit) : Qgd Γ 66 [.sl 2 (l.map eSpan), Qkx k] = (Qk0 (l, k), .b (l.all (Qk5 k))) :=
 (show Qgd Γ 66 _ = r76 (Qq2 (l, k)) from rfl).trans (Qb9 (l, k) (Qur _))
def Qmz (k : (Dome × Bool)) : V := .fn (if k.2 then 61 else 64) [.pa (Qaj k.1)]
def Qs9 : V → (Dome × Bool) | .fn f caps => (Qj9 (pC (caps.headD .u)), f == 61) | _ => (D0, false)
theorem Qol (k : (Dome × Bool)) : Qs9 (Qmz k) = k := by obtain ⟨d, b⟩ := k; cases b <;> simp [Qs9, Qmz, pC, Qeq]
def Qmt (k : (Dome × Bool)) : List V := [.pa (Qaj k.1)]
theorem Qpo (k : (Dome × Bool)) (n : Nat) : (Qmt k).map (vw [] (n + 1)) = Qmt k := rfl
theorem Qpn (k : (Dome × Bool)) : Qa4 (Qmt k) = false := rfl
def Qut (a : Int × (Dome × Bool)) : List V := [.i a.1, .pa [Qmz a.2]]
def Qwe : List V → Int × (Dome × Bool) | [v, .pa [c]] => (gI v, Qs9 c) | _ => (0, (D0, false))
theorem Qwf (a : Int × (Dome × Bool)) : Qwe (Qut a) = a := by obtain ⟨x, k⟩ := a; simp only [Qut, Qwe, Qol]; simp [gI]
def Qr7 (a : List Int × (Dome × Bool)) : List V := [.sl 1 (a.1.map eI), .fn 76 [.pa [Qmz a.2]]]
def Qus : List V → List Int × (Dome × Bool) | [.sl _ rows, .fn _ [.pa [c]]] => (rows.map dI, Qs9 c) | _ => ([], (D0, false))
theorem Qs8 (a : List Int × (Dome × Bool)) : Qus (Qr7 a) = a := by obtain ⟨x, k⟩ := a; simp only [Qr7, Qus, Qol, Qig Qs4]
def Quu (a : List Int × (Dome × Bool)) : List V := [.sl 1 (a.1.map eI), Qmz a.2]
def Qwh : List V → List Int × (Dome × Bool) | [.sl _ rows, c] => (rows.map dI, Qs9 c) | _ => ([], (D0, false))
theorem Qwi (a : List Int × (Dome × Bool)) : Qwh (Quu a) = a := by obtain ⟨x, k⟩ := a; simp only [Quu, Qwh, Qol, Qig Qs4]
def Qqk (a : List Int × (Dome × Bool)) : Prop := a.1.length < 10000000 ∧ Qv7 a.2
def r82 : List V → Prop × V := fnG Qut Qwe (fun a => Qv7 a.2) (fun a => !Qpc a.2 a.1) .b
def r88 : List V → Prop × V := fnG Qr7 Qus Qqk (fun a => idxOf (fun x => !Qpc a.2 x) a.1) .i
def r81 : List V → Prop × V := fnG Qr7 Qus Qqk (fun a => a.1.any fun x => !Qpc a.2 x) .b
def r75 : List V → Prop × V := fnG Quu Qwh Qqk (fun a => a.1.all (Qpc a.2)) .b
def Ql2 (Γ : Gam) : Gam := (((Γ.ext 76 r82).ext 82 r88).ext 75 r81).ext 65 r75
theorem Qsk (hG : GOk Try.prog Γ) (hb : ∀ (k : (Dome × Bool)) (x : Int), Qv7 k → Γ (if k.2 then 61 else 64) (V.i x :: Qmt k) = (True, .b (Qpc k x))) : GOk Try.prog (Ql2 Γ) := by
 have g1 : GOk Try.prog (Γ.ext 76 r82) := hG.ext (fun a w => Try.call76 a w) (Qb7 fun a h => P82 hG a.1 _ (by split <;> decide) _ _ (Qpo a.2 7) (Qpn a.2) (hb a.2 a.1 h))
 have g2 : GOk Try.prog ((Γ.ext 76 r82).ext 82 r88) := g1.ext (fun a w => Try.call82 a w) (Qb7 fun a h => P88 g1 a.1 _ (by decide) _ _ rfl rfl h.1 fun x hx =>
  (show (Γ.ext 76 r82) 76 _ = r82 (Qut (x, a.2)) from rfl).trans ((Qb9 (x, a.2) (Qwf _)).trans (by rw [eq_true h.2])))
 have g3 : GOk Try.prog (((Γ.ext 76 r82).ext 82 r88).ext 75 r81) := g2.ext (fun a w => Try.call75 a w) (Qb7 fun a h => P81 g2 a.1 _ _ _ rfl rfl
  ((show ((Γ.ext 76 r82).ext 82 r88) 82 _ = r88 (Qr7 a) from rfl).trans ((Qb9 a (Qs8 _)).trans (by rw [eq_true h]))))
 exact g3.ext (fun a w => Try.call65 a w) (Qb7 fun a h => P75 g3 a.1 _ _ _ (Qpo a.2 6) (Qpn a.2)
  ((show (((Γ.ext 76 r82).ext 82 r88).ext 75 r81) 75 _ = r81 (Qr7 a) from rfl).trans ((Qb9 a (Qs8 _)).trans (by rw [eq_true h]))))
theorem Ql3 (Γ : Gam) (l : List Int) (k : (Dome × Bool)) : Ql2 Γ 65 [.sl 1 (l.map eI), Qmz k] = (Qqk (l, k), .b (l.all (Qpc k))) :=
 (show Ql2 Γ 65 _ = r75 (Quu (l, k)) from rfl).trans (Qb9 (l, k) (Qwi _))
end Go.C02
