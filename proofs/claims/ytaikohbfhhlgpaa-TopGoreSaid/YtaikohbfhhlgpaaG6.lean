import Derived.Test.YtaikohbfhhlgpaaG5
import Derived.Test.YtaikohbfhhlgpaaG4
import Derived.Test.YtaikohbfhhlgpaaChecked
set_option linter.all false
open List renaming map_cons → Qb, map_nil → Qc, length_cons → Qd, length_nil → Qe, take_succ_cons → Qf, getElem?_cons_zero → Qg, drop_succ_cons → Qh, append_nil → Qj, drop_zero → Qk, headD_cons → Ql, getD_eq_getElem?_getD → Qm, nil_append → Qn, take_nil → Qo, cons_append → Qp, getElem?_cons_succ → Qq, length_map → Qt, take_zero → Qu, set_cons_zero → Qv, all_cons → Qw, all_nil → Qx, getElem?_eq_getElem → Qz, getElem?_map → Q2, set_cons_succ → Q3, replicate_zero → Q4, flatten_cons → Q5, drop_nil → Q6, flatten_nil → Q8, mem_of_getElem? → Q9, isEmpty_nil → Zf, replicate_succ → Zg, getElem?_nil → Zh, contains_nil → Zk, range → Zl, range_succ → Zm, take_of_length_le → Zn, take_length → Zq, length_append → Zt, isEmpty → Zw, any_nil → Zy, map_congr_left → Zz, length_range → Z2, flatMap_cons → Z3, all_eq_true → Z4, any_eq_true → Z5, take_append_of_le_length → Z8, replicate → Z9, getElem?_eq_none_iff → Xa, getLastD_eq_getLast? → Xb, mem_map → Xd, filter_nil → Xe, getElem?_reverse → Xf, length_replicate → Xg, length_filter_le → Xh, mem_range → Xi, drop_eq_nil_iff → Xj, flatMap_append → Xl, contains_cons → Xn, map_map → Xq, isEmpty_cons → Xs, drop_append → Xt, flatMap_nil → Xu, any_append → Xw, mem_filter → Xx, range_zero → Xy, headD_nil → Xz, foldl_nil → X0
open Nat renaming zero_add → Qi, le_refl → Zo, add_zero → Zx, mul_one → Xc, pow_le_pow_right → Xk, succ_mul → Xp
open Bool renaming false_eq_true → Qa, or_false → Qr, and_self → Qs, not_eq_true' → Zb, and_true → Ze, not_true → Zi, not_false → Zj, and_eq_true → Zs, false_and → Zu, decide_eq_true → Zv, not_eq_false → Z1, not_eq_true → Z6, or_eq_false_iff → Z7, true_eq_false → Xm
open Option renaming getD_some → Qy, map_some → Za, getD_none → Zr, some → Xv
open Int renaming natCast_zero → Q0, natCast_one → Q1, natCast_add → Q7, toNat_natCast → Zc, natCast_nonneg → Zd, lt_irrefl → Zp, add_assoc → Z0, tmod_lt_of_pos → Xo, add_zero → Xr
set_option linter.unusedSimpArgs false
set_option linter.unusedVariables false
namespace Go.C02
open Go.Fam Go.Proofs
theorem P71 (d : Dome) (n : Int) (h : d.bolts.length < 1000000) : Qa9 Try.prog 61 [.i n, .pa (Qaj d)] (.b (Qh7 d n)) := by
 refine Qac okC hmix Try.func61 cb61 cc61 cs61 cn61 ?_
 have h1 : inI ((d.bolts.length : Int) - 1) := by unfold inI; omega
 simp only [rc61, rs61, gC67, h1, Qa7, Qa8, Qag, Qa6, Qad, Qa5, Qa2, Fam.step, Qae, evO, opv, qv, binV, ldV, lenV, Qaw, Qaa, Qa4, flat, Qa3, Qa0, Qa1, ↓reduceIte, Nat.reduceEqDiff, Nat.reduceAdd, Nat.reduceLT, Nat.reduceLeDiff, Qb, Qc, Qd, Qe, Qk, Ql, Qj, endQ, rvs, rv1, resV, vw_i, vw_b, zipA, Qi, V.b.injEq, Qr, Qa, true_and, and_self, implies_true, reduceCtorEq, Qt, Qaj]
 rfl
theorem P74 (d : Dome) (n : Int) (h : inI (2 * d.loss)) : Qa9 Try.prog 64 [.i n, .pa (Qaj d)] (.b (Qea d n)) := by
 refine Qac okC hmix Try.func64 cb64 cc64 cs64 cn64 ?_
 simp only [rc64, rs64, gC67, h, Qa7, Qa8, Qag, Qa6, Qad, Qa5, Qa2, Fam.step, Qae, evO, opv, qv, binV, ldV, Qaw, Qaa, Qa4, flat, Qa3, Qa0, Qa1, ↓reduceIte, Nat.reduceEqDiff, Nat.reduceAdd, Nat.reduceLT, Nat.reduceLeDiff, Qb, Qc, Qd, Qe, Qh, Qk, Ql, Qj, endQ, rvs, rv1, resV, vw_i, vw_b, zipA, Qi, V.b.injEq, Qr, Qa, true_and, and_self, implies_true, reduceCtorEq, Qaj]
 rfl
theorem P72 (s : Span) : Qa9 Try.prog 62 [.ag (eSpan s)] (.b (Qe9 s)) := by
 refine Qac okC hmix Try.func62 cb62 cc62 cs62 cn62 ?_
 simp only [rc62, rs62, gC73, Qa7, Qa8, Qag, Qa6, Qad, Qa5, Qa2, Fam.step, Qae, evO, opv, qv, ldV, Qaw, V.cells, Qas, Qaa, Qa4, flat, Qa3, Qa0, Qa1, ↓reduceIte, Nat.reduceEqDiff, Nat.reduceAdd, Nat.reduceLT, Nat.reduceLeDiff, Qb, Qc, Qd, Qe, Qf, Qo, Qj, endQ, rvs, rv1, resV, vw_i, vw_b, Qb1, zipA, Qi, V.b.injEq, Qr, Qa, true_and, and_self, implies_true, Qkm, eSpan]
 rfl
def eND (a : Int × Dome) : List V := [.i a.1, .pa (Qaj a.2)]
def dND : List V → Int × Dome | [.i n, .pa cs] => (n, Qj9 cs) | _ => (0, D0)
theorem Qxo (a : Int × Dome) : dND (eND a) = a := by simp [dND, eND, Qeq]
def r71 : List V → Prop × V := fnG eND dND (fun a => a.2.bolts.length < 1000000) (fun a => Qh7 a.2 a.1) .b
def r74 : List V → Prop × V := fnG eND dND (fun a => inI (2 * a.2.loss)) (fun a => Qea a.2 a.1) .b
def r72 : List V → Prop × V := fnG (fun s => [.ag (eSpan s)]) (fun vs => Qr6 (aC (vs.headD .u))) (fun _ => True) Qe9 .b
def GD : Gam := ((GC.ext 61 r71).ext 64 r74).ext 62 r72
theorem okD : GOk Try.prog GD :=
 ((okC.ext (fun a w => Try.call61 a w) (Qb7 fun a h => P71 a.2 a.1 h)).ext (fun a w => Try.call64 a w) (Qb7 fun a h => P74 a.2 a.1 h)).ext (fun a w => Try.call62 a w) (Qb7 fun a _ => P72 a)
theorem Qxj (k : Unit) (x : Strip) (h : Qk1 k) : GD 70 (V.ag (Qbd x) :: Qgw k) = (True, .b (Qgn k x)) := rfl
theorem Qyj (Γ : Gam) (hΓ : Γ 62 = r72) (k : Unit) (x : Span) (h : Qns k) : Γ 62 (V.ag (eSpan x) :: Qj4 k) = (True, .b (Qk5 k x)) := by
 rw [hΓ]
 exact (show r72 _ = r72 [.ag (eSpan x)] from rfl).trans ((Qb9 (e := fun s => [.ag (eSpan s)]) x rfl).trans (by rfl))
theorem bInt (Γ : Gam) (h1 : Γ 61 = r71) (h2 : Γ 64 = r74) (k : Dome × Bool) (x : Int) (h : Qv7 k) : Γ (if k.2 then 61 else 64) (V.i x :: Qmt k) = (True, .b (Qpc k x)) := by
 obtain ⟨d, b⟩ := k
 cases b
 ·exact (show Γ 64 _ = r74 (eND (x, d)) from by rw [h2]; rfl).trans ((Qb9 (x, d) (Qxo _)).trans (by rw [eq_true (show inI (2 * d.loss) from h)]; rfl))
 ·exact (show Γ 61 _ = r71 (eND (x, d)) from by rw [h1]; rfl).trans ((Qb9 (x, d) (Qxo _)).trans (by rw [eq_true (show d.bolts.length < 1000000 from h)]; rfl))
def GE : Gam := Ql2 (Qgd (Qdx GD))
theorem okE : GOk Try.prog GE := Qsk (Qrb (Qop okD Qxj) (Qyj _ rfl)) (bInt _ rfl rfl)
theorem gE67 (n lo hi : Int) : GE 44 [.i n, .i lo, .i hi] = (True, .b (Qak n lo hi)) := rfl
theorem gE73 (a b m : Int) : GE 63 [.ag [.i a, .i b], .i m] = (True, .b (Qc7 ⟨a, b⟩ m)) := rfl
theorem gE79 (l : List Strip) : GE 69 [.sl 3 (l.map Qbd), .fn 70 []] = (l.length < 10000000, .b (l.all Qdi)) :=
 (show GE 69 _ = Qdx GD 69 [.sl 3 (l.map Qbd), Qhw ()] from rfl).trans ((Qn5 GD l ()).trans (by simp [Qhi, Qk1]; rfl))
theorem P64 (b : Bolt) : Qa9 Try.prog 52 [.ag (Qan b)] (.b (Qd5 b)) := by
 refine Qac okE hmix Try.func52 cb52 cc52 cs52 cn52 ?_
 simp only [rc52, rs52, gE67, gE73, gE79, Qa7, Qa8, Qag, Qa6, Qad, Qa5, Qa2, Fam.step, Qae, Qbu, Qb8, ug, evO, opv, qv, Qao, binV, ldV, lenV, Qaw, V.cells, Qas, Qaa, Qa4, flat, Qa3, Qa0, Qa1, ↓reduceIte, Nat.reduceEqDiff, Nat.reduceAdd, Nat.reduceLT, Nat.reduceLeDiff, Qb, Qc, Qw, Qx, Qd, Qe, Qh, Qk, Qf, Qu, Ql, Qj, endQ, rvs, rv1, resV, vw_i, vw_b, Qb3, Qb1, Qfl, zipA, Qi, V.b.injEq, Qs, Ze, Qr, Qa, true_and, and_true, and_self, implies_true, beq_true, Qg2, Zv, imp_self, Qt, Qkm, Qan]
 have e : Qd5 b = (Qc7 b.stretch 60 && decide ((b.strips.length : Int) ≤ 8) && b.strips.all Qdi && Qak b.wrong 0 2) := by
  unfold Qd5
  have : decide ((b.strips.length : Int) ≤ 8) = decide (b.strips.length ≤ 8) := by congr 1; simp; omega
  rw [this]
  cases Qc7 b.stretch 60 <;> cases Qak b.wrong 0 2 <;> cases b.strips.all Qdi <;> simp
 refine ⟨fun h => ⟨h, ?_⟩, e.symm⟩
 have : b.strips.length ≤ 8 := by cases h1 : Qc7 b.stretch 60 <;> simp [h1] at h; omega
 omega
def r64 : List V → Prop × V := fnG (fun b => [.ag (Qan b)]) dB (fun _ => True) Qd5 .b
def GF : Gam := GE.ext 52 r64
theorem okF : GOk Try.prog GF := okE.ext (fun a w => Try.call52 a w) (Qb7 fun a _ => P64 a)
theorem Qyi (Γ : Gam) (h1 : Γ 52 = r64) (k : Unit) (x : Bolt) (h : Qnq k) : Γ 52 (V.ag (Qan x) :: Qj3 k) = (True, .b (Qk4 k x)) := by
 rw [h1]
 exact (show r64 _ = r64 [.ag (Qan x)] from rfl).trans ((Qb9 (e := fun b => [.ag (Qan b)]) x (Qep _)).trans (by rfl))
def GG : Gam := Qjc GF
theorem okG : GOk Try.prog GG := Qra okF (Qyi _ rfl)
theorem gG67 (n lo hi : Int) : GG 44 [.i n, .i lo, .i hi] = (True, .b (Qak n lo hi)) := rfl
theorem gG75 (l : List Int) (d : Dome) : GG 65 [.sl 1 (l.map eI), .fn 61 [.pa (Qaj d)]] = (l.length < 10000000 ∧ d.bolts.length < 1000000, .b (l.all (Qh7 d))) :=
 (show GG 65 _ = Ql2 (Qgd (Qdx GD)) 65 [.sl 1 (l.map eI), Qmz (d, true)] from rfl).trans ((Ql3 _ l (d, true)).trans (by rfl))
theorem Qyp (l : List Int) (d : Dome) : GG 65 [.sl 1 (l.map eI), .fn 64 [.pa (Qaj d)]] = (l.length < 10000000 ∧ inI (2 * d.loss), .b (l.all (Qea d))) :=
 (show GG 65 _ = Ql2 (Qgd (Qdx GD)) 65 [.sl 1 (l.map eI), Qmz (d, false)] from rfl).trans ((Ql3 _ l (d, false)).trans (by rfl))
theorem gG76 (l : List Span) : GG 66 [.sl 2 (l.map eSpan), .fn 62 []] = (l.length < 10000000, .b (l.all Qe9)) :=
 (show GG 66 _ = Qgd (Qdx GD) 66 [.sl 2 (l.map eSpan), Qkx ()] from rfl).trans ((Qoo _ l ()).trans (by simp [Qk0, Qns]; rfl))
theorem gG63 (l : List Bolt) : GG 51 [.sl 4 (l.map Qan), .fn 52 []] = (l.length < 10000000, .b (l.all Qd5)) :=
 (show GG 51 _ = Qjc GF 51 [.sl 4 (l.map Qan), Qkw ()] from rfl).trans ((Qon _ l ()).trans (by simp [Qjz, Qnq]; rfl))
theorem P62 (d : Dome) : Qa9 Try.prog 50 [.ag (Qaj d)] (.b (Qdk d)) := by
 refine Qac okG hmix Try.func50 cb50 cc50 cs50 cn50 ?_
 have g1 := gG75 d.gores d
 have g2 := Qyp d.widths d
 unfold Qaj at g1 g2
 simp only [rc50, rs50, gG67, g1, g2, gG76, Qa7, Qa8, Qag, Qa6, Qad, Qa5, Qa2, Fam.step, Qae, Qbu, Qb8, ug, evO, opv, qv, Qao, binV, ldV, lenV, Qaw, V.cells, Qas, Qaa, Qa4, flat, Qa3, Qa0, Qa1, ↓reduceIte, Nat.reduceEqDiff, Nat.reduceAdd, Nat.reduceLT, Nat.reduceLeDiff, Qb, Qc, Qw, Qx, Qd, Qe, Qh, Qk, Ql, Qj, endQ, rvs, rv1, resV, vw_i, vw_b, Qb3, Qdw, Qb1, Qfl, zipA, Qi, V.b.injEq, Qs, Ze, Qr, Qa, true_and, and_true, and_self, implies_true, beq_true, Qg2, Zv, imp_self, Qt, Qaj]
 have e : Qdk d = (Qak (↑d.bolts.length) 1 4 && Qak (↑d.gores.length) 3 16 && d.gores.all (Qh7 d) && Qak d.loss 0 20 && Qak (↑d.rounds.length) 1 12 && d.rounds.all Qe9 &&
   decide ((d.widths.length : Int) = d.rounds.length) && d.widths.all (Qea d) && Qak d.slope 0 500) := by
  have : decide ((d.widths.length : Int) = d.rounds.length) = decide (d.widths.length = d.rounds.length) := by congr 1; simp; omega
  rw [this]
  unfold Qdk Qh8
  ac_rfl
 refine ⟨fun h => ⟨h, ?_⟩, fun h => ⟨h, ?_⟩, fun h => ⟨h, ?_⟩, e.symm⟩
 ·simp [Qak] at h; omega
 ·simp [Qak] at h; omega
 ·simp [Qak] at h; unfold inI; omega
def r62 : List V → Prop × V := fnG (fun d => [.ag (Qaj d)]) dD (fun _ => True) Qdk .b
def GH : Gam := GG.ext 50 r62
theorem okH : GOk Try.prog GH := okG.ext (fun a w => Try.call50 a w) (Qb7 fun a _ => P62 a)
theorem gH63 (l : List Bolt) : GH 51 [.sl 4 (l.map Qan), .fn 52 []] = (l.length < 10000000, .b (l.all Qd5)) := gG63 l
theorem gH62 (d : Dome) : GH 50 [.ag (Qaj d)] = (True, .b (Qdk d)) :=
 (show GH 50 _ = r62 [.ag (Qaj d)] from rfl).trans (Qb9 (e := fun d => [.ag (Qaj d)]) d (Qeq _))
theorem P41 (d : Dome) : Qa9 Try.prog 33 [.ag (Qaj d)] (.i (Qc3 d)) := by
 refine Qac okH hmix Try.func33 cb33 cc33 cs33 cn33 ?_
 have g1 := gH62 d
 unfold Qaj at g1
 simp only [rc33, rs33, g1, gH63, Qah, Qa7, Qa8, Qaf, Qc2, Qab, Qag, Qa6, Qad, Qai, Qa5, Qa2, Fam.step, Qae, evO, opv, qv, ldV, Qaw, V.cells, Qas, Qaa, Qa4, flat, Qa3, Qa0, Qa1, ↓reduceIte, Nat.reduceEqDiff, Nat.reduceAdd, Nat.reduceLT, Nat.reduceLeDiff, Qb, Qc, Qd, Qe, Qk, Qf, Qo, Ql, Qj, endQ, rvs, rv1, resV, vw_i, Qb3, Qb1, Qfl, zipA, Qi, V.i.injEq, Qr, Qa, true_and, and_true, and_self, implies_true, Zb, Z1, Qaj]
 refine ⟨fun h => by simp [Qc3, h], fun h => ⟨?_, fun h' => by simp [Qc3, h, h'], fun h' => by simp [Qc3, h, h']⟩⟩
 simp [Qdk, Qh8, Qak] at h
 omega
end Go.C02
set_option linter.unusedSimpArgs false
set_option linter.unusedVariables false
namespace Go.C02
open Go.Fam Go.Proofs
theorem Qfo {α : Type} {e : α → List V} {k : Nat} (h : ∀ x, (e x).length = k) : ∀ l : List α, ((l.map e).flatten).length = l.length * k
 | [] => by simp
 | x :: l => by rw [Qb, Q5, Zt, h, Qfo h l, Qd, Xp]; omega
mutual
theorem Qkt (hp : List Blk) (n : Nat) : ∀ v : V, Qaa v = false → cutV hp n v = v
 | .u, _ | .b _, _ | .i _, _ | .z _, _ | .sl _ _, _ | .sx _ _, _ | .pa _, _ | .pn, _ | .yl _, _ | .w _ _, _ => by simp [cutV]
 | .ag cs, h | .tp cs, h => by simp only [Qaa] at h; simp only [cutV, Qaq hp n cs h]
 | .fn f cs, h => by simp only [Qaa] at h; simp only [cutV, Qaq hp n cs h]
 | .gv q v, h => by simp only [Qaa] at h; simp only [cutV, Qkt hp n v h]
 | .ad _ _ _, h | .rf _ _ _ _ _, h | .mp _ _, h | .it _ _, h => by simp [Qaa] at h
theorem Qaq (hp : List Blk) (n : Nat) : ∀ vs : List V, Qa4 vs = false → cutL hp n vs = vs
 | [], _ => rfl
 | v :: vs, h => by
  simp only [Qa4, Z7] at h
  simp only [cutL, Qkt hp n v h.1, Qaq hp n vs h.2]
end
theorem Qct (hp : List Blk) (n : Nat) : ∀ (a b : List V), cutL hp n (a ++ b) = cutL hp n a ++ cutL hp n b
 | [], b => rfl
 | v :: a, b => by simp only [Qp, cutL, Qct hp n a b]
theorem Qe8 : ∀ (a b : List V), Qa4 (a ++ b) = (Qa4 a || Qa4 b)
 | [], b => by simp [Qa4]
 | v :: a, b => by simp only [Qp, Qa4, Qe8 a b, Bool.or_assoc]
mutual
theorem Qoc (n : Nat) : ∀ v : V, Qaa v = false → upV n v = v
 | .u, _ | .b _, _ | .i _, _ | .z _, _ | .sl _ _, _ | .sx _ _, _ | .pa _, _ | .pn, _ | .yl _, _ | .w _ _, _ => by simp [upV]
 | .ag cs, h | .tp cs, h => by simp only [Qaa] at h; simp only [upV, Qd8 n cs h]
 | .fn f cs, h => by simp only [Qaa] at h; simp only [upV, Qd8 n cs h]
 | .gv q v, h => by simp only [Qaa] at h; simp only [upV, Qoc n v h]
 | .ad _ _ _, h | .rf _ _ _ _ _, h | .mp _ _, h | .it _ _, h => by simp [Qaa] at h
theorem Qd8 (n : Nat) : ∀ vs : List V, Qa4 vs = false → upL n vs = vs
 | [], _ => rfl
 | v :: vs, h => by
  simp only [Qa4, Z7] at h
  simp only [upL, Qoc n v h.1, Qd8 n vs h.2]
end
theorem Qdz {α : Type} {e : α → List V} (h : ∀ x, Qa4 (e x) = false) : ∀ l : List α, Qa4 (l.map e).flatten = false
 | [] => rfl
 | x :: l => by simp only [Qb, Q5, Qe8, h, Qdz h l, Qr]
theorem Qed {α : Type} {e : α → List V} {k : Nat} (h : ∀ x, (e x).length = k) : ∀ (l : List α), Qcm k ((l.map e).flatten) 0 l.length = l.map e
 | [] => by simp [Qcm]
 | x :: l => by
  rw [Qd, Qkr, Qb, Q5, Qi, Qk]
  have e1 : (e x ++ (l.map e).flatten).take k = e x := by rw [Z8 (by rw [h]; exact Zo _), Zn (by rw [h]; exact Zo _)]
  rw [e1]
  congr 1
  have ih := Qed h l
  unfold Qcm at ih ⊢
  conv => rhs; rw [← ih]
  apply Zz
  intro j _
  congr 1
  have e2 : k + j * k = (e x).length + j * k := by rw [h]
  rw [e2, Xt, Qi]
  simp
theorem Qjs {α : Type} {e : α → List V} (hp : List Blk) (n : Nat) (h : ∀ x, (e x).map (vw hp n) = e x) (l : List α) : (l.map e).map (fun r => r.map (vw hp n)) = l.map e := by
 rw [Xq]
 exact Zz fun x _ => h x
end Go.C02
set_option linter.unusedSimpArgs false
set_option linter.unusedVariables false
namespace Go.CT
open Go.Fam Go.Proofs Go.RowKit Go.C02
def lapV (rs : List Span) : List V := [.i 8, .i 12, .sl 2 [], .sl 2 [], .sl 1 [[.sl 2 (rs.map eSpan)]]]
noncomputable def KG2 (rs : List Span) : Gam := KG1.ext 39 (one [.ag [.sl 2 (rs.map eSpan)]] (.b true))
theorem Qxz {rs : List Span} (h : OkR rs) : GOk Try.prog (KG2 rs) := Qp8.ext (f := 39) (fun a w => Try.call39 a w) (Qcc (W39 rs h))
theorem h39 (rs : List Span) : KG2 rs 39 [.ag [.sl 2 (rs.map eSpan)]] = (True, .b true) := (show KG2 rs 39 _ = one _ _ _ from rfl).trans (Qc8 _ _)
theorem W38 (rs : List Span) (h : OkR rs) : Qa9 Try.prog 38 [.ag [.sl 2 (rs.map eSpan)]] (.b false) := by
 refine Qac (Qxz h) hmix Try.func38 cb38 cc38 cs38 cn38 ?_
 simp only [rc38, rs38, h39, Qa7, Qa8, Qag, Qa6, Qad, Qa5, Qa2, Fam.step, Qae, evO, opv, qv, ldV, Qaw, V.cells, Qas, Qaa, Qa4, flat, Qa3, Qa0, Qa1, ↓reduceIte, Nat.reduceEqDiff, Nat.reduceLT, Nat.reduceLeDiff, Qb, Qc, Qd, Qe, Qf, Qo, Qj, endQ, rvs, rv1, resV, vw_b, Qb3, Qb1, zipA, Qi, Qr, Zi, Qa, and_self, implies_true]
noncomputable def KG3 (rs : List Span) : Gam := (KG2 rs).ext 38 (one [.ag [.sl 2 (rs.map eSpan)]] (.b false))
theorem Qy0 {rs : List Span} (h : OkR rs) : GOk Try.prog (KG3 rs) := (Qxz h).ext (f := 38) (fun a w => Try.call38 a w) (Qcc (W38 rs h))
theorem h38 (rs : List Span) : KG3 rs 38 [.ag [.sl 2 (rs.map eSpan)]] = (True, .b false) := (show KG3 rs 38 _ = one _ _ _ from rfl).trans (Qc8 _ _)
theorem W55 (rs : List Span) (h : OkR rs) : Qa9 Try.prog 55 [.sl 1 [[.sl 2 (rs.map eSpan)]], .fn 38 []] (.i (-1)) := by
 refine Qac (Qy0 h) hmix Try.func55 cb55 cc55 cs55 cn55 ?_
 simp only [rc55, rs55, Qa7, Qa8, Qab, Qa6, Qad, Qa5, Qa2, Fam.step, Qae, evO, opv, qv, lenV, Qa3, Qa0, Qa1, ↓reduceIte, Nat.reduceEqDiff, Int.reduceNeg, Qb, Qc, Qd, Qe, zipA, Qi, true_and, reduceCtorEq]
 refine Qbm 1 (fun i => ⟨lkp [(0, .sl 1 [[.sl 2 (rs.map eSpan)]]), (1, .fn 38 []), (7, .i 1), (8, .i i)], []⟩) ?_ ?_ ?_
 ·simp only [Q0, Q1, kp, Qa0, Qa1, ↓reduceIte, Nat.reduceEqDiff, Qb, Qc, reduceCtorEq]
 ·intro i hi
  have : i = 0 := by omega
  subst this
  have i1 : inI 1 := by unfold inI; omega
  simp only [h38, Q0, Q1, i1, Qah, Qa7, Qa8, Qaf, Qab, Qa6, Qad, Qai, Qa5, Qa2, Fam.step, Qae, evO, opv, qv, binV, ldV, iadV, Qaw, Qaa, Qa4, flat, kp, Qa3, Qa0, Qa1, ↓reduceIte, Nat.reduceEqDiff, Nat.reduceLT, Nat.reduceLeDiff, Int.reduceNeg, Int.toNat_zero, Int.reduceLT, Int.reduceLE, Int.reduceAdd, Qb, Qc, Qd, Qe, Qf, Qo, Qj, Qg, Qy, Qb3, Qb1, Qi, Qr, Qa, decide_true, and_self, implies_true, reduceCtorEq, Qm]
 ·simp only [Q1, Qa7, Qa8, Qaf, Qar, Qag, Qa6, Qad, Qai, Qa5, Qa2, Fam.step, Qae, evO, opv, qv, binV, Qa3, Qa0, Qa1, ↓reduceIte, Nat.reduceEqDiff, Int.reduceNeg, Qb, Qc, endQ, rvs, rv1, resV, vw_i, Zp, Qa, decide_false, and_self, reduceCtorEq]
noncomputable def KG4 (rs : List Span) : Gam := (KG3 rs).ext 55 (one [.sl 1 [[.sl 2 (rs.map eSpan)]], .fn 38 []] (.i (-1)))
theorem Qy1 {rs : List Span} (h : OkR rs) : GOk Try.prog (KG4 rs) := (Qy0 h).ext (f := 55) (fun a w => Try.call55 a w) (Qcc (W55 rs h))
theorem h55 (rs : List Span) : KG4 rs 55 [.sl 1 [[.sl 2 (rs.map eSpan)]], .fn 38 []] = (True, .i (-1)) := (show KG4 rs 55 _ = one _ _ _ from rfl).trans (Qc8 _ _)
theorem W37 (rs : List Span) (h : OkR rs) : Qa9 Try.prog 37 [.sl 1 [[.sl 2 (rs.map eSpan)]], .fn 38 []] (.b false) := by
 refine Qac (Qy1 h) hmix Try.func37 cb37 cc37 cs37 cn37 ?_
 simp only [rc37, rs37, h55, Qa7, Qa8, Qag, Qa6, Qad, Qa5, Qa2, Fam.step, Qae, evO, opv, qv, binV, Qaw, Qaa, Qa4, flat, Qa3, Qa0, Qa1, ↓reduceIte, Nat.reduceEqDiff, Nat.reduceLT, Int.reduceNeg, Int.reduceLE, Qb, Qc, Qj, endQ, rvs, rv1, resV, vw_b, Qb3, Qfl, zipA, Qi, Qr, Qa, decide_false, and_self, implies_true, reduceCtorEq]
theorem W36 : Qa9 Try.prog 36 [.sl 1 [[.sl 2 []], [.sl 2 []]]] (.sl 2 []) := by
 intro S w cargs hS hsz hr
 obtain ⟨c, rfl⟩ : ∃ c, cargs = #[c] := by
  match cargs, hsz with
  | ⟨[c]⟩, _ => exact ⟨c, rfl⟩
 simp only [RepL, Rep, and_true] at hr
 obtain ⟨a, cap, rfl, hcap, hr⟩ := hr
 rcases hr with hr | ⟨blk, off, cur, e, fr, rfl, hSb, hh, hrow⟩
 ·cases hr
 obtain ⟨L, hL⟩ : ∃ L, L = cur.toList.drop off := ⟨_, rfl⟩
 rw [← hL] at hrow
 match L, hrow with
 | [], h => simp [Qax, RepL] at h
 | [c0], h => simp [Qax, RepL] at h
 | c0 :: c1 :: L, h =>
  simp only [Qax, RepL, Rep, and_true, Qh, Qk, true_or, Qe] at h
  obtain ⟨_, ⟨a0, p0, rfl, _⟩, _, ⟨a1, p1, rfl, _⟩⟩ := h
  have g0 : cur[off]? = some (.slice a0 0 p0) := by
   have := congrArg (·[0]?) hL.symm
   simpa using this
  have g1 : cur[off + 1]? = some (.slice a1 0 p1) := by
   have := congrArg (·[1]?) hL.symm
   simpa using this
  have k0 : w.cell? ⟨blk, off, none⟩ = some (.slice a0 0 p0) := by simp only [World.cell?, hh, g0]; rfl
  have k1 : w.cell? ⟨blk, off + 1, none⟩ = some (.slice a1 0 p1) := by simp only [World.cell?, hh, g1]; rfl
  refine (Qcx.calls (n := 0) (Qr5 blk off cap p0 p1 a0 a1 w k0 k1)).mono ?_
  rintro e' w' ⟨rfl, rfl⟩
  have he := Evol.refl S w' noO
  refine ⟨_, rfl, ⟨⟨fun n hn => ⟨.inl hn, rfl⟩, fun _ _ _ h => nomatch h⟩, rfl, rfl, rfl, Zo _, fun _ _ => rfl, fun _ _ _ => rfl, he.fresh, fun n hn => hn.elim .inl fun h => by omega⟩, ?_⟩
  simp only [Rep]
  exact ⟨none, 0, rfl, Zo _, .inl trivial⟩
noncomputable def KG5 (rs : List Span) : Gam := ((KG4 rs).ext 37 (one [.sl 1 [[.sl 2 (rs.map eSpan)]], .fn 38 []] (.b false))).ext 36 (one [.sl 1 [[.sl 2 []], [.sl 2 []]]] (.sl 2 []))
theorem Qy2 {rs : List Span} (h : OkR rs) : GOk Try.prog (KG5 rs) := ((Qy1 h).ext (f := 37) (fun a w => Try.call37 a w) (Qcc (W37 rs h))).ext (f := 36) (fun a w => Try.call36 a w) (Qcc W36)
theorem h37 (rs : List Span) : KG5 rs 37 [.sl 1 [[.sl 2 (rs.map eSpan)]], .fn 38 []] = (True, .b false) := (show KG5 rs 37 _ = one _ _ _ from rfl).trans (Qc8 _ _)
theorem h36 (rs : List Span) : KG5 rs 36 [.sl 1 [[.sl 2 []], [.sl 2 []]]] = (True, .sl 2 []) := (show KG5 rs 36 _ = one _ _ _ from rfl).trans (Qc8 _ _)
theorem k23 (rs : List Span) (n lo hi : Int) : KG5 rs 23 [.i n, .i lo, .i hi] = (True, .b (inW n lo hi)) := rfl
theorem W22 (rs : List Span) (h : OkR rs) : Qa9 Try.prog 22 [.ag (lapV rs)] (.i 0) := by
 refine Qac (Qy2 h) hmix Try.func22 cb22 cc22 cs22 cn22 ?_
 have w1 : inW 8 1 8 = true := by decide
 have w2 : inW 12 1 12 = true := by decide
 have hck : Qcm 1 (V.sl 2 [] :: V.sl 2 [] :: List.drop 1 (List.drop 1 [[V.z 2], [V.z 2]].flatten)) 0 2 = [[V.sl 2 []], [V.sl 2 []]] := rfl
 have d1 : decide ((20 : Int) < 0) = false := by decide
 have d2 : decide ((5 : Int) < 1) = false := by decide
 simp only [rc22, rs22, lapV, k23, w1, w2, h36, hck, Q0, Q1, Qah, Qa7, Qa8, Qaf, Qab, Qa6, Qad, Qa5, Qa2, Fam.step, Qae, Qbp, Qbu, Qau, Qb8, ug, nv, evO, opv, qv, Qao, binV, ldV, lenV, Qaw, Qal, putAt, Qb0, Qba, V.cells, Qas, Qaz, Qaa, Qa4, flat, Qa3, Qa0, Qa1, ↓reduceIte, Nat.reduceEqDiff, Nat.reduceAdd, Nat.reduceMul, Nat.reduceLT, Nat.reduceLeDiff, Int.reduceLT, Qb, Qc, Qw, Qx, Qd, Qe, Qh, Qk, Qf, Qu, Ql, Qp, Qn, Qj, Q4, Zg, vw_i, Qb3, Qb1, zipA, beq_self_eq_true, Qi, Qs, Qr, Zi, Qa, decide_false, true_and, and_self, forall_const, implies_true, reduceCtorEq, not_false_eq_true, ne_eq, imp_self]
 refine Qbm 0 (fun i => ⟨lkp [(1, .pa (lapV rs)), (3, .mp 0 0), (40, .sl 2 []), (41, .i 0), (42, .i 0)], [.map true [] []]⟩) ?_ ?_ ?_
 ·simp only [lapV, cutH, kp, cutV, cutL, cutB, Qa0, Qa1, ↓reduceIte, Nat.reduceEqDiff, Nat.reduceLT, Qb, Qc, Qf, Qo]
 ·intro i hi; omega
 ·simp only [lapV, h37, Qah, Qa7, Qa8, Qaf, Qar, Qag, Qa6, Qad, Qai, Qa5, Qa2, Fam.step, Qae, evO, opv, qv, binV, ldV, Qaw, Qaa, Qa4, flat, Qa3, Qa0, Qa1, ↓reduceIte, Nat.reduceEqDiff, Nat.reduceLT, Nat.reduceLeDiff, Qb, Qc, Qd, Qe, Qh, Qk, Ql, Qj, endQ, rvs, rv1, resV, vw_i, Qb3, Qfl, Zp, Qi, Qr, Qa, decide_false, and_self, implies_true]
theorem Qex {α : Type} {l : List α} {i : Nat} {x : α} (h : l[i]? = some x) : l.take (i + 1) = l.take i ++ [x] := by
 rw [List.take_add_one, h]; rfl
theorem Qp1 (l : List Span) : ((l.map eSpan).flatten).length = l.length * 2 := Qfo (e := eSpan) (k := 2) (fun _ => rfl) l
theorem Qfe (l : List Span) : Qa4 ((l.map eSpan).flatten) = false := by
 induction l with
 | nil => rfl
 | cons x l ih => simp only [Qb, Q5, eSpan, Qp, Qn, Qa4, Qaa, ih]; rfl
theorem Qrz (l : List Span) : Qcm 2 ((l.map eSpan).flatten) 0 l.length = l.map eSpan := Qed (e := eSpan) (k := 2) (fun _ => rfl) l
theorem vw_S (hp : List Blk) (n : Nat) (l : List Span) : (l.map eSpan).map (fun r => r.map (vw hp (n + 1))) = l.map eSpan := by
 rw [Xq]
 exact Zz fun x _ => rfl
def Qg4 (rs : List Span) (i : Nat) : Int := (rs.take i).foldl (fun w s => max w s.high) 0
theorem Qkg {rs : List Span} {i : Nat} {s : Span} (h : rs[i]? = some s) : Qg4 rs (i + 1) = max (Qg4 rs i) s.high := by
 unfold Qg4
 rw [Qex h, List.foldl_append]; rfl
theorem Qu9 {rs : List Span} (h : OkR rs) : ∀ i, 0 ≤ Qg4 rs i ∧ Qg4 rs i < 8 := by
 intro i
 induction i with
 | zero => simp [Qg4]
 | succ i ih =>
  cases hs : rs[i]? with
  | none =>
   have := Xa.1 hs
   unfold Qg4 at ih ⊢
   rw [Zn (by omega)] at ih ⊢
   exact ih
  | some s =>
   have := h.row s (Q9 hs)
   rw [Qkg hs]; omega
def mirS (w : Int) (s : Span) : Span := ⟨w - s.high, w - s.low⟩
def mirR (rs : List Span) : List Span := rs.reverse.map (mirS (Qg4 rs rs.length))
theorem Qtb (rs : List Span) : (mirR rs).length = rs.length := by simp [mirR]
def yB (rs : List Span) (k : Nat) : List (List V) := (Zl (rs.length - k)).reverse.map fun (i : Nat) => [.i (i : Int), .ag (eSpan (rs.getD i ⟨0, 0⟩))]
theorem Qxf {rs : List Span} {k : Nat} (h : k < rs.length) : yB rs k = [.i ((rs.length - k - 1 : Nat) : Int), .ag (eSpan (rs.getD (rs.length - k - 1) ⟨0, 0⟩))] :: yB rs (k + 1) := by
 unfold yB
 obtain ⟨m, hm⟩ : ∃ m, rs.length - k = m + 1 := ⟨rs.length - k - 1, by omega⟩
 rw [hm, show rs.length - (k + 1) = m by omega, Zm, List.reverse_append]
 rfl
theorem I71 (rs : List Span) (h : OkR rs) : Qgt Try.prog 71 [.pa [.sl 2 (rs.map eSpan)]] (yB rs 0) := by
 refine Qng Qp8 hmix Try.func71 cb71 (md := 2) rfl cc71 cs71 cn71 ?_
 intro q
 have hl := h.len
 have i0 : inI ((rs.length : Int) - 1) := by unfold inI; omega
 simp only [rc71, i0, Qa7, Qa8, Qab, Qa6, Qad, Qa5, Qa2, Fam.step, Qae, evO, opv, qv, binV, ldV, lenV, Qa3, Qa0, Qa1, ↓reduceIte, Nat.reduceEqDiff, Nat.reduceLeDiff, Qb, Qc, Qd, Qe, Ql, zipA, Qi, Qa, true_and, reduceCtorEq, Qt]
 refine Qbm rs.length (fun k => ⟨lkp [(0, .yl q), (1, .pa [.sl 2 (rs.map eSpan)]), (3, .i ((rs.length : Int) - 1 - k))], [.gh [.yl q, .pa [.sl 2 (rs.map eSpan)]] (some (yB rs k))]⟩) ?_ ?_ ?_
 ·simp only [Q0, Int.sub_zero, kp, Qa0, Qa1, ↓reduceIte, Nat.reduceEqDiff, Qb, Qc, reduceCtorEq]
 ·intro k hk
  obtain ⟨m, hm⟩ : ∃ m : Nat, m = rs.length - k - 1 := ⟨_, rfl⟩
  have e1 : (rs.length : Int) - 1 - k = (m : Int) := by omega
  have hml : m < rs.length := by omega
  obtain ⟨s, hs⟩ : ∃ s, rs[m]? = some s := ⟨_, Qz hml⟩
  have hsD : rs.getD m ⟨0, 0⟩ = s := by rw [Qm, hs]; rfl
  have hy := Qxf hk
  rw [← hm, hsD] at hy
  have h0 : (0 : Int) ≤ (m : Int) ∧ (m : Int) < rs.length := by omega
  have i1 : inI ((m : Int) - 1) := by unfold inI; omega
  have e2 : (rs.length : Int) - 1 - ((k + 1 : Nat) : Int) = (m : Int) - 1 := by omega
  simp only [e1, hs, h0, hy, e2, i1, Qah, Qa7, Qa8, Qaf, Qc2, Qab, Qag, Qa6, Qqs, Qo3, yres, Qo6, endI, Qad, Qai, Qa5, Qa2, Fam.step, Qae, Qau, Qb8, evO, opv, qv, binV, binW, ldV, iadV, flat, Qd3, kp, Qa3, Qa0, Qa1, ↓reduceIte, Nat.reduceEqDiff, Nat.reduceAdd, Nat.reduceLeDiff, Qb, Qc, Qd, Qe, Qf, Qo, Ql, Qg, Qy, Qi, Qs, Qa, decide_true, true_and, and_self, forall_const, implies_true, reduceCtorEq, Za, Zb, imp_self, Qt, Zc, Qm, Q2, Z1, eSpan]
  refine ⟨?_, ?_⟩
  ·simp [flat]
  ·intro b
   cases b <;> simp only [↓reduceIte, Qa, Xm, and_self, forall_const, false_implies]
 ·have hlt : ¬ (0 : Int) ≤ (rs.length : Int) - 1 - (rs.length : Int) := by omega
  have hn : yB rs rs.length = [] := by unfold yB; rw [Nat.sub_self]; rfl
  simp only [hlt, hn, Qa7, Qa8, Qaf, Qar, Qa6, endI, Qad, Qai, Qa5, Qa2, Fam.step, Qae, evO, opv, qv, binV, Qa3, Qa0, Qa1, ↓reduceIte, Nat.reduceEqDiff, Qb, Qc, Qg, Qa, decide_false, and_self, reduceCtorEq]
theorem W56 (rs : List Span) : Qa9 Try.prog 56 [.sl 2 (rs.map eSpan)] (.fn 71 [.pa [.sl 2 (rs.map eSpan)]]) := by
 refine Qac Qp8 hmix Try.func56 cb56 cc56 cs56 cn56 ?_
 simp only [rc56, rs56, Qa7, Qa8, Qag, Qa6, Qad, Qa5, Qa2, Fam.step, Qae, evO, opv, qv, V.cells, Qas, Qaa, Qa3, Qa0, Qa1, ↓reduceIte, Nat.reduceEqDiff, Qb, Qc, endQ, rvs, rv1, resV, Qb3, Qdw, Qfl, zipA, and_self]
noncomputable def KG6 (rs : List Span) : Gam := ((KG5 rs).ext 56 (one [.sl 2 (rs.map eSpan)] (.fn 71 [.pa [.sl 2 (rs.map eSpan)]]))).ext 2000071 (one [.pa [.sl 2 (rs.map eSpan)]] (.sl 0 (yB rs 0)))
theorem Qwz {rs : List Span} (h : OkR rs) : GOk Try.prog (KG6 rs) := by
 refine ((Qy2 h).ext (f := 56) (fun a w => Try.call56 a w) (Qcc (W56 rs))).extI (f := 71) (fun a w => Try.call71 a w) fun vs ys h1 h2 => ?_
 have e1 : vs = [.pa [.sl 2 (rs.map eSpan)]] := h1
 have e2 : V.sl 0 (yB rs 0) = V.sl 0 ys := h2
 injection e2 with _ e2
 subst e1 e2
 exact I71 rs h
theorem h56 (rs : List Span) : KG6 rs 56 [.sl 2 (rs.map eSpan)] = (True, .fn 71 [.pa [.sl 2 (rs.map eSpan)]]) := (show KG6 rs 56 _ = one _ _ _ from rfl).trans (Qc8 _ _)
theorem h71 (rs : List Span) : KG6 rs 2000071 [.pa [.sl 2 (rs.map eSpan)]] = (True, .sl 0 (yB rs 0)) := (show KG6 rs 2000071 _ = one _ _ _ from rfl).trans (Qc8 _ _)
theorem W40a (rs : List Span) (h : OkR rs) : Qa9 Try.prog 40 [.ag [.sl 2 (rs.map eSpan)], .i 0] (.sl 2 (rs.map eSpan)) := by
 refine Qac (Qwz h) hmix Try.func40 cb40 cc40 cs40 cn40 ?_
 simp only [rc40, rs40, Qa7, Qa8, Qaf, Qag, Qa6, Qad, Qa5, Qa2, Fam.step, Qae, evO, opv, qv, binV, ldV, V.cells, Qas, Qaa, Qa4, Qa3, Qa0, Qa1, ↓reduceIte, Nat.reduceEqDiff, Nat.reduceLeDiff, Qb, Qc, Qd, Qe, Qk, Ql, endQ, rvs, rv1, resV, Qb3, Qb1, zipA, Qi, Qr, Qa, decide_true, and_self, reduceCtorEq]
theorem W40b (rs : List Span) (h : OkR rs) : Qa9 Try.prog 40 [.ag [.sl 2 (rs.map eSpan)], .i 1] (.sl 2 ((mirR rs).map eSpan)) := by
 refine Qac (Qwz h) hmix Try.func40 cb40 cc40 cs40 cn40 ?_
 have hl := h.len
 have n1 : ¬ (1 : Int) = 0 := by decide
 simp only [rc40, rs40, n1, Qah, Qa7, Qa8, Qaf, Qab, Qa6, putB, Qad, Qa5, Qa2, Fam.step, Qae, Qbp, Qau, putB, nv, sv, evO, opv, qv, binV, ldV, lenV, putAt, V.cells, Qas, Qaz, Qaa, Qa4, Qa3, Qap, Qa0, Qa1, ↓reduceIte, Nat.reduceEqDiff, Nat.reduceLeDiff, Qb, Qc, Qw, Qx, Qd, Qe, Qh, Qk, Q6, Qu, Ql, Qn, Qj, Qg, Qv, Qb3, Qb1, zipA, Qi, Qs, Qr, Qa, decide_false, true_and, and_self, reduceCtorEq, Qt]
 refine Qbm rs.length (fun i => ⟨lkp [(2, .pa [.sl 2 (rs.map eSpan)]), (5, .ad 0 0 0), (16, .sl 2 (rs.map eSpan)), (17, .i rs.length), (18, .i i), (31, .u)], [.cells 0 [.i (Qg4 rs i)]]⟩) ?_ ?_ ?_
 ·have e0 : Qg4 rs 0 = 0 := rfl
  simp only [Q0, e0, cutH, kp, cutV, cutL, cutB, Qa0, Qa1, ↓reduceIte, Nat.reduceEqDiff, Nat.reduceLT, Qb, Qc, Qf, Qo]
 ·intro i hi
  obtain ⟨s, hs⟩ : ∃ s, rs[i]? = some s := ⟨_, Qz hi⟩
  have hlt : (i : Int) < rs.length := by omega
  have h3 : inI ((i : Int) + 1) := by unfold inI; omega
  have hw := Qkg hs
  simp only [hs, hlt, h3, hw, Q7, Q1, Qah, Qa7, Qa8, Qaf, Qab, Qa6, Qc9, ↓Qbj, cutH, putB, Qad, Qai, Qa5, Qa2, Fam.step, Qae, Qbp, Qau, putB, nv, sv, evO, opv, qv, binV, ldV, iadV, curG, putAt, V.cells, Qas, Qaz, kp, cutV, cutL, cutB, Qa3, Qap, Qa0, Qa1, ↓reduceIte, Nat.reduceEqDiff, Nat.reduceAdd, Nat.reduceLT, Nat.reduceLeDiff, Qb, Qc, Qw, Qx, Qd, Qe, Qh, Qk, Q6, Qf, Qu, Qo, Ql, Qp, Qn, Qj, Qg, Qq, Qy, Qv, Q3, Qhq, Zd, beq_self_eq_true, Qi, Qs, Qa, decide_true, and_self, Za, Qt, Zc, Qm, Q2, eSpan]
 ·have hlt : ¬ ((rs.length : Int) < rs.length) := by omega
  simp only [hlt, h56, Qa7, Qa8, Qaf, Qab, Qar, Qa6, Qi6, Qad, Qai, Qa5, Qa2, Fam.step, Qae, Qbp, Qau, nv, evO, opv, qv, binV, ldV, Qaw, Qaa, Qa4, flat, Qa3, Qa0, Qa1, ↓reduceIte, Nat.reduceEqDiff, Nat.reduceAdd, Nat.reduceLT, Nat.reduceLeDiff, Qb, Qc, Qd, Qe, Qk, Ql, Qp, Qn, Qj, Qg, Qq, Qv, Q3, Qb3, Qi, Zx, Qr, Qa, decide_false, true_and, and_self, imp_self]
  obtain ⟨Wd, hW⟩ : ∃ Wd, Wd = Qg4 rs rs.length := ⟨_, rfl⟩
  have hw0 := Qu9 h rs.length
  rw [← hW] at hw0
  have hM : mirR rs = rs.reverse.map (mirS Wd) := by rw [hW]; rfl
  have hml := Qtb rs
  rw [← hW]
  refine Qu0 (gf := 71) (caps := [.pa [.sl 2 (rs.map eSpan)]]) (ok := True) (ys := yB rs 0) (fun k => [.cells 0 [.i Wd], .cells 0 [.rf 2 k 0 k 2], .cells k (((mirR rs).take k).map eSpan).flatten]) (fun _ => True) ?_ ?_ (by decide) trivial rfl ?_ ?_ trivial ?_ ?_
  ·simp only [evO, Qa0, ↓reduceIte, Nat.reduceEqDiff]
  ·simp only [Nat.reduceAdd, Qb, Qc, Qdw]
   exact h71 rs
  ·intro x hx
   unfold yB at hx
   obtain ⟨n, _, rfl⟩ := Xd.1 hx
   rfl
  ·simp only [cutH, Q8, cutH, cutV, cutL, cutB, ↓reduceIte, Nat.reduceLT, Qb, Qc, Qf, Qu, Qo]
  ·intro k x hx _
   have hk : k < rs.length := by have := (List.getElem?_eq_some_iff.1 hx).1; simpa [yB] using this
   obtain ⟨m, hm⟩ : ∃ m : Nat, m = rs.length - 1 - k := ⟨_, rfl⟩
   obtain ⟨s, hs⟩ : ∃ s, rs[m]? = some s := ⟨_, Qz (by omega)⟩
   have hx2 : x = [.i (m : Int), .ag (eSpan s)] := by
    unfold yB at hx
    rw [Q2, Nat.sub_zero, Xf (by simpa using hk), Z2, ← hm, List.getElem?_range (by omega), Za] at hx
    rw [← Xv.inj hx, Qm, hs]; rfl
   have hmk : (mirR rs)[k]? = some (mirS Wd s) := by
    rw [hM, Q2, Xf hk, ← hm, hs]; rfl
   have hr := h.row s (Q9 hs)
   have i1 : inI (Wd - s.high) ∧ inI (Wd - s.low) := by unfold inI; omega
   have hfl : Qc0 (k + 1) := by unfold Qc0; omega
   have hln : (((mirR rs).take k).map eSpan).flatten.length = k * 2 := by rw [Qp1, List.length_take, Nat.min_eq_left (by omega)]
   have ht : (((mirR rs).take k).map eSpan).flatten ++ [V.i (Wd - s.high), V.i (Wd - s.low)] = (((mirR rs).take (k + 1)).map eSpan).flatten := by rw [Qex hmk]; simp [eSpan, mirS]
   have hn1 := Qfe ((mirR rs).take (k + 1))
   rw [hx2]
   simp only [i1, hfl, hln, ht, Q5, Q8, Qaq _ _ _ hn1, Qa7, Qab, Qda, ↓Qbj, rnQ, rndQ, updL, cutH, putB, Qai, Qa5, Qa2, Fam.step, Qae, Qbp, Qau, putB, nv, sv, Qd0, evO, opv, qv, binV, ldV, curG, Qal, putAt, Qb0, Qba, V.cells, Qas, Qaz, Qaa, Qa4, cutV, cutL, cutB, Qa3, Qap, Qa0, Qa1, ↓reduceIte, Nat.reduceEqDiff, Nat.reduceAdd, Nat.reduceMul, Nat.reduceLT, Nat.reduceLeDiff, Qb, Qc, Qw, Qx, Qd, Qe, Qh, Qk, Q6, Qf, Qu, Qo, Ql, Qp, Qn, Qj, Qg, Qq, Qv, Q3, Q4, Zg, vw_i, Qb1, beq_self_eq_true, Qi, Zx, Qs, Qr, Qa, true_and, and_self, reduceCtorEq, not_false_eq_true, ne_eq, eSpan]
  ·intro _
   have hyl : (yB rs 0).length = rs.length := by simp [yB]
   have hck := Qrz (mirR rs)
   have hln := Qp1 (mirR rs)
   rw [hml] at hck hln
   have hall : (mirR rs).take rs.length = mirR rs := by rw [← hml, Zq]
   simp only [hyl, hall, hln, hck, Zo, vw_S, Qa7, Qa8, Qag, Qa6, ↓Qbj, Qad, Qai, Qa5, Qa2, Fam.step, Qae, evO, opv, qv, ldV, cutV, cutL, Qa3, Qa0, Qa1, ↓reduceIte, Nat.reduceEqDiff, Nat.reduceLT, Qb, Qc, Qd, Qe, Qk, Ql, Qg, Qq, endQ, rvs, rv1, resV, Qi9, Qi, Qa, and_self]
def Qhj (rs : List Span) (t : Int) : List Span := if t = 0 then rs else mirR rs
def s40 (rs : List Span) : List V → Prop × V | [p, .i t] => (p = .ag [.sl 2 (rs.map eSpan)] ∧ (t = 0 ∨ t = 1), .sl 2 ((Qhj rs t).map eSpan)) | _ => (False, .u)
theorem Qyb {rs : List Span} (hr : OkR rs) (vs : List V) (h : (s40 rs vs).1) : Qa9 Try.prog 40 vs (s40 rs vs).2 := by
 unfold s40 at h ⊢
 split at h
 ·obtain ⟨rfl, rfl | rfl⟩ := h
  ·exact W40a rs hr
  ·exact W40b rs hr
 ·exact h.elim
noncomputable def KG7 (rs : List Span) : Gam := ((KG6 rs).ext 40 (s40 rs)).ext 22 (one [.ag (lapV rs)] (.i 0))
theorem Qy3 {rs : List Span} (h : OkR rs) : GOk Try.prog (KG7 rs) := ((Qwz h).ext (f := 40) (r := s40 rs) (fun a w => Try.call40 a w) (Qyb h)).ext (f := 22) (fun a w => Try.call22 a w) (Qcc (W22 rs h))
theorem h40 (rs : List Span) (t : Int) : KG7 rs 40 [.ag [.sl 2 (rs.map eSpan)], .i t] = (V.ag [V.sl 2 (rs.map eSpan)] = V.ag [V.sl 2 (rs.map eSpan)] ∧ (t = 0 ∨ t = 1), .sl 2 ((Qhj rs t).map eSpan)) := rfl
theorem h22 (rs : List Span) : KG7 rs 22 [.ag (lapV rs)] = (True, .i 0) := (show KG7 rs 22 _ = one _ _ _ from rfl).trans (Qc8 _ _)
end Go.CT
set_option maxRecDepth 8000
namespace Go.CT
open Go.Fam Go.Proofs
def rc42 : RC := (.seq (.reg false [⟨(some 2), none, [], none, .w (.alc [(.w .u16 0), (.w .u16 0), (.w .u16 0), (.w .u16 0), (.w .u16 0), (.w .u16 0), (.w .u16 0), (.w .u16 0), (.w .u16 0), (.w .u16 0), (.w .u16 0), (.w .u16 0)])⟩]) (.keep [0,2] (.seq (.seq (.reg false [(cMv 7 0), (cLn 8 7), (cI 9 0)]) (.keep [2,7,8,9] (.block 0 (.loop [2,7,8,9] (some 1) (.seq (.reg false [(cB 10 .lss 9 8)]) (.keep [2,7,8,9,10] (.seq (.cond (.t 10) .skip (.exit 0)) (.keep [2,7,8,9] (.seq (.block 1 (.seq (.reg false [(cA 11 1 7 9), (cLd 12 11 false 1), (cMv 4 12)]) (.keep [2,4,7,8,9] (.seq (.reg false [(cMv 13 4), (cLn 14 13), (cI 15 0)]) (.keep [2,7,8,9,13,14,15] (.block 2 (.loop [2,7,8,9,13,14,15] (some 1) (.seq (.reg false [(cB 16 .lss 15 14)]) (.keep [2,7,8,9,13,14,15,16] (.seq (.cond (.t 16) .skip (.exit 2)) (.keep [2,7,8,9,13,14,15] (.seq (.block 3 (.seq (.reg false [(cA 17 2 13 15), (cLd 18 17 true 2), ⟨(some 6), none, [], none, .w (.alc [(.i 0), (.i 0)])⟩, ⟨none, none, [6,18], none, .w (.st 2 (.t 6) (.t 18))⟩]) (.keep [2,6,7,8,9,13,14,15] (.any false 0 [⟨(cFa 19 6 0), [], []⟩, ⟨(cLd 20 19 false 1), [], [0]⟩, ⟨(cQ 21 [2,20] (.iaa 1 12 (.t 2) (.t 20))), [], [1,0]⟩, ⟨(cLd 22 21 false 1), [], [2,1,0]⟩, ⟨(cFa 23 6 1), [], []⟩, ⟨(cLd 24 23 false 1), [], [4]⟩, ⟨(cQ 25 [24] (.bin .shl (.k (.w .u16 1)) (.t 24))), [], [5,4]⟩, ⟨(cB 26 .or 22 25), [], [3,2,1,0,6,5,4]⟩, ⟨(cQ 27 [2,20] (.iaa 1 12 (.t 2) (.t 20))), [], [1,0,2,3,4,5,6,7]⟩, ⟨⟨none, none, [27,26], none, .w (.st 1 (.t 27) (.t 26))⟩, [], [8,1,0,2,3,4,5,6,7]⟩])))) (.drp 1 (.keep [2,7,8,9,13,14,15] (.reg false [(cC 28 .add 15 1), (cMv 15 28)]))))))))))))))) (.drp 1 (.keep [2,7,8,9] (.reg false [(cC 29 .add 9 1), (cMv 9 29)])))))))))))) (.keep [2] (.seq (.reg false [(cLd 30 2 true 12), ⟨none, none, [2,30], none, .w (.st 12 (.t 2) (.t 30))⟩]) .ret)))))
def pu42 : List Nat := []
def rs42 : List RV := [.c 2 true 12]
theorem cc42 : CCx Try.prog Try.f42 pu42 rc42 := by unfold CCx; kernel_rfl
theorem cb42 : CBx Try.f42 := by unfold CBx; kernel_rfl
theorem cs42 : CSx Try.prog Try.f42 rs42 := by unfold CSx; kernel_rfl
theorem cn42 : 1 ≤ Try.f42.ntmps := by decide
def rc72 : RC := (.seq (.reg false [(cX 5 2), (cQ 6 [] (.mv (kB false)))]) (.keep [0,1,5] (.seq (.reg false [(cMv 13 0), (cZ 14 13), (cFa 15 14 6), (cLd 16 15 true 12), ⟨(some 7), none, [], none, .w (.alc [(.w .u16 0), (.w .u16 0), (.w .u16 0), (.w .u16 0), (.w .u16 0), (.w .u16 0), (.w .u16 0), (.w .u16 0), (.w .u16 0), (.w .u16 0), (.w .u16 0), (.w .u16 0)])⟩, ⟨none, none, [7,16], none, .w (.st 12 (.t 7) (.t 16))⟩]) (.keep [0,1,5,7] (.seq (.seq (.any false 0 [⟨(cMv 17 0), [], []⟩, ⟨(cZ 18 17), [], [0]⟩, ⟨(cFa 19 18 0), [], [1,0]⟩, ⟨(cFa 20 19 4), [], [2,1,0]⟩, ⟨(cLd 21 20 false 1), [], [3,2,1,0]⟩, ⟨(cMv 22 1), [], []⟩, ⟨(cA 23 1 21 22), [], [4,3,2,1,0,5]⟩, ⟨(cLd 24 23 true 1), [], [6,4,3,2,1,0,5]⟩, ⟨(cFa 25 5 2), [], []⟩, ⟨(cLd 26 25 false 1), [], [8]⟩, ⟨(cQ 27 [24,26] (.call (kF 40) [(.t 24), (.t 26)])), [], [7,6,4,3,2,1,0,5,9,8]⟩, ⟨(cLn 28 27), [], [10,7,6,4,3,2,1,0,5,9,8]⟩, ⟨(cI 29 0), [], []⟩]) (.keep [0,5,7,27,28,29] (.block 0 (.loop [0,5,7,27,28,29] (some 3) (.seq (.reg false [(cB 30 .lss 29 28)]) (.keep [0,5,7,27,28,29,30] (.seq (.cond (.t 30) .skip (.exit 0)) (.keep [0,5,7,27,28,29] (.seq (.block 1 (.seq (.reg false [(cMv 31 29), (cA 32 2 27 29), (cLd 33 32 true 2), ⟨(some 9), none, [], none, .w (.alc [(.i 0), (.i 0)])⟩, (cMv 8 31), ⟨none, none, [9,33], none, .w (.st 2 (.t 9) (.t 33))⟩]) (.keep [0,5,7,8,9,27,28,29] (.seq (.any false 0 [⟨(cFa 34 5 0), [], []⟩, ⟨(cLd 35 34 false 1), [], [0]⟩, ⟨(cMv 36 8), [], []⟩, ⟨(cB 37 .add 35 36), [], [1,0,2]⟩, ⟨(cFa 38 5 1), [], []⟩, ⟨(cLd 39 38 false 1), [], [4]⟩, ⟨(cFa 40 9 1), [], []⟩, ⟨(cLd 41 40 false 1), [], [6]⟩, ⟨(cB 42 .add 39 41), [], [5,4,7,6]⟩, ⟨(cMv 10 37), [], [3,1,0,2]⟩, ⟨(cMv 11 42), [], [8,5,4,7,6,9,3,1,0,2]⟩]) (.keep [0,5,7,9,10,11,27,28,29] (.seq (.seq (.reg true [(cMv 43 10), (cMv 44 0), (cZ 45 44), (cFa 46 45 5), (cLd 47 46 false 1), (cB 48 .geq 43 47), (cMv 49 48), (gMv 50 49 false 11), (gMv 51 49 false 0), (gQ 52 49 false [51] (.nilc (.t 51))), (gQ 53 49 false [52] (.fad 0 (.t 52))), (gQ 54 49 false [53] (.fad 0 (.t 53))), (gQ 55 49 false [54] (.ld false 1 (.t 54))), (gQ 56 49 false [50,55] (.bin .geq (.t 50) (.t 55))), (cQ 57 [49,56] (.pick (.t 49) (kB true) (.t 56)))]) (.keep [0,5,7,9,10,11,27,28,29,57] (.cond (.t 57) (.seq (.reg false [(cQ 6 [] (.mv (kB false)))]) .ret) .skip))) (.keep [0,5,7,9,10,11,27,28,29] (.seq (.any false 0 [⟨(cMv 58 11), [], []⟩, ⟨(cC 59 .add 58 1), [], [0]⟩, ⟨(cQ 60 [59] (.bin .shl (.k (.w .u16 1)) (.t 59))), [], [1,0]⟩, ⟨(cFa 61 5 1), [], []⟩, ⟨(cLd 62 61 false 1), [], [3]⟩, ⟨(cFa 63 9 0), [], []⟩, ⟨(cLd 64 63 false 1), [], [5]⟩, ⟨(cB 65 .add 62 64), [], [4,3,6,5]⟩, ⟨(cQ 66 [65] (.bin .shl (.k (.w .u16 1)) (.t 65))), [], [7,4,3,6,5]⟩, ⟨(cB 67 .sub 60 66), [], [2,1,0,8,7,4,3,6,5]⟩, ⟨(cMv 12 67), [], [9,2,1,0,8,7,4,3,6,5]⟩]) (.keep [0,5,7,10,12,27,28,29] (.seq (.seq (.reg false [(cMv 68 10), (cQ 69 [7,68] (.iaa 1 12 (.t 7) (.t 68))), (cLd 70 69 false 1), (cMv 71 12), (cB 72 .and 70 71), (cQ 73 [72] (.bin .neq (.t 72) (.k (.w .u16 0))))]) (.keep [0,5,7,10,12,27,28,29,73] (.cond (.t 73) (.seq (.reg false [(cQ 6 [] (.mv (kB false)))]) .ret) .skip))) (.keep [0,5,7,10,12,27,28,29] (.reg false [(cMv 74 10), (cQ 75 [7,74] (.iaa 1 12 (.t 7) (.t 74))), (cLd 76 75 false 1), (cMv 77 12), (cB 78 .or 76 77), (cQ 79 [7,74] (.iaa 1 12 (.t 7) (.t 74))), ⟨none, none, [79,78], none, .w (.st 1 (.t 79) (.t 78))⟩])))))))))))) (.drp 3 (.keep [0,5,7,27,28,29] (.reg false [(cC 80 .add 29 1), (cMv 29 80)])))))))))))) (.keep [0,5,7] (.seq (.any false 1 [⟨(cMv 81 0), [], []⟩, ⟨(cMv 82 0), [], []⟩, ⟨(cLd 83 7 true 12), [], []⟩, ⟨(cMv 84 0), [], []⟩, ⟨(cZ 85 84), [], [3]⟩, ⟨(cFa 86 85 18), [], [4,3]⟩, ⟨(cLd 87 86 false 1), [], [5,4,3]⟩, ⟨(cLd 88 5 true 3), [], []⟩, ⟨(cQ 89 [88] (.bsl 3 1 [(.i 0), (.i 0), (.i 0)] [(0,3, (.t 88))])), [], [7]⟩, ⟨⟨(some 90), none, [87,89], (some 0), .w (.app 3 (.t 87) (.t 89))⟩, [0,1,2], [6,5,4,3,8,7]⟩, ⟨(cZ 91 81), [], [0,2,6,5,4,3,9,8,7]⟩, ⟨(cFa 92 91 6), [], [10,0,2,6,5,4,3,9,8,7]⟩, ⟨⟨none, none, [92,83], none, .w (.st 12 (.t 92) (.t 83))⟩, [1], [11,10,0,2,6,5,4,3,9,8,7]⟩, ⟨(cZ 93 82), [], [1,0,2,3,4,5,6,7,8,9,10,11,12]⟩, ⟨(cFa 94 93 18), [], [13,1,0,2,3,4,5,6,7,8,9,10,11,12]⟩, ⟨⟨none, none, [94,90], none, .w (.st 1 (.t 94) (.t 90))⟩, [], [14,13,1,0,2,3,4,5,6,7,8,9,10,11,12]⟩]) (.keep [] (.seq (.reg false [(cQ 6 [] (.mv (kB true)))]) .ret)))))))))
def pu72 : List Nat := [5,89]
def rs72 : List RV := [.t 6]
theorem cc72 : comp Try.prog pu72 (Try.f72.ntmps, 0) 2 1 rc72 (Try.f72.body.getD .skip) = some rc72 := by kernel_rfl
theorem cb72 : CBx Try.f72 := by unfold CBx; kernel_rfl
theorem cs72 : CSx Try.prog Try.f72 rs72 := by unfold CSx; kernel_rfl
theorem cn72 : 3 ≤ Try.f72.ntmps := by decide
def rc57 : RC := (.seq (.reg false [(cQ 2 [] (.mv (kB false)))]) (.keep [0] (.seq (.reg false [(cMv 8 0), (cZ 9 8), (cFa 10 9 18), (cLd 11 10 false 1), (cLn 12 11), (cMv 3 12)]) (.keep [0,3] (.seq (.seq (.reg false [(cMv 13 3), (cMv 14 0), (cZ 15 14), (cFa 16 15 0), (cFa 17 16 4), (cLd 18 17 false 1), (cLn 19 18), (cB 20 .eql 13 19)]) (.keep [0,3,20] (.cond (.t 20) (.seq (.reg false [(cQ 2 [] (.mv (kB true)))]) .ret) .skip))) (.keep [0,3] (.seq (.seq (.reg false [(cMv 21 0), (cZ 22 21), (cFa 23 22 5), (cLd 24 23 false 1), (cI 25 0)]) (.keep [0,3,24,25] (.block 0 (.loop [0,3,24,25] (some 1) (.seq (.reg false [(cB 26 .lss 25 24)]) (.keep [0,3,24,25,26] (.seq (.cond (.t 26) .skip (.exit 0)) (.keep [0,3,24,25] (.seq (.block 1 (.seq (.reg false [(cMv 27 25), (cMv 4 27)]) (.keep [0,3,4,24,25] (.seq (.reg false [(cMv 28 0), (cZ 29 28), (cFa 30 29 0), (cFa 31 30 0), (cLd 32 31 false 1), (cI 33 0)]) (.keep [0,3,4,24,25,32,33] (.block 2 (.loop [0,3,4,24,25,32,33] (some 1) (.seq (.reg false [(cB 34 .lss 33 32)]) (.keep [0,3,4,24,25,32,33,34] (.seq (.cond (.t 34) .skip (.exit 2)) (.keep [0,3,4,24,25,32,33] (.seq (.block 3 (.seq (.reg false [(cMv 35 33), (cMv 5 35)]) (.keep [0,3,4,5,24,25,32,33] (.seq (.reg false [(cI 36 0)]) (.keep [0,3,4,5,24,25,32,33,36] (.block 4 (.loop [0,3,4,5,24,25,32,33,36] (some 1) (.seq (.reg false [(cC 37 .lss 36 2)]) (.keep [0,3,4,5,24,25,32,33,36,37] (.seq (.cond (.t 37) .skip (.exit 4)) (.keep [0,3,4,5,24,25,32,33,36] (.seq (.block 5 (.seq (.reg false [(cMv 38 36), (cMv 6 38)]) (.keep [0,3,4,5,6,24,25,32,33,36] (.seq (.reg false [(cMv 39 0), (cZ 40 39), (cLd 41 40 true 19), ⟨(some 7), none, [], none, .w (.alc [(.i 0), (.i 0), (.z 2), (.z 2), (.z 1), (.i 0), (.w .u16 0), (.w .u16 0), (.w .u16 0), (.w .u16 0), (.w .u16 0), (.w .u16 0), (.w .u16 0), (.w .u16 0), (.w .u16 0), (.w .u16 0), (.w .u16 0), (.w .u16 0), (.z 3)])⟩, ⟨none, none, [7,41], none, .w (.st 19 (.t 7) (.t 41))⟩]) (.keep [0,3,4,5,6,7,24,25,32,33,36] (.seq (.seq (.itm [.r (cMv 42 0), .r (cMv 43 3), .r (cMv 44 4), .r (cMv 45 5), .r (cMv 46 6), .r (cQ 47 [44,45,46] (.bld [(.i 0), (.i 0), (.i 0)] [(0,1, (.t 44)), (1,1, (.t 45)), (2,1, (.t 46))])), .h ⟨(some 48), none, [42,43,47], none, .o (kF 72) [(.t 42), (.t 43), (.t 47)]⟩, .r (cMv 49 48), .r (gMv 50 49 true 0), .h ⟨(some 51), (some (49, true)), [50], none, .o (kF 57) [(.t 50)]⟩, .r (cQ 52 [49,51] (.pick (.t 49) (.t 51) (kB false)))]) (.keep [0,3,4,5,7,24,25,32,33,36,52] (.cond (.t 52) (.seq (.reg false [(cQ 2 [] (.mv (kB true)))]) .ret) .skip))) (.keep [0,3,4,5,7,24,25,32,33,36] (.reg false [(cMv 53 0), (cLd 54 7 true 19), (cZ 55 53), ⟨none, none, [55,54], none, .w (.st 19 (.t 55) (.t 54))⟩])))))))) (.drp 1 (.keep [0,3,4,5,24,25,32,33,36] (.reg false [(cC 56 .add 36 1), (cMv 36 56)]))))))))))))))) (.drp 1 (.keep [0,3,4,24,25,32,33] (.reg false [(cC 57 .add 33 1), (cMv 33 57)]))))))))))))))) (.drp 1 (.keep [0,3,24,25] (.reg false [(cC 58 .add 25 1), (cMv 25 58)])))))))))))) (.keep [] (.seq (.reg false [(cQ 2 [] (.mv (kB false)))]) .ret)))))))))
def pu57 : List Nat := []
def rs57 : List RV := [.t 2]
theorem cc57 : comp Try.prog pu57 (Try.f57.ntmps, 0) 1 1 rc57 (Try.f57.body.getD .skip) = some rc57 := by kernel_rfl
theorem cb57 : CBx Try.f57 := by unfold CBx; kernel_rfl
theorem cs57 : CSx Try.prog Try.f57 rs57 := by unfold CSx; kernel_rfl
theorem cn57 : 1 ≤ Try.f57.ntmps := by decide
def rc41 : RC := (.seq (.reg false [(cX 2 0), (cX 3 1), (cI 4 0), (cQ 5 [] (.mv (.k (.z 3))))]) (.keep [2,3] (.seq (.seq (.reg false [(cFa 8 2 1), (cLd 9 8 false 1), (cC 10 .add 9 1), (cI 11 0)]) (.keep [2,3,10,11] (.block 0 (.loop [2,3,10,11] (some 0) (.seq (.reg false [(cB 12 .lss 11 10)]) (.keep [2,3,10,11,12] (.seq (.cond (.t 12) .skip (.exit 0)) (.keep [2,3,10,11] (.seq (.block 1 (.seq (.reg false [(cMv 13 11), (cMv 6 13)]) (.keep [2,3,6,10,11] (.seq (.reg false [(cLd 14 2 true 5), (cMv 15 6), (cLd 16 3 true 12), (cQ 17 [14,15,16] (.bld [(.i 0), (.i 0), (.z 2), (.z 2), (.z 1), (.i 0), (.w .u16 0), (.w .u16 0), (.w .u16 0), (.w .u16 0), (.w .u16 0), (.w .u16 0), (.w .u16 0), (.w .u16 0), (.w .u16 0), (.w .u16 0), (.w .u16 0), (.w .u16 0), (.z 3)] [(0,5, (.t 14)), (5,1, (.t 15)), (6,12, (.t 16))])), ⟨(some 18), none, [17], none, .w (.bxo (.t 17))⟩, (cMv 7 18)]) (.keep [2,3,6,7,10,11] (.seq (.hcl false [(cMv 19 7)] ⟨(some 20), none, [19], none, .o (kF 57) [(.t 19)]⟩ []) (.keep [2,3,6,7,10,11,20] (.cond (.t 20) (.seq (.any false 0 [⟨(cMv 21 6), [], []⟩, ⟨(cMv 22 7), [], []⟩, ⟨(cZ 23 22), [], [1]⟩, ⟨(cFa 24 23 18), [], [2,1]⟩, ⟨(cLd 25 24 false 1), [], [3,2,1]⟩, ⟨(cMv 4 21), [], [0]⟩, ⟨(cMv 5 25), [], [4,3,2,1,5,0]⟩]) .ret) .skip)))))))) (.drp 0 (.keep [2,3,10,11] (.reg false [(cC 26 .add 11 1), (cMv 11 26)])))))))))))) (.keep [] (.seq (.reg false [(cQ 4 [] (.mv (.k (.i (-1))))), (cQ 5 [] (.mv (.k (.z 3))))]) .ret)))))
def pu41 : List Nat := [2,3]
def rs41 : List RV := [.t 4, .t 5]
theorem cc41 : CCx Try.prog Try.f41 pu41 rc41 := by unfold CCx; kernel_rfl
theorem cb41 : CBx Try.f41 := by unfold CBx; kernel_rfl
theorem cs41 : CSx Try.prog Try.f41 rs41 := by unfold CSx; kernel_rfl
theorem cn41 : 2 ≤ Try.f41.ntmps := by decide
def rc26 : RC := (.seq (.reg false [(cX 1 0), (cI 2 0), (cQ 3 [] (.mv (.k (.z 3)))), (cI 4 0)]) (.keep [1] (.seq (.seq (.reg false [(cLd 8 1 true 5), (cQ 9 [8] (.call (kF 22) [(.t 8)])), (cMv 5 9)]) (.keep [1,5] (.seq (.reg false [(cMv 10 5), (cC 11 .neq 10 0)]) (.keep [1,5,11] (.cond (.t 11) (.seq (.reg false [(cMv 12 5), (cI 2 0), (cQ 3 [] (.mv (.k (.z 3)))), (cMv 4 12)]) .ret) .skip))))) (.keep [1] (.seq (.any false 0 [⟨(cLd 14 1 true 5), [], []⟩, ⟨(cFa 15 1 2), [], []⟩, ⟨(cLd 16 15 false 1), [], [1]⟩, ⟨(cFa 17 1 3), [], []⟩, ⟨(cLd 18 17 false 1), [], [3]⟩, ⟨(cQ 19 [16,18] (.bsl 1 2 [(.z 2)] [(0,1, (.t 16)), (1,1, (.t 18))])), [], [2,1,4,3]⟩, ⟨(cQ 20 [19] (.call (kF 42) [(.t 19)])), [], [5,2,1,4,3]⟩, ⟨(cQ 21 [14,20] (.call (kF 41) [(.t 14), (.t 20)])), [], [0,6,5,2,1,4,3]⟩, ⟨(cMv 13 21), [], [7,0,6,5,2,1,4,3]⟩, ⟨(cEx 22 13 0), [], [8,7,0,6,5,2,1,4,3]⟩, ⟨(cEx 23 13 1), [], [8,7,0,6,5,2,1,4,3]⟩, ⟨(cMv 6 22), [], [9,8,7,0,6,5,2,1,4,3]⟩, ⟨(cMv 7 23), [], [10,8,7,0,6,5,2,1,4,3,11,9]⟩]) (.keep [6,7] (.seq (.seq (.reg false [(cMv 24 6), (cC 25 .lss 24 0)]) (.keep [6,7,25] (.cond (.t 25) (.seq (.reg false [(cI 2 0), (cQ 3 [] (.mv (.k (.z 3)))), (cI 4 3)]) .ret) .skip))) (.keep [6,7] (.seq (.reg false [(cMv 26 6), (cMv 27 7), (cMv 2 26), (cMv 3 27), (cI 4 0)]) .ret)))))))))
def pu26 : List Nat := [1,19]
def rs26 : List RV := [.t 2, .t 3, .t 4]
theorem cc26 : CCx Try.prog Try.f26 pu26 rc26 := by unfold CCx; kernel_rfl
theorem cb26 : CBx Try.f26 := by unfold CBx; kernel_rfl
theorem cs26 : CSx Try.prog Try.f26 rs26 := by unfold CSx; kernel_rfl
theorem cn26 : 1 ≤ Try.f26.ntmps := by decide
def rc10 : RC := (.seq (.reg false [(cX 1 0), (cI 2 0), (cI 3 0)]) (.keep [1] (.seq (.reg false [(cLd 8 1 true 5), (cQ 9 [8] (.call (kF 26) [(.t 8)])), (cMv 7 9), (cEx 10 7 0), (cEx 11 7 1), (cEx 12 7 2), (cMv 4 10), (cMv 5 11), (cMv 6 12)]) (.keep [4,6] (.seq (.reg false [(cMv 13 4), (cMv 14 6), (cMv 2 13), (cMv 3 14)]) .ret)))))
def pu10 : List Nat := [1]
def rs10 : List RV := [.t 2, .t 3]
theorem cc10 : CCx Try.prog Try.f10 pu10 rc10 := by unfold CCx; kernel_rfl
theorem cb10 : CBx Try.f10 := by unfold CBx; kernel_rfl
theorem cs10 : CSx Try.prog Try.f10 rs10 := by unfold CSx; kernel_rfl
theorem cn10 : 1 ≤ Try.f10.ntmps := by decide
def rc27 : RC := (.seq (.reg false [(cX 1 0), (cI 2 0), (cI 3 0)]) (.keep [1] (.seq (.seq (.reg false [(cLd 7 1 true 5), (cQ 8 [7] (.call (kF 22) [(.t 7)])), (cMv 4 8)]) (.keep [1,4] (.seq (.reg false [(cMv 9 4), (cC 10 .neq 9 0)]) (.keep [1,4,10] (.cond (.t 10) (.seq (.reg false [(cMv 11 4), (cI 2 0), (cMv 3 11)]) .ret) .skip))))) (.keep [1] (.seq (.any false 0 [⟨(cLd 13 1 true 5), [], []⟩, ⟨(cFa 14 1 2), [], []⟩, ⟨(cLd 15 14 false 1), [], [1]⟩, ⟨(cQ 16 [15] (.bsl 1 1 [(.z 2)] [(0,1, (.t 15))])), [], [2,1]⟩, ⟨(cQ 17 [16] (.call (kF 42) [(.t 16)])), [], [3,2,1]⟩, ⟨(cQ 18 [13,17] (.call (kF 41) [(.t 13), (.t 17)])), [], [0,4,3,2,1]⟩, ⟨(cMv 12 18), [], [5,0,4,3,2,1]⟩, ⟨(cEx 19 12 0), [], [6,5,0,4,3,2,1]⟩, ⟨(cEx 20 12 1), [], [6,5,0,4,3,2,1]⟩, ⟨(cMv 5 19), [], [7,6,5,0,4,3,2,1]⟩, ⟨(cMv 6 20), [], [8,6,5,0,4,3,2,1,9,7]⟩]) (.keep [5] (.seq (.seq (.reg false [(cMv 21 5), (cC 22 .lss 21 0)]) (.keep [5,22] (.cond (.t 22) (.seq (.reg false [(cI 2 0), (cI 3 3)]) .ret) .skip))) (.keep [5] (.seq (.reg false [(cMv 23 5), (cMv 2 23), (cI 3 0)]) .ret)))))))))
def pu27 : List Nat := [1,16]
def rs27 : List RV := [.t 2, .t 3]
theorem cc27 : CCx Try.prog Try.f27 pu27 rc27 := by unfold CCx; kernel_rfl
theorem cb27 : CBx Try.f27 := by unfold CBx; kernel_rfl
theorem cs27 : CSx Try.prog Try.f27 rs27 := by unfold CSx; kernel_rfl
theorem cn27 : 1 ≤ Try.f27.ntmps := by decide
def rc11 : RC := (.seq (.reg false [(cX 1 0), ⟨(some 2), none, [], none, .w (.alc [(.i 0), (.i 0)])⟩, (cI 3 0)]) (.keep [1,2] (.seq (.reg false [(cLd 12 1 true 5), (cQ 13 [12] (.call (kF 10) [(.t 12)])), (cMv 11 13), (cEx 14 11 0), (cEx 15 11 1), (cMv 4 14), (cMv 5 15)]) (.keep [1,2,4,5] (.seq (.seq (.reg false [(cMv 16 5), (cC 17 .neq 16 0)]) (.keep [1,2,4,5,17] (.cond (.t 17) (.seq (.reg false [(cQ 18 [] (.bld [(.i 0), (.i 0)] [])), (cMv 19 5), ⟨none, none, [2,18], none, .w (.st 2 (.t 2) (.t 18))⟩, (cMv 3 19)]) .ret) .skip))) (.keep [1,2,4] (.seq (.reg false [(cLd 21 1 true 5), (cQ 22 [21] (.call (kF 27) [(.t 21)])), (cMv 20 22), (cEx 23 20 0), (cEx 24 20 1), (cMv 6 23), (cMv 7 24)]) (.keep [1,2,4,6] (.seq (.reg false [(cI 8 0)]) (.keep [1,2,4,6,8] (.seq (.seq (.reg false [(cFa 25 1 4), (cLd 26 25 false 1), (cLn 27 26), (cI 28 0)]) (.keep [1,2,4,6,8,26,27,28] (.block 0 (.loop [1,2,4,6,8,26,27,28] (some 1) (.seq (.reg false [(cB 29 .lss 28 27)]) (.keep [1,2,4,6,8,26,27,28,29] (.seq (.cond (.t 29) .skip (.exit 0)) (.keep [1,2,4,6,8,26,27,28] (.seq (.block 1 (.seq (.reg false [(cA 30 1 26 28), (cLd 31 30 true 1), ⟨(some 10), none, [], none, .w (.alc [(.z 2)])⟩, ⟨none, none, [10,31], none, .w (.st 1 (.t 10) (.t 31))⟩]) (.keep [1,2,4,6,8,10,26,27,28] (.reg false [(cMv 32 8), (cLd 33 10 true 1), (cQ 34 [] (.bld [(.i 0), (.i 0), (.i 0)] [])), (cQ 35 [33,34] (.call (kF 25) [(.t 33), (.t 34)])), (cLn 36 35), (cB 37 .add 32 36), (cMv 8 37)])))) (.drp 1 (.keep [1,2,4,6,8,26,27,28] (.reg false [(cC 38 .add 28 1), (cMv 28 38)])))))))))))) (.keep [1,2,4,6,8] (.seq (.reg false [(cFa 39 1 0), (cLd 40 39 false 1), (cMv 41 6), (cB 42 .mul 40 41), (cMv 43 8), (cB 44 .sub 42 43), (cFa 45 1 0), (cLd 46 45 false 1), (cMv 47 4), (cB 48 .mul 46 47), (cMv 49 8), (cB 50 .sub 48 49), (cQ 51 [44,50] (.bld [(.i 0), (.i 0)] [(0,1, (.t 44)), (1,1, (.t 50))])), ⟨none, none, [2,51], none, .w (.st 2 (.t 2) (.t 51))⟩, (cI 3 0)]) .ret)))))))))))))
def pu11 : List Nat := [1]
def rs11 : List RV := [.c 2 true 2, .t 3]
theorem cc11 : CCx Try.prog Try.f11 pu11 rc11 := by unfold CCx; kernel_rfl
theorem cb11 : CBx Try.f11 := by unfold CBx; kernel_rfl
theorem cs11 : CSx Try.prog Try.f11 rs11 := by unfold CSx; kernel_rfl
theorem cn11 : 1 ≤ Try.f11.ntmps := by decide
end Go.CT
set_option linter.unusedSimpArgs false
set_option linter.unusedVariables false
namespace Go.CT
open Go.Fam Go.Proofs Go.RowKit Go.C02
def eC (c : Int × Int) : List V := [.i c.1, .i c.2]
def Qdn (rs : List Span) (i : Nat) : List (Int × Int) := (Zl i).flatMap fun k => (Zl ((rs.getD k ⟨0, 0⟩).high + 1).toNat).map fun (c : Nat) => ((k : Int), (c : Int))
def Qd2 (rs : List Span) : List (Int × Int) := Qdn rs rs.length
def cK (rs : List Span) (i c : Nat) : List (Int × Int) := Qdn rs i ++ (Zl c).map fun (c : Nat) => ((i : Int), (c : Int))
theorem Qwd (rs : List Span) (i : Nat) : cK rs i 0 = Qdn rs i := by simp [cK]
theorem Qwc (rs : List Span) (i c : Nat) : cK rs i (c + 1) = cK rs i c ++ [((i : Int), (c : Int))] := by simp [cK, Zm]
theorem Qrx {rs : List Span} {i : Nat} {s : Span} (h : rs[i]? = some s) : cK rs i (s.high + 1).toNat = Qdn rs (i + 1) := by
 unfold cK Qdn
 rw [Zm, Xl, Z3, Xu, Qj, Qm, h]; rfl
theorem Qec {rs : List Span} (h : OkR rs) : ∀ i, (Qdn rs i).length ≤ 8 * i
 | 0 => by simp [Qdn]
 | i + 1 => by
  cases hs : rs[i]? with
  | some s =>
   have := Qec h i
   have hr := h.row s (Q9 hs)
   rw [← Qrx hs]
   unfold cK
   rw [Zt, Qt, Z2]
   omega
  | none =>
   have := Qec h i
   unfold Qdn at this ⊢
   rw [Zm, Xl, Zt, Z3, Xu, Qj, Qt, Z2, Qm, hs]
   have e : ((Option.getD (none : Option Span) ⟨0, 0⟩).high + 1).toNat = 1 := rfl
   rw [e]; omega
theorem Qvp (l : List (Int × Int)) : ((l.map eC).flatten).length = l.length * 2 := Qfo (e := eC) (k := 2) (fun _ => rfl) l
theorem Qv3 (l : List (Int × Int)) : Qa4 ((l.map eC).flatten) = false := by
 induction l with
 | nil => rfl
 | cons x l ih => simp only [Qb, Q5, eC, Qp, Qn, Qa4, Qaa, ih]; rfl
theorem Qpp (l : List (Int × Int)) : Qcm 2 ((l.map eC).flatten) 0 l.length = l.map eC := Qed (e := eC) (k := 2) (fun _ => rfl) l
theorem Qz0 (hp : List Blk) (n : Nat) (l : List (Int × Int)) : (l.map eC).map (fun r => r.map (vw hp (n + 1))) = l.map eC := by
 rw [Xq]
 exact Zz fun x _ => rfl
theorem W25 (rs : List Span) (h : OkR rs) : Qa9 Try.prog 25 [.ag [.sl 2 (rs.map eSpan)], .ag [.i 0, .i 0, .i 0]] (.sl 2 ((Qd2 rs).map eC)) := by
 refine Qac (Qy3 h) hmix Try.func25 cb25 cc25 cs25 cn25 ?_
 have hl := h.len
 have g1 := h40 rs 0
 have e1 : Qhj rs 0 = rs := if_pos rfl
 rw [e1] at g1
 simp only [rc25, rs25, g1, true_or, Qa7, Qa8, Qab, Qa6, Qld, Qad, Qa5, Qa2, Fam.step, Qae, evO, opv, qv, ldV, lenV, Qaw, V.cells, Qas, Qaa, Qa4, flat, Qa3, Qa0, Qa1, ↓reduceIte, Nat.reduceEqDiff, Nat.reduceLT, Nat.reduceLeDiff, Int.reduceEq, Qb, Qc, Qd, Qe, Qh, Qk, Qf, Qo, Ql, Qn, Qj, vw_i, Qb3, Qb1, zipA, Qi, Qr, Qa, true_and, and_self, reduceCtorEq, imp_self, Qt]
 refine Qbm rs.length (fun i => ⟨lkp [(3, .pa [.i 0, .i 0, .i 0]), (5, .rf 0 (Qdn rs i).length 0 (Qdn rs i).length 2), (12, .sl 2 (rs.map eSpan)), (13, .i rs.length), (14, .i i)], [.cells (Qdn rs i).length ((Qdn rs i).map eC).flatten]⟩) ?_ ?_ ?_
 ·have e0 : Qdn rs 0 = [] := rfl
  simp only [Q0, e0, Q8, cutH, kp, cutV, cutL, cutB, Qa0, Qa1, ↓reduceIte, Nat.reduceEqDiff, Nat.reduceLT, Qb, Qc, Qe, Qf, Qo]
 ·intro i hi
  obtain ⟨s, hs⟩ : ∃ s, rs[i]? = some s := ⟨_, Qz hi⟩
  obtain ⟨r1, r2, r3⟩ := h.row s (Q9 hs)
  have hlt : (i : Int) < rs.length := by omega
  have h3 : inI ((i : Int) + 1) := by unfold inI; omega
  have hcl := Qec h i
  simp only [hs, hlt, r1, Qah, Qa7, Qa8, Qaf, Qab, Qa6, cutH, putB, Qad, Qa5, Qa2, Fam.step, Qae, Qbp, Qau, putB, nv, sv, evO, opv, qv, binV, ldV, iadV, curG, putAt, V.cells, Qas, Qaz, kp, Qa3, Qap, Qa0, Qa1, ↓reduceIte, Nat.reduceEqDiff, Nat.reduceAdd, Nat.reduceLeDiff, Qb, Qc, Qw, Qx, Qd, Qe, Qh, Qk, Q6, Qf, Qu, Qo, Ql, Qp, Qn, Qj, Qg, Qq, Qy, Qv, Q3, Zd, beq_self_eq_true, Qi, Zx, Qs, Qa, decide_true, true_and, and_self, Za, Qt, Zc, Qm, Q2, eSpan]
  refine Qbm (s.high + 1).toNat (fun c => ⟨lkp [(3, .pa [.i 0, .i 0, .i 0]), (5, .rf 0 (cK rs i c).length 0 (cK rs i c).length 2), (6, .i i), (7, .ad 1 0 0), (8, .i c), (12, .sl 2 (rs.map eSpan)), (13, .i rs.length), (14, .i i)], [.cells (cK rs i c).length ((cK rs i c).map eC).flatten, .cells 0 (eSpan s)]⟩) ?_ ?_ ?_
  ·simp only [Q0, Qwd, r1, kp, Qa0, Qa1, ↓reduceIte, Nat.reduceEqDiff, Qb, Qc, eSpan]
  ·intro c hc
   have hle : (c : Int) ≤ s.high := by omega
   have i1 : inI ((c : Int) + 1) ∧ inI (i : Int) ∧ inI (c : Int) := by unfold inI; omega
   have hlen : (cK rs i c).length ≤ 100 := by unfold cK; rw [Zt, Qt, Z2]; omega
   have hfl : Qc0 ((cK rs i c).length + 1) := by unfold Qc0; omega
   have hst := Qwc rs i c
   have ht : ((cK rs i c).map eC).flatten ++ [V.i (i : Int), V.i (c : Int)] = ((cK rs i (c + 1)).map eC).flatten := by rw [hst]; simp [eC]
   have hl1 : (cK rs i (c + 1)).length = (cK rs i c).length + 1 := by rw [hst]; simp
   simp only [hle, i1, Int.zero_add, hfl, Qvp, Q5, Q8, ht, hl1, Q7, Q1, Qah, Qa7, Qa8, Qaf, Qab, Qa6, Qda, putB, Qad, Qai, Qa5, Qa2, Fam.step, Qae, Qbp, Qau, putB, nv, sv, Qd0, evO, opv, qv, binV, ldV, curG, Qal, putAt, Qb0, Qba, V.cells, Qas, Qaz, Qaa, Qa4, kp, Qa3, Qa0, Qa1, ↓reduceIte, Nat.reduceEqDiff, Nat.reduceAdd, Nat.reduceMul, Nat.reduceLeDiff, Qb, Qc, Qw, Qx, Qd, Qe, Qh, Qk, Q6, Qf, Qu, Qo, Ql, Qp, Qn, Qj, Qg, Qq, Qv, Q4, Zg, vw_i, Qb1, beq_self_eq_true, Qi, Qs, Qr, Qa, decide_true, and_self, reduceCtorEq, not_false_eq_true, ne_eq, eSpan]
  ·have hgt : ¬ (((s.high + 1).toNat : Nat) : Int) ≤ s.high := by omega
   have hall := Qrx hs
   simp only [hgt, hall, h3, Qaq _ _ _ (Qv3 _), Q7, Q1, Qa7, Qa8, Qaf, Qar, Qa6, Qc9, ↓Qbj, cutH, Qad, Qai, Qa5, Qa2, Fam.step, Qae, evO, opv, qv, binV, ldV, curG, cutV, cutB, Qa3, Qa0, Qa1, ↓reduceIte, Nat.reduceEqDiff, Nat.reduceAdd, Nat.reduceLT, Nat.reduceLeDiff, Qb, Qc, Qd, Qe, Qh, Qk, Qf, Qu, Qo, Ql, Qg, Qq, Qhq, beq_self_eq_true, Qi, Qa, decide_false, and_self, eSpan]
 ·have hlt : ¬ ((rs.length : Int) < rs.length) := by omega
  have hck := Qpp (Qd2 rs)
  simp only [hlt, Qvp, Zo, Qd2, Qpp, Qz0, Qa7, Qa8, Qaf, Qar, Qag, Qa6, Qad, Qai, Qa5, Qa2, Fam.step, Qae, evO, opv, qv, binV, Qa3, Qa0, Qa1, ↓reduceIte, Nat.reduceEqDiff, Qb, Qc, Qg, endQ, rvs, rv1, resV, Qi9, Qi, Qa, decide_false, and_self]
theorem W24' (rs : List Span) : Qa9 Try.prog 24 [.ag [.i 0, .i 0, .i 0]] (.b true) := W24 0 0 0
noncomputable def KG8 (rs : List Span) : Gam := ((KG7 rs).ext 25 (one [.ag [.sl 2 (rs.map eSpan)], .ag [.i 0, .i 0, .i 0]] (.sl 2 ((Qd2 rs).map eC)))).ext 24 (one [.ag [.i 0, .i 0, .i 0]] (.b true))
theorem Qx0 {rs : List Span} (h : OkR rs) : GOk Try.prog (KG8 rs) := ((Qy3 h).ext (f := 25) (fun a w => Try.call25 a w) (Qcc (W25 rs h))).ext (f := 24) (fun a w => Try.call24 a w) (Qcc (W24' rs))
theorem h25 (rs : List Span) : KG8 rs 25 [.ag [.sl 2 (rs.map eSpan)], .ag [.i 0, .i 0, .i 0]] = (True, .sl 2 ((Qd2 rs).map eC)) := (show KG8 rs 25 _ = one _ _ _ from rfl).trans (Qc8 _ _)
theorem h24 (rs : List Span) : KG8 rs 24 [.ag [.i 0, .i 0, .i 0]] = (True, .b true) := (show KG8 rs 24 _ = one _ _ _ from rfl).trans (Qc8 _ _)
theorem m22 (rs : List Span) : KG8 rs 22 [.ag (lapV rs)] = (True, .i 0) := h22 rs
theorem m23 (rs : List Span) (n lo hi : Int) : KG8 rs 23 [.i n, .i lo, .i hi] = (True, .b (inW n lo hi)) := rfl
theorem W9 (rs : List Span) (h : OkR rs) : Qa9 Try.prog 9 [.ag (lapV rs), .i 0, .ag [.i 0, .i 0, .i 0]] (.tp [.sl 2 ((Qd2 rs).map eC), .i 0]) := by
 refine Qac (Qx0 h) hmix Try.func9 cb9 cc9 cs9 cn9 ?_
 have g1 := m22 rs
 have w1 : inW 0 0 0 = true := by decide
 have i0 : inI 0 := by unfold inI; omega
 simp only [lapV] at g1
 simp only [rc9, rs9, lapV, g1, m23, w1, h24, h25, i0, Q1, Qah, Qa7, Qc6, Qa8, Qaf, Qag, Qa6, Qbe, Qad, Qa5, Qa2, Fam.step, Qae, Qbu, Qb8, ug, runX, eff, Qbb, fpR, fpQ, fpV, Qcj, hits, evO, opv, qv, Qao, binV, ldV, iadV, lenV, Qaw, V.cells, Qas, Qaa, Qa4, flat, Qa3, Qa0, Qa1, ↓reduceIte, Nat.reduceEqDiff, Nat.reduceAdd, Nat.reduceLT, Nat.reduceLeDiff, Int.toNat_zero, Int.reduceLT, Int.reduceLE, Int.reduceSub, Qb, Qc, Qw, Qx, Qd, Qe, Qh, Qk, Qf, Qo, Ql, Qp, Qn, Qj, Qg, Zh, Qy, Zr, Q4, Zf, endQ, rvs, rv1, resV, vw_i, Qb3, Qb1, Qdj, zipA, beq_self_eq_true, Qi, Qs, Ze, Zu, Qr, Zi, Zj, Qa, decide_true, and_self, forall_const, implies_true, reduceCtorEq, Zy, Zk, imp_self, Qm]
def zT : List V := [.w .u16 0, .w .u16 0, .w .u16 0, .w .u16 0, .w .u16 0, .w .u16 0, .w .u16 0, .w .u16 0, .w .u16 0, .w .u16 0, .w .u16 0, .w .u16 0]
theorem W42 (k : Nat) (hk : k ≤ 5) : Qa9 Try.prog 42 [.sl 1 (Z9 k [.sl 2 []])] (.ag zT) := by
 refine Qac Qp8 hmix Try.func42 cb42 cc42 cs42 cn42 ?_
 simp only [rc42, rs42, Qa7, Qa8, Qab, Qa6, Qad, Qa5, Qa2, Fam.step, Qae, Qbp, Qau, nv, evO, opv, qv, lenV, Qa3, Qa0, Qa1, ↓reduceIte, Nat.reduceEqDiff, Qb, Qc, Qe, Qn, zipA, true_and, and_self, reduceCtorEq, Xg]
 refine Qbm k (fun i => ⟨lkp [(2, .ad 0 0 0), (7, .sl 1 (Z9 k [.sl 2 []])), (8, .i k), (9, .i i)], [.cells 0 zT]⟩) ?_ ?_ ?_
 ·simp only [Q0, zT, cutH, kp, cutV, cutL, cutB, Qa0, Qa1, ↓reduceIte, Nat.reduceEqDiff, Nat.reduceLT, Qb, Qc, Qf, Qo]
 ·intro i hi
  have hlt : (i : Int) < k := by omega
  have h3 : inI ((i : Int) + 1) := by unfold inI; omega
  have hg : (Z9 k [V.sl 2 []])[i]? = some [V.sl 2 []] := by rw [List.getElem?_replicate, if_pos hi]
  simp only [hlt, hg, Q0, zT, Qah, Qa7, Qa8, Qaf, Qab, Qa6, cutH, Qad, Qa5, Qa2, Fam.step, Qae, evO, opv, qv, binV, ldV, iadV, lenV, kp, Qa3, Qa0, Qa1, ↓reduceIte, Nat.reduceEqDiff, Nat.reduceLeDiff, Qb, Qc, Qd, Qe, Ql, Qy, Zd, Qi, Qa, decide_true, true_and, and_self, Zc, Qm, Xg]
  refine Qbm 0 (fun _ => ⟨lkp [(2, .ad 0 0 0), (7, .sl 1 (Z9 k [.sl 2 []])), (8, .i k), (9, .i i), (13, .sl 2 []), (14, .i 0), (15, .i 0)], [.cells 0 zT]⟩) ?_ ?_ ?_
  ·simp only [zT, cutH, kp, cutV, cutL, cutB, Qa0, Qa1, ↓reduceIte, Nat.reduceEqDiff, Nat.reduceLT, Qb, Qc, Qf, Qo]
  ·intro j hj; omega
  ·simp only [h3, zT, Q7, Q1, Qa7, Qa8, Qaf, Qar, Qa6, Qc9, ↓Qbj, cutH, Qad, Qai, Qa5, Qa2, Fam.step, Qae, evO, opv, qv, binV, cutV, cutL, cutB, Qa3, Qa0, Qa1, ↓reduceIte, Nat.reduceEqDiff, Nat.reduceLT, Qb, Qc, Qf, Qo, Zp, Qa, decide_false, and_self]
 ·have hlt : ¬ ((k : Int) < k) := by omega
  simp only [hlt, zT, Qa7, Qa8, Qaf, Qar, Qag, Qa6, putB, Qad, Qai, Qa5, Qa2, Fam.step, Qae, Qbp, Qau, putB, nv, sv, evO, opv, qv, binV, ldV, putAt, V.cells, Qas, Qaz, Qa3, Qap, Qa0, Qa1, ↓reduceIte, Nat.reduceEqDiff, Nat.reduceAdd, Nat.reduceLeDiff, Qb, Qc, Qw, Qx, Qd, Qe, Qh, Qk, Q6, Qf, Qu, Qo, Qn, Qj, Qg, Qv, endQ, rvs, rv1, resV, Qb1, Qi, Qs, Qa, decide_false, and_self, vw_w]
end Go.CT
set_option linter.unusedSimpArgs false
set_option linter.unusedVariables false
namespace Go.C02
open Go.Fam Go.Proofs
def ints (lo hi : Int) : List Int := (Zl (hi + 1 - lo).toNat).map fun (k : Nat) => lo + k
theorem Qfq (lo hi : Int) : (ints lo hi).length = (hi + 1 - lo).toNat := by simp [ints]
theorem Qiv {lo hi : Int} {k : Nat} (h : k < (hi + 1 - lo).toNat) : (ints lo hi)[k]? = some (lo + k) := by simp [ints, h]
theorem Qsx {lo hi : Int} {k : Nat} {x : Int} (h : (ints lo hi)[k]? = some x) : x = lo + k ∧ k < (hi + 1 - lo).toNat := by
 have hl := Qam h
 rw [Qfq] at hl
 rw [Qiv hl] at h
 exact ⟨(Xv.inj h).symm, hl⟩
theorem Qhf {lo hi n : Int} : n ∈ ints lo hi ↔ lo ≤ n ∧ n ≤ hi := by
 simp only [ints, Xd, Xi]
 constructor
 ·rintro ⟨k, hk, rfl⟩; omega
 ·rintro ⟨h1, h2⟩; exact ⟨(n - lo).toNat, by omega, by omega⟩
theorem Qsa {α : Type} {l : List α} {k : Nat} {x : α} (h : l[k]? = some x) : l.drop k = x :: l.drop (k + 1) := by
 have hl := Qam h
 rw [List.drop_eq_getElem_cons hl]
 rw [Qz hl] at h
 rw [Xv.inj h]
def ysB (b : Bolt) : List (List V) := (ints b.stretch.low b.stretch.high).map fun n => [.i n]
theorem I70 (b : Bolt) (h1 : tame 1000 b.stretch.low) (h2 : tame 1000 b.stretch.high) : Qgt Try.prog 53 [.pa (Qan b)] (ysB b) := by
 refine Qng okH hmix Try.func53 cb53 (md := 2) rfl cc53 cs53 cn53 ?_
 intro l
 simp only [rc53, Qa7, Qa8, Qab, Qa6, Qad, Qa5, Qa2, Fam.step, Qae, evO, opv, qv, ldV, Qa3, Qa0, Qa1, ↓reduceIte, Nat.reduceEqDiff, Nat.reduceAdd, Nat.reduceLeDiff, Qb, Qc, Qd, Qe, Qk, Ql, zipA, Qi, Qa, true_and, reduceCtorEq, Qan]
 have hN : ∀ i, i < (b.stretch.high + 1 - b.stretch.low).toNat → (ysB b)[i]? = some [.i (b.stretch.low + i)] := fun i hi => by simp only [ysB, Q2, Qiv hi, Za]
 refine Qbm (b.stretch.high + 1 - b.stretch.low).toNat (fun i => ⟨lkp [(0, .yl l), (1, .pa (Qan b)), (3, .i (b.stretch.low + i))], [.gh [.yl l, .pa (Qan b)] (some ((ysB b).drop i))]⟩) ?_ ?_ ?_
 ·simp only [Q0, Xr, kp, Qa0, Qa1, ↓reduceIte, Nat.reduceEqDiff, Qb, Qc, Qk, reduceCtorEq, Qan]
 ·intro i hi
  have hy := Qsa (hN i hi)
  have hlt : b.stretch.low + (i : Int) ≤ b.stretch.high := by omega
  have h3 : inI (b.stretch.low + (i : Int) + 1) := by unfold inI; unfold tame at *; omega
  simp only [hy, hlt, Q7, Q1, Z0, Qah, Qa7, Qa8, Qaf, Qc2, Qab, Qag, Qa6, Qqs, Qo3, yres, Qo6, endI, Qad, Qai, Qa5, Qa2, Fam.step, Qae, Qau, Qb8, evO, opv, qv, binV, ldV, flat, Qd3, kp, Qa3, Qa0, Qa1, ↓reduceIte, Nat.reduceEqDiff, Nat.reduceAdd, Nat.reduceLeDiff, Qb, Qc, Qd, Qe, Qh, Qk, Ql, Qg, Qi, Qs, Qa, decide_true, true_and, reduceCtorEq, Zb, Z1, Qan]
  refine ⟨?_, ?_⟩
  ·simp [flat]
  ·intro bb
   cases bb <;> simp only [↓reduceIte, Qa, Xm, true_and, and_true, and_self, forall_const, false_implies]
   rw [Z0] at h3
   exact h3
 ·have hgt : ¬ (b.stretch.low + ((b.stretch.high + 1 - b.stretch.low).toNat : Int) ≤ b.stretch.high) := by omega
  have hnil : (ysB b).drop (b.stretch.high + 1 - b.stretch.low).toNat = [] := by rw [Xj]; simp [ysB, Qfq]
  simp only [hgt, hnil, Qa7, Qa8, Qaf, Qar, Qa6, endI, Qad, Qai, Qa5, Qa2, Fam.step, Qae, evO, opv, qv, binV, ldV, Qa3, Qa0, Qa1, ↓reduceIte, Nat.reduceEqDiff, Nat.reduceAdd, Nat.reduceLeDiff, Qb, Qc, Qd, Qe, Qh, Qk, Ql, Qg, Qi, Qa, decide_false, and_self, reduceCtorEq, Qan]
structure ValidB (b : Bolt) : Prop where
 st : 0 ≤ b.stretch.low ∧ b.stretch.low ≤ b.stretch.high ∧ b.stretch.high ≤ 60
 n : b.strips.length ≤ 8
 wr : 0 ≤ b.wrong ∧ b.wrong ≤ 2
 sp : ∀ x ∈ b.strips, 1 ≤ x.long ∧ x.long ≤ 2000 ∧ 0 ≤ x.pulled.low ∧ x.pulled.low ≤ x.pulled.high ∧ x.pulled.high ≤ 4000
structure Valid (d : Dome) : Prop where
 nb : 1 ≤ d.bolts.length ∧ d.bolts.length ≤ 4
 ng : 3 ≤ d.gores.length ∧ d.gores.length ≤ 16
 nr : 1 ≤ d.rounds.length ∧ d.rounds.length ≤ 12
 nw : d.widths.length = d.rounds.length
 loss : 0 ≤ d.loss ∧ d.loss ≤ 20
 slope : 0 ≤ d.slope ∧ d.slope ≤ 500
 gores : ∀ g ∈ d.gores, 0 ≤ g ∧ g < d.bolts.length
 rounds : ∀ s ∈ d.rounds, 0 ≤ s.low ∧ s.low ≤ s.high ∧ s.high ≤ 40000
 widths : ∀ n ∈ d.widths, 2 * d.loss ≤ n ∧ n ≤ 2000
 bolts : ∀ b ∈ d.bolts, ValidB b
theorem Qu7 {b : Bolt} (h : Qd5 b = true) : ValidB b := by
 simp only [Qd5, Qc7, Qak, Zs, decide_eq_true_eq, Z4, Qdi] at h
 refine ⟨by omega, by omega, by omega, fun x hx => ?_⟩
 have := h.2 x hx
 omega
theorem Qt0 {d : Dome} (h : Qc3 d = 0) : Qdk d = true ∧ d.bolts.all Qd5 = true := by
 unfold Qc3 at h
 cases h1 : Qdk d <;> cases h2 : d.bolts.all Qd5 <;> simp [h1, h2] at h ⊢
theorem Qe4 {d : Dome} (h : Qc3 d = 0) : Valid d := by
 obtain ⟨h1, h2⟩ := Qt0 h
 simp only [Qdk, Qh8, Qak, Zs, decide_eq_true_eq, Z4, Qh7, Qe9, Qc7, Qea] at h1
 rw [Z4] at h2
 refine ⟨by omega, by omega, by omega, by omega, by omega, by omega, fun g hg => ?_, fun s hs => ?_, fun n hn => ?_, fun b hb => Qu7 (h2 b hb)⟩
 ·have := h1.1.1.2 g hg; omega
 ·have := h1.1.2 s hs; omega
 ·have := h1.2 n hn; omega
theorem ValidB.ok66 {b : Bolt} (h : ValidB b) {s : Int} (hs : 0 ≤ s ∧ s ≤ 60) : ok66 b.strips s := by
 refine ⟨by unfold tame; omega, fun x hx => ?_, by have := h.n; omega⟩
 have := h.sp x hx
 unfold tame; omega
theorem P60 (b : Bolt) : Qa9 Try.prog 34 [.ag (Qan b)] (.fn 53 [.pa (Qan b)]) := by
 refine Qac okH hmix Try.func34 cb34 cc34 cs34 cn34 ?_
 simp only [rc34, rs34, Qan, Qa7, Qa8, Qag, Qa6, Qad, Qa5, Qa2, Fam.step, Qae, evO, opv, qv, V.cells, Qas, Qaa, Qa4, Qa3, Qa0, Qa1, ↓reduceIte, Nat.reduceEqDiff, Qb, Qc, endQ, rvs, rv1, resV, vw_i, Qb3, Qdw, Qb1, Qfl, zipA, Qr, and_self, Qan]
def rI70 : List V → Prop × V := fnG (fun b => [.pa (Qan b)]) (fun vs => Qli (pC (vs.headD .u))) (fun b => tame 1000 b.stretch.low ∧ tame 1000 b.stretch.high) ysB (.sl 0)
def r60 : List V → Prop × V := fnG (fun b => [.ag (Qan b)]) dB (fun _ => True) (fun b => b) (fun b => .fn 53 [.pa (Qan b)])
def r41 : List V → Prop × V := fnG (fun d => [.ag (Qaj d)]) dD (fun _ => True) Qc3 .i
def eDN (a : Dome × Int) : List V := [.ag (Qaj a.1), .i a.2]
def dDN : List V → Dome × Int | [.ag cs, .i n] => (Qj9 cs, n) | _ => (D0, 0)
theorem Qwg (a : Dome × Int) : dDN (eDN a) = a := by simp [dDN, eDN, Qeq]
def r46 : List V → Prop × V := fnG eDN dDN (fun a => a.1.rounds.length < 1000) (fun a => Qak a.2 0 (a.1.rounds.length - 1)) .b
def r56 : List V → Prop × V := fnG eDN dDN (fun a => a.1.bolts.length < 1000) (fun a => Qak a.2 0 (a.1.bolts.length - 1)) .b
def r61 : List V → Prop × V := fnG eBI dBI (fun a => ok66 a.1.strips a.2) (fun a => (Qcw a.1.strips a.2 : Int)) .i
def GJ : Gam := ((((((GH.ext 33 r41).ext 29 r46).ext 59 r56).ext 35 r61).ext 5 r39).ext 34 r60).ext 2000053 rI70
theorem okJ : GOk Try.prog GJ := by
 have k1 := okH.ext (f := 33) (r := r41) (fun a w => Try.call33 a w) (Qb7 fun a _ => P41 a)
 have k2 := k1.ext (f := 29) (r := r46) (fun a w => Try.call29 a w) (Qb7 fun a h => P46 a.1 a.2 h)
 have k3 := k2.ext (f := 59) (r := r56) (fun a w => Try.call59 a w) (Qb7 fun a h => P56 a.1 a.2 h)
 have k4 := k3.ext (f := 35) (r := r61) (fun a w => Try.call35 a w) (Qb7 fun a h => P61 a.1 a.2 h)
 have k5 := k4.ext (f := 5) (r := r39) (fun a w => Try.call5 a w) (Qb7 fun a _ => P39 a)
 have k6 := k5.ext (f := 34) (r := r60) (fun a w => Try.call34 a w) (Qb7 fun a _ => P60 a)
 refine k6.extI (f := 53) (r := rI70) (fun a w => Try.call53 a w) fun vs ys h1 h2 => ?_
 simp only [rI70, fnG, V.sl.injEq, true_and] at h1 h2
 rw [← h1.1, ← h2]
 exact I70 _ h1.2.1 h1.2.2
theorem gJ54 (n lo hi : Int) : GJ 13 [.i n, .i lo, .i hi] = (True, .b (Qak n lo hi)) := rfl
theorem gJ66 (a b : Int) (l : List Strip) (w s : Int) : GJ 28 [.ag [.i a, .i b, .sl 3 (l.map Qbd), .i w], .i s] = (ok66 l s, .i (Qcw l s)) :=
 (show GJ 28 _ = r66 (eBI (⟨⟨a, b⟩, l, w⟩, s)) from rfl).trans (Qb9 _ (Qun _))
theorem gJ61 (a b : Int) (l : List Strip) (w s : Int) : GJ 35 [.ag [.i a, .i b, .sl 3 (l.map Qbd), .i w], .i s] = (ok66 l s, .i (Qcw l s)) :=
 (show GJ 35 _ = r61 (eBI (⟨⟨a, b⟩, l, w⟩, s)) from rfl).trans (Qb9 _ (Qun _))
theorem gJ49 (a b : Int) (l : List Strip) (w s : Int) : GJ 12 [.ag [.i a, .i b, .sl 3 (l.map Qbd), .i w], .i s] = (ok66 l s, .b (can ⟨⟨a, b⟩, l, w⟩ s)) :=
 (show GJ 12 _ = r49 (eBI (⟨⟨a, b⟩, l, w⟩, s)) from rfl).trans (Qb9 _ (Qun _))
theorem gJ41 (d : Dome) : GJ 33 [.ag (Qaj d)] = (True, .i (Qc3 d)) := (show GJ 33 _ = r41 [.ag (Qaj d)] from rfl).trans (Qb9 (e := fun d => [.ag (Qaj d)]) d (Qeq _))
theorem gJ39 (d : Dome) : GJ 5 [.ag (Qaj d)] = (True, .i (Qc3 d)) := (show GJ 5 _ = r39 [.ag (Qaj d)] from rfl).trans (Qb9 (e := fun d => [.ag (Qaj d)]) d (Qeq _))
theorem gJ46 (d : Dome) (n : Int) : GJ 29 [.ag (Qaj d), .i n] = (d.rounds.length < 1000, .b (Qak n 0 (d.rounds.length - 1))) := (show GJ 29 _ = r46 (eDN (d, n)) from rfl).trans (Qb9 _ (Qwg _))
theorem gJ56 (d : Dome) (n : Int) : GJ 59 [.ag (Qaj d), .i n] = (d.bolts.length < 1000, .b (Qak n 0 (d.bolts.length - 1))) := (show GJ 59 _ = r56 (eDN (d, n)) from rfl).trans (Qb9 _ (Qwg _))
theorem gJ60 (b : Bolt) : GJ 34 [.ag (Qan b)] = (True, .fn 53 [.pa (Qan b)]) := (show GJ 34 _ = r60 [.ag (Qan b)] from rfl).trans (Qb9 (e := fun b => [.ag (Qan b)]) b (Qep _))
theorem gJ70 (b : Bolt) : GJ 2000053 [.pa (Qan b)] = (tame 1000 b.stretch.low ∧ tame 1000 b.stretch.high, .sl 0 (ysB b)) := (show GJ 2000053 _ = rI70 [.pa (Qan b)] from rfl).trans (Qb9 (e := fun b => [.pa (Qan b)]) b (Qep _))
theorem Que {b : Bolt} {k : Nat} {x : List V} (h : (ysB b)[k]? = some x) : x = [.i (b.stretch.low + k)] ∧ k < (b.stretch.high + 1 - b.stretch.low).toNat := by
 simp only [ysB, Q2, Option.map_eq_some_iff] at h
 obtain ⟨n, hn, rfl⟩ := h
 obtain ⟨rfl, h2⟩ := Qsx hn
 exact ⟨rfl, h2⟩
theorem Qxg (b : Bolt) : (ysB b).length = (b.stretch.high + 1 - b.stretch.low).toNat := by simp [ysB, Qfq]
def Qf5 (d : Dome) (n : Int) : Bolt := (d.bolts[n.toNat]?).getD ⟨⟨0, 0⟩, [], 0⟩
theorem Qlg {n : Int} {k : Nat} (h : Qak n 0 ((k : Int) - 1) = true) : 0 ≤ n ∧ n < k := by simp only [Qak, Zs, decide_eq_true_eq] at h; omega
end Go.C02
set_option linter.unusedSimpArgs false
set_option linter.unusedVariables false
namespace Go.C02
open Go.Fam Go.Proofs
theorem Qh2 {α : Type} (e : α → List V) (l : List α) (x : α) : ((l ++ [x]).map e).flatten = (l.map e).flatten ++ e x := by simp
theorem Qje {α : Type} (p : α → Bool) {l : List α} {k : Nat} {x : α} (h : l[k]? = some x) : (l.take (k + 1)).filter p = (l.take k).filter p ++ (if p x then [x] else []) := by
 rw [Qb4 h, List.filter_append]
 congr 1
 by_cases hp : p x <;> simp [hp]
theorem Qlh (l : List Int) : Qcm 1 ((l.map eI).flatten) 0 l.length = l.map eI := Qed (e := eI) (k := 1) (fun _ => rfl) l
theorem Qnk (l : List Int) : ((l.map eI).flatten).length = l.length * 1 := Qfo (e := eI) (k := 1) (fun _ => rfl) l
theorem vw_I (hp : List Blk) (n : Nat) (l : List Int) : (l.map eI).map (fun r => r.map (vw hp (n + 1))) = l.map eI := Qjs (e := eI) hp (n + 1) (fun _ => rfl) l
theorem Qev (l : List Int) : Qa4 ((l.map eI).flatten) = false := Qdz (e := eI) (fun _ => rfl) l
def Qav (b : Bolt) : List Int := (ints b.stretch.low b.stretch.high).filter (can b)
def Qbv (b : Bolt) (k : Nat) : List Int := ((ints b.stretch.low b.stretch.high).take k).filter (can b)
theorem Qga {b : Bolt} {k : Nat} (h : k < (b.stretch.high + 1 - b.stretch.low).toNat) : Qbv b (k + 1) = Qbv b k ++ (if can b (b.stretch.low + k) then [b.stretch.low + k] else []) :=
 Qje _ (Qiv h)
theorem Qhg (b : Bolt) : Qbv b (b.stretch.high + 1 - b.stretch.low).toNat = Qav b := by
 unfold Qbv Qav
 rw [← Qfq, Zq]
theorem Qhh (b : Bolt) (k : Nat) : (Qbv b k).length ≤ k := by
 unfold Qbv
 exact Nat.le_trans (Xh _ _) (List.length_take_le _ _)
def Qbq (d : Dome) : List (List Int) := d.bolts.map Qav
theorem Qof (l : List (List Int)) : Qcm 1 ((l.map eCan).flatten) 0 l.length = l.map eCan := Qed (e := eCan) (k := 1) (fun _ => rfl) l
theorem Qt7 (l : List (List Int)) : ((l.map eCan).flatten).length = l.length * 1 := Qfo (e := eCan) (k := 1) (fun _ => rfl) l
theorem vw_C (hp : List Blk) (n : Nat) (l : List (List Int)) : (l.map eCan).map (fun r => r.map (vw hp (n + 1))) = l.map eCan := Qjs (e := eCan) hp (n + 1) (fun _ => rfl) l
theorem Qfd (l : List (List Int)) : Qa4 ((l.map eCan).flatten) = false := Qdz (e := eCan) (fun _ => rfl) l
def Qc1 (d : Dome) (is : Bool) : Int := if Qc3 d ≠ 0 then Qc3 d else if is then (if (Qbq d).any Zw then 3 else 0) else 1
def Qii (d : Dome) (is : Bool) : V := .tp [if Qc1 d is = 0 then .pa (Qcz ⟨d, Qbq d⟩) else .pn, .i (Qc1 d is)]
theorem Qrc (b : Bolt) {s : Int} (h1 : b.stretch.low ≤ s) (h2 : s ≤ b.stretch.high) : can b s = decide ((Qcw b.strips s : Int) ≤ b.wrong) := by
 simp [can, Qak, h1, h2]
theorem P45 (d : Dome) (is : Bool) : Qa9 Try.prog 20 [.ag (Qaj d), .b is] (Qii d is) := by
 refine Qac okJ hmix Try.func20 cb20 cc20 cs20 cn20 ?_
 have g1 := gJ41 d
 unfold Qaj at g1
 simp only [rc20, rs20, g1, Qii, Qah, Qa7, Qa8, Qaf, Qc2, Qab, Qag, Qa6, Qi6, Qad, Qa5, Qa2, Fam.step, Qae, Qbp, Qau, nv, evO, opv, qv, binV, ldV, lenV, Qaw, Qal, putAt, Qb0, V.cells, Qas, Qaz, Qaa, Qa4, flat, Qa3, Qa0, Qa1, ↓reduceIte, Nat.reduceEqDiff, Nat.reduceAdd, Nat.reduceLT, Nat.reduceLeDiff, Qb, Qc, Qw, Qx, Qd, Qe, Qh, Qk, Qf, Qu, Qo, Ql, Qp, Qn, Qj, Qg, Qq, Zh, Qv, Q3, endQ, rvs, rv1, resV, vw_i, Qrq, Qb3, Qb1, Qdj, zipA, Qi, Qs, Qr, Qa, decide_eq_false_iff_not, true_and, and_self, implies_true, reduceCtorEq, Zb, Qt, Z1, Classical.not_not, Qaj, Qcz]
 refine ⟨fun h => ?_, fun h => ⟨fun h2 => ?_, fun h2 => ?_⟩⟩
 ·have e : Qc1 d is = Qc3 d := by simp [Qc1, h]
  rw [e, if_neg h]
 ·have e : Qc1 d is = 1 := by simp [Qc1, h, h2]
  rw [e]; rfl
 have hv := Qe4 h
 have hnb := hv.nb
 refine Qb5 d.bolts.length (fun i => ⟨lkp [(7, .ad 0 0 0), (23, .sl 4 (d.bolts.map Qan)), (24, .i d.bolts.length), (25, .i i), (31, .u)],
  [.cells 0 (Qaj d ++ [.rf 1 i 0 i 1]), .cells i (((Qbq d).take i).map eCan).flatten]⟩) (fun i => ((Qbq d).take i).any Zw = false) ?_ ?_ ?_ ?_
 ·simp only [Q0, Q8, cutH, kp, cutV, cutL, cutB, Qa0, Qa1, ↓reduceIte, Nat.reduceEqDiff, Nat.reduceLT, Qb, Qc, Qf, Qu, Qo, Qp, Qn, Qaj]
 ·rfl
 ·intro i hi hC
  obtain ⟨b, hb⟩ : ∃ b, d.bolts[i]? = some b := ⟨_, Qz hi⟩
  have hvb := hv.bolts b (Q9 hb)
  have hst := hvb.st
  have hlt : (i : Int) < d.bolts.length := by omega
  have h3 : inI ((i : Int) + 1) := by unfold inI; omega
  have hcan : (Qbq d)[i]? = some (Qav b) := by simp [Qbq, hb]
  have hti := Qb4 hcan
  have hlen : ((Qbq d).take i).length = i := by simp [Qbq]; omega
  have g3 := gJ60 b
  unfold Qan at g3
  have g4 := gJ70 b
  unfold Qan at g4
  simp only [hb, hlt, g3, Qah, Qa7, Qa8, Qaf, Qab, Qa6, Qi6, cutH, putB, Qad, Qa5, Qa2, Fam.step, Qae, Qbp, Qau, putB, nv, sv, evO, opv, qv, binV, ldV, iadV, Qaw, putAt, V.cells, Qas, Qaz, Qaa, Qa4, flat, kp, Qa3, Qap, Qa0, Qa1, ↓reduceIte, Nat.reduceEqDiff, Nat.reduceAdd, Nat.reduceLT, Nat.reduceLeDiff, Qb, Qc, Qw, Qx, Qd, Qe, Qh, Qk, Q6, Qf, Qu, Qo, Qp, Qn, Qj, Qg, Qq, Qy, Qv, Q3, vw_i, Qb3, Qb1, Zd, Qi, Zx, Qs, Qr, Qa, decide_true, true_and, and_self, Za, imp_self, Qt, Zc, Qm, Q2, Qan, Qaj]
  refine Qu0 (gf := 53) (caps := [.pa (Qan b)]) (ok := tame 1000 b.stretch.low ∧ tame 1000 b.stretch.high) (ys := ysB b)
   (fun k => [.cells 0 (Qaj d ++ [.rf 1 i 0 i 1]), .cells i (((Qbq d).take i).map eCan).flatten, .cells 0 (Qan b), .cells 0 [.rf 4 (Qbv b k).length 0 (Qbv b k).length 1], .cells (Qbv b k).length ((Qbv b k).map eI).flatten]) (fun _ => True) ?_ ?_ (by decide) ?_ rfl ?_ ?_ trivial ?_ ?_
  ·simp only [evO, Qa0, ↓reduceIte, Nat.reduceEqDiff, Qan]
  ·simp only [g4, Nat.reduceAdd, Qb, Qc, Qdw, Qan]
  ·unfold tame; omega
  ·intro x hx
   obtain ⟨k, hk⟩ := List.getElem?_of_mem hx
   rw [(Que hk).1]; rfl
  ·simp only [Qbv, Xe, Q8, Qaq _ _ _ (Qfd ((Qbq d).take i)), cutH, cutV, cutL, cutB, ↓reduceIte, Nat.reduceLT, Qb, Qc, Qe, Qf, Qu, Qo, Qp, Qn, Qan, Qaj]
  ·intro k x hx _
   obtain ⟨rfl, hk⟩ := Que hx
   have h4 := hvb.ok66 (s := b.stretch.low + k) (by omega)
   have h5 := Qhh b k
   simp only [gJ61, h4, Qga hk, Qrc b (s := b.stretch.low + k) (by omega) (by omega), Qah, Qa7, Qc6, Qa8, Qaf, Qc2, Qab, Qa6, Qda, ↓Qbj, rnQ, rndQ, updL, Qbe, cutH, putB, Qad, Qai, Qa5, Qa2, Fam.step, Qae, Qbp, Qau, runX, eff, Qbb, fpR, fpQ, fpV, Qcj, hits, putB, nv, sv, Qd0, evO, opv, qv, binV, ldV, curG, Qaw, Qal, putAt, Qb0, Qba, V.cells, Qas, Qaz, Qaa, Qa4, flat, cutV, cutL, cutB, Qa3, Qap, Qa0, Qa1, ↓reduceIte, Nat.reduceEqDiff, Nat.reduceAdd, Nat.reduceMul, Nat.reduceLT, Nat.reduceLeDiff, Qb, Qc, Qw, Qx, Qd, Qe, Qh, Qk, Q6, Qf, Qu, Qo, Ql, Qp, Qn, Qj, Qg, Qq, Zh, Zr, Qv, Q3, Q4, Zg, Zf, vw_i, Qb3, Qb1, beq_self_eq_true, Qi, Qs, Ze, Zu, Qr, Zi, Zj, Qa, decide_eq_true_eq, true_and, and_self, implies_true, reduceCtorEq, not_false_eq_true, ne_eq, Zy, Xn, Zk, Qm, Qan, Qaj]
   refine ⟨fun h => ?_, fun h => ?_⟩
   ·simp only [h, Qnk, Xc, Zt, List.map_append, List.flatten_append, Q5, Q8, Qaq _ _ _ (Qfd ((Qbq d).take i)), Qct, Qaq _ _ _ (Qev (Qbv b k)), cutV, cutL, ↓reduceIte, Qb, Qc, Qd, Qe, Qj, Qi, true_and, and_true, eI]
    unfold Qc0; omega
   ·simp only [h, Qaq _ _ _ (Qfd ((Qbq d).take i)), Qaq _ _ _ (Qev (Qbv b k)), ↓reduceIte, Qj]
  ·intro _
   have hdrop : ∀ hp : List Blk, True := fun _ => trivial
   simp only [Qxg, Qhg, Qaq _ _ _ (Qfd ((Qbq d).take i)), hpF, upB, upL, upV, Qd8 _ _ (Qev (Qav b)), Qnk, Xc, Zo, Qlh, vw_I, vw8, Qah, Qa7, Qc6, Qa8, Qaf, Qc2, Qag, Qa6, Qc9, Qda, ↓Qbj, Qbe, optL, cutH, Qad, Qai, Qa5, Qa2, Fam.step, Qae, Qau, runX, eff, Qbb, fpR, fpQ, fpV, Qcj, hits, nv, sv, Qd0, evO, opv, qv, binV, ldV, lenV, curG, Qal, putAt, Qb0, Qba, V.cells, Qas, Qaz, Qaa, Qa4, cutV, cutL, cutB, Qa3, Qap, Qa0, Qa1, ↓reduceIte, Nat.reduceEqDiff, Nat.reduceAdd, Nat.reduceLT, Qb, Qc, Qw, Qx, Qd, Qe, Qh, Qk, Q6, Qf, Qu, Qo, Ql, Qp, Qn, Qj, Qg, Qq, Zh, Qy, Zr, Qv, Q3, Q4, Zg, Zf, Xs, endQ, rvs, rv1, resV, vw_i, Qrq, Qb3, Qdj, Qhq, Qi9, beq_self_eq_true, Qi, Qs, Ze, Bool.true_and, Zu, Qr, Bool.false_or, Zi, Zj, Qa, decide_eq_true_eq, true_and, and_self, reduceCtorEq, not_false_eq_true, ne_eq, List.any_cons, Zy, Xn, Zk, Qm, Qan, Qaj]
   refine ⟨fun h => ?_, fun h => ?_⟩
   ·have e : Qc1 d is = 3 := by
     have : (Qbq d).any Zw = true := Z5.2 ⟨_, Q9 hcan, by simpa using h⟩
     simp [Qc1, h2, this, ‹Qc3 d = 0›]
    rw [e]; rfl
   ·refine ⟨⟨by rw [Qt7, hlen, Xc], by unfold Qc0; omega⟩, h3, ?_, ?_⟩
    ·rw [hti, Xw, hC]
     simpa using h
    ·simp only [Qct, Qaq _ _ _ (Qfd ((Qbq d).take i)), hti, Qh2, Q7, Q1, Q5, Q8, cutV, cutL, Qj, eCan]
 ·intro hC
  have e : Qc1 d is = 0 := by
   have hl : (Qbq d).take d.bolts.length = Qbq d := by rw [show d.bolts.length = (Qbq d).length from by simp [Qbq], Zq]
   rw [hl] at hC
   simp [Qc1, h2, hC, ‹Qc3 d = 0›]
  have hl : (Qbq d).take d.bolts.length = Qbq d := by rw [show d.bolts.length = (Qbq d).length from by simp [Qbq], Zq]
  have hl2 : d.bolts.length = (Qbq d).length := by simp [Qbq]
  simp only [e, Qt7, Xc, hl2, Zq, Zo, Qof, vw_C, Qa7, Qa8, Qaf, Qar, Qag, Qa6, Qad, Qai, Qa5, Qa2, Fam.step, Qae, evO, opv, qv, binV, ldV, Qa3, Qa0, Qa1, ↓reduceIte, Nat.reduceEqDiff, Qb, Qc, Qk, Qp, Qn, Qg, Qq, endQ, rvs, rv1, resV, vw_i, Qb3, Qdj, Qhq, Qi9, Zp, Qi, Qa, decide_false, and_self, Qaj]
end Go.C02
set_option linter.unusedSimpArgs false
set_option linter.unusedVariables false
namespace Go.C02
open Go.Fam Go.Proofs
def dTN : List V → Tent × Int | [.pa cs, .i n] => (Qwm cs, n) | _ => (⟨D0, []⟩, 0)
def eTN (a : Tent × Int) : List V := [.pa (Qcz a.1), .i a.2]
theorem Qxq (a : Tent × Int) : dTN (eTN a) = a := by simp [dTN, eTN, Qwn]
def eDB (a : Dome × Bool) : List V := [.ag (Qaj a.1), .b a.2]
def dDB : List V → Dome × Bool | [.ag cs, .b n] => (Qj9 cs, n) | _ => (D0, false)
theorem Qym (a : Dome × Bool) : dDB (eDB a) = a := by simp [dDB, eDB, Qeq]
def r50 : List V → Prop × V := fnG eTN dTN (fun a => ok50 a.1 a.2) (fun a => Qgq a.1 a.2) (fun s => .ag (eSpan s))
def r45 : List V → Prop × V := fnG eDB dDB (fun _ => True) (fun a => a) (fun a => Qii a.1 a.2)
def GL : Gam := (GJ.ext 30 r50).ext 20 r45
theorem okL : GOk Try.prog GL := by
 have k1 := okJ.ext (f := 30) (r := r50) (fun a w => Try.call30 a w) (Qb7 fun a h => P50 a.1 a.2 h)
 have k2 := k1.ext (f := 20) (r := r45) (fun a w => Try.call20 a w) (Qb7 fun a _ => P45 a.1 a.2)
 exact k2
theorem gL50 (b : List Bolt) (g : List Int) (l : Int) (r : List Span) (w : List Int) (s : Int) (c : List (List Int)) (n : Int) :
  GL 30 [.pa [.sl 4 (b.map Qan), .sl 1 (g.map eI), .i l, .sl 2 (r.map eSpan), .sl 1 (w.map eI), .i s, .sl 1 (c.map eCan)], .i n] = (ok50 ⟨⟨b, g, l, r, w, s⟩, c⟩ n, .ag (eSpan (Qgq ⟨⟨b, g, l, r, w, s⟩, c⟩ n))) :=
 (show GL 30 _ = r50 (eTN (⟨⟨b, g, l, r, w, s⟩, c⟩, n)) from rfl).trans (Qb9 _ (Qxq _))
theorem gL45 (b : List Bolt) (g : List Int) (l : Int) (r : List Span) (w : List Int) (s : Int) (x : Bool) :
  GL 20 [.ag [.sl 4 (b.map Qan), .sl 1 (g.map eI), .i l, .sl 2 (r.map eSpan), .sl 1 (w.map eI), .i s], .b x] = (True, Qii ⟨b, g, l, r, w, s⟩ x) :=
 (show GL 20 _ = r45 (eDB (⟨b, g, l, r, w, s⟩, x)) from rfl).trans (Qb9 _ (Qym _))
def Qow (d : Dome) (n : Int) : Bool := Qak n 0 (d.rounds.length - 1)
def Qfr (d : Dome) (n : Int) : Bool := Qak n 0 (d.bolts.length - 1)
theorem gL46 (b : List Bolt) (g : List Int) (l : Int) (r : List Span) (w : List Int) (s : Int) (n : Int) :
  GL 29 [.ag [.sl 4 (b.map Qan), .sl 1 (g.map eI), .i l, .sl 2 (r.map eSpan), .sl 1 (w.map eI), .i s], .i n] = (r.length < 1000, .b (Qow ⟨b, g, l, r, w, s⟩ n)) := gJ46 ⟨b, g, l, r, w, s⟩ n
theorem gL56 (b : List Bolt) (g : List Int) (l : Int) (r : List Span) (w : List Int) (s : Int) (n : Int) :
  GL 59 [.ag [.sl 4 (b.map Qan), .sl 1 (g.map eI), .i l, .sl 2 (r.map eSpan), .sl 1 (w.map eI), .i s], .i n] = (b.length < 1000, .b (Qfr ⟨b, g, l, r, w, s⟩ n)) := gJ56 ⟨b, g, l, r, w, s⟩ n
structure Good (d : Dome) : Prop where
 v : Valid d
 c : Qc3 d = 0
 ne : ∀ b ∈ d.bolts, Qav b ≠ []
theorem Qgm {d : Dome} {is : Bool} (h : Qc1 d is = 0) : Good d ∧ is = true := by
 unfold Qc1 at h
 by_cases h1 : Qc3 d = 0
 ·rw [if_neg (by simp [h1])] at h
  cases is
  ·simp at h
  ·refine ⟨⟨Qe4 h1, h1, fun b hb hn => ?_⟩, rfl⟩
   by_cases h2 : (Qbq d).any Zw = true
   ·simp [h2] at h
   ·apply h2
    rw [Z5]
    exact ⟨Qav b, List.mem_map_of_mem hb, by simp [hn]⟩
 ·rw [if_pos h1] at h
  exact absurd h h1
theorem Good.pitch {d : Dome} (h : Good d) (is : Bool) : Qc1 d is = if is then 0 else 1 := by
 have : ¬ (Qbq d).any Zw = true := by
  rw [Z5]
  rintro ⟨l, hl, he⟩
  obtain ⟨b, hb, rfl⟩ := Xd.1 hl
  exact h.ne b hb (by simpa using he)
 simp [Qc1, h.c, this]
def Qcy (d : Dome) : Tent := ⟨d, Qbq d⟩
theorem Qm5 {b : Bolt} {s : Int} : s ∈ Qav b ↔ can b s = true := by
 simp only [Qav, Xx, Qhf]
 constructor
 ·exact fun h => h.2
 ·intro h
  refine ⟨?_, h⟩
  simp only [can, Qak, Zs, decide_eq_true_eq] at h
  omega
theorem Qjy {b : Bolt} (hv : ValidB b) {s : Int} (h : s ∈ Qav b) : 0 ≤ s ∧ s ≤ 60 := by
 have := Qm5.1 h
 simp only [can, Qak, Zs, decide_eq_true_eq] at this
 have := hv.st
 omega
theorem Qd6 {b : Bolt} (hv : ValidB b) : (Qav b).length ≤ 61 := by
 have h1 : (Qav b).length ≤ (ints b.stretch.low b.stretch.high).length := Xh _ _
 rw [Qfq] at h1
 have := hv.st
 omega
theorem Good.ok50 {d : Dome} (h : Good d) {w : Int} (hw : tame 100000 w) : ok50 (Qcy d) w := by
 have := h.v.loss
 have := h.v.ng
 refine ⟨hw, by unfold tame Qcy; dsimp only; omega, fun g hg => ?_, fun l hl => ?_, by unfold Qcy; dsimp only; omega⟩
 ·have := h.v.gores g hg
  simp only [Qcy, Qbq, Qt]
  omega
 ·obtain ⟨b, hb, rfl⟩ := Xd.1 hl
  have hvb := h.v.bolts b hb
  refine ⟨h.ne b hb, by have := Qd6 hvb; omega, fun s hs => ?_⟩
  have := Qjy hvb hs
  unfold tame; omega
def Qgr (d : Dome) (n : Int) : Int := d.widths[n.toNat]?.getD 0
def Qim (d : Dome) (n : Int) : Span := d.rounds[n.toNat]?.getD ⟨0, 0⟩
def Qlc (d : Dome) (row : Int) : Span × Int := if Qc1 d (Qow d row) = 0 then (Qgq (Qcy d) (Qgr d row), 0) else (⟨0, 0⟩, Qc1 d (Qow d row))
def eSE (a : Span × Int) : V := .tp [.ag (eSpan a.1), .i a.2]
theorem Qvw {d : Dome} (hv : Valid d) {n : Int} (h : Qow d n = true) : 0 ≤ n ∧ n < d.rounds.length ∧ n < d.widths.length ∧ d.widths[n.toNat]? = some (Qgr d n) ∧ d.rounds[n.toNat]? = some (Qim d n) ∧ 2 * d.loss ≤ Qgr d n ∧ Qgr d n ≤ 2000 := by
 obtain ⟨k1, k2⟩ := Qlg h
 have := hv.nw
 have e1 : d.widths[n.toNat]? = some (Qgr d n) := by rw [Qgr, Qz (by omega)]; rfl
 have e2 : d.rounds[n.toNat]? = some (Qim d n) := by rw [Qim, Qz (by omega)]; rfl
 have := hv.widths _ (Q9 e1)
 exact ⟨k1, k2, by omega, e1, e2, this⟩
theorem P23 (d : Dome) (n : Int) (hb : d.rounds.length < 1000) : Qa9 Try.prog 16 [.ag (Qaj d), .i n] (eSE (Qlc d n)) := by
 refine Qac okL hmix Try.func16 cb16 cc16 cs16 cn16 ?_
 simp only [rc16, rs16, gL46, gL45, Qii, eSE, Qlc, Qah, Qa7, Qc6, Qa8, Qaf, Qc2, Qag, Qa6, Qbe, putB, Qad, Qa5, Qa2, Fam.step, Qae, Qbp, Qau, runX, eff, Qbb, fpR, fpQ, fpV, Qcj, hits, putB, nv, sv, evO, opv, qv, binV, ldV, iadV, Qaw, Qal, putAt, Qb0, V.cells, Qas, Qaz, Qaa, Qa4, flat, Qd3, Qa3, Qap, Qa0, Qa1, ↓reduceIte, Nat.reduceEqDiff, Nat.reduceAdd, Nat.reduceLT, Nat.reduceLeDiff, Qb, Qc, Qw, Qx, Qd, Qe, Qh, Qk, Q6, Qf, Qu, Qo, Ql, Qp, Qn, Qj, Qg, Qq, Zh, Qy, Zr, Qv, Q4, Zf, endQ, rvs, rv1, resV, vw_i, vw_b, Qb3, Qb1, Qdj, zipA, Qi, Qs, Ze, Zu, Qr, Zi, Zj, Qa, decide_eq_false_iff_not, true_and, and_true, and_self, false_implies, implies_true, reduceCtorEq, Zy, Zk, Zb, Qt, Qm, Q2, Classical.not_not, Qlo, eSpan, Qaj, Qcz]
 refine ⟨by omega, fun h => ?_, fun h => ?_⟩
 ·simp [h]
 ·obtain ⟨hg, hr⟩ := Qgm h
  obtain ⟨k1, k2, k3, k4, k5, k6⟩ := Qvw hg.v hr
  have hl := hg.v.loss
  have h3 := hg.ok50 (w := Qgr d n) (by unfold tame; omega)
  unfold Qcy at *
  simp only [h, k1, k3, k4, gL50, h3, Qaz, Qaa, flat, Qd3, ↓reduceIte, Nat.reduceAdd, Nat.reduceLeDiff, Qb, Qc, Qw, Qx, Qd, Qe, Qh, Q6, Qf, Qo, Ql, Qj, Qy, vw_i, Qdw, Qi, Qs, Qr, Qa, and_self, implies_true, Za, Qlo, eSpan, eI]
  all_goals skip
def fits (t : Tent) (row w : Int) : Bool := !(decide ((Qgq t w).low < (Qim t.dome row).low) || decide ((Qim t.dome row).high < (Qgq t w).high))
theorem Ql5 {l : List Int} {x y : Int} : (l ++ [x]).headD y = if l.isEmpty then x else l.headD y := by cases l <;> simp
theorem Qh5 {l : List Int} {x y : Int} : (l ++ [x]).getLastD y = x := by simp [Xb]
theorem Qid {l : List Int} {x : Int} : (l ++ [x]).isEmpty = false := by cases l <;> rfl
def Qio (t : Tent) (row : Int) : List Int := (ints (2 * t.dome.loss) 2000).filter (fits t row)
def Qf8 (t : Tent) (row : Int) (k : Nat) : List Int := ((ints (2 * t.dome.loss) 2000).take k).filter (fits t row)
def Qxn (l : List Int) : Span := ⟨l.headD 0, l.getLastD 0⟩
def Qum (t : Tent) (row : Int) : Span × Bool := (Qxn (Qio t row), !(Qio t row).isEmpty)
def eSB (a : Span × Bool) : V := .tp [.ag (eSpan a.1), .b a.2]
def ok48 (t : Tent) (row : Int) : Prop := 0 ≤ t.dome.loss ∧ t.dome.loss ≤ 20 ∧ 0 ≤ row ∧ row < t.dome.rounds.length ∧ ∀ w, 0 ≤ w → w ≤ 2000 → ok50 t w
theorem P48 (t : Tent) (row : Int) (h : ok48 t row) : Qa9 Try.prog 21 [.pa (Qcz t), .i row] (eSB (Qum t row)) := by
 refine Qac okL hmix Try.func21 cb21 cc21 cs21 cn21 ?_
 obtain ⟨h1, h2, h3, h4, h5⟩ := h
 have e2 : t.dome.rounds[row.toNat]? = some (Qim t.dome row) := by rw [Qim, Qz (by omega)]; rfl
 have i1 : inI (2 * t.dome.loss) := by unfold inI; omega
 simp only [rc21, rs21, Qcz, h3, h4, e2, i1, eSB, Qa7, Qa8, Qab, Qa6, putB, Qad, Qa5, Qa2, Fam.step, Qae, Qbp, Qau, putB, nv, sv, evO, opv, qv, binV, ldV, iadV, putAt, V.cells, Qas, Qaz, Qa3, Qap, Qa0, Qa1, ↓reduceIte, Nat.reduceEqDiff, Nat.reduceAdd, Nat.reduceLeDiff, Qb, Qc, Qw, Qx, Qd, Qe, Qh, Qk, Q6, Qf, Qu, Qo, Ql, Qp, Qn, Qj, Qg, Qq, Qy, Qv, Q3, zipA, Qi, Qs, Qa, true_and, and_self, reduceCtorEq, Za, Qt, Qm, Q2, eSpan, Qaj, Qcz]
 refine Qbm (2001 - 2 * t.dome.loss).toNat (fun k => ⟨lkp [(0, .pa (Qcz t)), (4, .ad 0 0 0), (5, .b (!(Qf8 t row k).isEmpty)), (6, .ad 1 0 0), (7, .i (2 * t.dome.loss + k))],
  [.cells 0 [.i ((Qf8 t row k).headD 0), .i ((Qf8 t row k).getLastD 0)], .cells 0 (eSpan (Qim t.dome row))]⟩) ?_ ?_ ?_
 ·simp only [Q0, Xr, Qf8, Xe, Zf, Xz, List.getLastD_nil, cutH, kp, cutV, cutL, cutB, Qa0, Qa1, ↓reduceIte, Nat.reduceEqDiff, Nat.reduceLT, Qb, Qc, Qf, Qu, Qo, Xz, Qp, Qn, Zf, Zi, reduceCtorEq, eSpan, Qaj, Qcz]
 ·intro k hk
  have hget : (ints (2 * t.dome.loss) 2000)[k]? = some (2 * t.dome.loss + k) := Qiv (by omega)
  have hs : Qf8 t row (k + 1) = Qf8 t row k ++ (if fits t row (2 * t.dome.loss + k) then [2 * t.dome.loss + k] else []) := Qje _ hget
  have hlt : 2 * t.dome.loss + (k : Int) ≤ 2000 := by omega
  have i2 : inI (2 * t.dome.loss + (k : Int) + 1) := by unfold inI; omega
  have o3 := h5 (2 * t.dome.loss + k) (by omega) (by omega)
  simp only [hlt, Qcz, gL50, o3, hs, Q7, Q1, Z0, Qah, Qa7, Qa8, Qaf, Qc2, Qab, Qar, Qa6, Qc9, ↓Qbj, cutH, putB, Qad, Qai, Qa5, Qa2, Fam.step, Qae, Qbp, Qbu, Qau, Qb8, ug, putB, nv, sv, evO, opv, qv, Qao, binV, ldV, curG, Qaw, putAt, V.cells, Qas, Qaz, Qaa, Qa4, flat, Qd3, kp, cutV, cutL, cutB, Qa3, Qap, Qa0, Qa1, ↓reduceIte, Nat.reduceEqDiff, Nat.reduceAdd, Nat.reduceLT, Nat.reduceLeDiff, Qb, Qc, Qw, Qx, Qd, Qe, Qh, Qk, Q6, Qf, Qu, Qo, Ql, Qp, Qn, Qj, Qg, Qq, Qv, Q3, vw_i, Qdw, beq_self_eq_true, Qi, Zx, Qs, Ze, Qr, Qa, decide_true, decide_eq_true_eq, decide_eq_false_iff_not, true_and, and_true, and_self, implies_true, reduceCtorEq, beq_false, Bool.not_not, Zb, Qjm, imp_self, Z6, Qlo, Qxe, eSpan, Qaj, Qcz]
  rw [Z0] at i2
  refine ⟨fun h => ?_, fun h => ⟨fun he => ?_, fun he => ?_⟩⟩
  ·have hf : fits t row (2 * t.dome.loss + k) = false := by unfold fits; rw [h]; rfl
   simp only [hf, i2, ↓reduceIte, Qj, Qa, and_self]
  ·have hf : fits t row (2 * t.dome.loss + k) = true := by unfold fits; rw [h]; rfl
   simp only [hf, i2, he, Ql5, Qh5, Qid, ↓reduceIte, Zj, and_self]
  ·have hf : fits t row (2 * t.dome.loss + k) = true := by unfold fits; rw [h]; rfl
   simp only [hf, i2, he, Ql5, Qh5, Qid, ↓reduceIte, Zj, Qa, and_self]
 ·have hgt : ¬ (2 * t.dome.loss + ((2001 - 2 * t.dome.loss).toNat : Int) ≤ 2000) := by omega
  simp only [hgt, Qa7, Qa8, Qaf, Qar, Qag, Qa6, putB, Qad, Qai, Qa5, Qa2, Fam.step, Qae, Qbp, Qau, putB, nv, sv, evO, opv, qv, binV, ldV, putAt, V.cells, Qas, Qaz, Qa3, Qap, Qa0, Qa1, ↓reduceIte, Nat.reduceEqDiff, Nat.reduceAdd, Nat.reduceLeDiff, Qb, Qc, Qw, Qx, Qd, Qe, Qh, Qk, Q6, Qf, Qu, Qo, Qp, Qn, Qj, Qg, Qv, endQ, rvs, rv1, resV, vw_i, vw_b, Qb1, Qdj, Qi, Qs, Qa, decide_false, true_and, and_self, reduceCtorEq, eSpan, Qaj, Qcz]
  have e : Qf8 t row (2001 - 2 * t.dome.loss).toNat = Qio t row := by
   unfold Qf8 Qio
   rw [show (2001 - 2 * t.dome.loss).toNat = (ints (2 * t.dome.loss) 2000).length from by rw [Qfq]; rfl, Zq]
  rw [e]; rfl
theorem Good.ok48 {d : Dome} (h : Good d) {row : Int} (hr : Qow d row = true) : ok48 (Qcy d) row := by
 obtain ⟨k1, k2, k3, k4, k5, k6⟩ := Qvw h.v hr
 have hl := h.v.loss
 exact ⟨hl.1, hl.2, k1, k2, fun w h1 h2 => h.ok50 (by unfold tame; omega)⟩
def r48 : List V → Prop × V := fnG eTN dTN (fun a => ok48 a.1 a.2) (fun a => Qum a.1 a.2) eSB
def GM : Gam := GL.ext 21 r48
theorem okM : GOk Try.prog GM := okL.ext (f := 21) (r := r48) (fun a w => Try.call21 a w) (Qb7 fun a h => P48 a.1 a.2 h)
theorem gM48 (b : List Bolt) (g : List Int) (l : Int) (r : List Span) (w : List Int) (s : Int) (c : List (List Int)) (n : Int) :
  GM 21 [.pa [.sl 4 (b.map Qan), .sl 1 (g.map eI), .i l, .sl 2 (r.map eSpan), .sl 1 (w.map eI), .i s, .sl 1 (c.map eCan)], .i n] = (ok48 ⟨⟨b, g, l, r, w, s⟩, c⟩ n, eSB (Qum ⟨⟨b, g, l, r, w, s⟩, c⟩ n)) :=
 (show GM 21 _ = r48 (eTN (⟨⟨b, g, l, r, w, s⟩, c⟩, n)) from rfl).trans (Qb9 _ (Qxq _))
theorem gM45 (b : List Bolt) (g : List Int) (l : Int) (r : List Span) (w : List Int) (s : Int) (x : Bool) :
  GM 20 [.ag [.sl 4 (b.map Qan), .sl 1 (g.map eI), .i l, .sl 2 (r.map eSpan), .sl 1 (w.map eI), .i s], .b x] = (True, Qii ⟨b, g, l, r, w, s⟩ x) := gL45 b g l r w s x
theorem gM56 (b : List Bolt) (g : List Int) (l : Int) (r : List Span) (w : List Int) (s : Int) (n : Int) :
  GM 59 [.ag [.sl 4 (b.map Qan), .sl 1 (g.map eI), .i l, .sl 2 (r.map eSpan), .sl 1 (w.map eI), .i s], .i n] = (b.length < 1000, .b (Qfr ⟨b, g, l, r, w, s⟩ n)) := gL56 b g l r w s n
def Qel (d : Dome) (n : Int) : List Int × Int := if Qc1 d (Qfr d n) = 0 then (Qav (Qf5 d n), 0) else ([], Qc1 d (Qfr d n))
def eLE (a : List Int × Int) : V := .tp [.sl 1 (a.1.map eI), .i a.2]
theorem P36 (d : Dome) (n : Int) (hb : d.bolts.length < 1000) : Qa9 Try.prog 47 [.ag (Qaj d), .i n] (eLE (Qel d n)) := by
 refine Qac okM hmix Try.func47 cb47 cc47 cs47 cn47 ?_
 simp only [rc47, rs47, gM56, gM45, Qii, eLE, Qel, Qah, Qa7, Qc6, Qa8, Qaf, Qc2, Qag, Qa6, Qbe, Qad, Qa5, Qa2, Fam.step, Qae, runX, eff, Qbb, fpR, fpQ, fpV, Qcj, hits, evO, opv, qv, binV, ldV, iadV, curG, Qaw, V.cells, Qas, Qaa, Qa4, flat, Qd3, Qa3, Qa0, Qa1, ↓reduceIte, Nat.reduceEqDiff, Nat.reduceAdd, Nat.reduceLT, Nat.reduceLeDiff, Qb, Qc, Qx, Qd, Qe, Qf, Qo, Qp, Qn, Qj, Qg, Qq, Zh, Qy, Zr, Q4, Zf, endQ, rvs, rv1, resV, vw_i, vw_b, vw_z, Qb3, Qb1, Qdj, zipA, Qi, Qs, Ze, Zu, Qr, Zi, Zj, Qa, decide_eq_false_iff_not, true_and, and_true, and_self, false_implies, implies_true, reduceCtorEq, Zy, Zk, Zb, Qm, Classical.not_not, Qlo, Qaj, Qcz]
 refine ⟨by omega, fun h => ?_, fun h => ?_⟩
 ·simp [h]
 ·obtain ⟨hg, hr⟩ := Qgm h
  obtain ⟨k1, k2⟩ := Qlg hr
  obtain ⟨b, hbo⟩ : ∃ b, d.bolts[n.toNat]? = some b := ⟨_, Qz (by omega)⟩
  have e1 : (Qbq d)[n.toNat]? = some (Qav b) := by simp [Qbq, hbo]
  have e2 : (Qbq d).length = d.bolts.length := by simp [Qbq]
  have e3 : Qf5 d n = b := by simp [Qf5, hbo]
  simp only [h, e1, e2, e3, k1, k2, ↓reduceIte, Nat.reduceLeDiff, Qd, Qe, Qh, Qk, Ql, Qy, Qb3, Qi, and_self, Za, Qt, Q2, eCan]
end Go.C02
set_option linter.unusedSimpArgs false
set_option linter.unusedVariables false
namespace Go.C02
open Go.Fam Go.Proofs
theorem Qoq {α : Type} {e : α → List V} {k : Nat} (h : ∀ x, (e x).length = k) : ∀ {l : List α} {i : Nat} {x : α}, l[i]? = some x → (((l.map e).flatten).drop (i * k)).take k = e x
 | [], i, x, hx => by simp at hx
 | y :: l, 0, x, hx => by
  simp at hx; subst hx
  rw [Qb, Q5, Nat.zero_mul, Qk, Z8 (by rw [h]; exact Zo _), Zn (by rw [h]; exact Zo _)]
 | y :: l, i + 1, x, hx => by
  simp at hx
  have e1 : (e y).drop ((i + 1) * k) = [] := by rw [Xj, h, Xp]; omega
  rw [Qb, Q5, Xt, e1, Qn, h, show (i + 1) * k - k = i * k from by rw [Xp]; omega]
  exact Qoq h hx
theorem Qfe (l : List Span) : Qa4 ((l.map eSpan).flatten) = false := Qdz (e := eSpan) (fun _ => rfl) l
theorem Qp1 (l : List Span) : ((l.map eSpan).flatten).length = l.length * 2 := Qfo (e := eSpan) (k := 2) (fun _ => rfl) l
theorem Qnn {t : Tent} {r w : Int} : w ∈ Qio t r ↔ (2 * t.dome.loss ≤ w ∧ w ≤ 2000) ∧ fits t r w = true := by
 simp only [Qio, Xx, Qhf]
def Qi0 (d : Dome) (r : Int) : Int := (Qio (Qcy d) r).headD 0
def Qic (d : Dome) (r : Int) : Int := (Qio (Qcy d) r).getLastD 0
theorem Qst {l : List Int} (h : l ≠ []) : l.headD 0 ∈ l := by cases l <;> simp at *
theorem Qna {l : List Int} (h : l ≠ []) : l.getLastD 0 ∈ l := by
 rw [Xb, List.getLast?_eq_some_getLast h]
 exact List.getLast_mem h
theorem Qet (d : Dome) (r : Int) (h : 0 ≤ d.loss) : 0 ≤ Qi0 d r ∧ Qi0 d r ≤ 2000 := by
 unfold Qi0
 by_cases he : Qio (Qcy d) r = []
 ·rw [he]; simp
 ·have := (Qnn.1 (Qst he)).1
  have e : (Qcy d).dome.loss = d.loss := rfl
  rw [e] at this
  omega
theorem Qnc (d : Dome) (r : Int) (h : 0 ≤ d.loss) : 0 ≤ Qic d r ∧ Qic d r ≤ 2000 := by
 unfold Qic
 by_cases he : Qio (Qcy d) r = []
 ·rw [he]; simp
 ·have := (Qnn.1 (Qna he)).1
  have e : (Qcy d).dome.loss = d.loss := rfl
  rw [e] at this
  omega
def Qkc (d : Dome) (r : Nat) : Span := ⟨Qi0 d r, Qic d r⟩
def Qee (d : Dome) (k : Nat) : List Span := (Zl k).map (Qkc d)
theorem Qku {d : Dome} {n k : Nat} (h : k < n) : (Qee d n)[k]? = some (Qkc d k) := by simp [Qee, h]
theorem Qoh (d : Dome) (k : Nat) : Qee d (k + 1) = Qee d k ++ [Qkc d k] := by simp [Qee, Zm]
theorem Qkv (d : Dome) (k : Nat) : (Qee d k).length = k := by simp [Qee]
def Qdl (d : Dome) (row : Nat) (k : Nat) : Int := (Zl k).foldl (fun (m : Int) (j : Nat) => max m (Qi0 d j - d.slope * max ((row : Int) - j) ((j : Int) - row))) (Qi0 d row)
theorem Qgk (d : Dome) (row k : Nat) : Qdl d row (k + 1) = max (Qdl d row k) (Qi0 d k - d.slope * max ((row : Int) - k) ((k : Int) - row)) := by
 simp [Qdl, Zm]
theorem Qo5 {s a : Int} (h : 0 ≤ s ∧ s ≤ 500) (ha : 0 ≤ a ∧ a ≤ 1000) : 0 ≤ s * a ∧ s * a ≤ 500000 := by
 refine ⟨Int.mul_nonneg h.1 ha.1, ?_⟩
 have := Int.mul_le_mul h.2 ha.2 ha.1 (by decide)
 omega
theorem Qe3 {d : Dome} (hv : Valid d) {row : Nat} (hr : row ≤ 12) : ∀ k : Nat, k ≤ 12 → 0 ≤ Qdl d row k ∧ Qdl d row k ≤ 2000
 | 0, _ => by simpa [Qdl] using Qet d row hv.loss.1
 | k + 1, hk => by
  have h1 := Qe3 hv hr k (by omega)
  have h2 := Qet d k hv.loss.1
  have h3 := Qo5 (a := max ((row : Int) - k) ((k : Int) - row)) hv.slope (by omega)
  rw [Qgk]
  omega
def Qff (d : Dome) (n k : Nat) : List Int := (Zl k).map fun r => Qdl d r n
theorem Qp9 (d : Dome) (n k : Nat) : Qff d n (k + 1) = Qff d n k ++ [Qdl d k n] := by simp [Qff, Zm]
theorem Qfv (d : Dome) (n k : Nat) : (Qff d n k).length = k := by simp [Qff]
def Qot (d : Dome) (k : Nat) : Bool := (Zl k).all fun r => !(Qio (Qcy d) r).isEmpty
def Qjg (d : Dome) (n k : Nat) : Bool := (Zl k).all fun r => decide (Qdl d r n ≤ Qic d r)
def Qcn (d : Dome) : List Int × Int :=
 if Qc1 d true = 0 then
  (if Qot d d.rounds.length && Qjg d d.rounds.length d.rounds.length then (Qff d d.rounds.length d.rounds.length, 0) else ([], 3))
 else ([], Qc1 d true)
theorem Qf4 {p : Nat → Bool} {n i : Nat} (hi : i < n) (h : p i = false) : (Zl n).all p = false := by
 rw [List.all_eq_false]
 exact ⟨i, Xi.2 hi, by simp [h]⟩
theorem Qg5 {p : Nat → Bool} {n : Nat} (h : (Zl n).all p = true) (h2 : p n = true) : (Zl (n + 1)).all p = true := by
 rw [Zm, List.all_append, h]; simp [h2]
theorem P33 (d : Dome) : Qa9 Try.prog 7 [.ag (Qaj d)] (eLE (Qcn d)) := by
 refine Qac okM hmix Try.func7 cb7 cc7 cs7 cn7 ?_
 simp only [rc7, rs7, gM45, Qii, eLE, Qcn, Qah, Qa7, Qa8, Qaf, Qc2, Qab, Qag, Qa6, Qld, Qad, Qa5, Qa2, Fam.step, Qae, evO, opv, qv, binV, ldV, lenV, Qaw, V.cells, Qas, Qaa, Qa4, flat, Qd3, Qa3, Qa0, Qa1, ↓reduceIte, Nat.reduceEqDiff, Nat.reduceAdd, Nat.reduceLT, Nat.reduceLeDiff, Qb, Qc, Qd, Qe, Qh, Qk, Qf, Qo, Ql, Qp, Qn, Qj, Qg, Qq, Zh, Qy, endQ, rvs, rv1, resV, vw_i, vw_b, vw_z, Qb3, Qb1, Qdj, zipA, Qi, Qs, Ze, Qr, Qa, decide_eq_false_iff_not, true_and, and_self, false_implies, Zb, Qt, Classical.not_not, Qlo, Qaj, Qcz]
 refine ⟨fun h => by simp [h], fun h => ?_⟩
 obtain ⟨hg, _⟩ := Qgm h
 have hnr := hg.v.nr
 simp only [h, ↓reduceIte]
 refine Qb5 d.rounds.length (fun i => ⟨lkp [(1, .pa (Qaj d)), (4, .pa (Qcz (Qcy d))), (6, .rf 0 i 0 i 2), (26, .i d.rounds.length), (27, .i i)], [.cells i ((Qee d i).map eSpan).flatten]⟩) (fun i => Qot d i = true) ?_ ?_ ?_ ?_
 ·simp only [Q0, Qcy, Qcz, Qee, Xy, Q8, cutH, kp, cutV, cutL, cutB, Qa0, Qa1, ↓reduceIte, Nat.reduceEqDiff, Nat.reduceLT, Qb, Qc, Qf, Qo, Qp, Qn, Qaj, Qcz]
 ·rfl
 ·intro i hi hC
  have hrow : Qow d i = true := by simp only [Qow, Qak, Zs, decide_eq_true_eq]; omega
  have h48 := hg.ok48 hrow
  have hlt : (i : Int) < d.rounds.length := by omega
  have h3 : inI ((i : Int) + 1) := by unfold inI; omega
  unfold Qcy at h48
  simp only [hlt, h3, Qcz, Qcy, gM48, h48, eSB, Qum, Q7, Q1, Qoh, Qah, Qa7, Qa8, Qaf, Qc2, Qab, Qag, Qa6, Qc9, Qda, ↓Qbj, cutH, putB, Qad, Qai, Qa5, Qa2, Fam.step, Qae, Qbp, Qau, putB, nv, sv, Qd0, evO, opv, qv, binV, ldV, Qaw, Qal, putAt, Qb0, Qba, V.cells, Qas, Qaz, Qaa, Qa4, flat, Qd3, kp, cutV, cutL, cutB, Qa3, Qap, Qa0, Qa1, ↓reduceIte, Nat.reduceEqDiff, Nat.reduceAdd, Nat.reduceMul, Nat.reduceLT, Nat.reduceLeDiff, Qb, Qc, Qw, Qx, Qd, Qe, Qh, Qk, Q6, Qf, Qu, Qo, Qp, Qn, Qj, Qg, Qq, Qy, Qv, Q3, Q4, Zg, endQ, rvs, rv1, resV, vw_i, vw_z, Qdw, Qb1, Qdj, Qhq, Qi, Qs, Qr, Qa, decide_true, true_and, and_self, implies_true, reduceCtorEq, not_false_eq_true, ne_eq, Bool.not_not, Z6, Qlo, eSpan, Qaj, Qcz]
  refine ⟨fun he => ?_, fun he => ?_⟩
  ·have e : Qot d d.rounds.length = false := Qf4 hi (by simp only [Qcy, he]; rfl)
   simp only [e, ↓reduceIte, Qc, Zu, Qa]
  ·have hsp : Qxn (Qio ⟨d, Qbq d⟩ i) = Qkc d i := rfl
   refine ⟨⟨by rw [Qp1, Qkv], by unfold Qc0; omega⟩, Qg5 hC (by simp only [Qcy, he]; rfl), ?_⟩
   simp only [hsp, Qct, Qaq _ _ _ (Qfe (Qee d i)), Q5, Q8, Qh2, cutV, cutL, Qj, eSpan]
 ·intro hC
  simp only [Qa7, Qa8, Qaf, Qab, Qar, Qa6, Qld, Qad, Qai, Qa5, Qa2, Fam.step, Qae, evO, opv, qv, binV, lenV, Qa3, Qa0, Qa1, ↓reduceIte, Nat.reduceEqDiff, Qb, Qc, Qd, Qe, Qp, Qn, Qg, Zp, Qi, Qa, decide_false, true_and, Qaj, Qcz]
  refine Qb5 d.rounds.length (fun i => ⟨lkp [(1, .pa (Qaj d)), (6, .rf 0 d.rounds.length 0 d.rounds.length 2), (10, .rf 1 i 0 i 1), (43, .rf 0 d.rounds.length 0 d.rounds.length 2), (44, .i d.rounds.length), (45, .i i)],
   [.cells d.rounds.length ((Qee d d.rounds.length).map eSpan).flatten, .cells i ((Qff d d.rounds.length i).map eI).flatten]⟩) (fun i => Qjg d d.rounds.length i = true) ?_ ?_ ?_ ?_
  ·simp only [Q0, Qff, Xy, Q8, Qaq _ _ _ (Qfe _), cutH, kp, cutV, cutL, cutB, Qa0, Qa1, ↓reduceIte, Nat.reduceEqDiff, Nat.reduceLT, Qb, Qc, Qf, Qo, Qaj]
  ·rfl
  ·intro i hi hC2
   have hlt : (i : Int) < d.rounds.length := by omega
   have h3 : inI ((i : Int) + 1) := by unfold inI; omega
   have hat := Qoq (e := eSpan) (k := 2) (fun _ => rfl) (Qku (d := d) hi)
   have hli := Qp1 (Qee d d.rounds.length)
   rw [Qkv] at hli
   have h5 : i * 2 + 2 ≤ d.rounds.length * 2 := by omega
   simp only [hlt, hat, hli, h5, Qah, Qa7, Qa8, Qaf, Qab, Qa6, cutH, putB, Qad, Qa5, Qa2, Fam.step, Qae, Qbp, Qau, putB, nv, sv, evO, opv, qv, binV, ldV, iadV, lenV, curG, putAt, V.cells, Qas, Qaz, kp, Qa3, Qap, Qa0, Qa1, ↓reduceIte, Nat.reduceEqDiff, Nat.reduceAdd, Nat.reduceLeDiff, Qb, Qc, Qw, Qx, Qd, Qe, Qh, Qk, Q6, Qu, Ql, Qp, Qn, Qj, Qg, Qq, Qv, Q3, Zd, beq_self_eq_true, Qi, Zx, Qs, Qa, decide_true, true_and, and_self, Zc, eSpan, Qaj]
   refine Qbm d.rounds.length (fun k => ⟨lkp [(1, .pa (Qaj d)), (6, .rf 0 d.rounds.length 0 d.rounds.length 2), (10, .rf 1 i 0 i 1), (11, .i i), (12, .ad 2 0 0), (13, .i (Qdl d i k)), (43, .rf 0 d.rounds.length 0 d.rounds.length 2), (44, .i d.rounds.length), (45, .i i), (52, .rf 0 d.rounds.length 0 d.rounds.length 2), (53, .i d.rounds.length), (54, .i k)],
    [.cells d.rounds.length ((Qee d d.rounds.length).map eSpan).flatten, .cells i ((Qff d d.rounds.length i).map eI).flatten, .cells 0 (eSpan (Qkc d i))]⟩) ?_ ?_ ?_
   ·simp only [Q0, Qaq _ _ _ (Qfe _), Qaq _ _ _ (Qev _), cutH, kp, cutV, cutL, cutB, Qa0, Qa1, ↓reduceIte, Nat.reduceEqDiff, Nat.reduceLT, Qb, Qc, Qf, Qo, eSpan, Qaj]
    rfl
   ·intro k hk
    have hat2 := Qoq (e := eSpan) (k := 2) (fun _ => rfl) (Qku (d := d) hk)
    have hlt2 : (k : Int) < d.rounds.length := by omega
    have h4 : inI ((k : Int) + 1) := by unfold inI; omega
    have l1 := Qet d k hg.v.loss.1
    have l2 := Qe3 hg.v (row := i) (by omega) k (by omega)
    have l3 := Qo5 (a := max ((i : Int) - k) ((k : Int) - i)) hg.v.slope (by omega)
    have i5 : inI ((i : Int) - k) := by unfold inI; omega
    have i6 : inI ((k : Int) - i) := by unfold inI; omega
    have i7 : inI (d.slope * max ((i : Int) - k) ((k : Int) - i)) := by unfold inI; omega
    have i8 : inI (Qi0 d k - d.slope * max ((i : Int) - k) ((k : Int) - i)) := by unfold inI; omega
    have h6 : k * 2 + 2 ≤ d.rounds.length * 2 := by omega
    simp only [hlt2, h4, h6, hat2, hli, Q7, Q1, Qgk, Qkc, i5, i6, i7, i8, Qaq _ _ _ (Qfe _), Qaq _ _ _ (Qev _), Qah, Qa7, Qa8, Qaf, Qab, Qa6, Qc9, ↓Qbj, cutH, putB, Qad, Qai, Qa5, Qa2, Fam.step, Qae, Qbp, Qau, putB, nv, sv, evO, opv, qv, binV, ldV, iadV, curG, putAt, V.cells, Qas, Qaz, kp, cutV, cutL, cutB, Qa3, Qap, Qa0, Qa1, ↓reduceIte, Nat.reduceEqDiff, Nat.reduceAdd, Nat.reduceLT, Nat.reduceLeDiff, Qb, Qc, Qw, Qx, Qd, Qe, Qh, Qk, Q6, Qf, Qu, Qo, Ql, Qp, Qn, Qj, Qg, Qq, Qv, Q3, Qhq, Zd, beq_self_eq_true, Qi, Zx, Qs, Qa, decide_true, and_self, Zc, eSpan, Qaj]
   ·have hsp : Qkc d i = ⟨Qi0 d i, Qic d i⟩ := rfl
    have hn := Qe3 hg.v (row := i) (by omega) d.rounds.length (by omega)
    simp only [hsp, Qaq _ _ _ (Qfe _), Qah, Qa7, Qa8, Qaf, Qc2, Qar, Qag, Qa6, Qc9, Qda, ↓Qbj, cutH, putB, Qad, Qai, Qa5, Qa2, Fam.step, Qae, Qbp, Qau, putB, nv, sv, Qd0, evO, opv, qv, binV, ldV, curG, Qal, putAt, Qb0, Qba, V.cells, Qas, Qaz, Qaa, Qa4, cutV, cutB, Qa3, Qa0, Qa1, ↓reduceIte, Nat.reduceEqDiff, Nat.reduceAdd, Nat.reduceMul, Nat.reduceLT, Nat.reduceLeDiff, Qb, Qc, Qw, Qx, Qd, Qe, Qh, Qk, Qf, Qu, Qo, Ql, Qp, Qn, Qg, Qq, Qv, Q3, Q4, Zg, endQ, rvs, rv1, resV, vw_i, vw_z, Qdj, Zp, beq_self_eq_true, Qi, Qs, Qr, Qa, decide_false, decide_eq_true_eq, true_and, and_self, reduceCtorEq, not_false_eq_true, ne_eq, eSpan, Qaj]
    refine ⟨fun hgt => ?_, fun hle => ?_⟩
    ·have e : Qjg d d.rounds.length d.rounds.length = false := Qf4 hi (by simp; omega)
     simp only [e, ↓reduceIte, Qc, Bool.and_false, Qa]
    ·have e : decide (Qdl d i d.rounds.length ≤ Qic d i) = true := by simp; omega
     refine ⟨⟨by rw [Qnk, Qfv], by unfold Qc0; omega⟩, h3, Qg5 hC2 e, ?_⟩
     simp only [Qp9, Qct, Qaq _ _ _ (Qev _), Q5, Q8, Qh2, Q7, Q1, cutV, cutL, Qj, eI]
  ·intro hC2
   have hch := Qlh (Qff d d.rounds.length d.rounds.length)
   rw [Qfv] at hch
   simp only [hC, hC2, hch, Qfv, Qnk, vw_I, Xc, Zo, Qa7, Qa8, Qaf, Qar, Qag, Qa6, Qad, Qai, Qa5, Qa2, Fam.step, Qae, evO, opv, qv, binV, ldV, Qa3, Qa0, Qa1, ↓reduceIte, Nat.reduceEqDiff, Qb, Qc, Qg, Qq, endQ, rvs, rv1, resV, vw_i, Qdj, Qi9, Zp, Qi, Qs, Qa, decide_false, and_self, Qaj]
def r33 : List V → Prop × V := fnG (fun d => [.ag (Qaj d)]) dD (fun _ => True) Qcn eLE
def GN : Gam := GM.ext 7 r33
theorem okN : GOk Try.prog GN := okM.ext (f := 7) (r := r33) (fun a w => Try.call7 a w) (Qb7 fun a _ => P33 a)
end Go.C02
set_option linter.unusedSimpArgs false
set_option linter.unusedVariables false
namespace Go.C02
open Go.Fam Go.Proofs
def part (t : Tent) (w b s : Int) : Int := (t.dome.gores.count b : Int) * pull (w - 2 * t.dome.loss) s
end Go.C02
set_option linter.unusedSimpArgs false
set_option linter.unusedVariables false
namespace Go.C02
open Go.Fam Go.Proofs
def GO : Gam := GN
theorem okO : GOk Try.prog GO := okN
open Classical in
noncomputable def GP : Gam := GO
theorem okP : GOk Try.prog GP := okO
end Go.C02
set_option linter.unusedSimpArgs false
set_option linter.unusedVariables false
namespace Go.C02
open Go.Fam Go.Proofs
noncomputable def GQ : Gam := GP
theorem okQ : GOk Try.prog GQ := okP
end Go.C02
set_option linter.unusedSimpArgs false
set_option linter.unusedVariables false
namespace Go.C02
open Go.Fam Go.Proofs
theorem Qxv {P : Program} {A : Type} {e : A → List V} {d : List V → A} {ok : A → Prop} {v : A → V} {hp : A → List Blk} {f : Nat} (hvB : ∀ a, ((hp a).map bV).map vB = hp a) (h : ∀ a, ok a → Qe6 P f (e a) (v a) (hp a))
  (vs : List V) (r : V) (bs : List V) (h1 : (fnG e d ok (fun a => a) (fun a => .tp [v a, .tp ((hp a).map bV)]) vs).1) (h2 : (fnG e d ok (fun a => a) (fun a => .tp [v a, .tp ((hp a).map bV)]) vs).2 = .tp [r, .tp bs]) : Qe6 P f vs r (bs.map vB) := by
 simp only [fnG, V.tp.injEq, List.cons.injEq, and_true] at h1 h2
 obtain ⟨rfl, rfl⟩ := h2
 have := h (d vs) h1.2
 rw [h1.1] at this
 rwa [hvB]
def exD : Dome := ⟨[⟨⟨0, 20⟩, [⟨1000, ⟨1005, 1010⟩⟩], 0⟩, ⟨⟨0, 10⟩, [], 0⟩], [0, 0, 1, 1], 5, [⟨400, 404⟩, ⟨600, 650⟩, ⟨803, 806⟩], [110, 165, 210], 50⟩
def exCs : List V := [.sl 4 (exD.bolts.map Qan), .sl 1 (exD.gores.map eI), .i 5, .rf 1 0 0 3 2, .sl 1 (exD.widths.map eI), .i 50]
def exHp : List Blk := [.cells 0 exCs, .cells 0 [.i 400, .i 404, .i 600, .i 650, .i 803, .i 806]]
theorem O44 : Qe6 Try.prog 17 [] (.ag exCs) exHp := by
 refine Qv9 okQ hmix Try.func17 cb17 cc17 cs17 cn17 ?_
 simp only [rc17, rs17, exCs, exHp, exD, Q5, Q8, Qa7, Qa8, Qag, Qa6, Qda, putB, endO, Qad, Qa5, Qa2, Fam.step, Qae, Qbp, Qau, putB, nv, sv, evO, opv, qv, ldV, Qal, putAt, Qb0, Qba, V.cells, Qas, Qaz, Qaa, Qa4, Qa3, Qap, Qa0, Qa1, ↓reduceIte, Nat.reduceEqDiff, Nat.reduceAdd, Nat.reduceMul, Nat.reduceLeDiff, Qb, Qc, Qw, Qx, Qd, Qe, Qh, Qk, Q6, Qf, Qu, Qo, Qp, Qn, Qj, Qg, Qv, Q4, Zg, rvs, rv1, resV, vw_i, vw_z, Qb3, Qb1, zipA, Qi, Qs, Qr, true_and, and_self, reduceCtorEq, not_false_eq_true, ne_eq, Qbd, Qan, eI]
 exact ⟨rfl, rfl⟩
def r23 : List V → Prop × V := fnG eDN dDN (fun a => a.1.rounds.length < 1000) (fun a => Qlc a.1 a.2) eSE
def r36 : List V → Prop × V := fnG eDN dDN (fun a => a.1.bolts.length < 1000) (fun a => Qel a.1 a.2) eLE
def r44o : List V → Prop × V := fnG (fun _ : Unit => []) (fun _ => ()) (fun _ => True) (fun a => a) (fun _ => .tp [.ag exCs, .tp (exHp.map bV)])
theorem Qyo : (exHp.map bV).map vB = exHp := by simp [exHp, exCs, bV, vB]
noncomputable def GR : Gam := ((GQ.ext 16 r23).ext 47 r36).ext 1000017 r44o
theorem okR : GOk Try.prog GR := by
 have k1 := okQ.ext (f := 16) (r := r23) (fun a w => Try.call16 a w) (Qb7 fun a h => P23 a.1 a.2 h)
 have k6 := k1.ext (f := 47) (r := r36) (fun a w => Try.call47 a w) (Qb7 fun a h => P36 a.1 a.2 h)
 have k10 := k6.extO (f := 17) (r := r44o) (fun a w => Try.call17 a w) (Qxv (hp := fun _ => exHp) (fun _ => Qyo) fun _ _ => O44)
 exact k10
end Go.C02
set_option linter.unusedSimpArgs false
set_option linter.unusedVariables false
namespace Go.C02
open Go.Fam Go.Proofs
def bigs (d : Dome) : Bool := decide ((20 : Int) < d.bolts.length) || decide ((60 : Int) < d.gores.length) || decide ((60 : Int) < d.rounds.length) || decide ((60 : Int) < d.widths.length)
def Qe0 (d : Dome) (k : Nat) : Int := (d.bolts.take k).foldl (fun m b => m * (Qav b).length) 1
theorem Qgi {d : Dome} {k : Nat} {b : Bolt} (h : d.bolts[k]? = some b) : Qe0 d (k + 1) = Qe0 d k * (Qav b).length := by
 simp [Qe0, Qb4 h]
def far (d : Dome) : Bool :=
 if bigs d then true else if d.bolts.any (fun b => decide ((60 : Int) < b.strips.length)) then true else if Qc3 d ≠ 0 then false
 else decide ((49 : Int) < Qe0 d d.bolts.length) || decide ((8 : Int) < d.gores.length) || decide ((4 : Int) < d.rounds.length)
theorem Qif {d : Dome} (hv : Valid d) : ∀ k : Nat, k ≤ 4 → 0 ≤ Qe0 d k ∧ Qe0 d k ≤ 61 ^ k
 | 0, _ => by simp [Qe0]
 | k + 1, hk => by
  have h1 := Qif hv k (by omega)
  cases hb : d.bolts[k]? with
  | none =>
   have : Qe0 d (k + 1) = Qe0 d k := by
    have hl := Xa.1 hb
    simp [Qe0, Zn hl, Zn (Nat.le_trans hl (Nat.le_succ k))]
   rw [this]
   refine ⟨h1.1, Int.le_trans h1.2 ?_⟩
   exact_mod_cast Xk (by decide : 0 < 61) (Nat.le_succ k)
  | some b =>
   rw [Qgi hb]
   have h2 := Qd6 (hv.bolts b (Q9 hb))
   refine ⟨Int.mul_nonneg h1.1 (by omega), ?_⟩
   rw [Int.pow_succ]
   exact Int.mul_le_mul h1.2 (by omega) (by omega) (by exact_mod_cast Nat.zero_le (61 ^ k))
theorem gR39 (b : List Bolt) (g : List Int) (l : Int) (r : List Span) (w : List Int) (s : Int) : GR 5 [.ag [.sl 4 (b.map Qan), .sl 1 (g.map eI), .i l, .sl 2 (r.map eSpan), .sl 1 (w.map eI), .i s]] = (True, .i (Qc3 ⟨b, g, l, r, w, s⟩)) := gJ39 ⟨b, g, l, r, w, s⟩
theorem gR49 (a b : Int) (l : List Strip) (w s : Int) : GR 12 [.ag [.i a, .i b, .sl 3 (l.map Qbd), .i w], .i s] = (ok66 l s, .b (can ⟨⟨a, b⟩, l, w⟩ s)) := gJ49 a b l w s
theorem P21 (d : Dome) : Qa9 Try.prog 4 [.ag (Qaj d)] (.b (far d)) := by
 refine Qac okR hmix Try.func4 cb4 cc4 cs4 cn4 ?_
 simp only [rc4, rs4, Qah, Qa7, Qa8, Qaf, Qc2, Qab, Qag, Qa6, Qad, Qa5, Qa2, Fam.step, Qae, Qbu, Qb8, ug, evO, opv, qv, Qao, binV, ldV, lenV, V.cells, Qas, Qaa, Qa4, Qa3, Qa0, Qa1, ↓reduceIte, Nat.reduceEqDiff, Nat.reduceAdd, Nat.reduceLeDiff, Qb, Qc, Qw, Qx, Qd, Qe, Qh, Qk, Ql, endQ, rvs, rv1, resV, vw_i, vw_b, Qb3, Qb1, zipA, Qi, V.b.injEq, Qs, Ze, Qr, Qa, decide_eq_true_eq, decide_eq_false_iff_not, true_and, and_true, and_self, implies_true, beq_false, Zb, Qjm, Zv, imp_self, Qt, Z6, Qaj]
 refine ⟨fun h => ?_, fun h => ?_⟩
 ·have : bigs d = true := h
  simp [far, this]
 have hbig : bigs d = false := h
 have hlen : d.bolts.length ≤ 20 := by
  simp only [bigs, Z7, decide_eq_false_iff_not] at hbig
  omega
 refine Qb5 d.bolts.length (fun i => ⟨lkp [(1, .pa (Qaj d)), (3, .i i)], []⟩) (fun i => (d.bolts.take i).any (fun b => decide ((60 : Int) < b.strips.length)) = false) ?_ ?_ ?_ ?_
 ·simp only [Q0, kp, Qa0, Qa1, ↓reduceIte, Nat.reduceEqDiff, Qb, Qc, Qaj]
 ·rfl
 ·intro i hi hC
  obtain ⟨b, hb⟩ : ∃ b, d.bolts[i]? = some b := ⟨_, Qz hi⟩
  have hlt : (i : Int) < d.bolts.length := by omega
  have h3 : inI ((i : Int) + 1) := by unfold inI; omega
  simp only [hb, hlt, h3, Q7, Q1, Qah, Qa7, Qa8, Qaf, Qc2, Qab, Qag, Qa6, Qad, Qai, Qa5, Qa2, Fam.step, Qae, evO, opv, qv, binV, ldV, iadV, lenV, kp, Qa3, Qa0, Qa1, ↓reduceIte, Nat.reduceEqDiff, Nat.reduceAdd, Nat.reduceLeDiff, Qb, Qc, Qd, Qe, Qh, Qk, Ql, Qy, endQ, rvs, rv1, resV, vw_b, Zd, Qi, V.b.injEq, Qa, decide_true, decide_eq_true_eq, true_and, and_true, and_self, Za, Qt, Zc, Qm, Q2, Qan, Qaj]
  refine ⟨fun h60 => ?_, fun h60 => ?_⟩
  ·have : d.bolts.any (fun b => decide ((60 : Int) < b.strips.length)) = true := Z5.2 ⟨b, Q9 hb, by simpa using h60⟩
   simp [far, hbig, this]
  ·rw [Qb4 hb, Xw, hC]
   simp; omega
 ·intro hC
  rw [Zq] at hC
  simp only [gR39, Qah, Qa7, Qa8, Qaf, Qc2, Qab, Qar, Qag, Qa6, Qad, Qai, Qa5, Qa2, Fam.step, Qae, evO, opv, qv, binV, ldV, lenV, Qaw, Qaa, Qa4, flat, Qa3, Qa0, Qa1, ↓reduceIte, Nat.reduceEqDiff, Nat.reduceAdd, Nat.reduceLT, Nat.reduceLeDiff, Qb, Qc, Qd, Qe, Qk, Qf, Qo, Ql, Qj, endQ, rvs, rv1, resV, vw_i, vw_b, Qb3, Qb1, Zp, Qi, V.b.injEq, Qr, Qa, decide_false, decide_eq_false_iff_not, true_and, and_self, implies_true, Zb, Qt, Classical.not_not, Qlo, Qaj]
  refine ⟨fun hc => ?_, fun hc => ?_⟩
  ·simp [far, hbig, hC, hc]
  have hv := Qe4 hc
  have hnb := hv.nb
  refine Qbm d.bolts.length (fun i => ⟨lkp [(1, .pa (Qaj d)), (4, .i (Qe0 d i)), (5, .i i)], []⟩) ?_ ?_ ?_
  ·simp only [Q0, Qe0, X0, X0, kp, Qa0, Qa1, ↓reduceIte, Nat.reduceEqDiff, Qb, Qc, Qu, Qaj]
  ·intro i hi
   obtain ⟨b, hb⟩ : ∃ b, d.bolts[i]? = some b := ⟨_, Qz hi⟩
   have hlt : (i : Int) < d.bolts.length := by omega
   have h3 : inI ((i : Int) + 1) := by unfold inI; omega
   have hvb := hv.bolts b (Q9 hb)
   have hst := hvb.st
   simp only [hb, hlt, Q7, Q1, Qah, Qa7, Qa8, Qaf, Qab, Qa6, Qad, Qa5, Qa2, Fam.step, Qae, evO, opv, qv, binV, ldV, iadV, lenV, kp, Qa3, Qa0, Qa1, ↓reduceIte, Nat.reduceEqDiff, Nat.reduceAdd, Nat.reduceLeDiff, Qb, Qc, Qd, Qe, Qk, Ql, Qy, Zd, Qi, Qa, decide_true, true_and, and_self, Za, Qt, Zc, Qm, Q2, Qan, Qaj]
   refine Qbm (b.stretch.high + 1 - b.stretch.low).toNat (fun k => ⟨lkp [(1, .pa (Qaj d)), (4, .i (Qe0 d i)), (5, .i i), (6, .i (Qbv b k).length), (7, .i (b.stretch.low + k))], []⟩) ?_ ?_ ?_
   ·simp only [Q0, Xr, Qbv, Xe, kp, Qa0, Qa1, ↓reduceIte, Nat.reduceEqDiff, Qb, Qc, Qe, Qu, Qaj]
   ·intro k hk
    have hlt2 : b.stretch.low + (k : Int) ≤ b.stretch.high := by omega
    have h4 : inI (b.stretch.low + (k : Int) + 1) := by unfold inI; omega
    have h5 := hvb.ok66 (s := b.stretch.low + k) (by omega)
    have h6 := Qhh b k
    have h7 : inI (((Qbv b k).length : Int) + 1) := by unfold inI; omega
    rw [Z0] at h4
    simp only [hb, hlt, hlt2, h4, h5, h7, gR49, Qga hk, Q7, Q1, Z0, Qah, Qa7, Qa8, Qaf, Qc2, Qab, Qa6, Qad, Qai, Qa5, Qa2, Fam.step, Qae, evO, opv, qv, binV, ldV, iadV, Qaw, Qaa, Qa4, flat, kp, Qa3, Qa0, Qa1, ↓reduceIte, Nat.reduceEqDiff, Nat.reduceAdd, Nat.reduceLT, Nat.reduceLeDiff, Qb, Qc, Qd, Qe, Qh, Qk, Qf, Qo, Ql, Qj, Qy, vw_i, Qb3, Qb1, Zd, Qi, Qr, Qa, decide_true, true_and, and_self, implies_true, Za, Qt, Zc, Qm, Q2, Z6, Qkm, Quh, Qan, Qaj]
    refine ⟨fun h => ?_, fun h => ?_⟩
    ·simp only [h, Zt, Q7, Q1, ↓reduceIte, Qd, Qe, Qi]
    ·simp only [h, ↓reduceIte, Qj, Qa]
   ·have hgt : ¬ (b.stretch.low + ((b.stretch.high + 1 - b.stretch.low).toNat : Int) ≤ b.stretch.high) := by omega
    have hm := Qif hv (i + 1) (by omega)
    have hp : (61 : Int) ^ (i + 1) ≤ 61 ^ 4 := by exact_mod_cast Xk (by decide : 0 < 61) (show i + 1 ≤ 4 by omega)
    rw [Qgi hb] at hm
    have h8 : inI (Qe0 d i * (Qav b).length) := by unfold inI; omega
    simp only [hb, hlt, hgt, Qhg, h8, h3, Qgi hb, Qa7, Qa8, Qaf, Qar, Qa6, Qad, Qai, Qa5, Qa2, Fam.step, Qae, evO, opv, qv, binV, ldV, iadV, Qa3, Qa0, Qa1, ↓reduceIte, Nat.reduceEqDiff, Nat.reduceAdd, Nat.reduceLeDiff, Qb, Qc, Qd, Qe, Qh, Qk, Ql, Qy, Zd, Qi, Qa, decide_false, and_self, Za, Qt, Zc, Qm, Q2, Qan, Qaj]
  ·simp only [Qa7, Qa8, Qaf, Qar, Qag, Qa6, Qad, Qai, Qa5, Qa2, Fam.step, Qae, Qbu, Qb8, ug, evO, opv, qv, Qao, binV, ldV, lenV, Qa3, Qa0, Qa1, ↓reduceIte, Nat.reduceEqDiff, Nat.reduceAdd, Nat.reduceLeDiff, Qb, Qc, Qw, Qx, Qd, Qe, Qh, Qk, Ql, endQ, rvs, rv1, resV, vw_b, Zp, Qi, V.b.injEq, Qs, Ze, Qa, decide_false, decide_eq_true_eq, decide_eq_false_iff_not, true_and, and_true, and_self, implies_true, beq_false, Zb, Qjm, Zv, imp_self, Qt, Qaj]
   simp [far, hbig, hC, hc]
def r21 : List V → Prop × V := fnG (fun d => [.ag (Qaj d)]) dD (fun _ => True) far .b
noncomputable def GS : Gam := GR.ext 4 r21
theorem okS : GOk Try.prog GS := by
 have k1 := okR.ext (f := 4) (r := r21) (fun a w => Try.call4 a w) (Qb7 fun a _ => P21 a)
 exact k1
end Go.C02
set_option linter.unusedSimpArgs false
set_option linter.unusedVariables false
namespace Go.C02
open Go.Fam Go.Proofs
noncomputable def GT : Gam := GS
theorem okT : GOk Try.prog GT := by
 exact okS
section
variable (b : List Bolt) (g : List Int) (l : Int) (r : List Span) (w : List Int) (s n m : Int)
end
end Go.C02
set_option linter.unusedSimpArgs false
set_option linter.unusedVariables false
namespace Go.C02
open Go.Fam Go.Proofs
def okCan (b : Bolt) (s : Int) : Prop := Qak s b.stretch.low b.stretch.high = true → ok66 b.strips s
theorem gT54 (n lo hi : Int) : GT 13 [.i n, .i lo, .i hi] = (True, .b (Qak n lo hi)) := gJ54 n lo hi
theorem gT66 (a b : Int) (l : List Strip) (w s : Int) : GT 28 [.ag [.i a, .i b, .sl 3 (l.map Qbd), .i w], .i s] = (ok66 l s, .i (Qcw l s)) := gJ66 a b l w s
theorem P49w (b : Bolt) (s : Int) (h : okCan b s) : Qa9 Try.prog 12 [.ag (Qan b), .i s] (.b (can b s)) := by
 refine Qac okT hmix Try.func12 cb12 cc12 cs12 cn12 ?_
 unfold okCan at h
 simp only [rc12, rs12, gT54, gT66, Qa7, Qc6, Qa8, Qag, Qa6, Qbe, Qad, Qa5, Qa2, Fam.step, Qae, Qbu, Qb8, ug, runX, eff, Qbb, fpR, fpQ, fpV, Qcj, hits, evO, opv, qv, Qao, binV, ldV, Qaw, V.cells, Qas, Qaa, Qa4, flat, Qa3, Qa0, Qa1, ↓reduceIte, Nat.reduceEqDiff, Nat.reduceAdd, Nat.reduceLT, Nat.reduceLeDiff, Qb, Qc, Qw, Qx, Qd, Qe, Qh, Qk, Qf, Qo, Ql, Qp, Qn, Qj, Zh, Zr, Q4, Zf, endQ, rvs, rv1, resV, vw_i, vw_b, Qb3, Qb1, zipA, Qi, V.b.injEq, Qs, Ze, Zu, Qr, Zi, Zj, Qa, true_and, and_true, and_self, implies_true, reduceCtorEq, Zy, Zk, beq_true, Qg2, Zv, imp_self, Qm, Qan]
 exact ⟨fun hw => ⟨hw, h hw⟩, rfl⟩
def r49w : List V → Prop × V := fnG eBI dBI (fun a => okCan a.1 a.2) (fun a => can a.1 a.2) .b
noncomputable def GU1 : Gam := GT.ext 12 r49w
theorem okU1 : GOk Try.prog GU1 := by
 have k1 := okT.ext (f := 12) (r := r49w) (fun a w => Try.call12 a w) (Qb7 fun a h => P49w a.1 a.2 h)
 exact k1
theorem ValidB.okCan {b : Bolt} (h : ValidB b) (s : Int) : okCan b s := by
 intro hw
 simp only [Qak, Zs, decide_eq_true_eq] at hw
 have := h.st
 exact h.ok66 (by omega)
end Go.C02
set_option linter.unusedSimpArgs false
set_option linter.unusedVariables false
namespace Go.C02
open Go.Fam Go.Proofs
noncomputable def GU : Gam := GU1
theorem okU : GOk Try.prog GU := okU1
section
variable (b : List Bolt) (g : List Int) (l : Int) (r : List Span) (w : List Int) (s n m : Int) (x : List Int)
end
end Go.C02
set_option linter.unusedSimpArgs false
set_option linter.unusedVariables false
namespace Go.C02
open Go.Fam Go.Proofs
structure Feas (d : Dome) (k : Nat) (c : Nat → Int) : Prop where
 bd : ∀ r : Nat, r < k → Qi0 d r ≤ c r ∧ c r ≤ Qic d r
 sl : ∀ r : Nat, r + 1 < k → -d.slope ≤ c (r + 1) - c r ∧ c (r + 1) - c r ≤ d.slope
theorem Feas.range {d : Dome} (hl : 0 ≤ d.loss) {k : Nat} {c : Nat → Int} (h : Feas d k c) {r : Nat} (hr : r < k) : 0 ≤ c r ∧ c r ≤ 2000 := by
 have := h.bd r hr
 have := Qet d r hl
 have := Qnc d r hl
 omega
def away (d : Dome) (r j : Nat) : Int := Qi0 d j - d.slope * max ((r : Int) - j) ((j : Int) - r)
theorem Qtg {d : Dome} {r : Nat} {x : Int} : ∀ k : Nat, Qdl d r k ≤ x ↔ Qi0 d r ≤ x ∧ ∀ j, j < k → away d r j ≤ x
 | 0 => by simp [Qdl]
 | k + 1 => by
  rw [Qgk]
  have ih := Qtg (d := d) (r := r) (x := x) k
  have : max (Qdl d r k) (Qi0 d k - d.slope * max ((r : Int) - k) ((k : Int) - r)) ≤ x ↔ Qdl d r k ≤ x ∧ away d r k ≤ x := by unfold away; omega
  rw [this, ih]
  constructor
  ·rintro ⟨⟨h1, h2⟩, h3⟩
   refine ⟨h1, fun j hj => ?_⟩
   by_cases h : j < k
   ·exact h2 j h
   ·have : j = k := by omega
    exact this ▸ h3
  ·rintro ⟨h1, h2⟩
   exact ⟨⟨h1, fun j hj => h2 j (by omega)⟩, h2 k (by omega)⟩
theorem Feas.far {d : Dome} (hs : 0 ≤ d.slope) {n : Nat} {c : Nat → Int} (h : Feas d n c) : ∀ (m r : Nat), r + m < n → c (r + m) - c r ≤ d.slope * m ∧ c r - c (r + m) ≤ d.slope * m
 | 0, r, _ => by simp
 | m + 1, r, hr => by
  have h1 := h.far hs m r (by omega)
  have h2 := h.sl (r + m) (by omega)
  rw [Q7, Int.mul_add]
  rw [show r + (m + 1) = r + m + 1 by omega]
  omega
theorem Feas.need {d : Dome} (hs : 0 ≤ d.slope) {n : Nat} {c : Nat → Int} (h : Feas d n c) {r : Nat} (hr : r < n) : Qdl d r n ≤ c r := by
 rw [Qtg]
 refine ⟨(h.bd r hr).1, fun j hj => ?_⟩
 have h1 := (h.bd j hj).1
 unfold away
 by_cases hjr : j ≤ r
 ·have h2 := (h.far hs (r - j) j (by omega)).2
  rw [show j + (r - j) = r by omega] at h2
  rw [show max ((r : Int) - j) ((j : Int) - r) = ((r - j : Nat) : Int) by omega]
  omega
 ·have h2 := (h.far hs (j - r) r (by omega)).1
  rw [show r + (j - r) = j by omega] at h2
  rw [show max ((r : Int) - j) ((j : Int) - r) = ((j - r : Nat) : Int) by omega]
  omega
theorem Feas.fits {d : Dome} (hs : 0 ≤ d.slope) {n : Nat} {c : Nat → Int} (h : Feas d n c) : Qjg d n n = true := by
 simp only [Qjg, Z4, Xi, decide_eq_true_eq]
 intro r hr
 exact Int.le_trans (h.need hs hr) (h.bd r hr).2
end Go.C02
set_option linter.unusedSimpArgs false
set_option linter.unusedVariables false
namespace Go.C02
open Go.Fam Go.Proofs
def tr : List (List Int) → List Int → List (List Int)
 | [], f => [f]
 | c :: cs, f => c.flatMap fun x => tr cs (f ++ [x])
def Qqx (d : Dome) (f : List Int) : List (List Int) := tr ((Qbq d).drop f.length) f
noncomputable def GV : Gam := GU
theorem okV : GOk Try.prog GV := okU
end Go.C02
set_option linter.unusedSimpArgs false
set_option linter.unusedVariables false
namespace Go.C02
open Go.Fam Go.Proofs
theorem Qj0 : ∀ (cs : List (List Int)) (f : List Int), (tr cs f).isEmpty = cs.any Zw
 | [], _ => rfl
 | c :: cs, f => by
  simp only [tr, List.any_cons]
  cases c with
  | nil => rfl
  | cons x c =>
   simp only [Xs, Bool.false_or]
   rw [← Qj0 cs (f ++ [x])]
   cases h : tr cs (f ++ [x]) with
   | nil =>
    have h1 : cs.any Zw = true := by rw [← Qj0 cs (f ++ [x]), h]; rfl
    have : ∀ y ∈ c, tr cs (f ++ [y]) = [] := fun y _ => by
     have := Qj0 cs (f ++ [y])
     rw [h1] at this
     simpa using this
    simp only [Z3, h, Qn, Zf, List.isEmpty_iff, List.flatMap_eq_nil_iff]
    exact this
   | cons y l => simp [Z3, h]
theorem Qoa (d : Dome) : (Qqx d []).isEmpty = (Qbq d).any Zw := Qj0 _ _
theorem Good.truths {d : Dome} (h : Good d) : Qqx d [] ≠ [] := by
 have h1 := Qoa d
 have h2 := h.pitch true
 intro he
 rw [he] at h1
 simp [Qc1, h.c, ← h1] at h2
end Go.C02
set_option linter.unusedSimpArgs false
set_option linter.unusedVariables false
namespace Go.C02
open Go.Fam Go.Proofs
noncomputable def GW : Gam := GV
theorem okW : GOk Try.prog GW := okV
section
variable (b : List Bolt) (g : List Int) (l : Int) (r : List Span) (w : List Int) (s n m : Int) (x : List Int)
end
noncomputable def GX : Gam := GW
theorem okX : GOk Try.prog GX := okW
end Go.C02
set_option linter.unusedSimpArgs false
set_option linter.unusedVariables false
namespace Go.C02
open Go.Fam Go.Proofs
noncomputable def GY : Gam := GX
theorem okY : GOk Try.prog GY := okX
section
variable (b : List Bolt) (g : List Int) (l : Int) (r : List Span) (w : List Int) (s n m : Int) (T : List (List Int))
end
noncomputable def GZ : Gam := GY
theorem okZ : GOk Try.prog GZ := okY
section
variable (b : List Bolt) (g : List Int) (l : Int) (r : List Span) (w : List Int) (s n m : Int) (T : List (List Int))
end
end Go.C02
set_option maxRecDepth 8000
namespace Go.C02
open Go.Fam Go.Proofs
def rc6 : RC := (.seq (.reg false [(cQ 0 [] (.mv (kB false)))]) (.keep [] (.seq (.reg false [(cQ 6 [] (.call (kF 17) [])), (cQ 7 [6] (.call (kF 16) [(.t 6), (kI 2)])), (cMv 5 7), (cEx 8 5 0), (cEx 9 5 1), ⟨(some 1), none, [], none, .w (.alc [(.i 0), (.i 0)])⟩, ⟨none, none, [1,8], none, .w (.st 2 (.t 1) (.t 8))⟩, (cMv 2 9)]) (.keep [1,2] (.seq (.reg false [(cQ 11 [] (.call (kF 19) [])), (cQ 12 [11] (.call (kF 18) [(.t 11)])), (cMv 10 12), (cEx 13 10 0), (cEx 14 10 1), (cMv 3 13), (cMv 4 14)]) (.keep [1,2,3,4] (.seq (.reg true [(cMv 15 2), (cC 16 .eql 15 0), (cMv 17 16), (gMv 18 17 true 4), (gQ 19 17 true [18] (.bin .eql (.t 18) (kI 0))), (cQ 20 [17,19] (.pick (.t 17) (.t 19) (kB false))), (cMv 21 20), (gQ 22 21 true [1] (.ld true 2 (.t 1))), (gQ 23 21 true [] (.bld [(.i 0), (.i 0)] [(0,1, (kI 802)), (1,1, (kI 808))])), (gQ 24 21 true [22,23] (.eqs false 42 (.t 22) (.t 23))), (cQ 25 [21,24] (.pick (.t 21) (.t 24) (kB false))), (cMv 26 25), (gMv 27 26 true 3), (gQ 28 26 true [27] (.bin .eql (.t 27) (kI 2))), (cQ 29 [26,28] (.pick (.t 26) (.t 28) (kB false))), (cMv 0 29)]) .ret)))))))
def pu6 : List Nat := []
def rs6 : List RV := [.t 0]
theorem cc6 : CCx Try.prog Try.f6 pu6 rc6 := by unfold CCx; kernel_rfl
theorem cb6 : CBx Try.f6 := by unfold CBx; kernel_rfl
theorem cs6 : CSx Try.prog Try.f6 rs6 := by unfold CSx; kernel_rfl
theorem cn6 : 0 ≤ Try.f6.ntmps := by decide
def rc18 : RC := (.seq (.reg false [(cX 1 0), (cI 2 0), (cI 3 0)]) (.keep [1] (.seq (.reg false [(cLd 8 1 true 11), (cQ 9 [8] (.call (kF 31) [(.t 8), (kB true)])), (cMv 7 9), (cEx 10 7 0), (cEx 11 7 1), (cMv 4 10), (cMv 5 11)]) (.keep [4,5] (.seq (.seq (.reg false [(cMv 12 5), (cC 13 .neq 12 0)]) (.keep [4,5,13] (.cond (.t 13) (.seq (.reg false [(cMv 14 5), (cI 2 0), (cMv 3 14)]) .ret) .skip))) (.keep [4] (.seq (.reg false [(cI 6 0)]) (.keep [4,6] (.seq (.block 0 (.loop [4,6] none (.seq (.seq (.reg false [(cMv 15 4), (cMv 16 6), (cQ 17 [15,16] (.call (kF 32) [(.t 15), (.t 16)])), (cN 18 17)]) (.keep [4,6,18] (.cond (.t 18) .skip (.exit 0)))) (.keep [4,6] (.block 1 (.reg false [(cMv 19 6), (cC 20 .add 19 1), (cMv 6 20)])))))) (.keep [6] (.seq (.reg false [(cMv 21 6), (cMv 2 21), (cI 3 0)]) .ret)))))))))))
def pu18 : List Nat := [1]
def rs18 : List RV := [.t 2, .t 3]
theorem cc18 : CCx Try.prog Try.f18 pu18 rc18 := by unfold CCx; kernel_rfl
theorem cb18 : CBx Try.f18 := by unfold CBx; kernel_rfl
theorem cs18 : CSx Try.prog Try.f18 rs18 := by unfold CSx; kernel_rfl
theorem cn18 : 1 ≤ Try.f18.ntmps := by decide
def rc19 : RC := (.seq (.reg false [⟨(some 0), none, [], none, .w (.alc [(.z 4), (.z 1), (.i 0), (.z 2), (.z 1), (.i 0), (.i 0), (.i 0), (.i 0), (.z 1), (.z 1)])⟩]) (.keep [0] (.seq (.reg false [(cQ 1 [] (.call (kF 17) [])), (cQ 2 [] (.bsl 1 4 [(.i 0)] [(0,1, (kI 0)), (1,1, (kI 3)), (2,1, (kI 8)), (3,1, (kI 0))])), (cQ 3 [] (.bsl 1 4 [(.i 0)] [(0,1, (kI 5)), (1,1, (kI 3)), (2,1, (kI 8)), (3,1, (kI 2))])), (cQ 4 [1,2,3] (.bld [(.z 4), (.z 1), (.i 0), (.z 2), (.z 1), (.i 0), (.i 0), (.i 0), (.i 0), (.z 1), (.z 1)] [(0,6, (.t 1)), (6,1, (kI 12)), (7,1, (kI 100)), (8,1, (kI 1)), (9,1, (.t 2)), (10,1, (.t 3))])), ⟨none, none, [0,4], none, .w (.st 11 (.t 0) (.t 4))⟩]) .ret)))
def pu19 : List Nat := [2,3]
def rs19 : List RV := [.c 0 true 11]
theorem cc19 : CCx Try.prog Try.f19 pu19 rc19 := by unfold CCx; kernel_rfl
theorem cb19 : CBx Try.f19 := by unfold CBx; kernel_rfl
theorem cs19 : CSx Try.prog Try.f19 rs19 := by unfold CSx; kernel_rfl
theorem cn19 : 0 ≤ Try.f19.ntmps := by decide
def rc31 : RC := (.seq (.reg false [(cX 2 0), (cQ 4 [] (.mv (.k .pn))), (cI 5 0)]) (.keep [1,2] (.seq (.seq (.reg false [(cLd 15 2 true 11), (cQ 16 [15] (.call (kF 46) [(.t 15)])), (cMv 6 16)]) (.keep [1,2,6] (.seq (.reg false [(cMv 17 6), (cC 18 .neq 17 0)]) (.keep [1,2,6,18] (.cond (.t 18) (.seq (.reg false [(cMv 19 6), (cQ 4 [] (.mv (.k .pn))), (cMv 5 19)]) .ret) .skip))))) (.keep [1,2] (.seq (.seq (.reg false [(cMv 20 1), (cN 21 20)]) (.keep [2,21] (.cond (.t 21) (.seq (.reg false [(cQ 4 [] (.mv (.k .pn))), (cI 5 1)]) .ret) .skip))) (.keep [2] (.seq (.reg false [(cLd 22 2 true 11), (cQ 23 [22] (.bld [(.z 4), (.z 1), (.i 0), (.z 2), (.z 1), (.i 0), (.i 0), (.i 0), (.i 0), (.z 1), (.z 1), (.z 1)] [(0,11, (.t 22))])), ⟨(some 24), none, [23], none, .w (.bxo (.t 23))⟩, (cMv 7 24)]) (.keep [2,7] (.seq (.seq (.reg false [(cFa 25 2 0), (cFa 26 25 1), (cLd 27 26 false 1), (cLn 28 27), (cI 29 0)]) (.keep [2,7,27,28,29] (.block 0 (.ownc 7 11 1 (.loop [2,7,27,28,29] none (.seq (.reg false [(cB 30 .lss 29 28)]) (.keep [2,7,27,28,29,30] (.seq (.cond (.t 30) .skip (.exit 0)) (.keep [2,7,27,28,29] (.seq (.block 1 (.seq (.reg false [(cA 31 1 27 29), (cLd 32 31 false 1), (cMv 9 32)]) (.keep [2,7,9,27,28,29] (.seq (.reg false [(cFa 34 2 0), (cLd 35 34 true 6), (cMv 36 9), (cQ 37 [35,36] (.call (kF 47) [(.t 35), (.t 36)])), (cMv 33 37), (cEx 38 33 0), (cEx 39 33 1), (cMv 10 38), (cMv 11 39)]) (.keep [2,7,10,11,27,28,29] (.seq (.seq (.reg false [(cMv 40 11), (cC 41 .neq 40 0)]) (.keep [2,7,10,11,27,28,29,41] (.cond (.t 41) (.seq (.reg false [(cMv 42 11), (cQ 4 [] (.mv (.k .pn))), (cMv 5 42)]) .ret) .skip))) (.keep [2,7,10,27,28,29] (.seq (.reg false [(cQ 12 [] (.mv (.k (.z 1))))]) (.keep [2,7,10,12,27,28,29] (.seq (.seq (.reg false [(cMv 43 10), (cLn 44 43), (cI 45 0)]) (.keep [2,7,12,27,28,29,43,44,45] (.block 2 (.own 12 1 (.loop [2,7,12,27,28,29,43,44,45] none (.seq (.reg false [(cB 46 .lss 45 44)]) (.keep [2,7,12,27,28,29,43,44,45,46] (.seq (.cond (.t 46) .skip (.exit 2)) (.keep [2,7,12,27,28,29,43,44,45] (.seq (.block 3 (.seq (.reg false [(cA 47 1 43 45), (cLd 48 47 false 1), (cMv 14 48)]) (.keep [2,7,12,14,27,28,29,43,44,45] (.reg false [(cMv 49 12), (cFa 50 2 7), (cLd 51 50 false 1), (cMv 52 14), (cQ 53 [52] (.bin .add (kI 1000) (.t 52))), (cB 54 .mul 51 53), (cC 55 .quo 54 1000), (cFa 56 2 6), (cLd 57 56 false 1), (cB 58 .rem 55 57), (cQ 59 [58] (.bsl 1 1 [(.i 0)] [(0,1, (.t 58))])), ⟨(some 60), none, [49,59], none, .w (.app 1 (.t 49) (.t 59))⟩, (cMv 12 60)])))) (.keep [2,7,12,27,28,29,43,44,45] (.reg false [(cC 61 .add 45 1), (cMv 45 61)])))))))))))) (.keep [2,7,12,27,28,29] (.drp 2 (.reg false [(cMv 62 7), (cMv 63 7), (cZ 64 63), (cFa 65 64 11), (cLd 66 65 false 1), (cMv 67 12), (cQ 68 [67] (.bsl 1 1 [(.z 1)] [(0,1, (.t 67))])), ⟨(some 69), none, [66,68], none, .w (.app 1 (.t 66) (.t 68))⟩, (cZ 70 62), (cFa 71 70 11), ⟨none, none, [71,69], none, .w (.st 1 (.t 71) (.t 69))⟩]))))))))))))) (.keep [2,7,27,28,29] (.reg false [(cC 72 .add 29 1), (cMv 29 72)])))))))))))) (.keep [7] (.seq (.drp 0 (.reg false [(cMv 73 7), (cMv 4 73), (cI 5 0)])) .ret)))))))))))
def pu31 : List Nat := [2,59,68]
def rs31 : List RV := [.t 4, .t 5]
theorem cc31 : CCx Try.prog Try.f31 pu31 rc31 := by unfold CCx; kernel_rfl
theorem cb31 : CBx Try.f31 := by unfold CBx; kernel_rfl
theorem cs31 : CSx Try.prog Try.f31 rs31 := by unfold CSx; kernel_rfl
theorem cn31 : 2 ≤ Try.f31.ntmps := by decide
def rc32 : RC := (.seq (.reg false [(cQ 4 [] (.mv (kB false)))]) (.keep [0,1] (.seq (.reg false [⟨(some 12), none, [], none, .w (.mkm false)⟩, ⟨none, none, [12], none, .w (.mup 3 false (.t 12) (kI 0) (kI 1))⟩, (cMv 13 12), (cMv 5 13)]) (.keep [0,1,5] (.seq (.seq (.reg false [(cMv 14 0), (cMv 15 1), (cQ 16 [14,15] (.call (kF 48) [(.t 14), (.t 15)])), (cLn 17 16), (cI 18 0)]) (.keep [0,5,16,17,18] (.block 0 (.loop [0,5,16,17,18] (some 1) (.seq (.reg false [(cB 19 .lss 18 17)]) (.keep [0,5,16,17,18,19] (.seq (.cond (.t 19) .skip (.exit 0)) (.keep [0,5,16,17,18] (.seq (.block 1 (.seq (.reg false [(cA 20 1 16 18), (cLd 21 20 false 1), (cMv 7 21)]) (.keep [0,5,7,16,17,18] (.seq (.reg false [⟨(some 22), none, [], none, .w (.mkm false)⟩, (cMv 8 22)]) (.keep [0,5,7,8,16,17,18] (.seq (.seq (.reg false [(cMv 23 5), ⟨(some 24), none, [23], none, .w (.rng (.t 23))⟩]) (.keep [0,7,8,16,17,18,24] (.block 2 (.loop [0,7,8,16,17,18,24] none (.seq (.nxt 25 26 24) (.keep [0,7,8,16,17,18,24,26] (.seq (.cond (.t 26) .skip (.exit 2)) (.keep [0,7,8,16,17,18,24] (.block 3 (.seq (.reg false [(cQ 27 [24] (.ent (.t 24))), (cEx 28 27 0), (cMv 9 28)]) (.keep [0,7,8,9,16,17,18,24] (.seq (.reg false [(cMv 29 7), (cLn 30 29), (cI 31 0)]) (.keep [0,7,8,9,16,17,18,24,29,30,31] (.block 4 (.loop [0,7,8,9,16,17,18,24,29,30,31] none (.seq (.reg false [(cB 32 .lss 31 30)]) (.keep [0,7,8,9,16,17,18,24,29,30,31,32] (.seq (.cond (.t 32) .skip (.exit 4)) (.keep [0,7,8,9,16,17,18,24,29,30,31] (.seq (.block 5 (.seq (.reg false [(cA 33 1 29 31), (cLd 34 33 false 1), (cMv 11 34)]) (.keep [0,7,8,9,11,16,17,18,24,29,30,31] (.reg false [(cMv 35 8), (cMv 36 0), (cMv 37 9), (cMv 38 11), (cB 39 .add 37 38), (cQ 40 [36,39] (.call (kF 49) [(.t 36), (.t 39)])), (cQ 41 [35,40] (.lkp (.i 0) false 3 false (.t 35) (.t 40))), (cC 42 .add 41 1), ⟨none, none, [35,40,42], none, .w (.mup 3 false (.t 35) (.t 40) (.t 42))⟩])))) (.keep [0,7,8,9,16,17,18,24,29,30,31] (.reg false [(cC 43 .add 31 1), (cMv 31 43)])))))))))))))))))))))) (.keep [0,8,16,17,18] (.swp 0 1 (.reg false [(cMv 44 8), (cMv 5 44)]))))))))) (.drp 1 (.keep [0,5,16,17,18] (.reg false [(cC 45 .add 18 1), (cMv 18 45)])))))))))))) (.keep [5] (.seq (.reg false [(cMv 46 5), (cQ 47 [46] (.lkp (.i 0) false 3 false (.t 46) (kI 0))), (cC 48 .gtr 47 0), (cMv 4 48)]) .ret)))))))
def pu32 : List Nat := []
def rs32 : List RV := [.t 4]
theorem cc32 : CCx Try.prog Try.f32 pu32 rc32 := by unfold CCx; kernel_rfl
theorem cb32 : CBx Try.f32 := by unfold CBx; kernel_rfl
theorem cs32 : CSx Try.prog Try.f32 rs32 := by unfold CSx; kernel_rfl
theorem cn32 : 2 ≤ Try.f32.ntmps := by decide
def rc46 : RC := (.seq (.reg false [(cX 1 0), (cI 2 0)]) (.keep [1] (.seq (.seq (.reg false [(cFa 4 1 0), (cLd 5 4 true 6), (cQ 6 [5] (.call (kF 33) [(.t 5)])), (cMv 3 6)]) (.keep [1,3] (.seq (.reg false [(cMv 7 3), (cC 8 .neq 7 0)]) (.keep [1,3,8] (.cond (.t 8) (.seq (.reg false [(cMv 9 3), (cMv 2 9)]) .ret) .skip))))) (.keep [1] (.seq (.seq (.reg false [(cLd 10 1 true 11), (cQ 11 [10] (.call (kF 58) [(.t 10)])), (cN 12 11)]) (.keep [12] (.cond (.t 12) (.seq (.reg false [(cI 2 40)]) .ret) .skip))) (.keep [] (.seq (.reg false [(cI 2 0)]) .ret)))))))
def pu46 : List Nat := [1]
def rs46 : List RV := [.t 2]
theorem cc46 : CCx Try.prog Try.f46 pu46 rc46 := by unfold CCx; kernel_rfl
theorem cb46 : CBx Try.f46 := by unfold CBx; kernel_rfl
theorem cs46 : CSx Try.prog Try.f46 rs46 := by unfold CSx; kernel_rfl
theorem cn46 : 1 ≤ Try.f46.ntmps := by decide
def rc48 : RC := (.seq (.reg false [(cQ 4 [] (.mv (.k (.z 1))))]) (.keep [0,1] (.seq (.reg false [(cMv 8 0), (cZ 9 8), (cFa 10 9 11), (cLd 11 10 false 1), (cLn 12 11), ⟨(some 13), none, [12,12], none, .w (.mks 1 [(.z 1)] (.t 12) (.t 12))⟩, (cMv 5 13)]) (.keep [0,1,5] (.seq (.seq (.reg false [(cMv 14 0), (cZ 15 14), (cFa 16 15 11), (cLd 17 16 false 1), (cLn 18 17), (cI 19 0)]) (.keep [0,1,5,18,19] (.block 0 (.loop [0,1,5,18,19] none (.seq (.reg false [(cB 20 .lss 19 18)]) (.keep [0,1,5,18,19,20] (.seq (.cond (.t 20) .skip (.exit 0)) (.keep [0,1,5,18,19] (.seq (.block 1 (.seq (.reg false [(cMv 21 19), (cMv 6 21)]) (.keep [0,1,5,6,18,19] (.seq (.reg false [(cMv 22 0), (cZ 23 22), (cFa 24 23 0), (cFa 25 24 6), (cLd 26 25 false 1), (cI 27 0)]) (.keep [0,1,5,6,18,19,26,27] (.block 2 (.owni 5 6 0 1 (.loop [0,1,5,6,18,19,26,27] none (.seq (.reg false [(cB 28 .lss 27 26)]) (.keep [0,1,5,6,18,19,26,27,28] (.seq (.cond (.t 28) .skip (.exit 2)) (.keep [0,1,5,6,18,19,26,27] (.seq (.block 3 (.seq (.reg false [(cMv 29 27), (cMv 7 29)]) (.keep [0,1,5,6,7,18,19,26,27] (.seq (.reg false [(cMv 30 0), (cMv 31 6), (cMv 32 7), (cMv 33 1), (cQ 34 [30,31,32,33] (.call (kF 60) [(.t 30), (.t 31), (.t 32), (.t 33)])), (cC 35 .eql 34 1)]) (.keep [0,1,5,6,7,18,19,26,27,35] (.cond (.t 35) (.reg false [(cMv 36 5), (cMv 37 6), (cMv 38 5), (cMv 39 6), (cA 40 1 38 39), (cLd 41 40 false 1), (cMv 42 7), (cQ 43 [42] (.bsl 1 1 [(.i 0)] [(0,1, (.t 42))])), ⟨(some 44), none, [41,43], none, .w (.app 1 (.t 41) (.t 43))⟩, (cA 45 1 36 37), ⟨none, none, [45,44], none, .w (.st 1 (.t 45) (.t 44))⟩]) .skip)))))) (.keep [0,1,5,6,18,19,26,27] (.reg false [(cC 46 .add 27 1), (cMv 27 46)]))))))))))))))) (.keep [0,1,5,18,19] (.drp 1 (.reg false [(cC 47 .add 19 1), (cMv 19 47)])))))))))))) (.keep [5] (.seq (.drp 0 (.reg false [(cMv 48 5), (cMv 4 48)])) .ret)))))))
def pu48 : List Nat := [43]
def rs48 : List RV := [.t 4]
theorem cc48 : CCx Try.prog Try.f48 pu48 rc48 := by unfold CCx; kernel_rfl
theorem cb48 : CBx Try.f48 := by unfold CBx; kernel_rfl
theorem cs48 : CSx Try.prog Try.f48 rs48 := by unfold CSx; kernel_rfl
theorem cn48 : 2 ≤ Try.f48.ntmps := by decide
def rc49 : RC := (.seq (.reg false [(cI 4 0)]) (.keep [0,1] (.seq (.any false 0 [⟨(cMv 5 1), [], []⟩, ⟨(cMv 6 0), [], []⟩, ⟨(cZ 7 6), [], [1]⟩, ⟨(cFa 8 7 0), [], [2,1]⟩, ⟨(cFa 9 8 6), [], [3,2,1]⟩, ⟨(cLd 10 9 false 1), [], [4,3,2,1]⟩, ⟨(cB 11 .rem 5 10), [], [0,5,4,3,2,1]⟩, ⟨(cMv 12 0), [], []⟩, ⟨(cZ 13 12), [], [7]⟩, ⟨(cFa 14 13 0), [], [8,7]⟩, ⟨(cFa 15 14 6), [], [9,8,7]⟩, ⟨(cLd 16 15 false 1), [], [10,9,8,7]⟩, ⟨(cB 17 .add 11 16), [], [6,0,5,4,3,2,1,11,10,9,8,7]⟩, ⟨(cMv 18 0), [], []⟩, ⟨(cZ 19 18), [], [13]⟩, ⟨(cFa 20 19 0), [], [14,13]⟩, ⟨(cFa 21 20 6), [], [15,14,13]⟩, ⟨(cLd 22 21 false 1), [], [16,15,14,13]⟩, ⟨(cB 23 .rem 17 22), [], [12,6,0,5,4,3,2,1,11,10,9,8,7,17,16,15,14,13]⟩, ⟨(cMv 4 23), [], [18,12,6,0,5,4,3,2,1,11,10,9,8,7,17,16,15,14,13]⟩]) .ret)))
def pu49 : List Nat := []
def rs49 : List RV := [.t 4]
theorem cc49 : CCx Try.prog Try.f49 pu49 rc49 := by unfold CCx; kernel_rfl
theorem cb49 : CBx Try.f49 := by unfold CBx; kernel_rfl
theorem cs49 : CSx Try.prog Try.f49 rs49 := by unfold CSx; kernel_rfl
theorem cn49 : 2 ≤ Try.f49.ntmps := by decide
def rc58 : RC := (.seq (.reg false [(cX 1 0), (cQ 2 [] (.mv (kB false)))]) (.keep [1] (.seq (.seq (.reg true [(cFa 4 1 6), (cLd 5 4 false 1), (cQ 6 [5] (.call (kF 73) [(.t 5), (kI 1), (kI 60)])), (cN 7 6), (cMv 8 7), (gQ 9 8 false [1] (.fad 7 (.t 1))), (gQ 10 8 false [9] (.ld false 1 (.t 9))), (gQ 11 8 false [10] (.call (kF 73) [(.t 10), (kI 0), (kI 2000)])), (gQ 12 8 false [11] (.not (.t 11))), (cQ 13 [8,12] (.pick (.t 8) (kB true) (.t 12))), (cMv 14 13), (gQ 15 14 false [1] (.fad 8 (.t 1))), (gQ 16 14 false [15] (.ld false 1 (.t 15))), (gQ 17 14 false [1] (.fad 6 (.t 1))), (gQ 18 14 false [17] (.ld false 1 (.t 17))), (gQ 19 14 false [18] (.bin .quo (.t 18) (kI 2))), (gQ 20 14 false [16,19] (.call (kF 73) [(.t 16), (kI 0), (.t 19)])), (gQ 21 14 false [20] (.not (.t 20))), (cQ 22 [14,21] (.pick (.t 14) (kB true) (.t 21))), (cMv 23 22), (gQ 24 23 false [1] (.fad 9 (.t 1))), (gQ 25 23 false [24] (.ld false 1 (.t 24))), (gQ 26 23 false [25] (.len (.t 25))), (gQ 27 23 false [1] (.fad 0 (.t 1))), (gQ 28 23 false [27] (.fad 1 (.t 27))), (gQ 29 23 false [28] (.ld false 1 (.t 28))), (gQ 30 23 false [29] (.len (.t 29))), (gQ 31 23 false [26,30] (.bin .neq (.t 26) (.t 30))), (cQ 32 [23,31] (.pick (.t 23) (kB true) (.t 31))), (cMv 33 32), (gQ 34 33 false [1] (.fad 10 (.t 1))), (gQ 35 33 false [34] (.ld false 1 (.t 34))), (gQ 36 33 false [35] (.len (.t 35))), (gQ 37 33 false [1] (.fad 0 (.t 1))), (gQ 38 33 false [37] (.fad 1 (.t 37))), (gQ 39 33 false [38] (.ld false 1 (.t 38))), (gQ 40 33 false [39] (.len (.t 39))), (gQ 41 33 false [36,40] (.bin .neq (.t 36) (.t 40))), (cQ 42 [33,41] (.pick (.t 33) (kB true) (.t 41)))]) (.keep [1,42] (.cond (.t 42) (.seq (.reg false [(cQ 2 [] (.mv (kB false)))]) .ret) .skip))) (.keep [1] (.seq (.seq (.reg false [(cFa 43 1 9), (cLd 44 43 false 1), (cLn 45 44), (cI 46 0)]) (.keep [1,45,46] (.block 0 (.loop [1,45,46] none (.seq (.reg false [(cB 47 .lss 46 45)]) (.keep [1,45,46,47] (.seq (.cond (.t 47) .skip (.exit 0)) (.keep [1,45,46] (.seq (.block 1 (.seq (.reg false [(cMv 48 46), (cMv 3 48)]) (.keep [1,3,45,46] (.seq (.any true 0 [⟨(cFa 49 1 9), [], []⟩, ⟨(cLd 50 49 false 1), [], [0]⟩, ⟨(cMv 51 3), [], []⟩, ⟨(cA 52 1 50 51), [], [1,0,2]⟩, ⟨(cLd 53 52 false 1), [], [3,1,0,2]⟩, ⟨(cFa 54 1 6), [], []⟩, ⟨(cLd 55 54 false 1), [], [5]⟩, ⟨(cC 56 .sub 55 1), [], [6,5]⟩, ⟨(cQ 57 [53,56] (.call (kF 73) [(.t 53), (kI 0), (.t 56)])), [], [4,3,1,0,2,7,6,5]⟩, ⟨(cN 58 57), [], [8,4,3,1,0,2,7,6,5]⟩, ⟨(cMv 59 58), [], [9,8,4,3,1,0,2,7,6,5]⟩, ⟨(gQ 60 59 false [1] (.fad 10 (.t 1))), [], [10,9,8,4,3,1,0,2,7,6,5]⟩, ⟨(gQ 61 59 false [60] (.ld false 1 (.t 60))), [], [11,10,9,8,4,3,1,0,2,7,6,5]⟩, ⟨(gMv 62 59 false 3), [], [10,9,8,4,3,1,0,2,7,6,5]⟩, ⟨(gQ 63 59 false [61,62] (.iad 1 (.t 61) (.t 62))), [], [12,11,10,9,8,4,3,1,0,2,7,6,5,13]⟩, ⟨(gQ 64 59 false [63] (.ld false 1 (.t 63))), [], [14,12,11,10,9,8,4,3,1,0,2,7,6,5,13]⟩, ⟨(gQ 65 59 false [64] (.call (kF 73) [(.t 64), (kI 1), (kI 99)])), [], [15,14,12,11,10,9,8,4,3,1,0,2,7,6,5,13]⟩, ⟨(gQ 66 59 false [65] (.not (.t 65))), [], [16,15,14,12,11,10,9,8,4,3,1,0,2,7,6,5,13]⟩, ⟨(cQ 67 [59,66] (.pick (.t 59) (kB true) (.t 66))), [], [10,9,8,4,3,1,0,2,7,6,5,17,16,15,14,12,11,13]⟩]) (.keep [1,45,46,67] (.cond (.t 67) (.seq (.reg false [(cQ 2 [] (.mv (kB false)))]) .ret) .skip)))))) (.keep [1,45,46] (.reg false [(cC 68 .add 46 1), (cMv 46 68)]))))))))))) (.keep [] (.seq (.reg false [(cQ 2 [] (.mv (kB true)))]) .ret)))))))
def pu58 : List Nat := [1]
def rs58 : List RV := [.t 2]
theorem cc58 : CCx Try.prog Try.f58 pu58 rc58 := by unfold CCx; kernel_rfl
theorem cb58 : CBx Try.f58 := by unfold CBx; kernel_rfl
theorem cs58 : CSx Try.prog Try.f58 rs58 := by unfold CSx; kernel_rfl
theorem cn58 : 1 ≤ Try.f58.ntmps := by decide
def rc60 : RC := (.seq (.reg false [(cI 8 0)]) (.keep [0,1,2,3] (.seq (.reg false [(cI 9 0)]) (.keep [0,1,2,3,9] (.seq (.seq (.reg false [(cMv 12 0), (cZ 13 12), (cFa 14 13 11), (cLd 15 14 false 1), (cMv 16 1), (cA 17 1 15 16), (cLd 18 17 false 1), (cLn 19 18), (cI 20 0)]) (.keep [0,1,2,3,9,18,19,20] (.block 0 (.loop [0,1,2,3,9,18,19,20] none (.seq (.reg false [(cB 21 .lss 20 19)]) (.keep [0,1,2,3,9,18,19,20,21] (.seq (.cond (.t 21) .skip (.exit 0)) (.keep [0,1,2,3,9,18,19,20] (.seq (.block 1 (.seq (.reg false [(cA 22 1 18 20), (cLd 23 22 false 1), (cMv 11 23)]) (.keep [0,1,2,3,9,11,18,19,20] (.seq (.reg false [(cMv 24 0), (cMv 25 11), (cMv 26 2), (cQ 27 [24,25,26] (.call (kF 74) [(.t 24), (.t 25), (.t 26)])), (cMv 28 3), (cB 29 .leq 27 28)]) (.keep [0,1,2,3,9,18,19,20,29] (.cond (.t 29) (.reg false [(cMv 30 9), (cC 31 .add 30 1), (cMv 9 31)]) .skip)))))) (.keep [0,1,2,3,9,18,19,20] (.reg false [(cC 32 .add 20 1), (cMv 20 32)]))))))))))) (.keep [0,1,9] (.seq (.seq (.reg false [(cMv 33 9)]) (.keep [0,1,33] (.block 2 (.seq (.reg false [(cMv 35 0), (cZ 36 35), (cFa 37 36 11), (cLd 38 37 false 1), (cMv 39 1), (cA 40 1 38 39), (cLd 41 40 false 1), (cLn 42 41), (cB 43 .eql 33 42), (cMv 34 43)]) (.keep [33,34] (.cond (.t 34) (.seq (.reg false [(cI 8 1)]) .ret) (.seq (.reg false [(cC 45 .eql 33 0), (cMv 44 45)]) (.keep [44] (.cond (.t 44) (.seq (.reg false [(cI 8 2)]) .ret) .skip))))))))) (.keep [] (.seq (.reg false [(cI 8 3)]) .ret)))))))))
def pu60 : List Nat := []
def rs60 : List RV := [.t 8]
theorem cc60 : CCx Try.prog Try.f60 pu60 rc60 := by unfold CCx; kernel_rfl
theorem cb60 : CBx Try.f60 := by unfold CBx; kernel_rfl
theorem cs60 : CSx Try.prog Try.f60 rs60 := by unfold CSx; kernel_rfl
theorem cn60 : 4 ≤ Try.f60.ntmps := by decide
def rc73 : RC := (.seq (.reg false [(cQ 6 [] (.mv (kB false)))]) (.keep [0,1,2] (.seq (.reg true [(cMv 7 1), (cMv 8 0), (cB 9 .leq 7 8), (cMv 10 9), (gMv 11 10 true 0), (gMv 12 10 true 2), (gQ 13 10 true [11,12] (.bin .leq (.t 11) (.t 12))), (cQ 14 [10,13] (.pick (.t 10) (.t 13) (kB false))), (cMv 6 14)]) .ret)))
def pu73 : List Nat := []
def rs73 : List RV := [.t 6]
theorem cc73 : CCx Try.prog Try.f73 pu73 rc73 := by unfold CCx; kernel_rfl
theorem cb73 : CBx Try.f73 := by unfold CBx; kernel_rfl
theorem cs73 : CSx Try.prog Try.f73 rs73 := by unfold CSx; kernel_rfl
theorem cn73 : 3 ≤ Try.f73.ntmps := by decide
def rc74 : RC := (.seq (.reg false [(cI 6 0)]) (.keep [0,1,2] (.seq (.reg false [(cMv 7 0), (cMv 8 1), (cMv 9 2), (cB 10 .sub 8 9), (cQ 11 [7,10] (.call (kF 49) [(.t 7), (.t 10)])), (cMv 12 0), (cMv 13 2), (cMv 14 1), (cB 15 .sub 13 14), (cQ 16 [12,15] (.call (kF 49) [(.t 12), (.t 15)])), (cQ 17 [11,16] (.mn (.t 11) (.t 16))), (cMv 6 17)]) .ret)))
def pu74 : List Nat := []
def rs74 : List RV := [.t 6]
theorem cc74 : CCx Try.prog Try.f74 pu74 rc74 := by unfold CCx; kernel_rfl
theorem cb74 : CBx Try.f74 := by unfold CBx; kernel_rfl
theorem cs74 : CSx Try.prog Try.f74 rs74 := by unfold CSx; kernel_rfl
theorem cn74 : 3 ≤ Try.f74.ntmps := by decide
end Go.C02
set_option linter.unusedSimpArgs false
set_option linter.unusedVariables false
namespace Go.C02
open Go.Fam Go.Proofs
structure Fig where
 dome : Dome
 period : Int
 run : Int
 near : Int
 starts : List Int
 times : List Int
structure Ring where
 fig : Fig
 moves : List (List Int)
def eFig (f : Fig) : List V := [.sl 4 (f.dome.bolts.map Qan), .sl 1 (f.dome.gores.map eI), .i f.dome.loss, .sl 2 (f.dome.rounds.map eSpan), .sl 1 (f.dome.widths.map eI), .i f.dome.slope,
 .i f.period, .i f.run, .i f.near, .sl 1 (f.starts.map eI), .sl 1 (f.times.map eI)]
def Qbk (r : Ring) : List V := [.sl 4 (r.fig.dome.bolts.map Qan), .sl 1 (r.fig.dome.gores.map eI), .i r.fig.dome.loss, .sl 2 (r.fig.dome.rounds.map eSpan), .sl 1 (r.fig.dome.widths.map eI), .i r.fig.dome.slope,
 .i r.fig.period, .i r.fig.run, .i r.fig.near, .sl 1 (r.fig.starts.map eI), .sl 1 (r.fig.times.map eI), .sl 1 (r.moves.map eCan)]
def dFig : List V → Fig | [a, b, c, d, e, f, g, h, i, j, k] => ⟨Qj9 [a, b, c, d, e, f], gI g, gI h, gI i, (gR j).map dI, (gR k).map dI⟩ | _ => ⟨Qj9 [], 0, 0, 0, [], []⟩
def Qn0 : List V → Ring | [a, b, c, d, e, f, g, h, i, j, k, l] => ⟨dFig [a, b, c, d, e, f, g, h, i, j, k], (gR l).map dCan⟩ | _ => ⟨dFig [], []⟩
theorem Qpq (f : Fig) : dFig (eFig f) = f := by
 have := Qeq f.dome
 unfold Qaj at this
 simp [dFig, eFig, gI, gR, this, Function.comp_def, Qs4]
theorem Qok (r : Ring) : Qn0 (Qbk r) = r := by
 have := Qpq r.fig
 unfold eFig at this
 simp [Qn0, Qbk, gR, this, Function.comp_def, Qvm]
def modN (a n : Int) : Int := ((a.tmod n) + n).tmod n
theorem Qo9 {a n : Int} (hn : 0 < n) : -n < a.tmod n ∧ a.tmod n < n := by
 have h1 := Xo a hn
 have h2 := Int.neg_tmod a n
 have h3 := Xo (-a) hn
 omega
theorem Qds {a n : Int} (hn : 0 < n) : modN a n = a % n := by
 unfold modN
 have h := Qo9 (a := a) hn
 rw [Int.tmod_eq_emod_of_nonneg (by omega), Int.add_emod_right, Int.tmod_eq_emod]
 split
 ·simp
 ·rw [Int.sub_emod]; simp [Int.natAbs_of_nonneg (Int.le_of_lt hn)]
theorem W70 (n lo hi : Int) : Qa9 Try.prog 73 [.i n, .i lo, .i hi] (.b (Qak n lo hi)) := by
 refine Qac okZ hmix Try.func73 cb73 cc73 cs73 cn73 ?_
 simp only [rc73, rs73, Qa7, Qa8, Qag, Qa6, Qad, Qa5, Qa2, Fam.step, Qae, Qbu, Qb8, ug, evO, opv, qv, Qao, binV, Qa3, Qa0, Qa1, ↓reduceIte, Nat.reduceEqDiff, Nat.reduceAdd, Qb, Qc, Qw, Qx, endQ, rvs, rv1, resV, vw_b, zipA, Qi, V.b.injEq, Qs, Ze, decide_eq_true_eq, decide_eq_false_iff_not, true_and, and_true, and_self, implies_true, reduceCtorEq, beq_true, Qg2, imp_self]
 by_cases h : lo ≤ n <;> simp [h, Qak]
theorem W84 (r : Ring) (a : Int) (hn : 0 < r.fig.period ∧ r.fig.period ≤ 1000000) : Qa9 Try.prog 49 [.pa (Qbk r), .i a] (.i (modN a r.fig.period)) := by
 refine Qac okZ hmix Try.func49 cb49 cc49 cs49 cn49 ?_
 simp only [rc49, rs49, Qa7, Qc6, Qa8, Qag, Qa6, Qbe, Qad, Qa5, Qa2, Fam.step, Qae, runX, eff, Qbb, fpR, fpQ, fpV, Qcj, hits, evO, opv, qv, binV, ldV, Qa3, Qa0, Qa1, ↓reduceIte, Nat.reduceEqDiff, Nat.reduceAdd, Nat.reduceLeDiff, Qb, Qc, Qx, Qd, Qe, Qh, Qk, Ql, Qp, Qn, Qj, Zh, Zr, Q4, Zf, endQ, rvs, rv1, resV, vw_i, zipA, Qi, V.i.injEq, Qs, Ze, Zu, Qr, Zi, Zj, Qa, true_and, and_self, reduceCtorEq, ne_eq, Zy, Zk, Qm, Qbk]
 have := Qo9 (a := a) hn.1
 refine ⟨by omega, by unfold inI; omega, by omega, rfl⟩
def eRN (a : Ring × Int) : List V := [.pa (Qbk a.1), .i a.2]
def dRN : List V → Ring × Int | [.pa r, .i n] => (Qn0 r, n) | _ => (Qn0 [], 0)
theorem Qwl (a : Ring × Int) : dRN (eRN a) = a := by obtain ⟨r, n⟩ := a; simp [dRN, eRN, Qok]
def s70 : List V → Prop × V | [.i n, .i lo, .i hi] => (True, .b (Qak n lo hi)) | _ => (False, .u)
theorem Qyd (vs : List V) (h : (s70 vs).1) : Qa9 Try.prog 73 vs (s70 vs).2 := by
 unfold s70 at h ⊢
 split at h
 ·exact W70 _ _ _
 ·exact h.elim
def s84 : List V → Prop × V := fnG eRN dRN (fun a => 0 < a.1.fig.period ∧ a.1.fig.period ≤ 1000000) (fun a => modN a.2 a.1.fig.period) .i
noncomputable def H1 : Gam := (GZ.ext 73 s70).ext 49 s84
theorem okH1 : GOk Try.prog H1 := by
 have k1 := okZ.ext (f := 73) (r := s70) (fun a w => Try.call73 a w) Qyd
 have k3 := k1.ext (f := 49) (r := s84) (fun a w => Try.call49 a w) (Qb7 fun a h => W84 a.1 a.2 h)
 exact k3
theorem h70 (n lo hi : Int) : H1 73 [.i n, .i lo, .i hi] = (True, .b (Qak n lo hi)) := rfl
theorem h84 (r : Ring) (a : Int) : H1 49 [.pa (Qbk r), .i a] = (0 < r.fig.period ∧ r.fig.period ≤ 1000000, .i (modN a r.fig.period)) :=
 (show H1 49 _ = s84 (eRN (r, a)) from rfl).trans (Qb9 _ (Qwl _))
def farN (p a b : Int) : Int := min (modN (a - b) p) (modN (b - a) p)
theorem W104 (r : Ring) (a b : Int) (hn : 0 < r.fig.period ∧ r.fig.period ≤ 1000000) (ha : tame 1000000 a) (hb : tame 1000000 b) : Qa9 Try.prog 74 [.pa (Qbk r), .i a, .i b] (.i (farN r.fig.period a b)) := by
 refine Qac okH1 hmix Try.func74 cb74 cc74 cs74 cn74 ?_
 have g1 := h84 r (a - b)
 have g2 := h84 r (b - a)
 unfold Qbk at g1 g2
 unfold tame at ha hb
 simp only [rc74, rs74, g1, g2, Qa7, Qa8, Qag, Qa6, Qad, Qa5, Qa2, Fam.step, Qae, evO, opv, qv, binV, Qaw, Qaa, Qa4, flat, Qa3, Qa0, Qa1, ↓reduceIte, Nat.reduceEqDiff, Nat.reduceAdd, Nat.reduceLT, Qb, Qc, Qj, endQ, rvs, rv1, resV, vw_i, Qdw, zipA, Qi, V.i.injEq, Qr, Qa, true_and, and_true, and_self, implies_true, reduceCtorEq, Qbk]
 exact ⟨by unfold inI; omega, hn, by unfold inI; omega, hn, rfl⟩
end Go.C02
