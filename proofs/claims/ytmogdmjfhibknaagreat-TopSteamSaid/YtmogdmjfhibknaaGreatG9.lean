import Derived.Test.YtmogdmjfhibknaaGreatG8
import Derived.Test.YtmogdmjfhibknaaGreatG4
import Derived.Test.YtmogdmjfhibknaaGreatChecked
set_option linter.all false
open List renaming contains_nil → Qd, replicate_succ → Qe, contains_cons → Qf, map_append → Qg, mem_of_getElem? → Ql, length_map → Qn, flatMap_cons → Qo, flatten_cons → Qq, flatten_nil → Qu, append_assoc → Qw, take_of_length_le → Qx, replicate → Qy, isEmpty_cons → Qz, take_length → Q0, flatMap_nil → Q1, nil_append → Q4, mem_append → Q5, map_nil → Q6, getElem?_eq_getElem → Q7, any_cons → Q8, all_eq_true → Q9, range → Za, length_singleton → Zc, length_filter_le → Zd, mem_append_left → Zf, length_append → Zh, mem_singleton → Zi, foldl_append → Zj, getElem?_map → Zk, length_range → Zl, cons_append → Zn, append_nil → Zp, foldl_cons → Zq
open Nat renaming le_refl → Qk, mul_one → Qv, zero_le → Zo
open Bool renaming false_eq_true → Qa, true_eq_false → Qb, and_false → Qr, and_eq_true → Qt, true_and → Q2, false_or → Q3, or_eq_false_iff → Zg, not_eq_true → Zm
open Option renaming map_eq_some_iff → Zb
open Int renaming lt_irrefl → Qc, natCast_zero → Qh, natCast_add → Qi, natCast_one → Qj, le_refl → Qm, toNat_natCast → Qp, tdiv_eq_ediv_of_nonneg → Qs, toNat_zero → Ze
set_option linter.all false
namespace Go.CS
open Go.Fam Go.Proofs
open Go.C06 (Span eI eIs Qbx gI gR dI Qbl Qcj fnG Qad Qab Qa6 Qa8 idxOf Qas Qaj Qal Qar Qai Qag Qac Qat Qb3 Qc5 vw_I Qay hmix eLI dLI Qca Qan Qa3 Qaa Qau)
variable {Γ : Gam}
noncomputable def K82 : Gam := K81.ext 38 (fnG eJl dJl (fun a => OkSt a.1 ∧ a.2.length ≤ 1000000) (fun a => Qdz a.1 a.2) (.i))
theorem Zfo : GOk Tryz.prog K82 := Zam.ext (f := 38) (fun a w => Tryz.call38 a w) (Qad (e := eJl) (d := dJl) (ok := fun a => OkSt a.1 ∧ a.2.length ≤ 1000000) (g := fun a => Qdz a.1 a.2) (eb := .i) fun a h => W38 a.1 a.2 h.1 h.2)
theorem h38 (s : Shop) (l : List Job) : K82 38 [.pa (Qaz s), .sl 3 (l.map eJob)] = (OkSt s ∧ l.length ≤ 1000000, .i (Qdz s l)) := (show K82 38 _ = fnG eJl dJl (fun a => OkSt a.1 ∧ a.2.length ≤ 1000000) (fun a => Qdz a.1 a.2) (.i) (eJl (s, l)) from rfl).trans (Qab _ (Zd0 (s, l)))
theorem Zbu (s : Shop) (plan : List Int) : K82 36 [.pa (Qaz s), .sl 1 (plan.map eI)] = (OkPl s plan, Qek (Qdy s plan)) := h36 s plan
theorem Qkb {s : Shop} {plan : List Int} (h : OkPl s plan) {l : List Job} (e : Qdy s plan = some l) : l.length ≤ 24 := by
 have h1 := Qka h plan.length l (Qk _) e
 have h2 := h.len
 have h3 := h.st.s.nwi
 omega
def Qbu (s : Shop) (plan : List Int) : Bool := match Qdy s plan with | some l => decide (Qdz s l = 0) | none => false
theorem W41 (s : Shop) (plan : List Int) (h : OkPl s plan) : Qa5 Tryz.prog 41 [.pa (Qaz s), .sl 1 (plan.map eI)] (.b (Qbu s plan)) := by
 refine Qa4 Zfo hmix Tryz.func41 cf41.b cf41.c cf41.s cf41.n ?_
 have g1 := Zbu s plan
 have g2 := fun l => h38 s l
 cases e : Qdy s plan with
 | none =>
  rw [e] at g1
  simp only [rc41, rs41, g1, Qek, h, Qbu, e, Qa0, Qbh, binW, Qa2, Qa1, flat, Qc4, ↓reduceIte, Nat.reduceEqDiff, Nat.reduceAdd, Nat.reduceLT, rvs, zipA, Qa, forall_const, implies_true, reduceCtorEq, imp_self, BU1]
 | some l =>
  rw [e] at g1
  have hl := Qkb h e
  have hl2 : l.length ≤ 1000000 := by omega
  have hst := h.st
  simp only [rc41, rs41, g1, Qek, h, Qbu, e, g2, hst, hl2, Qa0, Qa2, Qa1, flat, Qc4, ↓reduceIte, Nat.reduceEqDiff, Nat.reduceAdd, Nat.reduceLT, rvs, zipA, beq_self_eq_true, Qa, Qb, forall_const, implies_true, reduceCtorEq, imp_self, BU1]
noncomputable def K83 : Gam := K82.ext 41 (fnG ePl dPl (fun a => OkPl a.1 a.2) (fun a => Qbu a.1 a.2) (.b))
theorem Zfp : GOk Tryz.prog K83 := Zfo.ext (f := 41) (fun a w => Tryz.call41 a w) (Qad (e := ePl) (d := dPl) (ok := fun a => OkPl a.1 a.2) (g := fun a => Qbu a.1 a.2) (eb := .b) fun a h => W41 a.1 a.2 h)
theorem h41 (s : Shop) (plan : List Int) : K83 41 [.pa (Qaz s), .sl 1 (plan.map eI)] = (OkPl s plan, .b (Qbu s plan)) := (show K83 41 _ = fnG ePl dPl (fun a => OkPl a.1 a.2) (fun a => Qbu a.1 a.2) (.b) (ePl (s, plan)) from rfl).trans (Qab _ (Qzo (s, plan)))
def fitB (s : Shop) (first : List Int) (i : Nat) : Bool := !decide ((i : Int) ∈ first) && !decide (Qd1 (Qc3 s first.length) (Qba s i) = 0)
def Qcm (s : Shop) (e : Int) : Nat → List Int → List (List Int)
 | 0, first => [first]
 | k + 1, first => ((Za s.pieces.length).filter (fitB s first)).flatMap (fun (i : Nat) => Qcm s e k (first ++ [(i : Int)])) ++ (if e = 0 then [] else Qcm s e k (first ++ [-1]))
def encF (p : List Int) : V := if p = [] then .z 1 else .sl 1 (p.map eI)
def encP (p : List Int) : List V := gyE [encF p] []
structure D62 where
 s : Shop
 first : List Int
 e : Int
 caps : List V
 rest : List (List V)
 b0 : V
 l : Nat
def lenP (x : D62) : Nat := x.s.wishes.length - x.first.length
def eA62 (x : D62) : List V := [.pa (Qaz x.s), encF x.first, .i x.e, .yl x.l]
def eH62 (x : D62) : List Blk := [.gh x.caps (some ((.b true :: [x.b0]) :: ((Qcm x.s x.e (lenP x) x.first).map encP ++ x.rest))), vB x.b0]
def decF : V → List Int | .sl _ l => l.map dI | _ => []
theorem Zdd (p : List Int) : decF (encF p) = p := by
 unfold encF
 split
 ·rename_i h; rw [h]; rfl
 ·simp [decF, Function.comp_def, Qbl]
def Qwn (xs : List V) (hp : List Blk) : D62 := match xs, hp with
 | [.pa s, p, .i e, .yl l], [.gh caps (some ([_, b0] :: ys)), _] => ⟨Qdc s, decF p, e, caps, ys.drop (Qcm (Qdc s) e ((Qdc s).wishes.length - (decF p).length) (decF p)).length, b0, l⟩
 | _, _ => ⟨Qdc [], [], 0, [], [], .u, 0⟩
theorem Qzq (x : D62) : Qwn (eA62 x) (eH62 x) = x := by
 obtain ⟨s, p, e, caps, rest, b0, l⟩ := x
 simp only [Qwn, eA62, eH62, Qg9, Zdd, lenP]
 rw [List.drop_append_of_le_length (by simp)]
 simp
structure C62 (k : Nat) (al : List V → Prop) (x : D62) : Prop where
 y : x.caps[0]? = some (.yl x.l)
 st : OkSt x.s
 f : x.first.length ≤ x.s.wishes.length
 k : lenP x < k
 now : al [x.b0]
 one : ∀ bv, al bv → ∃ b, bv = [b]
 cut : ∀ b hp, al [b] → cutB hp 2 (vB b) = vB b
def R62 (al : List V → Prop) (x : D62) (r : V) (hp : List Blk) : Prop :=
 ∃ (b : Bool) (b0 : V), al [b0] ∧ r = .b b ∧ hp = [.gh x.caps (some ((.b b :: [b0]) :: if b then x.rest else [])), vB b0]
noncomputable def HP (k : Nat) : Gam := K83.extY 62 fun al => hpG eA62 eH62 Qwn (C62 k al) (R62 al)
theorem kP (k : Nat) (al : List V → Prop) (x : D62) : ((HP k).wal al).y 62 al (eA62 x) (eH62 x) = (C62 k al x, R62 al x) :=
 (show ((HP k).wal al).y 62 al _ _ = hpG eA62 eH62 Qwn (C62 k al) (R62 al) _ _ from rfl).trans (Qo9 x (Qzq x))
set_option maxHeartbeats 1000000 in
theorem W62 (k : Nat) (hG : GOk Tryz.prog (HP k)) (al : List V → Prop) (x : D62) (h : C62 (k + 1) al x) : Qi4 Tryz.prog 62 al (eA62 x) (eH62 x) (R62 al x) := by
 refine Qg6 (hG.wal al) hmix Tryz.func62 cf62.b (lo := 2) cf62.c cf62.s (by exact cf62.n) (by rfl) (by decide) ?_
 obtain ⟨s, first, e, caps, rest, b0, l⟩ := x
 obtain ⟨hy, hst, hf, hk, hal, hone, hcut⟩ := h
 simp only [lenP] at hy hf hk hal hst
 have hyal : ((HP k).wal al).al = al := rfl
 have gC : ∀ (l : List Int) (n : Int), ((HP k).wal al) 84 [.sl 1 (l.map eI), .i n] = (l.length < 10000000, .b (decide (n ∈ l))) := fun l n => h84 l n
 have gS : ∀ (x : Wish) (p : Piece), ((HP k).wal al) 63 [.ag (eWish x), .ag (ePiece p)] = (x.colors.length < 10000000, .i (Qd1 x p)) := fun x p => h63 x p
 have gP := fun (f : List Int) (rest : List (List V)) (b : V) => kP k al ⟨s, f, e, caps, rest, b, l⟩
 simp only [eA62, eH62, lenP] at gP
 have hst0 : Qaz s = [.sl 4 (s.work.spares.map eSpare), .sl 1 (s.work.makes.map eMake), .i s.work.cut, .sl 4 (s.work.table.map eTrial), .sl 1 (s.stock.map eI), .sl 5 (s.pieces.map ePiece), .sl 6 (s.wishes.map eWish), .sl 3 (s.dels.map eDel), .i s.carve, .sl 2 ((Qb8 s).map eSp), .pm true (aks (Qbn s.work)) (avs .i (Qbn s.work))] := rfl
 generalize (Qb8 s).map eSp = sp0 at hst0
 generalize aks (Qbn s.work) = ks0 at hst0
 generalize avs V.i (Qbn s.work) = vs0 at hst0
 have hl7 : first.length < 10000000 := by have := hst.s.nwi; omega
 have hcase : (encF first = .z 1 ∧ first = []) ∨ encF first = .sl 1 (first.map eI) := by
  unfold encF
  by_cases h : first = []
  ·exact .inl ⟨by rw [if_pos h], h⟩
  ·exact .inr (by rw [if_neg h])
 obtain ⟨TL, hTL⟩ : ∃ T, T = (if e = 0 then [] else Qcm s e (s.wishes.length - (first.length + 1)) (first ++ [-1])) := ⟨_, rfl⟩
 obtain ⟨rem, hrem⟩ : ∃ rem : Nat → List (List Int), rem = fun j => (((Za s.pieces.length).drop j).filter (fitB s first)).flatMap fun (i : Nat) => Qcm s e (s.wishes.length - (first.length + 1)) (first ++ [(i : Int)]) := ⟨_, rfl⟩
 have hr0 : first.length ≠ s.wishes.length → Qcm s e (s.wishes.length - first.length) first = rem 0 ++ TL := by
  intro hne
  obtain ⟨K, hK⟩ : ∃ K, s.wishes.length - first.length = K + 1 := ⟨s.wishes.length - first.length - 1, by omega⟩
  have hK2 : s.wishes.length - (first.length + 1) = K := by omega
  rw [hK, hrem, hTL, hK2]; rfl
 have hrs : ∀ j, j < s.pieces.length → rem j = (if fitB s first j = true then Qcm s e (s.wishes.length - (first.length + 1)) (first ++ [(j : Int)]) else []) ++ rem (j + 1) := by
  intro j hj
  rw [hrem]
  simp only
  rw [Qat (List.getElem?_range hj), List.filter_cons]
  split
  ·rw [Qo]
  ·rfl
 have hre : rem s.pieces.length = [] := by
  rw [hrem]
  simp only
  rw [List.drop_eq_nil_iff.2 (by simp)]; rfl
 rcases hcase with ⟨hF, hz⟩ | hF
 ·have eN : first.length = 0 := by rw [hz]; rfl
  have gN : ∀ (rest : List (List V)) (b : V) (x : Int), ((HP k).wal al).y 62 al [.pa (Qaz s), .sl 1 [[.i x]], .i e, .yl l] [.gh caps (some ((.b true :: [b]) :: ((Qcm s e (s.wishes.length - (first ++ [x]).length) (first ++ [x])).map encP ++ rest))), vB b] = (C62 k al ⟨s, first ++ [x], e, caps, rest, b, l⟩, R62 al ⟨s, first ++ [x], e, caps, rest, b, l⟩) := by
   intro rest b x
   rw [← gP]
   simp [encF, hz, eI]
  have gc : ∀ n : Int, ((HP k).wal al) 84 [.sl 1 [], .i n] = (True, .b (decide (n ∈ first))) := by
   intro n
   have := gC first n
   rw [hz] at this
   rw [hz]
   simpa [hl7] using this
  rw [hst0] at gN
  by_cases hfn : first.length = s.wishes.length
  ·have e0 : (0 : Int) = (s.wishes.length : Int) := by omega
   have ey : Qcm s e (s.wishes.length - first.length) first = [first] := by rw [hfn, Nat.sub_self]; rfl
   simp only [rc62, rs62, eA62, eH62, hst0, lenP, hF, ey, encP, hy, hyal, ← e0, gyE, Qu8, yres, endK, Qa0, ↓reduceIte, Nat.reduceEqDiff, Nat.reduceAdd, Nat.reduceLeDiff, Int.reduceNeg, rvs, zipA, Qa, reduceCtorEq, BU1]
   intro b bv' hbv
   obtain ⟨b', rfl⟩ := hone bv' hbv
   refine ⟨b, b', hbv, rfl, ?_⟩
   simp
  ·have e0 : ¬ (0 : Int) = (s.wishes.length : Int) := by omega
   have hr0 := hr0 hfn
   have hw := Qi2 (s := s) (i := first.length) (by omega)
   have hcol : (Qc3 s first.length).colors.length < 10000000 := by
    have hokw := hst.s.wi _ (Ql hw)
    unfold okWish at hokw
    simp only [Qt, Qav] at hokw
    omega
   have hfit : ∀ j : Nat, fitB s first j = (!decide ((j : Int) ∈ first) && !decide (Qd1 (Qc3 s first.length) (Qba s j) = 0)) := fun _ => rfl
   obtain ⟨X, hX⟩ : ∃ X, X = Qc3 s first.length := ⟨_, rfl⟩
   rw [← hX] at hw hcol
   simp only [← hX] at hfit
   have hlw : (first.length : Int) < s.wishes.length := by omega
   rw [eN] at hw hlw
   rw [Qh] at hlw
   have hcb : ∀ b, al [b] → ∀ hp, cutB hp 2 (vB b) = vB b := fun b h hp => hcut b hp h
   simp only [cutB] at hcb
   have hcb0 := hcb b0 hal
   simp only [rc62, rs62, eA62, eH62, hst0, lenP, hF, e0, Qa0, ↓reduceIte, Nat.reduceEqDiff, Nat.reduceAdd, Nat.reduceLeDiff, Int.reduceNeg, zipA, Qa, reduceCtorEq, BU1]
   refine Qan s.pieces.length (fun j b => ⟨lkp [(0, .pa [.sl 4 (s.work.spares.map eSpare), .sl 1 (s.work.makes.map eMake), .i s.work.cut, .sl 4 (s.work.table.map eTrial), .sl 1 (s.stock.map eI), .sl 5 (s.pieces.map ePiece), .sl 6 (s.wishes.map eWish), .sl 3 (s.dels.map eDel), .i s.carve, .sl 2 sp0, .pm true ks0 vs0]), (1, .z 1), (2, .i e), (3, .yl l), (9, .i 0), (29, .sl 5 (s.pieces.map ePiece)), (30, .i s.pieces.length), (31, .i j)], [.gh caps (some ((.b true :: [b]) :: ((rem j).map encP ++ (TL.map encP ++ rest)))), vB b]⟩) (fun j b => al [b]) b0 ?_ hal ?_ ?_
   ·simp only [Qh, hr0, Qg, Qw, hcb0, cutV, cutB, ↓reduceIte, Nat.reduceEqDiff, reduceCtorEq, BU1]
   ·intro j b hj hb
    have hlt : (j : Int) < s.pieces.length := by omega
    have i1 : inI ((j : Int) + 1) := by unfold inI; have := hst.s.npc; omega
    have hpj := Qhr (s := s) (x := j) (by omega)
    rw [Qp] at hpj
    have hrj := hrs j hj
    have gS1 := gS X (Qba s j)
    have hfj := hfit j
    have hpk : Qba s (j : Int) = Qba s j := rfl
    obtain ⟨p, hp⟩ : ∃ p, p = Qba s j := ⟨_, rfl⟩
    rw [← hp] at hpj gS1 hfj
    simp only [eWish, ePiece] at gS1
    have hcb1 := hcb b hb
    have hskip : fitB s first j = false → rem (j + 1) = rem j := fun e => by rw [hrj, if_neg (by rw [e]; simp), Q4]
    by_cases m1 : (j : Int) ∈ first
    ·have q := hskip (by rw [hfj]; simp [m1])
     simp only [hlt, hpj, hw, gc, i1, gS1, hcol, m1, hcb1, hlw, Qbd, ↓Qam, Qaq, Qa0, runX, fpQ, fpV, Qah, Qa2, Qa1, flat, cutV, cutB, ↓reduceIte, Nat.reduceEqDiff, Nat.reduceAdd, Nat.reduceLT, Nat.reduceLeDiff, Int.reduceNeg, Ze, Int.reduceLE, vw_z, Qa, Qb, forall_const, implies_true, reduceCtorEq, Qf, Qd, imp_self, ePiece, eWish, BU1]
     exact ⟨b, hb, by simp [q]⟩
    by_cases m2 : Qd1 X p = 0
    ·have q := hskip (by rw [hfj]; simp [m2])
     simp only [hlt, hpj, hw, gc, i1, gS1, hcol, m1, m2, hcb1, hlw, Qbd, ↓Qam, Qaq, Qa0, runX, fpQ, fpV, Qah, Qa2, Qa1, flat, cutV, cutB, ↓reduceIte, Nat.reduceEqDiff, Nat.reduceAdd, Nat.reduceLT, Nat.reduceLeDiff, Int.reduceNeg, Ze, Int.reduceLE, vw_z, beq_self_eq_true, Qa, forall_const, implies_true, reduceCtorEq, Qf, Qd, ePiece, eWish, BU1]
     exact ⟨b, hb, by simp [q]⟩
    rw [if_pos (by rw [hfj]; simp [m1, m2])] at hrj
    have g := gN ((rem (j + 1)).map encP ++ (TL.map encP ++ rest)) b j
    have ek : s.wishes.length - (first ++ [(j : Int)]).length = s.wishes.length - (first.length + 1) := by simp
    rw [ek, ← Qw ((Qcm s e (s.wishes.length - (first.length + 1)) (first ++ [(j : Int)])).map encP), ← Qg, ← hrj] at g
    obtain ⟨L, hL⟩ : ∃ L, L = first ++ [(j : Int)] := ⟨_, rfl⟩
    have hLl : first.length + 1 = L.length := by rw [hL]; simp
    have hfx : (first.map eI).flatten ++ [V.i (j : Int)] = L.map V.i := by rw [Go.C06.flat_I, hL, Qg]; rfl
    have hfi : L.length ≤ 2147483648 := by have := hst.s.nwi; omega
    rw [← hL] at g
    simp only [hlt, hpj, hw, gc, i1, gS1, hcol, m1, m2, hcb1, hlw, hyal, g, hpF, upB, upL, upV, Qao, Nat.reduceLeDiff, Qq, Qu, Qv, Qk, Qdp, Qbd, Qgu, Qdv, Qgv, Qht, drpS, Qck, ↓Qam, Qaq, endK, Qa0, runX, fpQ, fpV, Qbt, slxV, Qak, Qaw, Qb2, Qah, Qa2, Qa1, flat, cutV, cutB, ↓reduceIte, Nat.reduceEqDiff, Nat.reduceAdd, Nat.reduceLT, Nat.reduceLeDiff, Int.reduceNeg, Ze, Int.reduceLE, Qe, rvs, vw_z, Qdk, beq_self_eq_true, Qa, forall_const, implies_true, reduceCtorEq, not_false_eq_true, ne_eq, Qf, Qd, Zm, ePiece, eWish, BU1]
    refine ⟨⟨hy, hst, by show L.length ≤ s.wishes.length; omega, by show s.wishes.length - L.length < k; omega, hb, hone, hcut⟩, ?_⟩
    rintro r hp' ⟨bb, b2, hb2, rfl, rfl⟩
    have hcb2 := hcb b2 hb2
    cases bb with
    | false =>
     simp only [cutB, ↓reduceIte, Qa, Qb, forall_const, BU1]
     exact ⟨false, b2, hb2, rfl, by simp⟩
    | true =>
     simp only [hcb2, cutB, ↓reduceIte, Qa, forall_const, BU1]
     exact ⟨b2, hb2, rfl⟩
   ·intro b hb
    have hcb1 := hcb b hb
    by_cases e1 : e = 0
    ·have hTL0 : TL = [] := by rw [hTL, if_pos e1]
     simp only [Qc, hre, e1, hTL0, Qgu, Qdv, Qgv, Qox, Qht, Qck, endK, Qa0, Qb7, slxV, Qak, Qaw, Qb2, Qah, Qa2, Qa1, ↓reduceIte, Nat.reduceEqDiff, Nat.reduceMul, Nat.reduceLeDiff, Int.reduceNeg, Qe, rvs, Qc, Qa, Qb, forall_const, implies_true, reduceCtorEq, not_false_eq_true, ne_eq, imp_self, BU1]
     exact ⟨true, b, hb, rfl, by simp⟩
    ·have hTL0 : TL = Qcm s e (s.wishes.length - (first.length + 1)) (first ++ [-1]) := by rw [hTL, if_neg e1]
     have g := gN rest b (-1)
     have ek : s.wishes.length - (first ++ [(-1 : Int)]).length = s.wishes.length - (first.length + 1) := by simp
     rw [ek, ← hTL0] at g
     obtain ⟨L, hL⟩ : ∃ L, L = first ++ [(-1 : Int)] := ⟨_, rfl⟩
     have hLl : first.length + 1 = L.length := by rw [hL]; simp
     have hfx : (first.map eI).flatten ++ [V.i (-1)] = L.map V.i := by rw [Go.C06.flat_I, hL, Qg]; rfl
     have hfi : L.length ≤ 2147483648 := by have := hst.s.nwi; omega
     rw [← hL] at g
     simp only [Qc, hre, e1, hcb1, hyal, g, hpF, upB, upL, upV, Qao, Nat.reduceLeDiff, Qq, Qu, Qv, Qk, Qgu, Qdv, Qgv, Qox, Qht, drpS, Qck, ↓Qam, endK, Qa0, Qbt, slxV, Qak, Qaw, Qb2, Qah, Qa2, Qa1, cutV, cutB, ↓reduceIte, Nat.reduceEqDiff, Nat.reduceAdd, Nat.reduceLT, Nat.reduceLeDiff, Int.reduceNeg, Qe, rvs, Qdk, Qc, beq_self_eq_true, Qa, forall_const, implies_true, reduceCtorEq, not_false_eq_true, ne_eq, BU1]
     refine ⟨⟨hy, hst, by show L.length ≤ s.wishes.length; omega, by show s.wishes.length - L.length < k; omega, hb, hone, hcut⟩, ?_⟩
     rintro r hp' ⟨bb, b2, hb2, rfl, rfl⟩
     have hcb2 := hcb b2 hb2
     simp only [Qhq, ↓reduceIte, Qa, true_and, and_self]
     exact ⟨bb, b2, hb2, rfl, by cases bb <;> simp⟩
 ·have eN : first.length = first.length := rfl
  have gN : ∀ (rest : List (List V)) (b : V) (x : Int), ((HP k).wal al).y 62 al [.pa (Qaz s), .sl 1 ((first ++ [x]).map eI), .i e, .yl l] [.gh caps (some ((.b true :: [b]) :: ((Qcm s e (s.wishes.length - (first ++ [x]).length) (first ++ [x])).map encP ++ rest))), vB b] = (C62 k al ⟨s, first ++ [x], e, caps, rest, b, l⟩, R62 al ⟨s, first ++ [x], e, caps, rest, b, l⟩) := by
   intro rest b x
   rw [← gP]
   simp [encF, eI]
  have gc : ∀ n : Int, ((HP k).wal al) 84 [.sl 1 (first.map eI), .i n] = (True, .b (decide (n ∈ first))) := by
   intro n
   have := gC first n
   rw []
   simpa [hl7] using this
  rw [hst0] at gN
  by_cases hfn : first.length = s.wishes.length
  ·have e0 : (first.length : Int) = (s.wishes.length : Int) := by omega
   have ey : Qcm s e (s.wishes.length - first.length) first = [first] := by rw [hfn, Nat.sub_self]; rfl
   simp only [rc62, rs62, eA62, eH62, hst0, lenP, hF, ey, encP, hy, hyal, e0, gyE, Qu8, yres, endK, Qa0, ↓reduceIte, Nat.reduceEqDiff, Nat.reduceAdd, Nat.reduceLeDiff, Int.reduceNeg, rvs, zipA, Qa, reduceCtorEq, BU1]
   intro b bv' hbv
   obtain ⟨b', rfl⟩ := hone bv' hbv
   refine ⟨b, b', hbv, rfl, ?_⟩
   simp
  ·have e0 : ¬ (first.length : Int) = (s.wishes.length : Int) := by omega
   have hr0 := hr0 hfn
   have hw := Qi2 (s := s) (i := first.length) (by omega)
   have hcol : (Qc3 s first.length).colors.length < 10000000 := by
    have hokw := hst.s.wi _ (Ql hw)
    unfold okWish at hokw
    simp only [Qt, Qav] at hokw
    omega
   have hfit : ∀ j : Nat, fitB s first j = (!decide ((j : Int) ∈ first) && !decide (Qd1 (Qc3 s first.length) (Qba s j) = 0)) := fun _ => rfl
   obtain ⟨X, hX⟩ : ∃ X, X = Qc3 s first.length := ⟨_, rfl⟩
   rw [← hX] at hw hcol
   simp only [← hX] at hfit
   have hlw : (first.length : Int) < s.wishes.length := by omega
   rw [eN] at hw hlw
   have hta : (first.map eI).take first.length = first.map eI := Qx (by simp)
   have hcb : ∀ b, al [b] → ∀ hp, cutB hp 2 (vB b) = vB b := fun b h hp => hcut b hp h
   simp only [cutB] at hcb
   have hcb0 := hcb b0 hal
   simp only [rc62, rs62, eA62, eH62, hst0, lenP, hF, e0, Qa0, ↓reduceIte, Nat.reduceEqDiff, Nat.reduceAdd, Nat.reduceLeDiff, Int.reduceNeg, zipA, Qa, reduceCtorEq, BU1]
   refine Qan s.pieces.length (fun j b => ⟨lkp [(0, .pa [.sl 4 (s.work.spares.map eSpare), .sl 1 (s.work.makes.map eMake), .i s.work.cut, .sl 4 (s.work.table.map eTrial), .sl 1 (s.stock.map eI), .sl 5 (s.pieces.map ePiece), .sl 6 (s.wishes.map eWish), .sl 3 (s.dels.map eDel), .i s.carve, .sl 2 sp0, .pm true ks0 vs0]), (1, .sl 1 (first.map eI)), (2, .i e), (3, .yl l), (9, .i first.length), (29, .sl 5 (s.pieces.map ePiece)), (30, .i s.pieces.length), (31, .i j)], [.gh caps (some ((.b true :: [b]) :: ((rem j).map encP ++ (TL.map encP ++ rest)))), vB b]⟩) (fun j b => al [b]) b0 ?_ hal ?_ ?_
   ·simp only [Qh, hr0, Qg, Qw, hcb0, cutV, cutB, ↓reduceIte, Nat.reduceEqDiff, reduceCtorEq, BU1]
   ·intro j b hj hb
    have hlt : (j : Int) < s.pieces.length := by omega
    have i1 : inI ((j : Int) + 1) := by unfold inI; have := hst.s.npc; omega
    have hpj := Qhr (s := s) (x := j) (by omega)
    rw [Qp] at hpj
    have hrj := hrs j hj
    have gS1 := gS X (Qba s j)
    have hfj := hfit j
    have hpk : Qba s (j : Int) = Qba s j := rfl
    obtain ⟨p, hp⟩ : ∃ p, p = Qba s j := ⟨_, rfl⟩
    rw [← hp] at hpj gS1 hfj
    simp only [eWish, ePiece] at gS1
    have hcb1 := hcb b hb
    have hskip : fitB s first j = false → rem (j + 1) = rem j := fun e => by rw [hrj, if_neg (by rw [e]; simp), Q4]
    by_cases m1 : (j : Int) ∈ first
    ·have q := hskip (by rw [hfj]; simp [m1])
     simp only [hlt, hpj, hw, gc, i1, gS1, hcol, m1, hcb1, hlw, Qbd, ↓Qam, Qaq, Qa0, runX, fpQ, fpV, Qah, Qa2, Qa1, flat, cutV, cutB, ↓reduceIte, Nat.reduceEqDiff, Nat.reduceAdd, Nat.reduceLT, Nat.reduceLeDiff, Int.reduceNeg, Qa, Qb, forall_const, implies_true, reduceCtorEq, Qf, Qd, imp_self, ePiece, eWish, BU1]
     exact ⟨b, hb, by simp [q]⟩
    by_cases m2 : Qd1 X p = 0
    ·have q := hskip (by rw [hfj]; simp [m2])
     simp only [hlt, hpj, hw, gc, i1, gS1, hcol, m1, m2, hcb1, hlw, Qbd, ↓Qam, Qaq, Qa0, runX, fpQ, fpV, Qah, Qa2, Qa1, flat, cutV, cutB, ↓reduceIte, Nat.reduceEqDiff, Nat.reduceAdd, Nat.reduceLT, Nat.reduceLeDiff, Int.reduceNeg, beq_self_eq_true, Qa, forall_const, implies_true, reduceCtorEq, Qf, Qd, ePiece, eWish, BU1]
     exact ⟨b, hb, by simp [q]⟩
    rw [if_pos (by rw [hfj]; simp [m1, m2])] at hrj
    have g := gN ((rem (j + 1)).map encP ++ (TL.map encP ++ rest)) b j
    have ek : s.wishes.length - (first ++ [(j : Int)]).length = s.wishes.length - (first.length + 1) := by simp
    rw [ek, ← Qw ((Qcm s e (s.wishes.length - (first.length + 1)) (first ++ [(j : Int)])).map encP), ← Qg, ← hrj] at g
    obtain ⟨L, hL⟩ : ∃ L, L = first ++ [(j : Int)] := ⟨_, rfl⟩
    have hLl : first.length + 1 = L.length := by rw [hL]; simp
    have hfx : (first.map eI).flatten ++ [V.i (j : Int)] = L.map V.i := by rw [Go.C06.flat_I, hL, Qg]; rfl
    have hfi : L.length ≤ 2147483648 := by have := hst.s.nwi; omega
    rw [← hL] at g
    simp only [hlt, hpj, hw, gc, i1, gS1, hcol, m1, m2, hcb1, hlw, hyal, g, hpF, upB, upL, upV, Qao, Nat.reduceLeDiff, Qq, Qu, Qv, Qk, hta, hfx, hLl, Go.C06.chunkI, vw_I, hfi, Qau _ _ (Go.C06.noref_Is _), Qdp, Qbd, Qgu, Qdv, Qgv, Qht, drpS, Qck, ↓Qam, Qaq, endK, Qa0, runX, fpQ, fpV, Qbt, slxV, Qak, Qaw, Qb2, Qah, Qa2, Qa1, flat, cutV, cutB, ↓reduceIte, Nat.reduceEqDiff, Nat.reduceAdd, Nat.reduceLT, Nat.reduceLeDiff, Int.reduceNeg, Qe, rvs, Qdk, beq_self_eq_true, Qa, forall_const, implies_true, reduceCtorEq, not_false_eq_true, ne_eq, Qf, Qd, Zm, ePiece, eWish, BU1]
    refine ⟨Qm _, ⟨hy, hst, by show L.length ≤ s.wishes.length; omega, by show s.wishes.length - L.length < k; omega, hb, hone, hcut⟩, ?_⟩
    rintro r hp' ⟨bb, b2, hb2, rfl, rfl⟩
    have hcb2 := hcb b2 hb2
    cases bb with
    | false =>
     simp only [cutB, ↓reduceIte, Qa, Qb, forall_const, BU1]
     exact ⟨false, b2, hb2, rfl, by simp⟩
    | true =>
     simp only [hcb2, cutB, ↓reduceIte, Qa, forall_const, BU1]
     exact ⟨b2, hb2, rfl⟩
   ·intro b hb
    have hcb1 := hcb b hb
    by_cases e1 : e = 0
    ·have hTL0 : TL = [] := by rw [hTL, if_pos e1]
     simp only [Qc, hre, e1, hTL0, Qgu, Qdv, Qgv, Qox, Qht, Qck, endK, Qa0, Qb7, slxV, Qak, Qaw, Qb2, Qah, Qa2, Qa1, ↓reduceIte, Nat.reduceEqDiff, Nat.reduceMul, Nat.reduceLeDiff, Int.reduceNeg, Qe, rvs, Qc, Qa, Qb, forall_const, implies_true, reduceCtorEq, not_false_eq_true, ne_eq, imp_self, BU1]
     exact ⟨true, b, hb, rfl, by simp⟩
    ·have hTL0 : TL = Qcm s e (s.wishes.length - (first.length + 1)) (first ++ [-1]) := by rw [hTL, if_neg e1]
     have g := gN rest b (-1)
     have ek : s.wishes.length - (first ++ [(-1 : Int)]).length = s.wishes.length - (first.length + 1) := by simp
     rw [ek, ← hTL0] at g
     obtain ⟨L, hL⟩ : ∃ L, L = first ++ [(-1 : Int)] := ⟨_, rfl⟩
     have hLl : first.length + 1 = L.length := by rw [hL]; simp
     have hfx : (first.map eI).flatten ++ [V.i (-1)] = L.map V.i := by rw [Go.C06.flat_I, hL, Qg]; rfl
     have hfi : L.length ≤ 2147483648 := by have := hst.s.nwi; omega
     rw [← hL] at g
     simp only [Qc, hre, e1, hcb1, hyal, g, hpF, upB, Qao, Qq, Qu, Qv, Qk, hta, hfx, hLl, Go.C06.chunkI, vw_I, hfi, Qau _ _ (Go.C06.noref_Is _), Qgu, Qdv, Qgv, Qox, Qht, drpS, Qck, ↓Qam, endK, Qa0, Qbt, slxV, Qak, Qaw, Qb2, Qah, Qa2, Qa1, cutV, cutB, ↓reduceIte, Nat.reduceEqDiff, Nat.reduceAdd, Nat.reduceLT, Int.reduceNeg, Qe, rvs, Qdk, Qc, beq_self_eq_true, Qa, forall_const, implies_true, reduceCtorEq, not_false_eq_true, ne_eq, BU1]
     refine ⟨Qm _, ⟨hy, hst, by show L.length ≤ s.wishes.length; omega, by show s.wishes.length - L.length < k; omega, hb, hone, hcut⟩, ?_⟩
     rintro r hp' ⟨bb, b2, hb2, rfl, rfl⟩
     have hcb2 := hcb b2 hb2
     simp only [Qhq, ↓reduceIte, Qa, true_and, and_self]
     exact ⟨bb, b2, hb2, rfl, by cases bb <;> simp⟩
theorem okHP : ∀ k, GOk Tryz.prog (HP k) := by
 intro k
 induction k with
 | zero =>
  refine Zfp.extY (f := 62) (fun a w => Tryz.call62 a w) fun al => Qwv fun x hx => ?_
  have := hx.k
  omega
 | succ k ih => exact Zfp.extY (f := 62) (fun a w => Tryz.call62 a w) fun al => Qwv fun x hx => W62 k ih al x hx
end Go.CS
set_option linter.all false
namespace Go.CS
open Go.Fam Go.Proofs
open Go.C06 (Span eI eIs Qbx gI gR dI Qbl Qcj fnG Qad Qab Qa6 Qa8 idxOf Qas Qaj Qal Qar Qai Qag Qac Qat Qb3 Qc5 vw_I Qay hmix eLI dLI Qca Qan Qa3 Qaa Qau)
variable {Γ : Gam}
def Qcr (s : Shop) (e : Int) : List (List Int) := Qcm s e s.wishes.length []
def itP (s : Shop) (e : Int) (l : Nat) (b0 : V) : List Blk := [.gh [.yl l, .pa (Qaz s)] (some ((.b true :: [b0]) :: (Qcr s e).map encP)), vB b0]
def tP (e : Int) (al : List V → Prop) (xs : List V) (hp : List Blk) : Prop × (V → List Blk → Prop) :=
 (∃ s l b0, OkSt s ∧ al [b0] ∧ (∀ bv, al bv → ∃ b, bv = [b]) ∧ (∀ b hp, al [b] → cutB hp 2 (vB b) = vB b) ∧ xs = [.pa (Qaz s), .yl l] ∧ hp = itP s e l b0,
  fun r hp => ∃ s l, xs = [.pa (Qaz s), .yl l] ∧ Go.C06.RIt al [.yl l, .pa (Qaz s)] r hp)
theorem W77 (al : List V → Prop) (s : Shop) (l : Nat) (b0 : V) (hst : OkSt s) (hal : al [b0]) (hone : ∀ bv, al bv → ∃ b, bv = [b]) (hcut : ∀ b hp, al [b] → cutB hp 2 (vB b) = vB b) :
  Qi4 Tryz.prog 77 al [.pa (Qaz s), .yl l] (itP s 1 l b0) (Go.C06.RIt al [.yl l, .pa (Qaz s)]) := by
 refine Qg6 ((okHP 7).wal al) hmix Tryz.func77 cf77.b (lo := 2) cf77.c cf77.s (by exact cf77.n) (by rfl) (by decide) ?_
 have hyal : ((HP 7).wal al).al = al := rfl
 have g2 := kP 7 al ⟨s, [], 1, [.yl l, .pa (Qaz s)], [], b0, l⟩
 have e1 : encF [] = .z 1 := rfl
 have e2 : Qcm s 1 (s.wishes.length - ([] : List Int).length) [] = Qcr s 1 := rfl
 simp only [eA62, eH62, lenP, e1, e2, Zp] at g2
 have hst0 : Qaz s = [.sl 4 (s.work.spares.map eSpare), .sl 1 (s.work.makes.map eMake), .i s.work.cut, .sl 4 (s.work.table.map eTrial), .sl 1 (s.stock.map eI), .sl 5 (s.pieces.map ePiece), .sl 6 (s.wishes.map eWish), .sl 3 (s.dels.map eDel), .i s.carve, .sl 2 ((Qb8 s).map eSp), .pm true (aks (Qbn s.work)) (avs .i (Qbn s.work))] := rfl
 generalize (Qb8 s).map eSp = sp0 at hst0
 generalize aks (Qbn s.work) = ks0 at hst0
 generalize avs V.i (Qbn s.work) = vs0 at hst0
 rw [hst0] at g2
 have hcb : ∀ hp, cutB hp 2 (vB b0) = vB b0 := fun hp => hcut b0 hp hal
 simp only [cutB] at hcb
 simp only [rc77, rs77, itP, hst0, hyal, g2, hcb, Qgu, Qdv, Qgv, Qht, drpS, ↓Qam, endK, cutV, cutB, ↓reduceIte, Nat.reduceEqDiff, Nat.reduceAdd, Nat.reduceLeDiff, rvs, zipA, reduceCtorEq, BU1]
 have hw := hst.s.nwi
 refine ⟨⟨rfl, hst, Zo _, by show s.wishes.length - 0 < 7; omega, hal, hone, hcut⟩, ?_⟩
 rintro r hp' ⟨b, b2, h1, rfl, rfl⟩
 have hcb2 : ∀ hp, cutB hp 2 (vB b2) = vB b2 := fun hp => hcut b2 hp h1
 simp only [cutB] at hcb2
 simp only []
 exact ⟨b, [b2], [], [], by cases b <;> simp, fun _ => rfl, h1⟩
noncomputable def K84 : Gam := (HP 7).extY 77 (tP 1)
theorem Zie : GOk Tryz.prog K84 := by
 refine (okHP 7).extY (f := 77) (fun a w => Tryz.call77 a w) fun al xs hp h => ?_
 obtain ⟨s, l, b0, h1, h2, h3, h4, rfl, rfl⟩ := h
 exact (W77 al s l b0 h1 h2 h3 h4).mono fun r hp h => ⟨s, l, rfl, h⟩
theorem W35 (al : List V → Prop) (s : Shop) (l : Nat) (b0 : V) (hst : OkSt s) (hal : al [b0]) (hone : ∀ bv, al bv → ∃ b, bv = [b]) (hcut : ∀ b hp, al [b] → cutB hp 2 (vB b) = vB b) :
  Qi4 Tryz.prog 35 al [.pa (Qaz s), .yl l] (itP s 0 l b0) (Go.C06.RIt al [.yl l, .pa (Qaz s)]) := by
 refine Qg6 ((okHP 7).wal al) hmix Tryz.func35 cf35.b (lo := 2) cf35.c cf35.s (by exact cf35.n) (by rfl) (by decide) ?_
 have hyal : ((HP 7).wal al).al = al := rfl
 have g2 := kP 7 al ⟨s, [], 0, [.yl l, .pa (Qaz s)], [], b0, l⟩
 have e1 : encF [] = .z 1 := rfl
 have e2 : Qcm s 0 (s.wishes.length - ([] : List Int).length) [] = Qcr s 0 := rfl
 simp only [eA62, eH62, lenP, e1, e2, Zp] at g2
 have hst0 : Qaz s = [.sl 4 (s.work.spares.map eSpare), .sl 1 (s.work.makes.map eMake), .i s.work.cut, .sl 4 (s.work.table.map eTrial), .sl 1 (s.stock.map eI), .sl 5 (s.pieces.map ePiece), .sl 6 (s.wishes.map eWish), .sl 3 (s.dels.map eDel), .i s.carve, .sl 2 ((Qb8 s).map eSp), .pm true (aks (Qbn s.work)) (avs .i (Qbn s.work))] := rfl
 generalize (Qb8 s).map eSp = sp0 at hst0
 generalize aks (Qbn s.work) = ks0 at hst0
 generalize avs V.i (Qbn s.work) = vs0 at hst0
 rw [hst0] at g2
 have hcb : ∀ hp, cutB hp 2 (vB b0) = vB b0 := fun hp => hcut b0 hp hal
 simp only [cutB] at hcb
 simp only [rc35, rs35, itP, hst0, hyal, g2, hcb, Qgu, Qdv, Qgv, Qht, drpS, ↓Qam, endK, cutV, cutB, ↓reduceIte, Nat.reduceEqDiff, Nat.reduceAdd, Nat.reduceLeDiff, rvs, zipA, reduceCtorEq, BU1]
 have hw := hst.s.nwi
 refine ⟨⟨rfl, hst, Zo _, by show s.wishes.length - 0 < 7; omega, hal, hone, hcut⟩, ?_⟩
 rintro r hp' ⟨b, b2, h1, rfl, rfl⟩
 have hcb2 : ∀ hp, cutB hp 2 (vB b2) = vB b2 := fun hp => hcut b2 hp h1
 simp only [cutB] at hcb2
 simp only []
 exact ⟨b, [b2], [], [], by cases b <;> simp, fun _ => rfl, h1⟩
noncomputable def K85 : Gam := (K84).extY 35 (tP 0)
theorem Zfq : GOk Tryz.prog K85 := by
 refine Zie.extY (f := 35) (fun a w => Tryz.call35 a w) fun al xs hp h => ?_
 obtain ⟨s, l, b0, h1, h2, h3, h4, rfl, rfl⟩ := h
 exact (W35 al s l b0 h1 h2 h3 h4).mono fun r hp h => ⟨s, l, rfl, h⟩
theorem Zc1 (al : List V → Prop) (xs : List V) (hp : List Blk) : K85.y 77 al xs hp = tP 1 al xs hp := rfl
theorem Zbw (s : Shop) (plan : List Int) : K85 36 [.pa (Qaz s), .sl 1 (plan.map eI)] = (OkPl s plan, Qek (Qdy s plan)) := h36 s plan
theorem Zbx (s : Shop) (l : List Job) : K85 37 [.pa (Qaz s), .sl 3 (l.map eJob)] = (s.stock.length ≤ 1000000 ∧ l.length ≤ 1000000, .b (canN s l)) := h37 s l
theorem Zby (s : Shop) (l : List Job) : K85 38 [.pa (Qaz s), .sl 3 (l.map eJob)] = (OkSt s ∧ l.length ≤ 1000000, .i (Qdz s l)) := h38 s l
theorem Zc0 (x n : Int) : K85 40 [.sl 1 [[.i x]], .i n] = (0 ≤ n ∧ n ≤ 1000000, .sl 1 ((Qy n.toNat x).map eI)) := h40 x n
theorem Qy3 (s : Shop) (plan : List Int) : K85 41 [.pa (Qaz s), .sl 1 (plan.map eI)] = (OkPl s plan, .b (Qbu s plan)) := h41 s plan
theorem Qy4 (s : Shop) (plan : List Int) : K85 56 [.pa (Qaz s), .sl 1 (plan.map eI)] = (OkSt s ∧ plan.length ≤ s.wishes.length, .i (takN s plan)) := h56 s plan
theorem Zbv (s : Shop) (is : Bool) : K85 34 [.ag (Qae s), .b is] = (SmallS s, Qg1 s is) := h34 s is
theorem Zbz (s : Shop) (n : Int) : K85 39 [.ag (Qae s), .i n] = (s.wishes.length ≤ 1000000, .b (Qa6 n 0 (s.wishes.length - 1))) := h39 s n
theorem Qkq (s : Shop) (e : Int) : ∀ (k : Nat) (first : List Int), ∀ p ∈ Qcm s e k first, p.length = first.length + k ∧ ∀ x ∈ p, x ∈ first ∨ (-1 ≤ x ∧ x < s.pieces.length)
 | 0, first, p, hp => by
  have : p = first := by simpa [Qcm] using hp
  subst this
  exact ⟨rfl, fun _ h => .inl h⟩
 | k + 1, first, p, hp => by
  simp only [Qcm, Q5, List.mem_flatMap, List.mem_filter, List.mem_range] at hp
  rcases hp with ⟨i, ⟨hi, _⟩, hp⟩ | hp
  ·obtain ⟨h1, h2⟩ := Qkq s e k _ p hp
   rw [Zh, Zc] at h1
   refine ⟨by omega, fun x hx => ?_⟩
   rcases h2 x hx with h | h
   ·rcases Q5.1 h with h | h
    ·exact .inl h
    ·rw [Zi] at h; exact .inr (by omega)
   ·exact .inr h
  ·split at hp
   ·cases hp
   ·obtain ⟨h1, h2⟩ := Qkq s e k _ p hp
    rw [Zh, Zc] at h1
    refine ⟨by omega, fun x hx => ?_⟩
    rcases h2 x hx with h | h
    ·rcases Q5.1 h with h | h
     ·exact .inl h
     ·rw [Zi] at h; exact .inr (by omega)
    ·exact .inr h
theorem Qkp {s : Shop} {e : Int} {p : List Int} (hp : p ∈ Qcr s e) : p.length = s.wishes.length ∧ ∀ x ∈ p, -1 ≤ x ∧ x < s.pieces.length := by
 obtain ⟨h1, h2⟩ := Qkq s e _ _ p hp
 refine ⟨by simpa using h1, fun x hx => ?_⟩
 rcases h2 x hx with h | h
 ·cases h
 ·exact h
theorem Qpi {s : Shop} (hst : OkSt s) {p : List Int} (h : p.length = s.wishes.length ∧ ∀ x ∈ p, -1 ≤ x ∧ x < s.pieces.length) : OkPl s p := ⟨hst, by omega, fun x hx => (h.2 x hx).2⟩
def Qex (s : Shop) : List Int := Qy s.wishes.length (-1)
def betP (s : Shop) (best p : List Int) : List Int := if takN s best < takN s p ∧ Qbu s p = true then p else best
def Qi6 (s : Shop) (k : Nat) : List Int := ((Qcr s 1).take k).foldl (betP s) (Qex s)
def Qep (s : Shop) : List Int := (Qcr s 1).foldl (betP s) (Qex s)
theorem Qli {s : Shop} {k : Nat} {p : List Int} (h : (Qcr s 1)[k]? = some p) : Qi6 s (k + 1) = betP s (Qi6 s k) p := by
 unfold Qi6
 rw [Qa8 h, Zj]; rfl
theorem Qjg (s : Shop) : (Qex s).length = s.wishes.length ∧ ∀ x ∈ Qex s, -1 ≤ x ∧ x < s.pieces.length := by
 refine ⟨by simp [Qex], fun x hx => ?_⟩
 have := List.eq_of_mem_replicate hx
 omega
theorem Qpy (s : Shop) : ∀ k, (Qi6 s k).length = s.wishes.length ∧ ∀ x ∈ Qi6 s k, -1 ≤ x ∧ x < s.pieces.length := by
 intro k
 induction k with
 | zero => exact Qjg s
 | succ k ih =>
  cases hp : (Qcr s 1)[k]? with
  | none =>
   have e : Qi6 s (k + 1) = Qi6 s k := by
    unfold Qi6
    have := List.getElem?_eq_none_iff.1 hp
    rw [Qx (by omega), Qx this]
   rw [e]; exact ih
  | some p =>
   rw [Qli hp]
   unfold betP
   split
   ·exact Qkp (Ql hp)
   ·exact ih
set_option maxHeartbeats 1000000 in
theorem W57 (s : Shop) (hst : OkSt s) : Qa5 Tryz.prog 57 [.pa (Qaz s)] (.sl 1 ((Qep s).map eI)) := by
 refine Qa4 Zfq hmix Tryz.func57 cf57.b cf57.c cf57.s cf57.n ?_
 have g1 := Zc0 (-1) s.wishes.length
 rw [Qp] at g1
 have g2 := Qy4 s
 have g3 := Qy3 s
 have e2 : itP s 1 = fun l b0 => itP s 1 l b0 := rfl
 obtain ⟨A, hA⟩ : ∃ A, A = Qcr s 1 := ⟨_, rfl⟩
 have hst0 : Qaz s = [.sl 4 (s.work.spares.map eSpare), .sl 1 (s.work.makes.map eMake), .i s.work.cut, .sl 4 (s.work.table.map eTrial), .sl 1 (s.stock.map eI), .sl 5 (s.pieces.map ePiece), .sl 6 (s.wishes.map eWish), .sl 3 (s.dels.map eDel), .i s.carve, .sl 2 ((Qb8 s).map eSp), .pm true (aks (Qbn s.work)) (avs .i (Qbn s.work))] := rfl
 generalize (Qb8 s).map eSp = sp0 at hst0
 generalize aks (Qbn s.work) = ks0 at hst0
 generalize avs V.i (Qbn s.work) = vs0 at hst0
 rw [hst0] at g2 g3
 have hn : (0 : Int) ≤ s.wishes.length ∧ (s.wishes.length : Int) ≤ 1000000 := by have := hst.s.nwi; omega
 simp only [rc57, rs57, hst0, g1, hn, Qqv, Qck, Qa0, Qak, Qaw, Qb2, Qah, Qa2, Qa1, flat, ↓reduceIte, Nat.reduceEqDiff, Nat.reduceAdd, Nat.reduceMul, Nat.reduceLT, Nat.reduceLeDiff, Int.reduceNeg, Qe, zipA, Qa, reduceCtorEq, not_false_eq_true, ne_eq, imp_self, BU1]
 refine Qyr (gf := 77) (caps := [.pa [.sl 4 (s.work.spares.map eSpare), .sl 1 (s.work.makes.map eMake), .i s.work.cut, .sl 4 (s.work.table.map eTrial), .sl 1 (s.stock.map eI), .sl 5 (s.pieces.map ePiece), .sl 6 (s.wishes.map eWish), .sl 3 (s.dels.map eDel), .i s.carve, .sl 2 sp0, .pm true ks0 vs0]]) ?_ (fun bv => ∃ best : List Int, bv = [bV (.cells 0 [.sl 1 (best.map eI)])]) (A.map fun p => ([encF p], [])) (bv0 := [bV (.cells 0 [.sl 1 ((Qex s).map eI)])]) ?_
  (fun k bv => bv = [bV (.cells 0 [.sl 1 ((Qi6 s k).map eI)])]) ?_ ?_ ?_ ?_ ?_ ?_
 ·simp only [evO, cutV, Qcz, ↓reduceIte, Nat.reduceEqDiff, Int.reduceNeg]
 ·simp only [Qa9, Qex, Qa9, cutV, cutL, cutB, Int.reduceNeg, BU1]
 ·rfl
 ·rintro k bv rfl
  exact ⟨_, rfl⟩
 ·rintro bv ⟨best, rfl⟩
  refine ⟨rfl, fun hp => ?_⟩
  simp only [Qa9, Qa9, cutV, cutL, cutB, List.map_cons, Q6]
 ·intro l
  rw [Zc1, ← hst0]
  refine ⟨⟨s, l, bV (.cells 0 [.sl 1 ((Qex s).map eI)]), hst, ⟨Qex s, rfl⟩, fun bv h => ?_, fun b hp h => ?_, rfl, ?_⟩, fun r hp' h => ?_⟩
  ·obtain ⟨best, rfl⟩ := h
   exact ⟨_, rfl⟩
  ·obtain ⟨best, h⟩ := h
   cases h
   simp only [Qa9, Qa9, cutV, cutL, cutB]
  ·rw [List.map_map, hA]; rfl
  ·obtain ⟨s', l', e, h⟩ := h
   simp only [Zn, Q4, List.cons.injEq, V.yl.injEq, and_true] at e
   rw [e.1, e.2]; exact h
 ·rintro k x z bv hx rfl
  rw [Zk, Zb] at hx
  obtain ⟨p, hp, he⟩ := hx
  simp only [Prod.mk.injEq] at he
  obtain ⟨rfl, rfl⟩ := he
  refine ⟨rfl, Qk _, ?_⟩
  rw [hA] at hp
  have hpi := Qkp (Ql hp)
  have hbi := Qpy s k
  have hbs := Qli hp
  unfold betP at hbs
  obtain ⟨B, hB⟩ : ∃ B, B = Qi6 s k := ⟨_, rfl⟩
  rw [← hB] at hbi hbs ⊢
  have o1 : OkPl s p := Qpi hst hpi
  have g4 := g2 p
  have g5 := g2 B
  have g6 := g3 p
  have l1 : p.length ≤ s.wishes.length := by omega
  have l2 : B.length ≤ s.wishes.length := by omega
  by_cases hz : p = []
  ·have hz2 : B = [] := List.length_eq_zero_iff.1 (by rw [hbi.1, ← hpi.1, hz]; rfl)
   have e1 : encF p = .z 1 := by unfold encF; rw [if_pos hz]
   rw [hz, Q6] at g4
   rw [hz2, Q6] at g5
   rw [hz, hz2, if_neg (fun h => Qc _ h.1)] at hbs
   simp only [Qa9, e1, g4, hz2, hst, Zo, ↓Qam, rnQ, updL, Qaq, Qa9, Qa0, runX, fpQ, fpV, Qbh, Qa2, Qa1, flat, cutV, ↓reduceIte, Nat.reduceEqDiff, Nat.reduceLT, Nat.reduceLeDiff, Int.reduceNeg, vw_z, Qc, Qa, forall_const, implies_true, Qf, Qd, imp_self, BU1]
   refine ⟨[bV (.cells 0 [.sl 1 (([] : List Int).map eI)])], ?_, rfl, ⟨_, rfl⟩, by rw [hbs]⟩
   simp only [Qa9, Qa9, cutV, cutL, cutB, BU1]
  ·have e1 : encF p = .sl 1 (p.map eI) := by unfold encF; rw [if_neg hz]
   by_cases q1 : takN s B < takN s p
   ·by_cases q2 : Qbu s p = true
    ·rw [if_pos ⟨q1, q2⟩] at hbs
     simp only [Qa9, e1, g4, g5, g6, o1, l1, l2, hst, q1, q2, ↓Qam, rnQ, updL, Qaq, Qa9, Qa0, runX, fpQ, fpV, Qah, Qa2, Qa1, flat, cutV, ↓reduceIte, Nat.reduceEqDiff, Nat.reduceLT, Nat.reduceLeDiff, Int.reduceNeg, beq_self_eq_true, Qa, Qb, forall_const, implies_true, Qf, Qd, BU1]
     refine ⟨[bV (.cells 0 [.sl 1 (p.map eI)])], ?_, rfl, ⟨_, rfl⟩, by rw [hbs]⟩
     simp only [Qa9, Qa9, cutV, cutL, cutB, BU1]
    ·have q3 : Qbu s p = false := by simpa using q2
     rw [if_neg (fun h => q2 h.2)] at hbs
     simp only [Qa9, e1, g4, g5, g6, o1, l1, l2, hst, q1, q3, ↓Qam, rnQ, updL, Qaq, Qa9, Qa0, runX, fpQ, fpV, Qa2, Qa1, flat, cutV, ↓reduceIte, Nat.reduceEqDiff, Nat.reduceLT, Nat.reduceLeDiff, Int.reduceNeg, beq_self_eq_true, Qa, Qb, forall_const, implies_true, Qf, Qd, BU1]
     refine ⟨[bV (.cells 0 [.sl 1 (B.map eI)])], ?_, rfl, ⟨_, rfl⟩, by rw [hbs]⟩
     simp only [Qa9, Qa9, cutV, cutL, cutB, BU1]
   ·rw [if_neg (fun h => q1 h.1)] at hbs
    simp only [Qa9, e1, g4, g5, g6, o1, l1, l2, hst, q1, ↓Qam, rnQ, updL, Qaq, Qa9, Qa0, runX, fpQ, fpV, Qa2, Qa1, flat, cutV, ↓reduceIte, Nat.reduceEqDiff, Nat.reduceLT, Nat.reduceLeDiff, Int.reduceNeg, Qa, forall_const, implies_true, Qf, Qd, imp_self, BU1]
    refine ⟨[bV (.cells 0 [.sl 1 (B.map eI)])], ?_, rfl, ⟨_, rfl⟩, by rw [hbs]⟩
    simp only [Qa9, Qa9, cutV, cutL, cutB, BU1]
 ·rintro bv rfl
  have e : Qi6 s (A.map fun p => (([encF p], []) : List V × List V)).length = Qep s := by
   unfold Qi6 Qep
   rw [Qn, hA, Q0]
  rw [e]
  simp only [Qa9, ↓Qam, Qa9, Qa0, cutV, ↓reduceIte, Nat.reduceEqDiff, Nat.reduceLT, Nat.reduceLeDiff, Int.reduceNeg, rvs, Qa, BU1]
end Go.CS
set_option linter.all false
namespace Go.CS
open Go.Fam Go.Proofs
open Go.C06 (Span eI eIs Qbx gI gR dI Qbl Qcj fnG Qad Qab Qa6 Qa8 idxOf Qas Qaj Qal Qar Qai Qag Qac Qat Qb3 Qc5 vw_I Qay hmix eLI dLI Qca Qan Qa3 Qaa Qau)
variable {Γ : Gam}
noncomputable def K86 : Gam := K85.ext 57 (fnG (fun s => [.pa (Qaz s)]) (fun xs => match xs with | [.pa s] => Qdc s | _ => Qdc []) (OkSt) (Qep) ((fun l => .sl 1 (l.map eI))))
theorem Qx8 : GOk Tryz.prog K86 := Zfq.ext (f := 57) (fun a w => Tryz.call57 a w) (Qad (e := (fun s => [.pa (Qaz s)])) (d := (fun xs => match xs with | [.pa s] => Qdc s | _ => Qdc [])) (ok := OkSt) (g := Qep) (eb := (fun l => .sl 1 (l.map eI))) fun a h => W57 a h)
theorem h57 (s : Shop) : K86 57 [.pa (Qaz s)] = (OkSt s, .sl 1 ((Qep s).map eI)) := (show K86 57 _ = fnG (fun s => [.pa (Qaz s)]) (fun xs => match xs with | [.pa s] => Qdc s | _ => Qdc []) (OkSt) (Qep) ((fun l => .sl 1 (l.map eI))) ((fun s => [.pa (Qaz s)]) s) from rfl).trans (Qab _ ((fun s => Qg9 s) s))
theorem Qrw (s : Shop) (is : Bool) : K86 34 [.ag (Qae s), .b is] = (SmallS s, Qg1 s is) := Zbv s is
theorem Zc7 (s : Shop) (plan : List Int) : K86 56 [.pa (Qaz s), .sl 1 (plan.map eI)] = (OkSt s ∧ plan.length ≤ s.wishes.length, .i (takN s plan)) := Qy4 s plan
theorem Qut (s : Shop) : (Qep s).length = s.wishes.length ∧ ∀ x ∈ Qep s, -1 ≤ x ∧ x < s.pieces.length := by
 have := Qpy s (Qcr s 1).length
 unfold Qi6 at this
 rw [Q0] at this
 exact this
theorem Qpj {s : Shop} {is : Bool} (h : Qbj s is = 0) : OkSt s := by
 unfold Qbj at h
 by_cases e : Qd0 s = 0
 ·exact ⟨(Qpq e).1, (Qpq e).2⟩
 ·rw [if_pos e] at h
  exact absurd h e
def Qdq (s : Shop) (is : Bool) : Int × Int := if Qbj s is = 0 then (takN s (Qep s), 0) else (0, Qbj s is)
theorem W33 (s : Shop) (is : Bool) (h : SmallS s) : Qa5 Tryz.prog 33 [.ag (Qae s), .b is] (.tp [.i (Qdq s is).1, .i (Qdq s is).2]) := by
 refine Qa4 Qx8 hmix Tryz.func33 cf33.b cf33.c cf33.s cf33.n ?_
 have g1 := Qrw s is
 have g2 := h57 s
 have g3 := Zc7 s (Qep s)
 have hl := (Qut s).1
 have hst0 : Qaz s = [.sl 4 (s.work.spares.map eSpare), .sl 1 (s.work.makes.map eMake), .i s.work.cut, .sl 4 (s.work.table.map eTrial), .sl 1 (s.stock.map eI), .sl 5 (s.pieces.map ePiece), .sl 6 (s.wishes.map eWish), .sl 3 (s.dels.map eDel), .i s.carve, .sl 2 ((Qb8 s).map eSp), .pm true (aks (Qbn s.work)) (avs .i (Qbn s.work))] := rfl
 generalize (Qb8 s).map eSp = sp0 at hst0
 generalize aks (Qbn s.work) = ks0 at hst0
 generalize avs V.i (Qbn s.work) = vs0 at hst0
 unfold Qg1 at g1
 rw [hst0] at g1 g2 g3
 unfold Qae at g1
 unfold Qdq
 by_cases e : Qbj s is = 0
 ·have hst := Qpj e
  have l1 : (Qep s).length ≤ s.wishes.length := by omega
  rw [if_pos e] at g1 ⊢
  simp only [rc33, rs33, g1, g2, g3, h, hst, l1, Qa0, Qa2, Qa1, flat, Qc4, ↓reduceIte, Nat.reduceEqDiff, Nat.reduceAdd, Nat.reduceLT, Nat.reduceLeDiff, rvs, Qd7, zipA, Qa, implies_true, reduceCtorEq, imp_self, Qae, BU1]
 ·rw [if_neg e] at g1 ⊢
  simp only [rc33, rs33, g1, h, e, Qa0, Qa2, Qa1, flat, Qc4, ↓reduceIte, Nat.reduceEqDiff, Nat.reduceAdd, Nat.reduceLT, Nat.reduceLeDiff, rvs, Qd7, zipA, Qa, implies_true, reduceCtorEq, Qae, BU1]
noncomputable def K87 : Gam := K86.ext 33 (fnG eHB dHB (fun a => SmallS a.1) (fun a => Qdq a.1 a.2) ((fun r => .tp [.i r.1, .i r.2])))
theorem Zfr : GOk Tryz.prog K87 := Qx8.ext (f := 33) (fun a w => Tryz.call33 a w) (Qad (e := eHB) (d := dHB) (ok := fun a => SmallS a.1) (g := fun a => Qdq a.1 a.2) (eb := (fun r => .tp [.i r.1, .i r.2])) fun a h => W33 a.1 a.2 h)
theorem h33 (s : Shop) (is : Bool) : K87 33 [.ag (Qae s), .b is] = (SmallS s, .tp [.i (Qdq s is).1, .i (Qdq s is).2]) := (show K87 33 _ = fnG eHB dHB (fun a => SmallS a.1) (fun a => Qdq a.1 a.2) ((fun r => .tp [.i r.1, .i r.2])) (eHB (s, is)) from rfl).trans (Qab _ (Qzn (s, is)))
theorem W14 (s : Shop) (h : SmallS s) : Qa5 Tryz.prog 14 [.ag (Qae s)] (.tp [.i (Qdq s true).1, .i (Qdq s true).2]) := by
 refine Qa4 Zfr hmix Tryz.func14 cf14.b cf14.c cf14.s cf14.n ?_
 have g := h33 s true
 unfold Qae at g
 simp only [rc14, rs14, g, h, Qa0, Qa2, Qa1, flat, Qc4, ↓reduceIte, Nat.reduceEqDiff, Nat.reduceAdd, Nat.reduceLT, Nat.reduceLeDiff, rvs, Qd7, zipA, Qa, implies_true, Qae, BU1]
def extF (s : Shop) (best : Int) (p : List Int) : Int := match Qdy s p with
 | none => best
 | some l => if canN s l = true then (if best = -1 ∨ Qdz s l < best then Qdz s l else best) else best
def extP (s : Shop) (k : Nat) : Int := ((Qcr s 0).take k).foldl (extF s) (-1)
def extA (s : Shop) : Int := (Qcr s 0).foldl (extF s) (-1)
theorem Qsi {s : Shop} {k : Nat} {p : List Int} (h : (Qcr s 0)[k]? = some p) : extP s (k + 1) = extF s (extP s k) p := by
 unfold extP
 rw [Qa8 h, Zj]; rfl
def Qe6 (s : Shop) : Int × Int := if Qbj s true = 0 then (if extA s = -1 then (0, 3) else (extA s, 0)) else (0, Qbj s true)
theorem Zc2 (s : Shop) (plan : List Int) : K86 36 [.pa (Qaz s), .sl 1 (plan.map eI)] = (OkPl s plan, Qek (Qdy s plan)) := Zbw s plan
theorem Zc3 (s : Shop) (l : List Job) : K86 37 [.pa (Qaz s), .sl 3 (l.map eJob)] = (s.stock.length ≤ 1000000 ∧ l.length ≤ 1000000, .b (canN s l)) := Zbx s l
theorem Zc4 (s : Shop) (l : List Job) : K86 38 [.pa (Qaz s), .sl 3 (l.map eJob)] = (OkSt s ∧ l.length ≤ 1000000, .i (Qdz s l)) := Zby s l
theorem Zc8 (al : List V → Prop) (xs : List V) (hp : List Blk) : K86.y 35 al xs hp = tP 0 al xs hp := rfl
theorem Qxq {s : Shop} (h : OkSt s) : s.stock.length ≤ 1000000 := by
 have h1 := h.s.stock
 have h2 := h.w.nsp
 omega
theorem Zar {s : Shop} {n : Int} (h : Qbj s (Qa6 n 0 (s.wishes.length - 1)) = 0) : 0 ≤ n ∧ n < s.wishes.length := by
 unfold Qbj at h
 by_cases e : Qd0 s = 0
 ·rw [if_neg (fun h => h e)] at h
  by_cases e2 : Qa6 n 0 (s.wishes.length - 1) = false
  ·rw [if_pos e2] at h; omega
  ·have := Qav.1 (by simpa using e2 : Qa6 n 0 (s.wishes.length - 1) = true)
   omega
 ·rw [if_pos e] at h
  exact absurd h e
theorem Qzt (p : List Int) : (encF p = .z 1 ∧ p = []) ∨ encF p = .sl 1 (p.map eI) := by
 unfold encF
 by_cases h : p = []
 ·exact .inl ⟨by rw [if_pos h], h⟩
 ·exact .inr (by rw [if_neg h])
set_option maxHeartbeats 1000000 in
theorem W15 (s : Shop) (h : SmallS s) : Qa5 Tryz.prog 15 [.ag (Qae s)] (.tp [.i (Qe6 s).1, .i (Qe6 s).2]) := by
 refine Qa4 Qx8 hmix Tryz.func15 cf15.b cf15.c cf15.s cf15.n ?_
 have g1 := Qrw s true
 have g2 := Zc2 s
 have g3 := Zc3 s
 have g4 := Zc4 s
 obtain ⟨A, hA⟩ : ∃ A, A = Qcr s 0 := ⟨_, rfl⟩
 have hst0 : Qaz s = [.sl 4 (s.work.spares.map eSpare), .sl 1 (s.work.makes.map eMake), .i s.work.cut, .sl 4 (s.work.table.map eTrial), .sl 1 (s.stock.map eI), .sl 5 (s.pieces.map ePiece), .sl 6 (s.wishes.map eWish), .sl 3 (s.dels.map eDel), .i s.carve, .sl 2 ((Qb8 s).map eSp), .pm true (aks (Qbn s.work)) (avs .i (Qbn s.work))] := rfl
 generalize (Qb8 s).map eSp = sp0 at hst0
 generalize aks (Qbn s.work) = ks0 at hst0
 generalize avs V.i (Qbn s.work) = vs0 at hst0
 unfold Qg1 at g1
 rw [hst0] at g1 g2 g3 g4
 unfold Qae at g1
 unfold Qe6
 by_cases e : Qbj s true = 0
 ·have hst := Qpj e
  rw [if_pos e] at g1 ⊢
  simp only [rc15, rs15, g1, h, hpF, upB, upL, upV, Qbd, Qqv, ↓Qam, Qa0, Qah, Qa2, Qa1, flat, Qc4, cutV, cutB, ↓reduceIte, Nat.reduceEqDiff, Nat.reduceAdd, Nat.reduceLT, Nat.reduceLeDiff, Int.reduceNeg, Qdj, zipA, Qa, reduceCtorEq, imp_self, Qae, BU1]
  refine Qyr (gf := 35) (caps := [.pa [.sl 4 (s.work.spares.map eSpare), .sl 1 (s.work.makes.map eMake), .i s.work.cut, .sl 4 (s.work.table.map eTrial), .sl 1 (s.stock.map eI), .sl 5 (s.pieces.map ePiece), .sl 6 (s.wishes.map eWish), .sl 3 (s.dels.map eDel), .i s.carve, .sl 2 sp0, .pm true ks0 vs0]]) ?_ (fun bv => ∃ best : Int, bv = [bV (.cells 0 [.i best])]) (A.map fun p => ([encF p], [])) (bv0 := [bV (.cells 0 [.i (-1)])]) ?_
   (fun k bv => bv = [bV (.cells 0 [.i (extP s k)])]) ?_ ?_ ?_ ?_ ?_ ?_
  ·simp only [evO, cutV, Qcz, ↓reduceIte, Nat.reduceEqDiff, Int.reduceNeg]
  ·simp only [Qa9, Qa9, cutV, cutL, cutB, Int.reduceNeg, BU1]
  ·rfl
  ·rintro k bv rfl
   exact ⟨_, rfl⟩
  ·rintro bv ⟨best, rfl⟩
   refine ⟨rfl, fun hp => ?_⟩
   simp only [Qa9, Qa9, cutV, cutL, cutB, List.map_cons, Q6]
  ·intro l
   rw [Zc8, ← hst0]
   refine ⟨⟨s, l, bV (.cells 0 [.i (-1)]), hst, ⟨-1, rfl⟩, fun bv h => ?_, fun b hp h => ?_, rfl, ?_⟩, fun r hp' h => ?_⟩
   ·obtain ⟨best, rfl⟩ := h
    exact ⟨_, rfl⟩
   ·obtain ⟨best, h⟩ := h
    cases h
    simp only [Qa9, Qa9, cutV, cutL, cutB]
   ·rw [List.map_map, hA]; rfl
   ·obtain ⟨s', l', e, h⟩ := h
    simp only [Zn, Q4, List.cons.injEq, V.yl.injEq, and_true] at e
    rw [e.1, e.2]; exact h
  ·rintro k x z bv hx rfl
   rw [Zk, Zb] at hx
   obtain ⟨p, hp, he⟩ := hx
   simp only [Prod.mk.injEq] at he
   obtain ⟨rfl, rfl⟩ := he
   refine ⟨rfl, Qk _, ?_⟩
   rw [hA] at hp
   have hpi := Qkp (Ql hp)
   have hbs := Qsi hp
   unfold extF at hbs
   obtain ⟨B, hB⟩ : ∃ B, B = extP s k := ⟨_, rfl⟩
   rw [← hB] at hbs ⊢
   have o1 : OkPl s p := Qpi hst hpi
   have o2 := Qxq hst
   rcases Qzt p with ⟨hF, hz⟩ | hF
   ·have g6 := g2 p
    rw [hz, Q6] at g6
    rw [hz] at hbs o1
    cases q1 : Qdy s [] with
    | none =>
     rw [q1] at hbs g6
     simp only [Qa9, hF, g6, o1, Qek, ↓Qam, rnQ, updL, Qa9, Qa0, Qb7, Qa2, Qa1, flat, Qc4, cutV, ↓reduceIte, Nat.reduceEqDiff, Nat.reduceAdd, Nat.reduceLT, Nat.reduceLeDiff, Int.reduceNeg, vw_z, Qa, Qb, forall_const, implies_true, imp_self, BU1]
     refine ⟨[bV (.cells 0 [.i B])], ?_, rfl, ⟨_, rfl⟩, by rw [hbs]⟩
     simp only [Qa9, Qa9, cutV, cutL, cutB, BU1]
    | some l =>
     have hl := Qkb o1 q1
     have o3 : l.length ≤ 1000000 := by omega
     rw [q1] at hbs g6
     simp only at hbs
     by_cases q2 : canN s l = true
     ·rw [if_pos q2] at hbs
      by_cases q3 : B = -1
      ·rw [if_pos (.inl q3)] at hbs
       simp only [Qa9, hF, g6, o1, o2, o3, Qek, g3, g4, hst, q2, q3, ↓Qam, rnQ, updL, Qa9, Qa0, Qah, Qa2, Qa1, flat, Qc4, cutV, ↓reduceIte, Nat.reduceEqDiff, Nat.reduceAdd, Nat.reduceLT, Nat.reduceLeDiff, Int.reduceNeg, vw_z, beq_self_eq_true, Qa, Qb, forall_const, implies_true, imp_self, BU1]
       refine ⟨[bV (.cells 0 [.i (Qdz s l)])], ?_, rfl, ⟨_, rfl⟩, by rw [hbs]⟩
       simp only [Qa9, Qa9, cutV, cutL, cutB, BU1]
      ·by_cases q4 : Qdz s l < B
       ·rw [if_pos (.inr q4)] at hbs
        simp only [Qa9, hF, g6, o1, o2, o3, Qek, g3, g4, hst, q2, q3, q4, ↓Qam, rnQ, updL, Qa9, Qa0, Qah, Qa2, Qa1, flat, Qc4, cutV, ↓reduceIte, Nat.reduceEqDiff, Nat.reduceAdd, Nat.reduceLT, Nat.reduceLeDiff, Int.reduceNeg, vw_z, beq_self_eq_true, Qa, forall_const, implies_true, imp_self, BU1]
        refine ⟨[bV (.cells 0 [.i (Qdz s l)])], ?_, rfl, ⟨_, rfl⟩, by rw [hbs]⟩
        simp only [Qa9, Qa9, cutV, cutL, cutB, BU1]
       ·rw [if_neg (by rintro (h | h) <;> contradiction)] at hbs
        simp only [Qa9, hF, g6, o1, o2, o3, Qek, g3, g4, hst, q2, q3, q4, ↓Qam, rnQ, updL, Qa9, Qa0, Qa2, Qa1, flat, Qc4, cutV, ↓reduceIte, Nat.reduceEqDiff, Nat.reduceAdd, Nat.reduceLT, Nat.reduceLeDiff, Int.reduceNeg, vw_z, beq_self_eq_true, Qa, forall_const, implies_true, imp_self, BU1]
        refine ⟨[bV (.cells 0 [.i (B)])], ?_, rfl, ⟨_, rfl⟩, by rw [hbs]⟩
        simp only [Qa9, Qa9, cutV, cutL, cutB, BU1]
     ·have q5 : canN s l = false := by simpa using q2
      rw [if_neg q2] at hbs
      simp only [Qa9, hF, g6, o1, o2, o3, Qek, g3, q5, ↓Qam, rnQ, updL, Qa9, Qa0, Qa2, Qa1, flat, Qc4, cutV, ↓reduceIte, Nat.reduceEqDiff, Nat.reduceAdd, Nat.reduceLT, Nat.reduceLeDiff, Int.reduceNeg, vw_z, beq_self_eq_true, Qa, forall_const, implies_true, imp_self, BU1]
      refine ⟨[bV (.cells 0 [.i (B)])], ?_, rfl, ⟨_, rfl⟩, by rw [hbs]⟩
      simp only [Qa9, Qa9, cutV, cutL, cutB, BU1]
   ·have g6 := g2 p
    cases q1 : Qdy s p with
    | none =>
     rw [q1] at hbs g6
     simp only [Qa9, hF, g6, o1, Qek, ↓Qam, rnQ, updL, Qa9, Qa0, Qb7, Qa2, Qa1, flat, Qc4, cutV, ↓reduceIte, Nat.reduceEqDiff, Nat.reduceAdd, Nat.reduceLT, Nat.reduceLeDiff, Int.reduceNeg, Qa, Qb, forall_const, implies_true, imp_self, BU1]
     refine ⟨[bV (.cells 0 [.i B])], ?_, rfl, ⟨_, rfl⟩, by rw [hbs]⟩
     simp only [Qa9, Qa9, cutV, cutL, cutB, BU1]
    | some l =>
     have hl := Qkb o1 q1
     have o3 : l.length ≤ 1000000 := by omega
     rw [q1] at hbs g6
     simp only at hbs
     by_cases q2 : canN s l = true
     ·rw [if_pos q2] at hbs
      by_cases q3 : B = -1
      ·rw [if_pos (.inl q3)] at hbs
       simp only [Qa9, hF, g6, o1, o2, o3, Qek, g3, g4, hst, q2, q3, ↓Qam, rnQ, updL, Qa9, Qa0, Qah, Qa2, Qa1, flat, Qc4, cutV, ↓reduceIte, Nat.reduceEqDiff, Nat.reduceAdd, Nat.reduceLT, Nat.reduceLeDiff, Int.reduceNeg, beq_self_eq_true, Qa, Qb, forall_const, implies_true, imp_self, BU1]
       refine ⟨[bV (.cells 0 [.i (Qdz s l)])], ?_, rfl, ⟨_, rfl⟩, by rw [hbs]⟩
       simp only [Qa9, Qa9, cutV, cutL, cutB, BU1]
      ·by_cases q4 : Qdz s l < B
       ·rw [if_pos (.inr q4)] at hbs
        simp only [Qa9, hF, g6, o1, o2, o3, Qek, g3, g4, hst, q2, q3, q4, ↓Qam, rnQ, updL, Qa9, Qa0, Qah, Qa2, Qa1, flat, Qc4, cutV, ↓reduceIte, Nat.reduceEqDiff, Nat.reduceAdd, Nat.reduceLT, Nat.reduceLeDiff, Int.reduceNeg, beq_self_eq_true, Qa, forall_const, implies_true, imp_self, BU1]
        refine ⟨[bV (.cells 0 [.i (Qdz s l)])], ?_, rfl, ⟨_, rfl⟩, by rw [hbs]⟩
        simp only [Qa9, Qa9, cutV, cutL, cutB, BU1]
       ·rw [if_neg (by rintro (h | h) <;> contradiction)] at hbs
        simp only [Qa9, hF, g6, o1, o2, o3, Qek, g3, g4, hst, q2, q3, q4, ↓Qam, rnQ, updL, Qa9, Qa0, Qa2, Qa1, flat, Qc4, cutV, ↓reduceIte, Nat.reduceEqDiff, Nat.reduceAdd, Nat.reduceLT, Nat.reduceLeDiff, Int.reduceNeg, beq_self_eq_true, Qa, forall_const, implies_true, imp_self, BU1]
        refine ⟨[bV (.cells 0 [.i (B)])], ?_, rfl, ⟨_, rfl⟩, by rw [hbs]⟩
        simp only [Qa9, Qa9, cutV, cutL, cutB, BU1]
     ·have q5 : canN s l = false := by simpa using q2
      rw [if_neg q2] at hbs
      simp only [Qa9, hF, g6, o1, o2, o3, Qek, g3, q5, ↓Qam, rnQ, updL, Qa9, Qa0, Qa2, Qa1, flat, Qc4, cutV, ↓reduceIte, Nat.reduceEqDiff, Nat.reduceAdd, Nat.reduceLT, Nat.reduceLeDiff, Int.reduceNeg, beq_self_eq_true, Qa, forall_const, implies_true, imp_self, BU1]
      refine ⟨[bV (.cells 0 [.i (B)])], ?_, rfl, ⟨_, rfl⟩, by rw [hbs]⟩
      simp only [Qa9, Qa9, cutV, cutL, cutB, BU1]
  ·rintro bv rfl
   have e : extP s (A.map fun p => (([encF p], []) : List V × List V)).length = extA s := by
    unfold extP extA
    rw [Qn, hA, Q0]
   rw [e]
   by_cases e1 : extA s = -1
   ·simp only [Qa9, e1, ↓Qam, Qa9, Qa0, cutV, ↓reduceIte, Nat.reduceEqDiff, Nat.reduceLT, Nat.reduceLeDiff, Int.reduceNeg, rvs, Qd7, Qa, BU1]
   ·simp only [Qa9, e1, ↓Qam, Qa9, Qa0, cutV, ↓reduceIte, Nat.reduceEqDiff, Nat.reduceLT, Nat.reduceLeDiff, Int.reduceNeg, rvs, Qd7, Qa, BU1]
 ·rw [if_neg e] at g1 ⊢
  simp only [rc15, rs15, g1, h, e, Qqv, Qa0, Qah, Qa2, Qa1, flat, Qc4, ↓reduceIte, Nat.reduceEqDiff, Nat.reduceAdd, Nat.reduceLT, Nat.reduceLeDiff, Int.reduceNeg, rvs, Qd7, zipA, Qa, implies_true, reduceCtorEq, Qae, BU1]
def Qim (s : Shop) (n : Int) (j : Nat) : List Int := (Qex s).set n.toNat j
def canK (s : Shop) (n : Int) (k : Nat) : List Int := ((Za k).filter fun (j : Nat) => Qbu s (Qim s n j)).map fun (j : Nat) => (j : Int)
theorem Qju (s : Shop) (n : Int) (k : Nat) : canK s n (k + 1) = if Qbu s (Qim s n k) = true then canK s n k ++ [(k : Int)] else canK s n k := by
 unfold canK
 rw [List.range_succ, List.filter_append, Qg]
 by_cases h : Qbu s (Qim s n k) = true
 ·simp [h]
 ·simp [h]
def isW (s : Shop) (n : Int) : Bool := Qa6 n 0 (s.wishes.length - 1)
def canV (s : Shop) (n : Int) : V := if Qbj s (isW s n) = 0 then .tp [.sl 1 ((canK s n s.pieces.length).map eI), .i 0] else .tp [.sl 1 [], .i (Qbj s (isW s n))]
theorem Qze (x n : Int) : K85 1000040 [.sl 1 [[.i x]], .i n] = (0 ≤ n ∧ n ≤ 1000000, .tp [.rf 0 0 0 n.toNat 1, .tp [bV (.cells 0 (Qy n.toNat [V.i x]).flatten)]]) := h40o x n
theorem Zc5 (s : Shop) (n : Int) : K86 39 [.ag (Qae s), .i n] = (s.wishes.length ≤ 1000000, .b (Qa6 n 0 (s.wishes.length - 1))) := Zbz s n
theorem Qzf (x n : Int) : K86 1000040 [.sl 1 [[.i x]], .i n] = (0 ≤ n ∧ n ≤ 1000000, .tp [.rf 0 0 0 n.toNat 1, .tp [bV (.cells 0 (Qy n.toNat [V.i x]).flatten)]]) := Qze x n
theorem Zc6 (s : Shop) (plan : List Int) : K86 41 [.pa (Qaz s), .sl 1 (plan.map eI)] = (OkPl s plan, .b (Qbu s plan)) := Qy3 s plan
set_option maxHeartbeats 1000000 in
theorem W16 (s : Shop) (n : Int) (h : SmallS s) (hwl : s.wishes.length ≤ 1000000) : Qa5 Tryz.prog 16 [.ag (Qae s), .i n] (canV s n) := by
 refine Qa4 Qx8 hmix Tryz.func16 cf16.b cf16.c cf16.s cf16.n ?_
 have g0 := Zc5 s n
 have g1 := Qrw s (isW s n)
 have g2 := Qzf (-1) s.wishes.length
 rw [Qp] at g2
 have g3 := Zc6 s
 have hst0 : Qaz s = [.sl 4 (s.work.spares.map eSpare), .sl 1 (s.work.makes.map eMake), .i s.work.cut, .sl 4 (s.work.table.map eTrial), .sl 1 (s.stock.map eI), .sl 5 (s.pieces.map ePiece), .sl 6 (s.wishes.map eWish), .sl 3 (s.dels.map eDel), .i s.carve, .sl 2 ((Qb8 s).map eSp), .pm true (aks (Qbn s.work)) (avs .i (Qbn s.work))] := rfl
 generalize (Qb8 s).map eSp = sp0 at hst0
 generalize aks (Qbn s.work) = ks0 at hst0
 generalize avs V.i (Qbn s.work) = vs0 at hst0
 unfold Qg1 at g1
 rw [hst0] at g1 g3
 unfold Qae at g0 g1
 unfold canV isW
 unfold isW at g1
 by_cases e : Qbj s (Qa6 n 0 (s.wishes.length - 1)) = 0
 ·have hst := Qpj e
  have hw := Zar e
  rw [if_pos e] at g1 ⊢
  have hn : (0 : Int) ≤ s.wishes.length ∧ (s.wishes.length : Int) ≤ 1000000 := by have := hst.s.nwi; omega
  have hfl : (Qy s.wishes.length [V.i (-1)]).flatten = (Qex s).map V.i := by simp [Qex]
  obtain ⟨N, rfl⟩ : ∃ N : Nat, n = N := ⟨n.toNat, by omega⟩
  have hN : N < s.wishes.length := by omega
  have hNi : (N : Int) < s.wishes.length := by omega
  have hNs : N + 1 ≤ s.wishes.length := hN
  have hbd := hst.s.npc
  simp only [rc16, rs16, g0, hwl, g1, h, g2, hn, hfl, Qdi _ _ (Go.C06.noref_Is _), Qow, Qck, Ql2, ocV, nidQ, plO, plQ, plB, Qaq, Qdh, Qdm, shV, shB, Qa9, Qa0, runX, fpQ, fpV, Qak, Qaw, Qb2, Qah, Qa2, Qa1, flat, Qc4, ↓reduceIte, Nat.reduceEqDiff, Nat.reduceAdd, Nat.reduceMul, Nat.reduceLT, Nat.reduceLeDiff, Int.reduceNeg, Qe, zipA, Q2, Qa, implies_true, reduceCtorEq, not_false_eq_true, ne_eq, Qd, imp_self, Qae, BU1]
  refine Qan s.pieces.length (fun j (G : List Int) => ⟨lkp [(1, .i N), (6, .pa [.sl 4 (s.work.spares.map eSpare), .sl 1 (s.work.makes.map eMake), .i s.work.cut, .sl 4 (s.work.table.map eTrial), .sl 1 (s.stock.map eI), .sl 5 (s.pieces.map ePiece), .sl 6 (s.wishes.map eWish), .sl 3 (s.dels.map eDel), .i s.carve, .sl 2 sp0, .pm true ks0 vs0]), (8, .rf 1 (canK s N j).length 0 (canK s N j).length 1), (9, .rf 0 0 0 s.wishes.length 1), (29, .i s.pieces.length), (30, .i j)], [.cells 0 (G.map V.i), .cells (canK s N j).length ((canK s N j).map V.i)]⟩)
   (fun j G => G.length = s.wishes.length ∧ ∀ v, G.set N v = (Qex s).set N v) (Qex s) ?_ ⟨(Qjg s).1, fun _ => rfl⟩ ?_ ?_
  ·have c0 : canK s N 0 = [] := rfl
   simp only [Qh, c0, ↓reduceIte, Nat.reduceEqDiff, BU1]
  ·rintro j G hj ⟨hG, hGs⟩
   have hlt : (j : Int) < s.pieces.length := by omega
   have i1 : inI ((j : Int) + 1) := by unfold inI; omega
   have hcs := Qju s N j
   have hcl : (canK s N j).length ≤ 8 := by
    unfold canK
    rw [Qn]
    have := Zd (fun (j : Nat) => Qbu s (Qim s N j)) (Za j)
    rw [Zl] at this
    omega
   have hpu := Go.C06.putI G N j (by omega)
   rw [hGs] at hpu
   have hon : (Qex s).set N (j : Int) = Qim s N j := rfl
   rw [hon] at hpu
   obtain ⟨P, hP⟩ : ∃ P, P = Qim s N j := ⟨_, rfl⟩
   have hPl : P.length = s.wishes.length := by rw [hP]; unfold Qim; rw [List.length_set]; exact (Qjg s).1
   have hPg : ∀ v, P.set N v = (Qex s).set N v := fun v => by rw [hP]; unfold Qim; rw [Qp, List.set_set]
   have o1 : OkPl s P := Qpi hst ⟨hPl, fun x hx => by
    rw [hP] at hx
    unfold Qim at hx
    rcases List.mem_or_eq_of_mem_set hx with hx | rfl
    ·exact (Qjg s).2 x hx
    ·omega⟩
   rw [← hP] at hpu hcs
   have g4 := g3 P
   have hck := Go.C06.chunkI P
   rw [hPl] at hck
   have hGl : (G.map V.i).length = s.wishes.length := by rw [Qn, hG]
   have hPl2 : (P.map V.i).length = s.wishes.length := by rw [Qn, hPl]
   obtain ⟨C, hC⟩ : ∃ C, C = canK s N j := ⟨_, rfl⟩
   obtain ⟨D, hD⟩ : ∃ D, D = canK s N (j + 1) := ⟨_, rfl⟩
   rw [← hC] at hcs hcl ⊢
   rw [← hD] at hcs ⊢
   have hfc : Qao (C.length + 1) := by unfold Qao; omega
   cases q : Qbu s P with
   | true =>
    rw [if_pos q] at hcs
    have hDl : C.length + 1 = D.length := by rw [hcs]; simp
    rw [hDl] at hfc
    have hDf : C.map V.i ++ [V.i (j : Int)] = D.map V.i := by rw [hcs, Qg]; rfl
    simp only [hlt, hpu, g4, o1, hck, hGl, hPl2, Qv, Qk, vw_I, q, hfc, hNi, hNs, i1, Qq, Qu, hDl, hDf, Qi, Qj, Qck, Qa0, Qbt, Qak, Qaw, Qb2, Qah, Qa2, Qa1, flat, ↓reduceIte, Nat.reduceEqDiff, Nat.reduceLT, Qe, Qdk, Bool.or_true, forall_const, reduceCtorEq, not_false_eq_true, ne_eq, BU1]
    exact ⟨P, ⟨hPl, hPg⟩, rfl⟩
   | false =>
    rw [if_neg (by rw [q]; simp)] at hcs
    simp only [hlt, hpu, g4, o1, hck, hGl, hPl2, Qv, Qk, vw_I, q, hNi, hNs, i1, hcs, Qi, Qj, Qa0, Qah, Qa2, Qa1, flat, ↓reduceIte, Nat.reduceEqDiff, Nat.reduceLT, Qdk, Bool.or_true, Qa, forall_const, BU1]
    exact ⟨P, ⟨hPl, hPg⟩, rfl⟩
  ·rintro G ⟨hG, hGs⟩
   have hck := Go.C06.chunkI (canK s N s.pieces.length)
   simp only [Qc, hck, Qv, Qk, vw_I, Qa0, ↓reduceIte, Nat.reduceEqDiff, rvs, Qd7, Qdk, Qc, Qa, BU1]
 ·rw [if_neg e] at g1 ⊢
  simp only [rc16, rs16, g0, hwl, g1, h, e, Qaq, Qa0, runX, fpQ, fpV, Qa2, Qa1, flat, Qc4, ↓reduceIte, Nat.reduceEqDiff, Nat.reduceAdd, Nat.reduceLT, Nat.reduceLeDiff, Int.reduceNeg, rvs, vw_z, Qd7, zipA, Qa, implies_true, reduceCtorEq, Qd, Qae, BU1]
end Go.CS
set_option linter.all false
namespace Go.CS
open Go.Fam Go.Proofs
open Go.C06 (Span eI dI Qbl fnG Qad Qab Qa6 Qa8)
def wc (s : Shop) (c : Int) : Shop := { s with carve := c }
def JR1 (j j' : Job) : Prop := j.maker = j'.maker ∧ j.slot = j'.slot ∧ j.day ≤ j'.day
def JR : List Job → List Job → Prop
 | [], [] => True
 | j :: l, j' :: l' => JR1 j j' ∧ JR l l'
 | _, _ => False
theorem Qne : ∀ {a a' b b' : List Job}, JR a a' → JR b b' → JR (a ++ b) (a' ++ b')
 | [], [], _, _, _, h => h
 | _ :: _, [], _, _, h, _ => h.elim
 | [], _ :: _, _, _, h, _ => h.elim
 | _ :: _, _ :: _, _, _, h, g => ⟨h.1, Qne h.2 g⟩
theorem Qxz {f f' : Int → Job} (h : ∀ k, JR1 (f k) (f' k)) : ∀ l : List Int, JR (l.map f) (l.map f')
 | [] => trivial
 | k :: l => ⟨h k, Qxz h l⟩
theorem Qxy : ∀ {a a' : List Job}, JR a a' → a.length = a'.length
 | [], [], _ => rfl
 | _ :: _, [], h => h.elim
 | [], _ :: _, h => h.elim
 | _ :: _, _ :: _, h => by simp [Qxy h.2]
theorem Qxx {d : Job} : ∀ {a a' : List Job} (n : Nat), JR a a' → JR1 (a.getD n d) (a'.getD n d)
 | [], [], n, _ => by simp [JR1]
 | _ :: _, [], _, h => h.elim
 | [], _ :: _, _, h => h.elim
 | _ :: _, _ :: _, 0, h => by simpa using h.1
 | _ :: _, _ :: _, n + 1, h => by simpa using Qxx (d := d) n h.2
theorem Qxw {p p' : Job → Bool} (h : ∀ j j', JR1 j j' → p j = true → p' j' = true) : ∀ {a a' : List Job}, JR a a' → a.all p = true → a'.all p' = true
 | [], [], _, _ => rfl
 | _ :: _, [], h, _ => h.elim
 | [], _ :: _, h, _ => h.elim
 | _ :: _, _ :: _, g, ha => by
  rw [List.all_cons, Qt] at ha ⊢
  exact ⟨h _ _ g.1 ha.1, Qxw h g.2 ha.2⟩
variable {s : Shop} {a b : Int}
theorem Qwm (h : b ≤ a) (x : Wish) (p : Piece) : dayN (wc s a) x p ≤ dayN (wc s b) x p := by
 unfold dayN
 show (if Qd1 x p = 2 then x.due - a else x.due) ≤ (if Qd1 x p = 2 then x.due - b else x.due)
 split <;> omega
theorem Qsw (h : b ≤ a) (i : Nat) (x : Int) {l : List Job} (hl : jobW (wc s a) i x = some l) : ∃ l', jobW (wc s b) i x = some l' ∧ JR l l' := by
 unfold jobW at hl ⊢
 have e1 : Qc3 (wc s a) i = Qc3 (wc s b) i := rfl
 have e2 : Qba (wc s a) x = Qba (wc s b) x := rfl
 have hd := Qwm (s := s) h (Qc3 (wc s b) i) (Qba (wc s b) x)
 rw [e1, e2] at hl
 split at hl
 ·cases hl
  exact ⟨[], by rename_i h; rw [if_pos h], trivial⟩
 ·rename_i h1
  rw [if_neg h1]
  split at hl
  ·cases hl
  ·rename_i h2
   rw [if_neg h2]
   split at hl
   ·cases hl
   ·rename_i h3
    cases hl
    exact ⟨_, if_neg (by omega), Qxz (f := fun k => ⟨(Qba (wc s b) x).make, k, dayN (wc s a) (Qc3 (wc s b) i) (Qba (wc s b) x)⟩) (f' := fun k => ⟨(Qba (wc s b) x).make, k, dayN (wc s b) (Qc3 (wc s b) i) (Qba (wc s b) x)⟩) (fun k => ⟨rfl, rfl, hd⟩) _⟩
theorem Qlv (h : b ≤ a) (plan : List Int) : ∀ (k : Nat) (l : List Job), Qfx (wc s a) plan k = some l → ∃ l', Qfx (wc s b) plan k = some l' ∧ JR l l'
 | 0, l, hl => by
  cases hl
  exact ⟨[], rfl, trivial⟩
 | k + 1, l, hl => by
  simp only [Qfx] at hl ⊢
  cases e1 : Qfx (wc s a) plan k with
  | none => rw [e1] at hl; cases hl
  | some u =>
   cases e2 : jobW (wc s a) k (plan.getD k 0) with
   | none => rw [e1, e2] at hl; cases hl
   | some v =>
    rw [e1, e2] at hl
    cases hl
    obtain ⟨u', h1, h2⟩ := Qlv h plan k u e1
    obtain ⟨v', h3, h4⟩ := Qsw h k _ e2
    exact ⟨u' ++ v', by rw [h1, h3], Qne h2 h4⟩
theorem Qlx (h : b ≤ a) (plan : List Int) {l : List Job} (hl : Qdy (wc s a) plan = some l) : ∃ l', Qdy (wc s b) plan = some l' ∧ JR l l' := Qlv h plan _ l hl
theorem Qo7 (p : Int × Int) {j j' : Job} (hj : JR1 j j') (h : Qgo (wc s a) p j = true) : Qgo (wc s b) p j' = true := by
 obtain ⟨h1, h2, h3⟩ := hj
 unfold Qgo at h ⊢
 rw [Qt, decide_eq_true_eq, decide_eq_true_eq] at h ⊢
 rw [← h1, ← h2]
 exact ⟨by omega, h.2⟩
theorem Quw {l l' : List Job} (hj : JR l l') (h : canN (wc s a) l = true) : canN (wc s b) l' = true := by
 refine Qxw (fun j j' hj h => ?_) hj h
 unfold canJ at h ⊢
 rw [List.any_eq_true] at h ⊢
 obtain ⟨n, hn, h⟩ := h
 exact ⟨n, hn, Qo7 _ hj h⟩
theorem Qly {l l' : List Job} (hj : JR l l') : Qdz (wc s b) l' ≤ Qdz (wc s a) l := by
 unfold Qdz
 have := Qt7 (gd := gdS (wc s a) l) (gd' := gdS (wc s b) l') (n := nS s) (m := l.length) fun i j h => Qo7 (a := a) _ (Qxx j.toNat hj) h
 rw [← Qxy hj]
 exact Int.ofNat_le.2 this
theorem Qt5 (s : Shop) (l : List Job) : 0 ≤ Qdz s l := Int.natCast_nonneg _
theorem Qk1 (h : b ≤ a) {p : List Int} (hp : Qbu (wc s a) p = true) : Qbu (wc s b) p = true := by
 unfold Qbu at hp ⊢
 cases e : Qdy (wc s a) p with
 | none => rw [e] at hp; cases hp
 | some l =>
  rw [e] at hp
  obtain ⟨l', h1, h2⟩ := Qlx h p e
  simp only [decide_eq_true_eq] at hp
  rw [h1]
  simp only [decide_eq_true_eq]
  have := Qly (s := s) (a := a) (b := b) h2
  have := Qt5 (wc s b) l'
  omega
theorem Qqm (s : Shop) (c e : Int) : ∀ (k : Nat) (f : List Int), Qcm (wc s c) e k f = Qcm s e k f
 | 0, _ => rfl
 | k + 1, f => by
  have ih := Qqm s c e k
  unfold Qcm
  have e1 : fitB (wc s c) f = fitB s f := rfl
  have e2 : (wc s c).pieces = s.pieces := rfl
  rw [e1, e2, ih]
  simp only [ih]
theorem Qor (s : Shop) (c e : Int) : Qcr (wc s c) e = Qcr s e := Qqm s c e _ _
theorem Quk (s : Shop) (c : Int) (plan : List Int) : ∀ k, takK (wc s c) plan k = takK s plan k
 | 0 => rfl
 | k + 1 => by
  simp only [takK, Quk s c plan k]; rfl
theorem Qm6 (s : Shop) (c : Int) (plan : List Int) : takN (wc s c) plan = takN s plan := Quk s c plan _
theorem Qi7 (s : Shop) : ∀ (l : List (List Int)) (b0 : List Int), takN s b0 ≤ takN s (l.foldl (betP s) b0) ∧ (∀ p ∈ l, Qbu s p = true → takN s p ≤ takN s (l.foldl (betP s) b0)) ∧ (l.foldl (betP s) b0 = b0 ∨ (l.foldl (betP s) b0 ∈ l ∧ Qbu s (l.foldl (betP s) b0) = true))
 | [], b0 => ⟨Qm _, fun _ h => (nomatch h), .inl rfl⟩
 | p :: l, b0 => by
  obtain ⟨h1, h2, h3⟩ := Qi7 s l (betP s b0 p)
  rw [Zq]
  have hb : takN s b0 ≤ takN s (betP s b0 p) ∧ (Qbu s p = true → takN s p ≤ takN s (betP s b0 p)) ∧ (betP s b0 p = b0 ∨ (betP s b0 p = p ∧ Qbu s p = true)) := by
   unfold betP
   split
   ·rename_i h; exact ⟨by omega, fun _ => Qm _, .inr ⟨rfl, h.2⟩⟩
   ·rename_i h; exact ⟨Qm _, fun hf => Int.not_lt.1 fun hl => h ⟨hl, hf⟩, .inl rfl⟩
  refine ⟨by omega, fun q hq hf => ?_, ?_⟩
  ·rcases List.mem_cons.1 hq with rfl | hq
   ·have := hb.2.1 hf; omega
   ·exact h2 q hq hf
  ·rcases h3 with h3 | h3
   ·rw [h3]
    rcases hb.2.2 with e | ⟨e, hf⟩
    ·exact .inl e
    ·rw [e]; exact .inr ⟨by simp, hf⟩
   ·exact .inr ⟨by simp [h3.1], h3.2⟩
theorem Qti (h : b ≤ a) : takN (wc s a) (Qep (wc s a)) ≤ takN (wc s b) (Qep (wc s b)) := by
 obtain ⟨_, _, h3⟩ := Qi7 (wc s a) (Qcr (wc s a) 1) (Qex (wc s a))
 obtain ⟨g1, g2, _⟩ := Qi7 (wc s b) (Qcr (wc s b) 1) (Qex (wc s b))
 rw [show (Qcr (wc s a) 1).foldl (betP (wc s a)) (Qex (wc s a)) = Qep (wc s a) from rfl] at h3
 rw [show (Qcr (wc s b) 1).foldl (betP (wc s b)) (Qex (wc s b)) = Qep (wc s b) from rfl] at g1 g2
 rcases h3 with e | ⟨hm, hf⟩
 ·rw [e, Qm6, Qm6]
  rw [Qm6, Qm6] at g1
  exact g1
 ·have := g2 _ (by rw [Qor] at hm ⊢; exact hm) (Qk1 h hf)
  rw [Qm6, Qm6] at this ⊢
  exact this
theorem Qmk (s : Shop) : ∀ (l : List (List Int)) (c : Int), -1 ≤ c → -1 ≤ l.foldl (extF s) c ∧ (c ≠ -1 → l.foldl (extF s) c ≠ -1 ∧ l.foldl (extF s) c ≤ c) ∧
  (∀ p ∈ l, ∀ j, Qdy s p = some j → canN s j = true → l.foldl (extF s) c ≠ -1 ∧ l.foldl (extF s) c ≤ Qdz s j) ∧
  (l.foldl (extF s) c = c ∨ ∃ p ∈ l, ∃ j, Qdy s p = some j ∧ canN s j = true ∧ l.foldl (extF s) c = Qdz s j)
 | [], c, hc => ⟨hc, fun h => ⟨h, Qm _⟩, fun _ h => (nomatch h), .inl rfl⟩
 | p :: l, c, hc => by
  have hb : -1 ≤ extF s c p ∧ (c ≠ -1 → extF s c p ≠ -1 ∧ extF s c p ≤ c) ∧ (∀ j, Qdy s p = some j → canN s j = true → extF s c p ≠ -1 ∧ extF s c p ≤ Qdz s j) ∧ (extF s c p = c ∨ ∃ j, Qdy s p = some j ∧ canN s j = true ∧ extF s c p = Qdz s j) := by
   unfold extF
   cases e : Qdy s p with
   | none => exact ⟨hc, fun h => ⟨h, Qm _⟩, fun j hj => (nomatch hj), .inl rfl⟩
   | some u =>
    have h0 := Qt5 s u
    simp only
    split
    ·rename_i h1
     split
     ·rename_i h2
      exact ⟨by omega, fun h => ⟨by omega, by omega⟩, fun j hj _ => by cases hj; exact ⟨by omega, Qm _⟩, .inr ⟨u, rfl, h1, rfl⟩⟩
     ·rename_i h2
      exact ⟨hc, fun h => ⟨h, Qm _⟩, fun j hj _ => by cases hj; exact ⟨by omega, by omega⟩, .inl rfl⟩
    ·rename_i h1
     exact ⟨hc, fun h => ⟨h, Qm _⟩, fun j hj hj2 => by cases hj; exact absurd hj2 h1, .inl rfl⟩
  obtain ⟨h1, h2, h3, h4⟩ := Qmk s l (extF s c p) hb.1
  rw [Zq]
  refine ⟨h1, fun h => ?_, fun q hq j hj hc2 => ?_, ?_⟩
  ·have := hb.2.1 h
   have := h2 this.1
   exact ⟨this.1, by omega⟩
  ·rcases List.mem_cons.1 hq with rfl | hq
   ·have := hb.2.2.1 j hj hc2
    have := h2 this.1
    exact ⟨this.1, by omega⟩
   ·exact h3 q hq j hj hc2
  ·rcases h4 with e | ⟨q, hq, j, hj⟩
   ·rw [e]
    rcases hb.2.2.2 with e | ⟨j, hj⟩
    ·exact .inl e
    ·exact .inr ⟨p, by simp, j, hj⟩
   ·exact .inr ⟨q, by simp [hq], j, hj⟩
theorem Qrd (h : b ≤ a) (he : extA (wc s a) ≠ -1) : extA (wc s b) ≠ -1 ∧ extA (wc s b) ≤ extA (wc s a) := by
 obtain ⟨_, _, _, h4⟩ := Qmk (wc s a) (Qcr (wc s a) 0) (-1) (by omega)
 obtain ⟨_, _, g3, _⟩ := Qmk (wc s b) (Qcr (wc s b) 0) (-1) (by omega)
 rw [show (Qcr (wc s a) 0).foldl (extF (wc s a)) (-1) = extA (wc s a) from rfl] at h4
 rw [show (Qcr (wc s b) 0).foldl (extF (wc s b)) (-1) = extA (wc s b) from rfl] at g3
 rcases h4 with e | ⟨p, hp, j, hj, hc, e⟩
 ·exact absurd e he
 ·obtain ⟨j', h1, h2⟩ := Qlx h p hj
  have := g3 p (by rw [Qor] at hp ⊢; exact hp) j' h1 (Quw h2 hc)
  have := Qly (s := s) (a := a) (b := b) h2
  exact ⟨by omega, by omega⟩
theorem Qnl (h : b ≤ a) (n : Int) : ∀ k, (canK (wc s a) n k).length ≤ (canK (wc s b) n k).length ∧ ∀ x ∈ canK (wc s a) n k, x ∈ canK (wc s b) n k
 | 0 => ⟨Qk _, fun _ h => h⟩
 | k + 1 => by
  obtain ⟨h1, h2⟩ := Qnl h n k
  rw [Qju, Qju]
  have e : Qim (wc s a) n k = Qim (wc s b) n k := rfl
  by_cases hf : Qbu (wc s a) (Qim (wc s a) n k) = true
  ·rw [if_pos hf, if_pos (by rw [← e]; exact Qk1 h hf)]
   refine ⟨by simp; omega, fun x hx => ?_⟩
   rcases Q5.1 hx with hx | hx
   ·exact Zf _ (h2 x hx)
   ·exact List.mem_append_right _ hx
  ·rw [if_neg hf]
   split
   ·exact ⟨by simp; omega, fun x hx => Zf _ (h2 x hx)⟩
   ·exact ⟨h1, h2⟩
theorem Zb8 (h : Qd0 (wc s a) = 0) (hb : 0 ≤ b ∧ b ≤ a) : Qd0 (wc s b) = 0 := by
 unfold Qd0 at h ⊢
 have e1 : Qcc (wc s a).work = Qcc (wc s b).work := rfl
 rw [e1] at h
 split at h
 ·rename_i h1; exact absurd h h1
 ·rename_i h1
  rw [if_neg h1]
  split at h
  ·rename_i h2
   rw [if_pos]
   unfold Qe7 at h2 ⊢
   simp only [Qt] at h2 ⊢
   refine ⟨⟨⟨⟨⟨h2.1.1.1.1.1, ?_⟩, h2.1.1.1.2⟩, h2.1.1.2⟩, h2.1.2⟩, h2.2⟩
   have := Qav.1 h2.1.1.1.1.2
   exact Qav.2 ⟨hb.1, Int.le_trans hb.2 this.2⟩
  ·cases h
theorem Qwx {is : Bool} (h : Qbj (wc s a) is = 0) (hb : 0 ≤ b ∧ b ≤ a) : Qbj (wc s b) is = 0 := by
 unfold Qbj at h ⊢
 by_cases e : Qd0 (wc s a) = 0
 ·rw [if_neg (fun h => h e)] at h
  rw [if_neg (fun h => h (Zb8 e hb))]
  exact h
 ·rw [if_pos e] at h
  exact absurd h e
end Go.CS
set_option maxRecDepth 8000
namespace Go.CS
open Go.Fam Go.Proofs
def rc12 : RC := (.seq (.reg false [(cI 2 0)]) (.keep [0] (.seq (.reg false [(cMv 3 0), (cC 4 .add 3 9), (cC 5 .quo 4 10), (cMv 2 5)]) .ret)))
def rs12 : List RV := [.t 2]
theorem cf12 : CF Tryz.prog Tryz.f12 [] 0 1 rc12 rs12 1 := ⟨by kernel_rfl, by kernel_rfl, by kernel_rfl, by decide⟩
def rc17 : RC := (.seq (.reg false [(cQ 4 [] (.mv (kB false)))]) (.keep [0,1] (.seq (.seq (.reg false [(cI 5 0)]) (.keep [0,1,5] (.block 0 (.loop [0,1,5] none (.seq (.seq (.reg false [(cMv 8 5), (cMv 9 0), (cLn 10 9), (cB 11 .lss 8 10)]) (.keep [0,1,5,11] (.cond (.t 11) .skip (.exit 0)))) (.keep [0,1,5] (.seq (.block 1 (.seq (.reg false [(cQ 6 [] (.mv (kB false)))]) (.keep [0,1,5,6] (.seq (.seq (.reg false [(cI 7 0)]) (.keep [0,1,5,6,7] (.block 2 (.loop [0,1,5,6,7] none (.seq (.seq (.reg false [(cMv 14 7), (cMv 15 1), (cLn 16 15), (cB 17 .lss 14 16)]) (.keep [0,1,5,6,7,17] (.cond (.t 17) .skip (.exit 2)))) (.keep [0,1,5,6,7] (.seq (.block 3 (.any true 0 [⟨(cMv 20 6), [], []⟩, ⟨(cMv 21 20), [], [0]⟩, ⟨(gMv 22 21 false 0), [], [1,0]⟩, ⟨(gMv 23 21 false 5), [], [1,0]⟩, ⟨(gQ 24 21 false [22,23] (.iad 1 (.t 22) (.t 23))), [], [2,1,0,3]⟩, ⟨(gQ 25 21 false [24] (.ld false 1 (.t 24))), [], [4,2,1,0,3]⟩, ⟨(gMv 26 21 false 1), [], [1,0]⟩, ⟨(gMv 27 21 false 7), [], [1,0]⟩, ⟨(gQ 28 21 false [26,27] (.iad 1 (.t 26) (.t 27))), [], [6,1,0,7]⟩, ⟨(gQ 29 21 false [28] (.ld false 1 (.t 28))), [], [8,6,1,0,7]⟩, ⟨(gQ 30 21 false [25,29] (.bin .eql (.t 25) (.t 29))), [], [5,4,2,1,0,3,9,8,6,7]⟩, ⟨(cQ 31 [21,30] (.pick (.t 21) (kB true) (.t 30))), [], [1,0,10,5,4,2,3,9,8,6,7]⟩, ⟨(cMv 6 31), [], [11,1,0,10,5,4,2,3,9,8,6,7]⟩])) (.keep [0,1,5,6,7] (.reg false [(cMv 18 7), (cC 19 .add 18 1), (cMv 7 19)]))))))))) (.keep [0,1,5,6] (.seq (.reg false [(cMv 32 6), (cN 33 32)]) (.keep [0,1,5,33] (.cond (.t 33) (.seq (.reg false [(cQ 4 [] (.mv (kB false)))]) .ret) .skip)))))))) (.keep [0,1,5] (.reg false [(cMv 12 5), (cC 13 .add 12 1), (cMv 5 13)]))))))))) (.keep [] (.seq (.reg false [(cQ 4 [] (.mv (kB true)))]) .ret)))))
def rs17 : List RV := [.t 4]
theorem cf17 : CF Tryz.prog Tryz.f17 [] 0 1 rc17 rs17 2 := ⟨by kernel_rfl, by kernel_rfl, by kernel_rfl, by decide⟩
def rc8 : RC := (.seq (.reg false [(cQ 0 [] (.mv (kB false)))]) (.keep [] (.seq (.reg false [(cQ 6 [] (.call (kF 22) [])), (cQ 7 [6] (.call (kF 10) [(.t 6)])), (cMv 5 7), (cEx 8 5 0), (cEx 9 5 1), (cMv 1 8), (cMv 2 9)]) (.keep [1,2] (.seq (.reg false [(cQ 11 [] (.call (kF 23) [])), (cQ 12 [11] (.call (kF 14) [(.t 11)])), (cMv 10 12), (cEx 13 10 0), (cEx 14 10 1), (cMv 3 13), (cMv 4 14)]) (.keep [1,2,3,4] (.seq (.reg true [(cMv 15 2), (cC 16 .eql 15 0), (cMv 17 16), (gMv 18 17 true 4), (gQ 19 17 true [18] (.bin .eql (.t 18) (kI 0))), (cQ 20 [17,19] (.pick (.t 17) (.t 19) (kB false))), (cMv 21 20), (gMv 22 21 true 1), (gQ 23 21 true [22] (.bin .eql (.t 22) (kI 27))), (cQ 24 [21,23] (.pick (.t 21) (.t 23) (kB false))), (cMv 25 24), (gMv 26 25 true 3), (gQ 27 25 true [26] (.bin .eql (.t 26) (kI 1600))), (cQ 28 [25,27] (.pick (.t 25) (.t 27) (kB false))), (cMv 0 28)]) .ret)))))))
def rs8 : List RV := [.t 0]
theorem cf8 : CF Tryz.prog Tryz.f8 [] 0 1 rc8 rs8 0 := ⟨by kernel_rfl, by kernel_rfl, by kernel_rfl, by decide⟩
def rc3 : RC := (.seq (.reg false [(cX 3 0), (cX 4 1), (cQ 6 [] (.mv (kB false)))]) (.keep [2,3,4] (.seq (.seq (.reg true [(cLd 26 3 true 9), (cQ 27 [26] (.call (kF 4) [(.t 26)])), (cMv 28 27), (gQ 29 28 false [4] (.ld true 2 (.t 4))), (gQ 30 28 false [29] (.call (kF 5) [(.t 29)])), (cQ 31 [28,30] (.pick (.t 28) (kB true) (.t 30))), (cMv 32 31), (gMv 33 32 false 2), (gQ 34 32 false [33] (.len (.t 33))), (gQ 35 32 false [34] (.bin .gtr (.t 34) (kI 60))), (cQ 36 [32,35] (.pick (.t 32) (kB true) (.t 35))), (cMv 37 36), (gQ 38 37 false [4] (.ld true 2 (.t 4))), (gQ 39 37 false [38] (.call (kF 6) [(.t 38)])), (gQ 40 37 false [39] (.bin .neq (.t 39) (kI 0))), (cQ 41 [37,40] (.pick (.t 37) (kB true) (.t 40))), (cMv 42 41), (gQ 43 42 false [4] (.ld true 2 (.t 4))), (gMv 44 42 false 2), (gQ 45 42 false [43,44] (.call (kF 7) [(.t 43), (.t 44)])), (gQ 46 42 false [45] (.not (.t 45))), (cQ 47 [42,46] (.pick (.t 42) (kB true) (.t 46)))]) (.keep [2,3,4,47] (.cond (.t 47) (.seq (.reg false [(cQ 48 [] (.call (kF 8) [])), (cMv 6 48)]) .ret) .skip))) (.keep [2,3,4] (.seq (.reg false [(cLd 50 4 true 2), (cMv 51 2), (cQ 52 [50,51] (.call (kF 9) [(.t 50), (.t 51)])), (cMv 49 52), (cEx 53 49 0), (cEx 54 49 1), (cMv 7 53), (cMv 8 54)]) (.keep [3,4,7,8] (.seq (.reg false [(cLd 56 4 true 2), (cQ 57 [56] (.call (kF 10) [(.t 56)])), (cMv 55 57), (cEx 58 55 0), (cEx 59 55 1), (cMv 9 58), (cMv 10 59)]) (.keep [3,7,8,9,10] (.seq (.seq (.reg true [(cMv 60 8), (cC 61 .neq 60 0), (cMv 62 61), (gMv 63 62 false 10), (gQ 64 62 false [63] (.bin .neq (.t 63) (kI 0))), (cQ 65 [62,64] (.pick (.t 62) (kB true) (.t 64))), (cMv 66 65), (gMv 67 66 false 9), (gQ 68 66 false [67] (.bin .lss (.t 67) (kI 0))), (cQ 69 [66,68] (.pick (.t 66) (kB true) (.t 68))), (cMv 70 69), (gMv 71 70 false 9), (gMv 72 70 false 7), (gQ 73 70 false [71,72] (.bin .gtr (.t 71) (.t 72))), (cQ 74 [70,73] (.pick (.t 70) (kB true) (.t 73)))]) (.keep [3,7,9,74] (.cond (.t 74) (.seq (.reg false [(cQ 6 [] (.mv (kB false)))]) .ret) .skip))) (.keep [3,7,9] (.seq (.any false 2 [⟨(cLd 75 3 true 9), [], []⟩, ⟨(cQ 76 [75] (.call (kF 11) [(.t 75)])), [], [0]⟩, ⟨(cLd 77 3 true 9), [], []⟩, ⟨(cQ 78 [77] (.call (kF 11) [(.t 77)])), [], [2,1,0]⟩, ⟨⟨(some 11), none, [], (some 0), .w (.alc [(.z 4), (.z 1), (.i 0), (.z 4), (.z 1), (.z 5), (.z 6), (.z 3), (.i 0)])⟩, [0,1,2,3], []⟩, ⟨⟨(some 12), none, [], (some 1), .w (.alc [(.z 4), (.z 1), (.i 0), (.z 4), (.z 1), (.z 5), (.z 6), (.z 3), (.i 0)])⟩, [0,1,2,3,4], []⟩, ⟨⟨none, none, [11,76], none, .w (.st 9 (.t 11) (.t 76))⟩, [], [4,1,0,3,2,5]⟩, ⟨⟨none, none, [12,78], none, .w (.st 9 (.t 12) (.t 78))⟩, [], [5,3,2,1,0,6,4]⟩]) (.keep [3,7,9,11,12] (.seq (.reg false [(cMv 79 7), (cQ 80 [79] (.call (kF 12) [(.t 79)])), (cMv 81 9), (cQ 82 [81] (.call (kF 12) [(.t 81)])), (cFa 83 11 8), ⟨none, none, [83,80], none, .w (.st 1 (.t 83) (.t 80))⟩, (cFa 84 12 8), ⟨none, none, [84,82], none, .w (.st 1 (.t 84) (.t 82))⟩]) (.keep [3,11,12] (.seq (.seq (.reg false [(cLd 85 11 true 9), (cQ 86 [85] (.call (kF 13) [(.t 85)])), (cC 87 .neq 86 0)]) (.keep [3,11,12,87] (.cond (.t 87) (.seq (.reg false [(cQ 88 [] (.call (kF 8) [])), (cMv 6 88)]) .ret) .skip))) (.keep [3,11,12] (.seq (.reg false [(cLd 90 11 true 9), (cQ 91 [90] (.call (kF 14) [(.t 90)])), (cMv 89 91), (cEx 92 89 0), (cEx 93 89 1), (cMv 13 92), (cMv 14 93)]) (.keep [3,11,12,13,14] (.seq (.reg false [(cLd 95 12 true 9), (cQ 96 [95] (.call (kF 14) [(.t 95)])), (cMv 94 96), (cEx 97 94 0), (cEx 98 94 1), (cMv 15 97), (cMv 16 98)]) (.keep [3,11,12,13,14,15,16] (.seq (.reg false [(cLd 100 11 true 9), (cQ 101 [100] (.call (kF 15) [(.t 100)])), (cMv 99 101), (cEx 102 99 0), (cEx 103 99 1), (cMv 17 102), (cMv 18 103)]) (.keep [3,11,12,13,14,15,16,17,18] (.seq (.reg false [(cLd 105 12 true 9), (cQ 106 [105] (.call (kF 15) [(.t 105)])), (cMv 104 106), (cEx 107 104 0), (cEx 108 104 1), (cMv 19 107), (cMv 20 108)]) (.keep [3,11,12,13,14,15,16,17,18,19,20] (.seq (.seq (.reg true [(cMv 109 14), (cC 110 .neq 109 0), (cMv 111 110), (gMv 112 111 false 16), (gQ 113 111 false [112] (.bin .neq (.t 112) (kI 0))), (cQ 114 [111,113] (.pick (.t 111) (kB true) (.t 113))), (cMv 115 114), (gMv 116 115 false 15), (gMv 117 115 false 13), (gQ 118 115 false [116,117] (.bin .lss (.t 116) (.t 117))), (cQ 119 [115,118] (.pick (.t 115) (kB true) (.t 118))), (cMv 120 119), (gMv 121 120 false 18), (gQ 122 120 false [121] (.bin .eql (.t 121) (kI 0))), (gMv 123 120 false 122), (gMv 124 123 true 20), (gQ 125 123 true [124] (.bin .neq (.t 124) (kI 0))), (gMv 126 123 true 125), (gMv 127 126 false 19), (gMv 128 126 false 17), (gQ 129 126 false [127,128] (.bin .gtr (.t 127) (.t 128))), (gQ 130 123 true [126,129] (.pick (.t 126) (kB true) (.t 129))), (gQ 131 120 false [123,130] (.pick (.t 123) (.t 130) (kB false))), (cQ 132 [120,131] (.pick (.t 120) (kB true) (.t 131)))]) (.keep [3,11,12,132] (.cond (.t 132) (.seq (.reg false [(cQ 6 [] (.mv (kB false)))]) .ret) .skip))) (.keep [3,11,12] (.seq (.seq (.reg false [(cI 21 0)]) (.keep [3,11,12,21] (.block 0 (.loop [3,11,12,21] none (.seq (.seq (.reg false [(cMv 133 21), (cFa 134 3 6), (cLd 135 134 false 1), (cLn 136 135), (cB 137 .lss 133 136)]) (.keep [3,11,12,21,137] (.cond (.t 137) .skip (.exit 0)))) (.keep [3,11,12,21] (.seq (.block 1 (.seq (.reg false [(cLd 141 11 true 9), (cMv 142 21), (cQ 143 [141,142] (.call (kF 16) [(.t 141), (.t 142)])), (cMv 140 143), (cEx 144 140 0), (cEx 145 140 1), (cMv 22 144), (cMv 23 145)]) (.keep [3,11,12,21,22,23] (.seq (.reg false [(cLd 147 12 true 9), (cMv 148 21), (cQ 149 [147,148] (.call (kF 16) [(.t 147), (.t 148)])), (cMv 146 149), (cEx 150 146 0), (cEx 151 146 1), (cMv 24 150), (cMv 25 151)]) (.keep [3,11,12,21,22,23,24,25] (.seq (.reg true [(cMv 152 23), (cC 153 .neq 152 0), (cMv 154 153), (gMv 155 154 false 25), (gQ 156 154 false [155] (.bin .neq (.t 155) (kI 0))), (cQ 157 [154,156] (.pick (.t 154) (kB true) (.t 156))), (cMv 158 157), (gMv 159 158 false 22), (gQ 160 158 false [159] (.len (.t 159))), (gMv 161 158 false 24), (gQ 162 158 false [161] (.len (.t 161))), (gQ 163 158 false [160,162] (.bin .gtr (.t 160) (.t 162))), (cQ 164 [158,163] (.pick (.t 158) (kB true) (.t 163))), (cMv 165 164), (gMv 166 165 false 22), (gMv 167 165 false 24), (gQ 168 165 false [166,167] (.call (kF 17) [(.t 166), (.t 167)])), (gQ 169 165 false [168] (.not (.t 168))), (cQ 170 [165,169] (.pick (.t 165) (kB true) (.t 169)))]) (.keep [3,11,12,21,170] (.cond (.t 170) (.seq (.reg false [(cQ 6 [] (.mv (kB false)))]) .ret) .skip)))))))) (.keep [3,11,12,21] (.reg false [(cMv 138 21), (cC 139 .add 138 1), (cMv 21 139)]))))))))) (.keep [] (.seq (.reg false [(cQ 171 [] (.call (kF 8) [])), (cMv 6 171)]) .ret)))))))))))))))))))))))))))))
def rs3 : List RV := [.t 6]
theorem cf3 : CF Tryz.prog Tryz.f3 [3,4] 0 1 rc3 rs3 3 := ⟨by kernel_rfl, by kernel_rfl, by kernel_rfl, by decide⟩
end Go.CS
set_option maxRecDepth 8000
namespace Go.CS
open Go.Fam Go.Proofs
def rc23 : RC := (.seq (.reg false [⟨(some 0), none, [], none, .w (.alc [(.z 4), (.z 1), (.i 0), (.z 4), (.z 1), (.z 5), (.z 6), (.z 3), (.i 0)])⟩]) (.keep [0] (.seq (.reg false [(cQ 1 [] (.call (kF 46) [])), (cQ 2 [] (.bsl 1 4 [(.i 0)] [(0,1, (kI 1)), (1,1, (kI 0)), (2,1, (kI 0)), (3,1, (kI 0))])), (cQ 3 [] (.bsl 1 1 [(.i 0)] [(0,1, (kI 0))])), (cQ 4 [3] (.bld [(.i 0), (.i 0), (.i 0), (.i 0), (.z 1)] [(0,1, (kI 1)), (1,1, (kI 60)), (4,1, (.t 3))])), (cQ 5 [] (.bld [(.i 0), (.i 0), (.i 0), (.i 0), (.z 1)] [(0,1, (kI 1)), (1,1, (kI 60)), (2,1, (kI 7))])), (cQ 6 [] (.bsl 1 1 [(.i 0)] [(0,1, (kI 0))])), (cQ 7 [6] (.bld [(.i 0), (.i 0), (.i 0), (.i 0), (.z 1)] [(0,1, (kI 2)), (1,1, (kI 65)), (3,1, (kI 1)), (4,1, (.t 6))])), (cQ 8 [] (.bsl 1 2 [(.i 0)] [(0,1, (kI 0)), (1,1, (kI 1))])), (cQ 9 [8] (.bld [(.i 0), (.i 0), (.i 0), (.i 0), (.z 1)] [(0,1, (kI 2)), (1,1, (kI 60)), (4,1, (.t 8))])), (cQ 10 [4,5,7,9] (.bsl 5 4 [(.i 0), (.i 0), (.i 0), (.i 0), (.z 1)] [(0,5, (.t 4)), (5,5, (.t 5)), (10,5, (.t 7)), (15,5, (.t 9))])), (cQ 11 [] (.bsl 1 1 [(.i 0)] [(0,1, (kI 1))])), (cQ 12 [] (.bld [(.i 0), (.i 0)] [(0,1, (kI 55)), (1,1, (kI 65))])), (cQ 13 [11,12] (.bld [(.z 1), (.i 0), (.i 0), (.i 0), (.i 0), (.i 0)] [(0,1, (.t 11)), (1,2, (.t 12)), (3,1, (kI 7)), (4,1, (kI 3)), (5,1, (kI 500))])), (cQ 14 [] (.bsl 1 2 [(.i 0)] [(0,1, (kI 1)), (1,1, (kI 2))])), (cQ 15 [] (.bld [(.i 0), (.i 0)] [(0,1, (kI 60)), (1,1, (kI 60))])), (cQ 16 [14,15] (.bld [(.z 1), (.i 0), (.i 0), (.i 0), (.i 0), (.i 0)] [(0,1, (.t 14)), (1,2, (.t 15)), (4,1, (kI 5)), (5,1, (kI 400))])), (cQ 17 [] (.bsl 1 1 [(.i 0)] [(0,1, (kI 2))])), (cQ 18 [] (.bld [(.i 0), (.i 0)] [(0,1, (kI 60)), (1,1, (kI 70))])), (cQ 19 [17,18] (.bld [(.z 1), (.i 0), (.i 0), (.i 0), (.i 0), (.i 0)] [(0,1, (.t 17)), (1,2, (.t 18)), (3,1, (kI 9)), (4,1, (kI 8)), (5,1, (kI 700))])), (cQ 20 [] (.bsl 1 1 [(.i 0)] [(0,1, (kI 2))])), (cQ 21 [] (.bld [(.i 0), (.i 0)] [(0,1, (kI 65)), (1,1, (kI 65))])), (cQ 22 [20,21] (.bld [(.z 1), (.i 0), (.i 0), (.i 0), (.i 0), (.i 0)] [(0,1, (.t 20)), (1,2, (.t 21)), (4,1, (kI 5)), (5,1, (kI 300))])), (cQ 23 [13,16,19,22] (.bsl 6 4 [(.z 1), (.i 0), (.i 0), (.i 0), (.i 0), (.i 0)] [(0,6, (.t 13)), (6,6, (.t 16)), (12,6, (.t 19)), (18,6, (.t 22))])), (cQ 24 [] (.bld [(.i 0), (.i 0), (.i 0)] [(0,1, (kI 4)), (1,1, (kI 2)), (2,1, (kI 1))])), (cQ 25 [] (.bld [(.i 0), (.i 0), (.i 0)] [(0,1, (kI 6)), (1,1, (kI 3)), (2,1, (kI 1))])), (cQ 26 [24,25] (.bsl 3 2 [(.i 0), (.i 0), (.i 0)] [(0,3, (.t 24)), (3,3, (.t 25))])), (cQ 27 [1,2,10,23,26] (.bld [(.z 4), (.z 1), (.i 0), (.z 4), (.z 1), (.z 5), (.z 6), (.z 3), (.i 0)] [(0,4, (.t 1)), (4,1, (.t 2)), (5,1, (.t 10)), (6,1, (.t 23)), (7,1, (.t 26)), (8,1, (kI 2))])), ⟨none, none, [0,27], none, .w (.st 9 (.t 0) (.t 27))⟩]) .ret)))
def rs23 : List RV := [.c 0 true 9]
theorem cf23 : CF Tryz.prog Tryz.f23 [2,3,6,8,10,11,14,17,20,23,26] 0 1 rc23 rs23 0 := ⟨by kernel_rfl, by kernel_rfl, by kernel_rfl, by decide⟩
def rc46 : RC := (.seq (.reg false [⟨(some 0), none, [], none, .w (.alc [(.z 4), (.z 1), (.i 0), (.z 4)])⟩]) (.keep [0] (.seq (.reg false [(cQ 1 [] (.bld [(.i 0), (.i 0)] [(0,1, (kI 300)), (1,1, (kI 310))])), (cQ 2 [1] (.bld [(.i 0), (.i 0), (.i 0), (.i 0)] [(0,1, (kI 1)), (1,1, (kI 2)), (2,2, (.t 1))])), (cQ 3 [] (.bld [(.i 0), (.i 0)] [(0,1, (kI 305)), (1,1, (kI 305))])), (cQ 4 [3] (.bld [(.i 0), (.i 0), (.i 0), (.i 0)] [(0,1, (kI 1)), (1,1, (kI 3)), (2,2, (.t 3))])), (cQ 5 [] (.bld [(.i 0), (.i 0)] [(0,1, (kI 50)), (1,1, (kI 60))])), (cQ 6 [5] (.bld [(.i 0), (.i 0), (.i 0), (.i 0)] [(0,1, (kI 2)), (1,1, (kI 1)), (2,2, (.t 5))])), (cQ 7 [] (.bld [(.i 0), (.i 0)] [(0,1, (kI 320)), (1,1, (kI 330))])), (cQ 8 [7] (.bld [(.i 0), (.i 0), (.i 0), (.i 0)] [(0,1, (kI 1)), (1,1, (kI 2)), (2,2, (.t 7))])), (cQ 9 [2,4,6,8] (.bsl 4 4 [(.i 0), (.i 0), (.i 0), (.i 0)] [(0,4, (.t 2)), (4,4, (.t 4)), (8,4, (.t 6)), (12,4, (.t 8))])), (cQ 10 [] (.bsl 1 2 [(.i 0)] [(0,1, (kI 2)), (1,1, (kI 3))])), (cQ 11 [] (.bld [(.i 0), (.i 0)] [(0,1, (kI 300)), (1,1, (kI 306))])), (cQ 12 [10,11] (.bld [(.i 0), (.z 1), (.i 0), (.i 0)] [(0,1, (kI 1)), (1,1, (.t 10)), (2,2, (.t 11))])), (cQ 13 [] (.bsl 1 1 [(.i 0)] [(0,1, (kI 1))])), (cQ 14 [] (.bld [(.i 0), (.i 0)] [(0,1, (kI 40)), (1,1, (kI 58))])), (cQ 15 [13,14] (.bld [(.i 0), (.z 1), (.i 0), (.i 0)] [(0,1, (kI 2)), (1,1, (.t 13)), (2,2, (.t 14))])), (cQ 16 [12,15] (.bsl 4 2 [(.i 0), (.z 1), (.i 0), (.i 0)] [(0,4, (.t 12)), (4,4, (.t 15))])), (cQ 17 [16] (.bld [(.z 4)] [(0,1, (.t 16))])), (cQ 18 [] (.bsl 1 1 [(.i 0)] [(0,1, (kI 2))])), (cQ 19 [] (.bld [(.i 0), (.i 0)] [(0,1, (kI 310)), (1,1, (kI 326))])), (cQ 20 [18,19] (.bld [(.i 0), (.z 1), (.i 0), (.i 0)] [(0,1, (kI 1)), (1,1, (.t 18)), (2,2, (.t 19))])), (cQ 21 [20] (.bsl 4 1 [(.i 0), (.z 1), (.i 0), (.i 0)] [(0,4, (.t 20))])), (cQ 22 [21] (.bld [(.z 4)] [(0,1, (.t 21))])), (cQ 23 [17,22] (.bsl 1 2 [(.z 4)] [(0,1, (.t 17)), (1,1, (.t 22))])), (cQ 24 [] (.bld [(.i 0), (.i 0), (.i 0), (.i 0)] [(1,1, (kI 1))])), (cQ 25 [24] (.bsl 4 1 [(.i 0), (.i 0), (.i 0), (.i 0)] [(0,4, (.t 24))])), (cQ 26 [9,23,25] (.bld [(.z 4), (.z 1), (.i 0), (.z 4)] [(0,1, (.t 9)), (1,1, (.t 23)), (2,1, (kI 5)), (3,1, (.t 25))])), ⟨none, none, [0,26], none, .w (.st 4 (.t 0) (.t 26))⟩]) .ret)))
def rs46 : List RV := [.c 0 true 4]
theorem cf46 : CF Tryz.prog Tryz.f46 [9,10,13,16,18,21,23,25] 0 1 rc46 rs46 0 := ⟨by kernel_rfl, by kernel_rfl, by kernel_rfl, by decide⟩
def rc22 : RC := (.seq (.reg false [⟨(some 0), none, [], none, .w (.alc [(.i 0), (.z 2)])⟩]) (.keep [0] (.seq (.reg false [(cQ 1 [] (.bld [(.i 0), (.i 0)] [(0,1, (kI 10)), (1,1, (kI 5))])), (cQ 2 [] (.bld [(.i 0), (.i 0)] [(0,1, (kI 20)), (1,1, (kI 3))])), (cQ 3 [] (.bld [(.i 0), (.i 0)] [(0,1, (kI 5)), (1,1, (kI 4))])), (cQ 4 [1,2,3] (.bsl 2 3 [(.i 0), (.i 0)] [(0,2, (.t 1)), (2,2, (.t 2)), (4,2, (.t 3))])), (cQ 5 [4] (.bld [(.i 0), (.z 2)] [(0,1, (kI 2)), (1,1, (.t 4))])), ⟨none, none, [0,5], none, .w (.st 2 (.t 0) (.t 5))⟩]) .ret)))
def rs22 : List RV := [.c 0 true 2]
theorem cf22 : CF Tryz.prog Tryz.f22 [4] 0 1 rc22 rs22 0 := ⟨by kernel_rfl, by kernel_rfl, by kernel_rfl, by decide⟩
end Go.CS
set_option linter.all false
namespace Go.CS
open Go.Fam Go.Proofs
open Go.C06 (Span eI eIs Qbx gI gR dI Qbl Qcj fnG Qad Qab Qa6 Qa8 idxOf Qas Qaj Qal Qar Qai Qag Qac Qat Qb3 Qc5 vw_I Qay hmix eLI dLI Qca Qan Qa3 Qaa Qau)
variable {Γ : Gam}
noncomputable def K88 : Gam := K87.ext 14 (fnG eH1 dH1 (SmallS) (fun s => Qdq s true) ((fun r => .tp [.i r.1, .i r.2])))
theorem Zif : GOk Tryz.prog K88 := Zfr.ext (f := 14) (fun a w => Tryz.call14 a w) (Qad (e := eH1) (d := dH1) (ok := SmallS) (g := fun s => Qdq s true) (eb := (fun r => .tp [.i r.1, .i r.2])) fun a h => W14 a h)
theorem h14 (s : Shop) : K88 14 [.ag (Qae s)] = (SmallS s, .tp [.i (Qdq s true).1, .i (Qdq s true).2]) := (show K88 14 _ = fnG eH1 dH1 (SmallS) (fun s => Qdq s true) ((fun r => .tp [.i r.1, .i r.2])) (eH1 s) from rfl).trans (Qab _ (Qnt s))
noncomputable def K89 : Gam := K88.ext 15 (fnG eH1 dH1 (SmallS) (Qe6) ((fun r => .tp [.i r.1, .i r.2])))
theorem Zig : GOk Tryz.prog K89 := Zif.ext (f := 15) (fun a w => Tryz.call15 a w) (Qad (e := eH1) (d := dH1) (ok := SmallS) (g := Qe6) (eb := (fun r => .tp [.i r.1, .i r.2])) fun a h => W15 a h)
theorem h15 (s : Shop) : K89 15 [.ag (Qae s)] = (SmallS s, .tp [.i (Qe6 s).1, .i (Qe6 s).2]) := (show K89 15 _ = fnG eH1 dH1 (SmallS) (Qe6) ((fun r => .tp [.i r.1, .i r.2])) (eH1 s) from rfl).trans (Qab _ (Qnt s))
noncomputable def K90 : Gam := K89.ext 16 (fnG eHI dHI (fun a => SmallS a.1 ∧ a.1.wishes.length ≤ 1000000) (fun a => canV a.1 a.2) (fun v => v))
theorem Zfs : GOk Tryz.prog K90 := Zig.ext (f := 16) (fun a w => Tryz.call16 a w) (Qad (e := eHI) (d := dHI) (ok := fun a => SmallS a.1 ∧ a.1.wishes.length ≤ 1000000) (g := fun a => canV a.1 a.2) (eb := fun v => v) fun a h => W16 a.1 a.2 h.1 h.2)
theorem h16 (s : Shop) (n : Int) : K90 16 [.ag (Qae s), .i n] = (SmallS s ∧ s.wishes.length ≤ 1000000, canV s n) := (show K90 16 _ = fnG eHI dHI (fun a => SmallS a.1 ∧ a.1.wishes.length ≤ 1000000) (fun a => canV a.1 a.2) (fun v => v) (eHI (s, n)) from rfl).trans (Qab _ (Zcz (s, n)))
def exW : Work := ⟨[⟨1, 2, ⟨300, 310⟩⟩, ⟨1, 3, ⟨305, 305⟩⟩, ⟨2, 1, ⟨50, 60⟩⟩, ⟨1, 2, ⟨320, 330⟩⟩], [[⟨1, [2, 3], ⟨300, 306⟩⟩, ⟨2, [1], ⟨40, 58⟩⟩], [⟨1, [2], ⟨310, 326⟩⟩]], 5, [⟨0, 1, 0, 0⟩]⟩
def exC : Shop := ⟨exW, [1, 0, 0, 0], [⟨1, 60, 0, 0, [0]⟩, ⟨1, 60, 7, 0, []⟩, ⟨2, 65, 0, 1, [0]⟩, ⟨2, 60, 0, 0, [0, 1]⟩],
 [⟨[1], ⟨55, 65⟩, 7, 3, 500⟩, ⟨[1, 2], ⟨60, 60⟩, 0, 5, 400⟩, ⟨[2], ⟨60, 70⟩, 9, 8, 700⟩, ⟨[2], ⟨65, 65⟩, 0, 5, 300⟩], [⟨4, 2, 1⟩, ⟨6, 3, 1⟩], 2⟩
theorem Qsf : Qbj exC true = 0 := by decide +kernel
theorem Qwr : takN exC (Qep exC) = 1600 := by decide +kernel
theorem Qsg : Qdq exC true = (1600, 0) := by
 unfold Qdq
 rw [if_pos Qsf, Qwr]
theorem W46 : Qa5 Tryz.prog 46 [] (.ag (Qa7 exW)) := by
 refine Qa4 Zfs hmix Tryz.func46 cf46.b cf46.c cf46.s cf46.n ?_
 simp only [rc46, rs46, exW, Qck, Qa0, Qak, Qaw, Qb2, Qah, Qa2, Qa1, ↓reduceIte, Nat.reduceEqDiff, Nat.reduceAdd, Nat.reduceMul, Nat.reduceLeDiff, Qe, rvs, zipA, reduceCtorEq, not_false_eq_true, ne_eq, eI, eSpare, eSlot, eMake, eTrial, Qa7, BU1]
 rfl
def p46 : List V → Prop × V := fun xs => (xs = [], .ag (Qa7 exW))
noncomputable def K91 : Gam := K90.ext 46 p46
theorem Zft : GOk Tryz.prog K91 := Zfs.ext (f := 46) (fun a w => Tryz.call46 a w) (by rintro xs rfl; exact W46)
theorem h46 : K91 46 [] = (True, .ag (Qa7 exW)) := by show ([] = [], _) = _; simp
theorem W23 : Qa5 Tryz.prog 23 [] (.ag (Qae exC)) := by
 refine Qa4 Zft hmix Tryz.func23 cf23.b cf23.c cf23.s cf23.n ?_
 have g := h46
 unfold Qa7 at g
 simp only [rc23, rs23, g, exC, Qck, Qa0, Qak, Qaw, Qb2, Qah, Qa2, Qa1, flat, Qc4, ↓reduceIte, Nat.reduceEqDiff, Nat.reduceAdd, Nat.reduceMul, Nat.reduceLT, Nat.reduceLeDiff, Qe, rvs, vw_z, zipA, Qr, Qa, reduceCtorEq, not_false_eq_true, ne_eq, imp_self, eI, ePiece, eWish, eDel, Qae, BU1]
 rfl
def p23 : List V → Prop × V := fun xs => (xs = [], .ag (Qae exC))
noncomputable def K92 : Gam := K91.ext 23 p23
theorem Zfu : GOk Tryz.prog K92 := Zft.ext (f := 23) (fun a w => Tryz.call23 a w) (by rintro xs rfl; exact W23)
theorem h23 : K92 23 [] = (True, .ag (Qae exC)) := by show ([] = [], _) = _; simp
def dayD (n : Int) : Int := (n + 9).tdiv 10
theorem W12 (n : Int) (h : 0 ≤ n ∧ n ≤ 1000000) : Qa5 Tryz.prog 12 [.i n] (.i (dayD n)) := by
 refine Qa4 Zfu hmix Tryz.func12 cf12.b cf12.c cf12.s cf12.n ?_
 have h1 : inI (n + 9) := by unfold inI; omega
 have h2 : inI ((n + 9).tdiv 10) := by rw [Qs (by omega)]; unfold inI; omega
 simp only [rc12, rs12, h1, h2, dayD, Qa0, ↓reduceIte, Int.reduceEq, rvs, zipA, reduceCtorEq, not_false_eq_true, ne_eq, BU1]
def eDy (n : Int) : List V := [.i n]
def dDy : List V → Int | [.i n] => n | _ => 0
theorem Zh9 (n : Int) : dDy (eDy n) = n := rfl
noncomputable def K93 : Gam := K92.ext 12 (fnG eDy dDy (fun n => 0 ≤ n ∧ n ≤ 1000000) (dayD) (.i))
theorem Zfv : GOk Tryz.prog K93 := Zfu.ext (f := 12) (fun a w => Tryz.call12 a w) (Qad (e := eDy) (d := dDy) (ok := fun n => 0 ≤ n ∧ n ≤ 1000000) (g := dayD) (eb := .i) fun a h => W12 a h)
theorem h12 (n : Int) : K93 12 [.i n] = (0 ≤ n ∧ n ≤ 1000000, .i (dayD n)) := (show K93 12 _ = fnG eDy dDy (fun n => 0 ≤ n ∧ n ≤ 1000000) (dayD) (.i) (eDy n) from rfl).trans (Qab _ (Zh9 n))
theorem W17 (a b : List Int) (ha : a.length < 1000000) (hb : b.length < 1000000) : Qa5 Tryz.prog 17 [.sl 1 (a.map eI), .sl 1 (b.map eI)] (.b (a.all fun x => decide (x ∈ b))) := by
 refine Qa4 Zfv hmix Tryz.func17 cf17.b cf17.c cf17.s cf17.n ?_
 simp only [rc17, rs17, Qa0, ↓reduceIte, Nat.reduceEqDiff, zipA, reduceCtorEq, BU1]
 refine Qap a.length (fun i => ⟨lkp [(0, .sl 1 (a.map eI)), (1, .sl 1 (b.map eI)), (5, .i i)], []⟩) (fun i => ∀ k x, k < i → a[k]? = some x → decide (x ∈ b) = true) ?_ ?_ ?_ ?_
 ·simp only [Qh, ↓reduceIte, Nat.reduceEqDiff, reduceCtorEq, BU1]
 ·intro k x h; omega
 ·intro i hi hc
  have hlt : (i : Int) < a.length := by omega
  have i1 : inI ((i : Int) + 1) := by unfold inI; omega
  obtain ⟨x, hx⟩ : ∃ x, a[i]? = some x := ⟨_, Q7 hi⟩
  simp only [hlt, Qa0, ↓reduceIte, Nat.reduceEqDiff, decide_eq_true_eq, reduceCtorEq, BU1]
  refine Qb5 b.length (fun j => ⟨lkp [(0, .sl 1 (a.map eI)), (1, .sl 1 (b.map eI)), (5, .i i), (6, .b (decide (x ∈ b.take j))), (7, .i j)], []⟩) ?_ ?_ ?_
  ·simp only [Qh, List.not_mem_nil, ↓reduceIte, Nat.reduceEqDiff, reduceCtorEq, BU1]
  ·intro j hj
   have hjt : (j : Int) < b.length := by omega
   have i2 : inI ((j : Int) + 1) := by unfold inI; omega
   obtain ⟨y, hy⟩ : ∃ y, b[j]? = some y := ⟨_, Q7 hj⟩
   have hs : decide (x ∈ b.take (j + 1)) = (decide (x ∈ b.take j) || decide (x = y)) := by
    rw [Qa8 hy]
    simp
   cases e : decide (x ∈ b.take j) with
   | true =>
    rw [e, Bool.true_or] at hs
    simp only [hjt, hx, hlt, hy, i2, hs, Qi, Qj, Qaq, Qa0, runX, fpQ, fpV, ↓reduceIte, Nat.reduceEqDiff, Nat.reduceLeDiff, Qa, Qb, forall_const, implies_true, reduceCtorEq, Qd, imp_self, eI, BU1]
   | false =>
    rw [e, Q3] at hs
    simp only [hjt, hx, hlt, hy, i2, hs, Qi, Qj, Qaq, Qa0, runX, fpQ, fpV, ↓reduceIte, Nat.reduceEqDiff, Nat.reduceLeDiff, beq_self_eq_true, Qa, forall_const, implies_true, reduceCtorEq, Qd, eI, BU1]
  ·rw [Q0]
   cases e : decide (x ∈ b) with
   | true =>
    simp only [Qc, i1, Qi, Qj, Qa0, ↓reduceIte, Nat.reduceEqDiff, Qc, Qa, reduceCtorEq, BU1]
    intro k y hk hy
    exact of_decide_eq_true (Qc9 (p := fun x => decide (x ∈ b)) hx e (fun k y hk hy => by simpa using hc k y hk hy) k y hk hy)
   | false =>
    have q : (a.all fun x => decide (x ∈ b)) = false := Qeu (p := fun x => decide (x ∈ b)) hx e
    simp only [Qc, q, Qa0, ↓reduceIte, Nat.reduceEqDiff, rvs, Qc, Qa, reduceCtorEq, BU1]
 ·intro hc
  have q : (a.all fun x => decide (x ∈ b)) = true := Qdn (p := fun x => decide (x ∈ b)) hc
  simp only [Qc, q, Qa0, ↓reduceIte, Nat.reduceEqDiff, rvs, Qc, Qa, reduceCtorEq, BU1]
def eL2 (a : List Int × List Int) : List V := [.sl 1 (a.1.map eI), .sl 1 (a.2.map eI)]
def dL2 : List V → List Int × List Int | [.sl _ a, .sl _ b] => (a.map dI, b.map dI) | _ => ([], [])
theorem Zhb (a : List Int × List Int) : dL2 (eL2 a) = a := by obtain ⟨a, b⟩ := a; simp [dL2, eL2, Function.comp_def, Qbl]
noncomputable def K94 : Gam := K93.ext 17 (fnG eL2 dL2 (fun a => a.1.length < 1000000 ∧ a.2.length < 1000000) (fun a => a.1.all fun x => decide (x ∈ a.2)) (.b))
theorem Zfw : GOk Tryz.prog K94 := Zfv.ext (f := 17) (fun a w => Tryz.call17 a w) (Qad (e := eL2) (d := dL2) (ok := fun a => a.1.length < 1000000 ∧ a.2.length < 1000000) (g := fun a => a.1.all fun x => decide (x ∈ a.2)) (eb := .b) fun a h => W17 a.1 a.2 h.1 h.2)
theorem h17 (a b : List Int) : K94 17 [.sl 1 (a.map eI), .sl 1 (b.map eI)] = (a.length < 1000000 ∧ b.length < 1000000, .b (a.all fun x => decide (x ∈ b))) := (show K94 17 _ = fnG eL2 dL2 (fun a => a.1.length < 1000000 ∧ a.2.length < 1000000) (fun a => a.1.all fun x => decide (x ∈ a.2)) (.b) (eL2 (a, b)) from rfl).trans (Qab _ (Zhb (a, b)))
theorem Qsh : SmallS exC := (Qhy (by decide +kernel)).1
theorem Zcb : K94 23 [] = (True, .ag (Qae exC)) := h23
theorem Zc9 (s : Shop) : K94 14 [.ag (Qae s)] = (SmallS s, .tp [.i (Qdq s true).1, .i (Qdq s true).2]) := h14 s
set_option maxRecDepth 10000 in
theorem Zca : K94 22 [] = (True, .ag (Go.C06.eBox Go.C06.exS)) := Go.C06.h58
set_option maxRecDepth 10000 in
theorem Qy5 (s : Go.C06.Box) : K94 10 [.ag (Go.C06.eBox s)] = (True, .tp [.i (Go.C06.quickR s).1, .i (Go.C06.quickR s).2]) := Go.C06.h51 s
theorem W8 : Qa5 Tryz.prog 8 [] (.b true) := by
 refine Qa4 Zfw hmix Tryz.func8 cf8.b cf8.c cf8.s cf8.n ?_
 have g1 := Zcb
 have g2 := Zc9 exC
 have g3 := Zca
 have g4 := Qy5 Go.C06.exS
 rw [Qsg] at g2
 rw [Go.C06.exS_quick] at g4
 have hs := Qsh
 generalize exC = c at *
 generalize Go.C06.exS = d at *
 unfold Qae at g1 g2
 unfold Go.C06.eBox at g3 g4
 simp only [rc8, rs8, g1, g2, g3, g4, hs, Qa0, Qa2, Qa1, flat, Qc4, ↓reduceIte, Nat.reduceEqDiff, Nat.reduceAdd, Nat.reduceLT, rvs, zipA, beq_self_eq_true, Qr, Qa, Qb, forall_const, implies_true, imp_self, BU1]
def p8 : List V → Prop × V := fun xs => (xs = [], .b true)
noncomputable def K95 : Gam := K94.ext 8 p8
theorem Zih : GOk Tryz.prog K95 := Zfw.ext (f := 8) (fun a w => Tryz.call8 a w) (by rintro xs rfl; exact W8)
theorem h8 : K95 8 [] = (True, .b true) := by show ([] = [], _) = _; simp
end Go.CS
set_option linter.all false
namespace Go.CS
open Go.Fam Go.Proofs
open Go.C06 (Span eI eIs Qbx gI gR dI Qbl Qcj fnG Qad Qab Qa6 Qa8 idxOf Qas Qaj Qal Qar Qai Qag Qac Qat Qb3 Qc5 vw_I Qay hmix eLI dLI Qca Qan Qa3 Qaa Qau)
variable {Γ : Gam}
open Go.C06 (Box eBox farX boxE Qnj OkX Qgz Qcb Qfs quickR IsOrd Qf3 Qbv Qqz Qpx Qpw)
set_option maxRecDepth 10000
theorem Qtr {n : Nat} {l : List Int} (h : IsOrd n l) : Qf3 l = Qbv n := by
 have hp : (Qf3 l).Perm l := List.mergeSort_perm l _
 have h1 : (Qf3 l).Pairwise fun a b => decide (a ≤ b) = true := List.pairwise_mergeSort (fun a b c h1 h2 => by simp only [decide_eq_true_eq] at h1 h2 ⊢; omega) (fun a b => by simp only [Bool.or_eq_true, decide_eq_true_eq]; omega) l
 exact List.Perm.eq_of_pairwise (le := fun a b => a ≤ b) (fun a b _ _ h1 h2 => by omega) (h1.imp fun h => by simpa using h) ((Go.C06.nums_pair n).imp fun h => by omega) (hp.trans h.perm)
theorem L4 (s : Shop) : K95 4 [.ag (Qae s)] = (True, .b (farS s)) := h4 s
theorem L5 (b : Box) : K95 5 [.ag (eBox b)] = (True, .b (farX b)) := Go.C06.h47 b
theorem L6 (b : Box) : K95 6 [.ag (eBox b)] = (True, .i (boxE b)) := Go.C06.h48 b
theorem L7 (b : Box) (l : List Int) : K95 7 [.ag (eBox b), .sl 1 (l.map eI)] = (l.length ≤ 1000000, .b (decide (IsOrd b.boils.length l))) := Go.C06.h49 b l
theorem L9 (b : Box) (l : List Int) : K95 9 [.ag (eBox b), .sl 1 (l.map eI)] = (Go.C06.okLn l, .tp [.i (Qgz b l).1, .i (Qgz b l).2]) := Go.C06.h50 b l
theorem L10 (b : Box) : K95 10 [.ag (eBox b)] = (True, .tp [.i (quickR b).1, .i (quickR b).2]) := Qy5 b
theorem L11 (s : Shop) : K95 11 [.ag (Qae s)] = (SmallC s, .ag (Qae s)) := h11 s
theorem L12 (n : Int) : K95 12 [.i n] = (0 ≤ n ∧ n ≤ 1000000, .i (dayD n)) := h12 n
theorem L13 (s : Shop) : K95 13 [.ag (Qae s)] = (SmallS s, .i (Qbj s true)) := h13 s
theorem L14 (s : Shop) : K95 14 [.ag (Qae s)] = (SmallS s, .tp [.i (Qdq s true).1, .i (Qdq s true).2]) := h14 s
theorem L15 (s : Shop) : K95 15 [.ag (Qae s)] = (SmallS s, .tp [.i (Qe6 s).1, .i (Qe6 s).2]) := h15 s
theorem L16 (s : Shop) (n : Int) : K95 16 [.ag (Qae s), .i n] = (SmallS s ∧ s.wishes.length ≤ 1000000, canV s n) := h16 s n
theorem L17 (a b : List Int) : K95 17 [.sl 1 (a.map eI), .sl 1 (b.map eI)] = (a.length < 1000000 ∧ b.length < 1000000, .b (a.all fun x => decide (x ∈ b))) := h17 a b
theorem Qud {s : Shop} (h : farS s = false) : SmallC s := by
 unfold farS at h
 rw [Zg] at h
 obtain ⟨h1, h2, h3, h4, h5, _⟩ := Qhy h.1
 exact ⟨h1, by omega, by omega, by omega, by omega⟩
theorem Qp2 {s : Shop} (h : SmallS s) (c : Int) : SmallS (wc s c) := ⟨h.work, h.broken, h.colors⟩
theorem Qsb {q n : Int} (hq : 0 ≤ q) (h : q ≤ n) : 0 ≤ dayD q ∧ dayD q ≤ dayD n := by
 unfold dayD
 rw [Qs (by omega), Qs (by omega)]
 omega
set_option maxHeartbeats 2000000 in
theorem P3 (s : Shop) (b : Box) (o : List Int) : Qa5 Tryz.prog 3 [.ag (Qae s), .ag (eBox b), .sl 1 (o.map eI)] (.b true) := by
 refine Qa4 Zih hmix Tryz.func3 cf3.b cf3.c cf3.s cf3.n ?_
 have g4 := L4 s
 have g5 := L5 b
 have g6 := L6 b
 have g7 := L7 b o
 have g8 := h8
 have g9 := L9 b o
 have g10 := L10 b
 have g11 := L11 s
 simp only [Qae, eBox] at g4 g5 g6 g7 g9 g10 g11
 by_cases f1 : farS s = true
 ·simp only [rc3, rs3, eBox, g4, g8, f1, Qa0, Qb7, binW, Qa2, Qa1, flat, ↓reduceIte, Nat.reduceEqDiff, Nat.reduceAdd, Nat.reduceLT, Nat.reduceLeDiff, rvs, zipA, Qa, Qb, forall_const, implies_true, reduceCtorEq, imp_self, Qae, BU1]
 by_cases f2 : farX b = true
 ·simp only [rc3, rs3, eBox, g4, g5, g8, f1, f2, Qa0, Qb7, binW, Qa2, Qa1, flat, ↓reduceIte, Nat.reduceEqDiff, Nat.reduceAdd, Nat.reduceLT, Nat.reduceLeDiff, rvs, zipA, beq_self_eq_true, Qa, Qb, forall_const, implies_true, reduceCtorEq, imp_self, Qae, BU1]
 by_cases f3 : 60 < (o.length : Int)
 ·simp only [rc3, rs3, eBox, g4, g5, g8, f1, f2, f3, Qa0, Qb7, binW, Qa2, Qa1, flat, ↓reduceIte, Nat.reduceEqDiff, Nat.reduceAdd, Nat.reduceLT, Nat.reduceLeDiff, rvs, zipA, beq_self_eq_true, Qa, Qb, forall_const, implies_true, reduceCtorEq, imp_self, Qae, BU1]
 by_cases f4 : ¬ (boxE b = 0)
 ·simp only [rc3, rs3, eBox, g4, g5, g6, g8, f1, f2, f3, f4, Qa0, Qb7, Qa2, Qa1, flat, ↓reduceIte, Nat.reduceEqDiff, Nat.reduceAdd, Nat.reduceLT, Nat.reduceLeDiff, rvs, zipA, beq_self_eq_true, Qa, Qb, forall_const, implies_true, reduceCtorEq, imp_self, Qae, BU1]
 replace f4 := Classical.not_not.1 f4
 have o1 : o.length ≤ 1000000 := by omega
 by_cases f5 : ¬ (IsOrd b.boils.length o)
 ·simp only [rc3, rs3, eBox, g4, g5, g6, g7, g8, f1, f2, f3, f4, f5, o1, Qa0, Qa2, Qa1, flat, ↓reduceIte, Nat.reduceEqDiff, Nat.reduceAdd, Nat.reduceLT, Nat.reduceLeDiff, rvs, zipA, beq_self_eq_true, Qa, forall_const, implies_true, reduceCtorEq, Qae, BU1]
 replace f5 := Classical.not_not.1 f5
 have hC := Qud (by simpa using f1)
 have hX := Qnj.1 f4
 have hd : Qgz b o = (Qcb b o, 0) := by unfold Qgz; rw [if_neg (fun h => h f4), if_pos (Qtr f5)]
 have hq : quickR b = (Qcb b (Qfs b), 0) := by unfold quickR; rw [if_pos f4]
 have hle := Qpx f5
 have hb1 := Qqz hX o
 have hb2 := Qqz hX (Qfs b)
 obtain ⟨n, hn⟩ : ∃ n, n = Qcb b o := ⟨_, rfl⟩
 obtain ⟨q, hqq⟩ : ∃ q, q = Qcb b (Qfs b) := ⟨_, rfl⟩
 have hn0 : 0 ≤ n ∧ n ≤ 2000 * o.length := by rw [hn]; exact hb1.2.2
 have hq0 : 0 ≤ q := by rw [hqq]; exact hb2.2.2.1
 rw [← hn] at hd hle
 rw [← hqq] at hq hle
 have hnb : 0 ≤ n ∧ n ≤ 1000000 := by omega
 have hqb : 0 ≤ q ∧ q ≤ 1000000 := by omega
 have hqn : ¬ q < 0 := by omega
 have hqm : ¬ n < q := by omega
 have hol : Go.C06.okLn o := o1
 have g12 := L12 n
 have g12' := L12 q
 obtain ⟨hB0, hBA⟩ := Qsb hq0 hle
 generalize dayD n = A at *
 generalize dayD q = B at *
 have sL := Qp2 hC.small A
 have sM := Qp2 hC.small B
 have g13 := L13 (wc s A)
 have g14 := L14 (wc s A)
 have g14' := L14 (wc s B)
 have g15 := L15 (wc s A)
 have g15' := L15 (wc s B)
 simp only [Qae, wc] at g13 g14 g14' g15 g15'
 rw [hd] at g9
 rw [hq] at g10
 have hkk : ∀ c, Qbj ⟨s.work, s.stock, s.pieces, s.wishes, s.dels, c⟩ true = Qbj (wc s c) true := fun _ => rfl
 have hmk : ∀ c, Qdq ⟨s.work, s.stock, s.pieces, s.wishes, s.dels, c⟩ true = Qdq (wc s c) true := fun _ => rfl
 have hek : ∀ c, Qe6 ⟨s.work, s.stock, s.pieces, s.wishes, s.dels, c⟩ = Qe6 (wc s c) := fun _ => rfl
 have hsk : ∀ c, SmallS ⟨s.work, s.stock, s.pieces, s.wishes, s.dels, c⟩ = SmallS (wc s c) := fun _ => rfl
 simp only [hkk, hmk, hek, hsk] at g13 g14 g14' g15 g15'
 by_cases f6 : ¬ (Qbj (wc s A) true = 0)
 ·simp only [rc3, rs3, eBox, g4, g5, g6, g7, g8, f1, f2, f3, f4, f5, o1, g9, g10, hol, hqn, hqm, g11, hC, g12, g12', hnb, hqb, g13, sL, f6, Qqo, Qqp, Qxe, Qo, Q1, Qaq, optL, Qa0, runX, fpQ, fpV, Qah, Qa2, Qa1, flat, Qc4, ↓reduceIte, Nat.reduceEqDiff, Nat.reduceAdd, Nat.reduceLT, Nat.reduceLeDiff, Nat.reduceBEq, Qe, Qz, rvs, zipA, beq_self_eq_true, Q2, Qr, Q3, Qa, forall_const, implies_true, reduceCtorEq, Q8, Qf, Qd, imp_self, Qae, BU1]
 replace f6 := Classical.not_not.1 f6
 have f7 := Qwx f6 ⟨hB0, hBA⟩
 have m1 : Qdq (wc s A) true = (takN (wc s A) (Qep (wc s A)), 0) := by unfold Qdq; rw [if_pos f6]
 have m2 : Qdq (wc s B) true = (takN (wc s B) (Qep (wc s B)), 0) := by unfold Qdq; rw [if_pos f7]
 have m3 := Qti (s := s) hBA
 rw [m1] at g14
 rw [m2] at g14'
 generalize takN (wc s A) (Qep (wc s A)) = mA at *
 generalize takN (wc s B) (Qep (wc s B)) = mB at *
 have m4 : ¬ mB < mA := by omega
 have x1 : Qe6 (wc s A) = if extA (wc s A) = -1 then (0, 3) else (extA (wc s A), 0) := by unfold Qe6; rw [if_pos f6]
 have x2 : Qe6 (wc s B) = if extA (wc s B) = -1 then (0, 3) else (extA (wc s B), 0) := by unfold Qe6; rw [if_pos f7]
 have x3 := Qrd (s := s) hBA
 rw [x1] at g15
 rw [x2] at g15'
 have hexw : ∀ (c : Int) (i : Nat), i < s.wishes.length → Qbj (wc s c) true = 0 → canV (wc s c) i = .tp [.sl 1 ((canK (wc s c) i s.pieces.length).map eI), .i 0] := fun c i hi hk => by
  have e : isW (wc s c) i = true := Qav.2 ⟨by omega, by show (i : Int) ≤ (s.wishes.length : Int) - 1; omega⟩
  unfold canV
  rw [e, if_pos hk]; rfl
 have u1 : ∀ c, Qae (wc s c) = [.sl 4 (s.work.spares.map eSpare), .sl 1 (s.work.makes.map eMake), .i s.work.cut, .sl 4 (s.work.table.map eTrial), .sl 1 (s.stock.map eI), .sl 5 (s.pieces.map ePiece), .sl 6 (s.wishes.map eWish), .sl 3 (s.dels.map eDel), .i c] := fun _ => rfl
 have g16 : ∀ i : Nat, i < s.wishes.length → K95 16 [.ag (Qae (wc s A)), .i i] = (SmallS (wc s A) ∧ (wc s A).wishes.length ≤ 1000000, .tp [.sl 1 ((canK (wc s A) i s.pieces.length).map eI), .i 0]) := fun i hi => by rw [L16, hexw _ _ hi f6]
 have g16' : ∀ i : Nat, i < s.wishes.length → K95 16 [.ag (Qae (wc s B)), .i i] = (SmallS (wc s B) ∧ (wc s B).wishes.length ≤ 1000000, .tp [.sl 1 ((canK (wc s B) i s.pieces.length).map eI), .i 0]) := fun i hi => by rw [L16, hexw _ _ hi f7]
 simp only [u1] at g16 g16'
 have hnp : s.pieces.length ≤ 40 := by
  have h0 : farS s = false := by simpa using f1
  unfold farS at h0
  rw [Zg] at h0
  exact (Qhy h0.1).2.2.1
 have hwl : s.wishes.length ≤ 1000000 := hC.wishes
 have e16 : (wc s A).wishes.length ≤ 1000000 := hwl
 have e16' : (wc s B).wishes.length ≤ 1000000 := hwl
 have cK : ∀ (c : Int) (i : Int), (canK (wc s c) i s.pieces.length).length ≤ s.pieces.length := fun c i => by
  unfold canK
  rw [Qn]
  have := Zd (fun (j : Nat) => Qbu (wc s c) (Qim (wc s c) i j)) (Za s.pieces.length)
  rw [Zl] at this
  exact this
 have cL := cK A
 have cN := cK B
 have cM := fun (i : Int) => Qnl (s := s) hBA i s.pieces.length
 generalize wc s A = L at *
 generalize wc s B = M at *
 by_cases f8 : extA L = -1
 ·rw [if_pos f8] at g15
  by_cases f9 : extA M = -1
  ·rw [if_pos f9] at g15'
   simp only [rc3, rs3, eBox, g4, g5, g6, g7, f1, f2, f3, f4, f5, o1, g9, g10, hol, hqn, hqm, g11, hC, g12, g12', hnb, hqb, g13, sL, sM, f6, Qqo, Qqp, Qxe, Qo, Q1, g14, g14', m4, g15, g15', Qaq, optL, Qa0, runX, fpQ, fpV, Qah, Qa2, Qa1, flat, Qc4, ↓reduceIte, Nat.reduceEqDiff, Nat.reduceAdd, Nat.reduceLT, Nat.reduceLeDiff, Nat.reduceBEq, Int.reduceEq, Qe, Qz, zipA, Qc, beq_self_eq_true, Q2, Qr, Q3, Qa, Qb, forall_const, implies_true, reduceCtorEq, Q8, Qf, Qd, imp_self, Qae, BU1]
   refine Qb5 s.wishes.length (fun i => ⟨lkp [(3, .pa [.sl 4 (s.work.spares.map eSpare), .sl 1 (s.work.makes.map eMake), .i s.work.cut, .sl 4 (s.work.table.map eTrial), .sl 1 (s.stock.map eI), .sl 5 (s.pieces.map ePiece), .sl 6 (s.wishes.map eWish), .sl 3 (s.dels.map eDel), .i s.carve]), (11, .ad 0 0 0), (12, .ad 1 0 0), (21, .i i)], [.cells 0 [.sl 4 (s.work.spares.map eSpare), .sl 1 (s.work.makes.map eMake), .i s.work.cut, .sl 4 (s.work.table.map eTrial), .sl 1 (s.stock.map eI), .sl 5 (s.pieces.map ePiece), .sl 6 (s.wishes.map eWish), .sl 3 (s.dels.map eDel), .i A], .cells 0 [.sl 4 (s.work.spares.map eSpare), .sl 1 (s.work.makes.map eMake), .i s.work.cut, .sl 4 (s.work.table.map eTrial), .sl 1 (s.stock.map eI), .sl 5 (s.pieces.map ePiece), .sl 6 (s.wishes.map eWish), .sl 3 (s.dels.map eDel), .i B]]⟩) ?_ ?_ ?_
   ·simp only [Qh, ↓reduceIte, Nat.reduceEqDiff, BU1]
   ·intro i hi
    have hlt : (i : Int) < s.wishes.length := by omega
    have i1 : inI ((i : Int) + 1) := by unfold inI; omega
    have k1 := g16 i hi
    have k2 := g16' i hi
    have k3 := cM i
    have k4 := L17 (canK L i s.pieces.length) (canK M i s.pieces.length)
    have k5 : (canK L i s.pieces.length).length ≤ s.pieces.length := cL i
    have k6 : (canK M i s.pieces.length).length ≤ s.pieces.length := cN i
    generalize canK L i s.pieces.length = U at *
    generalize canK M i s.pieces.length = W at *
    have k7 : (U.all fun x => decide (x ∈ W)) = true := by
     rw [Q9]
     intro x hx
     exact decide_eq_true (k3.2 x hx)
    have k8 : U.length < 1000000 ∧ W.length < 1000000 := by omega
    have k9 : ¬ (W.length : Int) < U.length := by omega
    rw [k7] at k4
    simp only [hlt, k1, k2, k4, k8, k9, sL, sM, e16, e16', i1, Qi, Qj, Qa0, Qa2, Qa1, flat, Qc4, ↓reduceIte, Nat.reduceEqDiff, Nat.reduceAdd, Nat.reduceLT, Nat.reduceLeDiff, beq_self_eq_true, Qa, forall_const, implies_true, imp_self, BU1]
   ·simp only [Qc, g8, Qa0, Qa1, flat, ↓reduceIte, Nat.reduceEqDiff, Nat.reduceAdd, Nat.reduceLT, Nat.reduceLeDiff, rvs, Qc, Qa, implies_true, BU1]
  ·rw [if_neg f9] at g15'
   simp only [rc3, rs3, eBox, g4, g5, g6, g7, f1, f2, f3, f4, f5, o1, g9, g10, hol, hqn, hqm, g11, hC, g12, g12', hnb, hqb, g13, sL, sM, f6, Qqo, Qqp, Qxe, Qo, Q1, g14, g14', m4, g15, g15', Qaq, optL, Qa0, runX, fpQ, fpV, Qah, Qa2, Qa1, flat, Qc4, ↓reduceIte, Nat.reduceEqDiff, Nat.reduceAdd, Nat.reduceLT, Nat.reduceLeDiff, Nat.reduceBEq, Int.reduceEq, Qe, Qz, zipA, beq_self_eq_true, Q2, Qr, Q3, Qa, and_false, forall_const, implies_true, reduceCtorEq, Q8, Qf, Qd, imp_self, Qae, BU1]
   refine Qb5 s.wishes.length (fun i => ⟨lkp [(3, .pa [.sl 4 (s.work.spares.map eSpare), .sl 1 (s.work.makes.map eMake), .i s.work.cut, .sl 4 (s.work.table.map eTrial), .sl 1 (s.stock.map eI), .sl 5 (s.pieces.map ePiece), .sl 6 (s.wishes.map eWish), .sl 3 (s.dels.map eDel), .i s.carve]), (11, .ad 0 0 0), (12, .ad 1 0 0), (21, .i i)], [.cells 0 [.sl 4 (s.work.spares.map eSpare), .sl 1 (s.work.makes.map eMake), .i s.work.cut, .sl 4 (s.work.table.map eTrial), .sl 1 (s.stock.map eI), .sl 5 (s.pieces.map ePiece), .sl 6 (s.wishes.map eWish), .sl 3 (s.dels.map eDel), .i A], .cells 0 [.sl 4 (s.work.spares.map eSpare), .sl 1 (s.work.makes.map eMake), .i s.work.cut, .sl 4 (s.work.table.map eTrial), .sl 1 (s.stock.map eI), .sl 5 (s.pieces.map ePiece), .sl 6 (s.wishes.map eWish), .sl 3 (s.dels.map eDel), .i B]]⟩) ?_ ?_ ?_
   ·simp only [Qh, ↓reduceIte, Nat.reduceEqDiff, BU1]
   ·intro i hi
    have hlt : (i : Int) < s.wishes.length := by omega
    have i1 : inI ((i : Int) + 1) := by unfold inI; omega
    have k1 := g16 i hi
    have k2 := g16' i hi
    have k3 := cM i
    have k4 := L17 (canK L i s.pieces.length) (canK M i s.pieces.length)
    have k5 : (canK L i s.pieces.length).length ≤ s.pieces.length := cL i
    have k6 : (canK M i s.pieces.length).length ≤ s.pieces.length := cN i
    generalize canK L i s.pieces.length = U at *
    generalize canK M i s.pieces.length = W at *
    have k7 : (U.all fun x => decide (x ∈ W)) = true := by
     rw [Q9]
     intro x hx
     exact decide_eq_true (k3.2 x hx)
    have k8 : U.length < 1000000 ∧ W.length < 1000000 := by omega
    have k9 : ¬ (W.length : Int) < U.length := by omega
    rw [k7] at k4
    simp only [hlt, k1, k2, k4, k8, k9, sL, sM, e16, e16', i1, Qi, Qj, Qa0, Qa2, Qa1, flat, Qc4, ↓reduceIte, Nat.reduceEqDiff, Nat.reduceAdd, Nat.reduceLT, Nat.reduceLeDiff, beq_self_eq_true, Qa, forall_const, implies_true, imp_self, BU1]
   ·simp only [Qc, g8, Qa0, Qa1, flat, ↓reduceIte, Nat.reduceEqDiff, Nat.reduceAdd, Nat.reduceLT, Nat.reduceLeDiff, rvs, Qc, Qa, implies_true, BU1]
 ·have x4 := x3 f8
  rw [if_neg f8] at g15
  rw [if_neg x4.1] at g15'
  have x5 : ¬ extA L < extA M := by omega
  simp only [rc3, rs3, eBox, g4, g5, g6, g7, f1, f2, f3, f4, f5, o1, g9, g10, hol, hqn, hqm, g11, hC, g12, g12', hnb, hqb, g13, sL, sM, f6, Qqo, Qqp, Qxe, Qo, Q1, g14, g14', m4, g15, g15', x5, Qaq, optL, Qa0, runX, fpQ, fpV, Qah, Qa2, Qa1, flat, Qc4, ↓reduceIte, Nat.reduceEqDiff, Nat.reduceAdd, Nat.reduceLT, Nat.reduceLeDiff, Nat.reduceBEq, Qe, Qz, zipA, beq_self_eq_true, Q2, Qr, Q3, Qa, Qb, forall_const, implies_true, reduceCtorEq, Q8, Qf, Qd, imp_self, Qae, BU1]
  refine Qb5 s.wishes.length (fun i => ⟨lkp [(3, .pa [.sl 4 (s.work.spares.map eSpare), .sl 1 (s.work.makes.map eMake), .i s.work.cut, .sl 4 (s.work.table.map eTrial), .sl 1 (s.stock.map eI), .sl 5 (s.pieces.map ePiece), .sl 6 (s.wishes.map eWish), .sl 3 (s.dels.map eDel), .i s.carve]), (11, .ad 0 0 0), (12, .ad 1 0 0), (21, .i i)], [.cells 0 [.sl 4 (s.work.spares.map eSpare), .sl 1 (s.work.makes.map eMake), .i s.work.cut, .sl 4 (s.work.table.map eTrial), .sl 1 (s.stock.map eI), .sl 5 (s.pieces.map ePiece), .sl 6 (s.wishes.map eWish), .sl 3 (s.dels.map eDel), .i A], .cells 0 [.sl 4 (s.work.spares.map eSpare), .sl 1 (s.work.makes.map eMake), .i s.work.cut, .sl 4 (s.work.table.map eTrial), .sl 1 (s.stock.map eI), .sl 5 (s.pieces.map ePiece), .sl 6 (s.wishes.map eWish), .sl 3 (s.dels.map eDel), .i B]]⟩) ?_ ?_ ?_
  ·simp only [Qh, ↓reduceIte, Nat.reduceEqDiff, BU1]
  ·intro i hi
   have hlt : (i : Int) < s.wishes.length := by omega
   have i1 : inI ((i : Int) + 1) := by unfold inI; omega
   have k1 := g16 i hi
   have k2 := g16' i hi
   have k3 := cM i
   have k4 := L17 (canK L i s.pieces.length) (canK M i s.pieces.length)
   have k5 : (canK L i s.pieces.length).length ≤ s.pieces.length := cL i
   have k6 : (canK M i s.pieces.length).length ≤ s.pieces.length := cN i
   generalize canK L i s.pieces.length = U at *
   generalize canK M i s.pieces.length = W at *
   have k7 : (U.all fun x => decide (x ∈ W)) = true := by
    rw [Q9]
    intro x hx
    exact decide_eq_true (k3.2 x hx)
   have k8 : U.length < 1000000 ∧ W.length < 1000000 := by omega
   have k9 : ¬ (W.length : Int) < U.length := by omega
   rw [k7] at k4
   simp only [hlt, k1, k2, k4, k8, k9, sL, sM, e16, e16', i1, Qi, Qj, Qa0, Qa2, Qa1, flat, Qc4, ↓reduceIte, Nat.reduceEqDiff, Nat.reduceAdd, Nat.reduceLT, Nat.reduceLeDiff, beq_self_eq_true, Qa, forall_const, implies_true, imp_self, BU1]
  ·simp only [Qc, g8, Qa0, Qa1, flat, ↓reduceIte, Nat.reduceEqDiff, Nat.reduceAdd, Nat.reduceLT, Nat.reduceLeDiff, rvs, Qc, Qa, implies_true, BU1]
end Go.CS
