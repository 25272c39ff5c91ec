import Derived.Test.YthnjkbahffgemaaGreatG6
import Derived.Test.YthnjkbahffgemaaGreatG5
import Derived.RangeFuncLeaves
import Derived.WalkKit
import Derived.OwnWalkIn
import Derived.TacticsInMore
import Derived.LoopNIn
import Derived.LoopIn
set_option linter.all false
set_option maxHeartbeats 4000000
namespace Go.CS
open Go.Fam Go.Proofs
open Go.C06 (Span eI eIs eSpan gI gR dI dI_eI spanE fnG fnG_ok fnG_at within take_succ_of idxOf idxOf_at idxOf_none idxOf_any flat_len chunk_flat map_vw_rows hasRefL_flat drop_cons chunk_I len_I vw_I noref_I hmix eLI dLI dLI_e ru_countE cutL_noref hasRefL_append upL_noref)
variable {Γ : Gam}
set_option maxRecDepth 20000
def exF : Ctr := ⟨[⟨0, 0⟩, ⟨-2, 1⟩], [⟨1, 0, 100, 1, 3, 7⟩, ⟨2, 1, 160, 2, 3, 0⟩, ⟨3, 0, 161, 1, 3, 8⟩, ⟨4, 1, 393, 2, 3, 0⟩, ⟨5, 0, 120, 1, 4, 7⟩], [], [⟨200, 299⟩], ⟨10, 30, 50, 400, 500, 1500, 1000⟩⟩
theorem X21 : PureCall Tryz.prog 12 [] (.ag (eCtr exF)) := by
 refine pure_body okK157 hmix Tryz.func12 cb12 cc12 cs12 cn12 ?_
 simp only [rc12, rs12, BL, simprocAttr]
 rfl
theorem exF_small : SmallCt exF := ⟨by decide, by decide, by decide, by decide⟩
def mF : AM Slip := [([1], ⟨1, 0, 100, 1, 3, 7⟩), ([2], ⟨2, 1, 160, 2, 3, 0⟩), ([3], ⟨3, 0, 161, 1, 3, 8⟩), ([4], ⟨4, 1, 393, 2, 3, 0⟩), ([5], ⟨5, 0, 120, 1, 4, 7⟩)]
theorem exF_once : onceN exF.slips = some mF := by decide +kernel
theorem exF_err : ctrE exF = 0 := by
 unfold ctrE
 rw [exF_once, if_pos (by decide +kernel)]
 simp
theorem exF_keys : keysS (aks mF) = [1, 2, 3, 4, 5] := by
 show ([1, 2, 3, 4, 5] : List Int).mergeSort (fun a b => decide (a ≤ b)) = _
 exact List.mergeSort_of_pairwise (by decide)
theorem exF_slips : slipsM mF = exF.slips := by
 unfold slipsM
 rw [exF_keys]
 decide +kernel
theorem exF_book : bookL exF = exF.slips := by unfold bookL; rw [exF_once]; exact exF_slips
def wF : List (List Int) := [[0, -2], [0, -1], [0, 0]]
theorem exF_w : searchW exF.slips exF.clerks [] = wF := by decide +kernel
theorem exF_W : bookW exF = wF := by unfold bookW; rw [exF_book]; exact exF_w
theorem exF_fee : feeS exF 3 = ⟨200, 250⟩ := by
 unfold feeS
 rw [exF_book, exF_W]
 decide +kernel
theorem insE_mem {x y : Ev} {s : List Ev} (h : y ∈ insE x s) : y = x ∨ y ∈ s := by
 unfold insE at h
 have e := List.takeWhile_append_dropWhile (p := fun y : Ev => decide (y.min ≤ x.min)) (l := s)
 rcases List.mem_append.1 h with h | h
 ·right; rw [← e]; exact List.mem_append.2 (.inl h)
 ·rcases List.mem_cons.1 h with h | h
  ·exact .inl h
  ·right; rw [← e]; exact List.mem_append.2 (.inr h)
theorem isortE_mem (l : List Ev) : ∀ y ∈ isortE l, y ∈ l := list_snoc_ind (p := fun l => ∀ y ∈ isortE l, y ∈ l) (fun _ h => h) (fun l x ih y hy => by
 rw [isortE_snoc] at hy
 rcases insE_mem hy with rfl | h
 ·simp
 ·exact List.mem_append.2 (.inl (ih y h))) l
theorem pairsE_sub {L : List Ev} : ∀ p ∈ pairsE L, p.1 ∈ L ∧ p.2 ∈ L := by
 induction L using pairsE.induct with
 | case1 x y r ih =>
  intro p hp
  rcases List.mem_cons.1 hp with rfl | hp
  ·exact ⟨by simp, by simp⟩
  ·have := ih p hp
   exact ⟨by simp [this.1], by simp [this.2]⟩
 | case2 L hL =>
  intro p hp
  exfalso
  match L, hL with
  | [], _ => cases hp
  | [x], _ => cases hp
  | x :: y :: r, hL => exact hL x y r rfl
theorem evS_bnd {ws : List Int} {l : List Slip} (hs : ∀ s ∈ l, 0 ≤ s.atm ∧ s.atm ≤ 10000) (hw : ∀ i, -1000 ≤ ws.getD i 0 ∧ ws.getD i 0 ≤ 1000) (u : Nat) : ∀ e ∈ evS ws l u, -100000 ≤ e.min ∧ e.min ≤ 100000 := by
 intro e he
 have h := isortE_mem _ e he
 unfold evU at h
 obtain ⟨s, hm, rfl⟩ := List.mem_map.1 h
 have h1 := hs s (List.mem_filter.1 hm).1
 have h2 := hw s.clerk.toNat
 simp only
 omega
theorem exF_ct : OkCt exF := okCt (by decide +kernel)
theorem hirF {ws : List Int} (hw : ∀ i, -1000 ≤ ws.getD i 0 ∧ ws.getD i 0 ≤ 1000) : HirOk exF ws exF.slips := by
 refine ⟨fun u => ?_, fun u p hp => ?_⟩
 ·unfold evS
  rw [isortE_len]
  unfold evU
  rw [List.length_map]
  exact Nat.le_trans (List.length_filter_le _ _) (by decide)
 ·have h := pairsE_sub p hp
  have hb := evS_bnd (ws := ws) (l := exF.slips) (by decide) hw u
  exact ⟨exF_ct, hb _ h.1, hb _ h.2⟩
theorem getF (a b : Int) (ha : -1000 ≤ a ∧ a ≤ 1000) (hb : -1000 ≤ b ∧ b ≤ 1000) : ∀ i, -1000 ≤ ([a, b] : List Int).getD i 0 ∧ ([a, b] : List Int).getD i 0 ≤ 1000
 | 0 => ha
 | 1 => hb
 | i + 2 => by simp [List.getD]
theorem c73F : ∀ ws ∈ wF, C73 exF 3 ws exF.slips := by
 intro ws hws
 have : ws = [0, -2] ∨ ws = [0, -1] ∨ ws = [0, 0] := by simpa [wF] using hws
 rcases this with rfl | rfl | rfl
 ·exact ⟨hirF (getF _ _ (by decide) (by decide)), by decide +kernel, ⟨by decide +kernel, by decide +kernel⟩⟩
 ·exact ⟨hirF (getF _ _ (by decide) (by decide)), by decide +kernel, ⟨by decide +kernel, by decide +kernel⟩⟩
 ·exact ⟨hirF (getF _ _ (by decide) (by decide)), by decide +kernel, ⟨by decide +kernel, by decide +kernel⟩⟩
theorem rdF : RdOk exF 3 exF.slips wF where
 small := exF_small
 err := exF_err
 on := exF_ct.on
 once := by
  rw [exF_once]
  show V.tp [.sl 6 ((slipsM mF).map eSlip), .b true] = _
  rw [exF_slips]
 vo := ⟨⟨by decide, by decide⟩, fun s _ => by simp [pVo, exF]⟩
 s := ⟨by decide, by decide, by decide, by decide, by decide, by decide⟩
 is := by decide
 w := exF_w
 w0 := by simp [wF]
 wn := by decide
theorem c38F : C38 exF 3 := by
 refine ⟨?_, ?_⟩
 ·show RdOk exF 3 (bookL exF) (bookW exF)
  rw [exF_book, exF_W]
  exact rdF
 ·rw [exF_book, exF_W]
  exact ⟨c73F, by simp [wF], by decide⟩
end Go.CS
set_option maxHeartbeats 4000000
namespace Go.CS
open Go.Fam Go.Proofs
open Go.C06 (Span eI eIs eSpan gI gR dI dI_eI spanE fnG fnG_ok fnG_at within take_succ_of idxOf idxOf_at idxOf_none idxOf_any flat_len chunk_flat map_vw_rows hasRefL_flat drop_cons chunk_I len_I vw_I noref_I hmix eLI dLI dLI_e ru_countE cutL_noref hasRefL_append upL_noref)
variable {Γ : Gam}
theorem m26 (n lo hi : Int) : K157 26 [.i n, .i lo, .i hi] = (True, .b (within n lo hi)) := lft K157 (x150 n lo hi) rfl
theorem X21m (n : Int) : PureCall Tryz.prog 21 [.i n] (.b (within n 0 9999)) := by
 refine pure_body okK157 hmix Tryz.func21 cb21 cc21 cs21 cn21 ?_
 have g := m26 n 0 9999
 simp only [rc21, rs21, g, BL, simprocAttr]
def withS (m : Int) (s : Ev × Bool) (x : Ev) : Ev × Bool := if x.min ≤ m then (x, decide (x.sl.kind = 1)) else s
def withN (L : List Ev) (m : Int) : Ev × Bool := L.foldl (withS m) (⟨sl0, 0⟩, false)
theorem withN_snoc (L : List Ev) (m : Int) (x : Ev) : withN (L ++ [x]) m = withS m (withN L m) x := by simp [withN]
def tV (ws : List Int) (Es : List (List Ev)) : V := .pa (.sl 1 (ws.map eI) :: Es.map fun L => .sl 7 (L.map eEv))
theorem truthV_t (ws : List Int) (l : List Slip) : truthV ws l = tV ws ((List.range 10).map (evS ws l)) := by unfold truthV tV; rw [List.map_map]; rfl
theorem X24 (ws : List Int) (Es : List (List Ev)) (u : Nat) (m : Int) (L : List Ev) (h10 : Es.length = 10) (hu : Es[u]? = some L) (hl : L.length ≤ 12) : PureCall Tryz.prog 24 [tV ws Es, .i u, .i m] (.tp [.ag (eEv (withN L m).1), .b (withN L m).2]) := by
 refine pure_body okK157 hmix Tryz.func24 cb24 cc24 cs24 cn24 ?_
 have hu9 : u < 10 := by have := (List.getElem?_eq_some_iff.1 hu).1; omega
 obtain ⟨Z, hZ⟩ : ∃ Z : List V, Z = Es.map fun L => .sl 7 (L.map eEv) := ⟨_, rfl⟩
 have hZl : Z.length = 10 := by rw [hZ, List.length_map]; exact h10
 have hZt : Z.take 10 = Z := List.take_of_length_le (by omega)
 have hz : (Z.drop u).headD .u = .sl 7 (L.map eEv) := by
  rw [List.headD_eq_head?_getD, List.head?_drop, hZ, List.getElem?_map, hu]; rfl
 have hT : tV ws Es = .pa (.sl 1 (ws.map eI) :: Z) := by rw [hZ]; rfl
 rw [hT]
 have hu0 : (0 : Int) ≤ u := by omega
 have hu1 : (u : Int) < 10 := by omega
 have hu2 : (u : Int) < ((10 : Nat) : Int) := by omega
 have hun : (u : Int).toNat = u := Int.toNat_natCast u
 have h10 : 10 ≤ Z.length := by omega
 have hz1 : (Z.drop (u * 1)).headD .u = .sl 7 (L.map eEv) := by rw [Nat.mul_one]; exact hz
 have hd1 : 1 ≤ (Z.drop (u * 1)).length := by rw [List.length_drop]; omega
 simp only [rc24, rs24, hu0, hu1, hu2, hun, hz1, hd1, hZl, hZt, h10, BL, simprocAttr]
 refine ru_count L.length (fun k => ⟨lkp [(2, .i m), (6, .ad 0 0 0), (8, .ad 1 0 0), (9, .b (withN (L.take k) m).2), (17, .sl 7 (L.map eEv)), (18, .i L.length), (19, .i k)], [.cells 0 [.i 0, .i 0, .i 0, .i 0, .i 0, .i 0, .i 0], .cells 0 (eEv (withN (L.take k) m).1)]⟩) ?_ ?_ ?_
 ·simp only [Int.natCast_zero, withN, List.foldl_nil, eEv, sl0, BL, simprocAttr]
 ·intro k hk
  obtain ⟨x, hx⟩ : ∃ x, L[k]? = some x := ⟨_, List.getElem?_eq_getElem hk⟩
  have hrow : (L.map eEv)[k]? = some (eEv x) := by rw [List.getElem?_map, hx]; rfl
  have hlt : (k : Int) < L.length := by omega
  have hk0 : (0 : Int) ≤ k := by omega
  have hkn : (k : Int).toNat = k := Int.toNat_natCast k
  have i1 : inI ((k : Int) + 1) := by unfold inI; omega
  have hk1 : ((k + 1 : Nat) : Int) = (k : Int) + 1 := by omega
  rw [take_succ_of hx, withN_snoc, hk1]
  generalize withN (L.take k) m = s
  obtain ⟨⟨⟨a1, a2, a3, a4, a5, a6⟩, a7⟩, sb⟩ := s
  obtain ⟨⟨x1, x2, x3, x4, x5, x6⟩, x7⟩ := x
  unfold withS
  by_cases e : x7 ≤ m
  ·simp only [hlt, hrow, hk0, hkn, i1, e, eEv, BL, simprocAttr]
  ·simp only [hlt, hrow, hk0, hkn, i1, e, eEv, BL, simprocAttr]
 ·have hlt : ¬ ((L.length : Int) < L.length) := by omega
  rw [List.take_length]
  simp only [hlt, eEv, BL, simprocAttr]
def e21 (n : Int) : List V := [.i n]
def d21 : List V → Int | [.i n] => n | _ => 0
noncomputable def KW1 : Gam := K157.ext 21 (fnG e21 d21 (fun _ => True) (fun n => within n 0 9999) .b)
theorem okKW1 : GOk Tryz.prog KW1 := okK157.ext (f := 21) Tryz.call21 (fnG_ok fun a _ => X21m a)
theorem w21 (n : Int) : KW1 21 [.i n] = (True, .b (within n 0 9999)) := (kx KW1 21 (show d21 (e21 n) = n from rfl) rfl :)
def e24 (a : List Int × List (List Ev) × Int × Int) : List V := [tV a.1 a.2.1, .i a.2.2.1, .i a.2.2.2]
def dEvs : V → List Ev | .sl _ r => r.map dEv | _ => []
def d24 : List V → List Int × List (List Ev) × Int × Int | [.pa (.sl _ w :: Z), .i u, .i m] => (w.map dI, Z.map dEvs, u, m) | _ => ([], [], 0, 0)
theorem dEvs_e (L : List Ev) : dEvs (.sl 7 (L.map eEv)) = L := by show (L.map eEv).map dEv = L; rw [List.map_map]; exact (List.map_congr_left fun x _ => dEv_e x).trans (List.map_id L)
theorem d24_e (a : List Int × List (List Ev) × Int × Int) : d24 (e24 a) = a := by
 obtain ⟨ws, Es, u, m⟩ := a
 show ((ws.map eI).map dI, (Es.map fun L => V.sl 7 (L.map eEv)).map dEvs, u, m) = _
 rw [List.map_map, List.map_map, show (dEvs ∘ fun L : List Ev => V.sl 7 (L.map eEv)) = id from funext dEvs_e, List.map_id, show dI ∘ eI = id from funext dI_eI, List.map_id]
def C24 (a : List Int × List (List Ev) × Int × Int) : Prop := a.2.1.length = 10 ∧ 0 ≤ a.2.2.1 ∧ a.2.2.1 < 10 ∧ (a.2.1.getD a.2.2.1.toNat []).length ≤ 12
noncomputable def KW2 : Gam := KW1.ext 24 (fnG e24 d24 C24 (fun a => withN (a.2.1.getD a.2.2.1.toNat []) a.2.2.2) fun r => .tp [.ag (eEv r.1), .b r.2])
theorem okKW2 : GOk Tryz.prog KW2 := okKW1.ext (f := 24) Tryz.call24 (fnG_ok fun a h => by
 obtain ⟨ws, Es, u, m⟩ := a
 obtain ⟨h1, h2, h3, h4⟩ := h
 simp only at h1 h2 h3 h4
 have := X24 ws Es u.toNat m (Es.getD u.toNat []) h1 (by rw [List.getD_eq_getElem?_getD, List.getElem?_eq_getElem (by omega)]; rfl) h4
 rw [Int.toNat_of_nonneg h2] at this
 exact this)
theorem w24 (ws : List Int) (l : List Slip) (u m : Int) : KW2 24 [truthV ws l, .i u, .i m] = (C24 (ws, (List.range 10).map (evS ws l), u, m), .tp [.ag (eEv (withN (((List.range 10).map (evS ws l)).getD u.toNat []) m).1), .b (withN (((List.range 10).map (evS ws l)).getD u.toNat []) m).2]) := by
 rw [truthV_t]; exact (kx KW2 24 (d24_e (ws, (List.range 10).map (evS ws l), u, m)) rfl :)
theorem X36 (b : List V) (g : Int) (h : within g 0 99 = true) : PureCall Tryz.prog 36 [.pa b, .pa [.i g]] (.b true) := by
 refine pure_body okKW2 hmix Tryz.func36 cb36 cc36 cs36 cn36 ?_
 have q := lft KW2 (x154 g) rfl
 have e : okId g = true := h
 simp only [rc36, rs36, q, e, BL, simprocAttr]
theorem X20h (b : List V) (g : Int) (h : within g 0 9999 = true) : PureCall Tryz.prog 20 [.pa b, .pa [.i g]] (.b true) := by
 refine pure_body okKW2 hmix Tryz.func20 cb20 cc20 cs20 cn20 ?_
 have q := lft KW2 (w21 g) rfl
 simp only [rc20, rs20, q, h, BL, simprocAttr]
theorem X25 (b : List V) (u m : Int) (h : within u 0 9 = true) (h2 : within m 0 9999 = true) : PureCall Tryz.prog 25 [.pa b, .pa [.i u], .pa [.i m]] (.b true) := by
 refine pure_body okKW2 hmix Tryz.func25 cb25 cc25 cs25 cn25 ?_
 have q := lft KW2 (w21 m) rfl
 have r := lft KW2 (m26 u 0 9) rfl
 simp only [rc25, rs25, q, r, h, h2, BL, simprocAttr]
end Go.CS
set_option maxHeartbeats 4000000
namespace Go.CS
open Go.Fam Go.Proofs
open Go.C06 (Span eI eIs eSpan gI gR dI dI_eI spanE fnG fnG_ok fnG_at within take_succ_of idxOf idxOf_at idxOf_none idxOf_any flat_len chunk_flat map_vw_rows hasRefL_flat drop_cons chunk_I len_I vw_I noref_I hmix eLI dLI dLI_e ru_countE cutL_noref hasRefL_append upL_noref)
variable {Γ : Gam}
def eBI (a : List V × Int) : List V := [.pa a.1, .pa [.i a.2]]
def dBI : List V → List V × Int | [.pa b, .pa [.i n]] => (b, n) | _ => ([], 0)
def eBII (a : List V × Int × Int) : List V := [.pa a.1, .pa [.i a.2.1], .pa [.i a.2.2]]
def dBII : List V → List V × Int × Int | [.pa b, .pa [.i n], .pa [.i m]] => (b, n, m) | _ => ([], 0, 0)
noncomputable def KW3 : Gam := KW2.ext 36 (fnG eBI dBI (fun a => within a.2 0 99 = true) (fun _ => true) .b)
theorem okKW3 : GOk Tryz.prog KW3 := okKW2.ext (f := 36) Tryz.call36 (fnG_ok fun a h => X36 a.1 a.2 h)
theorem w36 (b : List V) (g : Int) : KW3 36 [.pa b, .pa [.i g]] = (within g 0 99 = true, .b true) := (kx KW3 36 (show dBI (eBI (b, g)) = (b, g) from rfl) rfl :)
noncomputable def KW4 : Gam := KW3.ext 20 (fnG eBI dBI (fun a => within a.2 0 9999 = true) (fun _ => true) .b)
theorem okKW4 : GOk Tryz.prog KW4 := okKW3.ext (f := 20) Tryz.call20 (fnG_ok fun a h => X20h a.1 a.2 h)
theorem w20 (b : List V) (g : Int) : KW4 20 [.pa b, .pa [.i g]] = (within g 0 9999 = true, .b true) := (kx KW4 20 (show dBI (eBI (b, g)) = (b, g) from rfl) rfl :)
noncomputable def KW5 : Gam := KW4.ext 25 (fnG eBII dBII (fun a => within a.2.1 0 9 = true ∧ within a.2.2 0 9999 = true) (fun _ => true) .b)
theorem okKW5 : GOk Tryz.prog KW5 := okKW4.ext (f := 25) Tryz.call25 (fnG_ok fun a h => X25 a.1 a.2.1 a.2.2 h.1 h.2)
theorem w25 (b : List V) (u m : Int) : KW5 25 [.pa b, .pa [.i u], .pa [.i m]] = (within u 0 9 = true ∧ within m 0 9999 = true, .b true) := (kx KW5 25 (show dBII (eBII (b, u, m)) = (b, u, m) from rfl) rfl :)
structure Rd2 (c : Ctr) (l : List Slip) (W : List (List Int)) : Prop where
 small : SmallCt c
 err : ctrE c = 0
 on : OkOn c.slips
 once : onceV (onceN c.slips) = .tp [.sl 6 (l.map eSlip), .b true]
 vo : C101 (c, l)
 s : OkS c l
 w : searchW l c.clerks [] = W
 w0 : W ≠ []
 wn : W.length ≤ 1000000
set_option maxHeartbeats 4000000 in
theorem RD36 (c : Ctr) (l : List Slip) (W : List (List Int)) (g : Int) (h : Rd2 c l W) (hg : within g 0 99 = true) : PureCall Tryz.prog 19 [.ag (eCtr c), .fn 36 [.pa [.i g]]] (.tp [bookV c l W, .i 0]) := by
 refine pure_body okKW5 hmix Tryz.func19 cb19 cc19 cs19 cn19 ?_
 have g1 := lft KW5 (k99 c) rfl
 have g2 := lft KW5 (k100 c.slips) rfl
 have g3 := lft KW5 (k101 c l) rfl
 have g4 := lft KW5 (w36 (bk0 c l) g) rfl
 have g5 : KW5.h 44 _ _ = _ := x103 (x := (c, l)) ⟨h.s, by rw [h.w]; exact h.wn⟩
 have h1 := h.small
 have h2 := h.err
 have h3 := h.on
 have h4 := h.once
 have h5 := h.vo
 have h7 : l.length < 10000000 := by have := h.s.len; omega
 have hv := vwCt c
 have hwl : W.length ≠ 0 := fun e => h.w0 (List.eq_nil_of_length_eq_zero e)
 have hw := h.w
 rw [h2] at g1
 rw [h4] at g2
 have hR : R03 (c, l) = fun r hp => r = .tp [] ∧ hp = hpB c l 0 (trsV l W) := by funext r hp; unfold R03; rw [hw]
 rw [hR] at g5
 simp only [List.map_cons, List.map_nil, List.cons.injEq, and_true] at hv
 simp only [eCtr] at g1 g3 hv
 simp only [bk0, eCtr, List.cons_append, List.nil_append] at g4
 simp only [eA03, eH03, hpB, bookC, eCtr, List.cons_append, List.nil_append, List.length_nil] at g5
 simp only [rc19, rs19, eCtr, g1, h1, g2, h3, g3, h5, g4, h7, g5, hv, vw_Slp, vw_Spn, vw_I, and_imp, hg, BL, simprocAttr]
 rintro r hp' rfl rfl
 have ht : (trsV l W).length = W.length := List.length_map ..
 simp only [ht, BL, simprocAttr]
 refine ⟨fun e => absurd e (by omega), fun _ => ?_⟩
 rw [if_pos (by omega)]
 unfold trsV
 rw [chunk1_map]
 simp only [List.map_map, Function.comp_def, List.map_cons, List.map_nil, vwTr]
 rfl
set_option maxHeartbeats 4000000 in
theorem RD20 (c : Ctr) (l : List Slip) (W : List (List Int)) (m : Int) (h : Rd2 c l W) (hm : within m 0 9999 = true) : PureCall Tryz.prog 19 [.ag (eCtr c), .fn 20 [.pa [.i m]]] (.tp [bookV c l W, .i 0]) := by
 refine pure_body okKW5 hmix Tryz.func19 cb19 cc19 cs19 cn19 ?_
 have g1 := lft KW5 (k99 c) rfl
 have g2 := lft KW5 (k100 c.slips) rfl
 have g3 := lft KW5 (k101 c l) rfl
 have g4 := lft KW5 (w20 (bk0 c l) m) rfl
 have g5 : KW5.h 44 _ _ = _ := x103 (x := (c, l)) ⟨h.s, by rw [h.w]; exact h.wn⟩
 have h1 := h.small
 have h2 := h.err
 have h3 := h.on
 have h4 := h.once
 have h5 := h.vo
 have h7 : l.length < 10000000 := by have := h.s.len; omega
 have hv := vwCt c
 have hwl : W.length ≠ 0 := fun e => h.w0 (List.eq_nil_of_length_eq_zero e)
 have hw := h.w
 rw [h2] at g1
 rw [h4] at g2
 have hR : R03 (c, l) = fun r hp => r = .tp [] ∧ hp = hpB c l 0 (trsV l W) := by funext r hp; unfold R03; rw [hw]
 rw [hR] at g5
 simp only [List.map_cons, List.map_nil, List.cons.injEq, and_true] at hv
 simp only [eCtr] at g1 g3 hv
 simp only [bk0, eCtr, List.cons_append, List.nil_append] at g4
 simp only [eA03, eH03, hpB, bookC, eCtr, List.cons_append, List.nil_append, List.length_nil] at g5
 simp only [rc19, rs19, eCtr, g1, h1, g2, h3, g3, h5, g4, h7, g5, hv, vw_Slp, vw_Spn, vw_I, and_imp, hm, BL, simprocAttr]
 rintro r hp' rfl rfl
 have ht : (trsV l W).length = W.length := List.length_map ..
 simp only [ht, BL, simprocAttr]
 refine ⟨fun e => absurd e (by omega), fun _ => ?_⟩
 rw [if_pos (by omega)]
 unfold trsV
 rw [chunk1_map]
 simp only [List.map_map, Function.comp_def, List.map_cons, List.map_nil, vwTr]
 rfl
set_option maxHeartbeats 4000000 in
theorem RD25 (c : Ctr) (l : List Slip) (W : List (List Int)) (u m : Int) (h : Rd2 c l W) (hu : within u 0 9 = true) (hm : within m 0 9999 = true) : PureCall Tryz.prog 19 [.ag (eCtr c), .fn 25 [.pa [.i u], .pa [.i m]]] (.tp [bookV c l W, .i 0]) := by
 refine pure_body okKW5 hmix Tryz.func19 cb19 cc19 cs19 cn19 ?_
 have g1 := lft KW5 (k99 c) rfl
 have g2 := lft KW5 (k100 c.slips) rfl
 have g3 := lft KW5 (k101 c l) rfl
 have g4 := lft KW5 (w25 (bk0 c l) u m) rfl
 have g5 : KW5.h 44 _ _ = _ := x103 (x := (c, l)) ⟨h.s, by rw [h.w]; exact h.wn⟩
 have h1 := h.small
 have h2 := h.err
 have h3 := h.on
 have h4 := h.once
 have h5 := h.vo
 have h7 : l.length < 10000000 := by have := h.s.len; omega
 have hv := vwCt c
 have hwl : W.length ≠ 0 := fun e => h.w0 (List.eq_nil_of_length_eq_zero e)
 have hw := h.w
 rw [h2] at g1
 rw [h4] at g2
 have hR : R03 (c, l) = fun r hp => r = .tp [] ∧ hp = hpB c l 0 (trsV l W) := by funext r hp; unfold R03; rw [hw]
 rw [hR] at g5
 simp only [List.map_cons, List.map_nil, List.cons.injEq, and_true] at hv
 simp only [eCtr] at g1 g3 hv
 simp only [bk0, eCtr, List.cons_append, List.nil_append] at g4
 simp only [eA03, eH03, hpB, bookC, eCtr, List.cons_append, List.nil_append, List.length_nil] at g5
 simp only [rc19, rs19, eCtr, g1, h1, g2, h3, g3, h5, g4, h7, g5, hv, vw_Slp, vw_Spn, vw_I, and_imp, hu, hm, BL, simprocAttr]
 rintro r hp' rfl rfl
 have ht : (trsV l W).length = W.length := List.length_map ..
 simp only [ht, BL, simprocAttr]
 refine ⟨fun e => absurd e (by omega), fun _ => ?_⟩
 rw [if_pos (by omega)]
 unfold trsV
 rw [chunk1_map]
 simp only [List.map_map, Function.comp_def, List.map_cons, List.map_nil, vwTr]
 rfl
end Go.CS
set_option maxHeartbeats 4000000
namespace Go.CS
open Go.Fam Go.Proofs
open Go.C06 (Span eI eIs eSpan gI gR dI dI_eI spanE fnG fnG_ok fnG_at within take_succ_of idxOf idxOf_at idxOf_none idxOf_any flat_len chunk_flat map_vw_rows hasRefL_flat drop_cons chunk_I len_I vw_I noref_I hmix eLI dLI dLI_e ru_countE cutL_noref hasRefL_append upL_noref)
variable {Γ : Gam}
def OkAl1 (al : List V → Prop) : Prop := (∀ bv, al bv → ∃ b1, bv = [b1]) ∧ ∀ b1 hp, al [b1] → cutB hp 2 (vB b1) = vB b1
def tH1 (al : List V → Prop) (xs : List V) (hp : List Blk) : Prop × (V → List Blk → Prop) :=
 (∃ c l W ws y bv, HirOk c ws l ∧ al bv ∧ OkAl1 al ∧ xs = [.yl y, .pa [truthV ws l], .pa [bookV c l W]] ∧ hp = gH [truthV ws l] [bookV c l W] y bv (hiresQ c ws l 0),
  fun r hp => ∃ y T B, xs = [.yl y, .pa T, .pa B] ∧ Go.C06.RIt al [.yl y, .pa T, .pa B] r hp)
namespace N
set_option maxHeartbeats 4000000 in
theorem X105 (al : List V → Prop) (c : Ctr) (l : List Slip) (W : List (List Int)) (ws : List Int) (h : HirOk c ws l) (y : Nat) (b1 : V) (hal : al [b1]) (hone : OkAl1 al) :
  YCall Tryz.prog 57 al [.yl y, .pa [truthV ws l], .pa [bookV c l W]] (gH [truthV ws l] [bookV c l W] y [b1] (hiresQ c ws l 0)) (Go.C06.RIt al [.yl y, .pa [truthV ws l], .pa [bookV c l W]]) := by
 refine yfun_body (okK151.wal al) hmix Tryz.func57 cb57 (lo := 2) cc57 cs57 (by exact cn57) (by rfl) (by decide) ?_
 have hyal : (K151.wal al).al = al := rfl
 have hcb : ∀ c1, al [c1] → ∀ hp, cutB hp 2 (vB c1) = vB c1 := fun c1 h hp => hone.2 c1 hp h
 unfold gH
 obtain ⟨Z, hZ⟩ : ∃ Z : List V, Z = (List.range 10).map fun u => .sl 7 ((evS ws l u).map eEv) := ⟨_, rfl⟩
 have hZl : Z.length = 10 := by rw [hZ]; rfl
 have hZt : Z.take 10 = Z := List.take_of_length_le (by omega)
 have hZd : ∀ u, u < 10 → (Z.drop u).headD .u = .sl 7 ((evS ws l u).map eEv) := by
  intro u hu
  rw [List.headD_eq_head?_getD, List.head?_drop, hZ, List.getElem?_map, List.getElem?_range hu]; rfl
 obtain ⟨T, hT⟩ : ∃ T : List V, T = [truthV ws l] := ⟨_, rfl⟩
 obtain ⟨B, hB⟩ : ∃ B : List V, B = [bookV c l W] := ⟨_, rfl⟩
 have hT0 : T = [.pa (.sl 1 (ws.map eI) :: Z)] := by rw [hT, hZ]; rfl
 rw [← hT, ← hB]
 have h10 : 10 ≤ Z.length := by omega
 simp only [rc57, rs57, hyal, hT0, hZt, hZl, h10, BL, simprocAttr]
 refine ru_countE 10 (fun j (v : V) => ⟨lkp [(0, .yl y), (2, .pa B), (10, .ag Z), (11, .i j)], [.gh [.yl y, .pa T, .pa B] (some ((.b true :: [v]) :: (hiresQ c ws l j).map encH)), vB v]⟩) (fun j v => al [v]) b1 ?_ hal ?_ ?_
 ·simp only [Int.natCast_zero, hT0, BL, simprocAttr]
 ·rintro j c1' hj hc
  try simp only at hc
  have hjl : (j : Int) < 10 := by omega
  have hj0 : (0 : Int) ≤ j := by omega
  have hjl2 : (j : Int) < ((10 : Nat) : Int) := by omega
  have hjn : (j : Int).toNat = j := Int.toNat_natCast j
  have ij : inI ((j : Int) + 1) := by unfold inI; omega
  have hz := hZd j hj
  obtain ⟨L, hL⟩ : ∃ L, L = evS ws l j := ⟨_, rfl⟩
  have hLl : L.length ≤ 12 := by rw [hL]; exact h.len j
  have hys : hiresQ c ws l j = (pairsE (L.drop (2 * 0))).map (hiP c) ++ hiresQ c ws l (j + 1) := by
   unfold hiresQ
   rw [drop_cons (List.getElem?_range hj), List.flatMap_cons, hL]; rfl
  rw [hys]
  rw [← hL] at hz
  simp only [hjl, hjl2, hj0, hjn, hz, hZl, BL, simprocAttr]
  refine ru_countE (L.length / 2) (fun i (v : V) => ⟨lkp [(0, .yl y), (2, .pa B), (5, .sl 7 (L.map eEv)), (6, .i ((2 * i : Nat) : Int)), (10, .ag Z), (11, .i j)], [.gh [.yl y, .pa T, .pa B] (some ((.b true :: [v]) :: ((pairsE (L.drop (2 * i))).map (hiP c) ++ hiresQ c ws l (j + 1)).map encH)), vB v]⟩) (fun i v => al [v]) c1' ?_ hc ?_ ?_
  ·simp only [Nat.mul_zero, Int.natCast_zero, BL, simprocAttr]
  ·rintro i d1 hi hd
   try simp only at hd
   obtain ⟨a, ha⟩ : ∃ a, L[2 * i]? = some a := ⟨_, List.getElem?_eq_getElem (by omega)⟩
   obtain ⟨b, hb⟩ : ∃ b, L[2 * i + 1]? = some b := ⟨_, List.getElem?_eq_getElem (by omega)⟩
   have hp := pairsE_step ha hb
   have hop : OkOp c a.min b.min := by
    have hm := pairsE_mem ha hb
    rw [hL] at hm
    exact h.op j _ hm
   have ra : (L.map eEv)[2 * i]? = some (eEv a) := by rw [List.getElem?_map, ha]; rfl
   have rb : (L.map eEv)[2 * i + 1]? = some (eEv b) := by rw [List.getElem?_map, hb]; rfl
   have c1 : ((2 * i : Nat) : Int) + 1 < L.length := by omega
   have c2 : inI (((2 * i : Nat) : Int) + 1) := by unfold inI; omega
   have c3 : (((2 * i : Nat) : Int)).toNat = 2 * i := Int.toNat_natCast _
   have c4 : (((2 * i : Nat) : Int) + 1).toNat = 2 * i + 1 := by omega
   have c5 : (0 : Int) ≤ ((2 * i : Nat) : Int) := by omega
   have c6 : (0 : Int) ≤ ((2 * i : Nat) : Int) + 1 := by omega
   have c7 : ((2 * i : Nat) : Int) < L.length := by omega
   have c8 : inI (((2 * i : Nat) : Int) + 2) := by unfold inI; omega
   have c9 : ((2 * (i + 1) : Nat) : Int) = ((2 * i : Nat) : Int) + 2 := by omega
   have g := (show (K151.wal al) 58 [.ag (eCtr c), .i a.min, .i b.min] = (OkOp c a.min b.min, .i (openM c a.min b.min)) from k106 c a.min b.min)
   rw [hp]
   simp only [eCtr] at g
   simp only [c1, c2, c3, c4, c5, c6, c7, c8, ra, rb, hB, bookV, eCtr, eEv, g, hop, hyal, hiP, yP, encH, gyE, eSlip, BL, simprocAttr]
   rintro b bv' hbv
   obtain ⟨d3, rfl⟩ := hone.1 bv' hbv
   refine ⟨fun hb => ?_, fun hb => ?_⟩
   ·subst hb
    rw [hT0]
    exact ⟨false, [d3], [], [], by simp, by simp, hbv⟩
   ·subst hb
    refine ⟨d3, hbv, ?_⟩
    simp only [c8, c9, hB, bookV, eCtr, BL, simprocAttr]
  ·rintro d1 hd
   try simp only at hd
   have hend := pairsE_end (L := L) (i := L.length / 2) (by omega)
   have c1 : ¬ (((2 * (L.length / 2) : Nat) : Int) + 1 < L.length) := by omega
   have c2 : inI (((2 * (L.length / 2) : Nat) : Int) + 1) := by unfold inI; omega
   rw [hend]
   simp only [c1, c2, ij, Int.natCast_add, Int.natCast_one, BL, simprocAttr]
   exact ⟨d1, hd, rfl⟩
 ·rintro c1' hc
  try simp only at hc
  have hlt : ¬ (((10 : Nat) : Int) < 10) := by omega
  have e : hiresQ c ws l 10 = [] := rfl
  simp only [hlt, e, BL, simprocAttr]
  rw [hT0]
  exact ⟨true, [c1'], [], [], by simp, fun _ => rfl, hc⟩
end N
noncomputable def KW6 : Gam := KW5.extY 57 tH1
theorem okKW6 : GOk Tryz.prog KW6 := by
 refine okKW5.extY (f := 57) Tryz.call57 fun al xs hp h => ?_
 obtain ⟨c, l, W, ws, y, bv, h1, h2, h3, rfl, rfl⟩ := h
 obtain ⟨b1, rfl⟩ := h3.1 bv h2
 exact (N.X105 al c l W ws h1 y b1 h2 h3).mono fun r hp h => ⟨y, _, _, rfl, h⟩
theorem y105w (al : List V → Prop) (xs : List V) (hp : List Blk) : KW6.y 57 al xs hp = tH1 al xs hp := rfl
def owesS (t : Tariff) (g : Int) (s : Int) (x : Slip × Int) : Int := if x.1.guest = g then s + feeN t x.2 else s
def owesN (c : Ctr) (g : Int) (ws : List Int) (l : List Slip) : Int := (hiresP c ws l).foldl (owesS c.tar g) 0
structure C38o (c : Ctr) (g : Int) (ws : List Int) (l : List Slip) : Prop where
 h : HirOk c ws l
 f : ∀ x ∈ hiresP c ws l, OkFee c.tar x.2
 s : ∀ k, inI (((hiresP c ws l).take k).foldl (owesS c.tar g) 0)
def capsO (c : Ctr) (g : Int) (l : List Slip) (W : List (List Int)) : List V := [.pa [bookV c l W], .pa [.i g], .pa (eCtr c)]
set_option maxHeartbeats 4000000 in
theorem X38o (c : Ctr) (g : Int) (ws : List Int) (l : List Slip) (W : List (List Int)) (h : C38o c g ws l) : PureCall Tryz.prog 38 (truthV ws l :: capsO c g l W) (.tp [.i (owesN c g ws l), .b true]) := by
 refine pure_body okKW6 hmix Tryz.func38 cb38 cc38 cs38 cn38 ?_
 have g1 := lft KW6 (x74 c l W ws) rfl
 have g3 := fun m => lft KW6 (x40 c.tar m) rfl
 obtain ⟨B, hB⟩ : ∃ B, bookV c l W = .pa B := ⟨_, rfl⟩
 obtain ⟨T, hT⟩ : ∃ T, truthV ws l = .pa T := ⟨_, rfl⟩
 rw [hB, hT] at g1
 unfold capsO
 rw [hB, hT]
 obtain ⟨H, hH⟩ : ∃ H, H = hiresP c ws l := ⟨_, rfl⟩
 have hs := h.s
 have hf := h.f
 unfold owesN
 rw [← hH] at hs hf ⊢
 simp only [eTar] at g3
 simp only [rc38, rs38, eCtr, g1, ↓BU3, BL, simprocAttr]
 refine ru_rfh (gf := 57) (caps := [.pa [.pa T], .pa [.pa B]]) ?_ (fun bv => ∃ x, bv = [bV (.cells 0 [.i x])]) (H.map fun x => (yP x, [])) (bv0 := [bV (.cells 0 [.i 0])]) ?_
  (fun k bv => bv = [bV (.cells 0 [.i ((H.take k).foldl (owesS c.tar g) 0)])]) ?_ ?_ ?_ ?_ ?_ ?_
 ·simp only [↓BU3, BL, simprocAttr]
 ·simp only [↓BU3, BL, simprocAttr]
 ·rfl
 ·rintro k bv rfl
  exact ⟨_, rfl⟩
 ·rintro bv ⟨x, rfl⟩
  refine ⟨rfl, fun hp => ?_⟩
  simp only [↓BU3, BL, simprocAttr]
 ·intro y
  rw [y105w]
  refine ⟨⟨c, l, W, ws, y, [bV (.cells 0 [.i 0])], h.h, ⟨_, rfl⟩, ⟨fun bv h => ?_, fun b1 hp h => ?_⟩, by rw [hB, hT], ?_⟩, fun r hp' h => ?_⟩
  ·obtain ⟨x, h⟩ := h
   exact ⟨_, h⟩
  ·obtain ⟨x, h⟩ := h
   simp only [List.cons.injEq, and_true] at h
   subst h
   simp only [↓BU3, BL, simprocAttr]
  ·rw [hB, hT, gH, List.map_map]
   rw [show hiresQ c ws l 0 = H from hH.symm]
   rfl
  ·obtain ⟨y', T', B', e, h⟩ := h
   simp only [List.cons.injEq, V.yl.injEq, V.pa.injEq, and_true] at e
   obtain ⟨rfl, rfl, rfl⟩ := e
   exact h
 ·rintro k x z bv hx rfl
  rw [List.getElem?_map, Option.map_eq_some_iff] at hx
  obtain ⟨⟨s, m⟩, hy, he⟩ := hx
  simp only [Prod.mk.injEq] at he
  obtain ⟨rfl, rfl⟩ := he
  refine ⟨rfl, Nat.le_refl _, ?_⟩
  have hm := hf _ (List.mem_of_getElem? hy)
  have hk := hs (k + 1)
  have hq : (H.take (k + 1)).foldl (owesS c.tar g) 0 = owesS c.tar g ((H.take k).foldl (owesS c.tar g) 0) (s, m) := by rw [take_succ_of hy]; simp
  rw [hq] at hk ⊢
  generalize (H.take k).foldl (owesS c.tar g) 0 = a at *
  unfold owesS at hk ⊢
  by_cases e : s.guest = g
  ·rw [if_pos e] at hk ⊢
   simp only [yP, eSlip, e, g3, hm, hk, ↓BU3, BL, simprocAttr]
   refine ⟨[bV (.cells 0 [.i (a + feeN c.tar m)])], ?_, rfl, ⟨_, rfl⟩, rfl⟩
   simp only [↓BU3, BL, simprocAttr]
  ·rw [if_neg e] at hk ⊢
   simp only [yP, eSlip, e, ↓BU3, BL, simprocAttr]
   refine ⟨[bV (.cells 0 [.i a])], ?_, rfl, ⟨_, rfl⟩, rfl⟩
   simp only [↓BU3, BL, simprocAttr]
 ·rintro bv rfl
  rw [List.length_map, List.take_length]
  simp only [↓BU3, BL, simprocAttr]
end Go.CS
set_option maxHeartbeats 4000000
namespace Go.CS
open Go.Fam Go.Proofs
open Go.C06 (Span eI eIs eSpan gI gR dI dI_eI spanE fnG fnG_ok fnG_at within take_succ_of idxOf idxOf_at idxOf_none idxOf_any flat_len chunk_flat map_vw_rows hasRefL_flat drop_cons chunk_I len_I vw_I noref_I hmix eLI dLI dLI_e ru_countE cutL_noref hasRefL_append upL_noref)
variable {Γ : Gam}
def heldK (p : Int) (Es : List (List Ev)) (m : Int) : Nat → Int
 | 0 => 0
 | k + 1 => if (withN (Es.getD k []) m).2 = true then heldK p Es m k + p else heldK p Es m k
structure C23 (c : Ctr) (m : Int) (Es : List (List Ev)) : Prop where
 n : Es.length = 10
 len : ∀ u : Nat, (Es.getD u []).length ≤ 12
 s : ∀ k, k ≤ 10 → inI (heldK c.tar.pledge Es m k)
def capsH (c : Ctr) (m : Int) : List V := [.pa [.i m], .pa (eCtr c)]
theorem rg_get {ws : List Int} {l : List Slip} {u : Nat} (hu : u < 10) : (((List.range 10).map (evS ws l)).getD u []) = evS ws l u := by
 rw [List.getD_eq_getElem?_getD, List.getElem?_map, List.getElem?_range hu]; rfl
theorem w24t (ws : List Int) (Es : List (List Ev)) (u m : Int) : KW2 24 [tV ws Es, .i u, .i m] = (C24 (ws, Es, u, m), .tp [.ag (eEv (withN (Es.getD u.toNat []) m).1), .b (withN (Es.getD u.toNat []) m).2]) := (kx KW2 24 (d24_e (ws, Es, u, m)) rfl :)
theorem X23h (c : Ctr) (m : Int) (ws : List Int) (Es : List (List Ev)) (h : C23 c m Es) : PureCall Tryz.prog 23 (tV ws Es :: capsH c m) (.tp [.i (heldK c.tar.pledge Es m 10), .b true]) := by
 refine pure_body okKW6 hmix Tryz.func23 cb23 cc23 cs23 cn23 ?_
 have g := fun u => lft KW6 (w24t ws Es u m) rfl
 obtain ⟨T, hT⟩ : ∃ T, tV ws Es = .pa T := ⟨_, rfl⟩
 unfold capsH
 rw [hT] at g ⊢
 simp only [rc23, rs23, eCtr, BL, simprocAttr]
 refine ru_count 10 (fun k => ⟨lkp [(0, .pa T), (1, .pa [.i m]), (2, .pa (eCtr c)), (6, .i (heldK c.tar.pledge Es m k)), (10, .i k)], []⟩) ?_ ?_ ?_
 ·simp only [Int.natCast_zero, heldK, eCtr, BL, simprocAttr]
 ·intro k hk
  have hkl : (k : Int) < 10 := by omega
  have hkn : (k : Int).toNat = k := Int.toNat_natCast k
  have i1 : inI ((k : Int) + 1) := by unfold inI; omega
  have hk1 : ((k + 1 : Nat) : Int) = (k : Int) + 1 := by omega
  have gk := g k
  rw [hkn] at gk
  have ck : C24 (ws, Es, (k : Int), m) := ⟨h.n, by show (0 : Int) ≤ k; omega, hkl, by show (Es.getD (k : Int).toNat []).length ≤ 12; rw [hkn]; exact h.len k⟩
  have hs := h.s (k + 1) (by omega)
  rw [hk1]
  simp only [heldK] at hs ⊢
  generalize heldK c.tar.pledge Es m k = s at *
  generalize withN (Es.getD k []) m = r at *
  obtain ⟨⟨⟨a1, a2, a3, a4, a5, a6⟩, a7⟩, b⟩ := r
  cases b with
  | true =>
   simp only [↓reduceIte] at hs ⊢
   simp only [hkl, i1, gk, ck, hs, eEv, eCtr, BL, simprocAttr]
  | false =>
   simp only [Bool.false_eq_true, ↓reduceIte] at hs ⊢
   simp only [hkl, i1, gk, ck, eEv, eCtr, BL, simprocAttr]
 ·have hlt : ¬ (((10 : Nat) : Int) < 10) := by omega
  simp only [hlt, BL, simprocAttr]
theorem spanG {G : Gam} (hG : GOk Tryz.prog G) (c : Ctr) (l : List Slip) (W : List (List Int)) (q : Nat) (hq : q < 1000000) (caps : List V) (hv : ∀ hp, caps.map (vw hp 8) = caps) (hr : hasRefL caps = false) (mv : List Int → Int) (C : List Int → Prop)
  (g : ∀ ws, G q (truthV ws l :: caps) = (C ws, .tp [.i (mv ws), .b true])) (h : ∀ ws ∈ W, C ws) (h0 : W ≠ []) (hl : W.length ≤ 1000000) :
  PureCall Tryz.prog 22 [bookV c l W, .fn q caps] (.tp [.ag (eSpan (spF (W.map mv)).1), .b true]) := by
 refine pure_body hG hmix Tryz.func22 cb22 cc22 cs22 cn22 ?_
 have hbt : (spF (W.map mv)).2 = true := spF_true (by simpa using h0)
 have hbk : bookV c l W = .pa (eCtr c ++ [.sl 6 (l.map eSlip), .sl 1 (trR l W)]) := rfl
 rw [hbk]
 have hrl : (trR l W).length = W.length := List.length_map ..
 simp only [rc22, rs22, eCtr, hrl, BL, simprocAttr]
 refine ru_count W.length (fun k => ⟨lkp [(1, .fn q caps), (4, .ad 0 0 0), (5, .b (spF ((W.take k).map mv)).2), (13, .sl 1 (trR l W)), (14, .i W.length), (15, .i k)], [.cells 0 [.i (spF ((W.take k).map mv)).1.low, .i (spF ((W.take k).map mv)).1.high]]⟩) ?_ ?_ ?_
 ·simp only [Int.natCast_zero, spF, BL, simprocAttr]
 ·intro k hk
  obtain ⟨ws, hws⟩ : ∃ ws, W[k]? = some ws := ⟨_, List.getElem?_eq_getElem hk⟩
  have hC := h ws (List.mem_of_getElem? hws)
  have hrow : (trR l W)[k]? = some [truthV ws l] := by unfold trR; rw [List.getElem?_map, hws]; rfl
  have hlt : (k : Int) < W.length := by omega
  have hk0 : (0 : Int) ≤ k := by omega
  have hkn : (k : Int).toNat = k := Int.toNat_natCast k
  have i1 : inI ((k : Int) + 1) := by unfold inI; omega
  have gw := g ws
  have hsn : (W.take (k + 1)).map mv = (W.take k).map mv ++ [mv ws] := by rw [take_succ_of hws, List.map_append]; rfl
  rw [hsn, spF_snoc]
  obtain ⟨T, hT⟩ : ∃ T, truthV ws l = .pa T := ⟨_, rfl⟩
  rw [hT] at gw hrow
  generalize spF ((W.take k).map mv) = s
  obtain ⟨⟨slo, shi⟩, sb⟩ := s
  cases sb
  ·simp only [hlt, hrow, hrl, hk0, hkn, i1, gw, hC, hq, hv, hr, spS, Int.natCast_add, Int.natCast_one, BL, simprocAttr]
  ·simp only [hlt, hrow, hrl, hk0, hkn, i1, gw, hC, hq, hv, hr, spS, Int.natCast_add, Int.natCast_one, BL, simprocAttr]
 ·have hlt : ¬ ((W.length : Int) < W.length) := by omega
  simp only [hlt, List.take_length, hbt, BL, simprocAttr]
end Go.CS
set_option maxHeartbeats 4000000
namespace Go.CS
open Go.Fam Go.Proofs
open Go.C06 (Span eI eIs eSpan gI gR dI dI_eI spanE fnG fnG_ok fnG_at within take_succ_of idxOf idxOf_at idxOf_none idxOf_any flat_len chunk_flat map_vw_rows hasRefL_flat drop_cons chunk_I len_I vw_I noref_I hmix eLI dLI dLI_e ru_countE cutL_noref hasRefL_append upL_noref)
variable {Γ : Gam}
abbrev D38 := (((Ctr × List Slip) × List (List Int)) × List Int) × Int
def e38o (a : D38) : List V := truthV a.1.2 a.1.1.1.2 :: capsO a.1.1.1.1 a.2 a.1.1.1.2 a.1.1.2
def d38o : List V → D38 | [t, .pa [b], .pa [.i n], _] => ((dBV b, dTr t), n) | _ => ((dBV .u, []), 0)
theorem d38o_e (a : D38) : d38o (e38o a) = a := by
 obtain ⟨⟨⟨⟨c, l⟩, W⟩, ws⟩, n⟩ := a
 show ((dBV (bookV c l W), dTr (truthV ws l)), n) = _
 rw [dBV_e, dTr_e]
noncomputable def KW7 : Gam := KW6.ext 38 (fnG e38o d38o (fun a => C38o a.1.1.1.1 a.2 a.1.2 a.1.1.1.2) (fun a => owesN a.1.1.1.1 a.2 a.1.2 a.1.1.1.2) (fun m => .tp [.i m, .b true]))
theorem okKW7 : GOk Tryz.prog KW7 := okKW6.ext (f := 38) Tryz.call38 (fnG_ok fun a h => X38o a.1.1.1.1 a.2 a.1.2 a.1.1.1.2 a.1.1.2 h)
theorem w38 (c : Ctr) (l : List Slip) (W : List (List Int)) (g : Int) (ws : List Int) : KW7 38 (truthV ws l :: capsO c g l W) = (C38o c g ws l, .tp [.i (owesN c g ws l), .b true]) := (kx KW7 38 (d38o_e ((((c, l), W), ws), g)) rfl :)
abbrev D23 := (Ctr × Int) × (List Int × List (List Ev))
def e23h (a : D23) : List V := tV a.2.1 a.2.2 :: capsH a.1.1 a.1.2
def d23h : List V → D23 | [.pa (.sl _ w :: Z), .pa [.i m], .pa c] => ((dCtr c, m), (w.map dI, Z.map dEvs)) | _ => ((dCtr [], 0), ([], []))
theorem d23h_e (a : D23) : d23h (e23h a) = a := by
 obtain ⟨⟨c, m⟩, ws, Es⟩ := a
 show ((dCtr (eCtr c), m), ((ws.map eI).map dI, (Es.map fun L => V.sl 7 (L.map eEv)).map dEvs)) = _
 rw [dCtr_e, List.map_map, List.map_map, show (dEvs ∘ fun L : List Ev => V.sl 7 (L.map eEv)) = id from funext dEvs_e, List.map_id, show dI ∘ eI = id from funext dI_eI, List.map_id]
noncomputable def KW8 : Gam := KW7.ext 23 (fnG e23h d23h (fun a => C23 a.1.1 a.1.2 a.2.2) (fun a => heldK a.1.1.tar.pledge a.2.2 a.1.2 10) (fun m => .tp [.i m, .b true]))
theorem okKW8 : GOk Tryz.prog KW8 := okKW7.ext (f := 23) Tryz.call23 (fnG_ok fun a h => X23h a.1.1 a.1.2 a.2.1 a.2.2 h)
theorem w23 (c : Ctr) (m : Int) (l : List Slip) (ws : List Int) : KW8 23 (truthV ws l :: capsH c m) = (C23 c m ((List.range 10).map (evS ws l)), .tp [.i (heldK c.tar.pledge ((List.range 10).map (evS ws l)) m 10), .b true]) := by
 rw [truthV_t]; exact (kx KW8 23 (d23h_e ((c, m), (ws, (List.range 10).map (evS ws l)))) rfl :)
def owesB (c : Ctr) (g : Int) (l : List Slip) (W : List (List Int)) : Span := (spF (W.map fun ws => owesN c g ws l)).1
def heldB (c : Ctr) (m : Int) (l : List Slip) (W : List (List Int)) : Span := (spF (W.map fun ws => heldK c.tar.pledge ((List.range 10).map (evS ws l)) m 10)).1
set_option maxHeartbeats 4000000 in
theorem X18 (c : Ctr) (g : Int) (l : List Slip) (W : List (List Int)) (hg : within g 0 99 = true) (h : Rd2 c l W) (hC : ∀ ws ∈ W, C38o c g ws l) : PureCall Tryz.prog 18 [.ag (eCtr c), .i g] (.tp [.ag (eSpan (owesB c g l W)), .i 0]) := by
 have r0 := RD36 c l W g h hg
 have s0 := spanG okKW8 c l W 38 (by decide) (capsO c g l W) (fun hp => by
  unfold capsO; rw [List.map_cons, List.map_cons, List.map_cons]; rfl) (by rfl) (fun ws => owesN c g ws l) (fun ws => C38o c g ws l) (fun ws => w38 c l W g ws) hC h.w0 h.wn
 have k1 : GOk Tryz.prog (KW8.ext 19 fun xs => (xs = [.ag (eCtr c), .fn 36 [.pa [.i g]]], .tp [bookV c l W, .i 0])) := okKW8.ext (f := 19) Tryz.call19 (by rintro xs rfl; exact r0)
 have k2 : GOk Tryz.prog ((KW8.ext 19 fun xs => (xs = [.ag (eCtr c), .fn 36 [.pa [.i g]]], .tp [bookV c l W, .i 0])).ext 22 fun xs => (xs = [bookV c l W, .fn 38 (capsO c g l W)], .tp [.ag (eSpan (spF (W.map fun ws => owesN c g ws l)).1), .b true])) := k1.ext (f := 22) Tryz.call22 (by rintro xs rfl; exact s0)
 refine pure_body k2 hmix Tryz.func18 cb18 cc18 cs18 cn18 ?_
 generalize hG : ((KW8.ext 19 fun xs => (xs = [V.ag (eCtr c), V.fn 36 [V.pa [V.i g]]], V.tp [bookV c l W, V.i 0])).ext 22 fun xs => (xs = [bookV c l W, V.fn 38 (capsO c g l W)], V.tp [V.ag (eSpan (spF (W.map fun ws => owesN c g ws l)).1), V.b true])) = G
 have g1 : G 19 [.ag (eCtr c), .fn 36 [.pa [.i g]]] = (True, .tp [bookV c l W, .i 0]) := by
  rw [← hG]; exact Prod.ext (propext ⟨fun _ => trivial, fun _ => rfl⟩) rfl
 have g2 : G 22 [bookV c l W, .fn 38 (capsO c g l W)] = (True, .tp [.ag (eSpan (owesB c g l W)), .b true]) := by
  rw [← hG]; exact Prod.ext (propext ⟨fun _ => trivial, fun _ => rfl⟩) rfl
 unfold capsO at g2
 generalize owesB c g l W = s at *
 obtain ⟨E, hE⟩ : ∃ E, E = eCtr c := ⟨_, rfl⟩
 have hEl : E.length = 11 := by rw [hE]; rfl
 have hEr : hasRefL E = false := by rw [hE]; rfl
 have hEv : ∀ H n, E.map (vw H (n + 1)) = E := fun H n => by rw [hE]; rfl
 have hE7 : ∀ H, E.map (vw H 7) = E := fun H => by rw [hE]; rfl
 obtain ⟨B, hB⟩ : ∃ B, bookV c l W = .pa B := ⟨_, rfl⟩
 rw [hB] at g1 g2
 rw [← hE] at g1 g2 ⊢
 have hEt : E.take 11 = E := List.take_of_length_le (by omega)
 have hE11 : 11 ≤ E.length := by omega
 simp only [rc18, rs18, g1, g2, hEl, hEt, hE11, hEr, hE7, hEv, BL, simprocAttr]
set_option maxHeartbeats 4000000 in
theorem X9 (c : Ctr) (m : Int) (l : List Slip) (W : List (List Int)) (hg : within m 0 9999 = true) (h : Rd2 c l W) (hC : ∀ ws ∈ W, C23 c m ((List.range 10).map (evS ws l))) : PureCall Tryz.prog 9 [.ag (eCtr c), .i m] (.tp [.ag (eSpan (heldB c m l W)), .i 0]) := by
 have r0 := RD20 c l W m h hg
 have s0 := spanG okKW8 c l W 23 (by decide) (capsH c m) (fun hp => by
  unfold capsH; rw [List.map_cons, List.map_cons]; rfl) (by rfl) (fun ws => heldK c.tar.pledge ((List.range 10).map (evS ws l)) m 10) (fun ws => C23 c m ((List.range 10).map (evS ws l))) (fun ws => w23 c m l ws) hC h.w0 h.wn
 have k1 : GOk Tryz.prog (KW8.ext 19 fun xs => (xs = [.ag (eCtr c), .fn 20 [.pa [.i m]]], .tp [bookV c l W, .i 0])) := okKW8.ext (f := 19) Tryz.call19 (by rintro xs rfl; exact r0)
 have k2 : GOk Tryz.prog ((KW8.ext 19 fun xs => (xs = [.ag (eCtr c), .fn 20 [.pa [.i m]]], .tp [bookV c l W, .i 0])).ext 22 fun xs => (xs = [bookV c l W, .fn 23 (capsH c m)], .tp [.ag (eSpan (spF (W.map fun ws => heldK c.tar.pledge ((List.range 10).map (evS ws l)) m 10)).1), .b true])) := k1.ext (f := 22) Tryz.call22 (by rintro xs rfl; exact s0)
 refine pure_body k2 hmix Tryz.func9 cb9 cc9 cs9 cn9 ?_
 generalize hG : ((KW8.ext 19 fun xs => (xs = [V.ag (eCtr c), V.fn 20 [V.pa [V.i m]]], V.tp [bookV c l W, V.i 0])).ext 22 fun xs => (xs = [bookV c l W, V.fn 23 (capsH c m)], V.tp [V.ag (eSpan (spF (W.map fun ws => heldK c.tar.pledge ((List.range 10).map (evS ws l)) m 10)).1), V.b true])) = G
 have g1 : G 19 [.ag (eCtr c), .fn 20 [.pa [.i m]]] = (True, .tp [bookV c l W, .i 0]) := by
  rw [← hG]; exact Prod.ext (propext ⟨fun _ => trivial, fun _ => rfl⟩) rfl
 have g2 : G 22 [bookV c l W, .fn 23 (capsH c m)] = (True, .tp [.ag (eSpan (heldB c m l W)), .b true]) := by
  rw [← hG]; exact Prod.ext (propext ⟨fun _ => trivial, fun _ => rfl⟩) rfl
 unfold capsH at g2
 generalize heldB c m l W = s at *
 obtain ⟨E, hE⟩ : ∃ E, E = eCtr c := ⟨_, rfl⟩
 have hEl : E.length = 11 := by rw [hE]; rfl
 have hEr : hasRefL E = false := by rw [hE]; rfl
 have hEv : ∀ H n, E.map (vw H (n + 1)) = E := fun H n => by rw [hE]; rfl
 have hE7 : ∀ H, E.map (vw H 7) = E := fun H => by rw [hE]; rfl
 obtain ⟨B, hB⟩ : ∃ B, bookV c l W = .pa B := ⟨_, rfl⟩
 rw [hB] at g1 g2
 rw [← hE] at g1 g2 ⊢
 have hEt : E.take 11 = E := List.take_of_length_le (by omega)
 have hE11 : 11 ≤ E.length := by omega
 simp only [rc9, rs9, g1, g2, hEl, hEt, hE11, hEr, hE7, hEv, BL, simprocAttr]
structure COw (c : Ctr) (g : Int) : Prop where
 gw : within g 0 99 = true
 rd : Rd2 c (bookL c) (bookW c)
 cw : ∀ ws ∈ bookW c, C38o c g ws (bookL c)
structure CHe (c : Ctr) (m : Int) : Prop where
 gw : within m 0 9999 = true
 rd : Rd2 c (bookL c) (bookW c)
 cw : ∀ ws ∈ bookW c, C23 c m ((List.range 10).map (evS ws (bookL c)))
def eCI (a : Ctr × Int) : List V := [.ag (eCtr a.1), .i a.2]
def dCI : List V → Ctr × Int | [.ag c, .i n] => (dCtr c, n) | _ => (dCtr [], 0)
theorem dCI_e (a : Ctr × Int) : dCI (eCI a) = a := by obtain ⟨c, n⟩ := a; show (dCtr (eCtr c), n) = _; rw [dCtr_e]
def owesC (c : Ctr) (g : Int) : Span := owesB c g (bookL c) (bookW c)
def heldC (c : Ctr) (m : Int) : Span := heldB c m (bookL c) (bookW c)
noncomputable def KW9 : Gam := KW8.ext 18 (fnG eCI dCI (fun a => COw a.1 a.2) (fun a => owesC a.1 a.2) fun s => .tp [.ag (eSpan s), .i 0])
theorem okKW9 : GOk Tryz.prog KW9 := okKW8.ext (f := 18) Tryz.call18 (fnG_ok fun a h => X18 a.1 a.2 _ _ h.gw h.rd h.cw)
theorem w18 (c : Ctr) (g : Int) : KW9 18 [.ag (eCtr c), .i g] = (COw c g, .tp [.ag (eSpan (owesC c g)), .i 0]) := (kx KW9 18 (dCI_e (c, g)) rfl :)
noncomputable def KWA : Gam := KW9.ext 9 (fnG eCI dCI (fun a => CHe a.1 a.2) (fun a => heldC a.1 a.2) fun s => .tp [.ag (eSpan s), .i 0])
theorem okKWA : GOk Tryz.prog KWA := okKW9.ext (f := 9) Tryz.call9 (fnG_ok fun a h => X9 a.1 a.2 _ _ h.gw h.rd h.cw)
theorem w9 (c : Ctr) (m : Int) : KWA 9 [.ag (eCtr c), .i m] = (CHe c m, .tp [.ag (eSpan (heldC c m)), .i 0]) := (kx KWA 9 (dCI_e (c, m)) rfl :)
end Go.CS
set_option maxHeartbeats 4000000
namespace Go.CS.N
open Go.Fam Go.Proofs Go.RowKit Go.Maps Go.Sort Go.Shelf
open Go.WideElems (rg rd)
open Go.WideShapes (sorted_perm)
open Go.C06 (eI)
set_option maxRecDepth 100000 in
set_option maxHeartbeats 2000000 in
theorem keys157 (F : Fence) (n : Nat) (hf : F.fn 47) (hro : F.round = none) (hn : 1 ≤ n) (l Bm off b nn : Nat) (D0 : DataW Unit) {R : Value → Option (DataW Unit × List MemPlace)} (J : List Int → World → Prop)
  (hY : ∀ pre x W, J pre W → pre.length < Maps.size D0 → YieldAt F (n - 1) Tryz.prog l #[encZ x] W fun e W' => e = .returned (.bool true) ∧ J (pre ++ [x]) W' ∧ KeepsWalks W W')
  (W : World) (hJ : AbidesFrom W.heap.size J) (hm : W.cell? ⟨Bm, off, none⟩ = some (.map (some b))) (hown : W.ownsMap Tryz.prog 3 R b nn D0) (h0 : J [] W) :
  CallsIn F n Tryz.prog 47 #[.func (.yield l) #[] #[], .pointer (some ⟨Bm, off, none⟩)] W fun e W' => (∃ v, e = .returned v) ∧ ∃ ss : List Int, ss.Perm (intKeys D0) ∧ J ss W' := by
 refine callsIn_of_wp Tryz.func47 rfl hf ?_ hro
 simp only [Tryz.ntmps47, List.size_toArray, List.length_cons, List.length_nil, Nat.reduceAdd, Nat.reduceSub, Array.replicate_succ, Array.replicate_zero, List.push_toArray, List.append_toArray, List.nil_append, List.cons_append]
 gi_wp2_with (first
  | (gi_at_range; refine wpListIn_range_own _ rfl _ 74 rfl 3 3 (int_keyed Tryz.underlying3) Tryz.underlying74 _ b nn _ rfl hown ?_; intro w0 hrg0 hg0 hs0)
  | gi_in)
 go_frame
 gi_loopw [3] (fun _ wr => ∃ (left : Lit → Bool) (cnt : Nat) (ss : List Int), wr.ranges Tryz.prog 3 R b W.heap.size nn D0 left cnt ∧ ss.length + cnt ≤ Maps.size D0 ∧ CollectedI D0 left ss ∧ J ss wr)
  (fun _ wr => wr.rangeLeft b W.heap.size)
 case atStart =>
  exact ⟨_, _, [], hrg0, by simp, CollectedI.start D0, hJ [] W w0 none h0 hg0 (fun r e => by cases e)⟩
 case round =>
  obtain ⟨left, cnt, ss, hrg, hcs, hC, hJs⟩ := hrel
  gi_wp2_with (first
   | (gi_at_next; refine wpListIn_next_ranges _ rfl _ rfl 3 (int_keyed Tryz.underlying3) R encZ id (fun key kl hk => by obtain ⟨x, hx, _⟩ := Maps.keyOf_i64 Tryz.underlying3 hk; exact ⟨x, hx⟩) (fun v _ _ => ⟨v, rfl⟩) b W.heap.size nn _ _ _ rfl hrg ?_ ?_)
   | gi_in)
  ·intro hc0 hl0
   gi_wp2
   go_end0
   exact ⟨⟨_, rfl⟩, ss, hC.perm hown (int_keyed Tryz.underlying3) Tryz.underlying3 hl0, hJs⟩
  ·intro x c kl yd yp w2 cnt2 hkey hlk hv hat hrg2 hlt hg2 hs2 hen
   obtain ⟨x', ex, rfl, _⟩ := Maps.keyOf_i64 Tryz.underlying3 hkey
   obtain rfl : x = x' := encZ_inj ex
   have hJ2 : J ss w2 := hJ ss wr w2 (some W.heap.size) hJs hg2 (fun r e => by cases e; exact ⟨Nat.le_refl _, hrg.iter_walk⟩)
   obtain ⟨fn, tmps, assign, body, hy, hR⟩ := hY ss x w2 hJ2 (by omega)
   clear hs2
   gi_wp2
   refine hR.mono ?_
   rintro e W3 ⟨rfl, hJ3, hk3⟩
   gi_wp2
   have hrg3 := hrg2.of_walks hk3
   go_roundw
   case rel => exact ⟨_, cnt2, ss ++ [x], hrg3, by simp; omega, hC.step hlk hat, hJ3⟩
   case measure => rw [hrg3.left_eq, hrg.left_eq]; exact hlt
theorem sorts156 (m : Nat) : AnyZI.SortsIn Tryz.prog Tryz.sorted132_ren Fence.wide m :=
  ⟨fun blk off cap ss W hH hblk hsz => callsIn_wide.2 (Tryz.slices_Sort_int blk off cap ss W hH hblk hsz),
   fun p cap W => callsIn_wide.2 (Tryz.slices_Sort_int_none p cap W)⟩
def sortI (l : List Int) : List Int := l.mergeSort fun x y => decide (x ≤ y)
def anyR : Value → Option (DataW Unit × List MemPlace) := fun _ => some (.lit (.bool true), [])
theorem wf_i64 {z : Int} (h : inI z) : (Lit.int .i64 z).wf = true := by
 unfold inI at h
 simp [Lit.wf, IntKind.min, IntKind.max, IntKind.signed, IntKind.bits]
 omega
theorem keyOf_int {z : Int} (h : inI z) : keyOf Tryz.prog 3 (.int .i64 z) = some (.int .i64 z) := by
 simp [keyOf, Tryz.underlying3, mapKey, wf_i64 h]
theorem sorted132 (ks : List (List Int)) (vs : List V) (hl : ks.length ≤ 1000000) (hin : ∀ k ∈ ks, inI (k.headD 0)) : PureCall Tryz.prog 27 [.fn 47 [.pa [.pm false ks vs]]] (.sl 1 ((sortI (ks.map fun k => k.headD 0)).map eI)) := by
 intro S w cargs hS hsz hrep
 obtain ⟨c, hc⟩ : ∃ c, cargs = #[c] := by
  match cargs, hsz with
  | ⟨[c]⟩, _ => exact ⟨c, rfl⟩
 subst hc
 simp only [RepL, Rep, and_true] at hrep
 obtain ⟨ccs, rfl, hn, hrep⟩ := hrep
 obtain ⟨c1, hc1⟩ : ∃ c1, ccs = #[c1] := by
  match ccs, hn with
  | ⟨[c]⟩, _ => exact ⟨c, rfl⟩
 subst hc1
 simp only [RepL, Rep, and_true] at hrep
 obtain ⟨Bm, off, cur, e, fr, rfl, hSB, hheap, hrow⟩ := hrep
 cases hd : cur.toList.drop off with
 | nil => rw [hd] at hrow; exact hrow.elim
 | cons sv rest =>
 rw [hd] at hrow
 obtain ⟨⟨b, es, rfl, hSb, hbh, hME, _, _, hnd, hone⟩, _⟩ := hrow
 have hone := hone rfl
 have hg0 : cur[off]? = some (.map (some b)) := by
  have := congrArg (·[0]?) hd
  simpa using this
 have hc0 : w.cell? ⟨Bm, off, none⟩ = some (.map (some b)) := by
  simp only [World.cell?, hheap, hg0]; rfl
 have hlen : es.size = ks.length := by
  have := congrArg List.length hME.1
  simpa using this
 have hkey : ∀ x ∈ es.toList, ∃ k ∈ ks, x.key = .int .i64 (k.headD 0) := fun x hx => by
  have : x.key ∈ es.toList.map (·.key) := List.mem_map.2 ⟨x, hx, rfl⟩
  rw [hME.1] at this
  obtain ⟨k, hk, e⟩ := List.mem_map.1 this
  exact ⟨k, hk, e.symm⟩
 have hko : ∀ x ∈ es.toList, ∃ k ∈ ks, x.key = .int .i64 (k.headD 0) ∧ keyOf Tryz.prog 3 x.key = some (.int .i64 (k.headD 0)) := fun x hx => by
  obtain ⟨k, hk, e⟩ := hkey x hx
  exact ⟨k, hk, e, by rw [e]; exact keyOf_int (hin k hk)⟩
 have hmx : es.size ≤ maxLen := Nat.le_trans (show es.size ≤ 1000000 by omega) (by decide)
 have hown : w.ownsMap Tryz.prog 3 anyR b es.size (.map ((es.toList.map (rg Tryz.prog 3 anyR)).foldr DataW.insert [])) := by
  refine ⟨es, es.size, hbh, ⟨hmx, ⟨fun x hx => ?_, ?_, ?_⟩, fun x hx => ?_⟩, Nat.le_refl _, rfl⟩
  ·obtain ⟨i, hi⟩ := List.getElem?_of_mem hx
   rw [Array.getElem?_toList] at hi
   rw [hME.2 i x hi]
   exact (Array.getElem?_eq_some_iff.1 hi).1
  ·have : es.toList.map (·.born) = List.range es.size := by
    apply List.ext_getElem?
    intro i
    rw [List.getElem?_map, Array.getElem?_toList]
    by_cases hi : i < es.size
    ·rw [List.getElem?_range hi, Array.getElem?_eq_getElem hi]
     simp only [Option.map_some]
     rw [hME.2 i _ (Array.getElem?_eq_getElem hi)]
    ·rw [List.getElem?_eq_none (by simp; omega), Array.getElem?_eq_none (by omega)]; rfl
   rw [this]; exact List.nodup_range
  ·rw [hME.1]
   refine map_nod (fun a ha b hb e => ?_) hnd
   have h1 := hone a ha
   have h2 := hone b hb
   match a, b, h1, h2 with
   | [x], [y], _, _ =>
    simp only [keyC, Bool.false_eq_true, if_false, List.headD_cons, Value.int.injEq, true_and] at e
    rw [e]
  ·obtain ⟨k, _, _, hk⟩ := hko x hx
   exact ⟨(.int .i64 (k.headD 0), .lit (.bool true)), by unfold Go.WideElems.rd; rw [hk]; rfl⟩
 generalize hD0 : (DataW.map ((es.toList.map (rg Tryz.prog 3 anyR)).foldr DataW.insert []) : DataW Unit) = D0 at hown
 have hik : (intKeys D0).Perm (ks.map fun k => k.headD 0) := by
  rw [← hD0]
  show ((es.toList.map (rg Tryz.prog 3 anyR)).foldr DataW.insert []).map (fun p => Go.intOf p.1) |>.Perm _
  refine ((sorted_perm _).map _).trans ?_
  rw [List.map_map]
  have : es.toList.map ((fun p => Go.intOf p.1) ∘ rg Tryz.prog 3 anyR) = es.toList.map fun x => Go.RowKit.intOf x.key := by
   apply List.map_congr_left
   intro x hx
   obtain ⟨k, hk, e, hko⟩ := hko x hx
   have h1 : Go.WideElems.rg Tryz.prog 3 anyR x = (.int .i64 (k.headD 0), .lit (.bool true)) := by
    unfold Go.WideElems.rg Go.WideElems.rd
    rw [hko]; rfl
   rw [Function.comp_apply, h1, e]; rfl
  rw [this, show (fun x : MapEntry => Go.RowKit.intOf x.key) = Go.RowKit.intOf ∘ (·.key) from rfl, ← List.map_map, hME.1, List.map_map]
  exact List.Perm.of_eq (List.map_congr_left fun k _ => rfl)
 have hsz0 : Maps.size D0 = ks.length := by
  rw [← hD0, size_eq, length_sorted, List.length_map, ← hlen]; simp
 have hbm : Bm < w.heap.size := hS Bm hSB
 have hbl : b < w.heap.size := hS b hSb
 have hseq : SeqGives Fence.wide 2 Tryz.prog 47 #[.pointer (some ⟨Bm, off, none⟩)] encZ (fun ss => ss.Perm (intKeys D0)) (Maps.size D0) w := fun l J W hW hJ hY h0 => by
  obtain ⟨es', clock, hb, Ft, hs, hD⟩ := hown
  exact keys157 Fence.wide 2 trivial rfl (by omega) l Bm off b es.size D0 J hY W hJ ((hW.cell (p := ⟨Bm, off, none⟩) hbm).trans hc0) ⟨es', clock, (hW.block b hbl).trans hb, Ft, hs, hD⟩ h0
 have cS := AnyZI.sorted_in { Tryz.sorted132 with } Fence.wide 5 trivial trivial trivial trivial rfl (by omega) (sorts156 _) (enters_of Tryz.func46 (by kernel_rfl) rfl) 47 #[.pointer (some ⟨Bm, off, none⟩)] trivial (enters_of Tryz.func47 (by kernel_rfl) rfl) _ _ (by rw [hsz0, ← hlen]; exact hmx) (by rw [hsz0]; omega) w hseq
 refine Calls.mono ((callsIn_wide (n := 5)).1 cS) ?_
 rintro e' w' ⟨v, ss, rfl, hperm, hrow, hnil, hbw⟩
 have hsort : sortI (ks.map fun k => k.headD 0) = ss.mergeSort (fun x y => decide (x ≤ y)) := (mergeSort_of_perm_i (hperm.trans hik)).symm
 have hfz : ∀ a, a.block < w.heap.size → w'.frozen? a = w.frozen? a := fun a ha => by
  unfold World.frozen?; rw [hbw.block _ ha]
 refine ⟨v, rfl, ⟨⟨fun k hk => ⟨.inl hk, hbw.block k (hS k hk)⟩, fun _ _ _ h => (by cases h)⟩, hbw.os, hbw.tape, hbw.output, hbw.size, hfz, fun k hk _ => hbw.block k hk, fun k ⟨_, _, h⟩ => (by cases h), fun k hk => ?_⟩, ?_⟩
 ·rcases hk with hk | hk
  ·exact .inl hk
  ·exact .inr (.inr hk.1)
 ·rw [hsort]
  have hsl : (ss.mergeSort fun x y => decide (x ≤ y)).length = ss.length := List.length_mergeSort ss
  generalize (ss.mergeSort fun x y => decide (x ≤ y)) = zs at hrow hsl
  obtain ⟨hxl, hv⟩ := hrow
  simp only [Rep]
  rcases hv with ⟨rfl, h0⟩ | ⟨g, cap, cur', rfl, hg, hgh, h1, h2, h3, h4⟩
  ·have hz : zs = [] := List.eq_nil_of_length_eq_zero (by omega)
   subst hz
   exact ⟨none, 0, rfl, Nat.le_refl _, .inl rfl⟩
  ·refine ⟨some ⟨g, 0, none⟩, cap, by rw [List.length_map, hsl], by rw [List.length_map, hsl]; exact h1, .inr ⟨g, 0, cur', _, (0, 0), rfl, .inr ⟨hg, (Array.getElem?_eq_some_iff.1 hgh).1⟩, hgh, ?_⟩⟩
   rw [List.drop_zero]
   have key : ∀ (zs : List Int) (cs : List Value), zs.length ≤ cs.length → cs.take zs.length = zs.map encZ → RepRows (Sfr S w w') w' 1 (zs.map eI) cs := by
    intro zs
    induction zs with
    | nil => intro cs _ _; exact trivial
    | cons z zs ih =>
     intro cs hl ht
     cases cs with
     | nil => simp at hl
     | cons c cs =>
      simp only [List.length_cons, List.take_succ_cons, List.map_cons, List.cons.injEq] at ht
      obtain ⟨rfl, ht⟩ := ht
      refine ⟨⟨rfl, fun c hc => ?_⟩, ⟨rfl, trivial⟩, ih cs (by simpa using hl) ht⟩
      simp only [List.take_succ_cons, List.take_zero, List.mem_singleton] at hc
      subst hc; rfl
   refine key zs _ ?_ ?_
   ·have : cur'.toList.length = cur'.size := by simp
    omega
   ·rw [hsl]
    rw [Nat.mul_one] at h4
    exact h4
end Go.CS.N
set_option maxHeartbeats 4000000
namespace Go.CS
open Go.Fam Go.Proofs
open Go.C06 (Span eI eIs eSpan gI gR dI dI_eI spanE fnG fnG_ok fnG_at within take_succ_of idxOf idxOf_at idxOf_none idxOf_any flat_len chunk_flat map_vw_rows hasRefL_flat drop_cons chunk_I len_I vw_I noref_I hmix eLI dLI dLI_e ru_countE cutL_noref hasRefL_append upL_noref)
variable {Γ : Gam}
theorem X28 (ks : List (List Int)) (vs : List V) : PureCall Tryz.prog 28 [.pm false ks vs] (.fn 47 [.pa [.pm false ks vs]]) := by
 refine pure_body okKWA hmix Tryz.func28 cb28 cc28 cs28 cn28 ?_
 simp only [rc28, rs28, vw_pm, ↓BU3, BL, simprocAttr]
def mF1 : V := .pm false [[-1]] [.i 1]
noncomputable def KWB : Gam := KWA.ext 28 fun xs => (xs = [mF1], .fn 47 [.pa [mF1]])
theorem okKWB : GOk Tryz.prog KWB := okKWA.ext (f := 28) Tryz.call28 (by rintro xs rfl; exact X28 _ _)
theorem w28 : KWB 28 [.pm false [[-1]] [.i 1]] = (True, .fn 47 [.pa [.pm false [[-1]] [.i 1]]]) := Prod.ext (propext ⟨fun _ => trivial, fun _ => rfl⟩) rfl
noncomputable def KWC : Gam := KWB.ext 27 fun xs => (xs = [.fn 47 [.pa [mF1]]], .sl 1 [[.i (-1)]])
theorem okKWC : GOk Tryz.prog KWC := okKWB.ext (f := 27) Tryz.call27 (by
 rintro xs rfl
 have := N.sorted132 [[-1]] [.i 1] (by decide) (by intro k hk; simp only [List.mem_singleton] at hk; subst hk; unfold inI; decide)
 have e : N.sortI ([[(-1 : Int)]].map fun k => k.headD 0) = [-1] := by
  show ([-1] : List Int).mergeSort (fun a b => decide (a ≤ b)) = _
  exact List.mergeSort_of_pairwise (by decide)
 rw [e] at this
 exact this)
theorem w27 : KWC 27 [.fn 47 [.pa [.pm false [[-1]] [.i 1]]]] = (True, .sl 1 [[.i (-1)]]) := Prod.ext (propext ⟨fun _ => trivial, fun _ => rfl⟩) rfl
set_option maxHeartbeats 4000000 in
theorem X10w (c : Ctr) (u m : Int) (l : List Slip) (ws : List Int) (hu : within u 0 9 = true) (hm : within m 0 9999 = true) (h : Rd2 c l [ws]) (hC : C24 (ws, (List.range 10).map (evS ws l), u, m)) (hn : (withN (((List.range 10).map (evS ws l)).getD u.toNat []) m).2 = false) :
  PureCall Tryz.prog 10 [.ag (eCtr c), .i u, .i m] (.tp [.sl 1 [[.i (-1)]], .i 0]) := by
 have r0 := RD25 c l [ws] u m h hu hm
 have k1 : GOk Tryz.prog (KWC.ext 19 fun xs => (xs = [.ag (eCtr c), .fn 25 [.pa [.i u], .pa [.i m]]], .tp [bookV c l [ws], .i 0])) := okKWC.ext (f := 19) Tryz.call19 (by rintro xs rfl; exact r0)
 refine pure_body k1 hmix Tryz.func10 cb10 cc10 cs10 cn10 ?_
 generalize hG : (KWC.ext 19 fun xs => (xs = [V.ag (eCtr c), V.fn 25 [V.pa [V.i u], V.pa [V.i m]]], V.tp [bookV c l [ws], V.i 0])) = G
 have g1 : G 19 [.ag (eCtr c), .fn 25 [.pa [.i u], .pa [.i m]]] = (True, .tp [bookV c l [ws], .i 0]) := by
  rw [← hG]; exact Prod.ext (propext ⟨fun _ => trivial, fun _ => rfl⟩) rfl
 have g2 : G 24 [truthV ws l, .i u, .i m] = KWC 24 [truthV ws l, .i u, .i m] := by rw [← hG]; rfl
 rw [lft KWC (w24 ws l u m) rfl] at g2
 have g3 : G 28 [.pm false [[-1]] [.i 1]] = KWC 28 [.pm false [[-1]] [.i 1]] := by rw [← hG]; rfl
 rw [lft KWC w28 rfl] at g3
 have g4 : G 27 [.fn 47 [.pa [.pm false [[-1]] [.i 1]]]] = KWC 27 [.fn 47 [.pa [.pm false [[-1]] [.i 1]]]] := by rw [← hG]; rfl
 rw [w27] at g4
 clear hG
 generalize withN (((List.range 10).map (evS ws l)).getD u.toNat []) m = r at *
 obtain ⟨⟨⟨a1, a2, a3, a4, a5, a6⟩, a7⟩, b⟩ := r
 simp only at hn
 subst hn
 obtain ⟨E, hE⟩ : ∃ E, E = eCtr c := ⟨_, rfl⟩
 have hEl : E.length = 11 := by rw [hE]; rfl
 have hEr : hasRefL E = false := by rw [hE]; rfl
 have hEv : ∀ H n, E.map (vw H (n + 1)) = E := fun H n => by rw [hE]; rfl
 have hE7 : ∀ H, E.map (vw H 7) = E := fun H => by rw [hE]; rfl
 have hB : bookV c l [ws] = .pa (E ++ [.sl 6 (l.map eSlip), .sl 1 [[truthV ws l]]]) := by rw [hE]; rfl
 obtain ⟨T, hT⟩ : ∃ T, truthV ws l = .pa T := ⟨_, rfl⟩
 rw [hB] at g1
 rw [hT] at g1 g2
 rw [← hE] at g1 ⊢
 have hEt : E.take 11 = E := List.take_of_length_le (by omega)
 have hE11 : 11 ≤ E.length := by omega
 have hd12 : ∀ a b : V, (E ++ [a, b]).drop 12 = [b] := fun a b => by rw [List.drop_append, hEl, List.drop_of_length_le (by omega)]; rfl
 have hd12l : ∀ a b : V, (E ++ [a, b]).length = 13 := fun a b => by rw [List.length_append, hEl]; rfl
 simp only [rc10, rs10, g1, hEl, hEt, hE11, hEr, hE7, hEv, hd12, hd12l, ↓BU3, BL, simprocAttr]
 refine ru_count 1 (fun k => ⟨lkp [(4, .pa [.i u]), (5, .pa [.i m]), (10, .mp 0 0), (28, .sl 1 [[.pa T]]), (29, .i 1), (30, .i k)], [.map false (List.replicate k [-1]) (List.replicate k (.i 1))]⟩) ?_ ?_ ?_
 ·simp only [Int.natCast_zero, BL, simprocAttr]
 ·intro k hk
  obtain rfl : k = 0 := by omega
  have i1 : inI 1 := by unfold inI; decide
  simp only [g2, hC, i1, eEv, Int.natCast_zero, ↓BU3, BL, simprocAttr]
  rfl
 ·have hv : vw (hpF 0 [Blk.map false [[-1]] [V.i 1]]) 8 (V.mp 0 0) = .pm false [[-1]] [.i 1] := rfl
  have hv2 : vw [] 8 (V.pm false [[-1]] [V.i 1]) = .pm false [[-1]] [.i 1] := rfl
  have hv3 : vw [] 8 (V.fn 47 [V.pa [.pm false [[-1]] [V.i 1]]]) = .fn 47 [.pa [.pm false [[-1]] [.i 1]]] := rfl
  simp only [g3, g4, hv, hv2, hv3, ↓BU3, BL, simprocAttr]
structure CWh (c : Ctr) (u m : Int) : Prop where
 gu : within u 0 9 = true
 gm : within m 0 9999 = true
 w1 : bookW c = [(bookW c).headD []]
 rd : Rd2 c (bookL c) (bookW c)
 c24 : C24 ((bookW c).headD [], (List.range 10).map (evS ((bookW c).headD []) (bookL c)), u, m)
 wn : (withN (((List.range 10).map (evS ((bookW c).headD []) (bookL c))).getD u.toNat []) m).2 = false
def eCII (a : Ctr × Int × Int) : List V := [.ag (eCtr a.1), .i a.2.1, .i a.2.2]
def dCII : List V → Ctr × Int × Int | [.ag c, .i n, .i m] => (dCtr c, n, m) | _ => (dCtr [], 0, 0)
theorem dCII_e (a : Ctr × Int × Int) : dCII (eCII a) = a := by obtain ⟨c, n, m⟩ := a; show (dCtr (eCtr c), n, m) = _; rw [dCtr_e]
noncomputable def KWD : Gam := KWC.ext 10 (fnG eCII dCII (fun a => CWh a.1 a.2.1 a.2.2) (fun _ => ()) fun _ => .tp [.sl 1 [[.i (-1)]], .i 0])
theorem okKWD : GOk Tryz.prog KWD := okKWC.ext (f := 10) Tryz.call10 (fnG_ok fun a h => X10w a.1 a.2.1 a.2.2 _ _ h.gu h.gm (by rw [← h.w1]; exact h.rd) h.c24 h.wn)
theorem w10 (c : Ctr) (u m : Int) : KWD 10 [.ag (eCtr c), .i u, .i m] = (CWh c u m, .tp [.sl 1 [[.i (-1)]], .i 0]) := (kx KWD 10 (dCII_e (c, u, m)) rfl :)
end Go.CS
set_option maxHeartbeats 4000000
namespace Go.CS
open Go.Fam Go.Proofs
open Go.C06 (Span eI eIs eSpan gI gR dI dI_eI spanE fnG fnG_ok fnG_at within take_succ_of idxOf idxOf_at idxOf_none idxOf_any flat_len chunk_flat map_vw_rows hasRefL_flat drop_cons chunk_I len_I vw_I noref_I hmix eLI dLI dLI_e ru_countE cutL_noref hasRefL_append upL_noref)
variable {Γ : Gam}
namespace S
def eCan (l : List Int) : List V := [.sl 1 (l.map eI)]
theorem chunk_C (l : List (List Int)) : chunk 1 ((l.map eCan).flatten) 0 l.length = l.map eCan := chunk_flat (e := eCan) (k := 1) (fun _ => rfl) l
theorem len_C (l : List (List Int)) : ((l.map eCan).flatten).length = l.length * 1 := flat_len (e := eCan) (k := 1) (fun _ => rfl) l
theorem vw_C (hp : List Blk) (n : Nat) (l : List (List Int)) : (l.map eCan).map (fun r => r.map (vw hp (n + 1))) = l.map eCan := map_vw_rows (e := eCan) hp (n + 1) (fun _ => rfl) l
def atN (t : List Int) (n : Int) : Int := t[n.toNat]?.getD 0
structure IsTak (g : Int) (t : List Int) : Prop where
 len : t.length = g.toNat
 in_ : ∀ x ∈ t, 0 ≤ x ∧ x ≤ g - 1
 nodup : t.Nodup
def takB (t : List Int) : Bool := decide (t.length ≤ 7) && (List.range t.length).all fun i => within (t[i]?.getD 0) 0 (t.length - 1) && !decide (t[i]?.getD 0 ∈ t.take i)
def takE (t : List Int) : Int := if takB t = true then 0 else 1
theorem nodup_take {t : List Int} : (∀ i : Nat, i < t.length → t[i]?.getD 0 ∉ t.take i) ↔ t.Nodup := by
 rw [List.nodup_iff_pairwise_ne, List.pairwise_iff_getElem]
 constructor
 ·intro h i j hi hj hij e
  refine h j hj ?_
  rw [List.getElem?_eq_getElem hj, Option.getD_some, ← e]
  exact List.mem_take_iff_getElem.2 ⟨i, by omega, rfl⟩
 ·intro h j hj hm
  rw [List.getElem?_eq_getElem hj, Option.getD_some] at hm
  obtain ⟨i, hi, e⟩ := List.mem_take_iff_getElem.1 hm
  exact h i j (by omega) hj (by omega) e
theorem takB_iff (t : List Int) : takB t = true ↔ t.length ≤ 7 ∧ IsTak t.length t := by
 unfold takB within
 simp only [Bool.and_eq_true, decide_eq_true_eq, List.all_eq_true, List.mem_range, Bool.not_eq_true', decide_eq_false_iff_not]
 constructor
 ·rintro ⟨h1, h2⟩
  refine ⟨h1, by simp, fun x hx => ?_, nodup_take.1 fun i hi => (h2 i hi).2⟩
  obtain ⟨i, hi, rfl⟩ := List.mem_iff_getElem.1 hx
  have := (h2 i hi).1
  rw [List.getElem?_eq_getElem hi] at this
  exact this
 ·rintro ⟨h1, h2, h3, h4⟩
  refine ⟨h1, fun i hi => ⟨?_, nodup_take.2 h4 i hi⟩⟩
  rw [List.getElem?_eq_getElem hi]
  exact h3 _ (List.getElem_mem hi)
theorem W34 (n lo hi : Int) : PureCall Tryz.prog 34 [.i n, .i lo, .i hi] (.b (within n lo hi)) := by
 refine pure_body okKWD hmix Tryz.func34 cb34 cc34 cs34 cn34 ?_
 unfold within
 by_cases e : lo ≤ n
 ·simp only [rc34, rs34, e, BL, simprocAttr]
 ·simp only [rc34, rs34, e, BL, simprocAttr]
noncomputable def KX1 : Gam := KWD.ext 34 (fnG eWi dWi (fun _ => True) (fun a => within a.1 a.2.1 a.2.2) (.b))
theorem okKX1 : GOk Tryz.prog KX1 := okKWD.ext (f := 34) Tryz.call34 (fnG_ok fun a h => W34 a.1 a.2.1 a.2.2)
theorem q34 (n lo hi : Int) : KX1 34 [.i n, .i lo, .i hi] = (True, .b (within n lo hi)) := (kx KX1 34 (show dWi (eWi (n, lo, hi)) = (n, lo, hi) from rfl) rfl :)
theorem q35 (l : List Int) (n : Int) : KX1 35 [.sl 1 (l.map eI), .i n] = (l.length < 10000000, .b (decide (n ∈ l))) := lft KX1 (K93h84 l n) rfl
theorem W54 (t : List Int) (h : t.length ≤ 1000000) : PureCall Tryz.prog 15 [.sl 1 (t.map eI)] (.i (takE t)) := by
 refine pure_body okKX1 hmix Tryz.func15 cb15 cc15 cs15 cn15 ?_
 by_cases h7 : (7 : Int) < t.length
 ·have e : takE t = 1 := by
   unfold takE takB
   rw [if_neg]
   simp only [Bool.and_eq_true, decide_eq_true_eq, not_and]
   intro h2; omega
  simp only [rc15, rs15, h7, e, BL, simprocAttr]
 ·simp only [rc15, rs15, h7, BL, simprocAttr]
  refine ru_countC t.length (fun i => ⟨lkp [(0, .sl 1 (t.map eI)), (8, .sl 1 (t.map eI)), (9, .i t.length), (10, .i i)], []⟩) (fun i => ∀ j : Nat, j < i → (within (t[j]?.getD 0) 0 (t.length - 1) && !decide (t[j]?.getD 0 ∈ t.take j)) = true) ?_ ?_ ?_ ?_
  ·simp only [Int.natCast_zero, BL, simprocAttr]
  ·intro j hj; omega
  ·intro i hi hc
   obtain ⟨x, hx⟩ : ∃ x, t[i]? = some x := ⟨_, List.getElem?_eq_getElem hi⟩
   have hlt : (i : Int) < t.length := by omega
   have h3 : inI ((i : Int) + 1) ∧ inI ((t.length : Int) - 1) := by unfold inI; omega
   have hle : (i : Int) ≤ t.length := by omega
   have g1 := q34 x 0 (t.length - 1)
   have g2 := q35 (t.take i) x
   have htl : (t.take i).length < 10000000 := by rw [List.length_take]; omega
   have hmt : List.take i (t.map eI) = (t.take i).map eI := by rw [List.map_take]
   have bad : (within x 0 (t.length - 1) && !decide (x ∈ t.take i)) = false → takE t = 1 := fun e => by
    unfold takE
    rw [if_neg]
    unfold takB
    rw [Bool.and_eq_true, List.all_eq_true]
    rintro ⟨_, h⟩
    have := h i (List.mem_range.2 hi)
    rw [hx, Option.getD_some, e] at this
    cases this
   have good : (within x 0 (t.length - 1) && !decide (x ∈ t.take i)) = true → ∀ j : Nat, j < i + 1 → (within (t[j]?.getD 0) 0 (t.length - 1) && !decide (t[j]?.getD 0 ∈ t.take j)) = true := fun e j hj => by
    by_cases hji : j < i
    ·exact hc j hji
    ·have : j = i := by omega
     subst this
     rw [hx, Option.getD_some]; exact e
   by_cases hw : within x 0 (t.length - 1) = true
   ·by_cases hm : x ∈ t.take i
    ·simp only [hx, hlt, h3, hle, g1, g2, htl, hmt, hw, hm, BL, simprocAttr]
     exact (bad (by simp [hm])).symm
    ·simp only [hx, hlt, h3, hle, g1, g2, htl, hmt, hw, hm, Int.natCast_add, Int.natCast_one, BL, simprocAttr]
     exact good (by simp [hw, hm])
   ·simp only [hx, hlt, h3, hle, g1, hw, BL, simprocAttr]
    exact (bad (by simp [hw])).symm
  ·intro hc
   have hlt : ¬ ((t.length : Int) < t.length) := by omega
   have e : takE t = 0 := by
    unfold takE
    rw [if_pos]
    unfold takB
    rw [Bool.and_eq_true, List.all_eq_true, decide_eq_true_eq]
    exact ⟨by omega, fun i hi => hc i (List.mem_range.1 hi)⟩
   simp only [hlt, e, BL, simprocAttr]
def eL0 (l : List Int) : List V := [.sl 1 (l.map eI)]
def dL0 : List V → List Int | [.sl _ l] => l.map dI | _ => []
theorem dL0_e (l : List Int) : dL0 (eL0 l) = l := by show (l.map eI).map dI = l; rw [List.map_map, show dI ∘ eI = id from funext dI_eI, List.map_id]
noncomputable def KX2 : Gam := KX1.ext 15 (fnG eL0 dL0 (fun t => t.length ≤ 1000000) takE .i)
theorem okKX2 : GOk Tryz.prog KX2 := okKX1.ext (f := 15) Tryz.call15 (fnG_ok fun a h => W54 a h)
def pairN (a b : Int) : List Int := [min a b, max a b]
theorem W56 (a b : Int) : PureCall Tryz.prog 17 [.i a, .i b] (.sl 1 ((pairN a b).map eI)) := by
 refine pure_body okKX2 hmix Tryz.func17 cb17 cc17 cs17 cn17 ?_
 have hck : ∀ x y : V, chunk 1 [x, y] 0 2 = [[x], [y]] := fun _ _ => rfl
 simp only [rc17, rs17, pairN, List.flatten_cons, List.flatten_nil, hck, BL, simprocAttr]
def eP0 (a : Int × Int) : List V := [.i a.1, .i a.2]
def dP0 : List V → Int × Int | [.i a, .i b] => (a, b) | _ => (0, 0)
noncomputable def KX3 : Gam := KX2.ext 17 (fnG eP0 dP0 (fun _ => True) (fun a => pairN a.1 a.2) fun l => .sl 1 (l.map eI))
theorem okKX3 : GOk Tryz.prog KX3 := okKX2.ext (f := 17) Tryz.call17 (fnG_ok fun a _ => W56 a.1 a.2)
theorem atN_in {n : Nat} {t : List Int} (h : IsTak n t) {x : Int} (hx : 0 ≤ x ∧ x < n) : t[x.toNat]? = some (atN t x) ∧ 0 ≤ atN t x ∧ atN t x < n := by
 have hl := h.len
 rw [Int.toNat_natCast] at hl
 have hlt : x.toNat < t.length := by omega
 have e : atN t x = t[x.toNat] := by unfold atN; rw [List.getElem?_eq_getElem hlt]; rfl
 have := h.in_ _ (List.getElem_mem hlt)
 rw [e]
 exact ⟨List.getElem?_eq_getElem hlt, by omega⟩
theorem takE_cases (t : List Int) : takE t = 0 ∨ takE t = 1 := by unfold takE; split <;> simp
theorem W59 (l : List Int) (h : l.length ≤ 1000000) : OwnCall Tryz.prog 16 [.sl 1 (l.map eI)] (.rf 0 1 0 l.length 1) [.cells 1 (l.map eI).flatten] := by
 refine own_body okKX3 hmix Tryz.func16 cb16 cc16 cs16 cn16 ?_
 simp only [rc16, rs16, BL, simprocAttr]
 refine fun b hb => ⟨fun e => ?_, fun e => ?_⟩
 ·have hl : l = [] := by
   cases l with
   | nil => rfl
   | cons x l => exact absurd (hb (by simp)) (by rw [e]; simp)
  subst hl
  simp only [List.flatten_nil, BL, simprocAttr]
 ·have h1 : fitsLen l.length := by unfold fitsLen; omega
  simp only [h1, List.flatten_nil, BL, simprocAttr]
noncomputable def KX4 : Gam := KX3.ext 1000016 (fnG eL0 dL0 (fun l => l.length ≤ 1000000) (fun l => l) fun l => .tp [.rf 0 1 0 l.length 1, .tp [bV (.cells 1 (l.map eI).flatten)]])
theorem okKX4 : GOk Tryz.prog KX4 := okKX3.extO (f := 16) (r := fnG eL0 dL0 (fun l => l.length ≤ 1000000) (fun l => l) fun l => .tp [.rf 0 1 0 l.length 1, .tp [bV (.cells 1 (l.map eI).flatten)]]) (fun a w => Tryz.call16 a w) fun vs v bs h1 h2 => by
  simp only [fnG, V.tp.injEq, List.cons.injEq, and_true] at h1 h2
  obtain ⟨h3, h4⟩ := h2
  rw [← h1.1, ← h3, ← h4]
  simp only [List.map_cons, List.map_nil, vB_cells]
  exact W59 _ h1.2
theorem q16 (l : List Int) : KX4 1000016 [.sl 1 (l.map eI)] = (l.length ≤ 1000000, .tp [.rf 0 1 0 l.length 1, .tp [bV (.cells 1 (l.map eI).flatten)]]) :=
 (show KX4 1000016 _ = fnG eL0 dL0 (fun l => l.length ≤ 1000000) (fun l => l) (fun l => .tp [.rf 0 1 0 l.length 1, .tp [bV (.cells 1 (l.map eI).flatten)]]) (eL0 l) from rfl).trans (fnG_at _ (dL0_e _))
theorem q15 (t : List Int) : KX4 15 [.sl 1 (t.map eI)] = (t.length ≤ 1000000, .i (takE t)) := lft KX4 (kx KX2 15 (dL0_e t) rfl) rfl
theorem q17 (a b : Int) : KX4 17 [.i a, .i b] = (True, .sl 1 ((pairN a b).map eI)) := lft KX4 (kx KX3 17 (show dP0 (eP0 (a, b)) = (a, b) from rfl) rfl) rfl
def swapL (t : List Int) (a b : Int) : List Int := (t.set a.toNat (atN t b)).set b.toNat (atN t a)
theorem swap_len (t : List Int) (a b : Int) : (swapL t a b).length = t.length := by simp [swapL]
theorem swap_at {t : List Int} {a b : Int} (ha : 0 ≤ a ∧ a < t.length) (hb : 0 ≤ b ∧ b < t.length) (i : Nat) : atN (swapL t a b) i = if (i : Int) = b then atN t a else if (i : Int) = a then atN t b else atN t i := by
 unfold swapL
 conv => lhs; unfold atN
 rw [Int.toNat_natCast]
 by_cases h1 : (i : Int) = b
 ·rw [if_pos h1, show b.toNat = i by omega, List.getElem?_set_self (by simp; omega)]; rfl
 ·rw [if_neg h1, List.getElem?_set_ne (by omega)]
  by_cases h2 : (i : Int) = a
  ·rw [if_pos h2, show a.toNat = i by omega, List.getElem?_set_self (by omega)]; rfl
  ·rw [if_neg h2, List.getElem?_set_ne (by omega)]
   unfold atN; rw [Int.toNat_natCast]
theorem tak_inj {n : Nat} {t : List Int} (h : IsTak n t) {i j : Nat} (hi : i < n) (hj : j < n) (e : atN t i = atN t j) : i = j := by
 have hl := h.len
 rw [Int.toNat_natCast] at hl
 refine Classical.byContradiction fun hij => ?_
 have hp := List.pairwise_iff_getElem.1 (List.nodup_iff_pairwise_ne.1 h.nodup)
 have get : ∀ {k : Nat} (hk : k < t.length), atN t (k : Int) = t[k] := fun {k} hk => by
  unfold atN; rw [Int.toNat_natCast, List.getElem?_eq_getElem hk]; rfl
 rw [get (by omega), get (by omega)] at e
 rcases Nat.lt_or_gt_of_ne hij with h1 | h1
 ·exact hp i j (by omega) (by omega) h1 e
 ·exact hp j i (by omega) (by omega) h1 e.symm
theorem tak_of {n : Nat} {t : List Int} (hl : t.length = n) (hin : ∀ i : Nat, i < n → 0 ≤ atN t i ∧ atN t i < n) (hinj : ∀ i j : Nat, i < n → j < n → atN t i = atN t j → i = j) : IsTak n t := by
 have get : ∀ {k : Nat} (hk : k < t.length), atN t (k : Int) = t[k] := fun {k} hk => by
  unfold atN; rw [Int.toNat_natCast, List.getElem?_eq_getElem hk]; rfl
 refine ⟨by simpa using hl, fun x hx => ?_, ?_⟩
 ·obtain ⟨i, hi, rfl⟩ := List.mem_iff_getElem.1 hx
  have := hin i (by omega)
  rw [get hi] at this; omega
 ·rw [List.nodup_iff_pairwise_ne, List.pairwise_iff_getElem]
  intro i j hi hj hij e
  have := hinj i j (by omega) (by omega) (by rw [get hi, get hj]; exact e)
  omega
theorem swap_tak {n : Nat} {t : List Int} (h : IsTak n t) {a b : Int} (ha : 0 ≤ a ∧ a < n) (hb : 0 ≤ b ∧ b < n) : IsTak n (swapL t a b) := by
 have hl := h.len
 rw [Int.toNat_natCast] at hl
 have hsw := swap_at (t := t) (a := a) (b := b) (by omega) (by omega)
 refine tak_of (by rw [swap_len]; exact hl) (fun i hi => ?_) (fun i j hi hj e => ?_)
 ·rw [hsw]
  split
  ·exact (atN_in h ha).2
  ·split
   ·exact (atN_in h hb).2
   ·exact (atN_in h (by omega)).2
 ·rw [hsw, hsw] at e
  have key : ∀ x y : Int, 0 ≤ x ∧ x < n → 0 ≤ y ∧ y < n → atN t x = atN t y → x = y := fun x y hx hy e => by
   have h1 : ((x.toNat : Nat) : Int) = x := by omega
   have h2 : ((y.toNat : Nat) : Int) = y := by omega
   have := tak_inj h (i := x.toNat) (j := y.toNat) (by omega) (by omega) (by rw [h1, h2]; exact e)
   omega
  by_cases i1 : (i : Int) = b
  ·rw [if_pos i1] at e
   by_cases j1 : (j : Int) = b
   ·omega
   ·rw [if_neg j1] at e
    by_cases j2 : (j : Int) = a
    ·rw [if_pos j2] at e; have := key _ _ ha hb e; omega
    ·rw [if_neg j2] at e; have := key _ _ ha (by omega) e; omega
  ·rw [if_neg i1] at e
   by_cases i2 : (i : Int) = a
   ·rw [if_pos i2] at e
    by_cases j1 : (j : Int) = b
    ·rw [if_pos j1] at e; have := key _ _ hb ha e; omega
    ·rw [if_neg j1] at e
     by_cases j2 : (j : Int) = a
     ·omega
     ·rw [if_neg j2] at e; have := key _ _ hb (by omega) e; omega
   ·rw [if_neg i2] at e
    by_cases j1 : (j : Int) = b
    ·rw [if_pos j1] at e; have := key _ _ (by omega) ha e; omega
    ·rw [if_neg j1] at e
     by_cases j2 : (j : Int) = a
     ·rw [if_pos j2] at e; have := key _ _ (by omega) hb e; omega
     ·rw [if_neg j2] at e; have := key _ _ (by omega) (by omega) e; omega
def mis (t : List Int) : Nat := (List.range t.length).countP fun (i : Nat) => decide (atN t i ≠ i)
theorem countP_lt {p q : Nat → Bool} : ∀ (l : List Nat), (∀ x ∈ l, q x = true → p x = true) → (∃ x ∈ l, p x = true ∧ q x = false) → l.countP q < l.countP p
 | [], _, h => by obtain ⟨x, hx, _⟩ := h; cases hx
 | y :: l, h1, h2 => by
  have hle : l.countP q ≤ l.countP p := List.countP_mono_left fun x hx => h1 x (by simp [hx])
  obtain ⟨x, hx, h3, h4⟩ := h2
  rw [List.countP_cons, List.countP_cons]
  rcases List.mem_cons.1 hx with rfl | hx
  ·rw [h3, h4]; simp; omega
  ·have := countP_lt l (fun x hx => h1 x (by simp [hx])) ⟨x, hx, h3, h4⟩
   have := h1 y (by simp)
   cases hq : q y <;> cases hp : p y <;> simp_all <;> omega
theorem mis_lt {n : Nat} {t : List Int} (h : IsTak n t) {g : Int} (hg : 0 ≤ g ∧ g < n) (hne : atN t g ≠ g) : mis (swapL t g (atN t g)) < mis t := by
 have hl := h.len
 rw [Int.toNat_natCast] at hl
 obtain ⟨o, ho⟩ : ∃ o, o = atN t g := ⟨_, rfl⟩
 have hoi := (atN_in h hg).2
 rw [← ho] at hoi hne ⊢
 have hsw := swap_at (t := t) (a := g) (b := o) (by omega) (by omega)
 unfold mis
 rw [swap_len]
 have key : ∀ x y : Int, 0 ≤ x ∧ x < n → 0 ≤ y ∧ y < n → atN t x = atN t y → x = y := fun x y hx hy e => by
  have h1 : ((x.toNat : Nat) : Int) = x := by omega
  have h2 : ((y.toNat : Nat) : Int) = y := by omega
  have := tak_inj h (i := x.toNat) (j := y.toNat) (by omega) (by omega) (by rw [h1, h2]; exact e)
  omega
 have hoo : atN t o ≠ o := fun e => by
  have := key o g hoi hg (e.trans ho)
  omega
 have hoN : ((o.toNat : Nat) : Int) = o := by omega
 have hgN : ((g.toNat : Nat) : Int) = g := by omega
 refine countP_lt _ (fun x hx hq => ?_) ⟨o.toNat, List.mem_range.2 (by omega), ?_, ?_⟩
 ·rw [decide_eq_true_eq] at hq ⊢
  rw [hsw] at hq
  by_cases h1 : (x : Int) = o
  ·rw [h1]; exact hoo
  ·rw [if_neg h1] at hq
   by_cases h2 : (x : Int) = g
   ·rw [h2, ← ho]; exact hne
   ·rw [if_neg h2] at hq; exact hq
 ·rw [decide_eq_true_eq, hoN]; exact hoo
 ·rw [decide_eq_false_iff_not, Classical.not_not, hsw, if_pos hoN, ← ho, hoN]
theorem mis_le (t : List Int) : mis t ≤ t.length := by
 unfold mis
 exact Nat.le_trans List.countP_le_length (by rw [List.length_range]; exact Nat.le_refl _)
def fixG : Nat → Int → List Int → List Int × List (List Int)
 | 0, _, t => (t, [])
 | k + 1, g, t => if atN t g = g then (t, []) else ((fixG k g (swapL t g (atN t g))).1, pairN g (atN t g) :: (fixG k g (swapL t g (atN t g))).2)
theorem fix_spec {n : Nat} : ∀ (k : Nat) (g : Int) (t : List Int), IsTak n t → 0 ≤ g ∧ g < n → IsTak n (fixG k g t).1 ∧ (fixG k g t).2.length + mis (fixG k g t).1 ≤ mis t
 | 0, g, t, h, _ => ⟨h, by simp [fixG]⟩
 | k + 1, g, t, h, hg => by
  rw [fixG]
  by_cases e : atN t g = g
  ·rw [if_pos e]; exact ⟨h, by simp⟩
  ·rw [if_neg e]
   obtain ⟨h1, h2⟩ := fix_spec k g (swapL t g (atN t g)) (swap_tak h hg (atN_in h hg).2) hg
   have := mis_lt h hg e
   exact ⟨h1, by simp only [List.length_cons]; omega⟩
def exS (t : List Int) : Nat → List Int × List (List Int)
 | 0 => (t, [])
 | i + 1 => ((fixG t.length i (exS t i).1).1, (exS t i).2 ++ (fixG t.length i (exS t i).1).2)
theorem ex_spec {t : List Int} (h : IsTak t.length t) : ∀ i : Nat, i ≤ t.length → IsTak t.length (exS t i).1 ∧ (exS t i).2.length + mis (exS t i).1 ≤ mis t
 | 0, _ => ⟨h, by simp [exS]⟩
 | i + 1, hi => by
  obtain ⟨h1, h2⟩ := ex_spec h i (by omega)
  obtain ⟨h3, h4⟩ := fix_spec t.length i _ h1 (by omega)
  rw [exS]
  exact ⟨h3, by simp only [List.length_append]; omega⟩
def exchR (t : List Int) : List (List Int) × Int := if takE t = 0 then ((exS t t.length).2, 0) else ([], 1)
theorem set_flat (l : List Int) (i : Nat) (x : Int) (h : i < l.length) : putAt i [V.i x] (l.map eI).flatten = ((l.set i x).map eI).flatten := by
 have e : ∀ l : List Int, (l.map eI).flatten = l.map V.i := fun l => by induction l with | nil => rfl | cons a l ih => simp [eI, ih]
 rw [putAt_set _ _ _ (by rw [e, List.length_map]; exact h), e, e, List.map_set]
theorem flat_get (l : List Int) (i : Nat) : (l.map eI).flatten[i]? = (l[i]?).map V.i := by
 have e : ∀ l : List Int, (l.map eI).flatten = l.map V.i := fun l => by induction l with | nil => rfl | cons a l ih => simp [eI, ih]
 rw [e, List.getElem?_map]
theorem drop_flat {l : List Int} {i : Nat} {x : Int} (h : l[i]? = some x) : (List.drop i (l.map eI).flatten).headD .u = .i x := by
 have hf := flat_get l i
 rw [h, Option.map_some] at hf
 have hi := getElemLt hf
 rw [List.drop_eq_getElem_cons hi]
 rw [List.getElem?_eq_getElem hi] at hf
 exact Option.some.inj hf
set_option maxHeartbeats 2000000 in
theorem W27 (t : List Int) (h : t.length ≤ 1000000) : PureCall Tryz.prog 6 [.sl 1 (t.map eI)] (.tp [.sl 1 ((exchR t).1.map eCan), .i (exchR t).2]) := by
 refine pure_body okKX4 hmix Tryz.func6 cb6 cc6 cs6 cn6 ?_
 have g1 := q15 t
 by_cases h0 : takE t = 0
 ·have hB : takB t = true := by unfold takE at h0; split at h0 <;> first | assumption | cases h0
  obtain ⟨h7, hT⟩ := (takB_iff t).1 hB
  have g2 := q16 t
  simp only [rc6, rs6, g1, h, h0, g2, shL_noref _ _ (noref_I _), BL, simprocAttr]
  refine ru_count t.length (fun i => ⟨lkp [(5, .rf 0 1 0 t.length 1), (6, .rf 1 (exS t i).2.length 0 (exS t i).2.length 1), (17, .i t.length), (18, .i i)], [.cells 1 ((exS t i).1.map eI).flatten, .cells (exS t i).2.length ((exS t i).2.map eCan).flatten]⟩) ?_ ?_ ?_
  ·have e0 : exS t 0 = (t, []) := rfl
   simp only [Int.natCast_zero, e0, List.flatten_nil, BL, simprocAttr]
  ·intro i hi
   have hlt : (i : Int) < t.length := by omega
   obtain ⟨hE, hE2⟩ := ex_spec hT i (by omega)
   have hml := mis_le t
   obtain ⟨T0, hT0⟩ : ∃ s, s = (exS t i).1 := ⟨_, rfl⟩
   obtain ⟨out, hout⟩ : ∃ s, s = (exS t i).2 := ⟨_, rfl⟩
   obtain ⟨F, hF⟩ : ∃ F, F = fixG t.length i T0 := ⟨_, rfl⟩
   have hst : exS t (i + 1) = (F.1, out ++ F.2) := by rw [exS, ← hT0, ← hout, ← hF]
   rw [← hT0] at hE hE2
   rw [← hout] at hE2
   rw [hst, ← hT0, ← hout]
   have h3 : inI ((i : Int) + 1) := by unfold inI; omega
   have hi1 : i + 1 ≤ t.length := hi
   simp only [hlt, BL, simprocAttr]
   refine ru_loop (fun k σ => ∃ (T : List Int) (o2 : List (List Int)) (f : Nat), k = mis T ∧ IsTak t.length T ∧ mis T ≤ f ∧ o2.length + mis T ≤ t.length ∧ (fixG f i T).1 = F.1 ∧ o2 ++ (fixG f i T).2 = out ++ F.2 ∧
    σ = ⟨lkp [(5, .rf 0 1 0 t.length 1), (6, .rf 1 o2.length 0 o2.length 1), (7, .i i), (17, .i t.length), (18, .i i)], [.cells 1 (T.map eI).flatten, .cells o2.length (o2.map eCan).flatten]⟩) ?_ ?_
   ·refine ⟨_, T0, out, t.length, rfl, hE, ?_, by omega, by rw [hF], by rw [hF], ?_⟩
    ·have := mis_le T0
     have hl := hE.len
     rw [Int.toNat_natCast] at hl
     omega
    ·simp only [BL, simprocAttr]
   ·rintro k σ ⟨T, o2, f, rfl, hTT, hf, ho2, hF1, hF2, rfl⟩
    have hTl := hTT.len
    rw [Int.toNat_natCast] at hTl
    obtain ⟨hat, ha1⟩ := atN_in hTT (x := i) (by omega)
    rw [Int.toNat_natCast] at hat
    have hfg := flat_get T i
    rw [hat, Option.map_some] at hfg
    have hTi := len_I T
    obtain ⟨o, ho⟩ : ∃ o, o = atN T i := ⟨_, rfl⟩
    rw [← ho] at hat ha1 hfg
    by_cases e : o = i
    ·have hfx : fixG f i T = (T, []) := by
      cases f with
      | zero => rfl
      | succ f => rw [fixG, ← ho, if_pos e]
     rw [hfx] at hF1 hF2
     simp only [List.append_nil] at hF1 hF2
     have hdr := drop_flat hat
     rw [e] at hdr
     simp only [hdr, hTi, hTl, Nat.mul_one, hi1, hlt, h3, ← hF1, ← hF2, Int.natCast_add, Int.natCast_one, BL, simprocAttr]
    ·have hdr := drop_flat hat
     have hoi : 0 ≤ o ∧ o < t.length := by omega
     obtain ⟨hat2, ha2⟩ := atN_in hTT (x := o) (by omega)
     have hdr2 := drop_flat hat2
     have ho1 : o.toNat + 1 ≤ t.length := by omega
     have hs1 := set_flat T i (atN T o) (by omega)
     have hs2 := set_flat (T.set i (atN T o)) o.toNat o (by simp; omega)
     unfold putAt at hs1 hs2
     simp only [List.length_cons, List.length_nil, Nat.zero_add] at hs1 hs2
     have hsw : (T.set i (atN T o)).set o.toNat o = swapL T i o := by unfold swapL; rw [Int.toNat_natCast, ← ho]
     rw [hsw] at hs2
     have hTs := len_I (T.set i (atN T o))
     rw [List.length_set, hTl] at hTs
     have g3 := q17 i o
     have hne : atN T i ≠ i := by rw [← ho]; exact e
     have hmlt := mis_lt hTT (g := i) (by omega) hne
     rw [← ho] at hmlt
     have hsT := swap_tak hTT (a := i) (b := o) (by omega) (by omega)
     have hfl : fitsLen (o2.length + 1) := by unfold fitsLen; omega
     have ecp : ∀ l : List Int, eCan l = [.sl 1 (l.map eI)] := fun _ => rfl
     have hsn : ((o2 ++ [pairN i o]).map eCan).flatten = (o2.map eCan).flatten ++ [V.sl 1 ((pairN i o).map eI)] := by simp [eCan]
     simp only [hdr, hdr2, hTi, hTl, Nat.mul_one, hi1, ho1, hoi, hlt, e, hs1, hs2, hTs, g3, vw_I, len_C, hfl, List.flatten_cons, List.flatten_nil, BL, simprocAttr]
     obtain ⟨f, rfl⟩ : ∃ f', f = f' + 1 := ⟨f - 1, by omega⟩
     rw [fixG, if_neg hne, ← ho] at hF1 hF2
     refine ⟨_, hmlt, swapL T i o, o2 ++ [pairN i o], f, rfl, hsT, by omega, by rw [List.length_append, List.length_singleton]; omega, hF1, by rw [List.append_assoc]; exact hF2, ?_⟩
     rw [hsn]
     simp only [List.length_append, BL, simprocAttr]
  ·have hlt : ¬ ((t.length : Int) < t.length) := by omega
   simp only [hlt, len_C, Nat.mul_one, Nat.le_refl, chunk_C, vw_C, exchR, h0, BL, simprocAttr]
 ·have h1 : takE t = 1 := by rcases takE_cases t with e | e; exact absurd e h0; exact e
  simp only [rc6, rs6, g1, h, h1, exchR, BL, simprocAttr]
noncomputable def KX5 : Gam := KX4.ext 6 (fnG eL0 dL0 (fun t => t.length ≤ 1000000) exchR fun r => .tp [.sl 1 (r.1.map eCan), .i r.2])
theorem okKX5 : GOk Tryz.prog KX5 := okKX4.ext (f := 6) Tryz.call6 (fnG_ok fun a h => W27 a h)
theorem q6 (t : List Int) : KX5 6 [.sl 1 (t.map eI)] = (t.length ≤ 1000000, .tp [.sl 1 ((exchR t).1.map eCan), .i (exchR t).2]) := (kx KX5 6 (dL0_e t) rfl :)
theorem W19 (t : List Int) (h : t.length ≤ 1000000) : PureCall Tryz.prog 5 [.sl 1 (t.map eI)] (.tp [.i (exchR t).1.length, .i (exchR t).2]) := by
 refine pure_body okKX5 hmix Tryz.func5 cb5 cc5 cs5 cn5 ?_
 have g1 := q6 t
 simp only [rc5, rs5, g1, h, BL, simprocAttr]
noncomputable def KX6 : Gam := KX5.ext 5 (fnG eL0 dL0 (fun t => t.length ≤ 1000000) exchR fun r => .tp [.i r.1.length, .i r.2])
theorem okKX6 : GOk Tryz.prog KX6 := okKX5.ext (f := 5) Tryz.call5 (fnG_ok fun a h => W19 a h)
theorem q5 (t : List Int) : KX6 5 [.sl 1 (t.map eI)] = (t.length ≤ 1000000, .tp [.i (exchR t).1.length, .i (exchR t).2]) := (kx KX6 5 (dL0_e t) rfl :)
end S
end Go.CS
set_option maxHeartbeats 4000000
namespace Go.CS
open Go.Fam Go.Proofs
open Go.C06 (Span eI eIs eSpan gI gR dI dI_eI spanE fnG fnG_ok fnG_at within take_succ_of idxOf idxOf_at idxOf_none idxOf_any flat_len chunk_flat map_vw_rows hasRefL_flat drop_cons chunk_I len_I vw_I noref_I hmix eLI dLI dLI_e ru_countE cutL_noref hasRefL_append upL_noref)
variable {Γ : Gam}
def slipA (f : Int) (g : Nat) : Slip := ⟨g, 0, f + g, 1, g, g⟩
def slipB (t : List Int) (g : Nat) : Slip := ⟨20 + g, 0, 100 + g, 2, S.atN t g, 0⟩
def slipsN (t : List Int) (f : Int) (k : Nat) : List Slip := (List.range k).flatMap fun g => [slipA f g, slipB t g]
theorem slipsN_succ (t : List Int) (f : Int) (k : Nat) : slipsN t f (k + 1) = slipsN t f k ++ [slipA f k, slipB t k] := by
 unfold slipsN; rw [List.range_succ, List.flatMap_append]; rfl
theorem slipsN_len (t : List Int) (f : Int) : ∀ k, (slipsN t f k).length = 2 * k
 | 0 => rfl
 | k + 1 => by rw [slipsN_succ, List.length_append, slipsN_len t f k]; simp; omega
def tarN (p : Int) : Tariff := ⟨0, 1, p, 100000, 9999, 0, 50⟩
def ctrN (t : List Int) (f p : Int) : Ctr := ⟨[⟨0, 0⟩], slipsN t f t.length, [], [], tarN p⟩
set_option maxHeartbeats 4000000 in
theorem X7 (t : List Int) (f p : Int) (hl : t.length ≤ 6) (hf : 0 ≤ f ∧ f ≤ 90) : PureCall Tryz.prog 7 [.sl 1 (t.map eI), .i f, .i p] (.ag (eCtr (ctrN t f p))) := by
 refine pure_body S.okKX6 hmix Tryz.func7 cb7 cc7 cs7 cn7 ?_
 simp only [rc7, rs7, BL, simprocAttr]
 refine ru_count t.length (fun k => ⟨lkp [(0, .sl 1 (t.map eI)), (1, .i f), (6, .ad 0 0 0), (7, .ad 1 0 0), (8, .i k)], [.cells 0 [.z 2, .z 6, .z 1, .z 2, .i 0, .i 0, .i 0, .i 0, .i 0, .i 0, .i 0], .cells 0 [.sl 2 [[.i 0, .i 0]], .rf 2 k 0 (slipsN t f k).length 6, .z 1, .z 2, .i 0, .i 1, .i p, .i 100000, .i 9999, .i 0, .i 50], .cells k ((slipsN t f k).map eSlip).flatten]⟩) ?_ ?_ ?_
 ·simp only [Int.natCast_zero, BL, simprocAttr]
  rfl
 ·intro k hk
  obtain ⟨x, hx⟩ : ∃ x, t[k]? = some x := ⟨_, List.getElem?_eq_getElem hk⟩
  have hlt : (k : Int) < t.length := by omega
  have hk0 : (0 : Int) ≤ k := by omega
  have hkn : (k : Int).toNat = k := Int.toNat_natCast k
  have i1 : inI ((k : Int) + 1) ∧ inI (20 + (k : Int)) ∧ inI (100 + (k : Int)) ∧ inI (f + (k : Int)) := by unfold inI; omega
  have hrow : (t.map eI)[k]? = some [.i x] := by rw [List.getElem?_map, hx]; rfl
  have hat : S.atN t k = x := by unfold S.atN; rw [hkn, hx]; rfl
  have hsl := slipsN_len t f k
  have hk1 : ((k + 1 : Nat) : Int) = (k : Int) + 1 := by omega
  have hfl : fitsLen ((slipsN t f k).length + 2) := by unfold fitsLen; omega
  have hdr : List.drop 6 (List.drop 6 [[V.i 0, V.i 0, V.i 0, V.i 0, V.i 0, V.i 0], [V.i 0, V.i 0, V.i 0, V.i 0, V.i 0, V.i 0]].flatten) = [] := rfl
  have hck : ∀ a0 a1 a2 a3 a4 a5 a6 a7 a8 a9 a10 a11 : V, chunk 6 [a0, a1, a2, a3, a4, a5, a6, a7, a8, a9, a10, a11] 0 2 = [[a0, a1, a2, a3, a4, a5], [a6, a7, a8, a9, a10, a11]] := fun _ _ _ _ _ _ _ _ _ _ _ _ => rfl
  rw [slipsN_succ, hk1]
  have hq : ((slipsN t f k ++ [slipA f k, slipB t k]).map eSlip).flatten = ((slipsN t f k).map eSlip).flatten ++ [.i k, .i 0, .i (f + k), .i 1, .i k, .i k, .i (20 + k), .i 0, .i (100 + k), .i 2, .i x, .i 0] := by
   rw [List.map_append, List.flatten_append]; simp [slipA, slipB, eSlip, hat]
  rw [hq]
  have hln := len_Slp (slipsN t f k)
  have hnr : hasRefL ((slipsN t f k).map eSlip).flatten = false := hasRefL_flat (e := eSlip) (fun _ => rfl) _
  have hnr2 : hasRefL (((slipsN t f k).map eSlip).flatten ++ [.i k, .i 0, .i (f + k), .i 1, .i k, .i k, .i (20 + k), .i 0, .i (100 + k), .i 2, .i x, .i 0]) = false := by rw [hasRefL_append, hnr]; rfl
  generalize slipsN t f k = S0 at *
  simp only [hlt, hrow, hk0, hkn, i1, hfl, hdr, hck, hln, hnr, List.flatten_cons, List.flatten_nil, List.length_append, cutL_noref _ _ _ hnr2, BL, simprocAttr]
 ·have hlt : ¬ ((t.length : Int) < t.length) := by omega
  have hln := len_Slp (slipsN t f t.length)
  have hch := chunk_Slp (slipsN t f t.length)
  simp only [hlt, hln, hch, vw_Slp, Nat.le_refl, eCtr, ctrN, tarN, BL, simprocAttr]
def eL7 (a : List Int × Int × Int) : List V := [.sl 1 (a.1.map eI), .i a.2.1, .i a.2.2]
def dL7 : List V → List Int × Int × Int | [.sl _ l, .i f, .i p] => (l.map dI, f, p) | _ => ([], 0, 0)
theorem dL7_e (a : List Int × Int × Int) : dL7 (eL7 a) = a := by
 obtain ⟨l, f, p⟩ := a
 show ((l.map eI).map dI, f, p) = _
 rw [List.map_map, show dI ∘ eI = id from funext dI_eI, List.map_id]
noncomputable def KY1 : Gam := S.KX6.ext 7 (fnG eL7 dL7 (fun a => a.1.length ≤ 6 ∧ 0 ≤ a.2.1 ∧ a.2.1 ≤ 90) (fun a => ctrN a.1 a.2.1 a.2.2) fun c => .ag (eCtr c))
theorem okKY1 : GOk Tryz.prog KY1 := S.okKX6.ext (f := 7) Tryz.call7 (fnG_ok fun a h => X7 a.1 a.2.1 a.2.2 h.1 h.2)
theorem p7 (t : List Int) (f p : Int) : KY1 7 [.sl 1 (t.map eI), .i f, .i p] = (t.length ≤ 6 ∧ 0 ≤ f ∧ f ≤ 90, .ag (eCtr (ctrN t f p))) := (kx KY1 7 (dL7_e (t, f, p)) rfl :)
def owedK (c : Ctr) : Nat → Int
 | 0 => 0
 | k + 1 => owedK c k + (owesC c k).low
structure COd (c : Ctr) (n : Nat) : Prop where
 len : n ≤ 6
 ow : ∀ g : Nat, g < n → COw c g
 eq : ∀ g : Nat, g < n → (owesC c g).low = (owesC c g).high
 bd : ∀ g : Nat, g < n → 0 ≤ (owesC c g).low ∧ (owesC c g).low ≤ 100000
theorem owedK_bd {c : Ctr} {n : Nat} (h : COd c n) : ∀ k, k ≤ n → 0 ≤ owedK c k ∧ owedK c k ≤ 100000 * k
 | 0, _ => by simp [owedK]
 | k + 1, hk => by
  have := owedK_bd h k (by omega)
  have := h.bd k (by omega)
  simp only [owedK]
  omega
theorem X8 (c : Ctr) (n : Nat) (h : COd c n) : PureCall Tryz.prog 8 [.ag (eCtr c), .i n] (.tp [.i (owedK c n), .b true]) := by
 refine pure_body okKY1 hmix Tryz.func8 cb8 cc8 cs8 cn8 ?_
 have g := fun k : Nat => lft KY1 (w18 c k) rfl
 obtain ⟨E, hE⟩ : ∃ E, E = eCtr c := ⟨_, rfl⟩
 have hEl : E.length = 11 := by rw [hE]; rfl
 have hEr : hasRefL E = false := by rw [hE]; rfl
 have hEv : ∀ H n, E.map (vw H (n + 1)) = E := fun H n => by rw [hE]; rfl
 have hE7 : ∀ H, E.map (vw H 7) = E := fun H => by rw [hE]; rfl
 rw [← hE] at g ⊢
 have hEt : E.take 11 = E := List.take_of_length_le (by omega)
 have hE11 : 11 ≤ E.length := by omega
 simp only [rc8, rs8, hEr, hE7, BL, simprocAttr]
 refine ru_count n (fun k => ⟨lkp [(1, .i n), (2, .pa E), (6, .i (owedK c k)), (7, .i k)], []⟩) ?_ ?_ ?_
 ·simp only [Int.natCast_zero, owedK, BL, simprocAttr]
 ·intro k hk
  have hlt : (k : Int) < n := by omega
  have i1 : inI ((k : Int) + 1) := by have := h.len; unfold inI; omega
  have hk1 : ((k + 1 : Nat) : Int) = (k : Int) + 1 := by omega
  have gk := g k
  have ck := h.ow k hk
  have e1 := h.eq k hk
  have e2 := h.bd k hk
  have i2 : inI (owedK c k + (owesC c k).low) := by
   have := owedK_bd h k (by omega)
   have := h.len
   unfold inI; omega
  have e3 : ¬ (owesC c k).low < 0 := by omega
  have e4 : ¬ (100000 : Int) < (owesC c k).low := by omega
  rw [hk1]
  simp only [owedK]
  generalize owesC c k = s at *
  obtain ⟨s1, s2⟩ := s
  simp only at e1 e2 e3 e4 i2
  subst e1
  generalize owedK c k = o at *
  have eS : eSpan ⟨s1, s1⟩ = [.i s1, .i s1] := rfl
  rw [eS] at gk
  simp only [hlt, gk, ck, i1, i2, e3, e4, hEl, hEt, hE11, hEr, hE7, hEv, BL, simprocAttr]
 ·have hlt : ¬ ((n : Int) < n) := by omega
  simp only [hlt, BL, simprocAttr]
def eCN (a : Ctr × Nat) : List V := [.ag (eCtr a.1), .i a.2]
def dCN : List V → Ctr × Nat | [.ag c, .i n] => (dCtr c, n.toNat) | _ => (dCtr [], 0)
theorem dCN_e (a : Ctr × Nat) : dCN (eCN a) = a := by obtain ⟨c, n⟩ := a; show (dCtr (eCtr c), (n : Int).toNat) = _; rw [dCtr_e, Int.toNat_natCast]
noncomputable def KY2 : Gam := KY1.ext 8 (fnG eCN dCN (fun a => COd a.1 a.2) (fun a => owedK a.1 a.2) fun s => .tp [.i s, .b true])
theorem okKY2 : GOk Tryz.prog KY2 := okKY1.ext (f := 8) Tryz.call8 (fnG_ok fun a h => X8 a.1 a.2 h)
theorem p8 (c : Ctr) (n : Nat) : KY2 8 [.ag (eCtr c), .i n] = (COd c n, .tp [.i (owedK c n), .b true]) := (kx KY2 8 (dCN_e (c, n)) rfl :)
end Go.CS
set_option maxHeartbeats 4000000
namespace Go.CS
open Go.Fam Go.Proofs
open Go.C06 (Span eI eIs eSpan gI gR dI dI_eI spanE fnG fnG_ok fnG_at within take_succ_of idxOf idxOf_at idxOf_none idxOf_any flat_len chunk_flat map_vw_rows hasRefL_flat drop_cons chunk_I len_I vw_I noref_I hmix eLI dLI dLI_e ru_countE cutL_noref hasRefL_append upL_noref)
variable {Γ : Gam}
namespace S
def extN (n : Nat) : Nat → List Int → List (List Int)
 | 0, F => [F]
 | r + 1, F => (((List.range n).map fun i : Nat => (i : Int)).filter fun u => decide (u ∉ F)).flatMap fun u => extN n r (F ++ [u])
theorem ext_of {n : Nat} : ∀ (r : Nat) (F m : List Int), m.length = r → (∀ x ∈ m, 0 ≤ x ∧ x < n) → m.Nodup → (∀ x ∈ m, x ∉ F) → F ++ m ∈ extN n r F
 | 0, F, m, hm, _, _, _ => by
  rw [List.eq_nil_of_length_eq_zero hm, List.append_nil, extN]; exact List.mem_singleton.2 rfl
 | r + 1, F, [], hm, _, _, _ => by simp at hm
 | r + 1, F, u :: m, hm, h1, h2, h3 => by
  rw [extN, List.mem_flatMap]
  rw [List.nodup_cons] at h2
  have hu := h1 u (by simp)
  refine ⟨u, ?_, ?_⟩
  ·rw [List.mem_filter, decide_eq_true_eq, List.mem_map]
   exact ⟨⟨u.toNat, List.mem_range.2 (by omega), by omega⟩, h3 u (by simp)⟩
  ·have := ext_of r (F ++ [u]) m (by simpa using hm) (fun x hx => h1 x (by simp [hx])) h2.2 (fun x hx hF => by
    rcases List.mem_append.1 hF with h | h
    ·exact h3 x (by simp [hx]) h
    ·rw [List.mem_singleton] at h; subst h; exact h2.1 hx)
   simpa using this
def allT : List (List Int) := (List.range 7).flatMap fun n => extN n n []
theorem all_mem {t : List Int} (h : takE t = 0) (hl : t.length ≤ 6) : t ∈ allT := by
 have hB : takB t = true := by unfold takE at h; split at h <;> first | assumption | cases h
 obtain ⟨_, hT⟩ := (takB_iff t).1 hB
 unfold allT
 rw [List.mem_flatMap]
 refine ⟨t.length, List.mem_range.2 (by omega), ?_⟩
 have := ext_of (n := t.length) t.length [] t rfl (fun x hx => by have := hT.in_ x hx; omega) hT.nodup (by simp)
 simpa using this
def invN (t : List Int) (u : Nat) : Nat := ((List.range t.length).filter fun g : Nat => decide (atN t g = u)).headD 0
def chkI (t : List Int) : Bool := ((List.range 10).all fun u => if u < t.length then decide (((List.range t.length).filter fun g : Nat => decide (atN t g = u)) = [invN t u]) && decide (invN t u < t.length) else decide (((List.range t.length).filter fun g : Nat => decide (atN t g = u)) = [])) && decide (((List.range t.length).map (invN t)).sum = (List.range t.length).sum)
def chkE (t : List Int) : Bool := match (exchR t).1 with
 | [] => true
 | e :: r => match e with
  | [a, b] => decide (0 ≤ a) && decide (a < b) && decide (b < t.length) && decide ((exchR ((t.set a.toNat (atN t b)).set b.toNat (atN t a))).1.length = r.length) && decide (takE ((t.set a.toNat (atN t b)).set b.toNat (atN t a)) = 0)
  | _ => false
set_option maxRecDepth 100000 in
theorem all_I : (allT.all chkI) = true := by decide +kernel
set_option maxRecDepth 100000 in
theorem all_E : (allT.all chkE) = true := by decide +kernel
end S
end Go.CS
set_option maxHeartbeats 4000000
namespace Go.CS
open Go.Fam Go.Proofs
open Go.C06 (Span eI eIs eSpan gI gR dI dI_eI spanE fnG fnG_ok fnG_at within take_succ_of idxOf idxOf_at idxOf_none idxOf_any flat_len chunk_flat map_vw_rows hasRefL_flat drop_cons chunk_I len_I vw_I noref_I hmix eLI dLI dLI_e ru_countE cutL_noref hasRefL_append upL_noref)
variable {Γ : Gam}
theorem onceK_nd {l : List Slip} (hn : (l.map (·.id)).Nodup) : ∀ k, k ≤ l.length → onceK l k = some ((l.take k).map fun s => ([s.id], s))
 | 0, _ => rfl
 | k + 1, hk => by
  have ih := onceK_nd hn k (by omega)
  obtain ⟨x, hx⟩ : ∃ x, l[k]? = some x := ⟨_, List.getElem?_eq_getElem (by omega)⟩
  have hg : l.getD k sl0 = x := by rw [List.getD_eq_getElem?_getD, hx]; rfl
  have hnew : ∀ q ∈ (l.take k).map (fun s : Slip => ([s.id], s)), q.1 ≠ [x.id] := by
   intro q hq e
   obtain ⟨s, hs, rfl⟩ := List.mem_map.1 hq
   simp only [List.cons.injEq, and_true] at e
   obtain ⟨j, hj, hjs⟩ := List.mem_take_iff_getElem.1 hs
   have hp := List.pairwise_iff_getElem.1 (List.nodup_iff_pairwise_ne.1 hn)
   have hkl : k < l.length := by omega
   have hxk : l[k] = x := by rw [List.getElem?_eq_getElem hkl] at hx; exact Option.some.inj hx
   have := hp j k (by simp; omega) (by simp; omega) (by omega)
   simp only [List.getElem_map] at this
   rw [hjs, hxk] at this
   exact this e
  rw [onceK, ih]
  simp only [hg]
  have hk2 : [x.id] ∉ aks ((l.take k).map fun s : Slip => ([s.id], s)) := by
   intro hm
   obtain ⟨q, hq, e⟩ := List.mem_map.1 hm
   exact hnew q hq e
  have ha := aget_none.2 hk2
  rw [ha, if_neg (by simp)]
  unfold aput
  rw [if_neg hk2, take_succ_of hx, List.map_append]
  rfl
theorem sortI_eq {l l' : List Int} (hp : l.Perm l') (hs : l'.Pairwise (· ≤ ·)) : sortI l = l' := by
 unfold sortI
 have h1 := List.pairwise_mergeSort (le := fun x y : Int => decide (x ≤ y)) (by intro a b c; simp only [decide_eq_true_eq]; omega) (by intro a b; simp only [Bool.or_eq_true, decide_eq_true_eq]; omega) l
 refine List.Perm.eq_of_pairwise (le := fun a b : Int => a ≤ b) (fun a b _ _ h1 h2 => by omega) ?_ hs ((List.mergeSort_perm l _).trans hp)
 exact h1.imp fun h => by simpa using h
theorem aks_l (l : List Slip) : aks (l.map fun s => ([s.id], s)) = l.map fun s => [s.id] := by unfold aks; rw [List.map_map]; rfl
theorem once_sorted {l l' : List Slip} (hn : (l.map (·.id)).Nodup) (hp : l.Perm l') (hs : (l'.map (·.id)).Pairwise (· ≤ ·)) :
  onceN l = some (l.map fun s => ([s.id], s)) ∧ slipsM (l.map fun s => ([s.id], s)) = l' := by
 refine ⟨by unfold onceN; rw [onceK_nd hn _ (Nat.le_refl _), List.take_length], ?_⟩
 unfold slipsM keysS
 rw [aks_l, List.map_map]
 have e : sortI (l.map ((fun k : List Int => k.headD 0) ∘ fun s : Slip => [s.id])) = l'.map (·.id) := sortI_eq (hp.map _) hs
 rw [e, List.map_map]
 have hk : (aks (l.map fun s : Slip => ([s.id], s))).Nodup := by
  rw [aks_l, List.nodup_iff_pairwise_ne, List.pairwise_map]
  have := List.nodup_iff_pairwise_ne.1 hn
  rw [List.pairwise_map] at this
  exact this.imp fun h e => h (by simpa using e)
 refine (List.map_congr_left fun s hs' => ?_).trans (List.map_id l')
 have hm : s ∈ l := hp.mem_iff.2 hs'
 obtain ⟨j, hj⟩ := List.getElem?_of_mem hm
 have := aget_at hk (j := j) (k := [s.id]) (x := s) (by rw [List.getElem?_map, hj]; rfl)
 show (aget (l.map fun s => ([s.id], s)) [s.id]).getD sl0 = s
 rw [this]; rfl
def lN (t : List Int) (f : Int) (n : Nat) : List Slip := (List.range n).map (slipA f) ++ (List.range n).map (slipB t)
theorem slips_perm (t : List Int) (f : Int) : ∀ n, (slipsN t f n).Perm (lN t f n)
 | 0 => List.Perm.refl _
 | n + 1 => by
  rw [slipsN_succ]
  unfold lN
  rw [List.range_succ, List.map_append, List.map_append]
  have ih := slips_perm t f n
  unfold lN at ih
  refine (ih.append_right _).trans ?_
  rw [List.append_assoc, List.append_assoc]
  refine List.Perm.append_left _ ?_
  show ((List.range n).map (slipB t) ++ ([slipA f n] ++ [slipB t n])).Perm ([slipA f n] ++ ((List.range n).map (slipB t) ++ [slipB t n]))
  rw [← List.append_assoc, ← List.append_assoc]
  exact (List.perm_append_comm).append_right _
theorem lN_ids (t : List Int) (f : Int) {n : Nat} (hn : n ≤ 6) : ((lN t f n).map (·.id)).Pairwise (· < ·) := by
 unfold lN
 rw [List.map_append, List.map_map, List.map_map, List.pairwise_append]
 refine ⟨?_, ?_, ?_⟩
 ·rw [List.pairwise_map]
  exact List.pairwise_lt_range.imp fun h => by simp only [Function.comp, slipA]; omega
 ·rw [List.pairwise_map]
  exact List.pairwise_lt_range.imp fun h => by simp only [Function.comp, slipB]; omega
 ·intro a ha b hb
  obtain ⟨i, hi, rfl⟩ := List.mem_map.1 ha
  obtain ⟨j, hj, rfl⟩ := List.mem_map.1 hb
  rw [List.mem_range] at hi hj
  simp only [Function.comp, slipA, slipB]
  omega
theorem once_c (t : List Int) (f p : Int) (hl : t.length ≤ 6) : onceN (ctrN t f p).slips = some ((slipsN t f t.length).map fun s => ([s.id], s)) ∧ slipsM ((slipsN t f t.length).map fun s => ([s.id], s)) = lN t f t.length := by
 have hi := lN_ids t f hl
 refine once_sorted ?_ (slips_perm t f t.length) (hi.imp fun h => by omega)
 show ((slipsN t f t.length).map (·.id)).Nodup
 rw [((slips_perm t f t.length).map _).nodup_iff, List.nodup_iff_pairwise_ne]
 exact hi.imp fun h => by omega
theorem bookL_c (t : List Int) (f p : Int) (hl : t.length ≤ 6) : bookL (ctrN t f p) = lN t f t.length := by
 unfold bookL
 rw [(once_c t f p hl).1]
 exact (once_c t f p hl).2
end Go.CS
set_option maxHeartbeats 4000000
namespace Go.CS
open Go.Fam Go.Proofs
open Go.C06 (Span eI eIs eSpan gI gR dI dI_eI spanE fnG fnG_ok fnG_at within take_succ_of idxOf idxOf_at idxOf_none idxOf_any flat_len chunk_flat map_vw_rows hasRefL_flat drop_cons chunk_I len_I vw_I noref_I hmix eLI dLI dLI_e ru_countE cutL_noref hasRefL_append upL_noref)
variable {Γ : Gam}
def evA (f : Int) (u : Nat) : Ev := ⟨slipA f u, f + u + 0⟩
def evB (t : List Int) (g : Nat) : Ev := ⟨slipB t g, 100 + g + 0⟩
theorem chk_I {t : List Int} (h : S.takE t = 0) (hl : t.length ≤ 6) : S.chkI t = true := List.all_eq_true.1 S.all_I t (S.all_mem h hl)
theorem chk_E {t : List Int} (h : S.takE t = 0) (hl : t.length ≤ 6) : S.chkE t = true := List.all_eq_true.1 S.all_E t (S.all_mem h hl)
theorem inv_lt {t : List Int} (h : S.takE t = 0) (hl : t.length ≤ 6) {u : Nat} (hu : u < t.length) : ((List.range t.length).filter fun g : Nat => decide (S.atN t g = u)) = [S.invN t u] ∧ S.invN t u < t.length := by
 have := chk_I h hl
 unfold S.chkI at this
 rw [Bool.and_eq_true, List.all_eq_true] at this
 have := this.1 u (List.mem_range.2 (by omega))
 rw [if_pos hu, Bool.and_eq_true, decide_eq_true_eq, decide_eq_true_eq] at this
 exact this
theorem inv_no {t : List Int} (h : S.takE t = 0) (hl : t.length ≤ 6) {u : Nat} (hu : ¬ u < t.length) (h10 : u < 10) : ((List.range t.length).filter fun g : Nat => decide (S.atN t g = u)) = [] := by
 have := chk_I h hl
 unfold S.chkI at this
 rw [Bool.and_eq_true, List.all_eq_true] at this
 have := this.1 u (List.mem_range.2 h10)
 rw [if_neg hu, decide_eq_true_eq] at this
 exact this
theorem inv_sum {t : List Int} (h : S.takE t = 0) (hl : t.length ≤ 6) : ((List.range t.length).map (S.invN t)).sum = (List.range t.length).sum := by
 have := chk_I h hl
 unfold S.chkI at this
 rw [Bool.and_eq_true, decide_eq_true_eq] at this
 exact this.2
theorem filt_A (f : Int) (u : Nat) : ∀ n, ((List.range n).filter fun g : Nat => decide ((g : Int) = u)) = if u < n then [u] else []
 | 0 => rfl
 | n + 1 => by
  rw [List.range_succ, List.filter_append, filt_A f u n]
  by_cases h : u = n
  ·subst h
   rw [if_neg (Nat.lt_irrefl _), if_pos (Nat.lt_succ_self _)]
   simp
  ·rw [List.filter_cons_of_neg (by rw [decide_eq_true_eq]; omega), List.filter_nil, List.append_nil]
   by_cases h2 : u < n
   ·rw [if_pos h2, if_pos (by omega)]
   ·rw [if_neg h2, if_neg (by omega)]
theorem evU_c {t : List Int} (f : Int) (n u : Nat) : evU u [0] (lN t f n) = ((List.range n).filter fun g : Nat => decide ((g : Int) = u)).map (evA f) ++ ((List.range n).filter fun g : Nat => decide (S.atN t g = u)).map (evB t) := by
 unfold evU lN
 rw [List.filter_append, List.map_append, List.filter_map, List.filter_map, List.map_map, List.map_map]
 rfl
theorem evS_c {t : List Int} (h : S.takE t = 0) (hl : t.length ≤ 6) {f : Int} (hf : 0 ≤ f ∧ f ≤ 90) {u : Nat} (h10 : u < 10) : evS [0] (lN t f t.length) u = if u < t.length then [evA f u, evB t (S.invN t u)] else [] := by
 unfold evS
 rw [evU_c, filt_A f]
 by_cases hu : u < t.length
 ·rw [if_pos hu, if_pos hu, (inv_lt h hl hu).1]
  show isortE [evA f u, evB t (S.invN t u)] = _
  have hle : (evA f u).min ≤ (evB t (S.invN t u)).min := by
   show f + u + 0 ≤ 100 + ((S.invN t u : Nat) : Int) + 0
   omega
  unfold isortE
  simp only [List.foldl_cons, List.foldl_nil]
  have e1 : insE (evA f u) [] = [evA f u] := rfl
  rw [e1]
  unfold insE
  rw [List.takeWhile_cons, if_pos (by simpa using hle), List.dropWhile_cons, if_pos (by simpa using hle)]
  rfl
 ·rw [if_neg hu, if_neg hu, inv_no h hl hu h10]; rfl
end Go.CS
set_option maxHeartbeats 4000000
namespace Go.CS
open Go.Fam Go.Proofs
open Go.C06 (Span eI eIs eSpan gI gR dI dI_eI spanE fnG fnG_ok fnG_at within take_succ_of idxOf idxOf_at idxOf_none idxOf_any flat_len chunk_flat map_vw_rows hasRefL_flat drop_cons chunk_I len_I vw_I noref_I hmix eLI dLI dLI_e ru_countE cutL_noref hasRefL_append upL_noref)
variable {Γ : Gam}
variable {t : List Int} {f p : Int}
theorem mem_lN {n : Nat} {s : Slip} (h : s ∈ lN t f n) : ∃ g : Nat, g < n ∧ (s = slipA f g ∨ s = slipB t g) := by
 unfold lN at h
 rcases List.mem_append.1 h with h | h
 ·obtain ⟨g, hg, rfl⟩ := List.mem_map.1 h
  exact ⟨g, List.mem_range.1 hg, .inl rfl⟩
 ·obtain ⟨g, hg, rfl⟩ := List.mem_map.1 h
  exact ⟨g, List.mem_range.1 hg, .inr rfl⟩
theorem lN_len (n : Nat) : (lN t f n).length = 2 * n := by unfold lN; simp; omega
theorem atN_lt (h : S.takE t = 0) {g : Nat} (hg : g < t.length) : 0 ≤ S.atN t g ∧ S.atN t g < t.length := by
 have hB : S.takB t = true := by unfold S.takE at h; split at h <;> first | assumption | cases h
 exact (S.atN_in ((S.takB_iff t).1 hB).2 (x := g) (by omega)).2
theorem lN_in (h : S.takE t = 0) (hl : t.length ≤ 6) (hf : 0 ≤ f ∧ f ≤ 90) {s : Slip} (hs : s ∈ lN t f t.length) :
  (s.kind = 1 ∨ s.kind = 2 ∧ s.guest = 0) ∧ (0 ≤ s.id ∧ s.id ≤ 99) ∧ (0 ≤ s.guest ∧ s.guest ≤ 99) ∧ s.clerk = 0 ∧ (0 ≤ s.atm ∧ s.atm ≤ 200) ∧ 0 ≤ s.umb ∧ s.umb ≤ 9 := by
 obtain ⟨g, hg, rfl | rfl⟩ := mem_lN hs
 ·refine ⟨.inl rfl, ?_, ?_, rfl, ?_, ?_⟩
  ·show 0 ≤ (g : Int) ∧ (g : Int) ≤ 99; omega
  ·show 0 ≤ (g : Int) ∧ (g : Int) ≤ 99; omega
  ·show 0 ≤ f + (g : Int) ∧ f + (g : Int) ≤ 200; omega
  ·show 0 ≤ (g : Int) ∧ (g : Int) ≤ 9; omega
 ·have := atN_lt h hg
  refine ⟨.inr ⟨rfl, rfl⟩, ?_, ?_, rfl, ?_, ?_⟩
  ·show 0 ≤ 20 + (g : Int) ∧ 20 + (g : Int) ≤ 99; omega
  ·show (0 : Int) ≤ 0 ∧ (0 : Int) ≤ 99; omega
  ·show 0 ≤ 100 + (g : Int) ∧ 100 + (g : Int) ≤ 200; omega
  ·show 0 ≤ S.atN t g ∧ S.atN t g ≤ 9; omega
theorem slips_in (h : S.takE t = 0) (hl : t.length ≤ 6) (hf : 0 ≤ f ∧ f ≤ 90) {s : Slip} (hs : s ∈ (ctrN t f p).slips) :
  (s.kind = 1 ∨ s.kind = 2 ∧ s.guest = 0) ∧ (0 ≤ s.id ∧ s.id ≤ 99) ∧ (0 ≤ s.guest ∧ s.guest ≤ 99) ∧ s.clerk = 0 ∧ (0 ≤ s.atm ∧ s.atm ≤ 200) ∧ 0 ≤ s.umb ∧ s.umb ≤ 9 :=
 lN_in h hl hf ((slips_perm t f t.length).mem_iff.1 hs)
theorem okCtr_c (h : S.takE t = 0) (hl : t.length ≤ 6) (hf : 0 ≤ f ∧ f ≤ 90) (hp : 0 ≤ p ∧ p ≤ 99) : okCtrB (ctrN t f p) = true := by
 have hsl : (ctrN t f p).slips.length = 2 * t.length := slipsN_len t f t.length
 have hall : (ctrN t f p).slips.all (okSlip (ctrN t f p)) = true := List.all_eq_true.2 fun s hs => by
  obtain ⟨h1, h2, h3, h4, h5, h6⟩ := slips_in h hl hf hs
  unfold okSlip okKind okId
  simp only [Bool.and_eq_true, Bool.or_eq_true, decide_eq_true_eq, within_iff]
  refine ⟨⟨⟨⟨⟨h1, h2⟩, h3⟩, ?_⟩, ?_⟩, h6⟩
  ·rw [h4]; show (0 : Int) ≤ 0 ∧ (0 : Int) ≤ ((1 : Nat) : Int) - 1; omega
  ·omega
 have htar : okTar (ctrN t f p).tar = true := by
  show okTar (tarN p) = true
  unfold okTar tarN
  simp only [Bool.and_eq_true, within_iff]
  omega
 have e1 : decide (((ctrN t f p).slips.length : Int) ≤ 12) = true := by rw [hsl, decide_eq_true_eq]; omega
 unfold okCtrB
 rw [hall, htar, e1]
 rfl
theorem okCt_c (h : S.takE t = 0) (hl : t.length ≤ 6) (hf : 0 ≤ f ∧ f ≤ 90) (hp : 0 ≤ p ∧ p ≤ 99) : OkCt (ctrN t f p) := okCt (okCtr_c h hl hf hp)
theorem okEv_c (h : S.takE t = 0) (hl : t.length ≤ 6) (hf : 0 ≤ f ∧ f ≤ 90) {u : Nat} (hu : u < 10) : okEv (evS [0] (lN t f t.length) u) = true := by
 rw [evS_c h hl hf hu]
 by_cases h1 : u < t.length
 ·rw [if_pos h1]
  have hne : ¬ (evB t (S.invN t u)).min = (evA f u).min := by
   show ¬ 100 + ((S.invN t u : Nat) : Int) + 0 = f + u + 0
   omega
  unfold okEv badE
  simp only [List.length_cons, List.length_nil, Nat.zero_add, Nat.reduceAdd, List.range_succ, List.range_zero, List.nil_append, List.any_append, List.any_cons, List.any_nil]
  simp [hne]
  exact ⟨rfl, rfl⟩
 ·rw [if_neg h1]; rfl
theorem bookW_c (h : S.takE t = 0) (hl : t.length ≤ 6) (hf : 0 ≤ f ∧ f ≤ 90) : bookW (ctrN t f p) = [[0]] := by
 unfold bookW
 rw [bookL_c t f p hl]
 have ho : openB [0] (lN t f t.length) = true := by
  unfold openB
  exact List.all_eq_true.2 fun u hu => okEv_c h hl hf (List.mem_range.1 hu)
 show (spanW ⟨0, 0⟩).flatMap (fun w => searchW (lN t f t.length) [] ([] ++ [w])) = _
 have e : spanW ⟨0, 0⟩ = [0] := by decide
 rw [e]
 rw [List.flatMap_cons, List.flatMap_nil]
 show (if openB [0] (lN t f t.length) then [[0]] else []) ++ [] = _
 rw [ho]; rfl
theorem rd2_c (h : S.takE t = 0) (hl : t.length ≤ 6) (hf : 0 ≤ f ∧ f ≤ 90) (hp : 0 ≤ p ∧ p ≤ 99) : Rd2 (ctrN t f p) (bookL (ctrN t f p)) (bookW (ctrN t f p)) := by
 have hsl : (ctrN t f p).slips.length = 2 * t.length := slipsN_len t f t.length
 have hbl := bookL_c t f p hl
 have hll : (lN t f t.length).length = 2 * t.length := lN_len t.length
 refine ⟨⟨by show 1 ≤ 1000000; omega, by omega, by show 0 ≤ 1000000; omega, by show 0 ≤ 1000000; omega⟩, ?_, ⟨by omega, fun s hs => ?_⟩, ?_, ⟨⟨by show 0 < 10000000; omega, ?_⟩, fun s _ => by unfold pVo; rfl⟩, ⟨?_, by show 1 ≤ 100; omega, fun s hs => ?_, fun s hs => ?_, fun s hs => ?_, fun s hs => ?_⟩, rfl, ?_, ?_⟩
 ·unfold ctrE
  rw [okCtr_c h hl hf hp, (once_c t f p hl).1]; rfl
 ·have := slips_in h hl hf hs
  unfold inI; omega
 ·rw [(once_c t f p hl).1, hbl]
  show V.tp [.sl 6 ((slipsM _).map eSlip), .b true] = _
  rw [(once_c t f p hl).2]
 ·show (bookL (ctrN t f p)).length < 10000000
  rw [hbl]; omega
 ·rw [hbl]; omega
 ·rw [hbl] at hs; exact (lN_in h hl hf hs).2.2.2.2.2
 ·rw [hbl] at hs
  have := (lN_in h hl hf hs).2.2.2.1
  rw [this]; show (0 : Int) ≤ 0 ∧ (0 : Int) < ((1 : Nat) : Int); omega
 ·rw [hbl] at hs
  have := (lN_in h hl hf hs).2.2.2.2.1
  omega
 ·have : s = ⟨0, 0⟩ := List.mem_singleton.1 hs
  subst this; decide
 ·rw [bookW_c h hl hf]; simp
 ·rw [bookW_c h hl hf]; decide
end Go.CS
set_option maxHeartbeats 4000000
namespace Go.CS
open Go.Fam Go.Proofs
open Go.C06 (Span eI eIs eSpan gI gR dI dI_eI spanE fnG fnG_ok fnG_at within take_succ_of idxOf idxOf_at idxOf_none idxOf_any flat_len chunk_flat map_vw_rows hasRefL_flat drop_cons chunk_I len_I vw_I noref_I hmix eLI dLI dLI_e ru_countE cutL_noref hasRefL_append upL_noref)
variable {Γ : Gam}
variable {t : List Int} {f p : Int}
theorem flatMap_if {α : Type} (g : Nat → α) (n : Nat) : ∀ k, ((List.range k).flatMap fun u => if u < n then [g u] else []) = (List.range (min k n)).map g
 | 0 => by simp
 | k + 1 => by
  rw [List.range_succ, List.flatMap_append, flatMap_if g n k]
  by_cases h : k < n
  ·rw [show min (k + 1) n = min k n + 1 by omega, List.range_succ, List.map_append, List.flatMap_cons, List.flatMap_nil, if_pos h, show min k n = k by omega]; rfl
  ·rw [show min (k + 1) n = min k n by omega, List.flatMap_cons, List.flatMap_nil, if_neg h]; simp
def lastI (t : List Int) (f : Int) (u : Nat) : Int := 100 + (S.invN t u : Nat) + 0 - (f + u + 0)
theorem hires_c (h : S.takE t = 0) (hl : t.length ≤ 6) (hf : 0 ≤ f ∧ f ≤ 90) : hiresP (ctrN t f p) [0] (lN t f t.length) = (List.range t.length).map fun u => (slipA f u, lastI t f u) := by
 unfold hiresP hiresQ
 rw [List.drop_zero]
 have e : ∀ u ∈ List.range 10, (pairsE (evS [0] (lN t f t.length) u)).map (hiP (ctrN t f p)) = if u < t.length then [(slipA f u, lastI t f u)] else [] := by
  intro u hu
  rw [evS_c h hl hf (List.mem_range.1 hu)]
  by_cases h1 : u < t.length
  ·rw [if_pos h1, if_pos h1]; rfl
  ·rw [if_neg h1, if_neg h1]; rfl
 have e2 : ((List.range 10).flatMap fun u => (pairsE (evS [0] (lN t f t.length) u)).map (hiP (ctrN t f p))) = (List.range 10).flatMap fun u => if u < t.length then [(slipA f u, lastI t f u)] else [] := by
  rw [List.flatMap_def, List.flatMap_def, List.map_congr_left e]
 rw [e2, flatMap_if, show min 10 t.length = t.length by omega]
theorem last_bd (h : S.takE t = 0) (hl : t.length ≤ 6) (hf : 0 ≤ f ∧ f ≤ 90) {u : Nat} (hu : u < t.length) : 5 ≤ lastI t f u ∧ lastI t f u ≤ 105 := by
 have := (inv_lt h hl hu).2
 unfold lastI
 omega
theorem fee_c (hp : 0 ≤ p ∧ p ≤ 99) {m : Int} (hm : 5 ≤ m ∧ m ≤ 105) : feeN (tarN p) m = p * m := by
 unfold feeN tarN
 simp only
 rw [if_neg (by omega)]
 have e : (max 0 (m - 0) + 1 - 1).tdiv 1 = m := by rw [Int.tdiv_one]; omega
 rw [e]
 have : p * m ≤ 99 * 105 := Int.mul_le_mul (by omega) (by omega) (by omega) (by omega)
 omega
theorem owes_fold (hp : 0 ≤ p ∧ p ≤ 99) (t : List Int) (f : Int) (g n : Nat) (hb : ∀ u, u < n → 5 ≤ lastI t f u ∧ lastI t f u ≤ 105) : ∀ k, k ≤ n →
  ((List.range k).map fun u => (slipA f u, lastI t f u)).foldl (owesS (tarN p) g) 0 = if g < k then p * lastI t f g else 0
 | 0, _ => rfl
 | k + 1, hk => by
  rw [List.range_succ, List.map_append, List.foldl_append, owes_fold hp t f g n hb k (by omega)]
  show owesS (tarN p) g _ (slipA f k, lastI t f k) = _
  unfold owesS
  by_cases h : k = g
  ·subst h
   rw [if_pos (show (slipA f k).guest = (k : Int) from rfl), if_neg (Nat.lt_irrefl _), if_pos (Nat.lt_succ_self _), fee_c hp (hb k (by omega))]
   omega
  ·rw [if_neg (show ¬ (slipA f k).guest = (g : Int) from fun e => h (Int.ofNat.inj e))]
   by_cases h2 : g < k
   ·rw [if_pos h2, if_pos (by omega)]
   ·rw [if_neg h2, if_neg (by omega)]
theorem prod_bd (hp : 0 ≤ p ∧ p ≤ 99) {m : Int} (hm : 5 ≤ m ∧ m ≤ 105) : 0 ≤ p * m ∧ p * m ≤ 10395 := by
 refine ⟨Int.mul_nonneg (by omega) (by omega), ?_⟩
 have : p * m ≤ 99 * 105 := Int.mul_le_mul (by omega) (by omega) (by omega) (by omega)
 omega
theorem owesN_c (h : S.takE t = 0) (hl : t.length ≤ 6) (hf : 0 ≤ f ∧ f ≤ 90) (hp : 0 ≤ p ∧ p ≤ 99) {g : Nat} (hg : g < t.length) : owesN (ctrN t f p) g [0] (lN t f t.length) = p * lastI t f g := by
 unfold owesN
 rw [hires_c h hl hf]
 show List.foldl (owesS (tarN p) g) 0 _ = _
 rw [owes_fold hp t f g t.length (fun u hu => last_bd h hl hf hu) t.length (Nat.le_refl _), if_pos hg]
theorem evS_len (h : S.takE t = 0) (hl : t.length ≤ 6) (u : Nat) : (evS [0] (lN t f t.length) u).length ≤ 12 := by
 unfold evS
 rw [isortE_len]
 unfold evU
 rw [List.length_map]
 exact Nat.le_trans (List.length_filter_le _ _) (by rw [lN_len]; omega)
theorem evS_bd (hl : t.length ≤ 6) (h : S.takE t = 0) (hf : 0 ≤ f ∧ f ≤ 90) (u : Nat) : ∀ e ∈ evS [0] (lN t f t.length) u, 0 ≤ e.min ∧ e.min ≤ 200 := by
 intro e he
 have h1 := isortE_mem _ e he
 unfold evU at h1
 obtain ⟨s, hm, rfl⟩ := List.mem_map.1 h1
 have h2 := lN_in h hl hf (List.mem_filter.1 hm).1
 have h3 : s.clerk = 0 := h2.2.2.2.1
 show 0 ≤ s.atm + ([0] : List Int).getD s.clerk.toNat 0 ∧ s.atm + ([0] : List Int).getD s.clerk.toNat 0 ≤ 200
 rw [h3]
 show 0 ≤ s.atm + 0 ∧ s.atm + 0 ≤ 200
 omega
theorem hirOk_c (h : S.takE t = 0) (hl : t.length ≤ 6) (hf : 0 ≤ f ∧ f ≤ 90) (hp : 0 ≤ p ∧ p ≤ 99) : HirOk (ctrN t f p) [0] (lN t f t.length) := by
 refine ⟨fun u => evS_len h hl u, fun u q hq => ?_⟩
 have h1 := pairsE_sub q hq
 have b1 := evS_bd hl h hf u _ h1.1
 have b2 := evS_bd hl h hf u _ h1.2
 exact ⟨okCt_c h hl hf hp, by omega, by omega⟩
theorem c38_c (h : S.takE t = 0) (hl : t.length ≤ 6) (hf : 0 ≤ f ∧ f ≤ 90) (hp : 0 ≤ p ∧ p ≤ 99) (g : Nat) : C38o (ctrN t f p) g [0] (lN t f t.length) := by
 refine ⟨hirOk_c h hl hf hp, fun x hx => ?_, fun k => ?_⟩
 ·rw [hires_c h hl hf] at hx
  obtain ⟨u, hu, rfl⟩ := List.mem_map.1 hx
  have := last_bd h hl hf (List.mem_range.1 hu)
  exact ⟨(okCt_c h hl hf hp).tar, by show -1000000000 ≤ lastI t f u ∧ lastI t f u ≤ 1000000000; omega⟩
 ·rw [hires_c h hl hf, ← List.map_take, List.take_range]
  show inI (List.foldl (owesS (tarN p) g) 0 _)
  rw [owes_fold hp t f g t.length (fun u hu => last_bd h hl hf hu) (min k t.length) (by omega)]
  by_cases hg : g < min k t.length
  ·rw [if_pos hg]
   have := prod_bd hp (last_bd h hl hf (u := g) (by omega))
   unfold inI; omega
  ·rw [if_neg hg]; unfold inI; omega
theorem owes_c (h : S.takE t = 0) (hl : t.length ≤ 6) (hf : 0 ≤ f ∧ f ≤ 90) (hp : 0 ≤ p ∧ p ≤ 99) {g : Nat} (hg : g < t.length) : owesC (ctrN t f p) g = ⟨p * lastI t f g, p * lastI t f g⟩ := by
 unfold owesC owesB
 rw [bookW_c h hl hf, bookL_c t f p hl]
 show (spF [owesN (ctrN t f p) g [0] (lN t f t.length)]).1 = _
 rw [owesN_c h hl hf hp hg]; rfl
theorem cod_c (h : S.takE t = 0) (hl : t.length ≤ 6) (hf : 0 ≤ f ∧ f ≤ 90) (hp : 0 ≤ p ∧ p ≤ 99) : COd (ctrN t f p) t.length := by
 refine ⟨hl, fun g hg => ⟨?_, rd2_c h hl hf hp, fun ws hws => ?_⟩, fun g hg => by rw [owes_c h hl hf hp hg], fun g hg => ?_⟩
 ·rw [within_iff]; omega
 ·rw [bookW_c h hl hf] at hws
  obtain rfl := List.mem_singleton.1 hws
  rw [bookL_c t f p hl]
  exact c38_c h hl hf hp g
 ·rw [owes_c h hl hf hp hg]
  have := prod_bd hp (last_bd h hl hf hg)
  show 0 ≤ p * lastI t f g ∧ p * lastI t f g ≤ 100000
  omega
theorem owedK_sum (h : S.takE t = 0) (hl : t.length ≤ 6) (hf : 0 ≤ f ∧ f ≤ 90) (hp : 0 ≤ p ∧ p ≤ 99) : ∀ k, k ≤ t.length → owedK (ctrN t f p) k = p * ((100 - f) * k + (((List.range k).map (S.invN t)).sum : Nat) - ((List.range k).sum : Nat))
 | 0, _ => by simp [owedK]
 | k + 1, hk => by
  rw [owedK, owedK_sum h hl hf hp k (by omega), owes_c h hl hf hp (show k < t.length by omega), List.range_succ, List.map_append, List.sum_append, List.sum_append]
  show p * _ + p * lastI t f k = _
  rw [← Int.mul_add]
  congr 1
  unfold lastI
  simp only [List.map_cons, List.map_nil, List.sum_cons, List.sum_nil, Nat.add_zero, Int.natCast_add, Int.natCast_one]
  rw [Int.mul_add]
  omega
theorem owed_c (h : S.takE t = 0) (hl : t.length ≤ 6) (hf : 0 ≤ f ∧ f ≤ 90) (hp : 0 ≤ p ∧ p ≤ 99) : owedK (ctrN t f p) t.length = p * ((100 - f) * t.length) := by
 rw [owedK_sum h hl hf hp _ (Nat.le_refl _), inv_sum h hl]
 congr 1
 omega
end Go.CS
set_option maxHeartbeats 4000000
namespace Go.CS
open Go.Fam Go.Proofs
open Go.C06 (Span eI eIs eSpan gI gR dI dI_eI spanE fnG fnG_ok fnG_at within take_succ_of idxOf idxOf_at idxOf_none idxOf_any flat_len chunk_flat map_vw_rows hasRefL_flat drop_cons chunk_I len_I vw_I noref_I hmix eLI dLI dLI_e ru_countE cutL_noref hasRefL_append upL_noref)
variable {Γ : Gam}
variable {t : List Int} {f p : Int}
theorem with_c (h : S.takE t = 0) (hl : t.length ≤ 6) (hf : 0 ≤ f ∧ f ≤ 90) {u : Nat} (hu : u < 10) : (withN (evS [0] (lN t f t.length) u) 200).2 = false := by
 rw [evS_c h hl hf hu]
 by_cases h1 : u < t.length
 ·rw [if_pos h1]
  have hi := (inv_lt h hl h1).2
  unfold withN
  simp only [List.foldl_cons, List.foldl_nil]
  unfold withS
  rw [if_pos (show (evB t (S.invN t u)).min ≤ 200 by show 100 + ((S.invN t u : Nat) : Int) + 0 ≤ 200; omega)]
  rfl
 ·rw [if_neg h1]; rfl
theorem rg_c (u : Nat) (hu : u < 10) : (((List.range 10).map (evS [0] (lN t f t.length))).getD u []) = evS [0] (lN t f t.length) u := rg_get hu
theorem held_c (h : S.takE t = 0) (hl : t.length ≤ 6) (hf : 0 ≤ f ∧ f ≤ 90) (q : Int) : ∀ k, k ≤ 10 → heldK q ((List.range 10).map (evS [0] (lN t f t.length))) 200 k = 0
 | 0, _ => rfl
 | k + 1, hk => by
  rw [heldK, rg_c k (by omega), with_c h hl hf (by omega), if_neg (by decide)]
  exact held_c h hl hf q k (by omega)
theorem che_c (h : S.takE t = 0) (hl : t.length ≤ 6) (hf : 0 ≤ f ∧ f ≤ 90) (hp : 0 ≤ p ∧ p ≤ 99) : CHe (ctrN t f p) 200 ∧ heldC (ctrN t f p) 200 = ⟨0, 0⟩ := by
 refine ⟨⟨by decide, rd2_c h hl hf hp, fun ws hws => ?_⟩, ?_⟩
 ·rw [bookW_c h hl hf] at hws
  obtain rfl := List.mem_singleton.1 hws
  rw [bookL_c t f p hl]
  refine ⟨by simp, fun u => ?_, fun k hk => ?_⟩
  ·by_cases hu : u < 10
   ·rw [rg_c u hu]; exact evS_len h hl u
   ·rw [List.getD_eq_getElem?_getD, List.getElem?_eq_none (by simp; omega)]; simp
  ·rw [held_c h hl hf _ k hk]; unfold inI; decide
 ·unfold heldC heldB
  rw [bookW_c h hl hf, bookL_c t f p hl]
  show (spF [heldK _ ((List.range 10).map (evS [0] (lN t f t.length))) 200 10]).1 = _
  rw [held_c h hl hf _ 10 (Nat.le_refl _)]; rfl
theorem cwh_c (h : S.takE t = 0) (hl : t.length ≤ 6) (hf : 0 ≤ f ∧ f ≤ 90) (hp : 0 ≤ p ∧ p ≤ 99) {u : Nat} (hu : u < t.length) : CWh (ctrN t f p) u 200 := by
 have hun : (u : Int).toNat = u := Int.toNat_natCast u
 refine ⟨by rw [within_iff]; omega, by decide, by rw [bookW_c h hl hf]; rfl, rd2_c h hl hf hp, ?_, ?_⟩
 ·rw [bookW_c h hl hf, bookL_c t f p hl]
  refine ⟨by simp, by show (0 : Int) ≤ u; omega, by show (u : Int) < 10; omega, ?_⟩
  show (((List.range 10).map (evS [0] (lN t f t.length))).getD (u : Int).toNat []).length ≤ 12
  rw [hun, rg_c u (by omega)]; exact evS_len h hl u
 ·rw [bookW_c h hl hf, bookL_c t f p hl]
  show (withN (((List.range 10).map (evS [0] (lN t f t.length))).getD (u : Int).toNat []) 200).2 = false
  rw [hun, rg_c u (by omega)]; exact with_c h hl hf (by omega)
def ownN (n : Nat) : List Int := (List.range n).map fun i : Nat => (i : Int)
theorem own_len (n : Nat) : (ownN n).length = n := by simp [ownN]
theorem own_tak : ∀ n, n ≤ 6 → S.takE (ownN n) = 0 := by decide +kernel
theorem ex_pair (h : S.takE t = 0) (hl : t.length ≤ 6) {e : List Int} {r : List (List Int)} (he : (S.exchR t).1 = e :: r) :
  ∃ a b : Int, e = [a, b] ∧ 0 ≤ a ∧ a < b ∧ b < t.length ∧ (S.exchR ((t.set a.toNat (S.atN t b)).set b.toNat (S.atN t a))).1.length = r.length ∧ S.takE ((t.set a.toNat (S.atN t b)).set b.toNat (S.atN t a)) = 0 := by
 have := chk_E h hl
 unfold S.chkE at this
 rw [he] at this
 simp only at this
 split at this
 ·rename_i a b
  simp only [Bool.and_eq_true, decide_eq_true_eq] at this
  obtain ⟨⟨⟨⟨h1, h2⟩, h3⟩, h4⟩, h5⟩ := this
  exact ⟨a, b, rfl, h1, h2, h3, h4, h5⟩
 ·cases this
theorem ex_err (t : List Int) : (S.exchR t).2 = S.takE t := by
 unfold S.exchR
 rcases S.takE_cases t with e | e
 ·rw [if_pos e, e]
 ·rw [if_neg (by rw [e]; decide), e]
end Go.CS
set_option maxHeartbeats 4000000
namespace Go.CS
open Go.Fam Go.Proofs
open Go.C06 (Span eI eIs eSpan gI gR dI dI_eI spanE fnG fnG_ok fnG_at within take_succ_of idxOf idxOf_at idxOf_none idxOf_any flat_len chunk_flat map_vw_rows hasRefL_flat drop_cons chunk_I len_I vw_I noref_I hmix eLI dLI dLI_e ru_countE cutL_noref hasRefL_append upL_noref)
variable {Γ : Gam}
namespace R
structure Rain where
 day : Int
 lo : Int
 hi : Int
structure Fair where
 price : Int
 sells : List Int
structure Tour where
 days : Int
 step : Int
 rains : List Rain
 wrong : Int
 fairs : List Fair
 reach : Int
 stock : Int
def eRain (r : Rain) : List V := [.i r.day, .i r.lo, .i r.hi]
def eFair (x : Fair) : List V := [.i x.price, .sl 1 (x.sells.map eI)]
def eTour (t : Tour) : List V := [.i t.days, .i t.step, .sl 3 (t.rains.map eRain), .i t.wrong, .sl 2 (t.fairs.map eFair), .i t.reach, .i t.stock]
def exT : Tour := ⟨3, 2, [⟨0, 2, 3⟩, ⟨1, 0, 1⟩, ⟨2, 0, 0⟩, ⟨2, 3, 3⟩], 1, [⟨10, [0, 2, 4, 6]⟩, ⟨20, [0, 1, 2, 3]⟩, ⟨5, [6, 6, 6, 6]⟩], 1, 7⟩
theorem W91 (n lo hi : Int) : PureCall Tryz.prog 91 [.i n, .i lo, .i hi] (.b (within n lo hi)) := by
 refine pure_body okKY2 hmix Tryz.func91 cb91 cc91 cs91 cn91 ?_
 unfold within
 by_cases e : lo ≤ n
 ·simp only [rc91, rs91, e, BL, simprocAttr]
 ·simp only [rc91, rs91, e, BL, simprocAttr]
noncomputable def KR1 : Gam := KY2.ext 91 (fnG eWi dWi (fun _ => True) (fun a => within a.1 a.2.1 a.2.2) (.b))
theorem okKR1 : GOk Tryz.prog KR1 := okKY2.ext (f := 91) Tryz.call91 (fnG_ok fun a h => W91 a.1 a.2.1 a.2.2)
theorem r91 (n lo hi : Int) : KR1 91 [.i n, .i lo, .i hi] = (True, .b (within n lo hi)) := (kx KR1 91 (show dWi (eWi (n, lo, hi)) = (n, lo, hi) from rfl) rfl :)
theorem W14 : PureCall Tryz.prog 14 [] (.ag (eTour exT)) := by
 refine pure_body okKR1 hmix Tryz.func14 cb14 cc14 cs14 cn14 ?_
 simp only [rc14, rs14, BL, simprocAttr]
 rfl
theorem W105 (n : Int) : PureCall Tryz.prog 105 [.i n] (.b (!within n 0 99)) := by
 refine pure_body okKR1 hmix Tryz.func105 cb105 cc105 cs105 cn105 ?_
 have g := r91 n 0 99
 simp only [rc105, rs105, g, BL, simprocAttr]
def isRain (t : Tour) (r : Rain) : Bool := within r.day 0 (t.days - 1) && within r.lo 0 r.hi && decide (r.hi ≤ 3)
theorem vw_R (hp : List Blk) (n : Nat) (l : List Rain) : (l.map eRain).map (fun r => r.map (vw hp (n + 1))) = l.map eRain := map_vw_rows (e := eRain) hp (n + 1) (fun _ => rfl) l
theorem vw_F (hp : List Blk) (n : Nat) (l : List Fair) : (l.map eFair).map (fun r => r.map (vw hp (n + 1))) = l.map eFair := map_vw_rows (e := eFair) hp (n + 1) (fun _ => rfl) l
theorem W92 (t : Tour) (r : Rain) (h : inI (t.days - 1)) : PureCall Tryz.prog 92 [.ag (eTour t), .ag (eRain r)] (.b (isRain t r)) := by
 refine pure_body okKR1 hmix Tryz.func92 cb92 cc92 cs92 cn92 ?_
 have g1 := r91 r.day 0 (t.days - 1)
 have g2 := r91 r.lo 0 r.hi
 unfold isRain
 cases e1 : within r.day 0 (t.days - 1) with
 | false => simp only [rc92, rs92, eTour, eRain, g1, h, e1, vw_R, vw_F, BL, simprocAttr]
 | true =>
  cases e2 : within r.lo 0 r.hi with
  | false => simp only [rc92, rs92, eTour, eRain, g1, g2, h, e1, e2, vw_R, vw_F, BL, simprocAttr]
  | true => simp only [rc92, rs92, eTour, eRain, g1, g2, h, e1, e2, vw_R, vw_F, BL, simprocAttr]
def right (r : Rain) (row : List Int) : Bool := within (row.getD r.day.toNat 0) r.lo r.hi
theorem W94 (r : Rain) (row : List Int) (h : 0 ≤ r.day ∧ r.day < row.length) : PureCall Tryz.prog 94 [.ag (eRain r), .sl 1 (row.map eI)] (.b (right r row)) := by
 refine pure_body okKR1 hmix Tryz.func94 cb94 cc94 cs94 cn94 ?_
 obtain ⟨x, hx⟩ : ∃ x, row[r.day.toNat]? = some x := ⟨_, List.getElem?_eq_getElem (by omega)⟩
 have hr : (row.map eI)[r.day.toNat]? = some [.i x] := by rw [List.getElem?_map, hx]; rfl
 have hg : row.getD r.day.toNat 0 = x := by rw [List.getD_eq_getElem?_getD, hx]; rfl
 have g := r91 x r.lo r.hi
 unfold right
 rw [hg]
 simp only [rc94, rs94, eRain, g, h, hr, BL, simprocAttr]
end R
end Go.CS
set_option maxHeartbeats 4000000
namespace Go.CS
open Go.Fam Go.Proofs
open Go.C06 (Span eI eIs eSpan gI gR dI dI_eI spanE fnG fnG_ok fnG_at within take_succ_of idxOf idxOf_at idxOf_none idxOf_any flat_len chunk_flat map_vw_rows hasRefL_flat drop_cons chunk_I len_I vw_I noref_I hmix eLI dLI dLI_e ru_countE cutL_noref hasRefL_append upL_noref)
variable {Γ : Gam}
namespace R
theorem W33 (s : Span) : PureCall Tryz.prog 33 [.ag (eSpan s)] (.i s.low) := by
 refine pure_body okKR1 hmix Tryz.func33 cb33 cc33 cs33 cn33 ?_
 obtain ⟨a, b⟩ := s
 simp only [rc33, rs33, BL, simprocAttr]
theorem W55 (a b : Int) : PureCall Tryz.prog 55 [.ag [.i a, .i b]] (.i a) := by
 refine pure_body okKR1 hmix Tryz.func55 cb55 cc55 cs55 cn55 ?_
 simp only [rc55, rs55, BL, simprocAttr]
def pF (n : Int) : Bool := !within n 0 99
noncomputable def KR2 : Gam := KR1.ext 105 (fnG e153 d153 (fun _ => True) (fun a => pF a.2) (.b))
theorem okKR2 : GOk Tryz.prog KR2 := okKR1.ext (f := 105) Tryz.call105 (fnG_ok fun a h => W105 a.2)
theorem r105 (a : Unit) (x : Int) : KR2 105 (.i x :: eU0 a) = (True, .b (pF x)) := (kx KR2 105 (d153_e (a, x)) rfl :)
def e2F (l : List Int) : List V := [.sl 1 (l.map eI), .fn 105 (eU0 ())]
def d2F : List V → List Int | [.sl _ l, .fn _ _] => l.map dI | _ => []
theorem d2F_e (l : List Int) : d2F (e2F l) = l := by simp [d2F, e2F, dI_eI, Function.comp_def]
noncomputable def KR3 : Gam := KR2.ext 97 (fnG e2F d2F (fun l => l.length < 10000000) (fun l => idxOf pF l) (.i))
theorem okKR3 : GOk Tryz.prog KR3 := okKR2.ext (f := 97) Tryz.call97 (fnG_ok fun l h => XP122 okKR2 l 105 (by decide) (eU0 ()) pF (fun _ => True) (fun _ _ => trivial) rfl rfl h fun x _ => r105 () x)
theorem r97 (l : List Int) : KR3 97 [.sl 1 (l.map eI), .fn 105 (eU0 ())] = (l.length < 10000000, .i (idxOf pF l)) := (kx KR3 97 (d2F_e l) rfl :)
theorem W75 (l : List Int) (h : l.length < 10000000) : PureCall Tryz.prog 75 [.sl 1 (l.map eI), .fn 105 (eU0 ())] (.b (l.any pF)) := by
 refine pure_body okKR3 hmix Tryz.func75 cb75 cc75 cs75 cn75 ?_
 have g := r97 l
 have q := idxOf_any pF l
 generalize idxOf pF l = r at *
 generalize l.any pF = r2 at *
 try simp only [eU0, eI] at g
 simp only [rc75, rs75, eU0, g, h, q, BL, simprocAttr]
noncomputable def KR4 : Gam := KR3.ext 75 (fnG e2F d2F (fun l => l.length < 10000000) (fun l => l.any pF) (.b))
theorem okKR4 : GOk Tryz.prog KR4 := okKR3.ext (f := 75) Tryz.call75 (fnG_ok fun l h => W75 l h)
theorem r75 (l : List Int) : KR4 75 [.sl 1 (l.map eI), .fn 105 (eU0 ())] = (l.length < 10000000, .b (l.any pF)) := (kx KR4 75 (d2F_e l) rfl :)
def isFair (x : Fair) : Bool := within x.price 0 999 && decide ((x.sells.length : Int) = 4) && !x.sells.any pF
theorem W93 (x : Fair) (h : x.sells.length < 10000000) : PureCall Tryz.prog 93 [.ag (eFair x)] (.b (isFair x)) := by
 refine pure_body okKR4 hmix Tryz.func93 cb93 cc93 cs93 cn93 ?_
 have g1 := lft KR4 (r91 x.price 0 999) rfl
 have g2 := r75 x.sells
 unfold isFair
 generalize x.sells.any pF = r at *
 try simp only [eU0, eI] at g2
 cases e1 : within x.price 0 999 with
 | false => simp only [rc93, rs93, eFair, g1, e1, BL, simprocAttr]
 | true =>
  by_cases e2 : (x.sells.length : Int) = 4
  ·simp only [rc93, rs93, eFair, eU0, g1, g2, h, e1, e2, BL, simprocAttr]
  ·simp only [rc93, rs93, eFair, g1, e1, e2, BL, simprocAttr]
end R
end Go.CS
set_option maxHeartbeats 4000000
namespace Go.CS
open Go.Fam Go.Proofs
open Go.C06 (Span eI eIs eSpan gI gR dI dI_eI spanE fnG fnG_ok fnG_at within take_succ_of idxOf idxOf_at idxOf_none idxOf_any flat_len chunk_flat map_vw_rows hasRefL_flat drop_cons chunk_I len_I vw_I noref_I hmix eLI dLI dLI_e ru_countE cutL_noref hasRefL_append upL_noref)
variable {Γ : Gam}
namespace R
def eRa (a : Rain × List Int) : List V := [.ag (eRain a.1), .sl 1 (a.2.map eI)]
def dRa : List V → Rain × List Int | [.ag [.i d, .i l, .i h], .sl _ r] => (⟨d, l, h⟩, r.map dI) | _ => (⟨0, 0, 0⟩, [])
theorem dRa_e (a : Rain × List Int) : dRa (eRa a) = a := by obtain ⟨⟨d, l, h⟩, r⟩ := a; simp [dRa, eRa, eRain, dI_eI, Function.comp_def]
noncomputable def KR5 : Gam := KR4.ext 94 (fnG eRa dRa (fun a => 0 ≤ a.1.day ∧ a.1.day < a.2.length) (fun a => right a.1 a.2) (.b))
theorem okKR5 : GOk Tryz.prog KR5 := okKR4.ext (f := 94) Tryz.call94 (fnG_ok fun a h => W94 a.1 a.2 h)
theorem r94 (r : Rain) (l : List Int) : KR5 94 [.ag (eRain r), .sl 1 (l.map eI)] = (0 ≤ r.day ∧ r.day < l.length, .b (right r l)) := (kx KR5 94 (dRa_e (r, l)) rfl :)
def wrongN (l : List Rain) (row : List Int) : Nat → Int
 | 0 => 0
 | k + 1 => wrongN l row k + (if right (l.getD k ⟨0, 0, 0⟩) row then 0 else 1)
theorem wrongN_bd (l : List Rain) (row : List Int) : ∀ k, 0 ≤ wrongN l row k ∧ wrongN l row k ≤ k
 | 0 => by simp [wrongN]
 | k + 1 => by
  have := wrongN_bd l row k
  simp only [wrongN]
  split <;> omega
def wrong (t : Tour) (row : List Int) : Int := wrongN t.rains row t.rains.length
theorem W68 (t : Tour) (row : List Int) (hl : t.rains.length ≤ 10) (h : ∀ r ∈ t.rains, 0 ≤ r.day ∧ r.day < row.length) : PureCall Tryz.prog 68 [.ag (eTour t), .sl 1 (row.map eI)] (.i (wrong t row)) := by
 refine pure_body okKR5 hmix Tryz.func68 cb68 cc68 cs68 cn68 ?_
 obtain ⟨E, hE⟩ : ∃ E, E = t.rains.map eRain := ⟨_, rfl⟩
 have hEl : E.length = t.rains.length := by rw [hE]; exact List.length_map ..
 have hlt0 : t.rains.length ≤ 10 := hl
 simp only [rc68, rs68, eTour, vw_R, vw_F, BL, simprocAttr]
 refine ru_count t.rains.length (fun i => ⟨lkp [(1, .sl 1 (row.map eI)), (5, .i (wrongN t.rains row i)), (9, .sl 3 (t.rains.map eRain)), (10, .i t.rains.length), (11, .i i)], []⟩) ?_ ?_ ?_
 ·simp only [Int.natCast_zero, wrongN, BL, simprocAttr]
 ·intro i hi
  obtain ⟨x, hx⟩ : ∃ x, t.rains[i]? = some x := ⟨_, List.getElem?_eq_getElem hi⟩
  have hlt : (i : Int) < t.rains.length := by omega
  have hrow : (t.rains.map eRain)[i]? = some (eRain x) := by rw [List.getElem?_map, hx]; rfl
  have hg : t.rains.getD i ⟨0, 0, 0⟩ = x := by rw [List.getD_eq_getElem?_getD, hx]; rfl
  have h3 : inI ((i : Int) + 1) := by unfold inI; omega
  have hb := wrongN_bd t.rains row i
  have h4 : inI (wrongN t.rains row i + 1) := by unfold inI; omega
  have g := r94 x row
  have hd := h x (List.mem_of_getElem? hx)
  have hk1 : ((i + 1 : Nat) : Int) = (i : Int) + 1 := by omega
  rw [hk1]
  simp only [wrongN, hg]
  generalize wrongN t.rains row i = o at *
  simp only [eRain] at g hrow
  cases e : right x row with
  | false => simp only [hlt, hrow, g, hd, h3, h4, e, eRain, BL, simprocAttr]
  | true => simp only [hlt, hrow, g, hd, h3, h4, e, eRain, Int.add_zero, BL, simprocAttr]
 ·have hlt : ¬ ((t.rains.length : Int) < t.rains.length) := by omega
  simp only [hlt, wrong, BL, simprocAttr]
end R
end Go.CS
set_option maxHeartbeats 4000000
namespace Go.CS
open Go.Fam Go.Proofs
open Go.C06 (Span eI eIs eSpan gI gR dI dI_eI spanE fnG fnG_ok fnG_at within take_succ_of idxOf idxOf_at idxOf_none idxOf_any flat_len chunk_flat map_vw_rows hasRefL_flat drop_cons chunk_I len_I vw_I noref_I hmix eLI dLI dLI_e ru_countE cutL_noref hasRefL_append upL_noref)
variable {Γ : Gam}
namespace R
def dRn : List V → Rain | [.i d, .i l, .i h] => ⟨d, l, h⟩ | _ => ⟨0, 0, 0⟩
def dFr : List V → Fair | [.i p, .sl _ s] => ⟨p, s.map dI⟩ | _ => ⟨0, []⟩
def dTr : List V → Tour | [.i a, .i b, .sl _ r, .i c, .sl _ f, .i d, .i e] => ⟨a, b, r.map dRn, c, f.map dFr, d, e⟩ | _ => exT
theorem dRn_e (r : Rain) : dRn (eRain r) = r := rfl
theorem dFr_e (r : Fair) : dFr (eFair r) = r := by obtain ⟨p, s⟩ := r; simp [dFr, eFair, dI_eI, Function.comp_def]
theorem dTr_e (t : Tour) : dTr (eTour t) = t := by
 obtain ⟨a, b, r, c, f, d, e⟩ := t
 show Tour.mk a b ((r.map eRain).map dRn) c ((f.map eFair).map dFr) d e = _
 rw [List.map_map, List.map_map, show dRn ∘ eRain = id from funext dRn_e, show dFr ∘ eFair = id from funext dFr_e, List.map_id, List.map_id]
def eTR (a : Tour × Rain) : List V := [.ag (eTour a.1), .ag (eRain a.2)]
def dTR : List V → Tour × Rain | [.ag t, .ag r] => (dTr t, dRn r) | _ => (exT, ⟨0, 0, 0⟩)
theorem dTR_e (a : Tour × Rain) : dTR (eTR a) = a := by obtain ⟨t, r⟩ := a; show (dTr (eTour t), dRn (eRain r)) = _; rw [dTr_e, dRn_e]
noncomputable def KR6 : Gam := KR5.ext 92 (fnG eTR dTR (fun a => inI (a.1.days - 1)) (fun a => isRain a.1 a.2) (.b))
theorem okKR6 : GOk Tryz.prog KR6 := okKR5.ext (f := 92) Tryz.call92 (fnG_ok fun a h => W92 a.1 a.2 h)
theorem r92 (t : Tour) (r : Rain) : KR6 92 [.ag (eTour t), .ag (eRain r)] = (inI (t.days - 1), .b (isRain t r)) := (kx KR6 92 (dTR_e (t, r)) rfl :)
def eF1 (a : Fair) : List V := [.ag (eFair a)]
def dF1 : List V → Fair | [.ag t] => dFr t | _ => ⟨0, []⟩
theorem dF1_e (a : Fair) : dF1 (eF1 a) = a := dFr_e a
noncomputable def KR7 : Gam := KR6.ext 93 (fnG eF1 dF1 (fun a => a.sells.length < 10000000) isFair (.b))
theorem okKR7 : GOk Tryz.prog KR7 := okKR6.ext (f := 93) Tryz.call93 (fnG_ok fun a h => W93 a h)
theorem r93 (x : Fair) : KR7 93 [.ag (eFair x)] = (x.sells.length < 10000000, .b (isFair x)) := (kx KR7 93 (dF1_e x) rfl :)
structure CT (t : Tour) : Prop where
 days : within t.days 1 6 = true
 step : within t.step 0 3 = true
 wrong : within t.wrong 0 10 = true
 reach : within t.reach 0 4 = true
 stock : within t.stock 0 999 = true
 rl : t.rains.length ≤ 10
 fl : within t.fairs.length 1 4 = true
 rok : ∀ r ∈ t.rains, isRain t r = true
 fok : ∀ f ∈ t.fairs, isFair f = true ∧ f.sells.length < 10000000
theorem CT_ex : CT exT := by
 refine ⟨by decide, by decide, by decide, by decide, by decide, by decide, by decide, ?_, ?_⟩
 ·decide
 ·decide
theorem W66 (t : Tour) (h : CT t) : PureCall Tryz.prog 66 [.ag (eTour t)] (.i 0) := by
 refine pure_body okKR7 hmix Tryz.func66 cb66 cc66 cs66 cn66 ?_
 have g := fun n lo hi => lft KR7 (r91 n lo hi) rfl
 have h1 := h.days
 have h2 := h.step
 have h3 := h.wrong
 have h4 := h.reach
 have h5 := h.stock
 have h6 := h.fl
 have h7 : ¬ (t.rains.length : Int) > 10 := by have := h.rl; omega
 have h7b : ¬ (10 : Int) < t.rains.length := h7
 have hfl : t.fairs.length ≤ 4 := by have := h.fl; simp [within] at this; omega
 have hrl := h.rl
 have hin : inI (t.days - 1) := by have := h.days; simp [within] at this; unfold inI; omega
 have hvR : ∀ H n, (t.rains.map eRain).map (fun r => r.map (vw H (n + 1))) = t.rains.map eRain := fun H n => vw_R H n _
 simp only [rc66, rs66, eTour, vw_R, vw_F, g, h1, h2, h3, h4, h5, h6, h7, h7b, BL, simprocAttr]
 refine ru_count t.rains.length (fun i => ⟨lkp [(1, .pa [V.i t.days, V.i t.step, V.sl 3 (List.map eRain t.rains), V.i t.wrong, V.sl 2 (List.map eFair t.fairs), V.i t.reach, V.i t.stock]), (49, .sl 3 (t.rains.map eRain)), (50, .i t.rains.length), (51, .i i)], []⟩) ?_ ?_ ?_
 ·simp only [Int.natCast_zero, BL, simprocAttr]
 ·intro i hi
  obtain ⟨x, hx⟩ : ∃ x, t.rains[i]? = some x := ⟨_, List.getElem?_eq_getElem hi⟩
  have hlt : (i : Int) < t.rains.length := by omega
  have hrow : (t.rains.map eRain)[i]? = some (eRain x) := by rw [List.getElem?_map, hx]; rfl
  have h8 : inI ((i : Int) + 1) := by unfold inI; omega
  have g2 := lft KR7 (r92 t x) rfl
  have e := h.rok x (List.mem_of_getElem? hx)
  have hk1 : ((i + 1 : Nat) : Int) = (i : Int) + 1 := by omega
  rw [hk1]
  simp only [eRain, eTour] at g2 hrow
  simp only [hlt, hrow, g2, h8, e, hin, eRain, vw_R, vw_F, BL, simprocAttr]
 ·have hlt : ¬ ((t.rains.length : Int) < t.rains.length) := by omega
  simp only [hlt, vw_R, vw_F, BL, simprocAttr]
  refine ru_count t.fairs.length (fun i => ⟨lkp [(61, .sl 2 (t.fairs.map eFair)), (62, .i t.fairs.length), (63, .i i)], []⟩) ?_ ?_ ?_
  ·simp only [Int.natCast_zero, BL, simprocAttr]
  ·intro i hi
   obtain ⟨x, hx⟩ : ∃ x, t.fairs[i]? = some x := ⟨_, List.getElem?_eq_getElem hi⟩
   have hlt : (i : Int) < t.fairs.length := by omega
   have hrow : (t.fairs.map eFair)[i]? = some (eFair x) := by rw [List.getElem?_map, hx]; rfl
   have h8 : inI ((i : Int) + 1) := by unfold inI; omega
   have g2 := r93 x
   obtain ⟨e, e2⟩ := h.fok x (List.mem_of_getElem? hx)
   have hk1 : ((i + 1 : Nat) : Int) = (i : Int) + 1 := by omega
   rw [hk1]
   simp only [eFair] at g2 hrow
   simp only [hlt, hrow, g2, h8, e, e2, eFair, BL, simprocAttr]
  ·have hlt : ¬ ((t.fairs.length : Int) < t.fairs.length) := by omega
   simp only [hlt, BL, simprocAttr]
end R
end Go.CS
set_option maxHeartbeats 4000000
namespace Go.CS
open Go.Fam Go.Proofs
open Go.C06 (Span eI eIs eSpan gI gR dI dI_eI spanE fnG fnG_ok fnG_at within take_succ_of idxOf idxOf_at idxOf_none idxOf_any flat_len chunk_flat map_vw_rows hasRefL_flat drop_cons chunk_I len_I vw_I noref_I hmix eLI dLI dLI_e ru_countE cutL_noref hasRefL_append upL_noref)
variable {Γ : Gam}
namespace R
instance (n : Int) : Decidable (inI n) := by unfold inI; infer_instance
def atL (l : List Int) (i : Nat) : Int := l.getD i 0
def fairAt (t : Tour) (n : Int) : Fair := t.fairs.getD n.toNat ⟨0, []⟩
def soldAt (t : Tour) (route truth : List Int) (x : Int × Int) (i : Nat) : Int := min x.2 ((fairAt t (atL route i)).sells.getD (atL truth i).toNat 0)
def sellsK (t : Tour) (route truth : List Int) : Nat → Int × Int
 | 0 => (0, t.stock)
 | i + 1 =>
  let x := sellsK t route truth i
  (x.1 + (fairAt t (atL route i)).price * soldAt t route truth x i, x.2 - soldAt t route truth x i)
structure COs (t : Tour) (route truth : List Int) (x : Int × Int) (i : Nat) : Prop where
 n0 : 0 ≤ atL route i
 n1 : atL route i < t.fairs.length
 il : i < truth.length
 v0 : 0 ≤ atL truth i
 v1 : atL truth i < (fairAt t (atL route i)).sells.length
 i1 : inI ((fairAt t (atL route i)).price * soldAt t route truth x i)
 i2 : inI (x.1 + (fairAt t (atL route i)).price * soldAt t route truth x i)
 i3 : inI (x.2 - soldAt t route truth x i)
def eWt (t : Tour) (tr : List (List Int)) : List V := eTour t ++ [.sl 1 (tr.map fun r => [.sl 1 (r.map eI)])]
structure CS7 (t : Tour) (route truth : List Int) : Prop where
 len : route.length ≤ 1000
 ok : ∀ i, i < route.length → COs t route truth (sellsK t route truth i) i
def sells (t : Tour) (route truth : List Int) : Int × Int := sellsK t route truth route.length
theorem W70 (t : Tour) (tr : List (List Int)) (route truth : List Int) (h : CS7 t route truth) : PureCall Tryz.prog 70 [.pa (eWt t tr), .sl 1 (route.map eI), .sl 1 (truth.map eI)] (.ag [.i (sells t route truth).1, .i (sells t route truth).2]) := by
 refine pure_body okKR7 hmix Tryz.func70 cb70 cc70 cs70 cn70 ?_
 have hl := h.len
 obtain ⟨T, hT⟩ : ∃ T, T = tr.map fun r => [V.sl 1 (r.map eI)] := ⟨_, rfl⟩
 have hE : eWt t tr = [.i t.days, .i t.step, .sl 3 (t.rains.map eRain), .i t.wrong, .sl 2 (t.fairs.map eFair), .i t.reach, .i t.stock, .sl 1 T] := by rw [hT]; rfl
 rw [hE]
 simp only [rc70, rs70, BL, simprocAttr]
 refine ru_count route.length (fun i => ⟨lkp [(0, .pa [.i t.days, .i t.step, .sl 3 (t.rains.map eRain), .i t.wrong, .sl 2 (t.fairs.map eFair), .i t.reach, .i t.stock, .sl 1 T]), (2, .sl 1 (truth.map eI)), (6, .ad 0 0 0), (7, .ad 1 0 0), (18, .sl 1 (route.map eI)), (19, .i route.length), (20, .i i)], [.cells 0 [.i 0, .i 0], .cells 0 [.i (sellsK t route truth i).1, .i (sellsK t route truth i).2]]⟩) ?_ ?_ ?_
 ·simp only [Int.natCast_zero, sellsK, BL, simprocAttr]
 ·intro i hi
  have c := h.ok i hi
  obtain ⟨n, hn⟩ : ∃ n, route[i]? = some n := ⟨_, List.getElem?_eq_getElem hi⟩
  obtain ⟨v, hv⟩ : ∃ v, truth[i]? = some v := ⟨_, List.getElem?_eq_getElem c.il⟩
  have en : atL route i = n := by unfold atL; rw [List.getD_eq_getElem?_getD, hn]; rfl
  have ev : atL truth i = v := by unfold atL; rw [List.getD_eq_getElem?_getD, hv]; rfl
  obtain ⟨n0, n1, il, v0, v1, i1, i2, i3⟩ := c
  simp only [sellsK]
  unfold soldAt at *
  simp only [en, ev] at n0 n1 v0 v1 i1 i2 i3 ⊢
  obtain ⟨x, hx⟩ : ∃ x, t.fairs[n.toNat]? = some x := ⟨_, List.getElem?_eq_getElem (by omega)⟩
  have ex : fairAt t n = x := by unfold fairAt; rw [List.getD_eq_getElem?_getD, hx]; rfl
  simp only [ex] at v1 i1 i2 i3 ⊢
  obtain ⟨s, hs⟩ : ∃ s, x.sells[v.toNat]? = some s := ⟨_, List.getElem?_eq_getElem (by omega)⟩
  have es : x.sells.getD v.toNat 0 = s := by rw [List.getD_eq_getElem?_getD, hs]; rfl
  simp only [es] at i1 i2 i3 ⊢
  have hlt : (i : Int) < route.length := by omega
  have hlu : (i : Int) < truth.length := by omega
  have hr1 : (route.map eI)[i]? = some [.i n] := by rw [List.getElem?_map, hn]; rfl
  have hr2 : (truth.map eI)[i]? = some [.i v] := by rw [List.getElem?_map, hv]; rfl
  have hr3 : (t.fairs.map eFair)[n.toNat]? = some [.i x.price, .sl 1 (x.sells.map eI)] := by rw [List.getElem?_map, hx]; rfl
  have hr4 : (x.sells.map eI)[v.toNat]? = some [.i s] := by rw [List.getElem?_map, hs]; rfl
  have h8 : inI ((i : Int) + 1) := by unfold inI; omega
  have hk1 : ((i + 1 : Nat) : Int) = (i : Int) + 1 := by omega
  rw [hk1]
  generalize sellsK t route truth i = o at *
  obtain ⟨o1, o2⟩ := o
  simp only at i1 i2 i3
  simp only [hlt, hlu, hr1, hr2, hr3, hr4, h8, n0, n1, v0, v1, i1, i2, i3, vw_R, vw_F, BL, simprocAttr]
 ·have hlt : ¬ ((route.length : Int) < route.length) := by omega
  simp only [hlt, sells, BL, simprocAttr]
end R
end Go.CS
set_option maxHeartbeats 4000000
namespace Go.CS
open Go.Fam Go.Proofs
open Go.C06 (Span eI eIs eSpan gI gR dI dI_eI spanE fnG fnG_ok fnG_at within take_succ_of idxOf idxOf_at idxOf_none idxOf_any flat_len chunk_flat map_vw_rows hasRefL_flat drop_cons chunk_I len_I vw_I noref_I hmix eLI dLI dLI_e ru_countE cutL_noref hasRefL_append upL_noref)
variable {Γ : Gam}
namespace R
def eSa (a : Int × Int) : List V := [.ag [.i a.1, .i a.2]]
def dSa : List V → Int × Int | [.ag [.i a, .i b]] => (a, b) | _ => (0, 0)
noncomputable def KR8 : Gam := KR7.ext 55 (fnG eSa dSa (fun _ => True) (fun a => a.1) (.i))
theorem okKR8 : GOk Tryz.prog KR8 := okKR7.ext (f := 55) Tryz.call55 (fnG_ok fun a h => W55 a.1 a.2)
theorem r55 (a b : Int) : KR8 55 [.ag [.i a, .i b]] = (True, .i a) := (kx KR8 55 (show dSa (eSa (a, b)) = (a, b) from rfl) rfl :)
def eLs (r : List Int) : List V := [.sl 1 (r.map eI)]
def dLs : List V → List Int | [.sl _ l] => l.map dI | _ => []
theorem dLs_e (r : List Int) : dLs (eLs r) = r := by show (r.map eI).map dI = r; rw [List.map_map, show dI ∘ eI = id from funext dI_eI, List.map_id]
def eW7 (a : (Tour × List (List Int)) × List Int × List Int) : List V := [.pa (eWt a.1.1 a.1.2), .sl 1 (a.2.1.map eI), .sl 1 (a.2.2.map eI)]
def dWt : List V → Tour × List (List Int) | [a, b, c, d, e, f, g, .sl _ l] => (dTr [a, b, c, d, e, f, g], l.map dLs) | _ => (exT, [])
theorem dWt_e (a : Tour × List (List Int)) : dWt (eWt a.1 a.2) = a := by
 obtain ⟨t, l⟩ := a
 show (dTr (eTour t), (l.map eLs).map dLs) = _
 rw [List.map_map, show dLs ∘ eLs = id from funext dLs_e, List.map_id, dTr_e]
def dW7 : List V → (Tour × List (List Int)) × List Int × List Int | [.pa w, .sl _ a, .sl _ b] => (dWt w, a.map dI, b.map dI) | _ => ((exT, []), [], [])
theorem dW7_e (a : (Tour × List (List Int)) × List Int × List Int) : dW7 (eW7 a) = a := by
 obtain ⟨w, a, b⟩ := a
 show (dWt (eWt w.1 w.2), (a.map eI).map dI, (b.map eI).map dI) = _
 rw [dWt_e, List.map_map, List.map_map, show dI ∘ eI = id from funext dI_eI, List.map_id, List.map_id]
noncomputable def KR9 : Gam := KR8.ext 70 (fnG eW7 dW7 (fun a => CS7 a.1.1 a.2.1 a.2.2) (fun a => sells a.1.1 a.2.1 a.2.2) fun s => .ag [.i s.1, .i s.2])
theorem okKR9 : GOk Tryz.prog KR9 := okKR8.ext (f := 70) Tryz.call70 (fnG_ok fun a h => W70 a.1.1 a.1.2 a.2.1 a.2.2 h)
theorem r70 (t : Tour) (tr : List (List Int)) (a b : List Int) : KR9 70 [.pa (eWt t tr), .sl 1 (a.map eI), .sl 1 (b.map eI)] = (CS7 t a b, .ag [.i (sells t a b).1, .i (sells t a b).2]) := (kx KR9 70 (dW7_e ((t, tr), a, b)) rfl :)
def bndK (t : Tour) (route a : List Int) (l : List (List Int)) : Nat → Int × Int
 | 0 => ((sells t route a).1, (sells t route a).1)
 | i + 1 => (min (bndK t route a l i).1 (sells t route (l.getD i [])).1, max (bndK t route a l i).2 (sells t route (l.getD i [])).1)
def bnd (t : Tour) (route a : List Int) (l : List (List Int)) : Int × Int := bndK t route a l l.length
theorem W54 (t : Tour) (a : List Int) (l : List (List Int)) (route : List Int) (hl : l.length ≤ 5000) (h0 : CS7 t route a) (h : ∀ b ∈ l, CS7 t route b) : PureCall Tryz.prog 54 [.pa (eWt t (a :: l)), .sl 1 (route.map eI), .fn 55 []] (.ag [.i (bnd t route a l).1, .i (bnd t route a l).2]) := by
 refine pure_body okKR9 hmix Tryz.func54 cb54 cc54 cs54 cn54 ?_
 have g := r70 t (a :: l) route
 have gf := fun x y => lft KR9 (r55 x y) rfl
 have hE : eWt t (a :: l) = [.i t.days, .i t.step, .sl 3 (t.rains.map eRain), .i t.wrong, .sl 2 (t.fairs.map eFair), .i t.reach, .i t.stock, .sl 1 (eLs a :: l.map eLs)] := rfl
 rw [hE] at g ⊢
 obtain ⟨L, hL⟩ : ∃ L, L = l.map eLs := ⟨_, rfl⟩
 have hLl : L.length = l.length := by rw [hL]; exact List.length_map ..
 rw [← hL] at g ⊢
 have ga := g a
 have eA : eLs a = [.sl 1 (a.map eI)] := rfl
 rw [eA] at g ga ⊢
 simp only [rc54, rs54, ga, gf, h0, hLl, BL, simprocAttr]
 refine ⟨by omega, ⟨by omega, by omega⟩, ?_⟩
 refine ru_count l.length (fun i => ⟨lkp [(0, .pa [.i t.days, .i t.step, .sl 3 (t.rains.map eRain), .i t.wrong, .sl 2 (t.fairs.map eFair), .i t.reach, .i t.stock, .sl 1 ([.sl 1 (a.map eI)] :: L)]), (1, .sl 1 (route.map eI)), (2, .fn 55 []), (6, .ad 0 0 0), (8, .ad 1 0 0), (29, .sl 1 L), (30, .i l.length), (31, .i i)], [.cells 0 [.i 0, .i 0], .cells 0 [.i (bndK t route a l i).1, .i (bndK t route a l i).2]]⟩) ?_ ?_ ?_
 ·have ht : List.take l.length L = L := List.take_of_length_le (by omega)
  simp only [Int.natCast_zero, bndK, ht, hLl, BL, simprocAttr]
 ·intro i hi
  obtain ⟨b, hb⟩ : ∃ b, l[i]? = some b := ⟨_, List.getElem?_eq_getElem hi⟩
  have hlt : (i : Int) < l.length := by omega
  have hrow : L[i]? = some [.sl 1 (b.map eI)] := by rw [hL, List.getElem?_map, hb]; rfl
  have hg : l.getD i [] = b := by rw [List.getD_eq_getElem?_getD, hb]; rfl
  have h8 : inI ((i : Int) + 1) := by unfold inI; omega
  have gb := g b
  have cb := h b (List.mem_of_getElem? hb)
  have hk1 : ((i + 1 : Nat) : Int) = (i : Int) + 1 := by omega
  rw [hk1]
  simp only [bndK, hg]
  generalize bndK t route a l i = o at *
  obtain ⟨o1, o2⟩ := o
  simp only [hlt, hrow, gb, cb, gf, h8, hLl, BL, simprocAttr]
 ·have hlt : ¬ ((l.length : Int) < l.length) := by omega
  simp only [hlt, bnd, BL, simprocAttr]
end R
end Go.CS
set_option maxHeartbeats 4000000
namespace Go.CS
open Go.Fam Go.Proofs
open Go.C06 (Span eI eIs eSpan gI gR dI dI_eI spanE fnG fnG_ok fnG_at within take_succ_of idxOf idxOf_at idxOf_none idxOf_any flat_len chunk_flat map_vw_rows hasRefL_flat drop_cons chunk_I len_I vw_I noref_I hmix eLI dLI dLI_e ru_countE cutL_noref hasRefL_append upL_noref)
variable {Γ : Gam}
theorem W4of (h13 : PureCall Tryz.prog 13 [.ag (R.eTour R.exT)] (.tp [.i 65, .i 0])) : PureCall Tryz.prog 4 [] (.b true) := by
 obtain ⟨K, hK⟩ : ∃ K : Gam, K = (((R.KR9.ext 12 fun l => (l = [], .ag (eCtr exF))).ext 11 fun l => (l = [.ag (eCtr exF), .i 3], .tp [.ag [.i 200, .i 250], .i 0])).ext 14 fun l => (l = [], .ag (R.eTour R.exT))).ext 13 fun l => (l = [.ag (R.eTour R.exT)], .tp [.i 65, .i 0]) := ⟨_, rfl⟩
 have ok : GOk Tryz.prog K := by
  rw [hK]
  refine GOk.ext (GOk.ext (GOk.ext (R.okKR9.ext (f := 12) Tryz.call12 ?_) (f := 11) Tryz.call11 ?_) (f := 14) Tryz.call14 ?_) (f := 13) Tryz.call13 ?_
  ·rintro _ rfl
   exact X21
  ·rintro _ rfl
   have := X20 exF 3 c38F
   rw [exF_fee] at this
   exact this
  ·rintro _ rfl
   exact R.W14
  ·rintro _ rfl
   exact h13
 have x12 : K 12 [] = (True, .ag (eCtr exF)) := by rw [hK]; show (([] : List V) = [], _) = _; simp
 have x11 : K 11 [.ag (eCtr exF), .i 3] = (True, .tp [.ag [.i 200, .i 250], .i 0]) := by rw [hK]; show (([.ag (eCtr exF), .i 3] : List V) = _, _) = _; simp
 have x14 : K 14 [] = (True, .ag (R.eTour R.exT)) := by rw [hK]; show (([] : List V) = [], _) = _; simp
 have x13 : K 13 [.ag (R.eTour R.exT)] = (True, .tp [.i 65, .i 0]) := by rw [hK]; show (([.ag (R.eTour R.exT)] : List V) = _, _) = _; simp
 have x5 : K 5 [.sl 1 ([1, 2, 0, 3].map eI)] = (([1, 2, 0, 3] : List Int).length ≤ 1000000, .tp [.i (S.exchR [1, 2, 0, 3]).1.length, .i (S.exchR [1, 2, 0, 3]).2]) := by rw [hK]; exact S.q5 [1, 2, 0, 3]
 have e1 : (S.exchR [1, 2, 0, 3]).1.length = 2 := by decide +kernel
 have e2 : (S.exchR [1, 2, 0, 3]).2 = 0 := by decide +kernel
 rw [e1, e2] at x5
 have a3 : (eCtr exF).map (vw [] 7) = eCtr exF := by kernel_rfl
 have a6 : hasRefL (eCtr exF) = false := by kernel_rfl
 have b3 : ∀ H, (R.eTour R.exT).map (vw H 7) = R.eTour R.exT := by
  intro H
  show [V.i 3, V.i 2, V.sl 3 ((R.exT.rains.map R.eRain).map fun r => r.map (vw H 6)), V.i 1, V.sl 2 ((R.exT.fairs.map R.eFair).map fun r => r.map (vw H 6)), V.i 1, V.i 7] = _
  rw [R.vw_R, R.vw_F]; rfl
 have b6 : hasRefL (R.eTour R.exT) = false := by kernel_rfl
 have q40 : EqFlat Tryz.prog 40 2 := EqFlat.of (fs := _) (show Tryz.prog.underlying 40 = some (.struct (Tryz.prog.fieldsOf 40)) by kernel_rfl) (by kernel_rfl) (by kernel_rfl)
 refine pure_body ok hmix Tryz.func4 cb4 cc4 cs4 cn4 ?_
 clear hK
 generalize eCtr exF = E at *
 generalize R.eTour R.exT = X at *
 have hd : List.drop 1 (List.drop 1 (List.drop 1 (List.drop 1 [[V.i 0], [V.i 0], [V.i 0], [V.i 0]].flatten))) = [] := rfl
 have hck : chunk 1 [V.i 1, V.i 2, V.i 0, V.i 3] 0 4 = [[V.i 1], [V.i 2], [V.i 0], [V.i 3]] := rfl
 have x5' : K 5 [.sl 1 [[V.i 1], [V.i 2], [V.i 0], [V.i 3]]] = (True, .tp [.i ((2 : Nat) : Int), .i 0]) := by
  refine x5.trans (Prod.ext (propext ⟨fun _ => trivial, fun _ => by decide⟩) rfl)
 clear x5
 simp only [rc4, rs4, x12, x11, x14, x13, x5', hd, hck, a3, a6, b3, b6, q40, BL, simprocAttr]
 rfl
end Go.CS
set_option maxHeartbeats 4000000
namespace Go.CS
open Go.Fam Go.Proofs
open Go.C06 (Span eI eIs eSpan gI gR dI dI_eI spanE fnG fnG_ok fnG_at within take_succ_of idxOf idxOf_at idxOf_none idxOf_any flat_len chunk_flat map_vw_rows hasRefL_flat drop_cons chunk_I len_I vw_I noref_I hmix eLI dLI dLI_e ru_countE cutL_noref hasRefL_append upL_noref)
variable {Γ : Gam}
namespace R
open Go.C06 (hdD putI)
theorem gI_map (L : List Int) : (L.map V.i).map gI = L := by
 rw [List.map_map]
 exact List.map_id'' (fun _ => rfl) L
def fitR (step : Int) (pre : List Int) (n : Int) : Bool := decide (pre.length = 0) || within (n - pre.getD (pre.length - 1) 0) (-step) step
def rowsP (m : Nat) (step : Int) : Nat → List Int → List (List Int)
 | 0, pre => [pre]
 | k + 1, pre => ((List.range (m + 1)).filter fun (n : Nat) => fitR step pre n).flatMap fun (n : Nat) => rowsP m step k (pre ++ [(n : Int)])
def caps96 (l d m : Nat) (st : Int) : List V := [.pa [.i d], .pa [.yl l], .ad 5 0 0, .pa [.i m], .pa [.i st], .ad 6 0 0]
def zR (l d m : Nat) (st : Int) (p : List Int) : List V := [bV (.cells 0 (p.map V.i)), bV (.cells 0 [.rf 4 0 0 d 1]), bV (.cells 0 [.fn 96 (caps96 l d m st)])]
def encR (l d m : Nat) (st : Int) (p : List Int) : List V := gyE [.rf 4 0 0 d 1] (zR l d m st p)
structure D96 where
 pre : List Int
 tl : List Int
 m : Nat
 st : Int
 caps : List V
 rest : List (List V)
 b : V × V × V
 l : Nat
def D96.d (x : D96) : Nat := x.pre.length + x.tl.length
def eA96 (x : D96) : List V := .i x.pre.length :: caps96 x.l x.d x.m x.st
def blk96 (x : D96) (b : Bool) (c : V × V × V) (ys : List (List V)) (row : List Int) : List Blk := [.gh x.caps (some ((.b b :: [c.1, c.2.1, c.2.2]) :: ys)), vB c.1, vB c.2.1, vB c.2.2, .cells 0 (row.map V.i), .cells 0 [.rf 4 0 0 x.d 1], .cells 0 [.fn 96 (caps96 x.l x.d x.m x.st)]]
def eH96 (x : D96) : List Blk := blk96 x true x.b ((rowsP x.m x.st x.tl.length x.pre).map (encR x.l x.d x.m x.st) ++ x.rest) (x.pre ++ x.tl)
def dec96 (xs : List V) (hp : List Blk) : D96 := match xs, hp with
 | [.i f, _, .pa [.yl l], _, .pa [.i m], .pa [.i st], _], [.gh caps (some ([_, b1, b2, b3] :: ys)), _, _, _, .cells _ cs, _, _] => ⟨(cs.map gI).take f.toNat, (cs.map gI).drop f.toNat, m.toNat, st, caps, ys.drop (rowsP m.toNat st ((cs.map gI).drop f.toNat).length ((cs.map gI).take f.toNat)).length, (b1, b2, b3), l⟩
 | _, _ => ⟨[], [], 0, 0, [], [], (.u, .u, .u), 0⟩
theorem dec96_e (x : D96) : dec96 (eA96 x) (eH96 x) = x := by
 obtain ⟨pre, tl, m, st, caps, rest, ⟨b1, b2, b3⟩, l⟩ := x
 simp only [dec96, eA96, eH96, blk96, caps96, gI_map, Int.toNat_natCast, List.take_left', List.drop_left']
 rw [List.drop_append_of_le_length (by simp)]
 simp
structure C96 (k : Nat) (al : List V → Prop) (x : D96) : Prop where
 y : x.caps[0]? = some (.yl x.l)
 k : x.tl.length < k
 len : x.pre.length + x.tl.length ≤ 1000
 m : x.m ≤ 1000
 st : 0 ≤ x.st ∧ x.st ≤ 1000
 p : ∀ v ∈ x.pre, 0 ≤ v ∧ v ≤ 1000
 now : al [x.b.1, x.b.2.1, x.b.2.2]
 one : ∀ bv, al bv → ∃ b1 b2 b3, bv = [b1, b2, b3]
def R96 (al : List V → Prop) (x : D96) (r : V) (hp : List Blk) : Prop :=
 ∃ (b : Bool) (c : V × V × V) (tl : List Int), al [c.1, c.2.1, c.2.2] ∧ tl.length = x.tl.length ∧ r = .b b ∧ hp = blk96 x b c (if b then x.rest else []) (x.pre ++ tl)
noncomputable def HF (k : Nat) : Gam := KR9.extY 96 fun al => hpG eA96 eH96 dec96 (C96 k al) (R96 al)
theorem kF (k : Nat) (al : List V → Prop) (x : D96) : ((HF k).wal al).y 96 al (eA96 x) (eH96 x) = (C96 k al x, R96 al x) :=
 (show ((HF k).wal al).y 96 al _ _ = hpG eA96 eH96 dec96 (C96 k al) (R96 al) _ _ from rfl).trans (hpG_at x (dec96_e x))
theorem W96 (k : Nat) (hG : GOk Tryz.prog (HF k)) (al : List V → Prop) (x : D96) (h : C96 (k + 1) al x) : YCall Tryz.prog 96 al (eA96 x) (eH96 x) (R96 al x) := by
 refine yfun_body (hG.wal al) hmix Tryz.func96 cb96 (lo := 7) cc96 cs96 (by exact cn96) (by rfl) (by decide) ?_
 obtain ⟨pre, tl, m, st, caps, rest, ⟨b1, b2, b3⟩, l⟩ := x
 obtain ⟨hy, hk, hlen, hm, hst, hp, hal, hone⟩ := h
 simp only at hy hk hlen hm hst hp hal
 have hyal : ((HF k).wal al).al = al := rfl
 obtain ⟨d, hd⟩ : ∃ d, d = pre.length + tl.length := ⟨_, rfl⟩
 obtain ⟨f, hf⟩ : ∃ f, f = pre.length := ⟨_, rfl⟩
 have gw : ∀ n lo hi : Int, ((HF k).wal al) 91 [.i n, .i lo, .i hi] = (True, .b (within n lo hi)) := fun n lo hi => r91 n lo hi
 by_cases hfn : f = d
 ·have et : tl = [] := List.length_eq_zero_iff.1 (by omega)
  subst et
  have e0 : (f : Int) = (d : Int) := by omega
  have ey : rowsP m st 0 pre = [pre] := rfl
  have hD : D96.d ⟨pre, [], m, st, caps, rest, (b1, b2, b3), l⟩ = d := hd.symm
  have hD : D96.d ⟨pre, [], m, st, caps, rest, (b1, b2, b3), l⟩ = d := hd.symm
  have hD : D96.d ⟨pre, [], m, st, caps, rest, (b1, b2, b3), l⟩ = d := hd.symm
  simp only [rc96, rs96, eA96, eH96, blk96, caps96, hD, ← hf, e0, ey, encR, zR, hy, hyal, List.length_nil, List.append_nil, BL, simprocAttr]
  rintro b bv' hbv
  obtain ⟨d1, d2, d3, rfl⟩ := hone bv' hbv
  refine ⟨b, (d1, d2, d3), [], hbv, rfl, rfl, ?_⟩
  simp only [blk96, caps96, hD, List.append_nil, BL, simprocAttr]
 ·have e0 : ¬ (f : Int) = (d : Int) := by omega
  obtain ⟨K, hK⟩ : ∃ K, tl.length = K + 1 := ⟨tl.length - 1, by omega⟩
  obtain ⟨rem, hrem⟩ : ∃ rem : Nat → List (List Int), rem = fun j => (((List.range (m + 1)).drop j).filter fun (n : Nat) => fitR st pre n).flatMap fun (n : Nat) => rowsP m st K (pre ++ [(n : Int)]) := ⟨_, rfl⟩
  have hr0 : rowsP m st tl.length pre = rem 0 := by rw [hK, hrem]; rfl
  have hrs : ∀ j, j < m + 1 → rem j = (if fitR st pre (j : Int) = true then rowsP m st K (pre ++ [(j : Int)]) else []) ++ rem (j + 1) := by
   intro j hj
   rw [hrem]
   simp only
   rw [drop_cons (List.getElem?_range hj), List.filter_cons]
   split
   ·rw [List.flatMap_cons]
   ·rfl
  have hre : rem (m + 1) = [] := by
   rw [hrem]
   simp only
   rw [List.drop_eq_nil_iff.2 (by simp)]; rfl
  have im : inI ((m : Int) + 1) := by unfold inI; omega
  have hD : D96.d ⟨pre, tl, m, st, caps, rest, (b1, b2, b3), l⟩ = d := hd.symm
  simp only [rc96, rs96, eA96, eH96, blk96, caps96, hD, ← hf, e0, hr0, im, BL, simprocAttr]
  refine ru_countE (m + 1) (fun j (e : (V × V × V) × List Int) => ⟨lkp [(0, .i f), (3, .ad 5 0 0), (5, .pa [.i st]), (6, .ad 6 0 0), (17, .i ((m : Int) + 1)), (18, .i j)], [.gh caps (some ((.b true :: [e.1.1, e.1.2.1, e.1.2.2]) :: ((rem j).map (encR l d m st) ++ rest))), vB e.1.1, vB e.1.2.1, vB e.1.2.2, .cells 0 ((pre ++ e.2).map V.i), .cells 0 [.rf 4 0 0 d 1], .cells 0 [.fn 96 [.pa [.i d], .pa [.yl l], .ad 5 0 0, .pa [.i m], .pa [.i st], .ad 6 0 0]]]⟩) (fun j e => al [e.1.1, e.1.2.1, e.1.2.2] ∧ e.2.length = tl.length) ((b1, b2, b3), tl) ?_ ⟨hal, rfl⟩ ?_ ?_
  ·simp only [Int.natCast_zero, BL, simprocAttr]
  ·rintro j ⟨⟨c1, c2, c3⟩, t⟩ hj ⟨hc, ht⟩
   simp only at hc ht
   have hjl : (j : Int) < (m : Int) + 1 := by omega
   have i1 : inI ((j : Int) + 1) := by unfold inI; omega
   have i3 : inI ((f : Int) + 1) := by unfold inI; omega
   have hll : (pre ++ t).length = d := by rw [List.length_append]; omega
   have hlm : ((pre ++ t).map V.i).length = d := by rw [List.length_map, hll]
   obtain ⟨t0, tr, htt⟩ : ∃ t0 tr, t = t0 :: tr := by
    cases t with
    | nil => simp at ht; omega
    | cons a b => exact ⟨a, b, rfl⟩
   have htl : t.tail.length = K := by rw [List.length_tail]; omega
   have hset : (pre ++ t).set f (j : Int) = pre ++ [(j : Int)] ++ t.tail := by
    rw [htt, hf, List.set_append_right _ _ (Nat.le_refl _)]
    simp
   have p1 := putI (pre ++ t) f (j : Int) (by omega)
   rw [hset] at p1
   have hfd : (f : Int) < d ∧ f + 1 ≤ d := by omega
   have hd' : (pre ++ [(j : Int)]).length + t.tail.length = d := by simp only [List.length_append, List.length_singleton]; omega
   have hpj : ∀ v ∈ pre ++ [(j : Int)], 0 ≤ v ∧ v ≤ 1000 := by
    intro v hv
    rcases List.mem_append.1 hv with hv | hv
    ·exact hp v hv
    ·have : v = (j : Int) := by simpa using hv
     omega
   have hr1 := hrs j (by omega)
   have hD2 : D96.d ⟨pre ++ [(j : Int)], t.tail, m, st, caps, (rem (j + 1)).map (encR l d m st) ++ rest, (c1, c2, c3), l⟩ = d := hd'
   have g := kF k al ⟨pre ++ [(j : Int)], t.tail, m, st, caps, (rem (j + 1)).map (encR l d m st) ++ rest, (c1, c2, c3), l⟩
   have hp1 : (((pre ++ [(j : Int)]).length : Nat) : Int) = (f : Int) + 1 := by simp only [List.length_append, List.length_singleton]; omega
   simp only [eA96, eH96, blk96, caps96, hD2, hp1, htl] at g
   rw [← List.append_assoc ((rowsP m st K (pre ++ [(j : Int)])).map _), ← List.map_append] at g
   by_cases hz : f = 0
   ·have hfit : fitR st pre (j : Int) = true := by unfold fitR; rw [← hf, hz]; rfl
    rw [if_pos hfit] at hr1
    rw [← hr1] at g
    have hgt : ¬ ((0 : Int) < (f : Int)) := by omega
    have hrj := hrs j (by omega)
    rw [if_pos hfit] at hrj
    simp only [hjl, hgt, hfd, hll, hset, p1, i3, hyal, g, Nat.mul_one, BL, simprocAttr]
    refine ⟨⟨hy, by show t.tail.length < k; omega, by show (pre ++ [(j : Int)]).length + t.tail.length ≤ 1000; simp only [List.length_append, List.length_singleton]; omega, hm, hst, hpj, hc, hone⟩, ?_⟩
    rintro r hp' ⟨bb, c', t', hc', ht', rfl, rfl⟩
    obtain ⟨c4, c5, c6⟩ := c'
    have ht2 : ((j : Int) :: t').length = tl.length := by rw [List.length_cons, ht']; show t.tail.length + 1 = _; omega
    have hpa : pre ++ [(j : Int)] ++ t' = pre ++ ((j : Int) :: t') := by simp
    cases bb with
    | false =>
     simp only [blk96, hD2, hpa, caps96, BL, simprocAttr]
     exact ⟨false, (c4, c5, c6), (j : Int) :: t', hc', ht2, rfl, by simp only [blk96, caps96, hD, BL, simprocAttr] ⟩
    | true =>
     simp only [blk96, hD2, hpa, caps96, i1, BL, simprocAttr]
     exact ⟨((c4, c5, c6), (j : Int) :: t'), ⟨hc', ht2⟩, by rw [Int.natCast_add, Int.natCast_one]⟩
   ·have hgt : (0 : Int) < (f : Int) := by omega
    have i2 : inI (((f - 1 : Nat) : Int)) ∧ f - 1 + 1 ≤ d := by unfold inI; omega
    have hv1 : (f : Int) - 1 = ((f - 1 : Nat) : Int) := by omega
    have hv2 : ((f - 1 : Nat) : Int) < d := by omega
    obtain ⟨v, hv⟩ : ∃ v, pre[f - 1]? = some v := ⟨_, List.getElem?_eq_getElem (by omega)⟩
    have hvi := hp v (List.mem_of_getElem? hv)
    have hd1 := hdD (pre ++ t) (f - 1) (by omega)
    have hgv : (pre ++ t).getD (f - 1) 0 = v := by rw [List.getD_eq_getElem?_getD, List.getElem?_append_left (by omega), hv]; rfl
    rw [hgv] at hd1
    have i4 : inI ((j : Int) - v) := by unfold inI; omega
    have i5 : inI (-st) := by unfold inI; omega
    have hgp : pre.getD (pre.length - 1) 0 = v := by rw [← hf, List.getD_eq_getElem?_getD, hv]; rfl
    have hF : fitR st pre (j : Int) = within ((j : Int) - v) (-st) st := by
     unfold fitR
     rw [hgp, ← hf]
     simp [hz]
    cases hw : within ((j : Int) - v) (-st) st with
    | false =>
     rw [if_neg (by rw [hF, hw]; simp), List.nil_append] at hr1
     simp only [hjl, hgt, i1, i2, hv1, hv2, hd1, i4, i5, gw, hw, hll, hlm, Nat.mul_one, BL, simprocAttr]
     exact ⟨((c1, c2, c3), t), ⟨hc, ht⟩, by rw [hr1, Int.natCast_add, Int.natCast_one]⟩
    | true =>
     have hfit : fitR st pre (j : Int) = true := by rw [hF, hw]
     rw [if_pos hfit] at hr1
     rw [← hr1] at g
     have hrj := hrs j (by omega)
     rw [if_pos hfit] at hrj
     simp only [hjl, hgt, hfd, i2, hv1, hv2, hd1, i4, i5, gw, hw, hlm, hll, hset, p1, i3, hyal, g, Nat.mul_one, BL, simprocAttr]
     refine ⟨⟨hy, by show t.tail.length < k; omega, by show (pre ++ [(j : Int)]).length + t.tail.length ≤ 1000; simp only [List.length_append, List.length_singleton]; omega, hm, hst, hpj, hc, hone⟩, ?_⟩
     rintro r hp' ⟨bb, c', t', hc', ht', rfl, rfl⟩
     obtain ⟨c4, c5, c6⟩ := c'
     have ht2 : ((j : Int) :: t').length = tl.length := by rw [List.length_cons, ht']; show t.tail.length + 1 = _; omega
     have hpa : pre ++ [(j : Int)] ++ t' = pre ++ ((j : Int) :: t') := by simp
     cases bb with
     | false =>
      simp only [blk96, hD2, hpa, caps96, BL, simprocAttr]
      exact ⟨false, (c4, c5, c6), (j : Int) :: t', hc', ht2, rfl, by simp only [blk96, caps96, hD, BL, simprocAttr] ⟩
     | true =>
      simp only [blk96, hD2, hpa, caps96, i1, BL, simprocAttr]
      exact ⟨((c4, c5, c6), (j : Int) :: t'), ⟨hc', ht2⟩, by rw [Int.natCast_add, Int.natCast_one]⟩
  ·rintro ⟨⟨c1, c2, c3⟩, t⟩ ⟨hc, ht⟩
   simp only at hc ht
   have hjl : ¬ (((m + 1 : Nat) : Int) < (m : Int) + 1) := by omega
   simp only [hjl, hre, BL, simprocAttr]
   exact ⟨true, (c1, c2, c3), t, hc, ht, rfl, by simp only [blk96, caps96, hD, BL, simprocAttr] ⟩
theorem okHF : ∀ k, GOk Tryz.prog (HF k) := by
 intro k
 induction k with
 | zero =>
  refine okKR9.extY (f := 96) Tryz.call96 fun al => hpG_y fun x hx => ?_
  have := hx.k
  omega
 | succ k ih => exact okKR9.extY (f := 96) Tryz.call96 fun al => hpG_y fun x hx => W96 k ih al x hx
end R
end Go.CS
set_option maxHeartbeats 4000000
namespace Go.CS
open Go.Fam Go.Proofs
open Go.C06 (Span eI eIs eSpan gI gR dI dI_eI spanE fnG fnG_ok fnG_at within take_succ_of idxOf idxOf_at idxOf_none idxOf_any flat_len chunk_flat map_vw_rows hasRefL_flat drop_cons chunk_I len_I vw_I noref_I hmix eLI dLI dLI_e ru_countE cutL_noref hasRefL_append upL_noref)
variable {Γ : Gam}
namespace R
def allR (d m : Nat) (st : Int) : List (List Int) := rowsP m st d []
def capsR (d m : Nat) (st : Int) : List V := [.pa [.i d], .pa [.i m], .pa [.i st]]
def itR (l d m : Nat) (st : Int) (b : V × V × V) : List Blk := [.gh (.yl l :: capsR d m st) (some ((.b true :: [b.1, b.2.1, b.2.2]) :: (allR d m st).map (encR l d m st))), vB b.1, vB b.2.1, vB b.2.2]
theorem vw_yl (hp : List Blk) (n l : Nat) : vw hp (n + 1) (.yl l) = .yl l := rfl
theorem rep_flat (d : Nat) : (List.replicate d [V.i 0]).flatten = List.replicate d (.i 0) := by induction d <;> simp_all [List.replicate_succ]
theorem W95 (al : List V → Prop) (d m : Nat) (st : Int) (l : Nat) (b : V × V × V) (hd : d ≤ 1000) (hm : m ≤ 1000) (hst : 0 ≤ st ∧ st ≤ 1000) (hal : al [b.1, b.2.1, b.2.2]) (hone : ∀ bv, al bv → ∃ b1 b2 b3, bv = [b1, b2, b3]) :
  YCall Tryz.prog 95 al (.yl l :: capsR d m st) (itR l d m st b) (Go.C06.RIt al (.yl l :: capsR d m st)) := by
 refine yfun_body ((okHF 1001).wal al) hmix Tryz.func95 cb95 (lo := 4) cc95 cs95 (by exact cn95) (by rfl) (by decide) ?_
 obtain ⟨b1, b2, b3⟩ := b
 simp only at hal
 have hyal : ((HF 1001).wal al).al = al := rfl
 have g := kF 1001 al ⟨[], List.replicate d 0, m, st, .yl l :: capsR d m st, [], (b1, b2, b3), l⟩
 simp only [eA96, eH96, blk96, caps96, capsR, D96.d, List.length_nil, List.length_replicate, List.nil_append, Nat.zero_add, List.append_nil, Int.natCast_zero, List.map_replicate] at g
 have hd0 : (0 : Int) ≤ d := by omega
 have hd2 : (d : Int) ≤ 2147483648 := by omega
 simp only [rc95, rs95, itR, capsR, allR, hyal, g, hd0, hd2, vw_yl, rep_flat, Int.le_refl, BL, simprocAttr]
 refine ⟨⟨rfl, by simp; omega, by simp; omega, hm, hst, by simp, hal, hone⟩, ?_⟩
 rintro r hp' ⟨bb, c, t, hc, ht, rfl, rfl⟩
 exact ⟨bb, [c.1, c.2.1, c.2.2], if bb then [] else [], _, rfl, by cases bb <;> simp, hc⟩
def t95 (al : List V → Prop) (xs : List V) (hp : List Blk) : Prop × (V → List Blk → Prop) :=
 (∃ d m st l b, d ≤ 1000 ∧ m ≤ 1000 ∧ (0 ≤ st ∧ st ≤ 1000) ∧ al [b.1, b.2.1, b.2.2] ∧ (∀ bv, al bv → ∃ b1 b2 b3, bv = [b1, b2, b3]) ∧ xs = .yl l :: capsR d m st ∧ hp = itR l d m st b, Go.C06.RIt al xs)
noncomputable def KRA : Gam := KR9.extY 95 t95
theorem okKRA : GOk Tryz.prog KRA := by
 refine okKR9.extY (f := 95) Tryz.call95 fun al xs hp h => ?_
 obtain ⟨d, m, st, l, b, h1, h2, h3, h4, h5, rfl, rfl⟩ := h
 exact W95 al d m st l b h1 h2 h3 h4 h5
theorem W69 (d m st : Int) : PureCall Tryz.prog 69 [.i d, .i m, .i st] (.fn 95 [.pa [.i d], .pa [.i m], .pa [.i st]]) := by
 refine pure_body okKRA hmix Tryz.func69 cb69 cc69 cs69 cn69 ?_
 simp only [rc69, rs69, BL, simprocAttr]
noncomputable def KRB : Gam := KRA.ext 69 (fnG eWi dWi (fun _ => True) (fun a => a) (fun a => .fn 95 [.pa [.i a.1], .pa [.i a.2.1], .pa [.i a.2.2]]))
theorem okKRB : GOk Tryz.prog KRB := okKRA.ext (f := 69) Tryz.call69 (fnG_ok fun a h => W69 a.1 a.2.1 a.2.2)
theorem r69 (d m st : Int) : KRB 69 [.i d, .i m, .i st] = (True, .fn 95 [.pa [.i d], .pa [.i m], .pa [.i st]]) := (kx KRB 69 (show dWi (eWi (d, m, st)) = (d, m, st) from rfl) rfl :)
theorem eT_ex : ∃ R F, eTour exT = [.i 3, .i 2, .sl 3 R, .i 1, .sl 2 F, .i 1, .i 7] ∧ (∀ H, R.map (fun r => r.map (vw H 7)) = R) ∧ (∀ H, F.map (fun r => r.map (vw H 7)) = F) ∧ F.length = 3 := ⟨_, _, rfl, fun H => vw_R H 6 _, fun H => vw_F H 6 _, rfl⟩
theorem W67 : PureCall Tryz.prog 67 [.ag (eTour exT)] (.fn 95 (capsR 3 3 2)) := by
 refine pure_body okKRB hmix Tryz.func67 cb67 cc67 cs67 cn67 ?_
 obtain ⟨R, F, e, hR, hF, hFl⟩ := eT_ex
 rw [e]
 have g := r69 3 3 2
 simp only [rc67, rs67, g, capsR, BL, simprocAttr]
theorem W53 : PureCall Tryz.prog 53 [.ag (eTour exT)] (.fn 95 (capsR 3 2 1)) := by
 refine pure_body okKRB hmix Tryz.func53 cb53 cc53 cs53 cn53 ?_
 obtain ⟨R, F, e, hR, hF, hFl⟩ := eT_ex
 rw [e]
 have g := r69 3 2 1
 have i2 : inI 2 := by unfold inI; omega
 simp only [rc53, rs53, g, hFl, capsR, i2, BL, simprocAttr]
end R
end Go.CS
set_option maxHeartbeats 4000000
namespace Go.CS
open Go.Fam Go.Proofs
open Go.C06 (Span eI eIs eSpan gI gR dI dI_eI spanE fnG fnG_ok fnG_at within take_succ_of idxOf idxOf_at idxOf_none idxOf_any flat_len chunk_flat map_vw_rows hasRefL_flat drop_cons chunk_I len_I vw_I noref_I hmix eLI dLI dLI_e ru_countE cutL_noref hasRefL_append upL_noref)
variable {Γ : Gam}
namespace R
open Go.C06 (flat_I chunkI noref_Is)
def trsK (k : Nat) : List (List Int) := ((allR 3 3 2).take k).filter fun p => decide (wrong exT p ≤ 1)
def trL : List (List Int) := [[2, 0, 0], [2, 1, 0], [2, 1, 3], [3, 1, 0], [3, 1, 3]]
theorem allR_len : ∀ p ∈ allR 3 3 2, p.length = 3 := by decide +kernel
theorem allR_n : (allR 3 3 2).length = 50 := by decide +kernel
theorem trs_all : trsK 50 = trL := by decide +kernel
theorem trsK_le (k : Nat) : (trsK k).length ≤ 50 := by
 unfold trsK
 refine Nat.le_trans (List.length_filter_le _ _) ?_
 have := allR_n
 rw [List.length_take]; omega
theorem trsK_step {k : Nat} {p : List Int} (h : (allR 3 3 2)[k]? = some p) : trsK (k + 1) = if wrong exT p ≤ 1 then trsK k ++ [p] else trsK k := by
 unfold trsK
 rw [take_succ_of h, List.filter_append]
 by_cases e : wrong exT p ≤ 1
 ·rw [if_pos e]; simp [e]
 ·rw [if_neg e]; simp [e]
def eTw (p : List Int) : List V := [.ag (eTour exT), .sl 1 (p.map eI)]
def dTw : List V → List Int | [_, .sl _ l] => l.map dI | _ => []
theorem dTw_e (p : List Int) : dTw (eTw p) = p := by show (p.map eI).map dI = p; rw [List.map_map, show dI ∘ eI = id from funext dI_eI, List.map_id]
noncomputable def KRC : Gam := ((KRB.ext 66 fun l => (l = [.ag (eTour exT)], .i 0)).ext 67 fun l => (l = [.ag (eTour exT)], .fn 95 (capsR 3 3 2))).ext 53 fun l => (l = [.ag (eTour exT)], .fn 95 (capsR 3 2 1))
theorem okKRC : GOk Tryz.prog KRC := by
 refine ((okKRB.ext (f := 66) Tryz.call66 ?_).ext (f := 67) Tryz.call67 ?_).ext (f := 53) Tryz.call53 ?_
 ·rintro _ rfl
  exact W66 exT CT_ex
 ·rintro _ rfl
  exact W67
 ·rintro _ rfl
  exact W53
noncomputable def KRD : Gam := KRC.ext 68 (fnG eTw dTw (fun p => p.length = 3) (fun p => wrong exT p) (.i))
theorem okKRD : GOk Tryz.prog KRD := okKRC.ext (f := 68) Tryz.call68 (fnG_ok fun p h => W68 exT p (by decide) (by
 intro r hr
 have : r ∈ exT.rains → 0 ≤ r.day ∧ r.day < 3 := by
  intro hr
  simp only [exT, List.mem_cons, List.not_mem_nil, or_false] at hr
  rcases hr with rfl | rfl | rfl | rfl <;> decide
 have := this hr
 omega))
theorem r68 (p : List Int) : KRD 68 [.ag (eTour exT), .sl 1 (p.map eI)] = (p.length = 3, .i (wrong exT p)) := (kx KRD 68 (dTw_e p) rfl :)
theorem r66 : KRD 66 [.ag (eTour exT)] = (True, .i 0) := by show (([.ag (eTour exT)] : List V) = _, V.i 0) = _; simp
theorem r67 : KRD 67 [.ag (eTour exT)] = (True, .fn 95 (capsR 3 3 2)) := by show (([.ag (eTour exT)] : List V) = _, _) = _; simp
theorem r53 : KRD 53 [.ag (eTour exT)] = (True, .fn 95 (capsR 3 2 1)) := by show (([.ag (eTour exT)] : List V) = _, _) = _; simp
theorem y95d (al : List V → Prop) (xs : List V) (hp : List Blk) : KRD.y 95 al xs hp = t95 al xs hp := rfl
theorem q16d (l : List Int) : KRD 1000016 [.sl 1 (l.map eI)] = (l.length ≤ 1000000, .tp [.rf 0 1 0 l.length 1, .tp [bV (.cells 1 (l.map eI).flatten)]]) := S.q16 l
def sV (p : List Int) : V := .sl 1 (p.map eI)
theorem noref_S (L : List (List Int)) : hasRefL (L.map sV) = false := by
 induction L with
 | nil => rfl
 | cons a l ih =>
  show hasRefL (sV a :: l.map sV) = false
  have : hasRef (sV a) = false := rfl
  rw [hasRefL, this, ih]; rfl
theorem rflat_I (l : List Int) : rflatL (l.map V.i) = true := by induction l <;> simp_all [rflatL, rflat]
def wB (R F : List (List V)) (n : Nat) : V := bV (.cells 0 [.i 3, .i 2, .sl 3 R, .i 1, .sl 2 F, .i 1, .i 7, .rf 3 n 0 n 1])
theorem W52 : PureCall Tryz.prog 52 [.ag (eTour exT), .b true] (.tp [.pa (eWt exT trL), .i 0]) := by
 refine pure_body okKRD hmix Tryz.func52 cb52 cc52 cs52 cn52 ?_
 have g66 := r66
 have g67 := r67
 have g68 := r68
 have hE : eWt exT trL = eTour exT ++ [.sl 1 (trL.map fun r => [.sl 1 (r.map eI)])] := rfl
 obtain ⟨R, F, e, hR, hF, hFl⟩ := eT_ex
 rw [hE]
 rw [e] at g66 g67 g68 ⊢
 simp only [rc52, rs52, g66, g67, hR, hF, ↓BU3, BL, simprocAttr]
 refine ru_rfhL (gf := 95) (caps := capsR 3 3 2) ?_ (fun bv => ∃ L : List (List Int), bv = [wB R F L.length, bV (.cells 0 [.ad 1 0 0]), bV (.cells L.length (L.map sV))]) (fun l => (allR 3 3 2).map fun p => ([.rf 4 0 0 3 1], zR l 3 3 2 p)) (bv0 := [wB R F 0, bV (.cells 0 [.ad 1 0 0]), bV (.cells 0 [])]) ?_
  (fun k bv => bv = [wB R F (trsK k).length, bV (.cells 0 [.ad 1 0 0]), bV (.cells (trsK k).length ((trsK k).map sV))] ∧ k ≤ 50) ?_ ?_ ?_ ?_ ?_ ?_
 ·simp only [capsR, ↓BU3, BL, simprocAttr]
 ·simp only [wB, ↓BU3, BL, simprocAttr]
 ·exact ⟨rfl, Nat.zero_le _⟩
 ·rintro k bv ⟨rfl, _⟩
  exact ⟨_, rfl⟩
 ·rintro bv ⟨L, rfl⟩
  refine ⟨rfl, fun hp => ?_⟩
  simp only [wB, cutL_noref _ _ _ (noref_S _), ↓BU3, BL, simprocAttr]
 ·intro l
  rw [y95d]
  refine ⟨⟨3, 3, 2, l, (wB R F 0, bV (.cells 0 [.ad 1 0 0]), bV (.cells 0 [])), by decide, by decide, by decide, ⟨[], rfl⟩, ?_, rfl, ?_⟩, fun r hp' h => h⟩
  ·rintro bv ⟨L, rfl⟩
   exact ⟨_, _, _, rfl⟩
  ·rw [itR, List.map_map]; rfl
 ·rintro l k x z bv hx ⟨rfl, hk⟩
  rw [List.getElem?_map, Option.map_eq_some_iff] at hx
  obtain ⟨p, hp, he⟩ := hx
  simp only [Prod.mk.injEq] at he
  obtain ⟨rfl, rfl⟩ := he
  refine ⟨rfl, Nat.le_refl _, ?_⟩
  have hpl := allR_len p (List.mem_of_getElem? hp)
  have hck := chunkI p
  rw [hpl] at hck
  have hpm : (p.map V.i).length = 3 := by simp [hpl]
  have hst := trsK_step hp
  have hkl : k < 50 := by
   have := getElemLt hp
   rw [allR_n] at this; exact this
  have hn1 : hasRefL (p.map V.i) = false := noref_Is p
  have hpv : V.sl 1 (p.map eI) = sV p := rfl
  have hn := trsK_le k
  have g16 := q16d p
  rw [hpl, flat_I] at g16
  have h3 : 3 ≤ 1000000 := by decide
  generalize trsK k = L at *
  simp only [wB, zR, capsR, g68, g16, h3, hR, hF, hck, hpl, hpm, vw_I, rflat_I, ↓BU3, BL, simprocAttr]
  refine ⟨fun hle => ?_, fun hgt => ?_⟩
  ·rw [if_pos hle] at hst
   rw [hst]
   refine ⟨by unfold fitsLen; omega, ⟨[wB R F (L.length + 1), bV (.cells 0 [.ad 1 0 0]), bV (.cells (L.length + 1) ((L ++ [p]).map sV))], ?_, rfl, ⟨L ++ [p], by rw [List.length_append]; rfl⟩, by rw [List.length_append]; rfl, by omega⟩⟩
   simp only [wB, caps96, hck, hpl, hpm, hpF, upB, upL, upV, upL_noref _ _ hn1, shL_noref _ _ hn1, cutL_app', cutL_noref _ _ _ (noref_S _), cutL_noref _ _ _ hn1, List.map_append, hpv, vw_I, ↓BU3, BL, simprocAttr]
  ·rw [if_neg hgt] at hst
   rw [hst]
   refine ⟨[wB R F L.length, bV (.cells 0 [.ad 1 0 0]), bV (.cells L.length (L.map sV))], ?_, rfl, ⟨L, rfl⟩, rfl, by omega⟩
   simp only [wB, caps96, cutL_noref _ _ _ (noref_S _), cutL_noref _ _ _ hn1, ↓BU3, BL, simprocAttr]
 ·rintro l bv ⟨rfl, _⟩
  rw [List.length_map, allR_n, trs_all]
  simp only [wB, ↓BU3, BL, simprocAttr]
  refine ⟨fun h => absurd h (by decide), fun _ => ?_⟩
  rfl
end R
end Go.CS
