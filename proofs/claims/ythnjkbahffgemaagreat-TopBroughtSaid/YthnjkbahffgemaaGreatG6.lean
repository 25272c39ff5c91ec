import Derived.Test.YthnjkbahffgemaaGreatG5
import Derived.Test.YthnjkbahffgemaaGreatG4
import Derived.RangeFuncLeaves
import Derived.WalkKit
import Derived.OwnWalkIn
import Derived.TacticsInMore
import Derived.LoopNIn
import Derived.LoopIn
set_option linter.all false
set_option maxHeartbeats 4000000
namespace Go.CS
open Go.Fam Go.Proofs
open Go.C06 (Span eI eIs eSpan gI gR dI dI_eI spanE fnG fnG_ok fnG_at within take_succ_of idxOf idxOf_at idxOf_none idxOf_any flat_len chunk_flat map_vw_rows hasRefL_flat drop_cons chunk_I len_I vw_I noref_I hmix eLI dLI dLI_e ru_countE cutL_noref hasRefL_append upL_noref)
variable {Γ : Gam}
end Go.CS
set_option maxHeartbeats 4000000
namespace Go.CS
open Go.Fam Go.Proofs
open Go.C06 (Span eI eIs eSpan gI gR dI dI_eI spanE fnG fnG_ok fnG_at within take_succ_of idxOf idxOf_at idxOf_none idxOf_any flat_len chunk_flat map_vw_rows hasRefL_flat drop_cons chunk_I len_I vw_I noref_I hmix eLI dLI dLI_e ru_countE cutL_noref hasRefL_append upL_noref)
variable {Γ : Gam}
end Go.CS
set_option maxHeartbeats 4000000
namespace Go.CS
open Go.Fam Go.Proofs
open Go.C06 (Span eI eIs eSpan gI gR dI dI_eI spanE fnG fnG_ok fnG_at within take_succ_of idxOf idxOf_at idxOf_none idxOf_any flat_len chunk_flat map_vw_rows hasRefL_flat drop_cons chunk_I len_I vw_I noref_I hmix eLI dLI dLI_e ru_countE cutL_noref hasRefL_append upL_noref)
variable {Γ : Gam}
def eU0 : Unit → List V := fun _ => []
def dU0 : List V → Unit := fun _ => ()
theorem dU0_e (a : Unit) : dU0 (eU0 a) = a := rfl
theorem XP122 (hG : GOk Tryz.prog Γ) (l : List Int) (f : Nat) (hf : f < 1000000) (caps : List V) (p : Int → Bool) (C : Int → Prop) (hC : ∀ x ∈ l, C x) (hv : caps.map (vw [] 8) = caps) (hr : hasRefL caps = false) (hl : l.length < 10000000)
  (h : ∀ x ∈ l, Γ f (V.i x :: caps) = (C x, .b (p x))) : PureCall Tryz.prog 97 [.sl 1 (l.map eI), .fn f caps] (.i (idxOf p l)) := by
 refine pure_body hG hmix Tryz.func97 cb97 cc97 cs97 cn97 ?_
 simp only [rc97, rs97, BL, simprocAttr]
 refine ru_countC l.length (fun i => ⟨lkp [(0, .sl 1 (l.map eI)), (1, .fn f caps), (7, .i l.length), (8, .i i)], []⟩) (fun i => ∀ j x, j < i → l[j]? = some x → p x = false) ?_ ?_ ?_ ?_
 ·simp only [Int.natCast_zero, BL, simprocAttr]
 ·intro j x h; omega
 ·intro i hi hc
  obtain ⟨x, hx⟩ : ∃ x, l[i]? = some x := ⟨_, List.getElem?_eq_getElem hi⟩
  have hlt : (i : Int) < l.length := by omega
  have h3 : inI ((i : Int) + 1) := by unfold inI; omega
  have hp := h x (List.mem_of_getElem? hx)
  have hCx := hC x (List.mem_of_getElem? hx)
  try simp only [eI, eMake] at hp
  simp only [hx, hlt, Int.natCast_add, Int.natCast_one, h3, hp, hv, hr, hf, hCx, BL, simprocAttr]
  refine ⟨fun e => ?_, fun e => ?_⟩
  ·rw [idxOf_at hx e hc]
  ·exact none_step hx e hc
 ·intro hc
  simp only [BL, simprocAttr]
  exact (idxOf_none fun x hx => by
   obtain ⟨j, hj⟩ := List.getElem?_of_mem hx
   exact hc j x (by have := getElemLt hj; exact this) hj).symm
end Go.CS
set_option maxHeartbeats 4000000
namespace Go.CS
open Go.Fam Go.Proofs
open Go.C06 (Span eI eIs eSpan gI gR dI dI_eI spanE fnG fnG_ok fnG_at within take_succ_of idxOf idxOf_at idxOf_none idxOf_any flat_len chunk_flat map_vw_rows hasRefL_flat drop_cons chunk_I len_I vw_I noref_I hmix eLI dLI dLI_e ru_countE cutL_noref hasRefL_append upL_noref)
variable {Γ : Gam}
theorem W122 (l : List Int) (n : Int) (hl : l.length < 10000000) : PureCall Tryz.prog 56 [.sl 1 (l.map eI), .i n] (.i (idxOf (fun x => decide (n = x)) l)) := by
 refine pure_body g0_ok hmix Tryz.func56 cb56 cc56 cs56 cn56 ?_
 simp only [rc56, rs56, BU2, simprocAttr]
 refine ru_countC l.length (fun i => ⟨lkp [(0, .sl 1 (l.map eI)), (1, .i n), (7, .i l.length), (8, .i i)], []⟩) (fun i => ∀ j x, j < i → l[j]? = some x → decide (n = x) = false) ?_ ?_ ?_ ?_
 ·simp only [Int.natCast_zero, BU2, simprocAttr]
 ·intro j x h; omega
 ·intro i hi hc
  obtain ⟨x, hx⟩ : ∃ x, l[i]? = some x := ⟨_, List.getElem?_eq_getElem hi⟩
  have hlt : (i : Int) < l.length := by omega
  have h3 : inI ((i : Int) + 1) := by unfold inI; omega
  by_cases e : n = x
  ·have q := idxOf_at (p := fun x => decide (n = x)) hx (by simp [e]) hc
   simp only [hx, hlt, e, BL, simprocAttr]
   rw [e] at q
   rw [q]
  ·simp only [hx, hlt, Int.natCast_add, Int.natCast_one, h3, e, BL, simprocAttr]
   have hn := none_step (p := fun x => decide (n = x)) hx (by simp [e]) hc
   intro j y hj hy
   simpa using hn j y hj hy
 ·intro hc
  simp only [BU2, simprocAttr]
  exact (idxOf_none fun x hx => by
   obtain ⟨j, hj⟩ := List.getElem?_of_mem hx
   exact hc j x (by have := getElemLt hj; exact this) hj).symm
noncomputable def KA1 : Gam := Γ0.ext 56 (fnG eLI dLI (fun a => a.1.length < 10000000) (fun a => idxOf (fun x => decide (a.2 = x)) a.1) .i)
theorem okKA1 : GOk Tryz.prog KA1 := g0_ok.ext (f := 56) Tryz.call56 (fnG_ok fun a h => W122 a.1 a.2 h)
theorem h122 (l : List Int) (n : Int) : KA1 56 [.sl 1 (l.map eI), .i n] = (l.length < 10000000, .i (idxOf (fun x => decide (n = x)) l)) := (kx KA1 56 (dLI_e (l, n)) rfl :)
theorem W84 (l : List Int) (n : Int) (hl : l.length < 10000000) : PureCall Tryz.prog 35 [.sl 1 (l.map eI), .i n] (.b (decide (n ∈ l))) := by
 refine pure_body okKA1 hmix Tryz.func35 cb35 cc35 cs35 cn35 ?_
 have e : decide (0 ≤ idxOf (fun x => decide (n = x)) l) = decide (n ∈ l) := by
  rw [idxOf_any]
  by_cases h : n ∈ l
  ·rw [decide_eq_true h]; exact List.any_eq_true.2 ⟨n, h, by simp⟩
  ·rw [decide_eq_false h, List.any_eq_false]
   intro x hx hd
   simp only [decide_eq_true_eq] at hd
   exact h (hd ▸ hx)
 simp only [rc35, rs35, h122, hl, e, BU2, simprocAttr]
noncomputable def KA2 : Gam := KA1.ext 35 (fnG eLI dLI (fun a => a.1.length < 10000000) (fun a => decide (a.2 ∈ a.1)) .b)
theorem okKA2 : GOk Tryz.prog KA2 := okKA1.ext (f := 35) Tryz.call35 (fnG_ok fun a h => W84 a.1 a.2 h)
theorem K93h84 (l : List Int) (n : Int) : KA2 35 [.sl 1 (l.map eI), .i n] = (l.length < 10000000, .b (decide (n ∈ l))) := (kx KA2 35 (dLI_e (l, n)) rfl :)
end Go.CS
set_option maxHeartbeats 4000000
namespace Go.CS
open Go.Fam
def askN (a : AM Int) (x : Int) : Int := (aget a [x]).getD 0
def unA (n : Nat) (a : AM Int) : Nat := ((List.range n).filter fun (i : Nat) => decide (askN a i ≤ 0)).length
structure PI (n m : Nat) (b : Int) (work : List Int) (a : AM Int) : Prop where
 len : work.length = m
 val : ∀ v ∈ work, v = -1 ∨ (0 ≤ v ∧ v < n)
 nod : (aks a).Nodup
 low : ∀ x, 0 ≤ askN a x
 cnt : ∀ x, askN a x + 100 * (unA n a : Int) ≤ b
theorem PI.mono {n m : Nat} {b b' : Int} {work : List Int} {a : AM Int} (h : PI n m b work a) (hb : b ≤ b') : PI n m b' work a := ⟨h.len, h.val, h.nod, h.low, fun x => by have := h.cnt x; omega⟩
theorem PI.set {n m : Nat} {b : Int} {work : List Int} {a : AM Int} (h : PI n m b work a) (i : Nat) {x : Int} (hx : 0 ≤ x ∧ x < n) : PI n m b (work.set i x) a := by
 refine ⟨by rw [List.length_set]; exact h.len, fun v hv => ?_, h.nod, h.low, h.cnt⟩
 rcases List.mem_or_eq_of_mem_set hv with hv | rfl
 ·exact h.val v hv
 ·exact .inr hx
end Go.CS
set_option maxHeartbeats 4000000
namespace Go.CS
open Go.Fam Go.Proofs
open Go.C06 (Span eI eIs eSpan gI gR dI dI_eI spanE fnG fnG_ok fnG_at within take_succ_of idxOf idxOf_at idxOf_none idxOf_any flat_len chunk_flat map_vw_rows hasRefL_flat drop_cons chunk_I len_I vw_I noref_I hmix eLI dLI dLI_e ru_countE cutL_noref hasRefL_append upL_noref)
variable {Γ : Gam}
theorem flat_Is (L : List Int) : (L.map eI).flatten = L.map V.i := by induction L <;> simp_all [eI]
end Go.CS
set_option maxHeartbeats 4000000
namespace Go.CS
open Go.Fam Go.Proofs
open Go.C06 (Span eI eIs eSpan gI gR dI dI_eI spanE fnG fnG_ok fnG_at within take_succ_of idxOf idxOf_at idxOf_none idxOf_any flat_len chunk_flat map_vw_rows hasRefL_flat drop_cons chunk_I len_I vw_I noref_I hmix eLI dLI dLI_e ru_countE cutL_noref hasRefL_append upL_noref)
variable {Γ : Gam}
theorem chunk_W (w : List Int) {m : Nat} (h : w.length = m) : chunk 1 (w.map V.i) 0 m = w.map eI := by
 have := chunk_I w
 rw [flat_Is] at this
 rw [← h]; exact this
end Go.CS
set_option maxHeartbeats 4000000
namespace Go.CS
open Go.Fam Go.Proofs
open Go.C06 (Span eI eIs eSpan gI gR dI dI_eI spanE fnG fnG_ok fnG_at within take_succ_of idxOf idxOf_at idxOf_none idxOf_any flat_len chunk_flat map_vw_rows hasRefL_flat drop_cons chunk_I len_I vw_I noref_I hmix eLI dLI dLI_e ru_countE cutL_noref hasRefL_append upL_noref)
variable {Γ : Gam}
end Go.CS
set_option maxHeartbeats 4000000
namespace Go.CS
open Go.Fam Go.Proofs
open Go.C06 (Span eI eIs eSpan gI gR dI dI_eI spanE fnG fnG_ok fnG_at within take_succ_of idxOf idxOf_at idxOf_none idxOf_any flat_len chunk_flat map_vw_rows hasRefL_flat drop_cons chunk_I len_I vw_I noref_I hmix eLI dLI dLI_e ru_countE cutL_noref hasRefL_append upL_noref)
variable {Γ : Gam}
end Go.CS
set_option maxHeartbeats 4000000
namespace Go.CS
open Go.Fam Go.Proofs
open Go.C06 (Span eI eIs eSpan gI gR dI dI_eI spanE fnG fnG_ok fnG_at within take_succ_of idxOf idxOf_at idxOf_none idxOf_any flat_len chunk_flat map_vw_rows hasRefL_flat drop_cons chunk_I len_I vw_I noref_I hmix eLI dLI dLI_e ru_countE cutL_noref hasRefL_append upL_noref)
variable {Γ : Gam}
theorem vw_wk (hp : List Blk) (n : Nat) (k : IntKind) (x : Int) : vw hp (n + 1) (.w k x) = .w k x := rfl
end Go.CS
set_option maxHeartbeats 4000000
namespace Go.CS
open Go.Fam Go.Proofs
open Go.C06 (Span eI eIs eSpan gI gR dI dI_eI spanE fnG fnG_ok fnG_at within take_succ_of idxOf idxOf_at idxOf_none idxOf_any flat_len chunk_flat map_vw_rows hasRefL_flat drop_cons chunk_I len_I vw_I noref_I hmix eLI dLI dLI_e ru_countE cutL_noref hasRefL_append upL_noref)
variable {Γ : Gam}
end Go.CS
set_option maxHeartbeats 4000000
namespace Go.CS
open Go.Fam Go.Proofs
open Go.C06 (Span eI eIs eSpan gI gR dI dI_eI spanE fnG fnG_ok fnG_at within take_succ_of idxOf idxOf_at idxOf_none idxOf_any flat_len chunk_flat map_vw_rows hasRefL_flat drop_cons chunk_I len_I vw_I noref_I hmix eLI dLI dLI_e ru_countE cutL_noref hasRefL_append upL_noref)
variable {Γ : Gam}
theorem wrap64 {x : Int} (h : 0 ≤ x ∧ x < 9223372036854775808) : IntKind.u64.wrap x = x := by
 have : x % 18446744073709551616 = x := Int.emod_eq_of_lt h.1 (by omega)
 simp [IntKind.wrap, IntKind.signed, IntKind.bits, this]
def OkAl (al : List V → Prop) : Prop := (∀ bv, al bv → ∃ b1 b2, bv = [b1, b2]) ∧ ∀ b1 b2 hp, al [b1, b2] → cutB hp 3 (vB b1) = vB b1 ∧ cutB hp 3 (vB b2) = vB b2
end Go.CS
set_option maxHeartbeats 4000000
namespace Go.CS
open Go.Fam Go.Proofs
open Go.C06 (Span eI eIs eSpan gI gR dI dI_eI spanE fnG fnG_ok fnG_at within take_succ_of idxOf idxOf_at idxOf_none idxOf_any flat_len chunk_flat map_vw_rows hasRefL_flat drop_cons chunk_I len_I vw_I noref_I hmix eLI dLI dLI_e ru_countE cutL_noref hasRefL_append upL_noref)
variable {Γ : Gam}
end Go.CS
set_option maxHeartbeats 4000000
namespace Go.CS
open Go.Fam Go.Proofs
open Go.C06 (Span eI eIs eSpan gI gR dI dI_eI spanE fnG fnG_ok fnG_at within take_succ_of idxOf idxOf_at idxOf_none idxOf_any flat_len chunk_flat map_vw_rows hasRefL_flat drop_cons chunk_I len_I vw_I noref_I hmix eLI dLI dLI_e ru_countE cutL_noref hasRefL_append upL_noref)
variable {Γ : Gam}
structure Slip where
 id : Int
 clerk : Int
 atm : Int
 kind : Int
 umb : Int
 guest : Int
 deriving DecidableEq
structure Tariff where
 free : Int
 unit : Int
 price : Int
 most : Int
 lost : Int
 value : Int
 pledge : Int
 deriving DecidableEq
structure Ctr where
 clerks : List Span
 slips : List Slip
 voided : List Int
 closed : List Span
 tar : Tariff
def eSlip (s : Slip) : List V := [.i s.id, .i s.clerk, .i s.atm, .i s.kind, .i s.umb, .i s.guest]
def dSlip : List V → Slip | [.i a, .i b, .i c, .i d, .i e, .i f] => ⟨a, b, c, d, e, f⟩ | _ => ⟨0, 0, 0, 0, 0, 0⟩
theorem dSlip_e (s : Slip) : dSlip (eSlip s) = s := rfl
def eTar (t : Tariff) : List V := [.i t.free, .i t.unit, .i t.price, .i t.most, .i t.lost, .i t.value, .i t.pledge]
def dTar : List V → Tariff | [.i a, .i b, .i c, .i d, .i e, .i f, .i g] => ⟨a, b, c, d, e, f, g⟩ | _ => ⟨0, 0, 0, 0, 0, 0, 0⟩
def dSpa (r : List V) : Span := match r with | [.i a, .i b] => ⟨a, b⟩ | _ => ⟨0, 0⟩
theorem dSpa_e (s : Span) : dSpa (eSpan s) = s := rfl
def eCtr (c : Ctr) : List V := [.sl 2 (c.clerks.map eSpan), .sl 6 (c.slips.map eSlip), .sl 1 (c.voided.map eI), .sl 2 (c.closed.map eSpan), .i c.tar.free, .i c.tar.unit, .i c.tar.price, .i c.tar.most, .i c.tar.lost, .i c.tar.value, .i c.tar.pledge]
def dCtr : List V → Ctr | [.sl _ a, .sl _ b, .sl _ v, .sl _ d, .i e, .i f, .i g, .i h, .i i, .i j, .i k] => ⟨a.map dSpa, b.map dSlip, v.map dI, d.map dSpa, ⟨e, f, g, h, i, j, k⟩⟩ | _ => ⟨[], [], [], [], ⟨0, 0, 0, 0, 0, 0, 0⟩⟩
theorem dCtr_e (c : Ctr) : dCtr (eCtr c) = c := by obtain ⟨a, b, v, d, ⟨_, _, _, _, _, _, _⟩⟩ := c; simp [dCtr, eCtr, Function.comp_def, dSpa_e, dSlip_e, dI_eI]
theorem X150 (n lo hi : Int) : PureCall Tryz.prog 26 [.i n, .i lo, .i hi] (.b (within n lo hi)) := by
 refine pure_body okKA2 hmix Tryz.func26 cb26 cc26 cs26 cn26 ?_
 unfold within
 by_cases e : lo ≤ n
 ·simp only [rc26, rs26, e, BL, simprocAttr]
 ·simp only [rc26, rs26, e, BL, simprocAttr]
def eWi (a : Int × Int × Int) : List V := [.i a.1, .i a.2.1, .i a.2.2]
def dWi : List V → Int × Int × Int | [.i a, .i b, .i c] => (a, b, c) | _ => (0, 0, 0)
theorem dWi_e (a : Int × Int × Int) : dWi (eWi a) = a := rfl
noncomputable def K118 : Gam := KA2.ext 26 (fnG eWi dWi (fun _ => True) (fun a => within a.1 a.2.1 a.2.2) (.b))
theorem okK118 : GOk Tryz.prog K118 := okKA2.ext (f := 26) Tryz.call26 (fnG_ok fun a h => X150 a.1 a.2.1 a.2.2)
theorem x150 (n lo hi : Int) : K118 26 [.i n, .i lo, .i hi] = (True, .b (within n lo hi)) := (kx K118 26 (dWi_e (n, lo, hi)) rfl :)
def okId (n : Int) : Bool := within n 0 99
theorem X154 (n : Int) : PureCall Tryz.prog 37 [.i n] (.b (okId n)) := by
 refine pure_body okK118 hmix Tryz.func37 cb37 cc37 cs37 cn37 ?_
 simp only [rc37, rs37, x150, okId, BL, simprocAttr]
def eNo (n : Int) : List V := [.i n]
def dNo : List V → Int | [.i n] => n | _ => 0
theorem dNo_e (n : Int) : dNo (eNo n) = n := rfl
noncomputable def K119 : Gam := K118.ext 37 (fnG eNo dNo (fun _ => True) (okId) (.b))
theorem okK119 : GOk Tryz.prog K119 := okK118.ext (f := 37) Tryz.call37 (fnG_ok fun a h => X154 a)
theorem x154 (n : Int) : K119 37 [.i n] = (True, .b (okId n)) := (kx K119 37 (dNo_e n) rfl :)
def x150a (n lo hi : Int) := lft K119 (x150 n lo hi) rfl
def okTar (t : Tariff) : Bool := within t.price 0 100000 && within t.most 0 100000 && within t.value 0 100000 && within t.pledge 0 100000 && within t.free 0 9999 && within t.unit 1 9999 && within t.lost 1 9999
theorem X149 (t : Tariff) : PureCall Tryz.prog 71 [.ag (eTar t)] (.b (okTar t)) := by
 refine pure_body okK119 hmix Tryz.func71 cb71 cc71 cs71 cn71 ?_
 have hE : okTar t = (within t.price 0 100000 && within t.most 0 100000 && within t.value 0 100000 && within t.pledge 0 100000 && within t.free 0 9999 && within t.unit 1 9999 && within t.lost 1 9999) := rfl
 generalize okTar t = res at hE
 obtain ⟨L, hL⟩ : ∃ L : List Int, L = [t.price, t.most, t.value, t.pledge] := ⟨_, rfl⟩
 have hLm : ([[V.i t.price], [V.i t.most], [V.i t.value], [V.i t.pledge]] : List (List V)) = L.map eI := by rw [hL]; rfl
 have hl4 : L.length = 4 := by rw [hL]; rfl
 have hall : L.all (fun n => within n 0 100000) = (within t.price 0 100000 && within t.most 0 100000 && within t.value 0 100000 && within t.pledge 0 100000) := by rw [hL]; simp [Bool.and_assoc]
 have hch : chunk 1 (V.i t.price :: V.i t.most :: V.i t.value :: V.i t.pledge :: List.drop 1 (List.drop 1 (List.drop 1 (List.drop 1 ([[V.i 0], [V.i 0], [V.i 0], [V.i 0]] : List (List V)).flatten)))) 0 4 = L.map eI := by rw [hL]; rfl
 simp only [rc71, rs71, eTar, hLm, hch, BL, simprocAttr]
 refine ru_countC 4 (fun i => ⟨lkp [(1, .pa [.i t.free, .i t.unit, .i t.price, .i t.most, .i t.lost, .i t.value, .i t.pledge]), (13, .sl 1 (L.map eI)), (14, .i 4), (15, .i i)], []⟩) (fun i => ∀ j x, j < i → L[j]? = some x → within x 0 100000 = true) ?_ ?_ ?_ ?_
 ·simp only [Int.natCast_zero, hch, hl4, BL, simprocAttr]
 ·intro j x h; omega
 ·intro i hi hc
  have hlt : (i : Int) < 4 := by omega
  have i1 : inI ((i : Int) + 1) := by unfold inI; omega
  obtain ⟨x, hx⟩ : ∃ x, L[i]? = some x := ⟨_, List.getElem?_eq_getElem (by omega)⟩
  have hil : (i : Int) < L.length := by omega
  cases e : within x 0 100000 with
  | false =>
   have hf : L.all (fun n => within n 0 100000) = false := all_no (p := fun n => within n 0 100000) hx e
   rw [hall] at hf
   simp only [hlt, hil, hx, x150a, e, BL, simprocAttr]
   rw [hE, hf]; rfl
  | true =>
   simp only [hlt, hil, hx, x150a, e, i1, Int.natCast_add, Int.natCast_one, BL, simprocAttr]
   exact all_step (p := fun n => within n 0 100000) hx e hc
 ·intro hc
  have hlt : ¬ (((4 : Nat) : Int) < 4) := by omega
  have ht : L.all (fun n => within n 0 100000) = true := all_yes (p := fun n => within n 0 100000) fun j x hj hx => hc j x (by omega) hx
  rw [hall] at ht
  rw [ht, Bool.true_and] at hE
  cases a1 : within t.free 0 9999 with
  | false => simp only [hlt, x150a, a1, BL, simprocAttr]; simp [hE, a1]
  | true =>
  cases a2 : within t.unit 1 9999 with
  | false => simp only [hlt, x150a, a1, a2, BL, simprocAttr]; simp [hE, a2]
  | true =>
  simp only [hlt, x150a, a1, a2, BL, simprocAttr]
  simp [hE, a1, a2]
def eTr1 (t : Tariff) : List V := [.ag (eTar t)]
def dTr1 : List V → Tariff | [.ag t] => dTar t | _ => dTar []
theorem dTr1_e (t : Tariff) : dTr1 (eTr1 t) = t := rfl
noncomputable def K120 : Gam := K119.ext 71 (fnG eTr1 dTr1 (fun _ => True) (okTar) (.b))
theorem okK120 : GOk Tryz.prog K120 := okK119.ext (f := 71) Tryz.call71 (fnG_ok fun a h => X149 a)
theorem x149 (t : Tariff) : K120 71 [.ag (eTar t)] = (True, .b (okTar t)) := (kx K120 71 (dTr1_e t) rfl :)
def x150b (n lo hi : Int) := lft K120 (x150 n lo hi) rfl
def x154b (n : Int) := lft K120 (x154 n) rfl
def okKind (s : Slip) : Bool := decide (s.kind = 1) || decide (s.kind = 2) && decide (s.guest = 0)
def okSlip (c : Ctr) (s : Slip) : Bool := okKind s && okId s.id && okId s.guest && within s.clerk 0 (c.clerks.length - 1) && within s.atm 0 9999 && within s.umb 0 9
set_option maxHeartbeats 4000000 in
theorem X152 (c : Ctr) (s : Slip) (h : c.clerks.length ≤ 1000000) : PureCall Tryz.prog 73 [.ag (eCtr c), .ag (eSlip s)] (.b (okSlip c s)) := by
 refine pure_body okK120 hmix Tryz.func73 cb73 cc73 cs73 cn73 ?_
 have hE : okSlip c s = (okKind s && okId s.id && okId s.guest && within s.clerk 0 (c.clerks.length - 1) && within s.atm 0 9999 && within s.umb 0 9) := rfl
 have hK : okKind s = (decide (s.kind = 1) || decide (s.kind = 2) && decide (s.guest = 0)) := rfl
 have i1 : inI ((c.clerks.length : Int) - 1) := by unfold inI; omega
 generalize okSlip c s = res at hE
 generalize okKind s = k at hE hK
 by_cases k1 : s.kind = 1
 ·have hk : k = true := by rw [hK]; simp [k1]
  subst hk
  cases a1 : okId s.id with
  | false => simp only [rc73, rs73, eCtr, eSlip, k1, x154b, a1, BL, simprocAttr]; simp [hE, a1]
  | true =>
  cases a2 : okId s.guest with
  | false => simp only [rc73, rs73, eCtr, eSlip, k1, x154b, a1, a2, BL, simprocAttr]; simp [hE, a2]
  | true =>
  cases a3 : within s.clerk 0 (c.clerks.length - 1) with
  | false => simp only [rc73, rs73, eCtr, eSlip, k1, x154b, a1, a2, i1, x150b, a3, BL, simprocAttr]; simp [hE, a3]
  | true =>
  cases a4 : within s.atm 0 9999 with
  | false => simp only [rc73, rs73, eCtr, eSlip, k1, x154b, a1, a2, i1, x150b, a3, a4, BL, simprocAttr]; simp [hE, a4]
  | true => simp only [rc73, rs73, eCtr, eSlip, k1, x154b, a1, a2, i1, x150b, a3, a4, BL, simprocAttr]; simp [hE, a1, a2, a3, a4]
 by_cases k2 : s.kind = 2
 ·by_cases k3 : s.guest = 0
  ·have hk : k = true := by rw [hK]; simp [k2, k3]
   subst hk
   cases a1 : okId s.id with
   | false => simp only [rc73, rs73, eCtr, eSlip, k1, k2, k3, x154b, a1, BL, simprocAttr]; simp [hE, a1]
   | true =>
   cases a2 : okId 0 with
   | false => simp only [rc73, rs73, eCtr, eSlip, k1, k2, k3, x154b, a1, a2, BL, simprocAttr]; simp [hE, k3, a2]
   | true =>
   cases a3 : within s.clerk 0 (c.clerks.length - 1) with
   | false => simp only [rc73, rs73, eCtr, eSlip, k1, k2, k3, x154b, a1, a2, i1, x150b, a3, BL, simprocAttr]; simp [hE, a3]
   | true =>
   cases a4 : within s.atm 0 9999 with
   | false => simp only [rc73, rs73, eCtr, eSlip, k1, k2, k3, x154b, a1, a2, i1, x150b, a3, a4, BL, simprocAttr]; simp [hE, a4]
   | true => simp only [rc73, rs73, eCtr, eSlip, k1, k2, k3, x154b, a1, a2, i1, x150b, a3, a4, BL, simprocAttr]; simp [hE, k3, a1, a2, a3, a4]
  ·have hk : k = false := by rw [hK]; simp [k2, k3]
   subst hk
   simp only [rc73, rs73, eCtr, eSlip, k1, k2, k3, BL, simprocAttr]; simp [hE]
 ·have hk : k = false := by rw [hK]; simp [k1, k2]
  subst hk
  simp only [rc73, rs73, eCtr, eSlip, k1, k2, BL, simprocAttr]; simp [hE]
def eCS (a : Ctr × Slip) : List V := [.ag (eCtr a.1), .ag (eSlip a.2)]
def dCS : List V → Ctr × Slip | [.ag c, .ag s] => (dCtr c, dSlip s) | _ => (dCtr [], dSlip [])
theorem dCS_e (a : Ctr × Slip) : dCS (eCS a) = a := by obtain ⟨c, s⟩ := a; simp [dCS, eCS, dCtr_e, dSlip_e]
noncomputable def K121 : Gam := K120.ext 73 (fnG eCS dCS (fun a => a.1.clerks.length ≤ 1000000) (fun a => okSlip a.1 a.2) (.b))
theorem okK121 : GOk Tryz.prog K121 := okK120.ext (f := 73) Tryz.call73 (fnG_ok fun a h => X152 a.1 a.2 h)
theorem x152 (c : Ctr) (s : Slip) : K121 73 [.ag (eCtr c), .ag (eSlip s)] = (c.clerks.length ≤ 1000000, .b (okSlip c s)) := (kx K121 73 (dCS_e (c, s)) rfl :)
end Go.CS
set_option maxHeartbeats 4000000
namespace Go.CS
open Go.Fam Go.Proofs
open Go.C06 (Span eI eIs eSpan gI gR dI dI_eI spanE fnG fnG_ok fnG_at within take_succ_of idxOf idxOf_at idxOf_none idxOf_any flat_len chunk_flat map_vw_rows hasRefL_flat drop_cons chunk_I len_I vw_I noref_I hmix eLI dLI dLI_e ru_countE cutL_noref hasRefL_append upL_noref)
variable {Γ : Gam}
theorem vw_Spn (hp : List Blk) (n : Nat) (l : List Span) : (l.map eSpan).map (fun r => r.map (vw hp (n + 1))) = l.map eSpan := map_vw_rows (e := eSpan) hp (n + 1) (fun _ => rfl) l
theorem vw_Slp (hp : List Blk) (n : Nat) (l : List Slip) : (l.map eSlip).map (fun r => r.map (vw hp (n + 1))) = l.map eSlip := map_vw_rows (e := eSlip) hp (n + 1) (fun _ => rfl) l
def pWr (c : Ctr) (s : Slip) : Bool := !okSlip c s
def CWr (c : Ctr) (_ : Slip) : Prop := c.clerks.length ≤ 1000000
def eCc (c : Ctr) : List V := [.pa (eCtr c)]
def dCc : List V → Ctr | [.pa c] => dCtr c | _ => dCtr []
theorem dCc_e (c : Ctr) : dCc (eCc c) = c := by simp [dCc, eCc, dCtr_e]
theorem X151 (c : Ctr) (s : Slip) (h : c.clerks.length ≤ 1000000) : PureCall Tryz.prog 72 (.ag (eSlip s) :: eCc c) (.b (pWr c s)) := by
 refine pure_body okK121 hmix Tryz.func72 cb72 cc72 cs72 cn72 ?_
 have g := x152 c s
 simp only [eCtr, eSlip] at g
 unfold pWr
 simp only [rc72, rs72, eCc, eCtr, eSlip, g, h, BL, simprocAttr]
def e151 (a : Ctr × Slip) : List V := .ag (eSlip a.2) :: eCc a.1
def d151 : List V → Ctr × Slip | .ag s :: c => (dCc c, dSlip s) | _ => (dCc [], dSlip [])
theorem d151_e (a : Ctr × Slip) : d151 (e151 a) = a := by obtain ⟨a, x⟩ := a; simp [d151, e151, dCc_e, dSlip_e]
noncomputable def K122 : Gam := K121.ext 72 (fnG e151 d151 (fun a => a.1.clerks.length ≤ 1000000) (fun a => pWr a.1 a.2) (.b))
theorem okK122 : GOk Tryz.prog K122 := okK121.ext (f := 72) Tryz.call72 (fnG_ok fun a h => X151 a.1 a.2 h)
theorem x151 (a : Ctr) (x : Slip) : K122 72 (.ag (eSlip x) :: eCc a) = (CWr a x, .b (pWr a x)) := (kx K122 72 (d151_e (a, x)) rfl :)
theorem XP104 (hG : GOk Tryz.prog Γ) (l : List Slip) (f : Nat) (hf : f < 1000000) (caps : List V) (p : Slip → Bool) (C : Slip → Prop) (hC : ∀ x ∈ l, C x) (hv : caps.map (vw [] 8) = caps) (hr : hasRefL caps = false) (hl : l.length < 10000000)
  (h : ∀ x ∈ l, Γ f (V.ag (eSlip x) :: caps) = (C x, .b (p x))) : PureCall Tryz.prog 61 [.sl 6 (l.map eSlip), .fn f caps] (.i (idxOf p l)) := by
 refine pure_body hG hmix Tryz.func61 cb61 cc61 cs61 cn61 ?_
 simp only [rc61, rs61, BL, simprocAttr]
 refine ru_countC l.length (fun i => ⟨lkp [(0, .sl 6 (l.map eSlip)), (1, .fn f caps), (7, .i l.length), (8, .i i)], []⟩) (fun i => ∀ j x, j < i → l[j]? = some x → p x = false) ?_ ?_ ?_ ?_
 ·simp only [Int.natCast_zero, BL, simprocAttr]
 ·intro j x h; omega
 ·intro i hi hc
  obtain ⟨x, hx⟩ : ∃ x, l[i]? = some x := ⟨_, List.getElem?_eq_getElem hi⟩
  have hlt : (i : Int) < l.length := by omega
  have h3 : inI ((i : Int) + 1) := by unfold inI; omega
  have hp := h x (List.mem_of_getElem? hx)
  have hCx := hC x (List.mem_of_getElem? hx)
  try simp only [eSlip, eMake] at hp
  simp only [hx, hlt, Int.natCast_add, Int.natCast_one, h3, hp, hv, hr, hf, hCx, eSlip, BL, simprocAttr]
  refine ⟨fun e => ?_, fun e => ?_⟩
  ·rw [idxOf_at hx e hc]
  ·exact none_step hx e hc
 ·intro hc
  simp only [BL, simprocAttr]
  exact (idxOf_none fun x hx => by
   obtain ⟨j, hj⟩ := List.getElem?_of_mem hx
   exact hc j x (by have := getElemLt hj; exact this) hj).symm
def e2Wr (a : Ctr × List Slip) : List V := [.sl 6 (a.2.map eSlip), .fn 72 (eCc a.1)]
def d2Wr : List V → Ctr × List Slip | [.sl _ l, .fn _ c] => (dCc c, l.map dSlip) | _ => (dCc [], [])
theorem d2Wr_e (a : Ctr × List Slip) : d2Wr (e2Wr a) = a := by obtain ⟨a, l⟩ := a; simp [d2Wr, e2Wr, dCc_e, dSlip_e, Function.comp_def]
def C2Wr (a : Ctr × List Slip) : Prop := a.2.length < 10000000 ∧ ∀ x ∈ a.2, CWr a.1 x
theorem vwWr (a : Ctr) : ((eCc a) : List V).map (vw [] 8) = (eCc a) := by
 unfold eCc
 unfold eCtr
 simp only [vw_Spn, vw_Slp, vw_I, BL, simprocAttr]
theorem rfWr (a : Ctr) : hasRefL ((eCc a) : List V) = false := rfl
noncomputable def K123 : Gam := K122.ext 61 (fnG e2Wr d2Wr (C2Wr) (fun a => idxOf (pWr a.1) a.2) (.i))
theorem okK123 : GOk Tryz.prog K123 := okK122.ext (f := 61) Tryz.call61 (fnG_ok fun a h => XP104 okK122 a.2 72 (by decide) (eCc a.1) (pWr a.1) (CWr a.1) h.2 (vwWr a.1) (rfWr a.1) h.1 fun x _ => x151 a.1 x)
theorem h104Wr (a : Ctr) (l : List Slip) : K123 61 [.sl 6 (l.map eSlip), .fn 72 (eCc a)] = (C2Wr (a, l), .i (idxOf (pWr a) l)) := (kx K123 61 (d2Wr_e (a, l)) rfl :)
theorem W70Wr (a : Ctr) (l : List Slip) (h : C2Wr (a, l)) : PureCall Tryz.prog 49 [.sl 6 (l.map eSlip), .fn 72 (eCc a)] (.b (l.any (pWr a))) := by
 refine pure_body okK123 hmix Tryz.func49 cb49 cc49 cs49 cn49 ?_
 have g := h104Wr a l
 have q := idxOf_any (pWr a) l
 generalize idxOf (pWr a) l = r at *
 generalize l.any (pWr a) = r2 at *
 try simp only [eCc, eSlip, eCtr] at g
 simp only [rc49, rs49, eCc, eCtr, g, h, q, BL, simprocAttr]
noncomputable def K124 : Gam := K123.ext 49 (fnG e2Wr d2Wr (C2Wr) (fun a => a.2.any (pWr a.1)) (.b))
theorem okK124 : GOk Tryz.prog K124 := okK123.ext (f := 49) Tryz.call49 (fnG_ok fun a h => W70Wr a.1 a.2 h)
theorem h70Wr (a : Ctr) (l : List Slip) : K124 49 [.sl 6 (l.map eSlip), .fn 72 (eCc a)] = (C2Wr (a, l), .b (l.any (pWr a))) := (kx K124 49 (d2Wr_e (a, l)) rfl :)
def pSt (_ : Unit) (n : Int) : Bool := !okId n
def CSt (_ : Unit) (_ : Int) : Prop := True
theorem x154c (n : Int) : K124 37 [.i n] = (True, .b (okId n)) := x154 n
theorem X153 (n : Int) : PureCall Tryz.prog 74 [.i n] (.b (!okId n)) := by
 refine pure_body okK124 hmix Tryz.func74 cb74 cc74 cs74 cn74 ?_
 simp only [rc74, rs74, x154c, BL, simprocAttr]
def e153 (a : Unit × Int) : List V := .i a.2 :: eU0 a.1
def d153 : List V → Unit × Int | .i n :: c => (dU0 c, n) | _ => ((), 0)
theorem d153_e (a : Unit × Int) : d153 (e153 a) = a := rfl
noncomputable def K125 : Gam := K124.ext 74 (fnG e153 d153 (fun _ => True) (fun a => pSt a.1 a.2) (.b))
theorem okK125 : GOk Tryz.prog K125 := okK124.ext (f := 74) Tryz.call74 (fnG_ok fun a h => X153 a.2)
theorem x153 (a : Unit) (x : Int) : K125 74 (.i x :: eU0 a) = (CSt a x, .b (pSt a x)) := (kx K125 74 (d153_e (a, x)) rfl :)
def e2St (a : Unit × List Int) : List V := [.sl 1 (a.2.map eI), .fn 74 (eU0 a.1)]
def d2St : List V → Unit × List Int | [.sl _ l, .fn _ c] => (dU0 c, l.map dI) | _ => (dU0 [], [])
theorem d2St_e (a : Unit × List Int) : d2St (e2St a) = a := by obtain ⟨a, l⟩ := a; simp [d2St, e2St, dU0_e, dI_eI, Function.comp_def]
def C2St (a : Unit × List Int) : Prop := a.2.length < 10000000 ∧ ∀ x ∈ a.2, CSt a.1 x
theorem vwSt (a : Unit) : ((eU0 a) : List V).map (vw [] 8) = (eU0 a) := by
 rfl
theorem rfSt (a : Unit) : hasRefL ((eU0 a) : List V) = false := rfl
noncomputable def K126 : Gam := K125.ext 97 (fnG e2St d2St (C2St) (fun a => idxOf (pSt a.1) a.2) (.i))
theorem okK126 : GOk Tryz.prog K126 := okK125.ext (f := 97) Tryz.call97 (fnG_ok fun a h => XP122 okK125 a.2 74 (by decide) (eU0 a.1) (pSt a.1) (CSt a.1) h.2 (vwSt a.1) (rfSt a.1) h.1 fun x _ => x153 a.1 x)
theorem h122St (a : Unit) (l : List Int) : K126 97 [.sl 1 (l.map eI), .fn 74 (eU0 a)] = (C2St (a, l), .i (idxOf (pSt a) l)) := (kx K126 97 (d2St_e (a, l)) rfl :)
theorem W82St (a : Unit) (l : List Int) (h : C2St (a, l)) : PureCall Tryz.prog 75 [.sl 1 (l.map eI), .fn 74 (eU0 a)] (.b (l.any (pSt a))) := by
 refine pure_body okK126 hmix Tryz.func75 cb75 cc75 cs75 cn75 ?_
 have g := h122St a l
 have q := idxOf_any (pSt a) l
 generalize idxOf (pSt a) l = r at *
 generalize l.any (pSt a) = r2 at *
 try simp only [eU0, eI] at g
 simp only [rc75, rs75, eU0, g, h, q, BL, simprocAttr]
noncomputable def K127 : Gam := K126.ext 75 (fnG e2St d2St (C2St) (fun a => a.2.any (pSt a.1)) (.b))
theorem okK127 : GOk Tryz.prog K127 := okK126.ext (f := 75) Tryz.call75 (fnG_ok fun a h => W82St a.1 a.2 h)
theorem h82St (a : Unit) (l : List Int) : K127 75 [.sl 1 (l.map eI), .fn 74 (eU0 a)] = (C2St (a, l), .b (l.any (pSt a))) := (kx K127 75 (d2St_e (a, l)) rfl :)
theorem x150c (n lo hi : Int) : K127 26 [.i n, .i lo, .i hi] = (True, .b (within n lo hi)) := x150 n lo hi
theorem x149c (t : Tariff) : K127 71 [.ag (eTar t)] = (True, .b (okTar t)) := x149 t
theorem x70c (c : Ctr) (l : List Slip) : K127 49 [.sl 6 (l.map eSlip), .fn 72 [.pa (eCtr c)]] = (C2Wr (c, l), .b (l.any (pWr c))) := h70Wr c l
theorem x82c (l : List Int) : K127 75 [.sl 1 (l.map eI), .fn 74 []] = (C2St ((), l), .b (l.any (pSt ()))) := h82St () l
def okClerk (s : Span) : Bool := within s.low (-30) s.high && decide (s.high ≤ 30)
def closAt (c : Ctr) (i : Nat) : Span := c.closed.getD i ⟨0, 0⟩
def okClos (c : Ctr) (i : Nat) : Bool := within (closAt c i).low 0 (closAt c i).high && decide ((closAt c i).high ≤ 9999) && (decide (i = 0) || decide ((closAt c (i - 1)).high < (closAt c i).low))
def okCtrB (c : Ctr) : Bool := decide ((c.clerks.length : Int) ≤ 3) && decide ((c.slips.length : Int) ≤ 12) && decide ((c.voided.length : Int) ≤ 12) && decide ((c.closed.length : Int) ≤ 4) && okTar c.tar && c.clerks.all okClerk && (List.range c.closed.length).all (okClos c) && c.slips.all (okSlip c) && c.voided.all okId
structure SmallCt (c : Ctr) : Prop where
 clerks : c.clerks.length ≤ 1000000
 slips : c.slips.length ≤ 1000000
 voided : c.voided.length ≤ 1000000
 closed : c.closed.length ≤ 1000000
theorem clos_get {c : Ctr} {i : Nat} (h : i < c.closed.length) : c.closed[i]? = some (closAt c i) := by
 unfold closAt
 rw [List.getD_eq_getElem?_getD, List.getElem?_eq_getElem h]; rfl
set_option maxHeartbeats 4000000 in
theorem X131 (c : Ctr) (hs : SmallCt c) : PureCall Tryz.prog 59 [.ag (eCtr c)] (.b (okCtrB c)) := by
 refine pure_body okK127 hmix Tryz.func59 cb59 cc59 cs59 cn59 ?_
 have hE : okCtrB c = (decide ((c.clerks.length : Int) ≤ 3) && decide ((c.slips.length : Int) ≤ 12) && decide ((c.voided.length : Int) ≤ 12) && decide ((c.closed.length : Int) ≤ 4) && okTar c.tar && c.clerks.all okClerk && (List.range c.closed.length).all (okClos c) && c.slips.all (okSlip c) && c.voided.all okId) := rfl
 generalize okCtrB c = res at hE
 have g1 := x149c c.tar
 simp only [eTar] at g1
 have g2 := x70c c c.slips
 have g3 := x82c c.voided
 have hes : eCtr c = [.sl 2 (c.clerks.map eSpan), .sl 6 (c.slips.map eSlip), .sl 1 (c.voided.map eI), .sl 2 (c.closed.map eSpan), .i c.tar.free, .i c.tar.unit, .i c.tar.price, .i c.tar.most, .i c.tar.lost, .i c.tar.value, .i c.tar.pledge] := rfl
 rw [hes] at g2 ⊢
 have h1 := hs.clerks
 have h2 := hs.slips
 have h3 := hs.voided
 have h4 := hs.closed
 by_cases a1 : (c.clerks.length : Int) ≤ 3
 rotate_left
 ·have b1 : (3 : Int) < c.clerks.length := by omega
  simp only [rc59, rs59, b1, BL, simprocAttr]; simp [hE, a1]
 have b1 : ¬ (3 : Int) < c.clerks.length := by omega
 by_cases a2 : (c.slips.length : Int) ≤ 12
 rotate_left
 ·have b2 : (12 : Int) < c.slips.length := by omega
  simp only [rc59, rs59, b1, b2, BL, simprocAttr]; simp [hE, a2]
 have b2 : ¬ (12 : Int) < c.slips.length := by omega
 by_cases a3 : (c.voided.length : Int) ≤ 12
 rotate_left
 ·have b3 : (12 : Int) < c.voided.length := by omega
  simp only [rc59, rs59, b1, b2, b3, BL, simprocAttr]; simp [hE, a3]
 have b3 : ¬ (12 : Int) < c.voided.length := by omega
 by_cases a4 : (c.closed.length : Int) ≤ 4
 rotate_left
 ·have b4 : (4 : Int) < c.closed.length := by omega
  simp only [rc59, rs59, b1, b2, b3, b4, BL, simprocAttr]; simp [hE, a4]
 have b4 : ¬ (4 : Int) < c.closed.length := by omega
 cases a5 : okTar c.tar with
 | false => simp only [rc59, rs59, b1, b2, b3, b4, g1, a5, BL, simprocAttr]; simp [hE, a5]
 | true =>
 simp only [rc59, rs59, b1, b2, b3, b4, g1, a5, BL, simprocAttr]
 refine ru_countC c.clerks.length (fun i => ⟨lkp [(1, .pa [.sl 2 (c.clerks.map eSpan), .sl 6 (c.slips.map eSlip), .sl 1 (c.voided.map eI), .sl 2 (c.closed.map eSpan), .i c.tar.free, .i c.tar.unit, .i c.tar.price, .i c.tar.most, .i c.tar.lost, .i c.tar.value, .i c.tar.pledge]), (38, .sl 2 (c.clerks.map eSpan)), (39, .i c.clerks.length), (40, .i i)], []⟩) (fun i => ∀ j x, j < i → c.clerks[j]? = some x → okClerk x = true) ?_ ?_ ?_ ?_
 ·simp only [Int.natCast_zero, BL, simprocAttr]
 ·intro j x h; omega
 ·intro i hi hc
  have hlt : (i : Int) < c.clerks.length := by omega
  have i1 : inI ((i : Int) + 1) := by unfold inI; omega
  obtain ⟨s, hx⟩ : ∃ s, c.clerks[i]? = some s := ⟨_, List.getElem?_eq_getElem hi⟩
  have hk : okClerk s = (within s.low (-30) s.high && decide (s.high ≤ 30)) := rfl
  have hno : okClerk s = false → res = false := fun h => by
   have := all_no (p := okClerk) hx h
   rw [hE, this]; simp
  cases e1 : within s.low (-30) s.high with
  | false =>
   have q := hno (by rw [hk, e1]; rfl)
   simp only [hlt, hx, x150c, e1, q, BL, simprocAttr]
  | true =>
   by_cases e2 : s.high ≤ 30
   ·have e3 : ¬ (30 : Int) < s.high := by omega
    simp only [hlt, hx, x150c, e1, e3, i1, Int.natCast_add, Int.natCast_one, BL, simprocAttr]
    exact all_step (p := okClerk) hx (by rw [hk, e1]; simp [e2]) hc
   ·have e3 : (30 : Int) < s.high := by omega
    have q := hno (by rw [hk, e1]; simp [e2])
    simp only [hlt, hx, x150c, e1, e3, q, BL, simprocAttr]
 ·intro hc
  have hlt : ¬ ((c.clerks.length : Int) < c.clerks.length) := by omega
  have t1 : c.clerks.all okClerk = true := all_yes (p := okClerk) hc
  simp only [hlt, BL, simprocAttr]
  refine ru_countC c.closed.length (fun i => ⟨lkp [(1, .pa [.sl 2 (c.clerks.map eSpan), .sl 6 (c.slips.map eSlip), .sl 1 (c.voided.map eI), .sl 2 (c.closed.map eSpan), .i c.tar.free, .i c.tar.unit, .i c.tar.price, .i c.tar.most, .i c.tar.lost, .i c.tar.value, .i c.tar.pledge]), (57, .sl 2 (c.closed.map eSpan)), (58, .i c.closed.length), (59, .i i)], []⟩) (fun i => ∀ j, j < i → okClos c j = true) ?_ ?_ ?_ ?_
  ·simp only [Int.natCast_zero, BL, simprocAttr]
  ·intro j h; omega
  ·intro i hi hc
   have hlt : (i : Int) < c.closed.length := by omega
   have i1 : inI ((i : Int) + 1) := by unfold inI; omega
   have hx := clos_get hi
   have hk : okClos c i = (within (closAt c i).low 0 (closAt c i).high && decide ((closAt c i).high ≤ 9999) && (decide (i = 0) || decide ((closAt c (i - 1)).high < (closAt c i).low))) := rfl
   have hno : okClos c i = false → res = false := fun h => by
    rw [hE, range_no hi h]; simp
   have hyes : okClos c i = true → ∀ j, j < i + 1 → okClos c j = true := fun h j hj => by
    by_cases e : j = i
    ·subst e; exact h
    ·exact hc j (by omega)
   cases e1 : within (closAt c i).low 0 (closAt c i).high with
   | false =>
    have q := hno (by rw [hk, e1]; rfl)
    simp only [hlt, hx, x150c, e1, q, BL, simprocAttr]
   | true =>
    by_cases e2 : (closAt c i).high ≤ 9999
    rotate_left
    ·have e3 : (9999 : Int) < (closAt c i).high := by omega
     have q := hno (by rw [hk, e1]; simp [e2])
     simp only [hlt, hx, x150c, e1, e3, q, BL, simprocAttr]
    have e3 : ¬ (9999 : Int) < (closAt c i).high := by omega
    by_cases e4 : i = 0
    ·subst e4
     have ho : okClos c 0 = true := by rw [hk, e1]; simp [e2]
     have hlt0 : (0 : Int) < c.closed.length := by omega
     simp only [hlt0, hx, x150c, e1, e3, i1, Int.natCast_zero, Int.natCast_add, Int.natCast_one, BL, simprocAttr]
     exact ⟨by unfold inI; omega, fun j hj => by
      obtain rfl : j = 0 := by omega
      exact ho⟩
    ·have i0 : (0 : Int) < i := by omega
     have i2 : inI ((i : Int) - 1) := by unfold inI; omega
     have i3 : (0 : Int) ≤ (i : Int) - 1 := by omega
     have i4 : (i : Int) - 1 < c.closed.length := by omega
     have hp := clos_get (c := c) (i := i - 1) (by omega)
     have hn : ((i : Int) - 1).toNat = i - 1 := by omega
     by_cases e5 : (closAt c (i - 1)).high < (closAt c i).low
     ·have e6 : ¬ (closAt c i).low ≤ (closAt c (i - 1)).high := by omega
      have ho := hyes (by rw [hk, e1]; simp [e2, e5])
      simp only [hlt, hx, x150c, e1, e3, i0, i2, i3, i4, hn, hp, e6, i1, Int.natCast_add, Int.natCast_one, BL, simprocAttr]
      exact ho
     ·have e6 : (closAt c i).low ≤ (closAt c (i - 1)).high := by omega
      have q := hno (by rw [hk, e1]; simp [e2, e5, e4])
      simp only [hlt, hx, x150c, e1, e3, i0, i2, i3, i4, hn, hp, e6, q, BL, simprocAttr]
  ·intro hc
   have hlt : ¬ ((c.closed.length : Int) < c.closed.length) := by omega
   have t2 : (List.range c.closed.length).all (okClos c) = true := List.all_eq_true.2 fun j hj => hc j (List.mem_range.1 hj)
   have c1 : C2Wr (c, c.slips) := ⟨by show c.slips.length < 10000000; omega, fun _ _ => h1⟩
   have c2 : C2St ((), c.voided) := ⟨by show c.voided.length < 10000000; omega, fun _ _ => trivial⟩
   have n1 : c.slips.all (okSlip c) = !c.slips.any (pWr c) := by rw [List.not_any_eq_all_not]; simp [pWr]
   have n2 : c.voided.all okId = !c.voided.any (pSt ()) := by rw [List.not_any_eq_all_not]; simp [pSt]
   rw [t1, t2, n1, n2] at hE
   cases d1 : c.slips.any (pWr c) with
   | true =>
    simp only [hlt, g2, c1, d1, BL, simprocAttr]; simp [hE, d1]
   | false =>
    simp only [hlt, g2, c1, d1, g3, c2, BL, simprocAttr]; simp [hE, d1, a1, a2, a3, a4, a5]
end Go.CS
set_option maxHeartbeats 4000000
namespace Go.CS
open Go.Fam Go.Proofs Go.RowKit Go.Maps Go.Sort Go.Shelf
open Go.WideElems (rg rd)
open Go.WideShapes (sorted_perm)
open Go.C06 (eI)
set_option maxRecDepth 100000 in
set_option maxHeartbeats 2000000 in
theorem keys157 (F : Fence) (n : Nat) (hf : F.fn 76) (hro : F.round = none) (hn : 1 ≤ n) (l Bm off b nn : Nat) (D0 : DataW Unit) {R : Value → Option (DataW Unit × List MemPlace)} (J : List Int → World → Prop)
  (hY : ∀ pre x W, J pre W → pre.length < Maps.size D0 → YieldAt F (n - 1) Tryz.prog l #[encZ x] W fun e W' => e = .returned (.bool true) ∧ J (pre ++ [x]) W' ∧ KeepsWalks W W')
  (W : World) (hJ : AbidesFrom W.heap.size J) (hm : W.cell? ⟨Bm, off, none⟩ = some (.map (some b))) (hown : W.ownsMap Tryz.prog 3 R b nn D0) (h0 : J [] W) :
  CallsIn F n Tryz.prog 76 #[.func (.yield l) #[] #[], .pointer (some ⟨Bm, off, none⟩)] W fun e W' => (∃ v, e = .returned v) ∧ ∃ ss : List Int, ss.Perm (intKeys D0) ∧ J ss W' := by
 refine callsIn_of_wp Tryz.func76 rfl hf ?_ hro
 simp only [Tryz.ntmps76, List.size_toArray, List.length_cons, List.length_nil, Nat.reduceAdd, Nat.reduceSub, Array.replicate_succ, Array.replicate_zero, List.push_toArray, List.append_toArray, List.nil_append, List.cons_append]
 gi_wp2_with (first
  | (gi_at_range; refine wpListIn_range_own _ rfl _ 119 rfl 3 57 (int_keyed Tryz.underlying3) Tryz.underlying119 _ b nn _ rfl hown ?_; intro w0 hrg0 hg0 hs0)
  | gi_in)
 go_frame
 gi_loopw [3] (fun _ wr => ∃ (left : Lit → Bool) (cnt : Nat) (ss : List Int), wr.ranges Tryz.prog 3 R b W.heap.size nn D0 left cnt ∧ ss.length + cnt ≤ Maps.size D0 ∧ CollectedI D0 left ss ∧ J ss wr)
  (fun _ wr => wr.rangeLeft b W.heap.size)
 case atStart =>
  exact ⟨_, _, [], hrg0, by simp, CollectedI.start D0, hJ [] W w0 none h0 hg0 (fun r e => by cases e)⟩
 case round =>
  obtain ⟨left, cnt, ss, hrg, hcs, hC, hJs⟩ := hrel
  gi_wp2_with (first
   | (gi_at_next; refine wpListIn_next_ranges _ rfl _ rfl 3 (int_keyed Tryz.underlying3) R encZ id (fun key kl hk => by obtain ⟨x, hx, _⟩ := Maps.keyOf_i64 Tryz.underlying3 hk; exact ⟨x, hx⟩) (fun v _ _ => ⟨v, rfl⟩) b W.heap.size nn _ _ _ rfl hrg ?_ ?_)
   | gi_in)
  ·intro hc0 hl0
   gi_wp2
   go_end0
   exact ⟨⟨_, rfl⟩, ss, hC.perm hown (int_keyed Tryz.underlying3) Tryz.underlying3 hl0, hJs⟩
  ·intro x c kl yd yp w2 cnt2 hkey hlk hv hat hrg2 hlt hg2 hs2 hen
   obtain ⟨x', ex, rfl, _⟩ := Maps.keyOf_i64 Tryz.underlying3 hkey
   obtain rfl : x = x' := encZ_inj ex
   have hJ2 : J ss w2 := hJ ss wr w2 (some W.heap.size) hJs hg2 (fun r e => by cases e; exact ⟨Nat.le_refl _, hrg.iter_walk⟩)
   obtain ⟨fn, tmps, assign, body, hy, hR⟩ := hY ss x w2 hJ2 (by omega)
   clear hs2
   gi_wp2
   refine hR.mono ?_
   rintro e W3 ⟨rfl, hJ3, hk3⟩
   gi_wp2
   have hrg3 := hrg2.of_walks hk3
   go_roundw
   case rel => exact ⟨_, cnt2, ss ++ [x], hrg3, by simp; omega, hC.step hlk hat, hJ3⟩
   case measure => rw [hrg3.left_eq, hrg.left_eq]; exact hlt
theorem sorts156 (m : Nat) : AnyZI.SortsIn Tryz.prog Tryz.sorted132_ren Fence.wide m :=
  ⟨fun blk off cap ss W hH hblk hsz => callsIn_wide.2 (Tryz.slices_Sort_int blk off cap ss W hH hblk hsz),
   fun p cap W => callsIn_wide.2 (Tryz.slices_Sort_int_none p cap W)⟩
def sortI (l : List Int) : List Int := l.mergeSort fun x y => decide (x ≤ y)
def anyR : Value → Option (DataW Unit × List MemPlace) := fun _ => some (.lit (.bool true), [])
theorem wf_i64 {z : Int} (h : inI z) : (Lit.int .i64 z).wf = true := by
 unfold inI at h
 simp [Lit.wf, IntKind.min, IntKind.max, IntKind.signed, IntKind.bits]
 omega
theorem keyOf_int {z : Int} (h : inI z) : keyOf Tryz.prog 3 (.int .i64 z) = some (.int .i64 z) := by
 simp [keyOf, Tryz.underlying3, mapKey, wf_i64 h]
theorem sorted132 (ks : List (List Int)) (vs : List V) (hl : ks.length ≤ 1000000) (hin : ∀ k ∈ ks, inI (k.headD 0)) : PureCall Tryz.prog 27 [.fn 76 [.pa [.pm false ks vs]]] (.sl 1 ((sortI (ks.map fun k => k.headD 0)).map eI)) := by
 intro S w cargs hS hsz hrep
 obtain ⟨c, hc⟩ : ∃ c, cargs = #[c] := by
  match cargs, hsz with
  | ⟨[c]⟩, _ => exact ⟨c, rfl⟩
 subst hc
 simp only [RepL, Rep, and_true] at hrep
 obtain ⟨ccs, rfl, hn, hrep⟩ := hrep
 obtain ⟨c1, hc1⟩ : ∃ c1, ccs = #[c1] := by
  match ccs, hn with
  | ⟨[c]⟩, _ => exact ⟨c, rfl⟩
 subst hc1
 simp only [RepL, Rep, and_true] at hrep
 obtain ⟨Bm, off, cur, e, fr, rfl, hSB, hheap, hrow⟩ := hrep
 cases hd : cur.toList.drop off with
 | nil => rw [hd] at hrow; exact hrow.elim
 | cons sv rest =>
 rw [hd] at hrow
 obtain ⟨⟨b, es, rfl, hSb, hbh, hME, _, _, hnd, hone⟩, _⟩ := hrow
 have hone := hone rfl
 have hg0 : cur[off]? = some (.map (some b)) := by
  have := congrArg (·[0]?) hd
  simpa using this
 have hc0 : w.cell? ⟨Bm, off, none⟩ = some (.map (some b)) := by
  simp only [World.cell?, hheap, hg0]; rfl
 have hlen : es.size = ks.length := by
  have := congrArg List.length hME.1
  simpa using this
 have hkey : ∀ x ∈ es.toList, ∃ k ∈ ks, x.key = .int .i64 (k.headD 0) := fun x hx => by
  have : x.key ∈ es.toList.map (·.key) := List.mem_map.2 ⟨x, hx, rfl⟩
  rw [hME.1] at this
  obtain ⟨k, hk, e⟩ := List.mem_map.1 this
  exact ⟨k, hk, e.symm⟩
 have hko : ∀ x ∈ es.toList, ∃ k ∈ ks, x.key = .int .i64 (k.headD 0) ∧ keyOf Tryz.prog 3 x.key = some (.int .i64 (k.headD 0)) := fun x hx => by
  obtain ⟨k, hk, e⟩ := hkey x hx
  exact ⟨k, hk, e, by rw [e]; exact keyOf_int (hin k hk)⟩
 have hmx : es.size ≤ maxLen := Nat.le_trans (show es.size ≤ 1000000 by omega) (by decide)
 have hown : w.ownsMap Tryz.prog 3 anyR b es.size (.map ((es.toList.map (rg Tryz.prog 3 anyR)).foldr DataW.insert [])) := by
  refine ⟨es, es.size, hbh, ⟨hmx, ⟨fun x hx => ?_, ?_, ?_⟩, fun x hx => ?_⟩, Nat.le_refl _, rfl⟩
  ·obtain ⟨i, hi⟩ := List.getElem?_of_mem hx
   rw [Array.getElem?_toList] at hi
   rw [hME.2 i x hi]
   exact (Array.getElem?_eq_some_iff.1 hi).1
  ·have : es.toList.map (·.born) = List.range es.size := by
    apply List.ext_getElem?
    intro i
    rw [List.getElem?_map, Array.getElem?_toList]
    by_cases hi : i < es.size
    ·rw [List.getElem?_range hi, Array.getElem?_eq_getElem hi]
     simp only [Option.map_some]
     rw [hME.2 i _ (Array.getElem?_eq_getElem hi)]
    ·rw [List.getElem?_eq_none (by simp; omega), Array.getElem?_eq_none (by omega)]; rfl
   rw [this]; exact List.nodup_range
  ·rw [hME.1]
   refine map_nod (fun a ha b hb e => ?_) hnd
   have h1 := hone a ha
   have h2 := hone b hb
   match a, b, h1, h2 with
   | [x], [y], _, _ =>
    simp only [keyC, Bool.false_eq_true, if_false, List.headD_cons, Value.int.injEq, true_and] at e
    rw [e]
  ·obtain ⟨k, _, _, hk⟩ := hko x hx
   exact ⟨(.int .i64 (k.headD 0), .lit (.bool true)), by unfold Go.WideElems.rd; rw [hk]; rfl⟩
 generalize hD0 : (DataW.map ((es.toList.map (rg Tryz.prog 3 anyR)).foldr DataW.insert []) : DataW Unit) = D0 at hown
 have hik : (intKeys D0).Perm (ks.map fun k => k.headD 0) := by
  rw [← hD0]
  show ((es.toList.map (rg Tryz.prog 3 anyR)).foldr DataW.insert []).map (fun p => Go.intOf p.1) |>.Perm _
  refine ((sorted_perm _).map _).trans ?_
  rw [List.map_map]
  have : es.toList.map ((fun p => Go.intOf p.1) ∘ rg Tryz.prog 3 anyR) = es.toList.map fun x => Go.RowKit.intOf x.key := by
   apply List.map_congr_left
   intro x hx
   obtain ⟨k, hk, e, hko⟩ := hko x hx
   have h1 : Go.WideElems.rg Tryz.prog 3 anyR x = (.int .i64 (k.headD 0), .lit (.bool true)) := by
    unfold Go.WideElems.rg Go.WideElems.rd
    rw [hko]; rfl
   rw [Function.comp_apply, h1, e]; rfl
  rw [this, show (fun x : MapEntry => Go.RowKit.intOf x.key) = Go.RowKit.intOf ∘ (·.key) from rfl, ← List.map_map, hME.1, List.map_map]
  exact List.Perm.of_eq (List.map_congr_left fun k _ => rfl)
 have hsz0 : Maps.size D0 = ks.length := by
  rw [← hD0, size_eq, length_sorted, List.length_map, ← hlen]; simp
 have hbm : Bm < w.heap.size := hS Bm hSB
 have hbl : b < w.heap.size := hS b hSb
 have hseq : SeqGives Fence.wide 2 Tryz.prog 76 #[.pointer (some ⟨Bm, off, none⟩)] encZ (fun ss => ss.Perm (intKeys D0)) (Maps.size D0) w := fun l J W hW hJ hY h0 => by
  obtain ⟨es', clock, hb, Ft, hs, hD⟩ := hown
  exact keys157 Fence.wide 2 trivial rfl (by omega) l Bm off b es.size D0 J hY W hJ ((hW.cell (p := ⟨Bm, off, none⟩) hbm).trans hc0) ⟨es', clock, (hW.block b hbl).trans hb, Ft, hs, hD⟩ h0
 have cS := AnyZI.sorted_in { Tryz.sorted132 with } Fence.wide 5 trivial trivial trivial trivial rfl (by omega) (sorts156 _) (enters_of Tryz.func46 (by kernel_rfl) rfl) 76 #[.pointer (some ⟨Bm, off, none⟩)] trivial (enters_of Tryz.func76 (by kernel_rfl) rfl) _ _ (by rw [hsz0, ← hlen]; exact hmx) (by rw [hsz0]; omega) w hseq
 refine Calls.mono ((callsIn_wide (n := 5)).1 cS) ?_
 rintro e' w' ⟨v, ss, rfl, hperm, hrow, hnil, hbw⟩
 have hsort : sortI (ks.map fun k => k.headD 0) = ss.mergeSort (fun x y => decide (x ≤ y)) := (mergeSort_of_perm_i (hperm.trans hik)).symm
 have hfz : ∀ a, a.block < w.heap.size → w'.frozen? a = w.frozen? a := fun a ha => by
  unfold World.frozen?; rw [hbw.block _ ha]
 refine ⟨v, rfl, ⟨⟨fun k hk => ⟨.inl hk, hbw.block k (hS k hk)⟩, fun _ _ _ h => (by cases h)⟩, hbw.os, hbw.tape, hbw.output, hbw.size, hfz, fun k hk _ => hbw.block k hk, fun k ⟨_, _, h⟩ => (by cases h), fun k hk => ?_⟩, ?_⟩
 ·rcases hk with hk | hk
  ·exact .inl hk
  ·exact .inr (.inr hk.1)
 ·rw [hsort]
  have hsl : (ss.mergeSort fun x y => decide (x ≤ y)).length = ss.length := List.length_mergeSort ss
  generalize (ss.mergeSort fun x y => decide (x ≤ y)) = zs at hrow hsl
  obtain ⟨hxl, hv⟩ := hrow
  simp only [Rep]
  rcases hv with ⟨rfl, h0⟩ | ⟨g, cap, cur', rfl, hg, hgh, h1, h2, h3, h4⟩
  ·have hz : zs = [] := List.eq_nil_of_length_eq_zero (by omega)
   subst hz
   exact ⟨none, 0, rfl, Nat.le_refl _, .inl rfl⟩
  ·refine ⟨some ⟨g, 0, none⟩, cap, by rw [List.length_map, hsl], by rw [List.length_map, hsl]; exact h1, .inr ⟨g, 0, cur', _, (0, 0), rfl, .inr ⟨hg, (Array.getElem?_eq_some_iff.1 hgh).1⟩, hgh, ?_⟩⟩
   rw [List.drop_zero]
   have key : ∀ (zs : List Int) (cs : List Value), zs.length ≤ cs.length → cs.take zs.length = zs.map encZ → RepRows (Sfr S w w') w' 1 (zs.map eI) cs := by
    intro zs
    induction zs with
    | nil => intro cs _ _; exact trivial
    | cons z zs ih =>
     intro cs hl ht
     cases cs with
     | nil => simp at hl
     | cons c cs =>
      simp only [List.length_cons, List.take_succ_cons, List.map_cons, List.cons.injEq] at ht
      obtain ⟨rfl, ht⟩ := ht
      refine ⟨⟨rfl, fun c hc => ?_⟩, ⟨rfl, trivial⟩, ih cs (by simpa using hl) ht⟩
      simp only [List.take_succ_cons, List.take_zero, List.mem_singleton] at hc
      subst hc; rfl
   refine key zs _ ?_ ?_
   ·have : cur'.toList.length = cur'.size := by simp
    omega
   ·rw [hsl]
    rw [Nat.mul_one] at h4
    exact h4
end Go.CS
set_option maxHeartbeats 4000000
namespace Go.CS
open Go.Fam Go.Proofs
open Go.C06 (Span eI eIs eSpan gI gR dI dI_eI spanE fnG fnG_ok fnG_at within take_succ_of idxOf idxOf_at idxOf_none idxOf_any flat_len chunk_flat map_vw_rows hasRefL_flat drop_cons chunk_I len_I vw_I noref_I hmix eLI dLI dLI_e ru_countE cutL_noref hasRefL_append upL_noref)
variable {Γ : Gam}
theorem eq105 : EqFlat Tryz.prog 57 6 := EqFlat.of (fs := _) (show Tryz.prog.underlying 57 = some (.struct (Tryz.prog.fieldsOf 57)) by kernel_rfl) (by kernel_rfl) (by kernel_rfl)
abbrev KV := List (List Int) × List V
def e133 (a : KV) : List V := [.pm false a.1 a.2]
def d133 : List V → KV | [.pm _ ks vs] => (ks, vs) | _ => ([], [])
theorem d133_e (a : KV) : d133 (e133 a) = a := rfl
def b133 (a : KV) : V := .fn 76 [.pa [.pm false a.1 a.2]]
theorem X133 (ks : List (List Int)) (vs : List V) : PureCall Tryz.prog 60 [.pm false ks vs] (.fn 76 [.pa [.pm false ks vs]]) := by
 refine pure_body okK127 hmix Tryz.func60 cb60 cc60 cs60 cn60 ?_
 simp only [rc60, rs60, vw_pm, ↓BU3, BL, simprocAttr]
noncomputable def K128 : Gam := K127.ext 60 (fnG e133 d133 (fun _ => True) (fun a => a) (b133))
theorem okK128 : GOk Tryz.prog K128 := okK127.ext (f := 60) Tryz.call60 (fnG_ok fun a h => X133 a.1 a.2)
theorem x133 (ks : List (List Int)) (vs : List V) : K128 60 [.pm false ks vs] = (True, .fn 76 [.pa [.pm false ks vs]]) := (kx K128 60 (d133_e (ks, vs)) rfl :)
def e132 (a : KV) : List V := [.fn 76 [.pa [.pm false a.1 a.2]]]
def d132 : List V → KV | [.fn _ [.pa [.pm _ ks vs]]] => (ks, vs) | _ => ([], [])
theorem d132_e (a : KV) : d132 (e132 a) = a := rfl
def C132 (ks : List (List Int)) : Prop := ks.length ≤ 1000000 ∧ ∀ k ∈ ks, inI (k.headD 0)
def keysS (ks : List (List Int)) : List Int := sortI (ks.map fun k => k.headD 0)
noncomputable def K129 : Gam := K128.ext 27 (fnG e132 d132 (fun a => C132 a.1) (fun a => keysS a.1) ((fun l => .sl 1 (l.map eI))))
theorem okK129 : GOk Tryz.prog K129 := okK128.ext (f := 27) Tryz.call27 (fnG_ok fun a h => sorted132 a.1 a.2 h.1 h.2)
theorem x132 (ks : List (List Int)) (vs : List V) : K129 27 [.fn 76 [.pa [.pm false ks vs]]] = (C132 ks, .sl 1 ((keysS ks).map eI)) := (kx K129 27 (d132_e (ks, vs)) rfl :)
def x133a (ks : List (List Int)) (vs : List V) := lft K129 (x133 ks vs) rfl
def vSlip (s : Slip) : V := .ag (eSlip s)
def sl0 : Slip := ⟨0, 0, 0, 0, 0, 0⟩
def onceK (l : List Slip) : Nat → Option (AM Slip)
 | 0 => some []
 | k + 1 => match onceK l k with
  | none => none
  | some m => if (aget m [(l.getD k sl0).id]).isSome = true ∧ (aget m [(l.getD k sl0).id]).getD sl0 ≠ l.getD k sl0 then none else some (aput m [(l.getD k sl0).id] (l.getD k sl0))
def onceN (l : List Slip) : Option (AM Slip) := onceK l l.length
def slipsM (m : AM Slip) : List Slip := (keysS (aks m)).map fun id => (aget m [id]).getD sl0
def onceV (o : Option (AM Slip)) : V := match o with | none => .tp [.sl 6 [], .b false] | some m => .tp [.sl 6 ((slipsM m).map eSlip), .b true]
theorem onceK_none {l : List Slip} {k : Nat} (h : onceK l k = none) : ∀ n, k ≤ n → onceK l n = none
  | 0, hn => by have : k = 0 := by omega
                subst this; exact h
  | n + 1, hn => by
    by_cases e : k = n + 1
    · subst e; exact h
    · have := onceK_none h n (by omega)
      simp only [onceK, this]
structure OkOnce (l : List Slip) (k : Nat) (m : AM Slip) : Prop where
 nod : (aks m).Nodup
 len : (aks m).length ≤ k
 ids : ∀ q ∈ aks m, ∃ s ∈ l, q = [s.id]
theorem okOnce {l : List Slip} : ∀ {k : Nat} {m : AM Slip}, k ≤ l.length → onceK l k = some m → OkOnce l k m
 | 0, m, _, h => by
  simp only [onceK, Option.some.injEq] at h
  subst h
  exact ⟨List.nodup_nil, Nat.le_refl _, by simp [aks]⟩
 | k + 1, m, hk, h => by
  simp only [onceK] at h
  cases e : onceK l k with
  | none => rw [e] at h; cases h
  | some m0 =>
   rw [e] at h
   simp only at h
   split at h
   ·cases h
   ·simp only [Option.some.injEq] at h
    subst h
    have ih := okOnce (by omega) e
    refine ⟨aks_nodup ih.nod _ _, ?_, fun q hq => ?_⟩
    ·rw [aks_put]
     have := putK_len (ks := aks m0) (l := [(l.getD k sl0).id])
     have := ih.len
     omega
    ·rw [aks_put, mem_putK] at hq
     rcases hq with hq | rfl
     ·exact ih.ids q hq
     ·refine ⟨l.getD k sl0, ?_, rfl⟩
      rw [List.getD_eq_getElem?_getD, List.getElem?_eq_getElem (by omega)]
      exact List.getElem_mem _
theorem avs_getS (m : AM Slip) (k : List Int) : ((avs vSlip m)[(aks m).idxOf k]?).getD (.ag [.i 0, .i 0, .i 0, .i 0, .i 0, .i 0]) = .ag (eSlip ((aget m k).getD sl0)) := by
 rw [avs_get]
 cases aget m k <;> rfl
theorem noref_Sm (m : AM Slip) : hasRefL (avs vSlip m) = false := noref_avs (fun _ => rfl) m
theorem len_Slp (l : List Slip) : ((l.map eSlip).flatten).length = l.length * 6 := flat_len (e := eSlip) (k := 6) (fun _ => rfl) l
theorem chunk_Slp (l : List Slip) : chunk 6 ((l.map eSlip).flatten) 0 l.length = l.map eSlip := chunk_flat (e := eSlip) (k := 6) (fun _ => rfl) l
theorem vw_Sm (hp : List Blk) (n : Nat) (m : AM Slip) : (avs vSlip m).map (vw hp (n + 2)) = avs vSlip m := by
 unfold avs
 rw [List.map_map]
 exact List.map_congr_left fun _ _ => rfl
structure OkOn (l : List Slip) : Prop where
 len : l.length ≤ 1000000
 ids : ∀ s ∈ l, inI s.id
set_option maxHeartbeats 4000000 in
theorem X100 (l : List Slip) (h : OkOn l) : PureCall Tryz.prog 41 [.sl 6 (l.map eSlip)] (onceV (onceN l)) := by
 refine pure_body okK129 hmix Tryz.func41 cb41 cc41 cs41 cn41 ?_
 have hl := h.len
 have a0 : aks ([] : AM Slip) = [] := rfl
 have v0 : avs vSlip ([] : AM Slip) = [] := rfl
 have hno : ∀ k, k ≤ l.length → onceK l k = none → onceV (onceN l) = .tp [.sl 6 [], .b false] := fun k hk e => by
  unfold onceN
  rw [onceK_none e _ hk]; rfl
 simp only [rc41, rs41, ↓BU3, BL, simprocAttr]
 refine ru_countE l.length (fun i m => ⟨lkp [(4, .mp 0 0), (13, .sl 6 (l.map eSlip)), (14, .i l.length), (15, .i i)], [.map false (aks m) (avs vSlip m)]⟩) (fun i m => onceK l i = some m) [] ?_ rfl ?_ ?_
 ·simp only [Int.natCast_zero, a0, v0, ↓BU3, BL, simprocAttr]
 ·intro i m hi hm
  have hlt : (i : Int) < l.length := by omega
  have i1 : inI ((i : Int) + 1) := by unfold inI; omega
  obtain ⟨s, hs⟩ : ∃ s, l[i]? = some s := ⟨_, List.getElem?_eq_getElem hi⟩
  have hgs : l.getD i sl0 = s := by rw [List.getD_eq_getElem?_getD, hs]; rfl
  have hok := okOnce (by omega) hm
  have hstep : onceK l (i + 1) = if (aget m [s.id]).isSome = true ∧ (aget m [s.id]).getD sl0 ≠ s then none else some (aput m [s.id] s) := by
   simp only [onceK, hm, hgs]
  have hget := avs_getS m [s.id]
  have hput : Blk.map false (putK (aks m) [s.id]) (putVs (aks m) (avs vSlip m) [s.id] (.ag (eSlip s))) = .map false (aks (aput m [s.id] s)) (avs vSlip (aput m [s.id] s)) := by
   rw [aks_put, ← avs_put hok.nod]; rfl
  obtain ⟨old, hold⟩ : ∃ old, old = (aget m [s.id]).getD sl0 := ⟨_, rfl⟩
  rw [← hold] at hget hstep
  simp only [eSlip] at hget hput
  have hmem : ([s.id] ∈ aks m) ↔ (aget m [s.id]).isSome = true := mem_aks
  by_cases e1 : (aget m [s.id]).isSome = true
  ·have e2 : [s.id] ∈ aks m := hmem.2 e1
   have hq : decide ([old.id, old.clerk, old.atm, old.kind, old.umb, old.guest] = [s.id, s.clerk, s.atm, s.kind, s.umb, s.guest]) = decide (old = s) := by
    obtain ⟨a1, a2, a3, a4, a5, a6⟩ := old
    obtain ⟨b1, b2, b3, b4, b5, b6⟩ := s
    simp
   by_cases e3 : old = s
   ·rw [if_neg (by rintro ⟨_, h⟩; exact h e3)] at hstep
    have hq1 := hq.trans (decide_eq_true e3)
    simp only [hlt, hs, eSlip, hget, e2, eq105, hq1, Bool.true_xor, hput, i1, cutL_noref _ _ _ (noref_Sm _), Int.natCast_add, Int.natCast_one, ↓BU3, BL, simprocAttr]
    exact ⟨_, hstep, rfl⟩
   ·rw [if_pos ⟨e1, e3⟩] at hstep
    have q := hno (i + 1) (by omega) hstep
    have hq1 := hq.trans (decide_eq_false e3)
    simp only [hlt, hs, eSlip, hget, e2, eq105, hq1, Bool.true_xor, q, ↓BU3, BL, simprocAttr]
  ·have e2 : [s.id] ∉ aks m := fun h => e1 (hmem.1 h)
   rw [if_neg (by rintro ⟨h, _⟩; exact e1 h)] at hstep
   simp only [hlt, hs, eSlip, hget, e2, hput, i1, cutL_noref _ _ _ (noref_Sm _), Int.natCast_add, Int.natCast_one, ↓BU3, BL, simprocAttr]
   exact ⟨_, hstep, rfl⟩
 ·intro m hm
  have hlt : ¬ ((l.length : Int) < l.length) := by omega
  have hok := okOnce (Nat.le_refl _) hm
  have hC : C132 (aks m) := by
   refine ⟨by have := hok.len; omega, fun q hq => ?_⟩
   obtain ⟨s, hs, rfl⟩ := hok.ids q hq
   exact h.ids s hs
  have hq : onceN l = some m := hm
  have g1 := x133a (aks m) (avs vSlip m)
  have g2 := x132 (aks m) (avs vSlip m)
  obtain ⟨ks, hks⟩ : ∃ ks, ks = keysS (aks m) := ⟨_, rfl⟩
  have hL : slipsM m = ks.map fun id => (aget m [id]).getD sl0 := by rw [hks]; rfl
  have hLl : (slipsM m).length = ks.length := by rw [hL, List.length_map]
  have hkl : ks.length ≤ 1000000 := by
   rw [hks]
   unfold keysS sortI
   rw [List.length_mergeSort, List.length_map]
   exact hC.1
  rw [← hks] at g2
  simp only [hlt, hpF, upB, upL_noref _ _ (noref_Sm _), vw_mp, vw_pm, vw_Sm, g1, g2, hC, ↓BU3, BL, simprocAttr]
  refine ru_count ks.length (fun i => ⟨lkp [(4, .pm false (aks m) (avs vSlip m)), (9, .rf 0 i 0 i 6), (39, .sl 1 (ks.map eI)), (40, .i ks.length), (41, .i i)], [.cells i (((slipsM m).take i).map eSlip).flatten]⟩) ?_ ?_ ?_
  ·simp only [Int.natCast_zero, List.flatten_nil, ↓BU3, BL, simprocAttr]
  ·intro i hi
   have hit : (i : Int) < ks.length := by omega
   have i1 : inI ((i : Int) + 1) := by unfold inI; omega
   obtain ⟨x, hx⟩ : ∃ x, ks[i]? = some x := ⟨_, List.getElem?_eq_getElem hi⟩
   have hsx : (slipsM m)[i]? = some ((aget m [x]).getD sl0) := by rw [hL, List.getElem?_map, hx]; rfl
   have htk := take_succ_of hsx
   have hft : ((slipsM m).take i).length = i := by rw [List.length_take]; omega
   have f1 : fitsLen (i + 1) := by unfold fitsLen; omega
   have hget := avs_getS m [x]
   obtain ⟨s, hsd⟩ : ∃ s, s = (aget m [x]).getD sl0 := ⟨_, rfl⟩
   rw [← hsd] at hget htk
   simp only [eSlip] at hget
   simp only [hit, hx, hget, i1, f1, len_Slp, hft, htk, List.map_append, List.flatten_append, List.flatten_cons, List.flatten_nil, eSlip, Int.natCast_add, Int.natCast_one, ↓BU3, BL, simprocAttr]
  ·have hit : ¬ ((ks.length : Int) < ks.length) := by omega
   have hck := chunk_Slp (slipsM m)
   have hle := len_Slp (slipsM m)
   rw [hLl] at hck hle
   have htF : (slipsM m).take ks.length = slipsM m := List.take_of_length_le (by omega)
   simp only [hit, htF, hck, hle, vw_Slp, Nat.le_refl, hq, onceV, ↓BU3, BL, simprocAttr]
def eS6 (l : List Slip) : List V := [.sl 6 (l.map eSlip)]
def dS6 : List V → List Slip | [.sl _ l] => l.map dSlip | _ => []
theorem dS6_e (l : List Slip) : dS6 (eS6 l) = l := by simp [dS6, eS6, Function.comp_def, dSlip_e]
noncomputable def K130 : Gam := K129.ext 41 (fnG eS6 dS6 (OkOn) (onceN) (onceV))
theorem okK130 : GOk Tryz.prog K130 := okK129.ext (f := 41) Tryz.call41 (fnG_ok fun a h => X100 a h)
theorem x100 (l : List Slip) : K130 41 [.sl 6 (l.map eSlip)] = (OkOn l, onceV (onceN l)) := (kx K130 41 (dS6_e l) rfl :)
def eC1 (c : Ctr) : List V := [.ag (eCtr c)]
def dC1 : List V → Ctr | [.ag c] => dCtr c | _ => dCtr []
theorem dC1_e (c : Ctr) : dC1 (eC1 c) = c := by simp [dC1, eC1, dCtr_e]
noncomputable def K131 : Gam := K130.ext 59 (fnG eC1 dC1 (SmallCt) (okCtrB) (.b))
theorem okK131 : GOk Tryz.prog K131 := okK130.ext (f := 59) Tryz.call59 (fnG_ok fun a h => X131 a h)
theorem x131 (c : Ctr) : K131 59 [.ag (eCtr c)] = (SmallCt c, .b (okCtrB c)) := (kx K131 59 (dC1_e c) rfl :)
def x100a (l : List Slip) := lft K131 (x100 l) rfl
structure OkCt (c : Ctr) : Prop where
 clerks : c.clerks.length ≤ 3
 slips : c.slips.length ≤ 12
 voided : c.voided.length ≤ 12
 closed : c.closed.length ≤ 4
 tar : okTar c.tar = true
 cl : ∀ s ∈ c.clerks, okClerk s = true
 clo : ∀ i, i < c.closed.length → okClos c i = true
 sl : ∀ s ∈ c.slips, okSlip c s = true
theorem okCt {c : Ctr} (h : okCtrB c = true) : OkCt c := by
 unfold okCtrB at h
 simp only [Bool.and_eq_true, decide_eq_true_eq, List.all_eq_true] at h
 obtain ⟨⟨⟨⟨⟨⟨⟨⟨h1, h2⟩, h3⟩, h4⟩, h5⟩, h6⟩, h7⟩, h8⟩, h9⟩ := h
 exact ⟨by omega, by omega, by omega, by omega, h5, h6, fun i hi => h7 i (List.mem_range.2 hi), h8⟩
structure SlipIn (c : Ctr) (s : Slip) : Prop where
 kind : s.kind = 1 ∨ s.kind = 2
 id : 0 ≤ s.id ∧ s.id ≤ 99
 guest : 0 ≤ s.guest ∧ s.guest ≤ 99
 clerk : 0 ≤ s.clerk ∧ s.clerk < c.clerks.length
 atm : 0 ≤ s.atm ∧ s.atm ≤ 9999
 umb : 0 ≤ s.umb ∧ s.umb ≤ 9
theorem slipIn {c : Ctr} {s : Slip} (h : okSlip c s = true) : SlipIn c s := by
 unfold okSlip okKind okId at h
 simp only [Bool.and_eq_true, Bool.or_eq_true, decide_eq_true_eq, within_iff] at h
 obtain ⟨⟨⟨⟨⟨h1, h2⟩, h3⟩, h4⟩, h5⟩, h6⟩ := h
 exact ⟨h1.imp id (·.1), h2, h3, by omega, h5, h6⟩
theorem OkCt.on {c : Ctr} (h : OkCt c) : OkOn c.slips := ⟨by have := h.slips; omega, fun s hs => by have := (slipIn (h.sl s hs)).id; unfold inI; omega⟩
def ctrE (c : Ctr) : Int := if okCtrB c = true then (if onceN c.slips = none then 91 else 0) else 90
theorem X99 (c : Ctr) (hs : SmallCt c) : PureCall Tryz.prog 40 [.ag (eCtr c)] (.i (ctrE c)) := by
 refine pure_body okK131 hmix Tryz.func40 cb40 cc40 cs40 cn40 ?_
 have g1 := x131 c
 have g2 := x100a c.slips
 have hes : eCtr c = [.sl 2 (c.clerks.map eSpan), .sl 6 (c.slips.map eSlip), .sl 1 (c.voided.map eI), .sl 2 (c.closed.map eSpan), .i c.tar.free, .i c.tar.unit, .i c.tar.price, .i c.tar.most, .i c.tar.lost, .i c.tar.value, .i c.tar.pledge] := rfl
 rw [hes] at g1 ⊢
 unfold ctrE
 cases e : okCtrB c with
 | false =>
  simp only [rc40, rs40, g1, hs, e, ↓BU3, BL, simprocAttr]
  try rfl
 | true =>
  have ho := (okCt e).on
  cases e2 : onceN c.slips with
  | none =>
   rw [e2] at g2
   simp only [onceV] at g2
   simp only [rc40, rs40, g1, hs, e, g2, ho, vw_Slp, ↓BU3, BL, simprocAttr]
  | some m =>
   rw [e2] at g2
   simp only [onceV] at g2
   simp only [rc40, rs40, g1, hs, e, g2, ho, vw_Slp, ↓BU3, BL, simprocAttr]
   try rfl
noncomputable def K132 : Gam := K131.ext 40 (fnG eC1 dC1 (SmallCt) (ctrE) (.i))
theorem okK132 : GOk Tryz.prog K132 := okK131.ext (f := 40) Tryz.call40 (fnG_ok fun a h => X99 a h)
theorem x99 (c : Ctr) : K132 40 [.ag (eCtr c)] = (SmallCt c, .i (ctrE c)) := (kx K132 40 (dC1_e c) rfl :)
end Go.CS
set_option maxHeartbeats 4000000
namespace Go.CS
open Go.Fam Go.Proofs
open Go.C06 (Span eI eIs eSpan gI gR dI dI_eI spanE fnG fnG_ok fnG_at within take_succ_of idxOf idxOf_at idxOf_none idxOf_any flat_len chunk_flat map_vw_rows hasRefL_flat drop_cons chunk_I len_I vw_I noref_I hmix eLI dLI dLI_e ru_countE cutL_noref hasRefL_append upL_noref)
variable {Γ : Gam}
def feeN (t : Tariff) (m : Int) : Int := if t.lost ≤ m then t.value else min t.most (t.price * ((max 0 (m - t.free) + t.unit - 1).tdiv t.unit))
structure TarIn (t : Tariff) : Prop where
 free : 0 ≤ t.free ∧ t.free ≤ 9999
 unit : 1 ≤ t.unit ∧ t.unit ≤ 9999
 price : 0 ≤ t.price ∧ t.price ≤ 100000
 most : 0 ≤ t.most ∧ t.most ≤ 100000
 lost : 1 ≤ t.lost ∧ t.lost ≤ 9999
 value : 0 ≤ t.value ∧ t.value ≤ 100000
 pledge : 0 ≤ t.pledge ∧ t.pledge ≤ 100000
theorem tarIn {t : Tariff} (h : okTar t = true) : TarIn t := by
 unfold okTar at h
 simp only [Bool.and_eq_true, within_iff] at h
 obtain ⟨⟨⟨⟨⟨⟨h1, h2⟩, h3⟩, h4⟩, h5⟩, h6⟩, h7⟩ := h
 exact ⟨h5, h6, h1, h2, h7, h3, h4⟩
structure OkFee (t : Tariff) (m : Int) : Prop where
 t : okTar t = true
 m : -1000000000 ≤ m ∧ m ≤ 1000000000
theorem X40 (t : Tariff) (m : Int) (h : OkFee t m) : PureCall Tryz.prog 31 [.ag (eTar t), .i m] (.i (feeN t m)) := by
 refine pure_body okK132 hmix Tryz.func31 cb31 cc31 cs31 cn31 ?_
 have ht := tarIn h.t
 have h1 := ht.value
 have h2 := ht.most
 have h3 := ht.price
 have h4 := ht.unit
 have h5 := ht.free
 have h6 := ht.lost
 have h7 := h.m
 unfold feeN
 by_cases e : t.lost ≤ m
 ·rw [if_pos e]
  simp only [rc31, rs31, eTar, e, BL, simprocAttr]
 ·rw [if_neg e]
  have i1 : inI (m - t.free) := by unfold inI; omega
  have i2 : inI (max 0 (m - t.free) + t.unit) := by unfold inI; omega
  have i3 : inI (max 0 (m - t.free) + t.unit - 1) := by unfold inI; omega
  have n0 : ¬ t.unit = 0 := by omega
  obtain ⟨A, hA⟩ : ∃ A, A = max 0 (m - t.free) + t.unit - 1 := ⟨_, rfl⟩
  have hA0 : 0 ≤ A ∧ A ≤ 20000 := by omega
  have hq : 0 ≤ A.tdiv t.unit ∧ A.tdiv t.unit ≤ A := by
   rw [Int.tdiv_eq_ediv_of_nonneg hA0.1]
   exact ⟨Int.ediv_nonneg hA0.1 (by omega), Int.ediv_le_self _ hA0.1⟩
  have i4 : inI (A.tdiv t.unit) := by unfold inI; omega
  have hm : 0 ≤ t.price * A.tdiv t.unit := Int.mul_nonneg h3.1 hq.1
  have hm2 : t.price * A.tdiv t.unit ≤ 100000 * 20000 := Int.mul_le_mul h3.2 (by omega) hq.1 (by decide)
  have i5 : inI (t.price * A.tdiv t.unit) := by unfold inI; omega
  have i6 : inI A := by unfold inI; omega
  simp only [rc31, rs31, eTar, e, i1, i2, ← hA, n0, i4, i5, i6, BL, simprocAttr]
def eTM (a : Tariff × Int) : List V := [.ag (eTar a.1), .i a.2]
def dTM : List V → Tariff × Int | [.ag t, .i m] => (dTar t, m) | _ => (dTar [], 0)
theorem dTM_e (a : Tariff × Int) : dTM (eTM a) = a := rfl
noncomputable def K133 : Gam := K132.ext 31 (fnG eTM dTM (fun a => OkFee a.1 a.2) (fun a => feeN a.1 a.2) (.i))
theorem okK133 : GOk Tryz.prog K133 := okK132.ext (f := 31) Tryz.call31 (fnG_ok fun a h => X40 a.1 a.2 h)
theorem x40 (t : Tariff) (m : Int) : K133 31 [.ag (eTar t), .i m] = (OkFee t m, .i (feeN t m)) := (kx K133 31 (dTM_e (t, m)) rfl :)
def openK (c : Ctr) (a b : Int) : Nat → Int
 | 0 => b - a
 | k + 1 => openK c a b k - max 0 (min (closAt c k).high (b - 1) - max (closAt c k).low a + 1)
def openM (c : Ctr) (a b : Int) : Int := openK c a b c.closed.length
structure OkOp (c : Ctr) (a b : Int) : Prop where
 c : OkCt c
 a : -100000 ≤ a ∧ a ≤ 100000
 b : -100000 ≤ b ∧ b ≤ 100000
theorem clos_in {c : Ctr} (h : OkCt c) {i : Nat} (hi : i < c.closed.length) : 0 ≤ (closAt c i).low ∧ (closAt c i).low ≤ (closAt c i).high ∧ (closAt c i).high ≤ 9999 := by
 have := h.clo i hi
 unfold okClos at this
 simp only [Bool.and_eq_true, within_iff, decide_eq_true_eq] at this
 omega
theorem openK_in {c : Ctr} {a b : Int} (h : OkOp c a b) : ∀ k, k ≤ c.closed.length → -(200000 + 200000 * (k : Int)) ≤ openK c a b k ∧ openK c a b k ≤ 200000
 | 0, _ => by
  have := h.a
  have := h.b
  unfold openK; omega
 | k + 1, hk => by
  have ih := openK_in h k (by omega)
  have hc := clos_in h.c (i := k) (by omega)
  have := h.a
  have := h.b
  unfold openK
  omega
theorem X106 (c : Ctr) (a b : Int) (h : OkOp c a b) : PureCall Tryz.prog 58 [.ag (eCtr c), .i a, .i b] (.i (openM c a b)) := by
 refine pure_body okK133 hmix Tryz.func58 cb58 cc58 cs58 cn58 ?_
 have ha := h.a
 have hb := h.b
 have hcl := h.c.closed
 have i0 : inI (b - a) := by unfold inI; omega
 have i1 : inI (b - 1) := by unfold inI; omega
 have hes : eCtr c = [.sl 2 (c.clerks.map eSpan), .sl 6 (c.slips.map eSlip), .sl 1 (c.voided.map eI), .sl 2 (c.closed.map eSpan), .i c.tar.free, .i c.tar.unit, .i c.tar.price, .i c.tar.most, .i c.tar.lost, .i c.tar.value, .i c.tar.pledge] := rfl
 rw [hes]
 simp only [rc58, rs58, i0, BL, simprocAttr]
 refine ru_count c.closed.length (fun i => ⟨lkp [(1, .i a), (2, .i b), (7, .i (openK c a b i)), (14, .sl 2 (c.closed.map eSpan)), (15, .i c.closed.length), (16, .i i)], []⟩) ?_ ?_ ?_
 ·simp only [Int.natCast_zero, openK, BL, simprocAttr]
 ·intro i hi
  have hlt : (i : Int) < c.closed.length := by omega
  have i2 : inI ((i : Int) + 1) := by unfold inI; omega
  have hx := clos_get hi
  have hc := clos_in h.c hi
  have hk := openK_in h i (by omega)
  have hsu : openK c a b (i + 1) = openK c a b i - max 0 (min (closAt c i).high (b - 1) - max (closAt c i).low a + 1) := rfl
  generalize closAt c i = S at *
  have i3 : inI (min S.high (b - 1) - max S.low a) := by unfold inI; omega
  have i4 : inI (min S.high (b - 1) - max S.low a + 1) := by unfold inI; omega
  have i5 : inI (openK c a b i - max 0 (min S.high (b - 1) - max S.low a + 1)) := by unfold inI; omega
  simp only [hlt, hx, i1, i3, i4, i5, i2, hsu, Int.natCast_add, Int.natCast_one, BL, simprocAttr]
 ·have hlt : ¬ ((c.closed.length : Int) < c.closed.length) := by omega
  simp only [hlt, BL, simprocAttr]
  rfl
def eOp (a : Ctr × Int × Int) : List V := [.ag (eCtr a.1), .i a.2.1, .i a.2.2]
def dOp : List V → Ctr × Int × Int | [.ag c, .i a, .i b] => (dCtr c, a, b) | _ => (dCtr [], 0, 0)
theorem dOp_e (a : Ctr × Int × Int) : dOp (eOp a) = a := by obtain ⟨c, x, y⟩ := a; simp [dOp, eOp, dCtr_e]
noncomputable def K134 : Gam := K133.ext 58 (fnG eOp dOp (fun a => OkOp a.1 a.2.1 a.2.2) (fun a => openM a.1 a.2.1 a.2.2) (.i))
theorem okK134 : GOk Tryz.prog K134 := okK133.ext (f := 58) Tryz.call58 (fnG_ok fun a h => X106 a.1 a.2.1 a.2.2 h)
theorem x106 (c : Ctr) (a b : Int) : K134 58 [.ag (eCtr c), .i a, .i b] = (OkOp c a b, .i (openM c a b)) := (kx K134 58 (dOp_e (c, a, b)) rfl :)
end Go.CS
set_option maxHeartbeats 4000000
namespace Go.CS
open Go.Fam Go.Proofs
open Go.C06 (Span eI eIs eSpan gI gR dI dI_eI spanE fnG fnG_ok fnG_at within take_succ_of idxOf idxOf_at idxOf_none idxOf_any flat_len chunk_flat map_vw_rows hasRefL_flat drop_cons chunk_I len_I vw_I noref_I hmix eLI dLI dLI_e ru_countE cutL_noref hasRefL_append upL_noref)
variable {Γ : Gam}
structure Ev where
 sl : Slip
 min : Int
 deriving DecidableEq
def eEv (e : Ev) : List V := [.i e.sl.id, .i e.sl.clerk, .i e.sl.atm, .i e.sl.kind, .i e.sl.umb, .i e.sl.guest, .i e.min]
def dEv : List V → Ev | [.i a, .i b, .i c, .i d, .i e, .i f, .i m] => ⟨⟨a, b, c, d, e, f⟩, m⟩ | _ => ⟨sl0, 0⟩
theorem dEv_e (e : Ev) : dEv (eEv e) = e := rfl
theorem len_Ev (l : List Ev) : ((l.map eEv).flatten).length = l.length * 7 := flat_len (e := eEv) (k := 7) (fun _ => rfl) l
theorem noref_Ev (l : List Ev) : hasRefL ((l.map eEv).flatten) = false := hasRefL_flat (e := eEv) (fun _ => rfl) l
theorem chunk_Ev (l : List Ev) : chunk 7 ((l.map eEv).flatten) 0 l.length = l.map eEv := chunk_flat (e := eEv) (k := 7) (fun _ => rfl) l
theorem vw_Evs (hp : List Blk) (n : Nat) (l : List Ev) : (l.map eEv).map (fun r => r.map (vw hp (n + 1))) = l.map eEv := map_vw_rows (e := eEv) hp (n + 1) (fun _ => rfl) l
def insE (x : Ev) (s : List Ev) : List Ev := s.takeWhile (fun y => decide (y.min ≤ x.min)) ++ x :: s.dropWhile (fun y => decide (y.min ≤ x.min))
def isortE (l : List Ev) : List Ev := l.foldl (fun s x => insE x s) []
theorem tw_at {p : Ev → Bool} : ∀ {j : Nat} {s : List Ev}, (∀ y ∈ s.take j, p y = true) → (∀ y ∈ s.drop j, p y = false) → s.takeWhile p = s.take j ∧ s.dropWhile p = s.drop j
 | 0, s, _, h => by
  cases s with
  | nil => simp
  | cons y s =>
   have := h y (by simp)
   simp [List.takeWhile_cons, List.dropWhile_cons, this]
 | j + 1, [], _, _ => by simp
 | j + 1, y :: s, h1, h2 => by
  have ih := tw_at (p := p) (j := j) (s := s) (fun z hz => h1 z (by simp [hz])) (fun z hz => h2 z (by simpa using hz))
  have hy := h1 y (by simp)
  simp [List.takeWhile_cons, List.dropWhile_cons, hy, ih.1, ih.2]
theorem insE_at {x : Ev} {s : List Ev} {j : Nat} (h1 : ∀ y ∈ s.take j, y.min ≤ x.min) (h2 : ∀ y ∈ s.drop j, x.min < y.min) : insE x s = s.take j ++ x :: s.drop j := by
 obtain ⟨e1, e2⟩ := tw_at (p := fun y => decide (y.min ≤ x.min)) (fun y hy => decide_eq_true (h1 y hy)) fun y hy => decide_eq_false (by have := h2 y hy; omega)
 unfold insE
 rw [e1, e2]
def SrtE (s : List Ev) : Prop := s.Pairwise fun a b => a.min ≤ b.min
theorem insE_len (x : Ev) (s : List Ev) : (insE x s).length = s.length + 1 := by
 unfold insE
 have := congrArg List.length (List.takeWhile_append_dropWhile (p := fun y : Ev => decide (y.min ≤ x.min)) (l := s))
 rw [List.length_append] at this
 rw [List.length_append, List.length_cons]; omega
theorem isortE_snoc (l : List Ev) (x : Ev) : isortE (l ++ [x]) = insE x (isortE l) := by simp [isortE]
theorem isortE_len (l : List Ev) : (isortE l).length = l.length := list_snoc_ind (p := fun l => (isortE l).length = l.length) rfl (fun l x ih => by rw [isortE_snoc, insE_len, ih, List.length_append]; rfl) l
theorem dw_gt {x : Int} : ∀ {s : List Ev}, SrtE s → ∀ y ∈ s.dropWhile (fun y => decide (y.min ≤ x)), x < y.min
 | [], _, y, h => by cases h
 | a :: s, hs, y, h => by
  obtain ⟨h1, h2⟩ := List.pairwise_cons.1 hs
  rw [List.dropWhile_cons] at h
  split at h
  ·exact dw_gt h2 y h
  ·rename_i hn
   have ha : x < a.min := by simpa using hn
   rcases List.mem_cons.1 h with rfl | h
   ·exact ha
   ·have := h1 y h; omega
theorem tw_le {x : Int} : ∀ {s : List Ev}, ∀ y ∈ s.takeWhile (fun y => decide (y.min ≤ x)), y.min ≤ x
 | [], y, h => by cases h
 | a :: s, y, h => by
  rw [List.takeWhile_cons] at h
  split at h
  ·rename_i hn
   rcases List.mem_cons.1 h with rfl | h
   ·simpa using hn
   ·exact tw_le y h
  ·cases h
theorem insE_srt {x : Ev} {s : List Ev} (hs : SrtE s) : SrtE (insE x s) := by
 unfold insE SrtE
 have e := List.takeWhile_append_dropWhile (p := fun y : Ev => decide (y.min ≤ x.min)) (l := s)
 have h1 : SrtE (s.takeWhile (fun y => decide (y.min ≤ x.min)) ++ s.dropWhile (fun y => decide (y.min ≤ x.min))) := by rw [e]; exact hs
 obtain ⟨a1, a2, a3⟩ := List.pairwise_append.1 h1
 refine List.pairwise_append.2 ⟨a1, List.pairwise_cons.2 ⟨fun y hy => by have := dw_gt hs y hy; omega, a2⟩, fun a ha b hb => ?_⟩
 have := tw_le a ha
 rcases List.mem_cons.1 hb with rfl | hb
 ·exact this
 ·exact a3 a ha b hb
theorem isortE_srt (l : List Ev) : SrtE (isortE l) := list_snoc_ind (p := fun l => SrtE (isortE l)) List.Pairwise.nil (fun l x ih => by rw [isortE_snoc]; exact insE_srt ih) l
def cmpI (a b : Int) : Int := if a < b then -1 else if b < a then 1 else 0
theorem X172 (n : Int) : PureCall Tryz.prog 99 [.i n] (.b false) := by
 refine pure_body okK134 hmix Tryz.func99 cb99 cc99 cs99 cn99 ?_
 simp only [rc99, rs99, BL, simprocAttr]
noncomputable def K135 : Gam := K134.ext 99 (fnG eNo dNo (fun _ => True) (fun _ => false) (.b))
theorem okK135 : GOk Tryz.prog K135 := okK134.ext (f := 99) Tryz.call99 (fnG_ok fun a h => X172 a)
theorem x172 (n : Int) : K135 99 [.i n] = (True, .b false) := (kx K135 99 (dNo_e n) rfl :)
theorem X161 (a b : Int) : PureCall Tryz.prog 79 [.i a, .i b] (.i (cmpI a b)) := by
 refine pure_body okK135 hmix Tryz.func79 cb79 cc79 cs79 cn79 ?_
 unfold cmpI
 by_cases e : a < b
 ·simp only [rc79, rs79, x172, e, BL, simprocAttr]
 ·by_cases e2 : b < a
  ·simp only [rc79, rs79, x172, e, e2, BL, simprocAttr]
  ·simp only [rc79, rs79, x172, e, e2, BL, simprocAttr]
def eII (a : Int × Int) : List V := [.i a.1, .i a.2]
def dII : List V → Int × Int | [.i a, .i b] => (a, b) | _ => (0, 0)
theorem dII_e (a : Int × Int) : dII (eII a) = a := rfl
noncomputable def K136 : Gam := K135.ext 79 (fnG eII dII (fun _ => True) (fun a => cmpI a.1 a.2) (.i))
theorem okK136 : GOk Tryz.prog K136 := okK135.ext (f := 79) Tryz.call79 (fnG_ok fun a h => X161 a.1 a.2)
theorem x161 (a b : Int) : K136 79 [.i a, .i b] = (True, .i (cmpI a b)) := (kx K136 79 (dII_e (a, b)) rfl :)
theorem X160 (x y : Ev) : PureCall Tryz.prog 78 [.ag (eEv x), .ag (eEv y)] (.i (cmpI x.min y.min)) := by
 refine pure_body okK136 hmix Tryz.func78 cb78 cc78 cs78 cn78 ?_
 simp only [rc78, rs78, eEv, x161, BL, simprocAttr]
def eEE (a : Ev × Ev) : List V := [.ag (eEv a.1), .ag (eEv a.2)]
def dEE : List V → Ev × Ev | [.ag a, .ag b] => (dEv a, dEv b) | _ => (dEv [], dEv [])
theorem dEE_e (a : Ev × Ev) : dEE (eEE a) = a := rfl
noncomputable def K137 : Gam := K136.ext 78 (fnG eEE dEE (fun _ => True) (fun a => cmpI a.1.min a.2.min) (.i))
theorem okK137 : GOk Tryz.prog K137 := okK136.ext (f := 78) Tryz.call78 (fnG_ok fun a h => X160 a.1 a.2)
theorem x160 (x y : Ev) : K137 78 [.ag (eEv x), .ag (eEv y)] = (True, .i (cmpI x.min y.min)) := (kx K137 78 (dEE_e (x, y)) rfl :)
theorem flat_take {α : Type} {e : α → List V} {k : Nat} (hk : ∀ x, (e x).length = k) : ∀ {l : List α} {i : Nat} {x : α}, l[i]? = some x → ((l.map e).flatten.drop (i * k)).take k = e x
 | [], i, x, h => by simp at h
 | a :: l, 0, x, h => by
  simp only [List.getElem?_cons_zero, Option.some.injEq] at h
  subst h
  rw [Nat.zero_mul, List.drop_zero, List.map_cons, List.flatten_cons, List.take_append_of_le_length (by rw [hk]; exact Nat.le_refl _), ← hk a, List.take_length]
 | a :: l, i + 1, x, h => by
  simp only [List.getElem?_cons_succ] at h
  rw [List.map_cons, List.flatten_cons, Nat.succ_mul, Nat.add_comm, ← List.drop_drop, ← hk a, List.drop_left, hk]
  exact flat_take hk h
theorem flat_put {α : Type} {e : α → List V} {k : Nat} (hk : ∀ x, (e x).length = k) (y : α) : ∀ {l : List α} {i : Nat}, i < l.length → (l.map e).flatten.take (i * k) ++ e y ++ (l.map e).flatten.drop (i * k + k) = ((l.set i y).map e).flatten
 | [], i, h => by simp at h
 | a :: l, 0, h => by
  simp only [Nat.zero_mul, List.take_zero, List.nil_append, Nat.zero_add, List.map_cons, List.flatten_cons, List.set_cons_zero]
  rw [← hk a, List.drop_left]
 | a :: l, i + 1, h => by
  have ih := flat_put hk y (l := l) (i := i) (by simpa using h)
  simp only [List.map_cons, List.flatten_cons, List.set_cons_succ]
  rw [Nat.succ_mul, Nat.add_comm (i * k) k, List.take_append, List.take_of_length_le (by rw [hk]; omega), hk, Nat.add_sub_cancel_left, Nat.add_assoc, ← List.drop_drop, ← hk a, List.drop_left, hk, List.append_assoc, List.append_assoc, ← List.append_assoc _ (e y), ih]
end Go.CS
set_option maxHeartbeats 4000000
namespace Go.CS
open Go.Fam Go.Proofs
open Go.C06 (Span eI eIs eSpan gI gR dI dI_eI spanE fnG fnG_ok fnG_at within take_succ_of idxOf idxOf_at idxOf_none idxOf_any flat_len chunk_flat map_vw_rows hasRefL_flat drop_cons chunk_I len_I vw_I noref_I hmix eLI dLI dLI_e ru_countE cutL_noref hasRefL_append upL_noref)
variable {Γ : Gam}
theorem set_self {hp : List Blk} {id : Nat} {b : Blk} (h : hp[id]? = some b) : hp.set id b = hp := by
 obtain ⟨hlt, he⟩ := List.getElem?_eq_some_iff.1 h
 rw [← he]; exact List.set_getElem_self hlt
def eA187 (id g n : Nat) : List V := [.rf id g 0 n 7, .i 0, .i n, .fn 78 []]
def midE (S : List Ev) (x : Ev) (R : List Ev) (j : Nat) : List Ev := S.take j ++ x :: (S.drop j ++ R)
theorem midE_len (S : List Ev) (x : Ev) (R : List Ev) (j : Nat) (h : j ≤ S.length) : (midE S x R j).length = S.length + 1 + R.length := by
 unfold midE
 rw [List.length_append, List.length_cons, List.length_append, List.length_take, List.length_drop]; omega
theorem midE_at (S : List Ev) (x : Ev) (R : List Ev) {j : Nat} (h : j ≤ S.length) : (midE S x R j)[j]? = some x := by
 unfold midE
 rw [List.getElem?_append_right (by rw [List.length_take]; omega), List.length_take, Nat.min_eq_left h, Nat.sub_self]; rfl
theorem midE_before (S : List Ev) (x : Ev) (R : List Ev) {j : Nat} (h : j + 1 ≤ S.length) {y : Ev} (hy : S[j]? = some y) : (midE S x R (j + 1))[j]? = some y := by
 unfold midE
 rw [List.getElem?_append_left (by rw [List.length_take]; omega), List.getElem?_take, if_pos (by omega), hy]
theorem midE_swap (S : List Ev) (x : Ev) (R : List Ev) {j : Nat} (h : j + 1 ≤ S.length) {y : Ev} (hy : S[j]? = some y) : ((midE S x R (j + 1)).set (j + 1) y).set j x = midE S x R j := by
 have h1 : S.take (j + 1) = S.take j ++ [y] := take_succ_of hy
 have h2 : S.drop j = y :: S.drop (j + 1) := drop_cons hy
 have hl : (S.take j).length = j := by rw [List.length_take]; omega
 unfold midE
 rw [h1, h2, List.append_assoc, List.set_append_right _ _ (by omega), hl, List.set_append_right _ _ (by omega), hl, Nat.sub_self]
 congr 1
 rw [show j + 1 - j = 1 by omega]
 rfl
theorem cmpI_lt (a b : Int) : (cmpI a b < 0) = (a < b) := by
 unfold cmpI
 split
 ·simp_all
 ·split <;> simp_all
theorem vw7 (hp : List Blk) (n : Nat) (x : Ev) : (eEv x).map (vw hp (n + 1)) = eEv x := rfl
theorem nr7 (x : Ev) : hasRefL (eEv x) = false := rfl
theorem ok7 (x : Ev) : (eEv x).all cellOk = true := rfl
theorem ln7 (x : Ev) : (eEv x).length = 7 := rfl
set_option maxHeartbeats 4000000 in
theorem X187 (hp : List Blk) (id g : Nat) (l : List Ev) (hlo : hp.length ≤ 20) (hid : hp[id]? = some (.cells g (l.map eEv).flatten)) (hl : l.length ≤ 1000) :
  HeapCall Tryz.prog 106 (eA187 id g l.length) hp fun r hp' => r = .tp [] ∧ hp' = hp.set id (.cells g ((isortE l).map eEv).flatten) := by
 refine heap_body okK137 hmix Tryz.func106 cb106 cc106 cs106 (by exact cn106) hlo (by decide) ?_
 have hidl : id < hp.length := (List.getElem?_eq_some_iff.1 hid).1
 have hget : ∀ b : Blk, (hp.set id b)[id]? = some b := fun b => List.getElem?_set_self hidl
 have hset : ∀ b b' : Blk, (hp.set id b).set id b' = hp.set id b' := fun b b' => List.set_set ..
 obtain ⟨n, hn⟩ : ∃ n, n = l.length := ⟨_, rfl⟩
 have hself : hp.set id (.cells g ((isortE (l.take 1) ++ l.drop 1).map eEv).flatten) = hp := by
  have : isortE (l.take 1) ++ l.drop 1 = l := by
   cases l with
   | nil => rfl
   | cons a l => rfl
  rw [this]; exact set_self hid
 rw [← hn] at hl ⊢
 simp only [eA187]
 have i0 : inI (1 : Int) := by unfold inI; omega
 simp only [rc106, rs106, i0, BL, simprocAttr]
 by_cases hn0 : n = 0
 ·subst hn0
  have hl0 : l = [] := List.eq_nil_of_length_eq_zero hn.symm
  subst hl0
  refine ru_count 0 (fun i => ⟨lkp [(0, .rf id g 0 0 7), (1, .i 0), (2, .i 0), (3, .fn 78 []), (8, .i 1)], hp⟩) ?_ (fun i hi => absurd hi (Nat.not_lt_zero _)) ?_
  ·simp only [Int.natCast_zero, Int.zero_add, BL, simprocAttr]
  ·have e : hp = hp.set id (.cells g ((isortE []).map eEv).flatten) := (set_self hid).symm
   simp only [Int.natCast_zero, ← e, BL, simprocAttr]
 refine ru_count (n - 1) (fun i => ⟨lkp [(0, .rf id g 0 n 7), (1, .i 0), (2, .i n), (3, .fn 78 []), (8, .i ((i : Int) + 1))], hp.set id (.cells g ((isortE (l.take (i + 1)) ++ l.drop (i + 1)).map eEv).flatten)⟩) ?_ ?_ ?_
 ·simp only [Int.natCast_zero, hself, BL, simprocAttr]
 ·intro i hi
  have hlt : (i : Int) + 1 < n := by omega
  have i1 : inI ((i : Int) + 1 + 1) := by unfold inI; omega
  obtain ⟨x, hx⟩ : ∃ x, l[i + 1]? = some x := ⟨_, List.getElem?_eq_getElem (by omega)⟩
  obtain ⟨S, hS⟩ : ∃ S, S = isortE (l.take (i + 1)) := ⟨_, rfl⟩
  have hSl : S.length = i + 1 := by rw [hS, isortE_len, List.length_take]; omega
  have hSs : SrtE S := by rw [hS]; exact isortE_srt _
  have hd : l.drop (i + 1) = x :: l.drop (i + 1 + 1) := drop_cons hx
  have hnx : isortE (l.take (i + 1 + 1)) = insE x S := by rw [take_succ_of hx, isortE_snoc, ← hS]
  have hm0 : S ++ l.drop (i + 1) = midE S x (l.drop (i + 1 + 1)) (i + 1) := by
   unfold midE
   rw [hd, ← hSl, List.take_length, List.drop_length, List.nil_append]
  rw [← hS, hm0, hnx]
  obtain ⟨R, hR⟩ : ∃ R, R = l.drop (i + 1 + 1) := ⟨_, rfl⟩
  have hRl : R.length + (i + 1) + 1 = n := by rw [hR, List.length_drop]; omega
  rw [← hR]
  simp only [hlt, BL, simprocAttr]
  refine ru_countE (i + 1) (fun k (_ : Unit) => ⟨lkp [(0, .rf id g 0 n 7), (1, .i 0), (2, .i n), (3, .fn 78 []), (8, .i ((i : Int) + 1)), (9, .i ((i + 1 - k : Nat) : Int))], hp.set id (.cells g ((midE S x R (i + 1 - k)).map eEv).flatten)⟩) (fun k _ => ∀ y ∈ S.drop (i + 1 - k), x.min < y.min) () ?_ ?_ ?_ ?_
  ·simp only [Int.natCast_zero, Nat.sub_zero, Int.natCast_add, Int.natCast_one, BL, simprocAttr]
  ·intro y hy
   rw [Nat.sub_zero, ← hSl, List.drop_length] at hy; cases hy
  ·rintro k _ hk hgt
   obtain ⟨j, hj⟩ : ∃ j, i + 1 - k = j + 1 := ⟨i - k, by omega⟩
   have hj2 : i + 1 - (k + 1) = j := by omega
   rw [hj] at hgt ⊢
   rw [hj2]
   have hj0 : (0 : Int) < ((j + 1 : Nat) : Int) := by omega
   obtain ⟨y, hy⟩ : ∃ y, S[j]? = some y := ⟨_, List.getElem?_eq_getElem (by omega)⟩
   have m1 := midE_at S x R (j := j + 1) (by omega)
   have m2 := midE_before S x R (j := j) (by omega) hy
   have m3 := midE_swap S x R (j := j) (by omega) hy
   have ml := midE_len S x R (j + 1) (by omega)
   obtain ⟨C, hC⟩ : ∃ C, C = midE S x R (j + 1) := ⟨_, rfl⟩
   rw [← hC] at m1 m2 m3 ml ⊢
   have t1 := flat_take (e := eEv) (k := 7) (fun _ => rfl) m1
   have t2 := flat_take (e := eEv) (k := 7) (fun _ => rfl) m2
   have q1 := flat_put (e := eEv) (k := 7) (fun _ => rfl) y (l := C) (i := j + 1) (by omega)
   have q2 := flat_put (e := eEv) (k := 7) (fun _ => rfl) x (l := C.set (j + 1) y) (i := j) (by rw [List.length_set]; omega)
   rw [m3] at q2
   have fl : (C.map eEv).flatten.length = n * 7 := by rw [len_Ev, ml]; congr 1; omega
   have fl2 : ((C.set (j + 1) y).map eEv).flatten.length = n * 7 := by rw [len_Ev, List.length_set, ml]; congr 1; omega
   have jm : ((j + 1 : Nat) : Int) - 1 = (j : Int) := by omega
   have c1 : ((j + 1 : Nat) : Int) < (n : Int) := by omega
   have c2 : (j : Int) < (n : Int) := by omega
   have c3 : (j + 1) * 7 + 7 ≤ n * 7 := by omega
   have c4 : j * 7 + 7 ≤ n * 7 := by omega
   have c5 : inI (j : Int) := by unfold inI; omega
   have c6 : (0 : Int) ≤ (j : Int) := by omega
   have c7 : (0 : Int) ≤ ((j + 1 : Nat) : Int) := by omega
   have hi2 : ((i + 1 : Nat) : Int) = (i : Int) + 1 := by omega
   by_cases hxy : x.min < y.min
   ·have hg2 : ∀ z ∈ S.drop j, x.min < z.min := by
     rw [drop_cons hy]
     intro z hz
     rcases List.mem_cons.1 hz with rfl | hz
     ·exact hxy
     ·exact hgt z hz
    simp only [hj0, hget, hset, t1, t2, jm, c1, c2, c3, c4, c5, c6, c7, fl, fl2, vw7, nr7, ok7, ln7, x160, cmpI_lt, hxy, q1, q2, BL, simprocAttr]
    exact ⟨(), hg2⟩
   ·have e : insE x S ++ R = C := by
     have h1 : ∀ z ∈ S.take (j + 1), z.min ≤ x.min := by
      have hs2 : SrtE (S.take (j + 1)) := hSs.sublist (List.take_sublist _ _)
      rw [take_succ_of hy] at hs2 ⊢
      intro z hz
      rcases List.mem_append.1 hz with hz | hz
      ·have := (List.pairwise_append.1 hs2).2.2 z hz y (List.mem_cons_self ..)
       omega
      ·cases List.mem_singleton.1 hz; omega
     rw [insE_at h1 hgt, hC]
     unfold midE
     rw [List.append_assoc]; rfl
    simp only [hj0, hget, hset, t1, t2, jm, c1, c2, c3, c4, c5, c6, c7, fl, fl2, vw7, nr7, ok7, ln7, x160, cmpI_lt, hxy, e, i1, hi2, BL, simprocAttr]
  ·rintro _ hgt
   rw [Nat.sub_self] at hgt ⊢
   have e : insE x S ++ R = midE S x R 0 := by
    rw [insE_at (j := 0) (fun z hz => by simp at hz) hgt]
    unfold midE
    rw [List.append_assoc]; rfl
   simp only [hget, hset, Int.natCast_zero, e, i1, Int.natCast_add, Int.natCast_one, BL, simprocAttr]
 ·have hlt : ¬ (((n - 1 : Nat) : Int) + 1 < n) := by omega
  have e : isortE (l.take (n - 1 + 1)) ++ l.drop (n - 1 + 1) = isortE l := by
   rw [show n - 1 + 1 = n by omega, hn, List.take_length, List.drop_length, List.append_nil]
  simp only [hlt, e, BL, simprocAttr]
end Go.CS
set_option maxHeartbeats 4000000
namespace Go.CS
open Go.Fam Go.Proofs
open Go.C06 (Span eI eIs eSpan gI gR dI dI_eI spanE fnG fnG_ok fnG_at within take_succ_of idxOf idxOf_at idxOf_none idxOf_any flat_len chunk_flat map_vw_rows hasRefL_flat drop_cons chunk_I len_I vw_I noref_I hmix eLI dLI dLI_e ru_countE cutL_noref hasRefL_append upL_noref)
variable {Γ : Gam}
structure D7 where
 hp : List Blk
 id : Nat
 g : Nat
 l : List Ev
def rowsE (hp : List Blk) (id n : Nat) : List Ev := match hp[id]? with
 | some (.cells _ vs) => (chunk 7 vs 0 n).map dEv
 | _ => []
theorem rowsE_at {hp : List Blk} {id g : Nat} {l : List Ev} (h : hp[id]? = some (.cells g (l.map eEv).flatten)) : rowsE hp id l.length = l := by
 unfold rowsE
 rw [h]
 simp only [chunk_Ev, List.map_map]
 exact (List.map_congr_left fun x _ => dEv_e x).trans (List.map_id _)
def G7 (x : D7) : Prop := x.hp.length ≤ 20 ∧ x.hp[x.id]? = some (.cells x.g (x.l.map eEv).flatten) ∧ x.l.length ≤ 12 ∧ ghO x.hp = none
def R7 (x : D7) (r : V) (hp' : List Blk) : Prop := r = .tp [] ∧ hp' = x.hp.set x.id (.cells x.g ((isortE x.l).map eEv).flatten)
theorem gh7 {x : D7} : ∀ r hp', R7 x r hp' → ghO x.hp = none → ∀ y, ghO x.hp = some y → ghO hp' = some y := by
 intro r hp' _ h y hy
 rw [h] at hy; cases hy
def eA7 (x : D7) : List V := eA187 x.id x.g x.l.length
def eH7 (x : D7) : List Blk := x.hp
def dA7 : List V → List Blk → D7
 | [.rf id g _ n _, _, _, _], hp => ⟨hp, id, g, rowsE hp id n⟩
 | _, _ => ⟨[], 0, 0, []⟩
theorem dA7_e {x : D7} (h : G7 x) : dA7 (eA7 x) (eH7 x) = x := by
 obtain ⟨hp, id, g, l⟩ := x
 show D7.mk hp id g (rowsE hp id l.length) = _
 rw [rowsE_at h.2.1]
noncomputable def K138 : Gam := K137.extH 106 (hpG eA7 eH7 dA7 G7 R7)
theorem okK138 : GOk Tryz.prog K138 := by
 refine okK137.extH (f := 106) Tryz.call106 fun xs hp => hpG_ok (fun x hx => ⟨fun r hp' hr => gh7 r hp' hr hx.2.2.2, ?_⟩) xs hp
 exact X187 x.hp x.id x.g x.l hx.1 hx.2.1 (Nat.le_trans hx.2.2.1 (by decide))
theorem x187 {x : D7} (h : G7 x) : K138.h 106 (eA7 x) x.hp = (True, R7 x) := by
 have := (show K138.h 106 (eA7 x) (eH7 x) = hpG eA7 eH7 dA7 G7 R7 _ _ from rfl).trans (hpG_at x (dA7_e h))
 rw [show eH7 x = x.hp from rfl] at this
 rw [this]
 exact Prod.ext (propext ⟨fun _ => trivial, fun _ => h⟩) rfl
def eA171 (id g n : Nat) (k : Int) : List V := [.rf id g 0 n 7, .i 0, .i n, .i k, .fn 78 []]
theorem X171 (x : D7) (k : Int) (h : G7 x) : HeapCall Tryz.prog 98 (eA171 x.id x.g x.l.length k) x.hp (R7 x) := by
 refine heap_body okK138 hmix Tryz.func98 cb98 cc98 cs98 (by exact cn98) h.1 (by decide) ?_
 have hx := x187 h
 obtain ⟨hp, id, g, l⟩ := x
 obtain ⟨h1, h2, h3, h4⟩ := h
 simp only [eA7, eA187] at hx
 simp only at h1 h2 h3 h4
 have i1 : inI ((l.length : Int)) := by unfold inI; omega
 have i2 : (l.length : Int) ≤ 12 := by omega
 simp only [eA171]
 simp only [rc98, rs98, i1, Int.sub_zero, BL, simprocAttr]
 refine ru_count 0 (fun i => ⟨lkp [(0, .rf id g 0 l.length 7), (1, .i 0), (2, .i l.length), (3, .i k), (4, .fn 78 []), (10, .b true), (11, .b true)], hp⟩) ?_ (fun i hi => absurd hi (Nat.not_lt_zero _)) ?_
 ·simp only [Int.natCast_zero, Int.zero_add, BL, simprocAttr]
 ·simp only [i1, i2, Int.sub_zero, hx, R7, BL, simprocAttr]
  rintro r hp' ⟨_, h⟩
  exact h
theorem X170 (n : Nat) (h : n ≤ 1000) : PureCall Tryz.prog 65 [.w .u64 n] (.i (Lib.bitLen n)) := by
 intro S w cargs hS hsz hrep
 obtain ⟨c, hc⟩ : ∃ c, cargs = #[c] := by
  match cargs, hsz with
  | ⟨[c]⟩, _ => exact ⟨c, rfl⟩
 subst hc
 simp only [RepL, Rep, and_true] at hrep
 subst hrep
 have e : Sfr S w w = S := funext fun k => propext ⟨fun h => h.elim id fun h => absurd (Nat.lt_of_le_of_lt h.1 h.2) (Nat.lt_irrefl _), fun h => .inl h⟩
 refine (Tryz.bits_Len n w (by omega) (by omega)).mono ?_
 rintro r w' ⟨rfl, rfl⟩
 exact ⟨_, rfl, by rw [e]; exact Evol.refl _ _ _, rfl⟩
def e170 (n : Nat) : List V := [.w .u64 n]
def d170 : List V → Nat | [.w _ x] => x.toNat | _ => 0
theorem d170_e (n : Nat) : d170 (e170 n) = n := rfl
def eH171 (x : D7 × Int) : List Blk := x.1.hp
def eA1 (x : D7 × Int) : List V := eA171 x.1.id x.1.g x.1.l.length x.2
def dA1 : List V → List Blk → D7 × Int
 | [.rf id g _ n _, _, _, .i k, _], hp => (⟨hp, id, g, rowsE hp id n⟩, k)
 | _, _ => (⟨[], 0, 0, []⟩, 0)
theorem dA1_e {x : D7 × Int} (h : G7 x.1) : dA1 (eA1 x) (eH171 x) = x := by
 obtain ⟨⟨hp, id, g, l⟩, k⟩ := x
 show (D7.mk hp id g (rowsE hp id l.length), k) = _
 rw [rowsE_at h.2.1]
noncomputable def K139 : Gam := (K138.extH 98 (hpG eA1 eH171 dA1 (fun x => G7 x.1) (fun x => R7 x.1))).ext 65 (fnG e170 d170 (fun n => n ≤ 1000) (fun n => ((Lib.bitLen n : Nat) : Int)) (.i))
theorem okK139 : GOk Tryz.prog K139 := by
 refine GOk.ext ?_ (f := 65) Tryz.call65 (fnG_ok (e := e170) (d := d170) (ok := fun n => n ≤ 1000) (g := fun n => ((Lib.bitLen n : Nat) : Int)) (eb := .i) fun n h => X170 n h)
 refine okK138.extH (f := 98) Tryz.call98 fun xs hp => hpG_ok (fun x hx => ⟨fun r hp' hr => gh7 r hp' hr hx.2.2.2, X171 x.1 x.2 hx⟩) xs hp
theorem x171 {x : D7} (k : Int) (h : G7 x) : K139.h 98 (eA171 x.id x.g x.l.length k) x.hp = (True, R7 x) := by
 have := (show K139.h 98 (eA1 (x, k)) (eH171 (x, k)) = hpG eA1 eH171 dA1 (fun x => G7 x.1) (fun x => R7 x.1) _ _ from rfl).trans (hpG_at (x, k) (dA1_e h))
 rw [show eH171 (x, k) = x.hp from rfl, show eA1 (x, k) = eA171 x.id x.g x.l.length k from rfl] at this
 rw [this]
 exact Prod.ext (propext ⟨fun _ => trivial, fun _ => h⟩) rfl
theorem x170 (n : Nat) (h : n ≤ 1000) : K139 65 [.w .u64 n] = (True, .i (Lib.bitLen n)) :=
 ((show K139 65 _ = fnG e170 d170 (fun n => n ≤ 1000) (fun n => ((Lib.bitLen n : Nat) : Int)) (.i) (e170 n) from rfl).trans (fnG_at _ (d170_e n))).trans (Prod.ext (propext ⟨fun _ => trivial, fun _ => h⟩) rfl)
def eA159 (id g n : Nat) : List V := [.rf id g 0 n 7, .fn 78 []]
theorem X159 (x : D7) (h : G7 x) : HeapCall Tryz.prog 77 (eA159 x.id x.g x.l.length) x.hp (R7 x) := by
 refine heap_body okK139 hmix Tryz.func77 cb77 cc77 cs77 (by exact cn77) h.1 (by decide) ?_
 have hx := fun k => x171 k h
 obtain ⟨hp, id, g, l⟩ := x
 obtain ⟨h1, h2, h3, h4⟩ := h
 simp only [eA171] at hx
 simp only at h1 h2 h3 h4
 have hb := x170 l.length (by omega)
 have hw : IntKind.u64.wrap (l.length : Int) = (l.length : Int) :=  wrap64 (by omega)
 simp only [eA159]
 simp only [rc77, rs77, hw, hb, hx, R7, cvkV, mkI, h2, vw_wk, BL, simprocAttr]
 rintro r hp' ⟨_, h⟩
 exact h
def eA59 (x : D7) : List V := eA159 x.id x.g x.l.length
def dA59 : List V → List Blk → D7
 | [.rf id g _ n _, _], hp => ⟨hp, id, g, rowsE hp id n⟩
 | _, _ => ⟨[], 0, 0, []⟩
theorem dA59_e {x : D7} (h : G7 x) : dA59 (eA59 x) (eH7 x) = x := by
 obtain ⟨hp, id, g, l⟩ := x
 show D7.mk hp id g (rowsE hp id l.length) = _
 rw [rowsE_at h.2.1]
noncomputable def K140 : Gam := K139.extH 77 (hpG eA59 eH7 dA59 G7 R7)
theorem okK140 : GOk Tryz.prog K140 :=
 okK139.extH (f := 77) Tryz.call77 fun xs hp => hpG_ok (fun x hx => ⟨fun r hp' hr => gh7 r hp' hr hx.2.2.2, X159 x hx⟩) xs hp
theorem x159 {x : D7} (h : G7 x) : K140.h 77 (eA159 x.id x.g x.l.length) x.hp = (True, R7 x) := by
 have := (show K140.h 77 (eA59 x) (eH7 x) = hpG eA59 eH7 dA59 G7 R7 _ _ from rfl).trans (hpG_at x (dA59_e h))
 rw [show eH7 x = x.hp from rfl, show eA59 x = eA159 x.id x.g x.l.length from rfl] at this
 rw [this]
 exact Prod.ext (propext ⟨fun _ => trivial, fun _ => h⟩) rfl
end Go.CS
set_option maxHeartbeats 4000000
namespace Go.CS
open Go.Fam Go.Proofs
open Go.C06 (Span eI eIs eSpan gI gR dI dI_eI spanE fnG fnG_ok fnG_at within take_succ_of idxOf idxOf_at idxOf_none idxOf_any flat_len chunk_flat map_vw_rows hasRefL_flat drop_cons chunk_I len_I vw_I noref_I hmix eLI dLI dLI_e ru_countE cutL_noref hasRefL_append upL_noref)
variable {Γ : Gam}
theorem X158 (l : List Int) (hl : l.length ≤ 1000) : PureCall Tryz.prog 16 [.sl 1 (l.map eI)] (.sl 1 (l.map eI)) := by
 refine pure_body okK140 hmix Tryz.func16 cb16 cc16 cs16 cn16 ?_
 have hck : chunk 1 (l.map V.i) 0 l.length = l.map eI := chunk_W _ rfl
 have hf : fitsLen l.length := by unfold fitsLen; omega
 have hf0 : fitsLen 0 := by unfold fitsLen; omega
 cases l with
 | nil =>
  simp only [rc16, rs16, List.flatten_nil, hf0, chunk, BL, simprocAttr]
  intro b _
  rfl
 | cons a l =>
  rw [List.length_cons] at hck hf
  rw [← flat_Is] at hck
  simp only [rc16, rs16, List.flatten_nil, hck, hf, len_I, Nat.mul_one, BL, simprocAttr]
  intro b hb
  subst hb
  refine ⟨fun h => Bool.noConfusion h, fun _ => ?_⟩
  rw [show [V.i a] :: l.map eI = (a :: l).map eI from rfl, hck, flat_Is, List.length_map, List.length_cons, if_pos (Nat.le_refl _), vw_I]
def e158 (l : List Int) : List V := [.sl 1 (l.map eI)]
def d158 : List V → List Int | [.sl _ a] => a.map dI | _ => []
theorem d158_e (l : List Int) : d158 (e158 l) = l := by simp [d158, e158, Function.comp_def, dI_eI]
noncomputable def K141 : Gam := K140.ext 16 (fnG e158 d158 (fun l => l.length ≤ 1000) (fun a => a) ((fun l => .sl 1 (l.map eI))))
theorem okK141 : GOk Tryz.prog K141 := okK140.ext (f := 16) Tryz.call16 (fnG_ok fun a h => X158 a h)
theorem x158 (l : List Int) : K141 16 [.sl 1 (l.map eI)] = (l.length ≤ 1000, .sl 1 (l.map eI)) := (kx K141 16 (d158_e l) rfl :)
def evU (u : Nat) (ws : List Int) (l : List Slip) : List Ev := (l.filter fun s => decide (s.umb = (u : Int))).map fun s => ⟨s, s.atm + ws.getD s.clerk.toNat 0⟩
def badE (l : List Ev) (i : Nat) : Bool := decide ((l.getD i ⟨sl0, 0⟩).sl.kind ≠ if i % 2 = 1 then 2 else 1) || (decide (0 < i) && decide ((l.getD i ⟨sl0, 0⟩).min = (l.getD (i - 1) ⟨sl0, 0⟩).min))
def okEv (l : List Ev) : Bool := !(List.range l.length).any (badE l)
def evS (ws : List Int) (l : List Slip) (u : Nat) : List Ev := isortE (evU u ws l)
def openB (ws : List Int) (l : List Slip) : Bool := (List.range 10).all fun u => okEv (evS ws l u)
def truthV (ws : List Int) (l : List Slip) : V := .pa (.sl 1 (ws.map eI) :: (List.range 10).map fun u => .sl 7 ((evS ws l u).map eEv))
def opnV (ws : List Int) (l : List Slip) : V := if openB ws l then .tp [truthV ws l, .b true] else .tp [.pn, .b false]
structure OkO (ws : List Int) (l : List Slip) : Prop where
 len : l.length ≤ 12
 wl : ws.length ≤ 1000
 umb : ∀ s ∈ l, 0 ≤ s.umb ∧ s.umb ≤ 9
 clk : ∀ s ∈ l, 0 ≤ s.clerk ∧ s.clerk < ws.length
 inn : ∀ s ∈ l, inI (s.atm + ws.getD s.clerk.toNat 0)
theorem evU_snoc (u : Nat) (ws : List Int) (l : List Slip) (s : Slip) : evU u ws (l ++ [s]) = if s.umb = (u : Int) then evU u ws l ++ [⟨s, s.atm + ws.getD s.clerk.toNat 0⟩] else evU u ws l := by
 unfold evU
 rw [List.filter_append, List.map_append]
 by_cases h : s.umb = (u : Int) <;> simp [h]
def bookC (c : Ctr) (l : List Slip) (n : Nat) : List V := eCtr c ++ [.sl 6 (l.map eSlip), .rf 1 n 0 n 1]
def eA134 (g : Nat) (ws : List Int) : List V := [.ad 0 g 0, .sl 1 (ws.map eI)]
abbrev rfE (u n : Nat) : V := .rf u n 0 n 7
abbrev blkE (l : List Ev) : Blk := .cells l.length (l.map eEv).flatten
def hpE (B0 B1 : Blk) (ws : List Int) (e : Nat → List Ev) : List Blk := [B0, B1, .cells 0 [.sl 1 (ws.map eI), rfE 3 (e 0).length, rfE 4 (e 1).length, rfE 5 (e 2).length, rfE 6 (e 3).length, rfE 7 (e 4).length, rfE 8 (e 5).length, rfE 9 (e 6).length, rfE 10 (e 7).length, rfE 11 (e 8).length, rfE 12 (e 9).length], blkE (e 0), blkE (e 1), blkE (e 2), blkE (e 3), blkE (e 4), blkE (e 5), blkE (e 6), blkE (e 7), blkE (e 8), blkE (e 9)]
theorem hpE_at (B0 B1 : Blk) (ws : List Int) (E : Nat → List Ev) {u : Nat} (hu : u < 10) : (hpE B0 B1 ws E)[3 + u]? = some (blkE (E u)) := by
 have hcl : u = 0 ∨ u = 1 ∨ u = 2 ∨ u = 3 ∨ u = 4 ∨ u = 5 ∨ u = 6 ∨ u = 7 ∨ u = 8 ∨ u = 9 := by omega
 rcases hcl with rfl | rfl | rfl | rfl | rfl | rfl | rfl | rfl | rfl | rfl <;> rfl
theorem hpE_set (B0 B1 : Blk) (ws : List Int) (E : Nat → List Ev) {u : Nat} (hu : u < 10) {S : List Ev} (hS : S.length = (E u).length) : (hpE B0 B1 ws E).set (3 + u) (.cells S.length (S.map eEv).flatten) = hpE B0 B1 ws fun v => if v = u then S else E v := by
 have hcl : u = 0 ∨ u = 1 ∨ u = 2 ∨ u = 3 ∨ u = 4 ∨ u = 5 ∨ u = 6 ∨ u = 7 ∨ u = 8 ∨ u = 9 := by omega
 have hT : ∀ v, (if v = u then S else E v).length = (E v).length := fun v => by
  by_cases h : v = u
  ·rw [if_pos h, hS, h]
  ·rw [if_neg h]
 unfold hpE
 simp only [hT]
 rcases hcl with rfl | rfl | rfl | rfl | rfl | rfl | rfl | rfl | rfl | rfl <;> rfl
def zE (E : Nat → List Ev) : List V := [rfE 3 (E 0).length, rfE 4 (E 1).length, rfE 5 (E 2).length, rfE 6 (E 3).length, rfE 7 (E 4).length, rfE 8 (E 5).length, rfE 9 (E 6).length, rfE 10 (E 7).length, rfE 11 (E 8).length, rfE 12 (E 9).length]
theorem zE_at (E : Nat → List Ev) {u : Nat} (hu : u < 10) : ((zE E).drop u).headD .u = rfE (3 + u) (E u).length := by
 have hcl : u = 0 ∨ u = 1 ∨ u = 2 ∨ u = 3 ∨ u = 4 ∨ u = 5 ∨ u = 6 ∨ u = 7 ∨ u = 8 ∨ u = 9 := by omega
 rcases hcl with rfl | rfl | rfl | rfl | rfl | rfl | rfl | rfl | rfl | rfl <;> rfl
theorem hpE_cut {g m : Nat} {C L1 : List V} (ws : List Int) (E : Nat → List Ev) (H : List Blk) (hC : cutL H 13 C = C) (hL : cutL H 13 L1 = L1) : (hpE (.cells g C) (.cells m L1) ws E).map (cutB H 13) = hpE (.cells g C) (.cells m L1) ws E := by
 have hu : ∀ L : List Ev, cutL H 13 (L.map eEv).flatten = (L.map eEv).flatten := fun L => cutL_noref H 13 _ (noref_Ev L)
 simp only [hpE, List.map_cons, List.map_nil, cutB, cutL, cutV, hC, hL, hu, rfE, blkE]
 rfl
theorem okEv_bad {l : List Ev} (h : okEv l = true) : ∀ k, k < l.length → badE l k = false := by
 intro k hk
 unfold okEv at h
 rw [Bool.not_eq_true', List.any_eq_false] at h
 have := h k (List.mem_range.2 hk)
 simpa using this
theorem okEv_first {l : List Ev} (h : okEv l = false) : ∃ k, k < l.length ∧ badE l k = true ∧ ∀ i, i < k → badE l i = false := by
 unfold okEv at h
 rw [Bool.not_eq_false', List.any_eq_true] at h
 have hlt : (List.range l.length).findIdx (badE l) < (List.range l.length).length := List.findIdx_lt_length.2 h
 have h1 := List.findIdx_getElem (w := hlt)
 refine ⟨(List.range l.length).findIdx (badE l), by rwa [List.length_range] at hlt, by rwa [List.getElem_range] at h1, fun i hi => ?_⟩
 have h2 := List.not_of_lt_findIdx hi
 rw [List.getElem_range] at h2
 simpa using h2
theorem opn_view (B0 B1 : Blk) (ws : List Int) (E : Nat → List Ev) : (match (hpF 2 (hpE B0 B1 ws E))[2]? with
     | some (Blk.cells g' vs) => if g' = 0 then V.pa (List.map (vw (hpF 2 (hpE B0 B1 ws E)) 7) vs) else V.u
     | x => V.u) = .pa (.sl 1 (ws.map eI) :: (List.range 10).map fun u => .sl 7 ((E u).map eEv)) := by
 have hu : ∀ L : List Ev, upL 2 (L.map eEv).flatten = (L.map eEv).flatten := fun L => upL_noref 2 _ (noref_Ev L)
 have hF : hpF 2 (hpE B0 B1 ws E) = hpE .hole .hole ws E := by
  simp only [hpF, hpE, List.take_succ_cons, List.take_zero, List.drop_succ_cons, List.drop_zero, List.map_cons, List.map_nil, List.cons_append, List.nil_append, upB, upL, upV, hu, rfE, blkE]
  rfl
 rw [hF]
 show V.pa (List.map (vw (hpE .hole .hole ws E) 7) _) = _
 have hv : ∀ u, u < 10 → vw (hpE .hole .hole ws E) 7 (rfE (3 + u) (E u).length) = .sl 7 ((E u).map eEv) := fun u hu => by
  have e := hpE_at .hole .hole ws E hu
  have hle : (E u).length * 7 ≤ (E u).length * 7 := Nat.le_refl _
  simp only [rfE, e, blkE, chunk_Ev, vw_Evs, len_Ev, hle, BL, simprocAttr]
 have h0 := hv 0 (by decide)
 have h1 := hv 1 (by decide)
 have h2 := hv 2 (by decide)
 have h3 := hv 3 (by decide)
 have h4 := hv 4 (by decide)
 have h5 := hv 5 (by decide)
 have h6 := hv 6 (by decide)
 have h7 := hv 7 (by decide)
 have h8 := hv 8 (by decide)
 have h9 := hv 9 (by decide)
 simp only [Nat.add_zero, Nat.reduceAdd] at h0 h1 h2 h3 h4 h5 h6 h7 h8 h9
 have hw : vw (hpE .hole .hole ws E) 7 (.sl 1 (ws.map eI)) = .sl 1 (ws.map eI) := rfl
 simp only [List.map_cons, List.map_nil, h0, h1, h2, h3, h4, h5, h6, h7, h8, h9, hw]
 rfl
theorem head6 {vs : List V} {i : Nat} {y : Ev} (h : (vs.drop (i * 7)).take 7 = eEv y) : (vs.drop (i * 7 + 6)).headD .u = .i y.min := by
 have h6 := congrArg (·[6]?) h
 simp only [List.getElem?_take, List.getElem?_drop] at h6
 rw [if_pos (by decide)] at h6
 rw [List.headD_eq_head?_getD, List.head?_drop, h6]; rfl
set_option maxHeartbeats 4000000 in
theorem X134 (c : Ctr) (l : List Slip) (ws : List Int) (g : Nat) (L1 : List V) (hL1 : hasRefL L1 = false) (h : OkO ws l) :
  HeapCall Tryz.prog 62 (eA134 g ws) [.cells g (bookC c l L1.length), .cells L1.length L1] fun r hp' => r = opnV ws l ∧ hp' = [.cells g (bookC c l L1.length), .cells L1.length L1] := by
 refine heap_bodyC okK141 hmix Tryz.func62 cb62 cc62 cs62 (by exact cn62) (lo := 2) (by exact Nat.le_refl 2) (by decide) ?_
 have hll := h.len
 have hwl := h.wl
 obtain ⟨C, hC⟩ : ∃ C, C = bookC c l L1.length := ⟨_, rfl⟩
 have hC11 : (C.drop 11).headD .u = .sl 6 (l.map eSlip) := by rw [hC]; rfl
 have hCl : 12 ≤ C.length := by rw [hC]; exact Nat.le_succ 12
 have hC0 : ∀ H n, 2 ≤ n → cutL H n C = C := by
  intro H n hn
  rw [hC]
  unfold bookC
  rw [cutL_app', cutL_noref H n (eCtr c) rfl]
  simp [cutL, cutV, show 1 < n by omega]
 have hC13 : ∀ H, cutL H 13 C = C := fun H => hC0 H 13 (by decide)
 have hL13 : ∀ H, cutL H 13 L1 = L1 := fun H => cutL_noref H 13 L1 hL1
 have he0 : ∀ u, evU u ws [] = [] := fun u => rfl
 rw [← hC]
 simp only [eA134]
 simp only [rc62, rs62, hC11, hCl, x158, hwl, BL, simprocAttr]
 refine ru_count l.length (fun k => ⟨lkp [(1, .sl 1 (ws.map eI)), (6, .ad 2 0 0), (21, .sl 6 (l.map eSlip)), (22, .i l.length), (23, .i k)], hpE (.cells g C) (.cells L1.length L1) ws fun u => evU u ws (l.take k)⟩) ?_ ?_ ?_
 ·simp only [Int.natCast_zero, hpE, hC13, hL13, he0, rfE, blkE, List.flatten_nil, BL, simprocAttr]
 ·intro k hk
  obtain ⟨s, hs⟩ : ∃ s, l[k]? = some s := ⟨_, List.getElem?_eq_getElem hk⟩
  have hm : s ∈ l := List.mem_of_getElem? hs
  have hu := h.umb s hm
  have hc := h.clk s hm
  have hi := h.inn s hm
  have hrow : (l.map eSlip)[k]? = some (eSlip s) := by rw [List.getElem?_map, hs]; rfl
  obtain ⟨w, hw⟩ : ∃ w, ws[s.clerk.toNat]? = some w := ⟨_, List.getElem?_eq_getElem (by omega)⟩
  have hw2 : ws.getD s.clerk.toNat 0 = w := by rw [List.getD_eq_getElem?_getD, hw]; rfl
  have hwr : (ws.map eI)[s.clerk.toNat]? = some [.i w] := by rw [List.getElem?_map, hw]; rfl
  rw [hw2] at hi
  have hE : ∀ u : Nat, evU u ws (l.take (k + 1)) = if s.umb = (u : Int) then evU u ws (l.take k) ++ [⟨s, s.atm + w⟩] else evU u ws (l.take k) := fun u => by rw [take_succ_of hs, evU_snoc, hw2]
  obtain ⟨e, he⟩ : ∃ e, e = fun u => evU u ws (l.take k) := ⟨_, rfl⟩
  have hE2 : ∀ u : Nat, evU u ws (l.take (k + 1)) = if s.umb = (u : Int) then e u ++ [⟨s, s.atm + w⟩] else e u := fun u => by rw [hE, he]
  have hlt : (k : Int) < l.length := by omega
  have hkk : ((k : Int)).toNat = k := Int.toNat_natCast k
  have i1 : inI ((k : Int) + 1) := by unfold inI; omega
  have hk0 : (0 : Int) ≤ k := by omega
  have hcE : ∀ H (L : List Ev), cutL H 13 (L.map eEv).flatten = (L.map eEv).flatten := fun H L => cutL_noref H 13 _ (noref_Ev L)
  have hcA : ∀ H (L : List Ev) (a b c d e f g : Int), cutL H 13 ((L.map eEv).flatten ++ [[V.i a, V.i b, V.i c, V.i d, V.i e, V.i f, V.i g]].flatten) = (L.map eEv).flatten ++ [V.i a, V.i b, V.i c, V.i d, V.i e, V.i f, V.i g] := fun H L a b c d e f g => by rw [cutL_app', hcE]; rfl
  have hcB : ∀ H (L : List Ev) (a b c d e f g : Int), cutL H 13 ((L.map eEv).flatten ++ [V.i a, V.i b, V.i c, V.i d, V.i e, V.i f, V.i g]) = (L.map eEv).flatten ++ [V.i a, V.i b, V.i c, V.i d, V.i e, V.i f, V.i g] := fun H L a b c d e f g => by rw [cutL_app', hcE]; rfl
  have hsg : ∀ r : List V, [r].flatten = r := fun r => by simp
  have hk1 : ((k + 1 : Nat) : Int) = (k : Int) + 1 := by omega
  have h10 : (0 : Int) < ((10 : Nat) : Int) := by decide
  have hfl : ∀ u, fitsLen ((e u).length + 1) := fun u => by
   have h1 : (evU u ws (l.take k)).length ≤ (l.take k).length := by
    unfold evU; rw [List.length_map]; exact List.length_filter_le _ _
   have h2 : (l.take k).length ≤ l.length := by rw [List.length_take]; omega
   have h3 : (e u).length ≤ 12 := by rw [he]; exact Nat.le_trans h1 (Nat.le_trans h2 hll)
   unfold fitsLen; omega
  rw [← he]
  simp only [hE2]
  obtain ⟨c, hcc⟩ : ∃ c : Nat, s.umb = (c : Int) := ⟨s.umb.toNat, by omega⟩
  have hE3 : ∀ u : Nat, (if s.umb = (u : Int) then e u ++ [⟨s, s.atm + w⟩] else e u) = if c = u then e u ++ [⟨s, s.atm + w⟩] else e u := fun u => by
   by_cases hq : c = u
   ·rw [if_pos hq, if_pos (by omega)]
   ·rw [if_neg hq, if_neg (by omega)]
  simp only [hE3]
  have hcl : c = 0 ∨ c = 1 ∨ c = 2 ∨ c = 3 ∨ c = 4 ∨ c = 5 ∨ c = 6 ∨ c = 7 ∨ c = 8 ∨ c = 9 := by omega
  rcases hcl with rfl | rfl | rfl | rfl | rfl | rfl | rfl | rfl | rfl | rfl <;>
  ·have hx := hcc
   simp only [Int.cast_ofNat_Int, Int.natCast_zero, Int.natCast_one] at hx
   obtain ⟨id, clerk, atm, kind, umb, guest⟩ := s
   simp only at hx hc hi hw hwr
   subst hx
   simp only [hpE, hlt, hrow, hkk, hk0, hc.1, hc.2, i1, hi, hwr, hC13, hL13, hcE, hcA, hcB, h10, hfl, len_Ev, rfE, blkE, eSlip, List.length_append, List.map_append, List.flatten_append, eEv, hk1, hsg, show ((0 : Int) < ((10 : Nat) : Int)) = True from eq_true (by decide), BL, simprocAttr]
 ·have hlt : ¬ ((l.length : Int) < l.length) := by omega
  obtain ⟨Hj, hHj⟩ : ∃ Hj : Nat → List Blk, Hj = fun j => hpE (.cells g C) (.cells L1.length L1) ws fun u => if u < j then evS ws l u else evU u ws l := ⟨_, rfl⟩
  obtain ⟨Z, hZ⟩ : ∃ Z : List V, Z = zE fun u => evU u ws l := ⟨_, rfl⟩
  have hH0 : hpE (.cells g C) (.cells L1.length L1) ws (fun u => evU u ws l) = Hj 0 := by rw [hHj]; rfl
  have hHl : ∀ j, (Hj j).length = 13 := fun j => by rw [hHj]; rfl
  have hHg : ∀ j, ghO (Hj j) = none := fun j => by rw [hHj]; rfl
  have hnl : ∀ u, (evU u ws l).length ≤ 12 := fun u => by
   unfold evU; rw [List.length_map]; exact Nat.le_trans (List.length_filter_le _ _) hll
  have hT : l.take l.length = l := List.take_length
  have gT : (Hj 0)[2]? = some (.cells 0 (.sl 1 (ws.map eI) :: Z)) := by rw [hHj, hZ]; rfl
  have hHd0 : ∀ j, ((Hj j).take 13).map (cutB (Hj j) 13) = Hj j := fun j => by
   have e := hpE_cut (g := g) (m := L1.length) ws (fun u => if u < j then evS ws l u else evU u ws l) (Hj j) (hC13 _) (hL13 _)
   rw [List.take_of_length_le (by rw [hHl]; decide)]
   have e2 : Hj j = hpE (.cells g C) (.cells L1.length L1) ws fun u => if u < j then evS ws l u else evU u ws l := by rw [hHj]
   rw [← e2] at e
   exact e
  have hHd : ∀ j b, ((Hj j ++ [b]).take 13).map (cutB (Hj j ++ [b]) 13) = Hj j := fun j b => by
   have e := hpE_cut (g := g) (m := L1.length) ws (fun u => if u < j then evS ws l u else evU u ws l) (Hj j ++ [b]) (hC13 _) (hL13 _)
   have e2 : Hj j = hpE (.cells g C) (.cells L1.length L1) ws fun u => if u < j then evS ws l u else evU u ws l := by rw [hHj]
   rw [← e2] at e
   rw [List.take_append_of_le_length (by rw [hHl]; decide), List.take_of_length_le (by rw [hHl]; decide)]
   exact e
  have hZ10 : Z.length = 10 := by rw [hZ]; rfl
  obtain ⟨nu, hnu⟩ : ∃ nu, nu = (List.range 10).findIdx fun u => !okEv (evS ws l u) := ⟨_, rfl⟩
  have hnu10 : nu ≤ 10 := by rw [hnu]; exact List.findIdx_le_length
  have hZt : Z.take 10 = Z := List.take_of_length_le (by omega)
  have hcZ : ∀ H, cutL H 13 Z = Z := fun H => by rw [hZ]; rfl
  rw [hT, hH0]
  simp only [hlt, gT, hZ10, BL, simprocAttr]
  refine ru_count nu (fun j => ⟨lkp [(6, .ad 2 0 0), (56, .ag Z), (57, .i j)], Hj j⟩) ?_ ?_ ?_
  ·simp only [Int.natCast_zero, hZt, hHd0, hcZ, BL, simprocAttr]
  ·intro j hj
   have hj10 : j < 10 := by omega
   have hjl : (j : Int) < 10 := by omega
   have hj0 : (0 : Int) ≤ j := by omega
   have hjl2 : (j : Int) < ((10 : Nat) : Int) := by omega
   obtain ⟨S, hS⟩ : ∃ S, S = evS ws l j := ⟨_, rfl⟩
   obtain ⟨n, hn⟩ : ∃ n, n = (evU j ws l).length := ⟨_, rfl⟩
   have hSn : S.length = n := by rw [hS, hn]; exact isortE_len _
   have g0 : (Hj j)[3 + j]? = some (.cells n ((evU j ws l).map eEv).flatten) := by
    have e := hpE_at (.cells g C) (.cells L1.length L1) ws (fun u => if u < j then evS ws l u else evU u ws l) hj10
    rw [hHj, hn]
    rw [show (if j < j then evS ws l j else evU j ws l) = evU j ws l from if_neg (Nat.lt_irrefl _)] at e
    exact e
   have g1 : (Hj (j + 1))[3 + j]? = some (.cells n (S.map eEv).flatten) := by
    have e := hpE_at (.cells g C) (.cells L1.length L1) ws (fun u => if u < j + 1 then evS ws l u else evU u ws l) hj10
    rw [show (if j < j + 1 then evS ws l j else evU j ws l) = S from (if_pos (Nat.lt_succ_self _)).trans hS.symm] at e
    rw [hHj, ← hSn]
    exact e
   have gset : (Hj j).set (3 + j) (.cells n (S.map eEv).flatten) = Hj (j + 1) := by
    have e := hpE_set (.cells g C) (.cells L1.length L1) ws (fun u => if u < j then evS ws l u else evU u ws l) hj10 (S := S) (by show S.length = (if j < j then evS ws l j else evU j ws l).length; rw [if_neg (Nat.lt_irrefl _), hSn, hn])
    rw [hSn] at e
    rw [hHj]
    refine e.trans ?_
    show _ = hpE _ _ _ _
    congr 1
    funext v
    by_cases h1 : v = j
    ·rw [if_pos h1, if_pos (by omega), hS, h1]
    ·rw [if_neg h1]
     by_cases h2 : v < j
     ·rw [if_pos h2, if_pos (by omega)]
     ·rw [if_neg h2, if_neg (by omega)]
   have hz : (Z.drop j).headD .u = rfE (3 + j) n := by rw [hZ, hn]; exact zE_at _ hj10
   have hx : K141.h 77 [.rf (3 + j) n 0 n 7, .fn 78 []] (Hj j) = (True, fun r hp' => r = .tp [] ∧ hp' = Hj (j + 1)) := by
    have e := x159 (x := ⟨Hj j, 3 + j, n, evU j ws l⟩) ⟨by rw [hHl]; decide, g0, hnl j, hHg j⟩
    simp only [eA159, ← hn] at e
    refine e.trans (Prod.ext rfl ?_)
    funext r hp'
    show (r = .tp [] ∧ hp' = (Hj j).set (3 + j) (.cells n ((isortE (evU j ws l)).map eEv).flatten)) = _
    rw [show isortE (evU j ws l) = S from hS.symm, gset]
   obtain ⟨H1, hH1⟩ : ∃ H1, H1 = Hj (j + 1) := ⟨_, rfl⟩
   have hl1 : H1.length = 13 := by rw [hH1]; exact hHl _
   have ga : ∀ b : Blk, (H1 ++ [b])[3 + j]? = some (.cells n (S.map eEv).flatten) := fun b => by rw [List.getElem?_append_left (by omega), hH1, g1]
   have gb : ∀ b : Blk, (H1 ++ [b])[13]? = some b := fun b => by rw [List.getElem?_append_right (by omega), hl1]; rfl
   have gs : ∀ b c : Blk, (H1 ++ [b]).set 13 c = H1 ++ [c] := fun b c => by rw [List.set_append_right _ _ (by omega), hl1]; rfl
   have gd : ∀ b : Blk, ((H1 ++ [b]).take 13).map (cutB (H1 ++ [b]) 13) = H1 := fun b => by rw [hH1]; exact hHd _ b
   have gd0 : (H1.take 13).map (cutB H1 13) = H1 := by rw [hH1]; exact hHd0 _
   rw [← hH1] at hx g1
   have j3 : 3 + j < 13 := by omega
   have jn : (j : Int).toNat = j := Int.toNat_natCast j
   have hn12 : n ≤ 12 := by rw [hn]; exact hnl j
   have hok : ∀ k, k < n → badE S k = false := by
    rw [← hSn]
    refine okEv_bad ?_
    rw [hnu] at hj
    have h2 := List.not_of_lt_findIdx hj
    rw [List.getElem_range] at h2
    rw [hS]
    simpa using h2
   have ij : inI ((j : Int) + 1) := by unfold inI; omega
   have hj1 : ((j + 1 : Nat) : Int) = (j : Int) + 1 := by omega
   simp only [hjl, hjl2, hj0, jn, hz, hx, g1, hZ10, hl1, j3, hcZ, gd0, forall_eq_apply_imp_iff, and_imp, forall_eq, BL, simprocAttr]
   refine ru_count n (fun k => ⟨lkp [(6, .ad 2 0 0), (10, .rf (3 + j) n 0 n 7), (56, .ag Z), (57, .i j), (62, .rf (3 + j) n 0 n 7), (63, .i n), (64, .i k)], H1⟩) ?_ ?_ ?_
   ·simp only [Int.natCast_zero, hcZ, gd0, j3, BL, simprocAttr]
   ·intro k hk
    obtain ⟨x, hxk⟩ : ∃ x, S[k]? = some x := ⟨_, List.getElem?_eq_getElem (by omega)⟩
    have t1 := flat_take (e := eEv) (k := 7) (fun _ => rfl) hxk
    have fl : (S.map eEv).flatten.length = n * 7 := by rw [len_Ev, hSn]
    have c1 : k * 7 + 7 ≤ n * 7 := by omega
    have kl : (k : Int) < n := by omega
    have k0 : (0 : Int) ≤ k := by omega
    have kn : (k : Int).toNat = k := Int.toNat_natCast k
    have i1 : inI ((k : Int) + 1) := by unfold inI; omega
    have km2 : ((k : Int).tmod 2 = 1) = (k % 2 = 1) := by rw [Int.tmod_eq_emod_of_nonneg k0]; exact propext ⟨fun h => by omega, fun h => by omega⟩
    have hk1 : ((k + 1 : Nat) : Int) = (k : Int) + 1 := by omega
    have kb := hok k (by omega)
    unfold badE at kb
    rw [List.getD_eq_getElem?_getD, hxk] at kb
    simp only [Option.getD_some, Bool.or_eq_false_iff, decide_eq_false_iff_not, Bool.and_eq_false_iff, ne_eq, Decidable.not_not] at kb
    obtain ⟨kb1, kb2⟩ := kb
    by_cases hk0 : k = 0
    ·subst hk0
     have hodd : ¬ (0 % 2 = 1) := by decide
     rw [if_neg hodd] at kb1
     rw [Nat.zero_mul, List.drop_zero] at t1
     have kl0 : (0 : Int) < n := by omega
     have km0 : ¬ Int.tmod 0 2 = 1 := by decide
     have i10 : inI 1 := by unfold inI; omega
     simp only [kl, k0, kn, g1, ga, gb, gs, gd, gd0, hl1, t1, fl, c1, i1, eEv, hcZ, j3, km2, hk1, hodd, kb1, Int.natCast_zero, Nat.zero_mul, kl0, km0, i10, BL, simprocAttr]
    ·obtain ⟨y, hyk⟩ : ∃ y, S[k - 1]? = some y := ⟨_, List.getElem?_eq_getElem (by omega)⟩
     have t2 := flat_take (e := eEv) (k := 7) (fun _ => rfl) hyk
     have t3 : (List.drop ((k - 1) * 7 + 6) (S.map eEv).flatten).headD .u = .i y.min := head6 t2
     have kpos : (0 : Int) < k := by omega
     have km : ((k : Int) - 1).toNat = k - 1 := by omega
     have c2 : (k - 1) * 7 + 7 ≤ n * 7 := by omega
     have kl2 : (k : Int) - 1 < n := by omega
     have k02 : (0 : Int) ≤ (k : Int) - 1 := by omega
     have i2 : inI ((k : Int) - 1) := by unfold inI; omega
     rw [List.getD_eq_getElem?_getD, hyk] at kb2
     have kb3 : ¬ x.min = y.min := by
      rcases kb2 with h | h
      ·omega
      ·exact h
     by_cases hodd : k % 2 = 1
     ·rw [if_pos hodd] at kb1
      simp only [kl, k0, kn, g1, ga, gb, gs, gd, gd0, hl1, t1, fl, c1, i1, eEv, hcZ, j3, km2, hk1, hodd, kb1, kb3, kpos, km, c2, kl2, k02, i2, t2, t3, BL, simprocAttr]
     ·rw [if_neg hodd] at kb1
      simp only [kl, k0, kn, g1, ga, gb, gs, gd, gd0, hl1, t1, fl, c1, i1, eEv, hcZ, j3, km2, hk1, hodd, kb1, kb3, kpos, km, c2, kl2, k02, i2, t2, t3, BL, simprocAttr]
   ·have hlt : ¬ ((n : Int) < n) := by omega
    simp only [hlt, gd0, hcZ, ij, hj1, BL, simprocAttr]
    rw [hH1]
  ·by_cases h10 : nu = 10
   ·have hop : openB ws l = true := by
     unfold openB
     rw [List.all_eq_true]
     intro u hu
     have e := List.findIdx_eq_length.1 (hnu.symm.trans (h10.trans (List.length_range).symm)) u hu
     simpa using e
    have hlt : ¬ ((nu : Int) < 10) := by omega
    have hE : Hj nu = hpE (.cells g C) (.cells L1.length L1) ws fun u => if u < 10 then evS ws l u else evU u ws l := by rw [hHj, h10]
    simp only [hlt, hE, BL, simprocAttr]
    refine ⟨?_, ?_⟩
    ·rw [show opnV ws l = .tp [truthV ws l, .b true] by unfold opnV; rw [if_pos hop]]
     congr 1
     congr 1
     exact opn_view _ _ ws (fun u => if u < 10 then evS ws l u else evU u ws l)
    ·simp only [hpE, List.take_succ_cons, List.take_zero, List.map_cons, List.map_nil, cutB, hC0 _ 2 (Nat.le_refl 2), cutL_noref _ 2 L1 hL1]
   ·obtain ⟨j, hjn⟩ : ∃ j, j = nu := ⟨_, rfl⟩
    rw [← hjn]
    have hj10 : j < 10 := by omega
    have hjl : (j : Int) < 10 := by omega
    have hj0 : (0 : Int) ≤ j := by omega
    have hjl2 : (j : Int) < ((10 : Nat) : Int) := by omega
    obtain ⟨S, hS⟩ : ∃ S, S = evS ws l j := ⟨_, rfl⟩
    obtain ⟨n, hn⟩ : ∃ n, n = (evU j ws l).length := ⟨_, rfl⟩
    have hSn : S.length = n := by rw [hS, hn]; exact isortE_len _
    have g0 : (Hj j)[3 + j]? = some (.cells n ((evU j ws l).map eEv).flatten) := by
     have e := hpE_at (.cells g C) (.cells L1.length L1) ws (fun u => if u < j then evS ws l u else evU u ws l) hj10
     rw [hHj, hn]
     rw [show (if j < j then evS ws l j else evU j ws l) = evU j ws l from if_neg (Nat.lt_irrefl _)] at e
     exact e
    have g1 : (Hj (j + 1))[3 + j]? = some (.cells n (S.map eEv).flatten) := by
     have e := hpE_at (.cells g C) (.cells L1.length L1) ws (fun u => if u < j + 1 then evS ws l u else evU u ws l) hj10
     rw [show (if j < j + 1 then evS ws l j else evU j ws l) = S from (if_pos (Nat.lt_succ_self _)).trans hS.symm] at e
     rw [hHj, ← hSn]
     exact e
    have gset : (Hj j).set (3 + j) (.cells n (S.map eEv).flatten) = Hj (j + 1) := by
     have e := hpE_set (.cells g C) (.cells L1.length L1) ws (fun u => if u < j then evS ws l u else evU u ws l) hj10 (S := S) (by show S.length = (if j < j then evS ws l j else evU j ws l).length; rw [if_neg (Nat.lt_irrefl _), hSn, hn])
     rw [hSn] at e
     rw [hHj]
     refine e.trans ?_
     show _ = hpE _ _ _ _
     congr 1
     funext v
     by_cases h1 : v = j
     ·rw [if_pos h1, if_pos (by omega), hS, h1]
     ·rw [if_neg h1]
      by_cases h2 : v < j
      ·rw [if_pos h2, if_pos (by omega)]
      ·rw [if_neg h2, if_neg (by omega)]
    have hz : (Z.drop j).headD .u = rfE (3 + j) n := by rw [hZ, hn]; exact zE_at _ hj10
    have hx : K141.h 77 [.rf (3 + j) n 0 n 7, .fn 78 []] (Hj j) = (True, fun r hp' => r = .tp [] ∧ hp' = Hj (j + 1)) := by
     have e := x159 (x := ⟨Hj j, 3 + j, n, evU j ws l⟩) ⟨by rw [hHl]; decide, g0, hnl j, hHg j⟩
     simp only [eA159, ← hn] at e
     refine e.trans (Prod.ext rfl ?_)
     funext r hp'
     show (r = .tp [] ∧ hp' = (Hj j).set (3 + j) (.cells n ((isortE (evU j ws l)).map eEv).flatten)) = _
     rw [show isortE (evU j ws l) = S from hS.symm, gset]
    obtain ⟨H1, hH1⟩ : ∃ H1, H1 = Hj (j + 1) := ⟨_, rfl⟩
    have hl1 : H1.length = 13 := by rw [hH1]; exact hHl _
    have ga : ∀ b : Blk, (H1 ++ [b])[3 + j]? = some (.cells n (S.map eEv).flatten) := fun b => by rw [List.getElem?_append_left (by omega), hH1, g1]
    have gb : ∀ b : Blk, (H1 ++ [b])[13]? = some b := fun b => by rw [List.getElem?_append_right (by omega), hl1]; rfl
    have gs : ∀ b c : Blk, (H1 ++ [b]).set 13 c = H1 ++ [c] := fun b c => by rw [List.set_append_right _ _ (by omega), hl1]; rfl
    have gd : ∀ b : Blk, ((H1 ++ [b]).take 13).map (cutB (H1 ++ [b]) 13) = H1 := fun b => by rw [hH1]; exact hHd _ b
    have gd0 : (H1.take 13).map (cutB H1 13) = H1 := by rw [hH1]; exact hHd0 _
    rw [← hH1] at hx g1
    have j3 : 3 + j < 13 := by omega
    have jn : (j : Int).toNat = j := Int.toNat_natCast j
    have hn12 : n ≤ 12 := by rw [hn]; exact hnl j
    have hbad : okEv S = false := by
     have hlt : (List.range 10).findIdx (fun u => !okEv (evS ws l u)) < (List.range 10).length := by rw [← hnu, List.length_range]; omega
     have h1 := List.findIdx_getElem (w := hlt)
     rw [List.getElem_range, ← hnu, ← hjn] at h1
     rw [hS]
     simpa using h1
    obtain ⟨nb, hnb, hbd, hok⟩ := okEv_first hbad
    have hnbn : nb ≤ n := by omega
    have hop2 : opnV ws l = .tp [.pn, .b false] := by
     unfold opnV
     rw [if_neg]
     unfold openB
     rw [List.all_eq_true]
     intro h
     have := h j (List.mem_range.2 hj10)
     rw [← hS, hbad] at this
     cases this
    have gq : ∀ b : Blk, ((H1 ++ [b]).take 2).map (cutB (H1 ++ [b]) 2) = [.cells g C, .cells L1.length L1] := fun b => by
     rw [hH1, hHj]
     simp only [hpE, List.cons_append, List.take_succ_cons, List.take_zero, List.map_cons, List.map_nil, cutB, hC0 _ 2 (Nat.le_refl 2), cutL_noref _ 2 L1 hL1]
    simp only [hjl, hjl2, hj0, jn, hz, hx, g1, hZ10, hl1, j3, hcZ, gd0, forall_eq_apply_imp_iff, and_imp, forall_eq, BL, simprocAttr]
    refine ru_count nb (fun k => ⟨lkp [(6, .ad 2 0 0), (10, .rf (3 + j) n 0 n 7), (56, .ag Z), (57, .i j), (62, .rf (3 + j) n 0 n 7), (63, .i n), (64, .i k)], H1⟩) ?_ ?_ ?_
    ·simp only [Int.natCast_zero, hcZ, gd0, j3, BL, simprocAttr]
    ·intro k hk
     obtain ⟨x, hxk⟩ : ∃ x, S[k]? = some x := ⟨_, List.getElem?_eq_getElem (by omega)⟩
     have t1 := flat_take (e := eEv) (k := 7) (fun _ => rfl) hxk
     have fl : (S.map eEv).flatten.length = n * 7 := by rw [len_Ev, hSn]
     have c1 : k * 7 + 7 ≤ n * 7 := by omega
     have kl : (k : Int) < n := by omega
     have k0 : (0 : Int) ≤ k := by omega
     have kn : (k : Int).toNat = k := Int.toNat_natCast k
     have i1 : inI ((k : Int) + 1) := by unfold inI; omega
     have km2 : ((k : Int).tmod 2 = 1) = (k % 2 = 1) := by rw [Int.tmod_eq_emod_of_nonneg k0]; exact propext ⟨fun h => by omega, fun h => by omega⟩
     have hk1 : ((k + 1 : Nat) : Int) = (k : Int) + 1 := by omega
     have kb := hok k (by omega)
     unfold badE at kb
     rw [List.getD_eq_getElem?_getD, hxk] at kb
     simp only [Option.getD_some, Bool.or_eq_false_iff, decide_eq_false_iff_not, Bool.and_eq_false_iff, ne_eq, Decidable.not_not] at kb
     obtain ⟨kb1, kb2⟩ := kb
     by_cases hk0 : k = 0
     ·subst hk0
      have hodd : ¬ (0 % 2 = 1) := by decide
      rw [if_neg hodd] at kb1
      rw [Nat.zero_mul, List.drop_zero] at t1
      have kl0 : (0 : Int) < n := by omega
      have km0 : ¬ Int.tmod 0 2 = 1 := by decide
      have i10 : inI 1 := by unfold inI; omega
      simp only [kl, k0, kn, g1, ga, gb, gs, gd, gd0, hl1, t1, fl, c1, i1, eEv, hcZ, j3, km2, hk1, hodd, kb1, Int.natCast_zero, Nat.zero_mul, kl0, km0, i10, BL, simprocAttr]
     ·obtain ⟨y, hyk⟩ : ∃ y, S[k - 1]? = some y := ⟨_, List.getElem?_eq_getElem (by omega)⟩
      have t2 := flat_take (e := eEv) (k := 7) (fun _ => rfl) hyk
      have t3 : (List.drop ((k - 1) * 7 + 6) (S.map eEv).flatten).headD .u = .i y.min := head6 t2
      have kpos : (0 : Int) < k := by omega
      have km : ((k : Int) - 1).toNat = k - 1 := by omega
      have c2 : (k - 1) * 7 + 7 ≤ n * 7 := by omega
      have kl2 : (k : Int) - 1 < n := by omega
      have k02 : (0 : Int) ≤ (k : Int) - 1 := by omega
      have i2 : inI ((k : Int) - 1) := by unfold inI; omega
      rw [List.getD_eq_getElem?_getD, hyk] at kb2
      have kb3 : ¬ x.min = y.min := by
       rcases kb2 with h | h
       ·omega
       ·exact h
      by_cases hodd : k % 2 = 1
      ·rw [if_pos hodd] at kb1
       simp only [kl, k0, kn, g1, ga, gb, gs, gd, gd0, hl1, t1, fl, c1, i1, eEv, hcZ, j3, km2, hk1, hodd, kb1, kb3, kpos, km, c2, kl2, k02, i2, t2, t3, BL, simprocAttr]
      ·rw [if_neg hodd] at kb1
       simp only [kl, k0, kn, g1, ga, gb, gs, gd, gd0, hl1, t1, fl, c1, i1, eEv, hcZ, j3, km2, hk1, hodd, kb1, kb3, kpos, km, c2, kl2, k02, i2, t2, t3, BL, simprocAttr]
    ·obtain ⟨k, hk⟩ : ∃ k, k = nb := ⟨_, rfl⟩
     rw [← hk]
     rw [← hk] at hnb hbd
     obtain ⟨x, hxk⟩ : ∃ x, S[k]? = some x := ⟨_, List.getElem?_eq_getElem hnb⟩
     rw [hSn] at hnb
     have t1 := flat_take (e := eEv) (k := 7) (fun _ => rfl) hxk
     have fl : (S.map eEv).flatten.length = n * 7 := by rw [len_Ev, hSn]
     have c1 : k * 7 + 7 ≤ n * 7 := by omega
     have kl : (k : Int) < n := by omega
     have k0 : (0 : Int) ≤ k := by omega
     have kn : (k : Int).toNat = k := Int.toNat_natCast k
     have i1 : inI ((k : Int) + 1) := by unfold inI; omega
     have km2 : ((k : Int).tmod 2 = 1) = (k % 2 = 1) := by rw [Int.tmod_eq_emod_of_nonneg k0]; exact propext ⟨fun h => by omega, fun h => by omega⟩
     have kb := hbd
     unfold badE at kb
     rw [List.getD_eq_getElem?_getD, hxk] at kb
     simp only [Option.getD_some, Bool.or_eq_true, decide_eq_true_eq, Bool.and_eq_true, ne_eq] at kb
     by_cases hk0 : k = 0
     ·subst hk0
      have hodd : ¬ (0 % 2 = 1) := by decide
      rw [if_neg hodd] at kb
      have kb1 : ¬ x.sl.kind = 1 := by
       rcases kb with h | h
       ·exact h
       ·omega
      rw [Nat.zero_mul, List.drop_zero] at t1
      have kl0 : (0 : Int) < n := by omega
      have km0 : ¬ Int.tmod 0 2 = 1 := by decide
      have i10 : inI 1 := by unfold inI; omega
      simp only [kl, k0, kn, g1, ga, gb, gs, gd, gd0, hl1, t1, fl, c1, i1, eEv, hcZ, j3, km2, hodd, hop2, gq, kb1, Int.natCast_zero, Nat.zero_mul, kl0, km0, i10, BL, simprocAttr]
     ·obtain ⟨y, hyk⟩ : ∃ y, S[k - 1]? = some y := ⟨_, List.getElem?_eq_getElem (by omega)⟩
      have t2 := flat_take (e := eEv) (k := 7) (fun _ => rfl) hyk
      have t3 : (List.drop ((k - 1) * 7 + 6) (S.map eEv).flatten).headD .u = .i y.min := head6 t2
      have kpos : (0 : Int) < k := by omega
      have km : ((k : Int) - 1).toNat = k - 1 := by omega
      have c2 : (k - 1) * 7 + 7 ≤ n * 7 := by omega
      have kl2 : (k : Int) - 1 < n := by omega
      have k02 : (0 : Int) ≤ (k : Int) - 1 := by omega
      have i2 : inI ((k : Int) - 1) := by unfold inI; omega
      rw [List.getD_eq_getElem?_getD, hyk] at kb
      simp only [Option.getD_some] at kb
      by_cases hodd : k % 2 = 1
      ·rw [if_pos hodd] at kb
       by_cases kb1 : x.sl.kind = 2
       ·have kb3 : x.min = y.min := by
         rcases kb with h | h
         ·exact absurd kb1 h
         ·exact h.2
        simp only [kl, k0, kn, g1, ga, gb, gs, gd, gd0, hl1, t1, fl, c1, i1, eEv, hcZ, j3, km2, hodd, hop2, gq, kb1, kb3, kpos, km, c2, kl2, k02, i2, t2, t3, BL, simprocAttr]
       ·simp only [kl, k0, kn, g1, ga, gb, gs, gd, gd0, hl1, t1, fl, c1, i1, eEv, hcZ, j3, km2, hodd, hop2, gq, kb1, kpos, km, c2, kl2, k02, i2, t2, t3, BL, simprocAttr]
      ·rw [if_neg hodd] at kb
       by_cases kb1 : x.sl.kind = 1
       ·have kb3 : x.min = y.min := by
         rcases kb with h | h
         ·exact absurd kb1 h
         ·exact h.2
        simp only [kl, k0, kn, g1, ga, gb, gs, gd, gd0, hl1, t1, fl, c1, i1, eEv, hcZ, j3, km2, hodd, hop2, gq, kb1, kb3, kpos, km, c2, kl2, k02, i2, t2, t3, BL, simprocAttr]
       ·simp only [kl, k0, kn, g1, ga, gb, gs, gd, gd0, hl1, t1, fl, c1, i1, eEv, hcZ, j3, km2, hodd, hop2, gq, kb1, kpos, km, c2, kl2, k02, i2, t2, t3, BL, simprocAttr]
end Go.CS
set_option maxHeartbeats 4000000
namespace Go.CS
open Go.Fam Go.Proofs
open Go.C06 (Span eI eIs eSpan gI gR dI dI_eI spanE fnG fnG_ok fnG_at within take_succ_of idxOf idxOf_at idxOf_none idxOf_any flat_len chunk_flat map_vw_rows hasRefL_flat drop_cons chunk_I len_I vw_I noref_I hmix eLI dLI dLI_e ru_countE cutL_noref hasRefL_append upL_noref)
variable {Γ : Gam}
abbrev hpB (c : Ctr) (l : List Slip) (g : Nat) (L : List V) : List Blk := [.cells g (bookC c l L.length), .cells L.length L]
structure DB where
 c : Ctr
 l : List Slip
 ws : List Int
 g : Nat
 L : List V
def eAb4 (x : DB) : List V := eA134 x.g x.ws
def eHbk (x : DB) : List Blk := hpB x.c x.l x.g x.L
def dBk : List V → Ctr × List Slip
 | a :: b :: c :: d :: e :: f :: g :: h :: i :: j :: k :: .sl _ s :: _ => (dCtr [a, b, c, d, e, f, g, h, i, j, k], s.map dSlip)
 | _ => (⟨[], [], [], [], ⟨0, 0, 0, 0, 0, 0, 0⟩⟩, [])
theorem dBk_e (c : Ctr) (l : List Slip) (n : Nat) : dBk (bookC c l n) = (c, l) := by
 show (dCtr (eCtr c), (l.map eSlip).map dSlip) = _
 rw [dCtr_e, List.map_map]
 congr 1
 exact List.map_id'' (fun s => dSlip_e s) l
def dAb4 : List V → List Blk → DB
 | [.ad _ g _, .sl _ w], [.cells _ b, .cells _ L] => ⟨(dBk b).1, (dBk b).2, w.map dI, g, L⟩
 | _, _ => ⟨⟨[], [], [], [], ⟨0, 0, 0, 0, 0, 0, 0⟩⟩, [], [], 0, []⟩
theorem dIs (w : List Int) : (w.map eI).map dI = w := by rw [List.map_map]; exact List.map_id'' (fun s => dI_eI s) w
theorem dA4_e (x : DB) : dAb4 (eAb4 x) (eHbk x) = x := by
 obtain ⟨c, l, ws, g, L⟩ := x
 show DB.mk (dBk (bookC c l L.length)).1 (dBk (bookC c l L.length)).2 ((ws.map eI).map dI) g L = _
 rw [dBk_e, dIs]
def G134 (x : DB) : Prop := hasRefL x.L = false ∧ OkO x.ws x.l
def R134 (x : DB) (r : V) (hp' : List Blk) : Prop := r = opnV x.ws x.l ∧ hp' = hpB x.c x.l x.g x.L
noncomputable def K142 : Gam := K141.extH 62 (hpG eAb4 eHbk dAb4 G134 R134)
theorem okK142 : GOk Tryz.prog K142 :=
 okK141.extH (f := 62) Tryz.call62 fun xs hp => hpG_ok (fun x hx => ⟨fun r hp' hr y hy => absurd hy (by simp [eHbk, ghO]), X134 x.c x.l x.ws x.g x.L hx.1 hx.2⟩) xs hp
theorem x134 {x : DB} (h : G134 x) : K142.h 62 (eAb4 x) (eHbk x) = (True, R134 x) := by
 rw [show K142.h 62 (eAb4 x) (eHbk x) = hpG eAb4 eHbk dAb4 G134 R134 _ _ from rfl, hpG_at x (dA4_e x)]
 exact Prod.ext (propext ⟨fun _ => trivial, fun _ => h⟩) rfl
def spanW (s : Span) : List Int := (List.range (s.high - s.low + 1).toNat).map fun (i : Nat) => s.low + (i : Int)
def searchW (l : List Slip) : List Span → List Int → List (List Int)
 | [], ws => if openB ws l then [ws] else []
 | s :: rest, ws => (spanW s).flatMap fun w => searchW l rest (ws ++ [w])
def trsV (l : List Slip) (W : List (List Int)) : List V := W.map fun ws => truthV ws l
structure OkS (c : Ctr) (l : List Slip) : Prop where
 len : l.length ≤ 12
 cl : c.clerks.length ≤ 100
 umb : ∀ s ∈ l, 0 ≤ s.umb ∧ s.umb ≤ 9
 clk : ∀ s ∈ l, 0 ≤ s.clerk ∧ s.clerk < c.clerks.length
 atm : ∀ s ∈ l, 0 ≤ s.atm ∧ s.atm ≤ 1000000
 spn : ∀ s ∈ c.clerks, -1000 ≤ s.low ∧ s.high ≤ 1000
structure OkWs (c : Ctr) (ws : List Int) : Prop where
 len : ws.length ≤ c.clerks.length
 bnd : ∀ w ∈ ws, -1000 ≤ w ∧ w ≤ 1000
theorem OkS.open {c : Ctr} {l : List Slip} {ws : List Int} (h : OkS c l) (hw : OkWs c ws) (e : ws.length = c.clerks.length) : OkO ws l := by
 have hcl := h.cl
 refine ⟨h.len, by omega, h.umb, fun s hs => by rw [e]; exact h.clk s hs, fun s hs => ?_⟩
 have h1 := h.clk s hs
 have h2 := h.atm s hs
 obtain ⟨w, hw2⟩ : ∃ w, ws[s.clerk.toNat]? = some w := ⟨_, List.getElem?_eq_getElem (by omega)⟩
 have h3 := hw.bnd w (List.mem_of_getElem? hw2)
 rw [List.getD_eq_getElem?_getD, hw2]
 unfold inI
 simp only [Option.getD_some]
 omega
theorem truthV_noref (ws : List Int) (l : List Slip) : hasRef (truthV ws l) = false := rfl
theorem trsV_noref (l : List Slip) (W : List (List Int)) : hasRefL (trsV l W) = false := by
 induction W with
 | nil => rfl
 | cons a W ih => show (hasRef _ || hasRefL (trsV l W)) = false; rw [ih]; rfl
theorem vwTr (hp : List Blk) (n : Nat) (ws : List Int) (l : List Slip) : vw hp (n + 1) (truthV ws l) = truthV ws l := rfl
def R103 (x : DB) (r : V) (hp' : List Blk) : Prop := r = .tp [] ∧ hp' = hpB x.c x.l x.g (x.L ++ trsV x.l (searchW x.l (x.c.clerks.drop x.ws.length) x.ws))
structure C103 (k : Nat) (x : DB) : Prop where
 s : OkS x.c x.l
 w : OkWs x.c x.ws
 r : hasRefL x.L = false
 k : x.c.clerks.length < x.ws.length + k
 n : x.L.length + (searchW x.l (x.c.clerks.drop x.ws.length) x.ws).length ≤ 1000000
def eAb3 (x : DB) : List V := [.ad 0 x.g 0, .rf 2 0 0 x.ws.length 1]
def eHb3 (x : DB) : List Blk := hpB x.c x.l x.g x.L ++ [.cells 0 (x.ws.map V.i)]
def dAb3 : List V → List Blk → DB
 | [.ad _ g _, _], [.cells _ b, .cells _ L, .cells _ w] => ⟨(dBk b).1, (dBk b).2, w.map gI, g, L⟩
 | _, _ => ⟨⟨[], [], [], [], ⟨0, 0, 0, 0, 0, 0, 0⟩⟩, [], [], 0, []⟩
theorem dA3_e (x : DB) : dAb3 (eAb3 x) (eHb3 x) = x := by
 obtain ⟨c, l, ws, g, L⟩ := x
 show DB.mk (dBk (bookC c l L.length)).1 (dBk (bookC c l L.length)).2 ((ws.map V.i).map gI) g L = _
 rw [dBk_e, List.map_map, show ws.map (gI ∘ V.i) = ws from List.map_id'' (fun _ => rfl) ws]
def R103d (x : DB) (r : V) (hp : List Blk) : Prop := ∃ hp', R103 x r hp' ∧ hp = hp' ++ [.dead 1]
noncomputable def HS (k : Nat) : Gam := K142.extH 44 (hpG eAb3 eHb3 dAb3 (C103 k) (R103d))
theorem xHS {k : Nat} {x : DB} (h : C103 k x) : (HS k).h 44 (eAb3 x) (eHb3 x) = (True, R103d x) := by
 rw [show (HS k).h 44 (eAb3 x) (eHb3 x) = hpG eAb3 eHb3 dAb3 (C103 k) R103d _ _ from rfl, hpG_at x (dA3_e x)]
 exact Prod.ext (propext ⟨fun _ => trivial, fun _ => h⟩) rfl
theorem xHS4 {k : Nat} {x : DB} (h : G134 x) : (HS k).h 62 (eAb4 x) (eHbk x) = (True, R134 x) := x134 h
set_option maxHeartbeats 4000000 in
theorem X103 (k : Nat) (hG : GOk Tryz.prog (HS k)) (x : DB) (h : C103 (k + 1) x) : HeapCall Tryz.prog 44 (eAb4 x) (eHbk x) (R103 x) := by
 refine heap_body hG hmix Tryz.func44 cb44 cc44 cs44 (by exact cn44) (lo := 2) (by exact Nat.le_refl 2) (by decide) ?_
 obtain ⟨c, l, ws, g, L⟩ := x
 obtain ⟨hs, hw, hr, hk, hN⟩ := h
 simp only at hs hw hr hk hN
 have hwl := hw.len
 have hcl := hs.cl
 simp only [eAb4, eA134, eHbk, R103]
 by_cases e : ws.length = c.clerks.length
 ·have hx := xHS4 (k := k) (x := ⟨c, l, ws, g, L⟩) ⟨hr, hs.open hw e⟩
  have ei : (ws.length : Int) = (c.clerks.length : Int) := by omega
  have hd : c.clerks.drop ws.length = [] := List.drop_eq_nil_of_le (by omega)
  simp only [eAb4, eA134, eHbk, hpB, bookC, eCtr, List.cons_append, List.nil_append] at hx
  rw [hd]
  by_cases ho : openB ws l = true
  ·have e1 : searchW l [] ws = [ws] := by unfold searchW; rw [if_pos ho]
   have e2 : opnV ws l = .tp [truthV ws l, .b true] := by unfold opnV; rw [if_pos ho]
   rw [e1]
   simp only [rc44, rs44, hpB, bookC, eCtr, hx, R134, e2, ei, and_imp, forall_eq, ↓BU3, BL, simprocAttr]
   rintro r hp' rfl rfl
   obtain ⟨T, hT⟩ : ∃ T, truthV ws l = .pa T := ⟨_, rfl⟩
   have hT1 := truthV_noref ws l
   have hT2 := fun hp n => vwTr hp n ws l
   rw [hT] at hT1 hT2
   have hsg : ∀ r : List V, [r].flatten = r := fun r => by simp
   have hfl : fitsLen (L.length + 1) := by unfold fitsLen; omega
   simp only [trsV, hT, hT1, hT2, hsg, hfl, Nat.mul_one, List.length_append, ↓BU3, BL, simprocAttr]
  ·have e1 : searchW l [] ws = [] := by unfold searchW; rw [if_neg ho]
   have e2 : opnV ws l = .tp [.pn, .b false] := by unfold opnV; rw [if_neg ho]
   rw [e1]
   simp only [rc44, rs44, hpB, bookC, eCtr, hx, R134, e2, ei, and_imp, forall_eq, ↓BU3, BL, simprocAttr]
   rintro r hp' rfl rfl
   simp only [trsV, ↓BU3, BL, simprocAttr]
 ·have ei : ¬ (ws.length : Int) = (c.clerks.length : Int) := by omega
  obtain ⟨s, hsn⟩ : ∃ s, c.clerks[ws.length]? = some s := ⟨_, List.getElem?_eq_getElem (by omega)⟩
  have hrow : (c.clerks.map eSpan)[ws.length]? = some [.i s.low, .i s.high] := by rw [List.getElem?_map, hsn]; rfl
  have hlt : (ws.length : Int) < c.clerks.length := by omega
  have hn0 : (0 : Int) ≤ ws.length := by omega
  have hnn : (ws.length : Int).toNat = ws.length := Int.toNat_natCast _
  simp only [rc44, rs44, hpB, bookC, eCtr, ei, hrow, hlt, hn0, hnn, ↓BU3, BL, simprocAttr]
  obtain ⟨rest, hrest⟩ : ∃ rest, rest = c.clerks.drop (ws.length + 1) := ⟨_, rfl⟩
  have hdr : c.clerks.drop ws.length = s :: rest := by rw [hrest]; exact drop_cons hsn
  obtain ⟨F, hF⟩ : ∃ F : Int → List (List Int), F = fun w => searchW l rest (ws ++ [w]) := ⟨_, rfl⟩
  have hse : searchW l (s :: rest) ws = (spanW s).flatMap F := by rw [hF]; rfl
  have hsp := hs.spn s (List.mem_of_getElem? hsn)
  obtain ⟨m, hm⟩ : ∃ m, m = (spanW s).length := ⟨_, rfl⟩
  have hm2 : m = (s.high - s.low + 1).toNat := by rw [hm]; unfold spanW; rw [List.length_map, List.length_range]
  obtain ⟨Li, hLi⟩ : ∃ Li : Nat → List V, Li = fun i => L ++ trsV l (((spanW s).take i).flatMap F) := ⟨_, rfl⟩
  have hL0 : Li 0 = L := by rw [hLi]; simp [trsV]
  have hLm : Li m = L ++ trsV l ((spanW s).flatMap F) := by rw [hLi, hm]; simp only [List.take_length]
  have hLr : ∀ i, hasRefL (Li i) = false := fun i => by rw [hLi, hasRefL_append, hr, trsV_noref]; rfl
  rw [hdr, hse, ← hLm]
  refine ru_count m (fun i => ⟨lkp [(0, .ad 0 g 0), (1, .sl 1 (ws.map eI)), (4, .i ws.length), (7, .i (s.low + i))], hpB c l g (Li i)⟩) ?_ ?_ ?_
  ·simp only [Int.natCast_zero, Int.add_zero, hL0, hpB, bookC, eCtr, ↓BU3, BL, simprocAttr]
  ·intro i hi
   have hle : s.low + (i : Int) ≤ s.high := by omega
   have i1 : inI (s.low + (i : Int) + 1) := by unfold inI; omega
   have hw2 : OkWs c (ws ++ [s.low + (i : Int)]) := by
    refine ⟨by rw [List.length_append, List.length_singleton]; omega, fun w hw' => ?_⟩
    rcases List.mem_append.1 hw' with h | h
    ·exact hw.bnd w h
    ·cases List.mem_singleton.1 h; omega
   have hsi : (spanW s)[i]? = some (s.low + (i : Int)) := by
    unfold spanW
    rw [List.getElem?_map, List.getElem?_range (by omega)]; rfl
   have hdl : c.clerks.drop (ws ++ [s.low + (i : Int)]).length = rest := by rw [hrest, List.length_append]; rfl
   have hn : Li i ++ trsV l (searchW l (c.clerks.drop (ws ++ [s.low + (i : Int)]).length) (ws ++ [s.low + (i : Int)])) = Li (i + 1) := by
    rw [hdl, hLi, hF]
    simp only [take_succ_of hsi, List.flatMap_append, List.flatMap_cons, List.flatMap_nil, List.append_nil]
    unfold trsV
    rw [List.map_append, List.append_assoc]
   have hNi : (Li i).length + (searchW l (c.clerks.drop (ws ++ [s.low + (i : Int)]).length) (ws ++ [s.low + (i : Int)])).length ≤ 1000000 := by
    have e1 := congrArg List.length hn
    rw [List.length_append, show (trsV l (searchW l (c.clerks.drop (ws ++ [s.low + (i : Int)]).length) (ws ++ [s.low + (i : Int)]))).length = (searchW l (c.clerks.drop (ws ++ [s.low + (i : Int)]).length) (ws ++ [s.low + (i : Int)])).length from List.length_map ..] at e1
    rw [e1]
    have e2 : (Li (i + 1)).length + (trsV l (((spanW s).drop (i + 1)).flatMap F)).length = (Li m).length := by
     rw [hLm, hLi, ← List.length_append]
     congr 1
     simp only [List.append_assoc]
     congr 1
     unfold trsV
     rw [← List.map_append, ← List.flatMap_append, List.take_append_drop]
    have e3 : (Li m).length = L.length + ((spanW s).flatMap F).length := by rw [hLm, List.length_append]; congr 1; exact List.length_map ..
    rw [hdr, hse] at hN
    omega
   have hx := xHS (k := k) (x := ⟨c, l, ws ++ [s.low + (i : Int)], g, Li i⟩) ⟨hs, hw2, hLr i, by simp only [List.length_append, List.length_singleton]; omega, hNi⟩
   have hRd : R103d ⟨c, l, ws ++ [s.low + (i : Int)], g, Li i⟩ = fun r hp => r = .tp [] ∧ hp = hpB c l g (Li (i + 1)) ++ [.dead 1] := by
    funext r hp
    unfold R103d R103
    simp only [hn]
    exact propext ⟨fun ⟨hp', ⟨h1, h2⟩, h3⟩ => ⟨h1, by rw [h3, h2]⟩, fun ⟨h1, h2⟩ => ⟨_, ⟨h1, rfl⟩, h2⟩⟩
   rw [hRd] at hx
   have htk : (ws.map eI).take ws.length = ws.map eI := List.take_of_length_le (by rw [List.length_map]; exact Nat.le_refl _)
   have hsg : ∀ r : List V, [r].flatten = r := fun r => by simp
   simp only [eAb3, eHb3, hpB, bookC, eCtr, List.cons_append, List.nil_append, List.map_append, List.map_cons, List.map_nil, List.length_append, List.length_singleton] at hx
   simp only [hle, i1, hx, hpB, bookC, eCtr, hrow, hlt, hn0, hnn, htk, hsg, flat_Is, and_imp, ↓BU3, BL, simprocAttr]
   refine ⟨Int.le_refl _, by unfold fitsLen; omega, ?_⟩
   rintro r hp' _ rfl
   have hcL : ∀ H, cutL H 2 (Li (i + 1)) = Li (i + 1) := fun H => cutL_noref H 2 _ (hLr _)
   have hi1 : s.low + ((i + 1 : Nat) : Int) = s.low + (i : Int) + 1 := by omega
   simp only [hcL, hi1, ↓BU3, BL, simprocAttr]
  ·have hgt : ¬ s.low + (m : Int) ≤ s.high := by omega
   simp only [hgt, hpB, bookC, eCtr, hrow, hlt, hn0, hnn, ↓BU3, BL, simprocAttr]
mutual
theorem lowV_noref (n : Nat) : ∀ v : V, hasRef v = false → lowV n v = true
 | .ad _ _ _, h => by simp [hasRef] at h
 | .rf _ _ _ _ _, h => by simp [hasRef] at h
 | .mp _ _, h => by simp [hasRef] at h
 | .it _ _, h => by simp [hasRef] at h
 | .ag cs, h => by simp only [hasRef] at h; simp only [lowV, lowL_noref n cs h]
 | .tp cs, h => by simp only [hasRef] at h; simp only [lowV, lowL_noref n cs h]
 | .fn _ cs, h => by simp only [hasRef] at h; simp only [lowV, lowL_noref n cs h]
 | .gv _ v, h => by simp only [hasRef] at h; simp only [lowV, lowV_noref n v h]
 | .u, _ | .b _, _ | .i _, _ | .z _, _ | .sl _ _, _ | .sx _ _, _ | .pa _, _ | .pn, _ | .yl _, _ | .w _ _, _ | .pm _ _ _, _ | .fb _ _, _ => rfl
theorem lowL_noref (n : Nat) : ∀ vs : List V, hasRefL vs = false → lowL n vs = true
 | [], _ => rfl
 | v :: vs, h => by
  simp only [hasRefL, Bool.or_eq_false_iff] at h
  simp only [lowL, lowV_noref n v h.1, lowL_noref n vs h.2, Bool.and_self]
end
theorem X103m (k : Nat) (hG : GOk Tryz.prog (HS k)) (x : DB) (h : C103 (k + 1) x) : HeapCall Tryz.prog 44 (eAb3 x) (eHb3 x) (R103d x) := by
 refine HeapCall.frz [2] ?_ ?_ ?_
 ·have := Go.C06.noref_Is x.ws
  simp [eHb3, leafB, this]
 ·intro v hv
  simp only [eAb3, List.mem_cons, List.not_mem_nil, or_false] at hv
  rcases hv with rfl | rfl <;> simp [rids]
 ·have e1 : (eAb3 x).map (fzV (eHb3 x) [2]) = eAb4 x := by
   have hck : chunk 1 (x.ws.map V.i) 0 x.ws.length = x.ws.map eI := chunk_W _ rfl
   simp only [eAb3, eAb4, eA134, List.map_cons, List.map_nil, fzV, rids, List.any_cons, List.any_nil, List.mem_singleton]
   have e3 : vw (eHb3 x) 8 (.rf 2 0 0 x.ws.length 1) = .sl 1 (x.ws.map eI) := by
    rw [vw8, vw_rf]
    show (if 0 = 0 ∧ 0 + x.ws.length * 1 ≤ (x.ws.map V.i).length then V.sl 1 ((chunk 1 (x.ws.map V.i) 0 x.ws.length).map fun r => r.map (vw (eHb3 x) 7)) else .u) = _
    rw [hck, vw_I, if_pos ⟨rfl, by rw [List.length_map]; omega⟩]
   rw [e3]
   simp
  have e2 : [2].foldl killB (eHb3 x) = eHbk x ++ [.dead 1] := rfl
  rw [e1, e2]
  have hlw : lowL (eHbk x).length (eAb4 x) = true := rfl
  have hlb : ∀ b ∈ eHbk x, lowB (eHbk x).length b = true := by
   intro b hb
   simp only [eHbk, List.mem_cons, List.not_mem_nil, or_false] at hb
   rcases hb with rfl | rfl
   ·rfl
   ·exact lowL_noref 2 x.L h.r
  exact HeapCall.frame (X103 k hG x h) (fun r hp' hR => by rw [hR.2]; rfl) hlw hlb [.dead 1]
theorem okHS : ∀ k, GOk Tryz.prog (HS k) := by
 intro k
 induction k with
 | zero =>
  refine okK142.extH (f := 44) Tryz.call44 fun xs hp => hpG_ok (fun x hx => ?_) xs hp
  have h1 := hx.w.len
  have h2 := hx.k
  omega
 | succ k ih => exact okK142.extH (f := 44) Tryz.call44 fun xs hp => hpG_ok (fun x hx => ⟨fun r hp' _ y hy => (by simp [eHb3, ghO] at hy), X103m k ih x hx⟩) xs hp
end Go.CS
set_option maxHeartbeats 4000000
namespace Go.CS
open Go.Fam Go.Proofs
open Go.C06 (Span eI eIs eSpan gI gR dI dI_eI spanE fnG fnG_ok fnG_at within take_succ_of idxOf idxOf_at idxOf_none idxOf_any flat_len chunk_flat map_vw_rows hasRefL_flat drop_cons chunk_I len_I vw_I noref_I hmix eLI dLI dLI_e ru_countE cutL_noref hasRefL_append upL_noref)
variable {Γ : Gam}
def x46 (l : List Int) (n : Int) := lft K142 (K93h84 l n) rfl
def pVo (c : Ctr) (s : Slip) : Bool := decide (s.id ∈ c.voided)
theorem X102 (c : Ctr) (s : Slip) (h : c.voided.length < 10000000) : PureCall Tryz.prog 43 [.ag (eSlip s), .pa (eCtr c)] (.b (pVo c s)) := by
 refine pure_body okK142 hmix Tryz.func43 cb43 cc43 cs43 cn43 ?_
 have g := x46 c.voided s.id
 unfold pVo
 simp only [rc43, rs43, eSlip, eCtr, vw_I, g, h, BL, simprocAttr]
def e102 (a : Ctr × Slip) : List V := [.ag (eSlip a.2), .pa (eCtr a.1)]
def d102 : List V → Ctr × Slip | [.ag s, .pa c] => (dCtr c, dSlip s) | _ => (dCtr [], sl0)
theorem d102_e (a : Ctr × Slip) : d102 (e102 a) = a := by obtain ⟨a, x⟩ := a; simp [d102, e102, dCtr_e, dSlip_e]
noncomputable def K143 : Gam := K142.ext 43 (fnG e102 d102 (fun a => a.1.voided.length < 10000000) (fun a => pVo a.1 a.2) (.b))
theorem okK143 : GOk Tryz.prog K143 := okK142.ext (f := 43) Tryz.call43 (fnG_ok fun a h => X102 a.1 a.2 h)
theorem x102 (c : Ctr) (s : Slip) : K143 43 [.ag (eSlip s), .pa (eCtr c)] = (c.voided.length < 10000000, .b (pVo c s)) := (kx K143 43 (d102_e (c, s)) rfl :)
def e104 (a : Ctr × List Slip) : List V := [.sl 6 (a.2.map eSlip), .fn 43 [.pa (eCtr a.1)]]
def d104 : List V → Ctr × List Slip | [.sl _ l, .fn _ [.pa c]] => (dCtr c, l.map dSlip) | _ => (dCtr [], [])
theorem dSlips (l : List Slip) : (l.map eSlip).map dSlip = l := by rw [List.map_map]; exact List.map_id'' (fun s => dSlip_e s) l
theorem d104_e (a : Ctr × List Slip) : d104 (e104 a) = a := by obtain ⟨a, l⟩ := a; show (dCtr (eCtr a), (l.map eSlip).map dSlip) = _; rw [dCtr_e, dSlips]
def C104 (a : Ctr × List Slip) : Prop := a.1.voided.length < 10000000 ∧ a.2.length < 10000000
theorem vwCt (c : Ctr) : ([.pa (eCtr c)] : List V).map (vw [] 8) = [.pa (eCtr c)] := vwWr c
noncomputable def K144 : Gam := K143.ext 61 (fnG e104 d104 (C104) (fun a => idxOf (pVo a.1) a.2) (.i))
theorem okK144 : GOk Tryz.prog K144 := okK143.ext (f := 61) Tryz.call61 (fnG_ok fun a h => XP104 okK143 a.2 43 (by decide) [.pa (eCtr a.1)] (pVo a.1) (fun _ => a.1.voided.length < 10000000) (fun _ _ => h.1) (vwCt a.1) rfl h.2 fun x _ => x102 a.1 x)
theorem x104 (c : Ctr) (l : List Slip) : K144 61 [.sl 6 (l.map eSlip), .fn 43 [.pa (eCtr c)]] = (C104 (c, l), .i (idxOf (pVo c) l)) := (kx K144 61 (d104_e (c, l)) rfl :)
def C101 (a : Ctr × List Slip) : Prop := C104 a ∧ ∀ s ∈ a.2, pVo a.1 s = false
theorem X101 (c : Ctr) (l : List Slip) (h : C101 (c, l)) : PureCall Tryz.prog 42 [.sl 6 (l.map eSlip), .fn 43 [.pa (eCtr c)]] (.sl 6 (l.map eSlip)) := by
 refine pure_body okK144 hmix Tryz.func42 cb42 cc42 cs42 cn42 ?_
 have g := x104 c l
 rw [idxOf_none h.2] at g
 have h1 := h.1
 have hv := vwCt c
 simp only [List.map_cons, List.map_nil, List.cons.injEq, and_true] at hv
 simp only [rc42, rs42, hv, g, h1, vw_Slp, BL, simprocAttr]
noncomputable def K145 : Gam := K144.ext 42 (fnG e104 d104 (C101) (fun a => a.2) ((fun l => .sl 6 (l.map eSlip))))
theorem okK145 : GOk Tryz.prog K145 := okK144.ext (f := 42) Tryz.call42 (fnG_ok fun a h => X101 a.1 a.2 h)
theorem x101 (c : Ctr) (l : List Slip) : K145 42 [.sl 6 (l.map eSlip), .fn 43 [.pa (eCtr c)]] = (C101 (c, l), .sl 6 (l.map eSlip)) := (kx K145 42 (d104_e (c, l)) rfl :)
def pLe (n : Int) (s : Slip) : Bool := decide (s.id = n) && decide (s.kind = 1)
theorem X71 (n : Int) (s : Slip) : PureCall Tryz.prog 50 [.ag (eSlip s), .pa [.i n]] (.b (pLe n s)) := by
 refine pure_body okK145 hmix Tryz.func50 cb50 cc50 cs50 cn50 ?_
 unfold pLe
 by_cases e1 : s.id = n
 ·by_cases e2 : s.kind = 1 <;> simp only [rc50, rs50, eSlip, e1, e2, BL, simprocAttr]
 ·simp only [rc50, rs50, eSlip, e1, BL, simprocAttr]
def e71 (a : Int × Slip) : List V := [.ag (eSlip a.2), .pa [.i a.1]]
def d71 : List V → Int × Slip | [.ag s, .pa [.i n]] => (n, dSlip s) | _ => (0, sl0)
theorem d71_e (a : Int × Slip) : d71 (e71 a) = a := rfl
noncomputable def K146 : Gam := K145.ext 50 (fnG e71 d71 (fun _ => True) (fun a => pLe a.1 a.2) (.b))
theorem okK146 : GOk Tryz.prog K146 := okK145.ext (f := 50) Tryz.call50 (fnG_ok fun a h => X71 a.1 a.2)
theorem x71 (n : Int) (s : Slip) : K146 50 [.ag (eSlip s), .pa [.i n]] = (True, .b (pLe n s)) := (kx K146 50 (d71_e (n, s)) rfl :)
def e70 (a : Int × List Slip) : List V := [.sl 6 (a.2.map eSlip), .fn 50 [.pa [.i a.1]]]
def d70 : List V → Int × List Slip | [.sl _ l, .fn _ [.pa [.i n]]] => (n, l.map dSlip) | _ => (0, [])
theorem d70_e (a : Int × List Slip) : d70 (e70 a) = a := by obtain ⟨n, l⟩ := a; show (n, (l.map eSlip).map dSlip) = _; rw [dSlips]
noncomputable def K147 : Gam := K146.ext 61 (fnG e70 d70 (fun a => a.2.length < 10000000) (fun a => idxOf (pLe a.1) a.2) (.i))
theorem okK147 : GOk Tryz.prog K147 := okK146.ext (f := 61) Tryz.call61 (fnG_ok fun a h => XP104 okK146 a.2 50 (by decide) [.pa [.i a.1]] (pLe a.1) (fun _ => True) (fun _ _ => trivial) rfl rfl h fun x _ => x71 a.1 x)
theorem x104b (n : Int) (l : List Slip) : K147 61 [.sl 6 (l.map eSlip), .fn 50 [.pa [.i n]]] = (l.length < 10000000, .i (idxOf (pLe n) l)) := (kx K147 61 (d70_e (n, l)) rfl :)
theorem X70 (n : Int) (l : List Slip) (h : l.length < 10000000) : PureCall Tryz.prog 49 [.sl 6 (l.map eSlip), .fn 50 [.pa [.i n]]] (.b (l.any (pLe n))) := by
 refine pure_body okK147 hmix Tryz.func49 cb49 cc49 cs49 cn49 ?_
 have g := x104b n l
 have q := idxOf_any (pLe n) l
 generalize idxOf (pLe n) l = r at *
 generalize l.any (pLe n) = r2 at *
 simp only [rc49, rs49, g, h, q, vw_Slp, BL, simprocAttr]
noncomputable def K148 : Gam := K147.ext 49 (fnG e70 d70 (fun a => a.2.length < 10000000) (fun a => a.2.any (pLe a.1)) (.b))
theorem okK148 : GOk Tryz.prog K148 := okK147.ext (f := 49) Tryz.call49 (fnG_ok fun a h => X70 a.1 a.2 h)
theorem x70 (n : Int) (l : List Slip) : K148 49 [.sl 6 (l.map eSlip), .fn 50 [.pa [.i n]]] = (l.length < 10000000, .b (l.any (pLe n))) := (kx K148 49 (d70_e (n, l)) rfl :)
def bk0 (c : Ctr) (l : List Slip) : List V := eCtr c ++ [.sl 6 (l.map eSlip), .sl 1 []]
theorem X69 (c : Ctr) (l : List Slip) (n : Int) (h : l.length < 10000000) : PureCall Tryz.prog 48 [.pa (bk0 c l), .pa [.i n]] (.b (l.any (pLe n))) := by
 refine pure_body okK148 hmix Tryz.func48 cb48 cc48 cs48 cn48 ?_
 have g := x70 n l
 simp only [rc48, rs48, bk0, eCtr, g, h, vw_Slp, BL, simprocAttr]
def e69 (a : (Ctr × List Slip) × Int) : List V := [.pa (bk0 a.1.1 a.1.2), .pa [.i a.2]]
def d69 : List V → (Ctr × List Slip) × Int | [.pa b, .pa [.i n]] => (dBk b, n) | _ => ((dCtr [], []), 0)
theorem dBk0 (c : Ctr) (l : List Slip) : dBk (bk0 c l) = (c, l) := by
 show (dCtr (eCtr c), (l.map eSlip).map dSlip) = _
 rw [dCtr_e, dSlips]
theorem d69_e (a : (Ctr × List Slip) × Int) : d69 (e69 a) = a := by obtain ⟨⟨c, l⟩, n⟩ := a; show (dBk (bk0 c l), n) = _; rw [dBk0]
noncomputable def K149 : Gam := K148.ext 48 (fnG e69 d69 (fun a => a.1.2.length < 10000000) (fun a => a.1.2.any (pLe a.2)) (.b))
theorem okK149 : GOk Tryz.prog K149 := okK148.ext (f := 48) Tryz.call48 (fnG_ok fun a h => X69 a.1.1 a.1.2 a.2 h)
theorem x69 (c : Ctr) (l : List Slip) (n : Int) : K149 48 [.pa (bk0 c l), .pa [.i n]] = (l.length < 10000000, .b (l.any (pLe n))) := (kx K149 48 (d69_e ((c, l), n)) rfl :)
theorem HeapCall.z {P : Program} {f : FuncId} {a : V} {hp : List Blk} {R : V → List Blk → Prop} (h : HeapCall P f [a, .sl 1 []] hp R) : HeapCall P f [a, .z 1] hp R := by
 intro S w O cargs hm hsz hr
 refine h S w O cargs hm hsz ?_
 match hc : cargs.toList, hr with
 | [c1, c2], hr =>
  simp only [RepL, Rep, and_true] at hr ⊢
  obtain ⟨h1, x, rfl⟩ := hr
  exact ⟨h1, x, 0, rfl, Nat.le_refl _, .inl trivial⟩
 | [c1], hr => simp [RepL] at hr
 | [], hr => simp [RepL] at hr
 | c1 :: c2 :: c3 :: cs, hr =>
  have := congrArg List.length hc
  simp at this
  simp at hsz
  omega
def eA03 (_ : Ctr × List Slip) : List V := [.ad 0 0 0, .z 1]
def eH03 (x : Ctr × List Slip) : List Blk := hpB x.1 x.2 0 []
def dA03 : List V → List Blk → Ctr × List Slip
 | _, [.cells _ b, _] => dBk b
 | _, _ => (dCtr [], [])
theorem dA03_e (x : Ctr × List Slip) : dA03 (eA03 x) (eH03 x) = x := dBk_e x.1 x.2 0
def C03 (x : Ctr × List Slip) : Prop := OkS x.1 x.2 ∧ (searchW x.2 x.1.clerks []).length ≤ 1000000
def R03 (x : Ctr × List Slip) (r : V) (hp : List Blk) : Prop := r = .tp [] ∧ hp = hpB x.1 x.2 0 (trsV x.2 (searchW x.2 x.1.clerks []))
theorem X103z (x : Ctr × List Slip) (h : C03 x) : HeapCall Tryz.prog 44 (eA03 x) (eH03 x) (R03 x) :=
 HeapCall.z (X103 (x.1.clerks.length) (okHS _) ⟨x.1, x.2, [], 0, []⟩ ⟨h.1, ⟨Nat.zero_le _, fun _ hw => nomatch hw⟩, rfl, by show x.1.clerks.length < 0 + (x.1.clerks.length + 1); omega, by show 0 + _ ≤ _; rw [Nat.zero_add]; exact h.2⟩)
noncomputable def K150 : Gam := K149.extH 44 (hpG eA03 eH03 dA03 C03 R03)
theorem okK150 : GOk Tryz.prog K150 :=
 okK149.extH (f := 44) Tryz.call44 fun xs hp => hpG_ok (fun x hx => ⟨fun r hp' _ y hy => absurd hy (by simp [eH03, ghO]), X103z x hx⟩) xs hp
theorem x103 {x : Ctr × List Slip} (h : C03 x) : K150.h 44 (eA03 x) (eH03 x) = (True, R03 x) := by
 rw [show K150.h 44 (eA03 x) (eH03 x) = hpG eA03 eH03 dA03 C03 R03 _ _ from rfl, hpG_at x (dA03_e x)]
 exact Prod.ext (propext ⟨fun _ => trivial, fun _ => h⟩) rfl
end Go.CS
set_option maxHeartbeats 4000000
namespace Go.CS
open Go.Fam Go.Proofs
open Go.C06 (Span eI eIs eSpan gI gR dI dI_eI spanE fnG fnG_ok fnG_at within take_succ_of idxOf idxOf_at idxOf_none idxOf_any flat_len chunk_flat map_vw_rows hasRefL_flat drop_cons chunk_I len_I vw_I noref_I hmix eLI dLI dLI_e ru_countE cutL_noref hasRefL_append upL_noref)
variable {Γ : Gam}
structure RdOk (c : Ctr) (n : Int) (l : List Slip) (W : List (List Int)) : Prop where
 small : SmallCt c
 err : ctrE c = 0
 on : OkOn c.slips
 once : onceV (onceN c.slips) = .tp [.sl 6 (l.map eSlip), .b true]
 vo : C101 (c, l)
 s : OkS c l
 is : l.any (pLe n) = true
 w : searchW l c.clerks [] = W
 w0 : W ≠ []
 wn : W.length ≤ 1000000
def trR (l : List Slip) (W : List (List Int)) : List (List V) := W.map fun ws => [truthV ws l]
def bookV (c : Ctr) (l : List Slip) (W : List (List Int)) : V := .pa (eCtr c ++ [.sl 6 (l.map eSlip), .sl 1 (trR l W)])
def e68 (c : Ctr) (n : Int) : List V := [.ag (eCtr c), .fn 48 [.pa [.i n]]]
def k99 (c : Ctr) := lft K150 (x99 c) rfl
def k100 (l : List Slip) := lft K150 (x100 l) rfl
def k101 (c : Ctr) (l : List Slip) := lft K150 (x101 c l) rfl
def k69 (c : Ctr) (l : List Slip) (n : Int) := lft K150 (x69 c l n) rfl
theorem chunk1_map (f : List Int → V) (W : List (List Int)) : chunk 1 (W.map f) 0 W.length = W.map fun ws => [f ws] := by
 have := chunk_flat (e := fun ws => [f ws]) (k := 1) (fun _ => rfl) W
 have e : (W.map fun ws => [f ws]).flatten = W.map f := by
  clear this
  induction W with
  | nil => rfl
  | cons a W ih => simp only [List.map_cons, List.flatten_cons, ih]; rfl
 rw [e] at this
 exact this
set_option maxHeartbeats 4000000 in
theorem X68 (c : Ctr) (n : Int) (l : List Slip) (W : List (List Int)) (h : RdOk c n l W) : PureCall Tryz.prog 19 (e68 c n) (.tp [bookV c l W, .i 0]) := by
 refine pure_body okK150 hmix Tryz.func19 cb19 cc19 cs19 cn19 ?_
 have g1 := k99 c
 have g2 := k100 c.slips
 have g3 := k101 c l
 have g4 := k69 c l n
 have g5 := x103 (x := (c, l)) ⟨h.s, by rw [h.w]; exact h.wn⟩
 have h1 := h.small
 have h2 := h.err
 have h3 := h.on
 have h4 := h.once
 have h5 := h.vo
 have h6 := h.is
 have h7 : l.length < 10000000 := by have := h.s.len; omega
 have hv := vwCt c
 have hwl : W.length ≠ 0 := fun e => h.w0 (List.eq_nil_of_length_eq_zero e)
 have hw := h.w
 rw [h2] at g1
 rw [h4] at g2
 rw [h6] at g4
 have hR : R03 (c, l) = fun r hp => r = .tp [] ∧ hp = hpB c l 0 (trsV l W) := by funext r hp; unfold R03; rw [hw]
 rw [hR] at g5
 simp only [List.map_cons, List.map_nil, List.cons.injEq, and_true] at hv
 simp only [eCtr] at g1 g3 hv
 simp only [bk0, eCtr, List.cons_append, List.nil_append] at g4
 simp only [eA03, eH03, hpB, bookC, eCtr, List.cons_append, List.nil_append, List.length_nil] at g5
 simp only [e68, rc19, rs19, eCtr, g1, h1, g2, h3, g3, h5, g4, h7, g5, hv, vw_Slp, vw_Spn, vw_I, and_imp, BL, simprocAttr]
 rintro r hp' rfl rfl
 have ht : (trsV l W).length = W.length := List.length_map ..
 simp only [ht, BL, simprocAttr]
 refine ⟨fun e => absurd e (by omega), fun _ => ?_⟩
 rw [if_pos (by omega)]
 unfold trsV
 rw [chunk1_map]
 simp only [List.map_map, Function.comp_def, List.map_cons, List.map_nil, vwTr]
 rfl
def bookL (c : Ctr) : List Slip := match onceN c.slips with | some m => slipsM m | none => []
def bookW (c : Ctr) : List (List Int) := searchW (bookL c) c.clerks []
def d68 : List V → Ctr × Int | [.ag c, .fn _ [.pa [.i n]]] => (dCtr c, n) | _ => (dCtr [], 0)
theorem d68_e (a : Ctr × Int) : d68 (e68 a.1 a.2) = a := by obtain ⟨c, n⟩ := a; show (dCtr (eCtr c), n) = _; rw [dCtr_e]
def C68 (a : Ctr × Int) : Prop := RdOk a.1 a.2 (bookL a.1) (bookW a.1)
noncomputable def K151 : Gam := K150.ext 19 (fnG (fun a : Ctr × Int => e68 a.1 a.2) d68 (C68) (fun a => bookV a.1 (bookL a.1) (bookW a.1)) ((fun v => .tp [v, .i 0])))
theorem okK151 : GOk Tryz.prog K151 := okK150.ext (f := 19) Tryz.call19 (fnG_ok fun a h => X68 a.1 a.2 (bookL a.1) (bookW a.1) h)
theorem x68 (c : Ctr) (n : Int) : K151 19 [.ag (eCtr c), .fn 48 [.pa [.i n]]] = (C68 (c, n), .tp [bookV c (bookL c) (bookW c), .i 0]) := (kx K151 19 (d68_e (c, n)) rfl :)
end Go.CS
set_option maxHeartbeats 4000000
namespace Go.CS
open Go.Fam Go.Proofs
open Go.C06 (Span eI eIs eSpan gI gR dI dI_eI spanE fnG fnG_ok fnG_at within take_succ_of idxOf idxOf_at idxOf_none idxOf_any flat_len chunk_flat map_vw_rows hasRefL_flat drop_cons chunk_I len_I vw_I noref_I hmix eLI dLI dLI_e ru_countE cutL_noref hasRefL_append upL_noref)
variable {Γ : Gam}
def k106 (c : Ctr) (a b : Int) := lft K151 (x106 c a b) rfl
def pairsE : List Ev → List (Ev × Ev) | a :: b :: r => (a, b) :: pairsE r | _ => []
def yP (x : Slip × Int) : List V := [.ag (eSlip x.1), .i x.2]
def hiP (c : Ctr) (p : Ev × Ev) : Slip × Int := (p.1.sl, openM c p.1.min p.2.min)
def hiresQ (c : Ctr) (ws : List Int) (l : List Slip) (u : Nat) : List (Slip × Int) := ((List.range 10).drop u).flatMap fun u => (pairsE (evS ws l u)).map (hiP c)
def encH (x : Slip × Int) : List V := gyE (yP x) []
def gH (T B : List V) (y : Nat) (bv : List V) (q : List (Slip × Int)) : List Blk := .gh [.yl y, .pa T, .pa B] (some ((.b true :: bv) :: q.map encH)) :: bv.map vB
structure HirOk (c : Ctr) (ws : List Int) (l : List Slip) : Prop where
 len : ∀ u, (evS ws l u).length ≤ 12
 op : ∀ u, ∀ p ∈ pairsE (evS ws l u), OkOp c p.1.min p.2.min
theorem pairsE_step {L : List Ev} {i : Nat} {a b : Ev} (ha : L[2 * i]? = some a) (hb : L[2 * i + 1]? = some b) : pairsE (L.drop (2 * i)) = (a, b) :: pairsE (L.drop (2 * (i + 1))) := by
 rw [drop_cons ha, drop_cons hb]; rfl
theorem pairsE_end {L : List Ev} {i : Nat} (h : ¬ 2 * i + 1 < L.length) : pairsE (L.drop (2 * i)) = [] := by
 match hd : L.drop (2 * i) with
 | [] => rfl
 | [a] => rfl
 | a :: b :: r =>
  have := congrArg List.length hd
  rw [List.length_drop] at this
  simp only [List.length_cons] at this
  omega
theorem pairsE_mem {L : List Ev} : ∀ {i : Nat} {a b : Ev}, L[2 * i]? = some a → L[2 * i + 1]? = some b → (a, b) ∈ pairsE L := by
 induction L using pairsE.induct with
 | case1 x y r ih =>
  intro i a b ha hb
  cases i with
  | zero =>
   simp at ha hb
   subst ha; subst hb
   exact List.mem_cons_self ..
  | succ i =>
   refine List.mem_cons_of_mem _ (ih (i := i) ?_ ?_)
   ·rw [show 2 * (i + 1) = 2 * i + 1 + 1 by omega] at ha
    simpa using ha
   ·rw [show 2 * (i + 1) + 1 = 2 * i + 1 + 1 + 1 by omega] at hb
    simpa using hb
 | case2 L hL =>
  intro i a b ha hb
  exfalso
  match L, hL with
  | [], _ => simp at ha
  | [x], _ =>
   have := (List.getElem?_eq_some_iff.1 hb).1
   simp at this
  | x :: y :: r, hL => exact hL x y r rfl
set_option maxHeartbeats 4000000 in
theorem X105 (al : List V → Prop) (c : Ctr) (l : List Slip) (W : List (List Int)) (ws : List Int) (h : HirOk c ws l) (y : Nat) (b1 b2 : V) (hal : al [b1, b2]) (hone : OkAl al) :
  YCall Tryz.prog 57 al [.yl y, .pa [truthV ws l], .pa [bookV c l W]] (gH [truthV ws l] [bookV c l W] y [b1, b2] (hiresQ c ws l 0)) (Go.C06.RIt al [.yl y, .pa [truthV ws l], .pa [bookV c l W]]) := by
 refine yfun_body (okK151.wal al) hmix Tryz.func57 cb57 (lo := 3) cc57 cs57 (by exact cn57) (by rfl) (by decide) ?_
 have hyal : (K151.wal al).al = al := rfl
 have hcb : ∀ c1 c2, al [c1, c2] → (∀ hp, cutB hp 3 (vB c1) = vB c1) ∧ ∀ hp, cutB hp 3 (vB c2) = vB c2 := fun c1 c2 h => ⟨fun hp => (hone.2 c1 c2 hp h).1, fun hp => (hone.2 c1 c2 hp h).2⟩
 unfold gH
 obtain ⟨Z, hZ⟩ : ∃ Z : List V, Z = (List.range 10).map fun u => .sl 7 ((evS ws l u).map eEv) := ⟨_, rfl⟩
 have hZl : Z.length = 10 := by rw [hZ]; rfl
 have hZt : Z.take 10 = Z := List.take_of_length_le (by omega)
 have hZd : ∀ u, u < 10 → (Z.drop u).headD .u = .sl 7 ((evS ws l u).map eEv) := by
  intro u hu
  rw [List.headD_eq_head?_getD, List.head?_drop, hZ, List.getElem?_map, List.getElem?_range hu]; rfl
 obtain ⟨T, hT⟩ : ∃ T : List V, T = [truthV ws l] := ⟨_, rfl⟩
 obtain ⟨B, hB⟩ : ∃ B : List V, B = [bookV c l W] := ⟨_, rfl⟩
 have hT0 : T = [.pa (.sl 1 (ws.map eI) :: Z)] := by rw [hT, hZ]; rfl
 rw [← hT, ← hB]
 have h10 : 10 ≤ Z.length := by omega
 simp only [rc57, rs57, hyal, hT0, hZt, hZl, h10, BL, simprocAttr]
 refine ru_countE 10 (fun j (v : V × V) => ⟨lkp [(0, .yl y), (2, .pa B), (10, .ag Z), (11, .i j)], [.gh [.yl y, .pa T, .pa B] (some ((.b true :: [v.1, v.2]) :: (hiresQ c ws l j).map encH)), vB v.1, vB v.2]⟩) (fun j v => al [v.1, v.2]) (b1, b2) ?_ hal ?_ ?_
 ·simp only [Int.natCast_zero, hT0, BL, simprocAttr]
 ·rintro j ⟨c1', c2'⟩ hj hc
  simp only at hc
  have hjl : (j : Int) < 10 := by omega
  have hj0 : (0 : Int) ≤ j := by omega
  have hjl2 : (j : Int) < ((10 : Nat) : Int) := by omega
  have hjn : (j : Int).toNat = j := Int.toNat_natCast j
  have ij : inI ((j : Int) + 1) := by unfold inI; omega
  have hz := hZd j hj
  obtain ⟨L, hL⟩ : ∃ L, L = evS ws l j := ⟨_, rfl⟩
  have hLl : L.length ≤ 12 := by rw [hL]; exact h.len j
  have hys : hiresQ c ws l j = (pairsE (L.drop (2 * 0))).map (hiP c) ++ hiresQ c ws l (j + 1) := by
   unfold hiresQ
   rw [drop_cons (List.getElem?_range hj), List.flatMap_cons, hL]; rfl
  rw [hys]
  rw [← hL] at hz
  simp only [hjl, hjl2, hj0, hjn, hz, hZl, BL, simprocAttr]
  refine ru_countE (L.length / 2) (fun i (v : V × V) => ⟨lkp [(0, .yl y), (2, .pa B), (5, .sl 7 (L.map eEv)), (6, .i ((2 * i : Nat) : Int)), (10, .ag Z), (11, .i j)], [.gh [.yl y, .pa T, .pa B] (some ((.b true :: [v.1, v.2]) :: ((pairsE (L.drop (2 * i))).map (hiP c) ++ hiresQ c ws l (j + 1)).map encH)), vB v.1, vB v.2]⟩) (fun i v => al [v.1, v.2]) (c1', c2') ?_ hc ?_ ?_
  ·simp only [Nat.mul_zero, Int.natCast_zero, BL, simprocAttr]
  ·rintro i ⟨d1, d2⟩ hi hd
   simp only at hd
   obtain ⟨a, ha⟩ : ∃ a, L[2 * i]? = some a := ⟨_, List.getElem?_eq_getElem (by omega)⟩
   obtain ⟨b, hb⟩ : ∃ b, L[2 * i + 1]? = some b := ⟨_, List.getElem?_eq_getElem (by omega)⟩
   have hp := pairsE_step ha hb
   have hop : OkOp c a.min b.min := by
    have hm := pairsE_mem ha hb
    rw [hL] at hm
    exact h.op j _ hm
   have ra : (L.map eEv)[2 * i]? = some (eEv a) := by rw [List.getElem?_map, ha]; rfl
   have rb : (L.map eEv)[2 * i + 1]? = some (eEv b) := by rw [List.getElem?_map, hb]; rfl
   have c1 : ((2 * i : Nat) : Int) + 1 < L.length := by omega
   have c2 : inI (((2 * i : Nat) : Int) + 1) := by unfold inI; omega
   have c3 : (((2 * i : Nat) : Int)).toNat = 2 * i := Int.toNat_natCast _
   have c4 : (((2 * i : Nat) : Int) + 1).toNat = 2 * i + 1 := by omega
   have c5 : (0 : Int) ≤ ((2 * i : Nat) : Int) := by omega
   have c6 : (0 : Int) ≤ ((2 * i : Nat) : Int) + 1 := by omega
   have c7 : ((2 * i : Nat) : Int) < L.length := by omega
   have c8 : inI (((2 * i : Nat) : Int) + 2) := by unfold inI; omega
   have c9 : ((2 * (i + 1) : Nat) : Int) = ((2 * i : Nat) : Int) + 2 := by omega
   have g := (show (K151.wal al) 58 [.ag (eCtr c), .i a.min, .i b.min] = (OkOp c a.min b.min, .i (openM c a.min b.min)) from k106 c a.min b.min)
   rw [hp]
   simp only [eCtr] at g
   simp only [c1, c2, c3, c4, c5, c6, c7, c8, ra, rb, hB, bookV, eCtr, eEv, g, hop, hyal, hiP, yP, encH, gyE, eSlip, BL, simprocAttr]
   rintro b bv' hbv
   obtain ⟨d3, d4, rfl⟩ := hone.1 bv' hbv
   refine ⟨fun hb => ?_, fun hb => ?_⟩
   ·subst hb
    rw [hT0]
    exact ⟨false, [d3, d4], [], [], by simp, by simp, hbv⟩
   ·subst hb
    refine ⟨(d3, d4), hbv, ?_⟩
    simp only [c8, c9, hB, bookV, eCtr, BL, simprocAttr]
  ·rintro ⟨d1, d2⟩ hd
   simp only at hd
   have hend := pairsE_end (L := L) (i := L.length / 2) (by omega)
   have c1 : ¬ (((2 * (L.length / 2) : Nat) : Int) + 1 < L.length) := by omega
   have c2 : inI (((2 * (L.length / 2) : Nat) : Int) + 1) := by unfold inI; omega
   rw [hend]
   simp only [c1, c2, ij, Int.natCast_add, Int.natCast_one, BL, simprocAttr]
   exact ⟨(d1, d2), hd, rfl⟩
 ·rintro ⟨c1', c2'⟩ hc
  simp only at hc
  have hlt : ¬ (((10 : Nat) : Int) < 10) := by omega
  have e : hiresQ c ws l 10 = [] := rfl
  simp only [hlt, e, BL, simprocAttr]
  rw [hT0]
  exact ⟨true, [c1', c2'], [], [], by simp, fun _ => rfl, hc⟩
end Go.CS
set_option maxHeartbeats 4000000
namespace Go.CS
open Go.Fam Go.Proofs
open Go.C06 (Span eI eIs eSpan gI gR dI dI_eI spanE fnG fnG_ok fnG_at within take_succ_of idxOf idxOf_at idxOf_none idxOf_any flat_len chunk_flat map_vw_rows hasRefL_flat drop_cons chunk_I len_I vw_I noref_I hmix eLI dLI dLI_e ru_countE cutL_noref hasRefL_append upL_noref)
variable {Γ : Gam}
set_option maxRecDepth 20000
def dTr : V → List Int | .pa (.sl _ w :: _) => w.map dI | _ => []
theorem dTr_e (ws : List Int) (l : List Slip) : dTr (truthV ws l) = ws := dIs ws
def dBV : V → (Ctr × List Slip) × List (List Int)
 | .pa b => (dBk b, match b.drop 12 with | .sl _ r :: _ => r.map fun r => dTr (r.headD .u) | _ => [])
 | _ => ((dCtr [], []), [])
theorem dBV_e (c : Ctr) (l : List Slip) (W : List (List Int)) : dBV (bookV c l W) = ((c, l), W) := by
 show ((dCtr (eCtr c), (l.map eSlip).map dSlip), (trR l W).map fun r => dTr (r.headD .u)) = _
 rw [dCtr_e, dSlips, trR, List.map_map]
 congr 1
 exact List.map_id'' (fun ws => dTr_e ws l) W
abbrev D105 := ((Ctr × List Slip) × List (List Int)) × List Int
def e105 (a : D105) : List V := [.pa [truthV a.2 a.1.1.2], .pa [bookV a.1.1.1 a.1.1.2 a.1.2]]
def d105 : List V → D105 | [.pa [t], .pa [b]] => (dBV b, dTr t) | _ => (dBV .u, [])
theorem d105_e (a : D105) : d105 (e105 a) = a := by
 obtain ⟨⟨⟨c, l⟩, W⟩, ws⟩ := a
 show (dBV (bookV c l W), dTr (truthV ws l)) = _
 rw [dBV_e, dTr_e]
def tH (al : List V → Prop) (xs : List V) (hp : List Blk) : Prop × (V → List Blk → Prop) :=
 (∃ c l W ws y bv, HirOk c ws l ∧ al bv ∧ OkAl al ∧ xs = [.yl y, .pa [truthV ws l], .pa [bookV c l W]] ∧ hp = gH [truthV ws l] [bookV c l W] y bv (hiresQ c ws l 0),
  fun r hp => ∃ y T B, xs = [.yl y, .pa T, .pa B] ∧ Go.C06.RIt al [.yl y, .pa T, .pa B] r hp)
noncomputable def K152 : Gam := K151.extY 57 tH
theorem okK152 : GOk Tryz.prog K152 := by
 refine okK151.extY (f := 57) Tryz.call57 fun al xs hp h => ?_
 obtain ⟨c, l, W, ws, y, bv, h1, h2, h3, rfl, rfl⟩ := h
 obtain ⟨b1, b2, rfl⟩ := h3.1 bv h2
 exact (X105 al c l W ws h1 y b1 b2 h2 h3).mono fun r hp h => ⟨y, _, _, rfl, h⟩
def e74 (a : D105) : List V := [bookV a.1.1.1 a.1.1.2 a.1.2, truthV a.2 a.1.1.2]
def d74 : List V → D105 | [b, t] => (dBV b, dTr t) | _ => (dBV .u, [])
theorem d74_e (a : D105) : d74 (e74 a) = a := d105_e a
theorem X74 (c : Ctr) (l : List Slip) (W : List (List Int)) (ws : List Int) : PureCall Tryz.prog 39 [bookV c l W, truthV ws l] (.fn 57 [.pa [truthV ws l], .pa [bookV c l W]]) := by
 refine pure_body okK152 hmix Tryz.func39 cb39 cc39 cs39 cn39 ?_
 obtain ⟨B, hB⟩ : ∃ B, bookV c l W = .pa B := ⟨_, rfl⟩
 obtain ⟨T, hT⟩ : ∃ T, truthV ws l = .pa T := ⟨_, rfl⟩
 rw [hB, hT]
 simp only [rc39, rs39, ↓BU3, BL, simprocAttr]
noncomputable def K153 : Gam := K152.ext 39 (fnG e74 d74 (fun _ => True) (fun a => a) ((fun a => .fn 57 (e105 a))))
theorem okK153 : GOk Tryz.prog K153 := okK152.ext (f := 39) Tryz.call39 (fnG_ok fun a h => X74 a.1.1.1 a.1.1.2 a.1.2 a.2)
theorem x74 (c : Ctr) (l : List Slip) (W : List (List Int)) (ws : List Int) : K153 39 [bookV c l W, truthV ws l] = (True, .fn 57 [.pa [truthV ws l], .pa [bookV c l W]]) := (kx K153 39 (d74_e (((c, l), W), ws)) rfl :)
def k40 (t : Tariff) (m : Int) := lft K153 (x40 t m) rfl
theorem X39 (c : Ctr) (m : Int) (h : OkFee c.tar m) : PureCall Tryz.prog 30 [.i m, .pa (eCtr c)] (.i (feeN c.tar m)) := by
 refine pure_body okK153 hmix Tryz.func30 cb30 cc30 cs30 cn30 ?_
 have g := k40 c.tar m
 simp only [eTar] at g
 simp only [rc30, rs30, eCtr, g, h, ↓BU3, BL, simprocAttr]
def e39 (a : Ctr × Int) : List V := [.i a.2, .pa (eCtr a.1)]
def d39 : List V → Ctr × Int | [.i m, .pa c] => (dCtr c, m) | _ => (dCtr [], 0)
theorem d39_e (a : Ctr × Int) : d39 (e39 a) = a := by obtain ⟨c, m⟩ := a; show (dCtr (eCtr c), m) = _; rw [dCtr_e]
noncomputable def K154 : Gam := K153.ext 30 (fnG e39 d39 (fun a => OkFee a.1.tar a.2) (fun a => feeN a.1.tar a.2) (.i))
theorem okK154 : GOk Tryz.prog K154 := okK153.ext (f := 30) Tryz.call30 (fnG_ok fun a h => X39 a.1 a.2 h)
theorem x39 (c : Ctr) (m : Int) : K154 30 [.i m, .pa (eCtr c)] = (OkFee c.tar m, .i (feeN c.tar m)) := (kx K154 30 (d39_e (c, m)) rfl :)
def hiresP (c : Ctr) (ws : List Int) (l : List Slip) : List (Slip × Int) := hiresQ c ws l 0
def findH (c : Ctr) (n : Int) (ws : List Int) (l : List Slip) : Option (Slip × Int) := (hiresP c ws l).find? fun x => decide (x.1.id = n)
structure C73 (c : Ctr) (n : Int) (ws : List Int) (l : List Slip) : Prop where
 h : HirOk c ws l
 f : (findH c n ws l).isSome = true
 m : OkFee c.tar ((findH c n ws l).getD (sl0, 0)).2
def lastN (c : Ctr) (n : Int) (ws : List Int) (l : List Slip) : Int := feeN c.tar ((findH c n ws l).getD (sl0, 0)).2
def caps73 (c : Ctr) (n : Int) (l : List Slip) (W : List (List Int)) : List V := [.pa [bookV c l W], .pa [.i n], .pa [.fn 30 [.pa (eCtr c)]]]
def k74 (c : Ctr) (l : List Slip) (W : List (List Int)) (ws : List Int) := lft K154 (x74 c l W ws) rfl
theorem y105 (al : List V → Prop) (xs : List V) (hp : List Blk) : K154.y 57 al xs hp = tH al xs hp := rfl
theorem find_first {α : Type} {p : α → Bool} {l : List α} {k : Nat} {x : α} (hx : l[k]? = some x) (hp : p x = true) (hc : ∀ j y, j < k → l[j]? = some y → p y = false) : l.find? p = some x := by
 induction l generalizing k with
 | nil => simp at hx
 | cons a l ih =>
  cases k with
  | zero => simp at hx; subst hx; simp [hp]
  | succ k =>
   have ha := hc 0 a (by omega) rfl
   rw [List.find?_cons_of_neg (by simp [ha])]
   exact ih (by simpa using hx) fun j y hj hy => hc (j + 1) y (by omega) (by simpa using hy)
set_option maxHeartbeats 4000000 in
theorem X73 (c : Ctr) (n : Int) (ws : List Int) (l : List Slip) (W : List (List Int)) (h : C73 c n ws l) : PureCall Tryz.prog 51 (truthV ws l :: caps73 c n l W) (.tp [.i (lastN c n ws l), .b true]) := by
 refine pure_body okK154 hmix Tryz.func51 cb51 cc51 cs51 cn51 ?_
 have g1 := k74 c l W ws
 have g3 := fun m => x39 c m
 have hm := h.m
 obtain ⟨B, hB⟩ : ∃ B, bookV c l W = .pa B := ⟨_, rfl⟩
 obtain ⟨T, hT⟩ : ∃ T, truthV ws l = .pa T := ⟨_, rfl⟩
 obtain ⟨E, hE⟩ : ∃ E, E = eCtr c := ⟨_, rfl⟩
 rw [hB, hT] at g1
 rw [← hE] at g3
 unfold caps73
 rw [hB, hT, ← hE]
 obtain ⟨H, hH⟩ : ∃ H, H = hiresP c ws l := ⟨_, rfl⟩
 simp only [rc51, rs51, g1, ↓BU3, BL, simprocAttr]
 refine ru_rfh (gf := 57) (caps := [.pa [.pa T], .pa [.pa B]]) ?_ (fun bv => ∃ x b, bv = [bV (.cells 0 [.i x]), bV (.cells 0 [.b b])]) (H.map fun x => (yP x, [])) (bv0 := [bV (.cells 0 [.i 0]), bV (.cells 0 [.b false])]) ?_
  (fun k bv => bv = [bV (.cells 0 [.i 0]), bV (.cells 0 [.b false])] ∧ ∀ j y, j < k → H[j]? = some y → decide (y.1.id = n) = false) ?_ ?_ ?_ ?_ ?_ ?_
 ·simp only [↓BU3, BL, simprocAttr]
 ·simp only [↓BU3, BL, simprocAttr]
 ·exact ⟨rfl, fun j y hj => absurd hj (Nat.not_lt_zero _)⟩
 ·rintro k bv ⟨rfl, _⟩
  exact ⟨_, _, rfl⟩
 ·rintro bv ⟨x, b, rfl⟩
  refine ⟨rfl, fun hp => ?_⟩
  simp only [↓BU3, BL, simprocAttr]
 ·intro y
  rw [y105]
  refine ⟨⟨c, l, W, ws, y, [bV (.cells 0 [.i 0]), bV (.cells 0 [.b false])], h.h, ⟨_, _, rfl⟩, ⟨fun bv h => ?_, fun b1 b2 hp h => ?_⟩, by rw [hB, hT], ?_⟩, fun r hp' h => ?_⟩
  ·obtain ⟨x, b, h⟩ := h
   exact ⟨_, _, h⟩
  ·obtain ⟨x, b, h⟩ := h
   simp only [List.cons.injEq, and_true] at h
   obtain ⟨rfl, rfl⟩ := h
   simp only [↓BU3, BL, simprocAttr]
  ·rw [hB, hT, gH, List.map_map]
   rw [show hiresQ c ws l 0 = H from hH.symm]
   rfl
  ·obtain ⟨y', T', B', e, h⟩ := h
   simp only [List.cons.injEq, V.yl.injEq, V.pa.injEq, and_true] at e
   obtain ⟨rfl, rfl, rfl⟩ := e
   exact h
 ·rintro k x z bv hx ⟨rfl, hc⟩
  rw [List.getElem?_map, Option.map_eq_some_iff] at hx
  obtain ⟨⟨s, m⟩, hy, he⟩ := hx
  simp only [Prod.mk.injEq] at he
  obtain ⟨rfl, rfl⟩ := he
  refine ⟨rfl, Nat.le_refl _, ?_⟩
  by_cases e : s.id = n
  ·have hf : findH c n ws l = some (s, m) := by
    unfold findH
    rw [← hH]
    exact find_first hy (by simpa using e) hc
   rw [hf] at hm
   have hl : lastN c n ws l = feeN c.tar m := by unfold lastN; rw [hf]; rfl
   simp only [Option.getD_some] at hm
   simp only [yP, eSlip, e, g3, hm, hl, ↓BU3, BL, simprocAttr]
   refine ⟨[bV (.cells 0 [.i (feeN c.tar m)]), bV (.cells 0 [.b true])], ?_, rfl, ⟨_, _, rfl⟩, ?_⟩
   ·simp only [↓BU3, BL, simprocAttr]
   ·simp only [↓BU3, BL, simprocAttr]
  ·have hc2 : ∀ j y, j < k + 1 → H[j]? = some y → decide (y.1.id = n) = false := by
    intro j y hj hyj
    rcases Nat.lt_or_eq_of_le (Nat.lt_succ_iff.1 hj) with h | h
    ·exact hc j y h hyj
    ·subst h
     rw [hy] at hyj
     cases hyj
     simpa using e
   simp only [yP, eSlip, e, ↓BU3, BL, simprocAttr]
   refine ⟨[bV (.cells 0 [.i 0]), bV (.cells 0 [.b false])], ?_, rfl, ⟨_, _, rfl⟩, rfl, fun j y hj hyj => by simpa using hc2 j y hj hyj⟩
   simp only [↓BU3, BL, simprocAttr]
 ·rintro bv ⟨rfl, hc⟩
  exfalso
  rw [List.length_map] at hc
  have hs := h.f
  unfold findH at hs
  rw [← hH, List.find?_isSome] at hs
  obtain ⟨y, hy, hp⟩ := hs
  obtain ⟨j, hj⟩ := List.getElem?_of_mem hy
  have := hc j y (getElemLt hj) hj
  rw [this] at hp
  cases hp
end Go.CS
set_option maxHeartbeats 4000000
namespace Go.CS
open Go.Fam Go.Proofs
open Go.C06 (Span eI eIs eSpan gI gR dI dI_eI spanE fnG fnG_ok fnG_at within take_succ_of idxOf idxOf_at idxOf_none idxOf_any flat_len chunk_flat map_vw_rows hasRefL_flat drop_cons chunk_I len_I vw_I noref_I hmix eLI dLI dLI_e ru_countE cutL_noref hasRefL_append upL_noref)
variable {Γ : Gam}
set_option maxRecDepth 20000
abbrev D73 := D105 × Int
def e73 (a : D73) : List V := truthV a.1.2 a.1.1.1.2 :: caps73 a.1.1.1.1 a.2 a.1.1.1.2 a.1.1.2
def d73 : List V → D73 | [t, .pa [b], .pa [.i n], _] => ((dBV b, dTr t), n) | _ => ((dBV .u, []), 0)
theorem d73_e (a : D73) : d73 (e73 a) = a := by
 obtain ⟨⟨⟨⟨c, l⟩, W⟩, ws⟩, n⟩ := a
 show ((dBV (bookV c l W), dTr (truthV ws l)), n) = _
 rw [dBV_e, dTr_e]
noncomputable def K155 : Gam := K154.ext 51 (fnG e73 d73 (fun a => C73 a.1.1.1.1 a.2 a.1.2 a.1.1.1.2) (fun a => lastN a.1.1.1.1 a.2 a.1.2 a.1.1.1.2) ((fun m => .tp [.i m, .b true])))
theorem okK155 : GOk Tryz.prog K155 := okK154.ext (f := 51) Tryz.call51 (fnG_ok fun a h => X73 a.1.1.1.1 a.2 a.1.2 a.1.1.1.2 a.1.1.2 h)
theorem x73 (c : Ctr) (l : List Slip) (W : List (List Int)) (ws : List Int) (n : Int) : K155 51 (truthV ws l :: caps73 c n l W) = (C73 c n ws l, .tp [.i (lastN c n ws l), .b true]) := (kx K155 51 (d73_e ((((c, l), W), ws), n)) rfl :)
def spS (s : Span × Bool) (m : Int) : Span × Bool := if s.2 = true then (⟨min s.1.low m, max s.1.high m⟩, true) else (⟨m, m⟩, true)
def spF (ms : List Int) : Span × Bool := ms.foldl spS (⟨0, 0⟩, false)
theorem spF_snoc (ms : List Int) (m : Int) : spF (ms ++ [m]) = spS (spF ms) m := by simp [spF]
theorem spF_true {ms : List Int} (h : ms ≠ []) : (spF ms).2 = true := by
 obtain ⟨a, b, rfl⟩ : ∃ a b, ms = a ++ [b] := ⟨ms.dropLast, ms.getLast h, (List.dropLast_concat_getLast h).symm⟩
 rw [spF_snoc]
 unfold spS
 split <;> rfl
def msN (c : Ctr) (n : Int) (l : List Slip) (W : List (List Int)) : List Int := W.map fun ws => lastN c n ws l
def e72 (c : Ctr) (n : Int) (l : List Slip) (W : List (List Int)) : List V := [bookV c l W, .fn 51 (caps73 c n l W)]
set_option maxHeartbeats 4000000 in
theorem X72 (c : Ctr) (n : Int) (l : List Slip) (W : List (List Int)) (h : ∀ ws ∈ W, C73 c n ws l) (h0 : W ≠ []) (hl : W.length ≤ 1000000) :
  PureCall Tryz.prog 22 (e72 c n l W) (.tp [.ag (eSpan (spF (msN c n l W)).1), .b true]) := by
 refine pure_body okK155 hmix Tryz.func22 cb22 cc22 cs22 cn22 ?_
 have g := fun ws => x73 c l W ws n
 obtain ⟨E, hE⟩ : ∃ E, E = eCtr c := ⟨_, rfl⟩
 obtain ⟨B, hB⟩ : ∃ B, B = [bookV c l W] := ⟨_, rfl⟩
 have hwl : ∀ ws, C73 c n ws l = C73 c n ws l := fun _ => rfl
 have hbt : (spF (msN c n l W)).2 = true := spF_true (by unfold msN; simpa using h0)
 have hd : (eCtr c ++ [.sl 6 (l.map eSlip), .sl 1 (trR l W)]) = eCtr c ++ [.sl 6 (l.map eSlip), .sl 1 (trR l W)] := rfl
 simp only [e72]
 unfold caps73 at g ⊢
 rw [← hB, ← hE] at g
 rw [← hB, ← hE]
 have hbk : bookV c l W = .pa (eCtr c ++ [.sl 6 (l.map eSlip), .sl 1 (trR l W)]) := rfl
 rw [hbk]
 have hrl : (trR l W).length = W.length := List.length_map ..
 simp only [rc22, rs22, eCtr, hrl, BL, simprocAttr]
 refine ru_count W.length (fun k => ⟨lkp [(1, .fn 51 [.pa B, .pa [.i n], .pa [.fn 30 [.pa E]]]), (4, .ad 0 0 0), (5, .b (spF (msN c n l (W.take k))).2), (13, .sl 1 (trR l W)), (14, .i W.length), (15, .i k)], [.cells 0 [.i (spF (msN c n l (W.take k))).1.low, .i (spF (msN c n l (W.take k))).1.high]]⟩) ?_ ?_ ?_
 ·simp only [Int.natCast_zero, msN, spF, BL, simprocAttr]
 ·intro k hk
  obtain ⟨ws, hws⟩ : ∃ ws, W[k]? = some ws := ⟨_, List.getElem?_eq_getElem hk⟩
  have hC := h ws (List.mem_of_getElem? hws)
  have hrow : (trR l W)[k]? = some [truthV ws l] := by unfold trR; rw [List.getElem?_map, hws]; rfl
  have hlt : (k : Int) < W.length := by omega
  have hk0 : (0 : Int) ≤ k := by omega
  have hkn : (k : Int).toNat = k := Int.toNat_natCast k
  have i1 : inI ((k : Int) + 1) := by unfold inI; omega
  have gw := g ws
  have hsn : msN c n l (W.take (k + 1)) = msN c n l (W.take k) ++ [lastN c n ws l] := by unfold msN; rw [take_succ_of hws, List.map_append]; rfl
  rw [hsn, spF_snoc]
  obtain ⟨T, hT⟩ : ∃ T, truthV ws l = .pa T := ⟨_, rfl⟩
  rw [hT] at gw hrow
  generalize spF (msN c n l (W.take k)) = s
  obtain ⟨⟨slo, shi⟩, sb⟩ := s
  cases sb
  ·simp only [hlt, hrow, hrl, hk0, hkn, i1, gw, hC, spS, Int.natCast_add, Int.natCast_one, BL, simprocAttr]
  ·simp only [hlt, hrow, hrl, hk0, hkn, i1, gw, hC, spS, Int.natCast_add, Int.natCast_one, BL, simprocAttr]
 ·have hlt : ¬ ((W.length : Int) < W.length) := by omega
  simp only [hlt, List.take_length, hbt, BL, simprocAttr]
def d72 : List V → (Ctr × Int) × (List Slip × List (List Int)) | [b, .fn _ [_, .pa [.i n], _]] => (((dBV b).1.1, n), ((dBV b).1.2, (dBV b).2)) | _ => ((dCtr [], 0), ([], []))
theorem d72_e (a : (Ctr × Int) × (List Slip × List (List Int))) : d72 (e72 a.1.1 a.1.2 a.2.1 a.2.2) = a := by
 obtain ⟨⟨c, n⟩, l, W⟩ := a
 show (((dBV (bookV c l W)).1.1, n), ((dBV (bookV c l W)).1.2, (dBV (bookV c l W)).2)) = _
 rw [dBV_e]
structure C72 (c : Ctr) (n : Int) (l : List Slip) (W : List (List Int)) : Prop where
 c : ∀ ws ∈ W, C73 c n ws l
 e : W ≠ []
 l : W.length ≤ 1000000
noncomputable def K156 : Gam := K155.ext 22 (fnG (fun a : (Ctr × Int) × (List Slip × List (List Int)) => e72 a.1.1 a.1.2 a.2.1 a.2.2) d72 (fun a => C72 a.1.1 a.1.2 a.2.1 a.2.2) (fun a => (spF (msN a.1.1 a.1.2 a.2.1 a.2.2)).1) ((fun s => .tp [.ag (eSpan s), .b true])))
theorem okK156 : GOk Tryz.prog K156 := okK155.ext (f := 22) Tryz.call22 (fnG_ok fun a h => X72 a.1.1 a.1.2 a.2.1 a.2.2 h.c h.e h.l)
theorem x72 (c : Ctr) (n : Int) (l : List Slip) (W : List (List Int)) : K156 22 (e72 c n l W) = (C72 c n l W, .tp [.ag (eSpan (spF (msN c n l W)).1), .b true]) := (kx K156 22 (d72_e ((c, n), (l, W))) rfl :)
def k68 (c : Ctr) (n : Int) := lft K156 (x68 c n) rfl
structure C38 (c : Ctr) (n : Int) : Prop where
 r : C68 (c, n)
 s : C72 c n (bookL c) (bookW c)
def feeS (c : Ctr) (n : Int) : Span := (spF (msN c n (bookL c) (bookW c))).1
set_option maxHeartbeats 4000000 in
theorem X38 (c : Ctr) (n : Int) (h : C38 c n) : PureCall Tryz.prog 29 [.ag (eCtr c), .i n, .fn 30 [.pa (eCtr c)]] (.tp [.ag (eSpan (feeS c n)), .i 0]) := by
 refine pure_body okK156 hmix Tryz.func29 cb29 cc29 cs29 cn29 ?_
 have g1 := k68 c n
 have g2 := x72 c n (bookL c) (bookW c)
 have h1 := h.r
 have h2 := h.s
 unfold feeS
 simp only [e72, caps73] at g2
 obtain ⟨E, hE⟩ : ∃ E, E = eCtr c := ⟨_, rfl⟩
 have hEl : E.length = 11 := by rw [hE]; rfl
 have hEr : hasRefL E = false := by rw [hE]; rfl
 have hE7 : ∀ H, E.map (vw H 7) = E := fun H => by rw [hE]; rfl
 have hEv : ∀ H n, E.map (vw H (n + 1)) = E := fun H n => by rw [hE]; rfl
 obtain ⟨B, hB⟩ : ∃ B, bookV c (bookL c) (bookW c) = .pa B := ⟨_, rfl⟩
 rw [hB] at g1 g2
 rw [← hE] at g1 g2 ⊢
 have hEt : E.take 11 = E := List.take_of_length_le (by omega)
 have hE11 : 11 ≤ E.length := by omega
 simp only [rc29, rs29, g1, h1, g2, h2, hEl, hEt, hE11, hEr, hE7, BL, simprocAttr]
def e38 (a : Ctr × Int) : List V := [.ag (eCtr a.1), .i a.2, .fn 30 [.pa (eCtr a.1)]]
def d38 : List V → Ctr × Int | [.ag c, .i n, _] => (dCtr c, n) | _ => (dCtr [], 0)
theorem d38_e (a : Ctr × Int) : d38 (e38 a) = a := by obtain ⟨c, n⟩ := a; show (dCtr (eCtr c), n) = _; rw [dCtr_e]
noncomputable def K157 : Gam := K156.ext 29 (fnG e38 d38 (fun a => C38 a.1 a.2) (fun a => feeS a.1 a.2) ((fun s => .tp [.ag (eSpan s), .i 0])))
theorem okK157 : GOk Tryz.prog K157 := okK156.ext (f := 29) Tryz.call29 (fnG_ok fun a h => X38 a.1 a.2 h)
theorem x38 (c : Ctr) (n : Int) : K157 29 [.ag (eCtr c), .i n, .fn 30 [.pa (eCtr c)]] = (C38 c n, .tp [.ag (eSpan (feeS c n)), .i 0]) := (kx K157 29 (d38_e (c, n)) rfl :)
theorem X20 (c : Ctr) (n : Int) (h : C38 c n) : PureCall Tryz.prog 11 [.ag (eCtr c), .i n] (.tp [.ag (eSpan (feeS c n)), .i 0]) := by
 refine pure_body okK157 hmix Tryz.func11 cb11 cc11 cs11 cn11 ?_
 have g := x38 c n
 obtain ⟨E, hE⟩ : ∃ E, E = eCtr c := ⟨_, rfl⟩
 have hEl : E.length = 11 := by rw [hE]; rfl
 have hEr : hasRefL E = false := by rw [hE]; rfl
 have hE7 : ∀ H, E.map (vw H 7) = E := fun H => by rw [hE]; rfl
 have hEt : E.take 11 = E := List.take_of_length_le (by omega)
 have hE11 : 11 ≤ E.length := by omega
 rw [← hE] at g ⊢
 simp only [rc11, rs11, g, h, hEl, hEt, hE11, hEr, hE7, BL, simprocAttr]
end Go.CS
