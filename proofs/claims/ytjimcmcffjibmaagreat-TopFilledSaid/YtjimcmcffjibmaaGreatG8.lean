import Derived.Test.YtjimcmcffjibmaaGreatG6
import Derived.Test.YtjimcmcffjibmaaGreatG7
import Derived.Test.YtjimcmcffjibmaaGreatG5
import Derived.Test.YtjimcmcffjibmaaGreatG3
import Derived.Test.YtjimcmcffjibmaaGreatG4
import Derived.RangeFuncLeaves
import Derived.WalkKit
import Derived.OwnWalkIn
import Derived.TacticsInMore
import Derived.LoopNIn
import Derived.LoopIn
set_option linter.all false
set_option maxHeartbeats 4000000
open List renaming getElem?_eq_getElem → Qc,mem_of_getElem? → Qe,length_map → Qf,flatten_cons → Qg,getD_eq_getElem?_getD → Qh,flatten_nil → Qj,map_append → Qk,length_append → Ql,map_cons → Qm,mem_map → Qo,length_cons → Qp,getElem?_cons_zero → Qq,range → Qr,filter_nil → Qs,length_take → Qu,map_nil → Qv,filter_cons → Qw,take_length → Qx,mem_range → Qy,length_filter_le → Qz,append_assoc → Q0,take_succ_cons → Q1,not_any_eq_all_not → Q2,replicate → Q3,append_nil → Q4,mem_cons → Q5,getElem?_of_mem → Q7,drop_zero → Q8,map_map → Q9,all_eq_true → Za,flatten_append → Zb,mem_append → Zc,nil_append → Zd,mem_singleton → Zf,getElem?_map → Zi,take_of_length_le → Zj,takeWhile_append_dropWhile → Zk,getElem?_range → Zm,map_congr_left → Zn,takeWhile_cons → Zo,dropWhile_cons → Zp,filter_append → Zq,takeWhile_cons_of_pos → Zr,foldl_append → Zs,cons_append → Zt,getElem?_cons_succ → Zu,range_succ → Zv,mem_filter → Zw,range_zero → Zx,length_mergeSort → Zy,nodup_nil → Zz,drop_eq_nil_iff → Z0,take_zero → Z1,pairwise_append → Z2,drop_left → Z3,length_pos_iff → Z4,count_pos_iff → Z5,pairwise_cons → Z6,length_range → Z7,cons → Z8,drop_length → Z9,mem_flatMap → Xa,drop → Xb,length → Xc,drop_drop → Xg
open Nat renaming le_refl → Qi,mul_one → Qn,le_trans → Zh,pow_le_pow_right → Zl,not_lt_zero → Xe,min_eq_left → Xf
open Bool renaming and_eq_true → Qt,false_eq_true → Ze,or_eq_true → Xd
open Option renaming some → Zg
open Int renaming natCast_add → Qa,natCast_one → Qb,natCast_zero → Qd,toNat_natCast → Q6
noncomputable section
namespace Go.CS
open Go.Fam Go.Proofs
open Go.Proofs.Tryz
open Go.Proofs.Tryz renaming prog → TP
open Go.C06 (fnG Qap Span eI eSpan gI gR dI Qas Qa7 Qa3 Qa4 idxOf Qah Qaa Qab Qaf Qa9 Qa6 Qa5 Qad Qal Qaz vw_I Qaj hmix eLI dLI Qb1 Qac Qa0 Qa2 Qae)
variable {Γ : Gam}
set_option maxRecDepth 100000
def K95 := K94.ext 8 (fnG ePP dPP (fun a => SmallS a.1 ∧ a.1.pieces.length ≤ 1000000 ∧ a.2.length ≤ 1000000) (fun a => Qef a.1 a.2) ((fun r => .tp [.i r.1,.i r.2])))
def Zkt : GOk TP K95 := Zks.ext call8 (Qa7 fun a h => X8 a.1 a.2 h.1 h.2.1 h.2.2)
def x8 (s : Shop) (l : List Int) : K95 8 [.ag (Qat s),.sl 1 (l.map eI)] = (SmallS s ∧ s.pieces.length ≤ 1000000 ∧ l.length ≤ 1000000,.tp [.i (Qef s l).1,.i (Qef s l).2]) := (kx K95 8 (Qy8 (s,l)) rfl :)
def Zgc (s : Shop) (n : Int) := lft K95 (h39 s n) rfl
def Zgd (s : Shop) := lft K95 (h58 s) rfl
def Zge (x : Wish) (p : Piece) := lft K95 (h63 x p) rfl
def Zgf (s : Shop) (n : Int) := lft K95 (x45 s n) rfl
def Qka (s : Shop) (n k : Int) : Int × Int := if Qcl s = 0 then (if Qa3 n 0 (s.wishes.length - 1) = true ∧ Qa3 k 0 (s.pieces.length - 1) = true then (Qcf (Qbb s n.toNat) (Qax s k),0) else (0,1)) else (0,Qcl s)
def X26 (s : Shop) (n k : Int) (hs : SmallS s) (hp : s.pieces.length ≤ 1000000) (hw : s.wishes.length ≤ 1000000) : Qa1 TP 26 [.ag (Qat s),.i n,.i k] (.tp [.i (Qka s n k).1,.i (Qka s n k).2]) := by
 refine pc Zkt func26 cf26 ?_
 have g1 := Zgd s
 have g2 := Zgc s n
 have g3 := Zgf s k
 unfold Qat at g1 g2 g3
 unfold Qka
 by_cases e : Qcl s = 0
 ·rw [if_pos e]
  by_cases e1 : Qa3 n 0 (s.wishes.length - 1) = true
  ·by_cases e2 : Qa3 k 0 (s.pieces.length - 1) = true
   ·rw [if_pos ⟨e1,e2⟩]
    have b1 := Qak.1 e1
    have b2 := Qak.1 e2
    obtain ⟨N,rfl⟩ : ∃ N : Nat,n = N := ⟨n.toNat,by omega⟩
    obtain ⟨M,rfl⟩ : ∃ M : Nat,k = M := ⟨k.toNat,by omega⟩
    have hx := Qfj (s := s) (i := N) (by omega)
    have hq := Qey (s := s) (x := M) (by omega)
    rw [Q6] at hq
    have c1 := hs.colors _ (Qe hx)
    have vM : (Qbb s N).colors.length < 10000000 := by omega
    have g4 := Zge (Qbb s N) (Qax s M)
    rw [Q6]
    generalize Qbb s N = X at *
    generalize Qax s M = p at *
    unfold eWish ePiece at g4
    have b3 : (N : Int) < s.wishes.length ∧ (M : Int) < s.pieces.length := by omega
    simp only [rc26,rs26,g1,g2,g3,hs,hp,hw,e,e1,e2,hx,hq,g4,vM,b3,BL,simprocAttr]
   ·have e2' : Qa3 k 0 (s.pieces.length - 1) = false := by simpa using e2
    rw [if_neg (fun h => e2 h.2)]
    simp only [rc26,rs26,g1,g2,g3,hs,hp,hw,e,e1,e2',BL,simprocAttr]
  ·have e1' : Qa3 n 0 (s.wishes.length - 1) = false := by simpa using e1
   rw [if_neg (fun h => e1 h.1)]
   simp only [rc26,rs26,g1,g2,g3,hs,hp,hw,e,e1',BL,simprocAttr]
 ·rw [if_neg e]
  simp only [rc26,rs26,g1,hs,e,BL,simprocAttr]
def eNN (a : Shop × Int × Int) : List V := [.ag (Qat a.1),.i a.2.1,.i a.2.2]
def dNN : List V → Shop × Int × Int | [.ag s,.i n,.i k] => (Qh0 s,n,k) | _ => (Qh0 [],0,0)
def Zp5 (a : Shop × Int × Int) : dNN (eNN a) = a := by obtain ⟨s,n,k⟩ := a; simp [dNN,eNN,Qhj]
def K96 := K95.ext 26 (fnG eNN dNN (fun a => SmallS a.1 ∧ a.1.pieces.length ≤ 1000000 ∧ a.1.wishes.length ≤ 1000000) (fun a => Qka a.1 a.2.1 a.2.2) ((fun r => .tp [.i r.1,.i r.2])))
def Zku : GOk TP K96 := Zkt.ext call26 (Qa7 fun a h => X26 a.1 a.2.1 a.2.2 h.1 h.2.1 h.2.2)
def x26 (s : Shop) (n k : Int) : K96 26 [.ag (Qat s),.i n,.i k] = (SmallS s ∧ s.pieces.length ≤ 1000000 ∧ s.wishes.length ≤ 1000000,.tp [.i (Qka s n k).1,.i (Qka s n k).2]) := (kx K96 26 (Zp5 (s,n,k)) rfl :)
def Zm9 (s : Shop) := lft K96 (h4 s) rfl
def Zgg (s : Shop) := lft K96 (h19 s) rfl
def Zgh (w : Work) : K96 14 [.ag (Qai w)] = (SmallW w,.i (Qb5 w true)) := (show K96 14 _ = fnG eW1 dW1 SmallW (fun w => Qb5 w true) .i (eW1 w) from rfl).trans (Qap _ (Ql7 _))
def Qlo (s : Shop) : Bool := !farS s && decide (Qcl s = 0) && decide (Qb5 s.work true = 0)
def X5 (s : Shop) : Qa1 TP 5 [.ag (Qat s)] (.b (Qlo s)) := by
 refine pc Zku func5 cf5 ?_
 have g1 := Zm9 s
 have g2 := Zgg s
 have g3 := Zgh s.work
 unfold Qat at g1 g2
 unfold Qai at g3
 unfold Qlo
 cases e1 : farS s with
 | true => simp only [rc5,rs5,g1,e1,BL,simprocAttr]
 | false =>
  have hs : SmallS s := by
   unfold farS at e1
   rw [Bool.or_eq_false_iff] at e1
   exact (Qit e1.1).1
  have hw := hs.work
  by_cases e2 : Qcl s = 0
  ·simp only [rc5,rs5,g1,e1,g2,hs,e2,g3,hw,BL,simprocAttr]
  ·simp only [rc5,rs5,g1,e1,g2,hs,e2,BL,simprocAttr]
def K97 := K96.ext 5 (fnG eH1 dH1 (fun _ => True) (Qlo) (.b))
def Zf0 : GOk TP K97 := Zku.ext call5 (Qa7 fun a h => X5 a)
def x5 (s : Shop) : K97 5 [.ag (Qat s)] = (True,.b (Qlo s)) := (kx K97 5 (Qqr s) rfl :)
def Zd4 (l : List Int) (n : Int) := lft K97 (h159 l n) rfl
def Qij (s : Shop) (plan : List Int) (i : Nat) : Bool := decide (-1 ≤ plan.getD i 0) && decide (plan.getD i 0 < s.pieces.length) && (decide (plan.getD i 0 < 0) || !decide (plan.getD i 0 ∈ plan.take i))
def Qkg (s : Shop) (plan : List Int) : Bool := (Qr plan.length).all (Qij s plan) && decide (plan.length = s.wishes.length)
def Zf2 (s : Shop) (plan : List Int) : Qkg s plan = Qh3 s plan := by
 unfold Qkg Qh3
 have e : Qij s plan = Qhc s plan := by
  funext i
  unfold Qij Qhc
  generalize plan.getD i 0 = x
  rw [Bool.eq_iff_iff]
  simp only [Qt,Xd,decide_eq_true_eq,Bool.not_eq_true',decide_eq_false_iff_not,Qak]
  constructor
  ·rintro ⟨⟨h1,h2⟩,h3⟩
   by_cases e : x = -1
   ·exact .inl e
   ·exact .inr ⟨by omega,h3.resolve_left (by omega)⟩
  ·rintro (h | ⟨h1,h2⟩)
   ·exact ⟨⟨by omega,by omega⟩,.inl (by omega)⟩
   ·exact ⟨⟨by omega,by omega⟩,.inr h2⟩
 rw [e]
def X6 (s : Shop) (plan : List Int) (hl : plan.length ≤ 1000000) : Qa1 TP 6 [.ag (Qat s),.sl 1 (plan.map eI)] (.b (Qkg s plan)) := by
 refine pc Zf0 func6 cf6 ?_
 simp only [rc6,rs6,BL,simprocAttr]
 refine Qao plan.length (fun i => ⟨lkp [(1,.sl 1 (plan.map eI)),(2,.pa (Qat s)),(5,.i i)],[]⟩) (fun i => ∀ k,k < i → Qij s plan k = true) ?_ ?_ ?_ ?_
 ·simp only [Qd,BL,simprocAttr]
 ·intro k h; omega
 ·intro i hi hc
  have hlt : (i : Int) < plan.length := by omega
  have aD : (i : Int) ≤ plan.length := by omega
  have i1 : inI ((i : Int) + 1) := by unfold inI; omega
  obtain ⟨x,hx⟩ : ∃ x,plan[i]? = some x := ⟨_,Qc hi⟩
  have wO : plan.getD i 0 = x := by rw [Qh,hx]; rfl
  have hA : Qij s plan i = (decide (-1 ≤ x) && decide (x < s.pieces.length) && (decide (x < 0) || !decide (x ∈ plan.take i))) := by unfold Qij; rw [wO]
  have g2 := Zd4 (plan.take i) x
  simp only [List.map_take] at g2
  have xY : (plan.take i).length ≤ 1000000 := by rw [Qu]; omega
  have jI : Qij s plan i = true → ∀ k,k < i + 1 → Qij s plan k = true := fun h k hk => by
   by_cases e : k = i
   ·subst e; exact h
   ·exact hc k (by omega)
  have jX : Qij s plan i = false → Qkg s plan = false := fun h => by unfold Qkg; rw [Qkv hi h,Bool.false_and]
  by_cases e1 : x < -1
  ·have q := jX (by rw [hA]; simp [show ¬ -1 ≤ x by omega])
   simp only [hlt,hx,e1,q,i1,BL,simprocAttr]
  ·by_cases e2 : (s.pieces.length : Int) ≤ x
   ·have q := jX (by rw [hA]; simp [show ¬ x < (s.pieces.length : Int) by omega])
    simp only [hlt,hx,e1,e2,q,i1,BL,simprocAttr]
   ·by_cases e3 : 0 ≤ x
    ·by_cases e4 : x ∈ plan.take i
     ·have q := jX (by rw [hA]; simp [e4,show ¬ x < 0 by omega])
      simp only [hlt,aD,hx,e1,e2,e3,e4,g2,xY,q,i1,BL,simprocAttr]
     ·have q := jI (by rw [hA]; simp [e4,show -1 ≤ x by omega,show x < (s.pieces.length : Int) by omega])
      simp only [hlt,aD,hx,e1,e2,e3,e4,g2,xY,i1,Qa,Qb,BL,simprocAttr]
      exact q
    ·have q := jI (by rw [hA]; simp [show -1 ≤ x by omega,show x < (s.pieces.length : Int) by omega,show x < 0 by omega])
     simp only [hlt,hx,e1,e2,e3,i1,Qa,Qb,BL,simprocAttr]
     exact q
 ·intro hc
  have q : Qkg s plan = decide (plan.length = s.wishes.length) := by unfold Qkg; rw [Qq5 hc,Bool.true_and]
  simp only [q,BL,simprocAttr]
  exact decide_eq_decide.2 (by omega)
def Zd3 (n lo hi : Int)  := lft K97 (h120 n lo hi) rfl
def Zgi (w : Work) (m k : Int)  := lft K97 (h82 w m k) rfl
def eU0 : Unit → List V := fun _ => []
def dU0 : List V → Unit := fun _ => ()
def Qya (a : Unit) : dU0 (eU0 a) = a := rfl
def pTn (_ : Unit) (n : Int) : Bool := Qa3 n 0 10
def CTn (_ : Unit) (_ : Int) : Prop := True
def X52 (n : Int) : Qa1 TP 52 [.i n] (.b (Qa3 n 0 10)) := by
 refine pc Zf0 func52 cf52 ?_
 simp only [rc52,rs52,Zd3,BL,simprocAttr]
def e52 (a : Unit × Int) : List V := .i a.2 :: eU0 a.1
def d52 : List V → Unit × Int | .i n :: c => (dU0 c,n) | _ => ((),0)
def Zom (a : Unit × Int) : d52 (e52 a) = a := rfl
def K98 := K97.ext 52 (fnG e52 d52 (fun _ => True) (fun a => pTn a.1 a.2) (.b))
def Zkv : GOk TP K98 := Zf0.ext call52 (Qa7 fun a h => X52 a.2)
def x52 (a : Unit) (x : Int) : K98 52 (.i x :: eU0 a) = (CTn a x,.b (pTn a x)) := (kx K98 52 (Zom (a,x)) rfl :)
def Zgt (hG : GOk TP Γ) (l : List Int) (f : Nat) (hf : f < 1000000) (caps : List V) (p : Int → Bool) (C : Int → Prop) (hC : ∀ x ∈ l,C x) (hv : caps.map (vw [] 8) = caps) (hr : Qa8 caps = false) (hl : l.length < 10000000)
  (h : ∀ x ∈ l,Γ f (V.i x :: caps) = (C x,.b (p x))) : Qa1 TP 122 [.sl 1 (l.map eI),.fn f caps] (.i (idxOf p l)) := by
 refine pc hG func122 Zdd ?_
 simp only [rc122,rs122,BL,simprocAttr]
 refine Qao l.length (fun i => ⟨lkp [(0,.sl 1 (l.map eI)),(1,.fn f caps),(7,.i l.length),(8,.i i)],[]⟩) (fun i => ∀ j x,j < i → l[j]? = some x → p x = false) ?_ ?_ ?_ ?_
 ·simp only [Qd,BL,simprocAttr]
 ·intro j x h; omega
 ·intro i hi hc
  obtain ⟨x,hx⟩ : ∃ x,l[i]? = some x := ⟨_,Qc hi⟩
  have hlt : (i : Int) < l.length := by omega
  have h3 : inI ((i : Int) + 1) := by unfold inI; omega
  have hp := h x (Qe hx)
  have hCx := hC x (Qe hx)
  try simp only [eI,eMake] at hp
  simp only [hx,hlt,Qa,Qb,h3,hp,hv,hr,hf,hCx,BL,simprocAttr]
  refine ⟨fun e => ?_,fun e => ?_⟩
  ·rw [Qah hx e hc]
  ·exact Qbd hx e hc
 ·intro hc
  simp only [BL,simprocAttr]
  exact (Qaa fun x hx => by
   obtain ⟨j,hj⟩ := Q7 hx
   exact hc j x (by have := Qag hj; exact this) hj).symm
def e1Tn (a : Unit × Int) : List V := [.i a.2,.pa [.fn 52 (eU0 a.1)]]
def d1Tn : List V → Unit × Int | [.i s,.pa [.fn _ c]] => (dU0 c,s) | _ => (dU0 [],0)
def Zh9 (a : Unit × Int) : d1Tn (e1Tn a) = a := by obtain ⟨a,x⟩ := a; simp [d1Tn,e1Tn,Qya,Qas]
def Zmk (a : Unit) (x : Int) (h : CTn a x) : Qa1 TP 83 [.i x,.pa [.fn 52 (eU0 a)]] (.b (!pTn a x)) := by
 refine pc Zkv func83 cf83 ?_
 have g := x52 a x
 try simp only [eU0,eI] at g
 simp only [rc83,rs83,eU0,g,h,BL,simprocAttr]
def K99 := K98.ext 83 (fnG e1Tn d1Tn (fun a => CTn a.1 a.2) (fun a => !pTn a.1 a.2) (.b))
def Zkw : GOk TP K99 := Zkv.ext call83 (Qa7 fun a h => Zmk a.1 a.2 h)
def Zpq (a : Unit) (x : Int) : K99 83 [.i x,.pa [.fn 52 (eU0 a)]] = (CTn a x,.b (!pTn a x)) := (kx K99 83 (Zh9 (a,x)) rfl :)
def e2Tn (a : Unit × List Int) : List V := [.sl 1 (a.2.map eI),.fn 83 [V.pa [.fn 52 (eU0 a.1)]]]
def d2Tn : List V → Unit × List Int | [.sl _ l,.fn _ [.pa [.fn _ c]]] => (dU0 c,l.map dI) | _ => (dU0 [],[])
def Za8 (a : Unit × List Int) : d2Tn (e2Tn a) = a := by obtain ⟨a,l⟩ := a; simp [d2Tn,e2Tn,Qya,Qas,Function.comp_def]
def C2Tn (a : Unit × List Int) : Prop := a.2.length < 10000000 ∧ ∀ x ∈ a.2,CTn a.1 x
def vwTn (a : Unit) : ([V.pa [.fn 52 (eU0 a)]] : List V).map (vw [] 8) = [V.pa [.fn 52 (eU0 a)]] := by
 rfl
def rfTn (a : Unit) : Qa8 ([V.pa [.fn 52 (eU0 a)]] : List V) = false := rfl
def K100 := K99.ext 122 (fnG e2Tn d2Tn (C2Tn) (fun a => idxOf (fun x => !pTn a.1 x) a.2) (.i))
def Zaq : GOk TP K100 := Zkw.ext call122 (Qa7 fun a h => Zgt Zkw a.2 83 (by decide) [V.pa [.fn 52 (eU0 a.1)]] (fun x => !pTn a.1 x) (CTn a.1) h.2 (vwTn a.1) (rfTn a.1) h.1 fun x _ => Zpq a.1 x)
def Zik (a : Unit) (l : List Int) : K100 122 [.sl 1 (l.map eI),.fn 83 [V.pa [.fn 52 (eU0 a)]]] = (C2Tn (a,l),.i (idxOf (fun x => !pTn a x) l)) := (kx K100 122 (Za8 (a,l)) rfl :)
def Zmj (a : Unit) (l : List Int) (h : C2Tn (a,l)) : Qa1 TP 82 [.sl 1 (l.map eI),.fn 83 [V.pa [.fn 52 (eU0 a)]]] (.b (l.any (fun x => !pTn a x))) := by
 refine pc Zaq func82 cf82 ?_
 have g := Zik a l
 have q := Qab (fun x => !pTn a x) l
 generalize idxOf (fun x => !pTn a x) l = r at *
 generalize l.any (fun x => !pTn a x) = r2 at *
 try simp only [eU0,eI] at g
 simp only [rc82,rs82,eU0,g,h,q,BL,simprocAttr]
def K101 := K100.ext 82 (fnG e2Tn d2Tn (C2Tn) (fun a => a.2.any (fun x => !pTn a.1 x)) (.b))
def Zar : GOk TP K101 := Zaq.ext call82 (Qa7 fun a h => Zmj a.1 a.2 h)
def Zpp (a : Unit) (l : List Int) : K101 82 [.sl 1 (l.map eI),.fn 83 [V.pa [.fn 52 (eU0 a)]]] = (C2Tn (a,l),.b (l.any (fun x => !pTn a x))) := (kx K101 82 (Za8 (a,l)) rfl :)
def e3Tn (a : Unit × List Int) : List V := [.sl 1 (a.2.map eI),.fn 52 (eU0 a.1)]
def d3Tn : List V → Unit × List Int | [.sl _ l,.fn _ c] => (dU0 c,l.map dI) | _ => (dU0 [],[])
def Zhh (a : Unit × List Int) : d3Tn (e3Tn a) = a := by obtain ⟨a,l⟩ := a; simp [d3Tn,e3Tn,Qya,Qas,Function.comp_def]
def Zmf (a : Unit) (l : List Int) (h : C2Tn (a,l)) : Qa1 TP 51 [.sl 1 (l.map eI),.fn 52 (eU0 a)] (.b (l.all (pTn a))) := by
 refine pc Zar func51 cf51 ?_
 have e : (!(l.any (fun x => !pTn a x))) = l.all (pTn a) := by rw [Q2]; simp
 have g := Zpp a l
 generalize l.any (fun x => !pTn a x) = r at *
 try simp only [eU0,eI] at g
 simp only [rc51,rs51,eU0,g,h,e,BL,simprocAttr]
def K102 := K101.ext 51 (fnG e3Tn d3Tn (C2Tn) (fun a => a.2.all (pTn a.1)) (.b))
def Zas : GOk TP K102 := Zar.ext call51 (Qa7 fun a h => Zmf a.1 a.2 h)
def Zpl (a : Unit) (l : List Int) : K102 51 [.sl 1 (l.map eI),.fn 52 (eU0 a)] = (C2Tn (a,l),.b (l.all (pTn a))) := (kx K102 51 (Zhh (a,l)) rfl :)
def pJb (w : Work) (j : Int × Int) : Bool := Qay w j.1 j.2
def CJb (w : Work) (_ : Int × Int) : Prop := SmallW w
def eWc (w : Work) : List V := [.pa (Qai w)]
def dWc : List V → Work | [.pa w] => Qc0 w | _ => Qc0 []
def Qyb (w : Work) : dWc (eWc w) = w := by simp [dWc,eWc,Qc3]
def Zd5 (w : Work) (m k : Int) := lft K102 (Zgi w m k) rfl
def X55 (w : Work) (j : Int × Int) (h : SmallW w) : Qa1 TP 55 (.ag (eSp j) :: eWc w) (.b (pJb w j)) := by
 refine pc Zas func55 cf55 ?_
 have g := Zd5 w j.1 j.2
 simp only [Qai] at g
 unfold pJb
 simp only [rc55,rs55,eWc,eSp,g,BL,simprocAttr]
 exact h
def e55 (a : Work × (Int × Int)) : List V := .ag (eSp a.2) :: eWc a.1
def d55 : List V → Work × (Int × Int) | .ag s :: c => (dWc c,dSp s) | _ => (dWc [],(0,0))
def Zon (a : Work × (Int × Int)) : d55 (e55 a) = a := by obtain ⟨a,x⟩ := a; simp [d55,e55,Qyb,Qtn]
def K103 := K102.ext 55 (fnG e55 d55 (fun a => SmallW a.1) (fun a => pJb a.1 a.2) (.b))
def Zat : GOk TP K103 := Zas.ext call55 (Qa7 fun a h => X55 a.1 a.2 h)
def x55 (a : Work) (x : Int × Int) : K103 55 (.ag (eSp x) :: eWc a) = (CJb a x,.b (pJb a x)) := (kx K103 55 (Zon (a,x)) rfl :)
def Zmp (hG : GOk TP Γ) (l : List (Int × Int)) (f : Nat) (hf : f < 1000000) (caps : List V) (p : (Int × Int) → Bool) (C : (Int × Int) → Prop) (hC : ∀ x ∈ l,C x) (hv : caps.map (vw [] 8) = caps) (hr : Qa8 caps = false) (hl : l.length < 10000000)
  (h : ∀ x ∈ l,Γ f (V.ag (eSp x) :: caps) = (C x,.b (p x))) : Qa1 TP 123 [.sl 2 (l.map eSp),.fn f caps] (.i (idxOf p l)) := by
 refine pc hG func123 Zn9 ?_
 simp only [rc123,rs123,BL,simprocAttr]
 refine Qao l.length (fun i => ⟨lkp [(0,.sl 2 (l.map eSp)),(1,.fn f caps),(7,.i l.length),(8,.i i)],[]⟩) (fun i => ∀ j x,j < i → l[j]? = some x → p x = false) ?_ ?_ ?_ ?_
 ·simp only [Qd,BL,simprocAttr]
 ·intro j x h; omega
 ·intro i hi hc
  obtain ⟨x,hx⟩ : ∃ x,l[i]? = some x := ⟨_,Qc hi⟩
  have hlt : (i : Int) < l.length := by omega
  have h3 : inI ((i : Int) + 1) := by unfold inI; omega
  have hp := h x (Qe hx)
  have hCx := hC x (Qe hx)
  try simp only [eSp,eMake] at hp
  simp only [hx,hlt,Qa,Qb,h3,hp,hv,hr,hf,hCx,eSp,BL,simprocAttr]
  refine ⟨fun e => ?_,fun e => ?_⟩
  ·rw [Qah hx e hc]
  ·exact Qbd hx e hc
 ·intro hc
  simp only [BL,simprocAttr]
  exact (Qaa fun x hx => by
   obtain ⟨j,hj⟩ := Q7 hx
   exact hc j x (by have := Qag hj; exact this) hj).symm
def e1Jb (a : Work × (Int × Int)) : List V := [.ag (eSp a.2),.pa [.fn 55 (eWc a.1)]]
def d1Jb : List V → Work × (Int × Int) | [.ag s,.pa [.fn _ c]] => (dWc c,dSp s) | _ => (dWc [],dSp [])
def Zh7 (a : Work × (Int × Int)) : d1Jb (e1Jb a) = a := by obtain ⟨a,x⟩ := a; simp [d1Jb,e1Jb,Qyb,Qtn]
def Zmm (a : Work) (x : (Int × Int)) (h : CJb a x) : Qa1 TP 85 [.ag (eSp x),.pa [.fn 55 (eWc a)]] (.b (!pJb a x)) := by
 refine pc Zat func85 cf85 ?_
 have g := x55 a x
 try simp only [eWc,eSp,Qai] at g
 simp only [rc85,rs85,eWc,eSp,g,h,BL,simprocAttr]
def K104 := K103.ext 85 (fnG e1Jb d1Jb (fun a => CJb a.1 a.2) (fun a => !pJb a.1 a.2) (.b))
def Zau : GOk TP K104 := Zat.ext call85 (Qa7 fun a h => Zmm a.1 a.2 h)
def Zps (a : Work) (x : (Int × Int)) : K104 85 [.ag (eSp x),.pa [.fn 55 (eWc a)]] = (CJb a x,.b (!pJb a x)) := (kx K104 85 (Zh7 (a,x)) rfl :)
def e2Jb (a : Work × List (Int × Int)) : List V := [.sl 2 (a.2.map eSp),.fn 85 [V.pa [.fn 55 (eWc a.1)]]]
def d2Jb : List V → Work × List (Int × Int) | [.sl _ l,.fn _ [.pa [.fn _ c]]] => (dWc c,l.map dSp) | _ => (dWc [],[])
def Za3 (a : Work × List (Int × Int)) : d2Jb (e2Jb a) = a := by obtain ⟨a,l⟩ := a; simp [d2Jb,e2Jb,Qyb,Qtn,Function.comp_def]
def C2Jb (a : Work × List (Int × Int)) : Prop := a.2.length < 10000000 ∧ ∀ x ∈ a.2,CJb a.1 x
def vwJb (a : Work) : ([V.pa [.fn 55 (eWc a)]] : List V).map (vw [] 8) = [V.pa [.fn 55 (eWc a)]] := by
 unfold eWc
 simp only [Zfp,Zfo,Zfq,vw_I,BL,simprocAttr]
def rfJb (a : Work) : Qa8 ([V.pa [.fn 55 (eWc a)]] : List V) = false := rfl
def K105 := K104.ext 123 (fnG e2Jb d2Jb (C2Jb) (fun a => idxOf (fun x => !pJb a.1 x) a.2) (.i))
def Zav : GOk TP K105 := Zau.ext call123 (Qa7 fun a h => Zmp Zau a.2 85 (by decide) [V.pa [.fn 55 (eWc a.1)]] (fun x => !pJb a.1 x) (CJb a.1) h.2 (vwJb a.1) (rfJb a.1) h.1 fun x _ => Zps a.1 x)
def Zil (a : Work) (l : List (Int × Int)) : K105 123 [.sl 2 (l.map eSp),.fn 85 [V.pa [.fn 55 (eWc a)]]] = (C2Jb (a,l),.i (idxOf (fun x => !pJb a x) l)) := (kx K105 123 (Za3 (a,l)) rfl :)
def Zml (a : Work) (l : List (Int × Int)) (h : C2Jb (a,l)) : Qa1 TP 84 [.sl 2 (l.map eSp),.fn 85 [V.pa [.fn 55 (eWc a)]]] (.b (l.any (fun x => !pJb a x))) := by
 refine pc Zav func84 cf84 ?_
 have g := Zil a l
 have q := Qab (fun x => !pJb a x) l
 generalize idxOf (fun x => !pJb a x) l = r at *
 generalize l.any (fun x => !pJb a x) = r2 at *
 try simp only [eWc,eSp,Qai] at g
 simp only [rc84,rs84,eWc,g,h,q,BL,simprocAttr]
def K106 := K105.ext 84 (fnG e2Jb d2Jb (C2Jb) (fun a => a.2.any (fun x => !pJb a.1 x)) (.b))
def Zaw : GOk TP K106 := Zav.ext call84 (Qa7 fun a h => Zml a.1 a.2 h)
def Zpr (a : Work) (l : List (Int × Int)) : K106 84 [.sl 2 (l.map eSp),.fn 85 [V.pa [.fn 55 (eWc a)]]] = (C2Jb (a,l),.b (l.any (fun x => !pJb a x))) := (kx K106 84 (Za3 (a,l)) rfl :)
def e3Jb (a : Work × List (Int × Int)) : List V := [.sl 2 (a.2.map eSp),.fn 55 (eWc a.1)]
def d3Jb : List V → Work × List (Int × Int) | [.sl _ l,.fn _ c] => (dWc c,l.map dSp) | _ => (dWc [],[])
def Zhf (a : Work × List (Int × Int)) : d3Jb (e3Jb a) = a := by obtain ⟨a,l⟩ := a; simp [d3Jb,e3Jb,Qyb,Qtn,Function.comp_def]
def Zmg (a : Work) (l : List (Int × Int)) (h : C2Jb (a,l)) : Qa1 TP 54 [.sl 2 (l.map eSp),.fn 55 (eWc a)] (.b (l.all (pJb a))) := by
 refine pc Zaw func54 cf54 ?_
 have e : (!(l.any (fun x => !pJb a x))) = l.all (pJb a) := by rw [Q2]; simp
 have g := Zpr a l
 generalize l.any (fun x => !pJb a x) = r at *
 try simp only [eWc,eSp,Qai] at g
 simp only [rc54,rs54,eWc,g,h,e,BL,simprocAttr]
def K107 := K106.ext 54 (fnG e3Jb d3Jb (C2Jb) (fun a => a.2.all (pJb a.1)) (.b))
def Zax : GOk TP K107 := Zaw.ext call54 (Qa7 fun a h => Zmg a.1 a.2 h)
def Zpm (a : Work) (l : List (Int × Int)) : K107 54 [.sl 2 (l.map eSp),.fn 55 (eWc a)] = (C2Jb (a,l),.b (l.all (pJb a))) := (kx K107 54 (Zhf (a,l)) rfl :)
end Go.CS
end
namespace Go.CS
open Go.Fam
abbrev Gw := Bool × List Int × AM Int
def Qg4 (work : List Int) (x : Int) (k : Nat) : List Int := ((Qr k).filter fun (i : Nat) => decide (work.getD i 0 = x)).map fun (i : Nat) => (i : Int)
def Qb3 (work : List Int) (x : Int) : List Int := Qg4 work x work.length
def Qtv (work : List Int) (x : Int) (k : Nat) : Qg4 work x (k + 1) = if work.getD k 0 = x then Qg4 work x k ++ [(k : Int)] else Qg4 work x k := by
 unfold Qg4
 rw [Zv,Zq,Qk]
 by_cases h : work.getD k 0 = x
 ·rw [if_pos h]; simp only [Qw,Qs,h,decide_true,↓reduceIte,Qm,Qv]
 ·rw [if_neg h]; simp only [Qw,Qs,h,decide_false,Ze,↓reduceIte,Qv,Q4]
def Qes (work : List Int) (x : Int) (k : Nat) : (Qg4 work x k).length ≤ k := by
 unfold Qg4
 rw [Qf]
 exact Zh (Qz _ _) (by simp)
def Qok {work : List Int} {x j : Int} : j ∈ Qb3 work x ↔ ∃ i : Nat,j = i ∧ i < work.length ∧ work.getD i 0 = x := by
 unfold Qb3 Qg4
 simp only [Qo,Zw,Qy,decide_eq_true_eq]
 constructor
 ·rintro ⟨i,⟨h1,h2⟩,rfl⟩; exact ⟨i,rfl,h1,h2⟩
 ·rintro ⟨i,rfl,h1,h2⟩; exact ⟨i,⟨h1,h2⟩,rfl⟩
def askN (a : AM Int) (x : Int) : Int := (aget a [x]).getD 0
def askA (a : AM Int) (x : Int) : AM Int := aput a [x] (askN a x + 1)
def Qe0 (a : AM Int) (x y : Int) : askN (askA a x) y = if y = x then askN a x + 1 else askN a y := by
 unfold askN askA
 rw [Qkj]
 by_cases h : y = x
 ·subst h; simp [askN]
 ·rw [if_neg (by simpa using h),if_neg h]
def hlW (rec : Int → List Int → AM Int → Gw) (job : Int) (x : Int) : List Int → List Int → AM Int → Gw
 | [],work,a => (false,work,a)
 | o :: l,work,a => if (rec o work a).1 = true then (true,(rec o work a).2.1.set job.toNat x,(rec o work a).2.2) else hlW rec job x l (rec o work a).2.1 (rec o work a).2.2
def flW (stock : List Int) (rec : Int → List Int → AM Int → Gw) (job : Int) : List Int → List Int → AM Int → Gw
 | [],work,a => (false,work,a)
 | x :: l,work,a => if 1 < askN a x + 1 then flW stock rec job l work (askA a x)
  else if ((Qb3 work x).length : Int) < stock.getD x.toNat 0 then (true,work.set job.toNat x,askA a x)
  else if (hlW rec job x (Qb3 work x) work (askA a x)).1 = true then hlW rec job x (Qb3 work x) work (askA a x)
  else flW stock rec job l (hlW rec job x (Qb3 work x) work (askA a x)).2.1 (hlW rec job x (Qb3 work x) work (askA a x)).2.2
def gvW (fit : List (List Int)) (stock : List Int) : Nat → Int → List Int → AM Int → Gw
 | 0,_,work,a => (false,work,a)
 | k + 1,job,work,a => flW stock (gvW fit stock k) job (fit.getD job.toNat []) work a
def unA (n : Nat) (a : AM Int) : Nat := ((Qr n).filter fun (i : Nat) => decide (askN a i ≤ 0)).length
def Qqj (n : Nat) (a : AM Int) : unA n a ≤ n := Zh (Qz _ _) (by simp)
def Qqu {α : Type} {p q : α → Bool} : ∀ l : List α,(∀ x ∈ l,q x = true → p x = true) → (l.filter q).length ≤ (l.filter p).length
 | [],_ => Qi _
 | x :: l,h => by
  have ih := Qqu (p := p) (q := q) l fun y hy => h y (by simp [hy])
  have hx := h x (by simp)
  cases e1 : q x <;> cases e2 : p x
  ·simp [e1,e2]; exact ih
  ·simp [e1,e2]; omega
  ·rw [hx e1] at e2; cases e2
  ·simp [e1,e2]; exact ih
def Qvk {α : Type} {p q : α → Bool} : ∀ l : List α,(∀ x ∈ l,q x = true → p x = true) → (∃ x ∈ l,p x = true ∧ q x = false) → (l.filter q).length < (l.filter p).length
 | [],_,⟨_,h,_⟩ => by cases h
 | x :: l,h,⟨y,hy,h1,h2⟩ => by
  have ih := Qqu (p := p) (q := q) l fun y hy => h y (by simp [hy])
  have hx := h x (by simp)
  rcases Q5.1 hy with rfl | hy
  ·simp [h1,h2]; omega
  ·have ih := Qvk (p := p) (q := q) l (fun y hy => h y (by simp [hy])) ⟨y,hy,h1,h2⟩
   cases e1 : q x <;> cases e2 : p x
   ·simp [e1,e2]; exact ih
   ·simp [e1,e2]; omega
   ·rw [hx e1] at e2; cases e2
   ·simp [e1,e2]; exact ih
structure PI (n m : Nat) (b : Int) (work : List Int) (a : AM Int) : Prop where
 len : work.length = m
 val : ∀ v ∈ work,v = -1 ∨ (0 ≤ v ∧ v < n)
 nod : (aks a).Nodup
 low : ∀ x,0 ≤ askN a x
 cnt : ∀ x,askN a x + 100 * (unA n a : Int) ≤ b
def PI.mono {n m : Nat} {b b' : Int} {work : List Int} {a : AM Int} (h : PI n m b work a) (hb : b ≤ b') : PI n m b' work a := ⟨h.len,h.val,h.nod,h.low,fun x => by have := h.cnt x; omega⟩
def PI.set {n m : Nat} {b : Int} {work : List Int} {a : AM Int} (h : PI n m b work a) (i : Nat) {x : Int} (hx : 0 ≤ x ∧ x < n) : PI n m b (work.set i x) a := by
 refine ⟨by rw [List.length_set]; exact h.len,fun v hv => ?_,h.nod,h.low,h.cnt⟩
 rcases List.mem_or_eq_of_mem_set hv with hv | rfl
 ·exact h.val v hv
 ·exact .inr hx
def Qgi (n : Nat) (a : AM Int) (x : Int) (h : 0 ≤ askN a x) : unA n (askA a x) ≤ unA n a := by
 refine Qqu _ fun i _ hi => ?_
 rw [decide_eq_true_eq,Qe0] at hi
 rw [decide_eq_true_eq]
 split at hi
 ·omega
 ·exact hi
def Qgj {n : Nat} {a : AM Int} {x : Int} (hx : 0 ≤ x ∧ x < n) (h : askN a x = 0) : unA n (askA a x) < unA n a := by
 refine Qvk _ (fun i _ hi => ?_) ⟨x.toNat,by simp; omega,?_,?_⟩
 ·rw [decide_eq_true_eq,Qe0] at hi
  rw [decide_eq_true_eq]
  split at hi
  ·omega
  ·exact hi
 ·rw [decide_eq_true_eq,show ((x.toNat : Nat) : Int) = x by omega]; omega
 ·rw [decide_eq_false_iff_not,show ((x.toNat : Nat) : Int) = x by omega,Qe0,if_pos rfl]; omega
def PI.ask {n m : Nat} {b : Int} {work : List Int} {a : AM Int} (h : PI n m b work a) (x : Int) : PI n m (b + 1) work (askA a x) := by
 refine ⟨h.len,h.val,Qfx h.nod _ _,fun y => ?_,fun y => ?_⟩
 ·rw [Qe0]
  have h1 := h.low x
  have h2 := h.low y
  split <;> omega
 ·have h1 := Qgi n a x (h.low x)
  have h2 := h.cnt x
  have h3 := h.cnt y
  rw [Qe0]
  split <;> omega
def PI.askNew {n m : Nat} {b : Int} {work : List Int} {a : AM Int} (h : PI n m b work a) {x : Int} (hx : 0 ≤ x ∧ x < n) (h0 : askN a x = 0) : PI n m (b - 99) work (askA a x) := by
 refine ⟨h.len,h.val,Qfx h.nod _ _,fun y => ?_,fun y => ?_⟩
 ·rw [Qe0]
  have h1 := h.low x
  have h2 := h.low y
  split <;> omega
 ·have h1 := Qgj hx h0
  have h2 := h.cnt x
  have h3 := h.cnt y
  rw [Qe0]
  split <;> omega
def Qoc {n m : Nat} {b : Int} {work : List Int} {a : AM Int} (h : PI n m b work a) {x j : Int} (hj : j ∈ Qb3 work x) : 0 ≤ j ∧ j < m := by
 obtain ⟨i,rfl,h1,_⟩ := Qok.1 hj
 have := h.len
 omega
def Qqo (n m : Nat) (rec : Int → List Int → AM Int → Gw) (c : Nat) : Prop := ∀ (b : Int) (j : Int) (work : List Int) (a : AM Int),0 ≤ j ∧ j < m → unA n a < c → PI n m b work a →
 PI n m (b + 10) (rec j work a).2.1 (rec j work a).2.2 ∧ unA n (rec j work a).2.2 ≤ unA n a
def Qi7 {n m : Nat} {rec : Int → List Int → AM Int → Gw} {c : Nat} (hr : Qqo n m rec c) {job x : Int} (hx : 0 ≤ x ∧ x < n) : ∀ (l : List Int) (b : Int) (work : List Int) (a : AM Int),(∀ o ∈ l,0 ≤ o ∧ o < m) → unA n a < c → PI n m b work a →
  PI n m (b + 10 * l.length) (hlW rec job x l work a).2.1 (hlW rec job x l work a).2.2 ∧ unA n (hlW rec job x l work a).2.2 ≤ unA n a
 | [],b,work,a,_,_,h => ⟨h.mono (by simp),Qi _⟩
 | o :: l,b,work,a,hl,hu,h => by
  obtain ⟨h1,h2⟩ := hr b o work a (hl o (by simp)) hu h
  unfold hlW
  split
  ·exact ⟨(h1.mono (by simp only [Qp]; omega)).set _ hx,h2⟩
  ·obtain ⟨h3,h4⟩ := Qi7 hr hx l (b + 10) _ _ (fun y hy => hl y (by simp [hy])) (by omega) h1 (job := job)
   exact ⟨h3.mono (by simp only [Qp]; omega),by omega⟩
def Qle {n m : Nat} {stock : List Int} {rec : Int → List Int → AM Int → Gw} {c : Nat} (hr : Qqo n m rec c) (hm : m ≤ 10) {job : Int} : ∀ (l : List Int) (b : Int) (work : List Int) (a : AM Int),(∀ x ∈ l,0 ≤ x ∧ x < n) → unA n a < c + 1 → PI n m b work a →
  PI n m (b + l.length) (flW stock rec job l work a).2.1 (flW stock rec job l work a).2.2 ∧ unA n (flW stock rec job l work a).2.2 ≤ unA n a
 | [],b,work,a,_,_,h => ⟨h.mono (by simp),Qi _⟩
 | x :: l,b,work,a,hl,hu,h => by
  have hx := hl x (by simp)
  have hl' : ∀ y ∈ l,0 ≤ y ∧ y < n := fun y hy => hl y (by simp [hy])
  have mH := Qgi n a x (h.low x)
  unfold flW
  split
  ·obtain ⟨h3,h4⟩ := Qle hr hm l (b + 1) work (askA a x) hl' (by omega) (h.ask x) (stock := stock) (job := job)
   exact ⟨h3.mono (by simp only [Qp]; omega),by omega⟩
  ·rename_i h0
   have zF : askN a x = 0 := by have := h.low x; omega
   have hlt := Qgj hx zF
   have hn := h.askNew hx zF
   split
   ·exact ⟨(hn.mono (by simp only [Qp]; omega)).set _ hx,mH⟩
   ·have nM : (Qb3 work x).length ≤ 10 := by
     have := Qes work x work.length
     have := h.len
     unfold Qb3; omega
    obtain ⟨h5,h6⟩ := Qi7 hr hx (Qb3 work x) (b - 99) work (askA a x) (fun o ho => Qoc h ho) (by omega) hn (job := job)
    split
    ·exact ⟨h5.mono (by simp only [Qp]; omega),by omega⟩
    ·obtain ⟨h3,h4⟩ := Qle hr hm l (b + 1) _ _ hl' (by omega) (h5.mono (by omega)) (stock := stock) (job := job)
     exact ⟨h3.mono (by simp only [Qp]; omega),by omega⟩
structure OkFit (n : Nat) (fit : List (List Int)) (stock : List Int) : Prop where
 ml : fit.length ≤ 10
 nl : n ≤ 10
 stock : stock.length = n
 row : ∀ l ∈ fit,l.length ≤ 10
 val : ∀ l ∈ fit,∀ x ∈ l,0 ≤ x ∧ x < n
def Qo7 {n : Nat} {fit : List (List Int)} {stock : List Int} (h : OkFit n fit stock) (j : Nat) : (fit.getD j []).length ≤ 10 ∧ ∀ x ∈ fit.getD j [],0 ≤ x ∧ x < n := by
 rw [Qh]
 cases e : fit[j]? with
 | none => simp
 | some l => exact ⟨h.row l (Qe e),h.val l (Qe e)⟩
def Qg3 {n : Nat} {fit : List (List Int)} {stock : List Int} (hf : OkFit n fit stock) : ∀ c,Qqo n fit.length (gvW fit stock c) c
 | 0 => fun b j work a _ hu _ => absurd hu (Xe _)
 | c + 1 => fun b j work a hj hu h => by
  obtain ⟨h1,h2⟩ := Qo7 hf j.toNat
  obtain ⟨h3,h4⟩ := Qle (Qg3 hf c) hf.ml (fit.getD j.toNat []) b work a h2 hu h (stock := stock) (job := j)
  exact ⟨h3.mono (by omega),h4⟩
end Go.CS
noncomputable section
namespace Go.CS
open Go.Fam Go.Proofs
open Go.Proofs.Tryz
open Go.Proofs.Tryz renaming prog → TP
open Go.C06 (fnG Qap Span eI eSpan gI gR dI Qas Qa7 Qa3 Qa4 idxOf Qah Qaa Qab Qaf Qa9 Qa6 Qa5 Qad Qal Qaz vw_I Qaj hmix eLI dLI Qb1 Qac Qa0 Qa2 Qae)
variable {Γ : Gam}
set_option maxRecDepth 100000
def X28 (v1 v2 : V) (work : List Int) (x : Int) (h : work.length ≤ 1000000) : Qd3 TP 28 [.pa [v1,v2,.sl 1 (work.map eI)],.i x] (.rf 0 (Qb3 work x).length 0 (Qb3 work x).length 1) [.cells (Qb3 work x).length ((Qb3 work x).map V.i)] := by
 refine Qku Zax hmix func28 cf28.b cf28.c cf28.s cf28.n ?_
 have z6 : Qb3 work x = Qg4 work x work.length := rfl
 simp only [rc28,rs28,BL,simprocAttr]
 refine Qaq work.length (fun i => ⟨lkp [(1,.i x),(5,.rf 0 (Qg4 work x i).length 0 (Qg4 work x i).length 1),(11,.sl 1 (work.map eI)),(12,.i work.length),(13,.i i)],[.cells (Qg4 work x i).length ((Qg4 work x i).map V.i)]⟩) ?_ ?_ ?_
 ·simp only [Qd,Qg4,Zx,Qs,BL,simprocAttr]
 ·intro i hi
  have hlt : (i : Int) < work.length := by omega
  have i1 : inI ((i : Int) + 1) := by unfold inI; omega
  obtain ⟨y,hy⟩ : ∃ y,work[i]? = some y := ⟨_,Qc hi⟩
  have pH : work.getD i 0 = y := by rw [Qh,hy]; rfl
  have k8 := Qtv work x i
  rw [pH] at k8
  have kA := Qes work x i
  have f1 : Qam ((Qg4 work x i).length + 1) := by unfold Qam; omega
  by_cases e : y = x
  ·rw [if_pos e] at k8
   simp only [hlt,hy,e,i1,f1,k8,Qk,Ql,Qg,Qj,Qn,Qa,Qb,BL,simprocAttr]
  ·rw [if_neg e] at k8
   simp only [hlt,hy,e,i1,k8,Qa,Qb,BL,simprocAttr]
 ·have hlt : ¬ ((work.length : Int) < work.length) := by omega
  simp only [hlt,z6,BL,simprocAttr]
def e28 (a : (V × V) × List Int × Int) : List V := [.pa [a.1.1,a.1.2,.sl 1 (a.2.1.map eI)],.i a.2.2]
def d28 : List V → (V × V) × List Int × Int | [.pa [v1,v2,.sl _ w],.i x] => ((v1,v2),w.map dI,x) | _ => ((.u,.u),[],0)
def Zha (a : (V × V) × List Int × Int) : d28 (e28 a) = a := by obtain ⟨⟨v1,v2⟩,w,x⟩ := a; simp [d28,e28,Function.comp_def,Qas]
def b28 (L : List Int) : V := .tp [.rf 0 L.length 0 L.length 1,.tp [bV (.cells L.length (L.map V.i))]]
def Zj0 (xs : List V) (v : V) (bs : List V) (h : (fnG e28 d28 (fun a => a.2.1.length ≤ 1000000) (fun a => Qb3 a.2.1 a.2.2) b28 xs).1) (h2 : (fnG e28 d28 (fun a => a.2.1.length ≤ 1000000) (fun a => Qb3 a.2.1 a.2.2) b28 xs).2 = .tp [v,.tp bs]) : Qd3 TP 28 xs v (bs.map vB) := by
 unfold fnG at h h2
 obtain ⟨h0,h1⟩ := h
 simp only [b28,V.tp.injEq,Z8.injEq,and_true] at h2
 obtain ⟨rfl,rfl⟩ := h2
 have := X28 (d28 xs).1.1 (d28 xs).1.2 (d28 xs).2.1 (d28 xs).2.2 h1
 rw [show [V.pa [(d28 xs).1.1,(d28 xs).1.2,.sl 1 ((d28 xs).2.1.map eI)],V.i (d28 xs).2.2] = xs from h0] at this
 simpa only [Qm,Qv,Qb2] using this
def Qlh (L : List Int) : (L.map eI).flatten = L.map V.i := by induction L <;> simp_all [eI]
def X28p (v1 v2 : V) (work : List Int) (x : Int) (h : work.length ≤ 1000000) : Qa1 TP 28 [.pa [v1,v2,.sl 1 (work.map eI)],.i x] (.sl 1 ((Qb3 work x).map eI)) := by
 have := (X28 v1 v2 work x h).toPure
 have e : vw [.cells (Qb3 work x).length ((Qb3 work x).map V.i)] 8 (.rf 0 (Qb3 work x).length 0 (Qb3 work x).length 1) = .sl 1 ((Qb3 work x).map eI) := by
  have h1 := Qal (Qb3 work x)
  have h2 := Qaz (Qb3 work x)
  rw [Qlh] at h1 h2
  simp only [h2,Qn,Qi,h1,vw_I,↓reduceIte,Qq,Qql,Nat.zero_add,and_self]
 rw [e] at this
 exact this
def K108 := (K107.ext 1000028 (fnG e28 d28 (fun a => a.2.1.length ≤ 1000000) (fun a => Qb3 a.2.1 a.2.2) b28)).ext 28 (fnG e28 d28 (fun a => a.2.1.length ≤ 1000000) (fun a => Qb3 a.2.1 a.2.2) fun L => .sl 1 (L.map eI))
def Qwn : GOk TP K108 := (Zax.extO call28 Zj0).ext call28 (Qa7 fun a h => X28p a.1.1 a.1.2 a.2.1 a.2.2 h)
def x28o (v1 v2 : V) (work : List Int) (x : Int) : K108 1000028 [.pa [v1,v2,.sl 1 (work.map eI)],.i x] = (work.length ≤ 1000000,.tp [.rf 0 (Qb3 work x).length 0 (Qb3 work x).length 1,.tp [bV (.cells (Qb3 work x).length ((Qb3 work x).map V.i))]]) :=
 (show K108 1000028 _ = fnG e28 d28 (fun a => a.2.1.length ≤ 1000000) (fun a => Qb3 a.2.1 a.2.2) b28 (e28 ((v1,v2),work,x)) from rfl).trans (Qap _ (Zha ((v1,v2),work,x)))
def x28 (v1 v2 : V) (work : List Int) (x : Int) : K108 28 [.pa [v1,v2,.sl 1 (work.map eI)],.i x] = (work.length ≤ 1000000,.sl 1 ((Qb3 work x).map eI)) :=
 (show K108 28 _ = fnG e28 d28 (fun a => a.2.1.length ≤ 1000000) (fun a => Qb3 a.2.1 a.2.2) (fun L => .sl 1 (L.map eI)) (e28 ((v1,v2),work,x)) from rfl).trans (Qap _ (Zha ((v1,v2),work,x)))
def gIs : V → List Int | .sl _ l => l.map dI | _ => []
def Zdj (r : List V) : List Int := gIs (r.headD .u)
def Zdk (l : List Int) : Zdj (eLens l) = l := by simp [Zdj,eLens,gIs,Function.comp_def,Qas]
structure D60 where
 fit : List (List Int)
 stock : List Int
 work : List Int
 ask : AM Int
 job : Int
def eA60 (x : D60) : List V := [.ad 1 0 0,.i x.job,.mp 2 0]
def eT60 (fit : List (List Int)) (stock : List Int) : Blk := .cells 0 [.sl 1 (fit.map eLens),.sl 1 (stock.map eI),.rf 0 0 0 fit.length 1]
def eM60 (a : AM Int) : Blk := .map false (aks a) (avs V.i a)
def eH60 (x : D60) : List Blk := [.cells 0 (x.work.map V.i),eT60 x.fit x.stock,eM60 x.ask]
def Qyc (xs : List V) (hp : List Blk) : D60 := match xs,hp with
 | [_,.i job,_],[.cells _ w,.cells _ [.sl _ f,.sl _ s,_],.map _ ks vs] => ⟨f.map Zdj,s.map dI,w.map gI,ks.zip (vs.map gI),job⟩
 | _,_ => ⟨[],[],[],[],0⟩
def Zck : ∀ a : AM Int,(aks a).zip ((avs V.i a).map gI) = a
 | [] => rfl
 | (k,x) :: a => by
  have := Zck a
  simp only [aks,avs,Qm,List.zip_cons_cons,gI] at this ⊢
  rw [this]
def Zdo (x : D60) : Qyc (eA60 x) (eH60 x) = x := by
 obtain ⟨f,s,w,a,j⟩ := x
 have e : (w.map V.i).map gI = w := by rw [Q9]; exact List.map_id'' (fun _ => rfl) w
 simp only [Qyc,eA60,eH60,eT60,eM60,e,Zck,Q9,Function.comp_def,Zdk,Qas,List.map_id']
structure C60 (k : Nat) (x : D60) : Prop where
 fit : OkFit x.stock.length x.fit x.stock
 job : 0 ≤ x.job ∧ x.job < x.fit.length
 pi : PI x.stock.length x.fit.length (1000000 - 1000 * k) x.work x.ask
 k : unA x.stock.length x.ask < k
def G60 (k : Nat) (x : D60) : Gw := gvW x.fit x.stock k x.job x.work x.ask
def R60 (k : Nat) (x : D60) (r : V) (hp : List Blk) : Prop := r = .b (G60 k x).1 ∧ hp = [.cells 0 ((G60 k x).2.1.map V.i),eT60 x.fit x.stock,eM60 (G60 k x).2.2]
def HV (k : Nat) : Gam := K108.extH 60 (hpG eA60 eH60 Qyc (C60 k) (R60 k))
def kV (k : Nat) (x : D60) : (HV k).h 60 (eA60 x) (eH60 x) = (C60 k x,R60 k x) :=
 (show (HV k).h 60 _ _ = hpG eA60 eH60 Qyc (C60 k) (R60 k) _ _ from rfl).trans (Qi9 x (Zdo x))
def kV28 (k : Nat) (v1 v2 : V) (work : List Int) (x : Int) : (HV k) 1000028 [.pa [v1,v2,.sl 1 (work.map eI)],.i x] = (work.length ≤ 1000000,.tp [.rf 0 (Qb3 work x).length 0 (Qb3 work x).length 1,.tp [bV (.cells (Qb3 work x).length ((Qb3 work x).map V.i))]]) := x28o v1 v2 work x
def Quv (a : AM Int) (x : Int) : ((avs V.i a)[(aks a).idxOf [x]]?).getD (.i 0) = .i (askN a x) := by
 rw [Qj0]
 unfold askN
 cases aget a [x] <;> rfl
def Zd9 {a : AM Int} (h : (aks a).Nodup) (x : Int) : Blk.map false (putK (aks a) [x]) (Qfv (aks a) (avs V.i a) [x] (.i (askN a x + 1))) = eM60 (askA a x) := by
 unfold eM60 askA
 rw [Qeh,Ql1 h]
def Qfd (a : AM Int) : Qa8 (avs V.i a) = false := Qgc (fun _ => rfl) a
def Qbx (l : List Int) : Qa8 (l.map V.i) = false := Go.C06.noref_Is l
def Qt3 (L : List Int) : Qim (L.map V.i) = true := by induction L <;> simp_all [Qim,Qcr]
def Qhi (w : List Int) {m : Nat} (h : w.length = m) : Qbi 1 (w.map V.i) 0 m = w.map eI := by
 have := Qal w
 rw [Qlh] at this
 rw [← h]; exact this
def X60 (k : Nat) (hG : GOk TP (HV k)) (x : D60) (h : C60 (k + 1) x) : Qb7 TP 60 (eA60 x) (eH60 x) (R60 (k + 1) x) := by
 obtain ⟨fit,stock,work,a,job⟩ := x
 obtain ⟨jV,wQ,zB,hk⟩ := h
 simp only at jV wQ zB hk
 refine Qer hG hmix func60 cf60.b cf60.c cf60.s (by exact cf60.n) (by show 3 ≤ 3; decide) (by decide) ?_
 obtain ⟨RES,hRES⟩ : ∃ RES,RES = gvW fit stock (k + 1) job work a := ⟨_,rfl⟩
 have hR : ∀ r hp,r = .b RES.1 → hp = [.cells 0 (RES.2.1.map V.i),eT60 fit stock,eM60 RES.2.2] → R60 (k + 1) ⟨fit,stock,work,a,job⟩ r hp := fun r hp e1 e2 => ⟨by rw [e1,hRES]; rfl,by rw [e2,hRES]; rfl⟩
 obtain ⟨row,hrow⟩ : ∃ row,fit[job.toNat]? = some row := ⟨_,Qc (by omega)⟩
 have hRL : RES = flW stock (gvW fit stock k) job row work a := by
  rw [hRES]
  show flW stock (gvW fit stock k) job (fit.getD job.toNat []) work a = _
  rw [Qh,hrow]; rfl
 have kH := jV.row row (Qe hrow)
 have iP := jV.val row (Qe hrow)
 have xR := jV.ml
 have qV := jV.nl
 clear hRES
 obtain ⟨n,hn⟩ : ∃ n,n = stock.length := ⟨_,rfl⟩
 obtain ⟨m,hm⟩ : ∃ m,m = fit.length := ⟨_,rfl⟩
 rw [← hn] at jV zB hk qV
 rw [← hm] at zB xR wQ
 have hT : eT60 fit stock = .cells 0 [.sl 1 (fit.map eLens),.sl 1 (stock.map eI),.rf 0 0 0 m 1] := by rw [hm]; rfl
 have gR := fun (w' : List Int) (a' : AM Int) (o : Int) => kV k ⟨fit,stock,w',a',o⟩
 simp only [eA60,eH60,hT,eM60] at gR
 have pI : ∀ (j : Int) (w' : List Int) (a' : AM Int) (b : Int),0 ≤ j ∧ j < m → unA n a' < k → PI n m b w' a' → PI n m (b + 10) (gvW fit stock k j w' a').2.1 (gvW fit stock k j w' a').2.2 ∧ unA n (gvW fit stock k j w' a').2.2 ≤ unA n a' := fun j w' a' b h1 h2 h3 => by
  have := Qg3 jV k b j w' a' (by rw [← hm]; exact h1) h2 (by rw [← hm]; exact h3)
  rw [← hm] at this
  exact this
 have pJ : job < fit.length := by omega
 simp only [eA60,eH60,hT,eM60]
 simp only [rc60,rs60,hrow,wQ,pJ,eLens,↓BU3,BL,simprocAttr]
 refine Qac row.length (fun i (y : List Int × AM Int) => ⟨lkp [(0,.ad 1 0 0),(1,.i job),(2,.mp 2 0),(18,.sl 1 (row.map eI)),(19,.i row.length),(20,.i i)],[.cells 0 (y.1.map V.i),.cells 0 [.sl 1 (fit.map eLens),.sl 1 (stock.map eI),.rf 0 0 0 m 1],.map false (aks y.2) (avs V.i y.2)]⟩)
  (fun i y => PI n m (1000000 - 1000 * ((k + 1 : Nat) : Int) + i) y.1 y.2 ∧ unA n y.2 ≤ unA n a ∧ flW stock (gvW fit stock k) job (row.drop i) y.1 y.2 = RES) (work,a) ?_ ⟨zB.mono (by omega),Qi _,by rw [Q8]; exact hRL.symm⟩ ?_ ?_
 ·simp only [Qd,Qa0 _ _ _ (Qfd _),Qa0 _ _ _ (Qbx _),↓BU3,BL,simprocAttr]
 ·rintro i ⟨w',a'⟩ hi ⟨hp,hu,hL⟩
  simp only at hp hu hL
  have hlt : (i : Int) < row.length := by omega
  have i1 : inI ((i : Int) + 1) := by unfold inI; omega
  obtain ⟨x,hx⟩ : ∃ x,row[i]? = some x := ⟨_,Qc hi⟩
  rw [Qad hx] at hL
  have nN := iP x (Qe hx)
  have jO := Quv a' x
  have kC := Zd9 hp.nod x
  have uH := Quv (askA a' x) x
  rw [Qe0,if_pos rfl] at uH
  have qK := hp.low x
  have cE := hp.cnt x
  have i2 : inI (askN a' x + 1) := by unfold inI; omega
  unfold eM60 at kC
  have wI := hp.ask x
  have p7 := Qgi n a' x qK
  by_cases e1 : 1 < askN a' x + 1
  ·have hL' : flW stock (gvW fit stock k) job (row.drop (i + 1)) w' (askA a' x) = RES := by
    rw [← hL]; conv => rhs; unfold flW
    rw [if_pos e1]
   simp only [hlt,hx,jO,i2,kC,uH,e1,i1,Qa0 _ _ _ (Qfd _),Qa0 _ _ _ (Qbx _),Qa,Qb,↓BU3,BL,simprocAttr]
   exact ⟨(w',askA a' x),⟨wI.mono (by omega),by show unA n (askA a' x) ≤ unA n a; omega,hL'⟩,rfl⟩
  have zF : askN a' x = 0 := by omega
  have xI := Qgj (n := n) (a := a') (x := x) (by omega) zF
  have cY := hp.askNew (by omega) zF
  have qO : w'.length = m := hp.len
  have nO : m ≤ 1000000 := by omega
  have vH := Qhi w' qO
  have g1 := kV28 k (.sl 1 (fit.map eLens)) (.sl 1 (stock.map eI)) w' x
  obtain ⟨L,hLd⟩ : ∃ L,L = Qb3 w' x := ⟨_,rfl⟩
  have hLl : L.length ≤ 10 := by
   have := Qes w' x w'.length
   rw [hLd]; unfold Qb3; omega
  have hLin : ∀ o ∈ L,0 ≤ o ∧ o < m := fun o ho => Qoc hp (by rw [← hLd]; exact ho)
  have hckL : Qbi 1 (L.map V.i) 0 L.length = L.map eI := Qhi L rfl
  obtain ⟨q,hq⟩ : ∃ q,stock[x.toNat]? = some q := ⟨_,Qc (by omega)⟩
  have nP : stock.getD x.toNat 0 = q := by rw [Qh,hq]; rfl
  rw [← hLd] at g1
  have xJ : x < stock.length := by omega
  have vY : job.toNat < w'.length := by omega
  have hpI := Go.C06.putI w' job.toNat x vY
  have c1 : job.toNat + 1 ≤ m := by omega
  have aH : job < m := by omega
  have aJ := wQ.1
  by_cases e2 : (L.length : Int) < q
  ·have hL' : RES = (true,w'.set job.toNat x,askA a' x) := by
    rw [← hL]; unfold flW
    rw [if_neg e1,← hLd,nP,if_pos e2]
   simp only [hlt,hx,jO,i2,kC,uH,e1,vH,qO,g1,nO,hckL,vw_I,Qt3,Qda _ _ (Qbx _),hpF,upB,Qae _ _ (Qbx _),Qae _ _ (Qfd _),hq,nN,xJ,e2,aH,aJ,hpI,c1,Qi,Qn,Qa0 _ _ _ (Qfd _),Qa0 _ _ _ (Qbx _),↓BU3,BL,simprocAttr]
   exact hR _ _ (by rw [hL']) (by rw [hL',hT]; rfl)
  ·obtain ⟨R2,hR2⟩ : ∃ R2,R2 = hlW (gvW fit stock k) job x L w' (askA a' x) := ⟨_,rfl⟩
   have hL' : RES = if R2.1 = true then R2 else flW stock (gvW fit stock k) job (row.drop (i + 1)) R2.2.1 R2.2.2 := by
    rw [← hL]; conv => lhs; unfold flW
    rw [if_neg e1,← hLd,nP,if_neg e2,← hR2]
   simp only [hlt,hx,jO,i2,kC,uH,e1,vH,qO,g1,nO,hckL,vw_I,Qt3,Qda _ _ (Qbx _),hpF,upB,Qae _ _ (Qbx _),Qae _ _ (Qfd _),hq,nN,xJ,e2,Qi,Qn,Qa0 _ _ _ (Qfd _),Qa0 _ _ _ (Qbx _),↓BU3,BL,simprocAttr]
   refine Qac L.length (fun j (y : List Int × AM Int) => ⟨lkp [(0,.ad 1 0 0),(1,.i job),(2,.mp 2 0),(8,.i x),(18,.sl 1 (row.map eI)),(19,.i row.length),(20,.i i),(52,.sl 1 (L.map eI)),(53,.i L.length),(54,.i j)],[.cells 0 (y.1.map V.i),.cells 0 [.sl 1 (fit.map eLens),.sl 1 (stock.map eI),.rf 0 0 0 m 1],.map false (aks y.2) (avs V.i y.2)]⟩)
    (fun j y => PI n m (1000000 - 1000 * ((k + 1 : Nat) : Int) + i - 99 + 10 * j) y.1 y.2 ∧ unA n y.2 ≤ unA n (askA a' x) ∧ hlW (gvW fit stock k) job x (L.drop j) y.1 y.2 = R2) (w',askA a' x) ?_ ⟨cY.mono (by omega),Qi _,by rw [Q8]; exact hR2.symm⟩ ?_ ?_
   ·simp only [Qd,↓BU3,BL,simprocAttr]
   ·rintro j ⟨w1,a1⟩ hj ⟨x9,dA,hL1⟩
    simp only at x9 dA hL1
    have xU : (j : Int) < L.length := by omega
    have i3 : inI ((j : Int) + 1) := by unfold inI; omega
    obtain ⟨o,ho⟩ : ∃ o,L[j]? = some o := ⟨_,Qc hj⟩
    rw [Qad ho] at hL1
    have d6 := hLin o (Qe ho)
    have g3 := gR w1 a1 o
    have kY := pI o w1 a1 _ d6 (by omega) x9
    have pK := fun (b : Bool) (w2 : List Int) (a2 : AM Int) (hr : gvW fit stock k o w1 a1 = (b,w2,a2)) => hr ▸ kY
    have hL2 : R2 = if (gvW fit stock k o w1 a1).1 = true then (true,(gvW fit stock k o w1 a1).2.1.set job.toNat x,(gvW fit stock k o w1 a1).2.2) else hlW (gvW fit stock k) job x (L.drop (j + 1)) (gvW fit stock k o w1 a1).2.1 (gvW fit stock k o w1 a1).2.2 := by
     rw [← hL1]; conv => lhs; unfold hlW
    simp only [xU,ho,g3,↓BU3,BL,simprocAttr]
    refine ⟨⟨by rw [← hn]; exact jV,by rw [← hm]; exact d6,by rw [← hn,← hm]; exact x9.mono (by omega),by rw [← hn]; show unA n a1 < k; omega⟩,?_⟩
    rintro r hp' ⟨e3,e4⟩
    simp only [G60,hT,eM60] at e3 e4
    obtain ⟨b,w2,a2,hr⟩ : ∃ b w2 a2,gvW fit stock k o w1 a1 = (b,w2,a2) := ⟨_,_,_,rfl⟩
    rw [hr] at e3 e4 hL2 kY
    simp only at e3 e4 hL2 kY
    subst e3 e4
    have qI : w2.length = m := kY.1.len
    cases b with
    | true =>
     rw [if_pos rfl] at hL2
     have hpI2 := Go.C06.putI w2 job.toNat x (by omega)
     rw [hL2,if_pos rfl] at hL'
     simp only [aH,aJ,c1,Qn,hpI2,qI,↓BU3,BL,simprocAttr]
     exact hR _ _ (by rw [hL']) (by rw [hL',hT]; rfl)
    | false =>
     rw [if_neg (by simp)] at hL2
     simp only [i3,Qa,Qb,↓BU3,BL,simprocAttr]
     exact ⟨(w2,a2),⟨kY.1.mono (by omega),by show unA n a2 ≤ _; omega,hL2.symm⟩,rfl⟩
   ·rintro ⟨w1,a1⟩ ⟨x9,dA,hL1⟩
    simp only at x9 dA hL1
    have xU : ¬ ((L.length : Int) < L.length) := by omega
    rw [Z9] at hL1
    have e5 : R2 = (false,w1,a1) := hL1.symm
    rw [e5,if_neg (by simp)] at hL'
    simp only [xU,i1,Qa0 _ _ _ (Qfd _),Qa0 _ _ _ (Qbx _),Qa,Qb,↓BU3,BL,simprocAttr]
    exact ⟨(w1,a1),⟨x9.mono (by omega),by show unA n a1 ≤ unA n a; omega,hL'.symm⟩,rfl⟩
 ·rintro ⟨w',a'⟩ ⟨hp,hu,hL⟩
  simp only at hp hu hL
  have hlt : ¬ ((row.length : Int) < row.length) := by omega
  rw [Z9] at hL
  have e1 : RES = (false,w',a') := hL.symm
  simp only [hlt,↓BU3,BL,simprocAttr]
  exact hR _ _ (by rw [e1]) (by rw [e1,hT]; rfl)
def okHV : ∀ k,GOk TP (HV k) := by
 intro k
 induction k with
 | zero =>
  refine Qwn.extH call60 fun xs hp => Qg5 (fun x hx => ?_) xs hp
  have := hx.k
  omega
 | succ k ih => exact Qwn.extH call60 fun xs hp => Qg5 (fun x hx => ⟨fun r hp' _ y hy => (by simp [eH60,ghO] at hy),X60 k ih x hx⟩) xs hp
def fitK (w : Work) (j : Int × Int) (k : Nat) : List Int := ((Qr k).filter fun (i : Nat) => decide (fitN w i j.1 j.2 = 1)).map fun (i : Nat) => (i : Int)
def Qvl (w : Work) (j : Int × Int) (k : Nat) : fitK w j (k + 1) = if fitN w k j.1 j.2 = 1 then fitK w j k ++ [(k : Int)] else fitK w j k := by
 unfold fitK
 rw [Zv,Zq,Qk]
 by_cases h : fitN w k j.1 j.2 = 1
 ·rw [if_pos h]; simp only [Qw,Qs,h,decide_true,↓reduceIte,Qm,Qv]
 ·rw [if_neg h]; simp only [Qw,Qs,h,decide_false,Ze,↓reduceIte,Qv,Q4]
def Qsa (w : Work) (j : Int × Int) (k : Nat) : (fitK w j k).length ≤ k := by
 unfold fitK
 rw [Qf]
 exact Zh (Qz _ _) (by simp)
def Qoj {w : Work} {j : Int × Int} {k : Nat} {x : Int} : x ∈ fitK w j k ↔ ∃ i : Nat,x = i ∧ i < k ∧ fitN w i j.1 j.2 = 1 := by
 unfold fitK
 simp only [Qo,Zw,Qy,decide_eq_true_eq]
 constructor
 ·rintro ⟨i,⟨h1,h2⟩,rfl⟩; exact ⟨i,rfl,h1,h2⟩
 ·rintro ⟨i,rfl,h1,h2⟩; exact ⟨i,⟨h1,h2⟩,rfl⟩
def fitW (w : Work) (jobs : List (Int × Int)) : List (List Int) := jobs.map fun j => fitK w j w.spares.length
def wkW (fit : List (List Int)) (stock : List Int) : Nat → List Int
 | 0 => Q3 fit.length (-1)
 | i + 1 => (gvW fit stock 20 i (wkW fit stock i) []).2.1
def begB (w : Work) (stock : List Int) (jobs : List (Int × Int)) : Bool := decide ((stock.length : Int) = w.spares.length) && stock.all (fun n => Qa3 n 0 10) && decide ((jobs.length : Int) ≤ 10) && jobs.all (fun j => Qay w j.1 j.2)
def begE (w : Work) (stock : List Int) (jobs : List (Int × Int)) : Int := Qb5 w (begB w stock jobs)
def Qsq {w : Work} {stock : List Int} {jobs : List (Int × Int)} (hw : OkW w) (h1 : (stock.length : Int) = w.spares.length) (h2 : (jobs.length : Int) ≤ 10) : OkFit stock.length (fitW w jobs) stock := by
 have hs := hw.nsp
 refine ⟨by unfold fitW; rw [Qf]; omega,by omega,rfl,fun l hl => ?_,fun l hl x hx => ?_⟩
 ·obtain ⟨j,_,rfl⟩ := Qo.1 hl
  have := Qsa w j w.spares.length
  omega
 ·obtain ⟨j,_,rfl⟩ := Qo.1 hl
  obtain ⟨i,rfl,hi,_⟩ := Qoj.1 hx
  omega
def pi0 {n m : Nat} (hn : n ≤ 10) {work : List Int} (hl : work.length = m) (hv : ∀ v ∈ work,v = -1 ∨ (0 ≤ v ∧ v < n)) : PI n m 1000 work [] := by
 refine ⟨hl,hv,Zz,fun x => by simp [askN,aget],fun x => ?_⟩
 have := Qqj n []
 have e : askN [] x = 0 := by simp [askN,aget]
 rw [e]; omega
def Qxo {n : Nat} {fit : List (List Int)} {stock : List Int} (h : OkFit n fit stock) : ∀ i,i ≤ fit.length → (wkW fit stock i).length = fit.length ∧ ∀ v ∈ wkW fit stock i,v = -1 ∨ (0 ≤ v ∧ v < n)
 | 0,_ => ⟨by simp [wkW],fun v hv => .inl (List.eq_of_mem_replicate hv)⟩
 | i + 1,hi => by
  obtain ⟨h1,h2⟩ := Qxo h i (by omega)
  have hu := Qqj n []
  have := (Qg3 h 20 1000 i (wkW fit stock i) [] (by omega) (by have := h.nl; omega) (pi0 h.nl h1 h2)).1
  exact ⟨this.len,this.val⟩
def Qzy (w : Work) (is : Bool) : (HV 20) 57 [.ag (Qai w),.b is] = (SmallW w,Qgg w is) := h80 w is
def Zgl (w : Work) (i m k : Int) : (HV 20) 59 [.pa (Qbs w),.i i,.i m,.i k] = (OkF w i m k,.i (fitN w i m k)) := h83 w i m k
def Zd6 (x n : Int) : (HV 20) 1000058 [.sl 1 [[.i x]],.i n] = (0 ≤ n ∧ n ≤ 1000000,.tp [.rf 0 0 0 n.toNat 1,.tp [bV (.cells 0 (Q3 n.toNat [V.i x]).flatten)]]) := h40o x n
def Zgj (l : List Int) : (HV 20) 51 [.sl 1 (l.map eI),.fn 52 []] = (C2Tn ((),l),.b (l.all (pTn ()))) := Zpl () l
def Zgk (w : Work) (l : List (Int × Int)) : (HV 20) 54 [.sl 2 (l.map eSp),.fn 55 [.pa (Qai w)]] = (C2Jb (w,l),.b (l.all (pJb w))) := Zpm w l
def begT (w : Work) (stock : List Int) (jobs : List (Int × Int)) : List Blk := [.cells 0 ((wkW (fitW w jobs) stock jobs.length).map V.i),.cells 0 [.sl 1 ((fitW w jobs).map eLens),.sl 1 (stock.map eI),.rf 0 0 0 jobs.length 1]]
def begR (w : Work) (stock : List Int) (jobs : List (Int × Int)) : V := if begE w stock jobs = 0 then .tp [.ad 1 0 0,.i 0] else .tp [.pn,.i (begE w stock jobs)]
def begH (w : Work) (stock : List Int) (jobs : List (Int × Int)) : List Blk := if begE w stock jobs = 0 then begT w stock jobs else []
def Qsg (w : Work) : Qb5 w false ≠ 0 := by
 intro h
 exact absurd (Qdw h).2.1 (by simp)
def X27 (w : Work) (stock : List Int) (jobs : List (Int × Int)) (hw : SmallW w) (hs : stock.length ≤ 1000000) (hj : jobs.length ≤ 1000000) : Qd3 TP 27 [.ag (Qai w),.sl 1 (stock.map eI),.sl 2 (jobs.map eSp)] (begR w stock jobs) (begH w stock jobs) := by
 refine Qku (okHV 20) hmix func27 cf27.b cf27.c cf27.s cf27.n ?_
 have hF : ∀ b,begB w stock jobs = b → begE w stock jobs = Qb5 w b := fun b h => by unfold begE; rw [h]
 have hRf : begE w stock jobs ≠ 0 → begR w stock jobs = .tp [.pn,.i (begE w stock jobs)] ∧ begH w stock jobs = [] := fun h => ⟨by unfold begR; rw [if_neg h],by unfold begH; rw [if_neg h]⟩
 have hB : begB w stock jobs = (decide ((stock.length : Int) = w.spares.length) && stock.all (fun n => Qa3 n 0 10) && decide ((jobs.length : Int) ≤ 10) && jobs.all (fun j => Qay w j.1 j.2)) := rfl
 have g1 := Zgj stock
 have g2 := Zgk w jobs
 have g3 := Qzy w false
 have g4 := Qzy w true
 have pL : Qgg w false = .tp [.pn,.i (Qb5 w false)] := by unfold Qgg; rw [if_neg (Qsg w)]
 have k1 := Qsg w
 have yW : begB w stock jobs = false → begR w stock jobs = .tp [.pn,.i (Qb5 w false)] ∧ begH w stock jobs = [] := fun h => by
  have := hRf (by rw [hF _ h]; exact k1)
  rw [hF _ h] at this; exact this
 have cS : C2Tn ((),stock) := ⟨by show stock.length < 10000000; omega,fun _ _ => trivial⟩
 have cJ : C2Jb (w,jobs) := ⟨by show jobs.length < 10000000; omega,fun _ _ => hw⟩
 have eS : stock.all (pTn ()) = stock.all (fun n => Qa3 n 0 10) := rfl
 have eJ : jobs.all (pJb w) = jobs.all (fun j => Qay w j.1 j.2) := rfl
 rw [eS] at g1
 rw [eJ] at g2
 rw [pL] at g3
 have q7 : Qai w = [.sl 4 (w.spares.map eSpare),.sl 1 (w.makes.map eMake),.i w.cut,.sl 4 (w.table.map eTrial)] := rfl
 rw [q7] at g2 g3 g4 ⊢
 by_cases a1 : (stock.length : Int) = w.spares.length
 rotate_left
 ·obtain ⟨q1,q2⟩ := yW (by rw [hB]; simp [a1])
  simp only [rc27,rs27,a1,g3,hw,k1,q1,q2,↓BU3,BL,simprocAttr]
 cases b1 : stock.all (fun n => Qa3 n 0 10) with
 | false =>
  obtain ⟨q1,q2⟩ := yW (by rw [hB]; simp [b1])
  simp only [rc27,rs27,a1,g1,cS,b1,g3,hw,k1,q1,q2,↓BU3,BL,simprocAttr]
 | true =>
 by_cases a2 : (jobs.length : Int) ≤ 10
 rotate_left
 ·obtain ⟨q1,q2⟩ := yW (by rw [hB]; simp [a2])
  simp only [rc27,rs27,a1,g1,cS,b1,a2,g3,hw,k1,q1,q2,↓BU3,BL,simprocAttr]
 cases b2 : jobs.all (fun j => Qay w j.1 j.2) with
 | false =>
  obtain ⟨q1,q2⟩ := yW (by rw [hB]; simp [b2])
  simp only [rc27,rs27,a1,g1,cS,b1,a2,g2,cJ,b2,g3,hw,k1,q1,q2,↓BU3,BL,simprocAttr]
 | true =>
 have hBt : begB w stock jobs = true := by rw [hB,b1,b2]; simp [a1,a2]
 by_cases e : Qb5 w true = 0
 rotate_left
 ·obtain ⟨q1,q2⟩ := hRf (by rw [hF _ hBt]; exact e)
  rw [hF _ hBt] at q1
  have ho : Qgg w true = .tp [.pn,.i (Qb5 w true)] := by unfold Qgg; rw [if_neg e]
  rw [ho] at g4
  simp only [rc27,rs27,a1,g1,cS,b1,a2,g2,cJ,b2,g4,hw,e,q1,q2,↓BU3,BL,simprocAttr]
 have jA := (Qdw e).1
 have q1 : begR w stock jobs = .tp [.ad 1 0 0,.i 0] := by unfold begR; rw [if_pos (by rw [hF _ hBt]; exact e)]
 have q2 : begH w stock jobs = begT w stock jobs := by unfold begH; rw [if_pos (by rw [hF _ hBt]; exact e)]
 have ho : Qgg w true = .tp [.pa (Qbs w),.i 0] := by unfold Qgg; rw [if_pos e]
 rw [ho] at g4
 have u9 : Qbs w = [.sl 4 (w.spares.map eSpare),.sl 1 (w.makes.map eMake),.i w.cut,.sl 4 (w.table.map eTrial),.sl 1 ((Qdc w w.spares.length).map eLens)] := rfl
 have g5 := fun (i m k : Int) => Zgl w i m k
 generalize (Qdc w w.spares.length).map eLens = ln0 at u9
 rw [u9] at g4 g5
 have g6 := Zd6 (-1) jobs.length
 have b3 : 0 ≤ (jobs.length : Int) ∧ (jobs.length : Int) ≤ 1000000 := by omega
 have xM : (Q3 jobs.length [V.i (-1)]).flatten = (Q3 jobs.length (-1 : Int)).map V.i := by simp
 rw [Q6,xM] at g6
 have yB : Qa8 ((Q3 jobs.length (-1 : Int)).map V.i) = false := Qbx _
 generalize mI : (Q3 jobs.length (-1 : Int)) = wk0 at *
 obtain ⟨F,hFd⟩ : ∃ F,F = fitW w jobs := ⟨_,rfl⟩
 have hFl : F.length = jobs.length := by rw [hFd]; unfold fitW; rw [Qf]
 have cF := jA.nsp
 have okF : OkFit stock.length F stock := by rw [hFd]; exact Qsq jA a1 a2
 have hFg : ∀ (j : Nat) (y : Int × Int),jobs[j]? = some y → F[j]? = some (fitK w y w.spares.length) := fun j y hy => by rw [hFd]; unfold fitW; rw [Zi,hy]; rfl
 have hT : begT w stock jobs = [.cells 0 ((wkW F stock jobs.length).map V.i),.cells 0 [.sl 1 (F.map eLens),.sl 1 (stock.map eI),.rf 0 0 0 jobs.length 1]] := by rw [hFd]; rfl
 rw [hT] at q2
 clear hFd hT
 simp only [rc27,rs27,a1,g1,cS,b1,a2,g2,cJ,b2,g4,hw,e,q1,q2,g6,b3,Qda _ _ yB,↓BU3,BL,simprocAttr]
 obtain ⟨m,hm⟩ : ∃ m,m = jobs.length := ⟨_,rfl⟩
 have oJ : (((F.take 0).map eLens).flatten : List V) = [] := rfl
 refine Qaq jobs.length (fun j => ⟨lkp [(2,.sl 2 (jobs.map eSp)),(3,.pa [.sl 4 (w.spares.map eSpare),.sl 1 (w.makes.map eMake),.i w.cut,.sl 4 (w.table.map eTrial)]),(9,.pa [.sl 4 (w.spares.map eSpare),.sl 1 (w.makes.map eMake),.i w.cut,.sl 4 (w.table.map eTrial),.sl 1 ln0]),(11,.ad 1 0 0),(53,.sl 2 (jobs.map eSp)),(54,.i jobs.length),(55,.i j)],
   [.cells 0 (wk0.map V.i),.cells 0 [.rf 2 j 0 j 1,.sl 1 (stock.map eI),.rf 0 0 0 jobs.length 1],.cells j ((F.take j).map eLens).flatten]⟩) ?_ ?_ ?_
 ·simp only [Qd,Qj,Qa0 _ _ _ (Qbx _),↓BU3,BL,simprocAttr]
 ·intro j hj
  have hlt : (j : Int) < jobs.length := by omega
  have i1 : inI ((j : Int) + 1) := by unfold inI; omega
  obtain ⟨y,hy⟩ : ∃ y,jobs[j]? = some y := ⟨_,Qc hj⟩
  have hFj := hFg j y hy
  have fM : Qay w y.1 y.2 = true := Za.1 b2 y (Qe hy)
  simp only [hlt,hy,eSp,↓BU3,BL,simprocAttr]
  refine Qaq w.spares.length (fun i => ⟨lkp [(2,.sl 2 (jobs.map eSp)),(3,.pa [.sl 4 (w.spares.map eSpare),.sl 1 (w.makes.map eMake),.i w.cut,.sl 4 (w.table.map eTrial)]),(9,.pa [.sl 4 (w.spares.map eSpare),.sl 1 (w.makes.map eMake),.i w.cut,.sl 4 (w.table.map eTrial),.sl 1 ln0]),(11,.ad 1 0 0),(13,.ad 3 0 0),(14,.rf 4 (fitK w y i).length 0 (fitK w y i).length 1),(53,.sl 2 (jobs.map eSp)),(54,.i jobs.length),(55,.i j),(61,.i w.spares.length),(62,.i i)],
   [.cells 0 (wk0.map V.i),.cells 0 [.rf 2 j 0 j 1,.sl 1 (stock.map eI),.rf 0 0 0 jobs.length 1],.cells j ((F.take j).map eLens).flatten,.cells 0 [.i y.1,.i y.2],.cells (fitK w y i).length ((fitK w y i).map V.i)]⟩) ?_ ?_ ?_
  ·simp only [Qd,fitK,Zx,Qs,↓BU3,BL,simprocAttr]
  ·intro i hi
   have y7 : (i : Int) < w.spares.length := by omega
   have i2 : inI ((i : Int) + 1) := by unfold inI; omega
   have g7 := g5 i y.1 y.2
   have c7 : OkF w i y.1 y.2 := ⟨jA,by omega,fM⟩
   have k8 := Qvl w y i
   have kA := Qsa w y i
   have f1 : Qam ((fitK w y i).length + 1) := by unfold Qam; omega
   by_cases e1 : fitN w i y.1 y.2 = 1
   ·rw [if_pos e1] at k8
    simp only [y7,g7,c7,e1,i2,f1,k8,Qk,Ql,Qg,Qj,Qn,Qa,Qb,↓BU3,BL,simprocAttr]
   ·rw [if_neg e1] at k8
    simp only [y7,g7,c7,e1,i2,k8,Qa,Qb,↓BU3,BL,simprocAttr]
  ·have y7 : ¬ ((w.spares.length : Int) < w.spares.length) := by omega
   have f1 : Qam (j + 1) := by unfold Qam; omega
   have yS := Qa4 hFj
   have mJ : (F.take j).length = j := by rw [Qu]; omega
   obtain ⟨L,hL⟩ : ∃ L,L = fitK w y w.spares.length := ⟨_,rfl⟩
   have hckL : Qbi 1 (L.map V.i) 0 L.length = L.map eI := Qhi L rfl
   rw [← hL] at yS
   have j7 : Qa8 (((F.take j).map eLens).flatten ++ [V.sl 1 (L.map eI)]) = false := by rw [Qa2,Qcs]; rfl
   simp only [y7,← hL,hpF,upB,Qae _ _ (Qbx _),Qae _ _ (Qcs _),Qa0 _ _ _ (Qbx _),Qa0 _ _ _ (Qcs _),Qa0 _ _ _ j7,hckL,vw_I,Qn,Qi,Qsj,mJ,f1,i1,yS,Qk,Zb,Qg,Qj,eLens,Qa,Qb,↓BU3,BL,simprocAttr]
 ·have hlt : ¬ ((jobs.length : Int) < jobs.length) := by omega
  have hckF : Qbi 1 ((F.map eLens).flatten) 0 jobs.length = F.map eLens := by rw [← hFl]; exact Qrt F
  have hleF : ((F.map eLens).flatten).length = jobs.length := by rw [Qsj,hFl,Qn]
  have htF : F.take jobs.length = F := Zj (by omega)
  simp only [hlt,htF,hpF,upB,Qae _ _ (Qbx _),Qae _ _ (Qcs _),Qa0 _ _ _ (Qbx _),Qa0 _ _ _ (Qcs _),hckF,hleF,Qzr,Qn,Qi,↓BU3,BL,simprocAttr]
  have lD : wkW F stock 0 = wk0 := by show Q3 F.length (-1) = wk0; rw [hFl,mI]
  have gR := fun (wk : List Int) (i : Nat) => kV 20 ⟨F,stock,wk,[],(i : Int)⟩
  simp only [eA60,eH60,eT60,eM60,hFl] at gR
  have u5 : aks ([] : AM Int) = [] := rfl
  have pM : avs V.i ([] : AM Int) = [] := rfl
  simp only [u5,pM] at gR
  refine Qaq jobs.length (fun i => ⟨lkp [(11,.ad 1 0 0),(90,.i jobs.length),(91,.i i)],[.cells 0 ((wkW F stock i).map V.i),.cells 0 [.sl 1 (F.map eLens),.sl 1 (stock.map eI),.rf 0 0 0 jobs.length 1]]⟩) ?_ ?_ ?_
  ·simp only [Qd,lD,Qa0 _ _ _ (Qbx _),↓BU3,BL,simprocAttr]
  ·intro i hi
   have y7 : (i : Int) < jobs.length := by omega
   have i2 : inI ((i : Int) + 1) := by unfold inI; omega
   obtain ⟨p1,p2⟩ := Qxo okF i (by omega)
   simp only [y7,gR,↓BU3,BL,simprocAttr]
   refine ⟨⟨okF,by show 0 ≤ (i : Int) ∧ (i : Int) < F.length; omega,(pi0 okF.nl p1 p2).mono (by omega),by have := Qqj stock.length []; have := okF.nl; show unA stock.length [] < 20; omega⟩,?_⟩
   rintro r hp' ⟨e3,e4⟩
   simp only [G60,eT60,eM60,hFl] at e3 e4
   have k8 : wkW F stock (i + 1) = (gvW F stock 20 i (wkW F stock i) []).2.1 := rfl
   rw [← k8] at e4
   subst e3 e4
   simp only [i2,Qa0 _ _ _ (Qbx _),Qa,Qb,↓BU3,BL,simprocAttr]
  ·have y7 : ¬ ((jobs.length : Int) < jobs.length) := by omega
   simp only [y7,↓BU3,BL,simprocAttr]
def eB27 (a : Work × List Int × List (Int × Int)) : List V := [.ag (Qai a.1),.sl 1 (a.2.1.map eI),.sl 2 (a.2.2.map eSp)]
def dB27 : List V → Work × List Int × List (Int × Int) | [.ag w,.sl _ s,.sl _ j] => (Qc0 w,s.map dI,j.map dSp) | _ => (Qc0 [],[],[])
def Zab (a : Work × List Int × List (Int × Int)) : dB27 (eB27 a) = a := by obtain ⟨w,s,j⟩ := a; simp [dB27,eB27,Qc3,Function.comp_def,Qas,Qtn]
def begV (w : Work) (stock : List Int) (jobs : List (Int × Int)) : V := if begE w stock jobs = 0 then .tp [.pa [.sl 1 ((fitW w jobs).map eLens),.sl 1 (stock.map eI),.sl 1 ((wkW (fitW w jobs) stock jobs.length).map eI)],.i 0] else .tp [.pn,.i (begE w stock jobs)]
def Qzz {w : Work} {stock : List Int} {jobs : List (Int × Int)} (h : begB w stock jobs = true) : (stock.length : Int) = w.spares.length ∧ (jobs.length : Int) ≤ 10 ∧ (∀ n ∈ stock,0 ≤ n ∧ n ≤ 10) ∧ ∀ j ∈ jobs,Qay w j.1 j.2 = true := by
 unfold begB at h
 simp only [Qt,decide_eq_true_eq,Za] at h
 exact ⟨h.1.1.1,h.1.2,fun n hn => Qak.1 (h.1.1.2 n hn),h.2⟩
def X27p (w : Work) (stock : List Int) (jobs : List (Int × Int)) (hw : SmallW w) (hs : stock.length ≤ 1000000) (hj : jobs.length ≤ 1000000) : Qa1 TP 27 [.ag (Qai w),.sl 1 (stock.map eI),.sl 2 (jobs.map eSp)] (begV w stock jobs) := by
 have := (X27 w stock jobs hw hs hj).toPure
 have e : vw (begH w stock jobs) 8 (begR w stock jobs) = begV w stock jobs := by
  unfold begH begR begV
  by_cases e0 : begE w stock jobs = 0
  ·rw [if_pos e0,if_pos e0,if_pos e0]
   obtain ⟨a1,a2,_⟩ := Qzz (Qdw e0).2.1
   have jA := Qsq (Qdw e0).1 a1 a2
   have hl : (fitW w jobs).length = jobs.length := by unfold fitW; rw [Qf]
   obtain ⟨p1,p2⟩ := Qxo jA jobs.length (by omega)
   have vH := Qhi (wkW (fitW w jobs) stock jobs.length) (m := jobs.length) (by omega)
   rw [hl] at p1
   unfold begT
   generalize (wkW (fitW w jobs) stock jobs.length) = W at *
   simp only [vH,vw_I,Qzr,p1,Qn,Qi,↓BU3,BL,simprocAttr]
  ·rw [if_neg e0,if_neg e0,if_neg e0]; rfl
 rw [e] at this
 exact this
def Qti (a : Work × List Int × List (Int × Int)) : Prop := SmallW a.1 ∧ a.2.1.length ≤ 1000000 ∧ a.2.2.length ≤ 1000000
def K109 := K108.ext 27 (fnG eB27 dB27 (Qti) (fun a => begV a.1 a.2.1 a.2.2) (fun v => v))
def Zay : GOk TP K109 := Qwn.ext call27 (Qa7 fun a h => X27p a.1 a.2.1 a.2.2 h.1 h.2.1 h.2.2)
def x27 (w : Work) (s : List Int) (j : List (Int × Int)) : K109 27 [.ag (Qai w),.sl 1 (s.map eI),.sl 2 (j.map eSp)] = (Qti (w,s,j),begV w s j) := (kx K109 27 (Zab (w,s,j)) rfl :)
def Qjo (w : Work) (stock : List Int) (jobs : List (Int × Int)) : Int × Int := if begE w stock jobs = 0 then ((jobs.length : Int) - (Qb3 (wkW (fitW w jobs) stock jobs.length) (-1)).length,0) else (0,begE w stock jobs)
def X10 (w : Work) (stock : List Int) (jobs : List (Int × Int)) (hw : SmallW w) (hs : stock.length ≤ 1000000) (hj : jobs.length ≤ 1000000) : Qa1 TP 10 [.ag (Qai w),.sl 1 (stock.map eI),.sl 2 (jobs.map eSp)] (.tp [.i (Qjo w stock jobs).1,.i (Qjo w stock jobs).2]) := by
 refine pc Zay func10 cf10 ?_
 have g1 := x27 w stock jobs
 have g2 := fun (v1 v2 : V) (W : List Int) => (show K109 28 [.pa [v1,v2,.sl 1 (W.map eI)],.i (-1)] = (W.length ≤ 1000000,.sl 1 ((Qb3 W (-1)).map eI)) from x28 v1 v2 W (-1))
 have c1 : Qti (w,stock,jobs) := ⟨hw,hs,hj⟩
 unfold Qjo
 unfold begV at g1
 unfold Qai at g1
 by_cases e0 : begE w stock jobs = 0
 ·rw [if_pos e0]
  rw [if_pos e0] at g1
  obtain ⟨a1,a2,_⟩ := Qzz (Qdw e0).2.1
  have jA := Qsq (Qdw e0).1 a1 a2
  have hl : (fitW w jobs).length = jobs.length := by unfold fitW; rw [Qf]
  obtain ⟨p1,p2⟩ := Qxo jA jobs.length (by omega)
  have kA := Qes (wkW (fitW w jobs) stock jobs.length) (-1) (wkW (fitW w jobs) stock jobs.length).length
  unfold Qb3
  unfold Qb3 at g2
  generalize wkW (fitW w jobs) stock jobs.length = W at *
  have i1 : inI ((jobs.length : Int) - (Qg4 W (-1) W.length).length) := by unfold inI; omega
  have qO : W.length ≤ 1000000 := by omega
  simp only [rc10,rs10,g1,c1,g2,i1,qO,vw_I,Qzr,↓BU3,BL,simprocAttr]
 ·rw [if_neg e0]
  rw [if_neg e0] at g1
  simp only [rc10,rs10,g1,c1,e0,↓BU3,BL,simprocAttr]
def K110 := K109.ext 10 (fnG eB27 dB27 (Qti) (fun a => Qjo a.1 a.2.1 a.2.2) ((fun r => .tp [.i r.1,.i r.2])))
def Qsr : GOk TP K110 := Zay.ext call10 (Qa7 fun a h => X10 a.1 a.2.1 a.2.2 h.1 h.2.1 h.2.2)
def x10 (w : Work) (s : List Int) (j : List (Int × Int)) : K110 10 [.ag (Qai w),.sl 1 (s.map eI),.sl 2 (j.map eSp)] = (Qti (w,s,j),.tp [.i (Qjo w s j).1,.i (Qjo w s j).2]) := (kx K110 10 (Zab (w,s,j)) rfl :)
def Zcm (s : Shop) (n k : Int)  := lft K110 (x26 s n k) rfl
def jobP (j : Job) : Int × Int := (j.maker,j.slot)
def Qr9 : Option (List Job) → V | some l => .tp [.sl 2 ((l.map jobP).map eSp),.b true] | none => .tp [.sl 2 [],.b false]
def Qr5 (l : List (Int × Int)) : ((l.map eSp).flatten).length = l.length * 2 := Qaf (e := eSp) (k := 2) (fun _ => rfl) l
def Qd8 (l : List (Int × Int)) : Qa8 ((l.map eSp).flatten) = false := Qa5 (e := eSp) (fun _ => rfl) l
def Qv1 (l : List (Int × Int)) : Qbi 2 ((l.map eSp).flatten) 0 l.length = l.map eSp := Qa9 (e := eSp) (k := 2) (fun _ => rfl) l
def Zlw (hp : List Blk) (n : Nat) (l : List (Int × Int)) : (l.map eSp).map (fun r => r.map (vw hp (n + 1))) = l.map eSp := Qa6 (e := eSp) hp (n + 1) (fun _ => rfl) l
def X9 (s : Shop) (plan : List Int) (h : OkPl s plan) (hs : Qcl s = 0) (fL : SmallS s) : Qa1 TP 9 [.ag (Qat s),.sl 1 (plan.map eI)] (Qr9 (Qfa s plan)) := by
 refine pc Qsr func9 cf9 ?_
 have hlen := h.len
 have uC := h.st.s.nwi
 have p8 := h.st.s.npc
 have jX : ∀ k,k ≤ plan.length → Qet s plan k = none → Qr9 (Qfa s plan) = .tp [.sl 2 [],.b false] := fun k hk e => by
  unfold Qfa
  rw [Qjl e _ hk]; rfl
 have gS := fun (i : Nat) (x : Int) => Zcm s i x
 have jP : Qat s = [.sl 4 (s.work.spares.map eSpare),.sl 1 (s.work.makes.map eMake),.i s.work.cut,.sl 4 (s.work.table.map eTrial),.sl 1 (s.stock.map eI),.sl 5 (s.pieces.map ePiece),.sl 6 (s.wishes.map eWish),.sl 3 (s.dels.map eDel),.i s.carve] := rfl
 rw [jP] at gS ⊢
 simp only [rc9,rs9,BL,simprocAttr]
 refine Qac plan.length (fun i (A : List Job) => ⟨lkp [(1,.sl 1 (plan.map eI)),(2,.pa [.sl 4 (s.work.spares.map eSpare),.sl 1 (s.work.makes.map eMake),.i s.work.cut,.sl 4 (s.work.table.map eTrial),.sl 1 (s.stock.map eI),.sl 5 (s.pieces.map ePiece),.sl 6 (s.wishes.map eWish),.sl 3 (s.dels.map eDel),.i s.carve]),(6,.rf 0 A.length 0 A.length 2),(7,.i i)],[.cells A.length ((A.map jobP).map eSp).flatten]⟩)
  (fun i A => Qet s plan i = some A) [] ?_ rfl ?_ ?_
 ·simp only [Qd,Qj,BL,simprocAttr]
 ·intro i A hi hA
  have hlt : (i : Int) < plan.length := by omega
  have i1 : inI ((i : Int) + 1) := by unfold inI; omega
  obtain ⟨x,hx⟩ : ∃ x,plan[i]? = some x := ⟨_,Qc hi⟩
  have wO : plan.getD i 0 = x := by rw [Qh,hx]; rfl
  have mA := h.pc x (Qe hx)
  have hAl := Qib h i A (by omega) hA
  have jI : Qet s plan (i + 1) = match jobW s i x with | some b => some (A ++ b) | none => none := by
   simp only [Qet,hA,wO]
   cases jobW s i x <;> rfl
  by_cases x0 : x < 0
  ·have hW : jobW s i x = some [] := by unfold jobW; rw [if_pos x0]
   rw [hW] at jI
   simp only [Q4] at jI
   simp only [hlt,hx,x0,i1,Qa0 _ _ _ (Qd8 _),Qa,Qb,BL,simprocAttr]
   exact ⟨A,jI,rfl⟩
  have uW := Qfj (s := s) (i := i) (by omega)
  have qZ := Qey (s := s) (x := x) ⟨by omega,mA⟩
  have vR := h.st.s.wi _ (Qe uW)
  have b7 := h.st.s.pc _ (Qe qZ)
  have hbl := Ql3 h.st.w b7
  have mB : 0 ≤ (Qbb s i).due ∧ (Qbb s i).due ≤ 99 := by
   unfold okWish at vR
   simp only [Qt,Qak] at vR
   exact vR.1.2
  have mC := h.st.s.carve
  have g := gS i x
  have cO : Qka s i x = (Qcf (Qbb s i) (Qax s x),0) := by
   unfold Qka
   rw [if_pos hs,if_pos ⟨Qak.2 (by omega),Qak.2 (by omega)⟩,Q6]
  rw [cO] at g
  have wR : SmallS s ∧ s.pieces.length ≤ 1000000 ∧ s.wishes.length ≤ 1000000 := ⟨fL,by omega,by omega⟩
  have q5 : (i : Int) < s.wishes.length := by omega
  have xF : 0 ≤ x ∧ x < s.pieces.length := by omega
  have cG : 0 ≤ x := by omega
  have hWx : jobW s i x = if Qcf (Qbb s i) (Qax s x) = 0 then none else if dayN s (Qbb s i) (Qax s x) < 0 then none else some ((Qax s x).broken.map fun k => ⟨(Qax s x).make,k,dayN s (Qbb s i) (Qax s x)⟩) := by unfold jobW; rw [if_neg x0]
  have v6 : dayN s (Qbb s i) (Qax s x) = if Qcf (Qbb s i) (Qax s x) = 2 then (Qbb s i).due - s.carve else (Qbb s i).due := rfl
  simp only at g
  generalize Qbb s i = X at *
  generalize Qax s x = p at *
  by_cases s0 : Qcf X p = 0
  ·rw [if_pos s0] at hWx
   rw [hWx] at jI
   have q := jX (i + 1) (by omega) jI
   simp only [hlt,hx,x0,g,wR,s0,q,BL,simprocAttr]
  rw [if_neg s0] at hWx
  by_cases d0 : Qcf X p = 2 ∧ X.due < s.carve
  ·obtain ⟨s2,d1⟩ := d0
   rw [if_pos s2] at v6
   rw [if_pos (by rw [v6]; omega)] at hWx
   rw [hWx] at jI
   have q := jX (i + 1) (by omega) jI
   simp only [hlt,hx,x0,uW,qZ,q5,xF,cG,g,wR,s2,d1,q,BL,simprocAttr]
  ·rw [if_neg (by rw [v6]; split <;> omega)] at hWx
   rw [hWx] at jI
   obtain ⟨D,hD⟩ : ∃ D,D = dayN s X p := ⟨_,rfl⟩
   rw [← hD] at jI
   by_cases s2 : Qcf X p = 2
   ·have d1 : ¬ X.due < s.carve := fun d1 => d0 ⟨s2,d1⟩
    simp only [hlt,hx,x0,uW,qZ,q5,xF,cG,g,wR,s2,d1,BL,simprocAttr]
    refine Qaq p.broken.length (fun j => ⟨lkp [(1,.sl 1 (plan.map eI)),(2,.pa [.sl 4 (s.work.spares.map eSpare),.sl 1 (s.work.makes.map eMake),.i s.work.cut,.sl 4 (s.work.table.map eTrial),.sl 1 (s.stock.map eI),.sl 5 (s.pieces.map ePiece),.sl 6 (s.wishes.map eWish),.sl 3 (s.dels.map eDel),.i s.carve]),(6,.rf 0 (A.length + j) 0 (A.length + j) 2),(7,.i i),(10,.ad 1 0 0),(11,.i j)],
      [.cells (A.length + j) (((A ++ (p.broken.take j).map fun k => (⟨p.make,k,D⟩ : Job)).map jobP).map eSp).flatten,.cells 0 [.i p.color,.i p.size,.i p.letter,.i p.make,.sl 1 (p.broken.map eI)]]⟩) ?_ ?_ ?_
    ·simp only [Qd,Qa0 _ _ _ (Qd8 _),BL,simprocAttr]
    ·intro j hj
     obtain ⟨k,hk⟩ : ∃ k,p.broken[j]? = some k := ⟨_,Qc hj⟩
     have xU : (j : Int) < p.broken.length := by omega
     have i4 : inI ((j : Int) + 1) := by unfold inI; omega
     have f1 : Qam (A.length + j + 1) := by unfold Qam; omega
     have xR : (A ++ (p.broken.take j).map fun k => (⟨p.make,k,D⟩ : Job)).length = A.length + j := by rw [Ql,Qf,Qu]; omega
     have yS := Qa4 hk
     have e1 : A.length + (j + 1) = A.length + j + 1 := rfl
     have uD : A ++ (p.broken.take (j + 1)).map (fun k => (⟨p.make,k,D⟩ : Job)) = (A ++ (p.broken.take j).map fun k => (⟨p.make,k,D⟩ : Job)) ++ [⟨p.make,k,D⟩] := by rw [yS,Qk,Q0]; rfl
     rw [uD]
     have bY : (((A ++ (p.broken.take j).map fun k => (⟨p.make,k,D⟩ : Job)).map jobP).map eSp).flatten.length = (A.length + j) * 2 := by rw [Qr5,Qf,xR]
     have yM := Qd8 ((A ++ (p.broken.take j).map fun k => (⟨p.make,k,D⟩ : Job)).map jobP)
     generalize A ++ (p.broken.take j).map (fun k => (⟨p.make,k,D⟩ : Job)) = B at *
     have zA : Qa8 (((B.map jobP).map eSp).flatten ++ [V.i p.make,V.i k]) = false := by rw [Qa2,Qd8]; rfl
     simp only [Qk,Zb,Qm,Qv,Qg,Qj,Q4,jobP,eSp]
     simp only [xU,hk,i4,f1,e1,bY,Qa0 _ _ _ yM,Qa0 _ _ _ zA,Qg,Qj,Qa,Qb,BL,simprocAttr]
    ·have xU : ¬ ((p.broken.length : Int) < p.broken.length) := by omega
     simp only [xU,i1,Qx,Qa0 _ _ _ (Qd8 _),Qa,Qb,BL,simprocAttr]
     refine ⟨A ++ p.broken.map _,jI,?_⟩
     rw [Ql,Qf]
   ·simp only [hlt,hx,x0,uW,qZ,q5,xF,cG,g,wR,s0,s2,BL,simprocAttr]
    refine Qaq p.broken.length (fun j => ⟨lkp [(1,.sl 1 (plan.map eI)),(2,.pa [.sl 4 (s.work.spares.map eSpare),.sl 1 (s.work.makes.map eMake),.i s.work.cut,.sl 4 (s.work.table.map eTrial),.sl 1 (s.stock.map eI),.sl 5 (s.pieces.map ePiece),.sl 6 (s.wishes.map eWish),.sl 3 (s.dels.map eDel),.i s.carve]),(6,.rf 0 (A.length + j) 0 (A.length + j) 2),(7,.i i),(10,.ad 1 0 0),(11,.i j)],
      [.cells (A.length + j) (((A ++ (p.broken.take j).map fun k => (⟨p.make,k,D⟩ : Job)).map jobP).map eSp).flatten,.cells 0 [.i p.color,.i p.size,.i p.letter,.i p.make,.sl 1 (p.broken.map eI)]]⟩) ?_ ?_ ?_
    ·simp only [Qd,Qa0 _ _ _ (Qd8 _),BL,simprocAttr]
    ·intro j hj
     obtain ⟨k,hk⟩ : ∃ k,p.broken[j]? = some k := ⟨_,Qc hj⟩
     have xU : (j : Int) < p.broken.length := by omega
     have i4 : inI ((j : Int) + 1) := by unfold inI; omega
     have f1 : Qam (A.length + j + 1) := by unfold Qam; omega
     have xR : (A ++ (p.broken.take j).map fun k => (⟨p.make,k,D⟩ : Job)).length = A.length + j := by rw [Ql,Qf,Qu]; omega
     have yS := Qa4 hk
     have e1 : A.length + (j + 1) = A.length + j + 1 := rfl
     have uD : A ++ (p.broken.take (j + 1)).map (fun k => (⟨p.make,k,D⟩ : Job)) = (A ++ (p.broken.take j).map fun k => (⟨p.make,k,D⟩ : Job)) ++ [⟨p.make,k,D⟩] := by rw [yS,Qk,Q0]; rfl
     rw [uD]
     have bY : (((A ++ (p.broken.take j).map fun k => (⟨p.make,k,D⟩ : Job)).map jobP).map eSp).flatten.length = (A.length + j) * 2 := by rw [Qr5,Qf,xR]
     have yM := Qd8 ((A ++ (p.broken.take j).map fun k => (⟨p.make,k,D⟩ : Job)).map jobP)
     generalize A ++ (p.broken.take j).map (fun k => (⟨p.make,k,D⟩ : Job)) = B at *
     have zA : Qa8 (((B.map jobP).map eSp).flatten ++ [V.i p.make,V.i k]) = false := by rw [Qa2,Qd8]; rfl
     simp only [Qk,Zb,Qm,Qv,Qg,Qj,Q4,jobP,eSp]
     simp only [xU,hk,i4,f1,e1,bY,Qa0 _ _ _ yM,Qa0 _ _ _ zA,Qg,Qj,Qa,Qb,BL,simprocAttr]
    ·have xU : ¬ ((p.broken.length : Int) < p.broken.length) := by omega
     simp only [xU,i1,Qx,Qa0 _ _ _ (Qd8 _),Qa,Qb,BL,simprocAttr]
     refine ⟨A ++ p.broken.map _,jI,?_⟩
     rw [Ql,Qf]
 ·intro A hA
  have hlt : ¬ ((plan.length : Int) < plan.length) := by omega
  have q : Qfa s plan = some A := hA
  have h1 := Qv1 (A.map jobP)
  have h2 := Qr5 (A.map jobP)
  rw [Qf] at h1 h2
  simp only [hlt,q,Qr9,h1,h2,Qi,Zlw,BL,simprocAttr]
def bitB (x : Int) (i : Nat) : Bool := decide (Qhh .and .u64 (shrW .u64 x i) 1 = 1)
def Qhn (x : Int) (k : Nat) : List Int := ((Qr k).filter (bitB x)).map fun (i : Nat) => (i : Int)
def Qga (x : Int) : List Int := Qhn x 10
def Qu4 (x : Int) (k : Nat) : Qhn x (k + 1) = if bitB x k = true then Qhn x k ++ [(k : Int)] else Qhn x k := by
 unfold Qhn
 rw [Zv,Zq,Qk]
 by_cases h : bitB x k = true
 ·rw [if_pos h]; simp only [Qw,Qs,h,↓reduceIte,Qm,Qv]
 ·rw [if_neg h]; simp only [Qw,Qs,h,Ze,↓reduceIte,Qv,Q4]
def Qpv (x : Int) (k : Nat) : (Qhn x k).length ≤ k := by
 unfold Qhn
 rw [Qf]
 exact Zh (Qz _ _) (by simp)
def X97 (x : Int) : Qa1 TP 97 [.w .u64 x] (.sl 1 ((Qga x).map eI)) := by
 refine pc Qsr func97 cf97 ?_
 have z6 : Qga x = Qhn x 10 := rfl
 simp only [rc97,rs97,BL,simprocAttr]
 refine Qaq 10 (fun i => ⟨lkp [(0,.w .u64 x),(3,.rf 0 (Qhn x i).length 0 (Qhn x i).length 1),(5,.i i)],[.cells (Qhn x i).length ((Qhn x i).map V.i)]⟩) ?_ ?_ ?_
 ·simp only [Qd,Qhn,Zx,Qs,BL,simprocAttr]
 ·intro i hi
  have hlt : (i : Int) < 10 := by omega
  have i1 : inI ((i : Int) + 1) := by unfold inI; omega
  have k8 := Qu4 x i
  have kA := Qpv x i
  have f1 : Qam ((Qhn x i).length + 1) := by unfold Qam; omega
  have h0 : (0 : Int) ≤ i := by omega
  by_cases e : Qhh .and .u64 (shrW .u64 x i) 1 = 1
  ·rw [if_pos (by unfold bitB; rw [decide_eq_true e])] at k8
   simp only [hlt,e,i1,h0,f1,k8,Qk,Ql,Qg,Qj,Qn,Qa,Qb,BL,simprocAttr]
  ·rw [if_neg (by unfold bitB; rw [decide_eq_false e]; simp)] at k8
   simp only [hlt,e,i1,h0,k8,Qa,Qb,BL,simprocAttr]
 ·have hlt : ¬ (((10 : Nat) : Int) < 10) := by omega
  have vH : Qbi 1 ((Qga x).map V.i) 0 (Qga x).length = (Qga x).map eI := Qhi _ rfl
  simp only [hlt,← z6,vH,vw_I,Qn,Qi,BL,simprocAttr]
def onA (x m k : Int) : Int := IntKind.u64.wrap (Qhh .and .u64 (shrW .u64 x k) m + Qhh .and .u64 x m)
def onB (x k : Int) : Int := IntKind.u64.wrap (x + shrW .u64 x k)
def Qd2 (x : Int) : Int :=
 let x1 := onA x 6148914691236517205 1
 let x2 := onA x1 3689348814741910323 2
 let x3 := Qhh .and .u64 (IntKind.u64.wrap (shrW .u64 x2 4 + x2)) 1085102592571150095
 Qhh .and .i64 (IntKind.i64.wrap (onB (onB (onB x3 8) 16) 32)) 127
def X66 (x : Int) : Qa1 TP 66 [.w .u64 x] (.i (Qd2 x)) := by
 refine pc Qsr func66 cf66 ?_
 simp only [rc66,rs66,cvkV,mkI,Qd2,onA,onB,BL,simprocAttr]
def Qmz (hp : List Blk) (n : Nat) (k : IntKind) (x : Int) : vw hp (n + 1) (.w k x) = .w k x := rfl
def e66 (x : Int) : List V := [.w .u64 x]
def d66 : List V → Int | [.w _ x] => x | _ => 0
def Zdg (x : Int) : d66 (e66 x) = x := rfl
def K111 := (K110.ext 97 (fnG e66 d66 (fun _ => True) Qga (fun l => .sl 1 (l.map eI)))).ext 66 (fnG e66 d66 (fun _ => True) Qd2 (.i))
def Zaz : GOk TP K111 := (Qsr.ext call97 (Qa7 (e := e66) (d := d66) (ok := fun _ => True) (g := Qga) (eb := fun l => .sl 1 (l.map eI)) fun a _ => X97 a)).ext call66 (Qa7 fun a _ => X66 a)
def k97 (x : Int) : K111 97 [.w .u64 x] = (True,.sl 1 ((Qga x).map eI)) := (ky K111 97 (Zdg x) rfl (by decide) :)
def k66 (x : Int) : K111 66 [.w .u64 x] = (True,.i (Qd2 x)) := (kx K111 66 (Zdg x) rfl :)
def X36 (x : Int) : Qa1 TP 36 [.w .u64 x] (.i (Qd2 x)) := by
 refine pc Zaz func36 cf36 ?_
 simp only [rc36,rs36,k66,Qmz,BL,simprocAttr]
def K112 := K111.ext 36 (fnG e66 d66 (fun _ => True) Qd2 (.i))
def Zb0 : GOk TP K112 := Zaz.ext call36 (Qa7 fun a _ => X36 a)
def k36 (x : Int) : K112 36 [.w .u64 x] = (True,.i (Qd2 x)) := (kx K112 36 (Zdg x) rfl :)
def Qxt (w : Work) (i n m k : Int)  := lft K112 (h118 w i n m k) rfl
def ownK (w : Work) (sp n m : Int) : Nat → Int
 | 0 => 0
 | k + 1 => if Qcn w sp n m k = true then Qhh .or .i64 (ownK w sp n m k) (shlW .i64 1 k) else ownK w sp n m k
def ownM (w : Work) (m : Int) (sp n : Int) : Int := ownK w sp n m (Qav w m).length
def orI (x y : Int) : Int := Qhh .or .i64 x y
def ddp : List Int → List Int
 | [] => []
 | x :: l => if x ∈ l then ddp l else x :: ddp l
def Qly {y : Int} : ∀ {l : List Int},y ∈ ddp l ↔ y ∈ l
 | [] => Iff.rfl
 | x :: l => by
  unfold ddp
  split
  ·rename_i h
   rw [Qly (l := l),Q5]
   exact ⟨.inr,fun h2 => h2.elim (fun e => e ▸ h) id⟩
  ·rw [Q5,Q5,Qly (l := l)]
def Ql8 : ∀ l : List Int,(ddp l).Nodup
 | [] => Zz
 | x :: l => by
  unfold ddp
  split
  ·exact Ql8 l
  ·rename_i h
   exact List.nodup_cons.2 ⟨fun hm => h (Qly.1 hm),Ql8 l⟩
def mskS (w : Work) (m : Int) (acc : List Int) (sp : Int) : List Int := ddp (acc.flatMap fun x => (Qcx w sp).map fun n => orI x (ownM w m sp n))
def mskF (w : Work) (m : Int) (l : List Int) : List Int := l.foldl (mskS w m) [0]
def Qnl (w : Work) (m : Int) (l : List Int) : (mskF w m l).Nodup := by
 refine Qb0 (p := fun l => (mskF w m l).Nodup) (by simp [mskF]) (fun l x _ => ?_) l
 unfold mskF
 rw [Zs]
 exact Ql8 _
def or16 : ∀ a b : Fin 16,0 ≤ orI (a.val : Int) (b.val : Int) ∧ orI (a.val : Int) (b.val : Int) < 16 := by decide +kernel
def Zky {a b : Int} (ha : 0 ≤ a ∧ a < 16) (hb : 0 ≤ b ∧ b < 16) : 0 ≤ orI a b ∧ orI a b < 16 := by
 have := or16 ⟨a.toNat,by omega⟩ ⟨b.toNat,by omega⟩
 simpa only [show ((a.toNat : Nat) : Int) = a by omega,show ((b.toNat : Nat) : Int) = b by omega] using this
def shl4 : ∀ a : Fin 4,0 ≤ shlW .i64 1 (a.val : Int) ∧ shlW .i64 1 (a.val : Int) < 16 := by decide +kernel
def Qww (w : Work) (sp n m : Int) : ∀ k,k ≤ 4 → 0 ≤ ownK w sp n m k ∧ ownK w sp n m k < 16
 | 0,_ => by simp [ownK]
 | k + 1,h => by
  have ih := Qww w sp n m k (by omega)
  unfold ownK
  split
  ·exact Zky ih (shl4 ⟨k,by omega⟩)
  ·exact ih
structure OkM (w : Work) (l : List Int) (m : Int) : Prop where
 ok : OkW w
 sp : ∀ x ∈ l,0 ≤ x ∧ x < w.spares.length
 mi : 0 ≤ m ∧ m < w.makes.length
 len : l.length ≤ 1000000
def OkM.get {w : Work} {l : List Int} {m : Int} (h : OkM w l m) : w.makes[m.toNat]? = some (Qav w m) := (Qdo (Qak.2 (by have := h.mi; omega))).2.2
def OkM.n4 {w : Work} {l : List Int} {m : Int} (h : OkM w l m) : (Qav w m).length ≤ 4 := (h.ok.make _ (Qe h.get)).1
def Zap {w : Work} {m : Int} (h4 : (Qav w m).length ≤ 4) (l : List Int) : ∀ y ∈ mskF w m l,0 ≤ y ∧ y < 16 := by
 refine Qb0 (p := fun l => ∀ y ∈ mskF w m l,0 ≤ y ∧ y < 16) (by simp [mskF]) (fun l x ih y hy => ?_) l
 unfold mskF at hy
 rw [Zs] at hy
 obtain ⟨z,hz,hy⟩ := Xa.1 (Qly.1 hy)
 obtain ⟨n,_,rfl⟩ := Qo.1 hy
 exact Zky (ih z hz) (Qww w x n m _ h4)
def Qs6 {xs D : List Int} (hD : D.Nodup) (h : ∀ y,y ∈ xs ↔ y ∈ D) : (cmKs xs).length = D.length := by
 have h1 := Qhr (T := cmKs xs) (U := D.map fun x => [x]) (Qn5 xs) fun k hk => by
  obtain ⟨x,hx,rfl⟩ := (Qgs xs k).1 hk
  exact Qo.2 ⟨x,(h x).1 hx,rfl⟩
 have h2 := Qhr (T := D.map fun x => [x]) (U := cmKs xs) (Qho (fun a _ b _ e => by simpa using e) hD) fun k hk => by
  obtain ⟨x,hx,rfl⟩ := Qo.1 hk
  exact (Qgs xs _).2 ⟨x,(h x).2 hx,rfl⟩
 rw [Qf] at h1 h2
 omega
def Zpv {D : List Int} (hD : D.Nodup) (h : ∀ y ∈ D,0 ≤ y ∧ y < 16) : D.length ≤ 16 := by
 have := Qhr (T := D) (U := (Qr 16).map fun (i : Nat) => (i : Int)) hD fun y hy => Qo.2 ⟨y.toNat,Qy.2 (by have := h y hy; omega),by have := h y hy; omega⟩
 simpa using this
def R129 (w : Work) (l : List Int) (m : Int) (r : V) (hp : List Blk) : Prop := ∃ xs : List Int,r = .mp 0 0 ∧ hp = [cm xs] ∧ ∀ y,y ∈ xs ↔ y ∈ mskF w m l
def key1 (xs : List Int) (j : Nat) : Int := ((cmKs xs)[j]?.getD []).headD 0
def X129 (w : Work) (l : List Int) (m : Int) (h : OkM w l m) : Qdt TP 129 [.pa (Qbs w),.sl 1 (l.map eI),.i m] (R129 w l m) := by
 refine Qx5 Zb0 hmix func129 Qxz.b Qxz.c Qxz.s Qxz.n ?_
 have u7 := h.len
 have y3 := h.get
 have h4 := h.n4
 have u5 := h.mi
 have u9 : Qbs w = [.sl 4 (w.spares.map eSpare),.sl 1 (w.makes.map eMake),.i w.cut,.sl 4 (w.table.map eTrial),.sl 1 ((Qdc w w.spares.length).map eLens)] := rfl
 have zX : (Qdc w w.spares.length).length = w.spares.length := by unfold Qdc; simp
 have fN : ∀ sp : Int,0 ≤ sp ∧ sp < w.spares.length → (Qdc w w.spares.length)[sp.toNat]? = some (Qcx w sp) := fun sp k7 => Qlx k7
 have gF := fun (i n k : Int) => Qxt w i n m k
 simp only [Qai] at gF
 generalize Qdc w w.spares.length = LW at *
 rw [u9]
 have c0 : cmKs [] = [] := rfl
 have v0 : cmVs [] = [] := rfl
 have p0 : putK [] [(0 : Int)] = cmKs [0] := rfl
 have q0 : Qfv ([] : List (List Int)) ([] : List V) [(0 : Int)] (.i 1) = cmVs [0] := rfl
 simp only [rc129,rs129,p0,q0,↓BU3,BL,simprocAttr]
 refine Qac l.length (fun i xs => ⟨lkp [(0,.pa [.sl 4 (w.spares.map eSpare),.sl 1 (w.makes.map eMake),.i w.cut,.sl 4 (w.table.map eTrial),.sl 1 (LW.map eLens)]),(2,.i m),(7,.mp 0 0),(18,.sl 1 (l.map eI)),(19,.i l.length),(20,.i i)],[cm xs]⟩)
  (fun i xs => ∀ y,y ∈ xs ↔ y ∈ mskF w m (l.take i)) [0] ?_ ?_ ?_ ?_
 ·simp only [Qd,cm,Qa0 _ _ _ (Qce _),↓BU3,BL,simprocAttr]
 ·intro y; simp [mskF]
 ·intro i xs hi xJ
  have hlt : (i : Int) < l.length := by omega
  have i1 : inI ((i : Int) + 1) := by unfold inI; omega
  obtain ⟨sp,k7⟩ : ∃ sp,l[i]? = some sp := ⟨_,Qc hi⟩
  have wS := h.sp sp (Qe k7)
  have hsl := fN sp wS
  have hLl := Qlw (w := w) (i := sp) ⟨h.ok,wS⟩
  have hD := Zap h4 (l.take i)
  have hDn := Qnl w m (l.take i)
  have xB : (cmKs xs).length ≤ 16 := by rw [Qs6 hDn xJ]; exact Zpv hDn hD
  have mK : sp < LW.length := by omega
  have mL := wS.1
  generalize hLN : Qcx w sp = LN at *
  simp only [hlt,k7,mL,mK,hsl,eLens,cm,Qa0 _ _ _ (Qce _),↓BU3,BL,simprocAttr]
  refine Qac LN.length (fun k ys => ⟨lkp [(0,.pa [.sl 4 (w.spares.map eSpare),.sl 1 (w.makes.map eMake),.i w.cut,.sl 4 (w.table.map eTrial),.sl 1 (LW.map eLens)]),(2,.i m),(7,.mp 0 0),(9,.i sp),(10,.mp 1 0),(18,.sl 1 (l.map eI)),(19,.i l.length),(20,.i i),(31,.sl 1 (LN.map eI)),(32,.i LN.length),(33,.i k)],[cm xs,cm ys]⟩)
   (fun k ys => ys.length ≤ k * 16 ∧ ∀ y,y ∈ ys ↔ ∃ n ∈ LN.take k,∃ x ∈ xs,y = orI x (ownM w m sp n)) [] ?_ ?_ ?_ ?_
  ·simp only [Qd,cm,c0,v0,Qa0 _ _ _ (Qce _),↓BU3,BL,simprocAttr]
  ·exact ⟨Nat.zero_le _,fun y => by simp⟩
  ·rintro k ys hk ⟨eF,zM⟩
   have vG : (k : Int) < LN.length := by omega
   have i2 : inI ((k : Int) + 1) := by unfold inI; omega
   obtain ⟨n,hn⟩ : ∃ n,LN[k]? = some n := ⟨_,Qc hk⟩
   simp only [vG,hn,y3,u5,cm,↓BU3,BL,simprocAttr]
   refine Qaq (Qav w m).length (fun j => ⟨lkp [(0,.pa [.sl 4 (w.spares.map eSpare),.sl 1 (w.makes.map eMake),.i w.cut,.sl 4 (w.table.map eTrial),.sl 1 (LW.map eLens)]),(2,.i m),(7,.mp 0 0),(9,.i sp),(10,.mp 1 0),(12,.i n),(13,.i (ownK w sp n m j)),(18,.sl 1 (l.map eI)),(19,.i l.length),(20,.i i),(31,.sl 1 (LN.map eI)),(32,.i LN.length),(33,.i k),(46,.i (Qav w m).length),(47,.i j)],[cm xs,cm ys]⟩) ?_ ?_ ?_
   ·simp only [Qd,ownK,cm,↓BU3,BL,simprocAttr]
   ·intro j hj
    have xU : (j : Int) < (Qav w m).length := by omega
    have i3 : inI ((j : Int) + 1) := by unfold inI; omega
    have q8 : (0 : Int) ≤ j := by omega
    have g := gF sp n j
    have c7 : OkF w sp m j := ⟨h.ok,wS,by
     unfold Qay
     rw [Qak.2 (by omega),Qak.2 (by omega)]; rfl⟩
    have k8 : ownK w sp n m (j + 1) = if Qcn w sp n m j = true then Qhh .or .i64 (ownK w sp n m j) (shlW .i64 1 j) else ownK w sp n m j := rfl
    cases e : Qcn w sp n m j with
    | true =>
     rw [if_pos e] at k8
     simp only [xU,g,c7,e,k8,i3,q8,cm,Qa,Qb,↓BU3,BL,simprocAttr]
    | false =>
     rw [if_neg (by rw [e]; simp)] at k8
     simp only [xU,g,c7,e,k8,i3,cm,Qa,Qb,↓BU3,BL,simprocAttr]
   ·have xU : ¬ (((Qav w m).length : Int) < (Qav w m).length) := by omega
    obtain ⟨O,hO⟩ : ∃ O,O = ownK w sp n m (Qav w m).length := ⟨_,rfl⟩
    have hO2 : ownM w m sp n = O := hO.symm
    simp only [xU,← hO,cm,↓BU3,BL,simprocAttr]
    refine Qzh (cmKs xs).length (fun pre => ⟨lkp [(0,.pa [.sl 4 (w.spares.map eSpare),.sl 1 (w.makes.map eMake),.i w.cut,.sl 4 (w.table.map eTrial),.sl 1 (LW.map eLens)]),(2,.i m),(7,.mp 0 0),(9,.i sp),(10,.mp 1 0),(13,.i O),(18,.sl 1 (l.map eI)),(19,.i l.length),(20,.i i),(31,.sl 1 (LN.map eI)),(32,.i LN.length),(33,.i k),(65,.it 2 0)],
     [cm xs,cm (ys ++ pre.map fun j => orI (key1 xs j) O),.iter 0 (cmKs xs).length (Qkf (cmKs xs).length pre) pre.getLast?]⟩) (fun _ => True) ?_ trivial ?_
    ·simp only [cm,Qwd,List.getLast?_nil,↓BU3,BL,simprocAttr]
    ·intro pre hnd xI _
     simp only [cm,↓BU3,BL,simprocAttr]
     refine ⟨fun hnil => ?_,fun j hj => ?_⟩
     ·have dB := Quc hnd xI hnil
      have xL : pre.length ≤ 16 := by have := Qm3 hnd xI; omega
      refine ⟨i2,ys ++ pre.map (fun j => orI (key1 xs j) O),⟨?_,fun y => ?_⟩,?_⟩
      ·rw [Ql,Qf]; omega
      ·rw [Zc,zM,Qa4 hn,Qo]
       constructor
       ·rintro (⟨n',hn',x,hx,e⟩ | ⟨j,hj,e⟩)
        ·exact ⟨n',Zc.2 (.inl hn'),x,hx,e⟩
        ·obtain ⟨x,hx,kY,_⟩ := Qs1 (xI j hj)
         refine ⟨n,Zc.2 (.inr (by simp)),x,hx,?_⟩
         rw [hO2,← e]; unfold key1; rw [kY]; rfl
       ·rintro ⟨n',hn',x,hx,e⟩
        rcases Zc.1 hn' with hn' | hn'
        ·exact .inl ⟨n',hn',x,hx,e⟩
        ·rw [Zf] at hn'
         subst hn'
         have hm := (Qgs xs [x]).2 ⟨x,hx,rfl⟩
         refine .inr ⟨(cmKs xs).idxOf [x],dB.mem_iff.2 (Qy.2 (List.idxOf_lt_length_iff.2 hm)),?_⟩
         unfold key1
         rw [Qlp hm,e,hO2]; rfl
      ·simp only [Qa0 _ _ _ (Qce _),cm,Qa,Qb,↓BU3,BL,simprocAttr]
     ·obtain ⟨wY,nF⟩ := Qlz.1 hj
      obtain ⟨x,hx,kY,vV⟩ := Qs1 wY
      have lS : key1 xs j = x := by unfold key1; rw [kY]; rfl
      have xL : pre.length ≤ 16 := by have := Qm3 hnd xI; omega
      have i4 : ∀ y,inI (((ys ++ pre.map fun j => orI (key1 xs j) O).count y : Int) + 1) := by
       intro y
       have h1 := List.count_le_length (a := y) (l := ys ++ pre.map fun j => orI (key1 xs j) O)
       rw [Ql,Qf] at h1
       unfold inI; omega
      have uD : ys ++ (pre ++ [j]).map (fun j => orI (key1 xs j) O) = (ys ++ pre.map fun j => orI (key1 xs j) O) ++ [orI x O] := by rw [Qk,Qm,Qv,lS,Q0]
      have pN : Qhh .or .i64 x O = orI x O := rfl
      simp only [kY,vV,Qr4 hj,pN,Qv4,i4,Za0,← Qeo,↓BU3,BL,simprocAttr]
      refine ⟨j,hj,?_⟩
      simp only [uD,List.getLast?_concat,↓BU3,BL,simprocAttr]
  ·rintro ys ⟨eF,zM⟩
   have vG : ¬ ((LN.length : Int) < LN.length) := by omega
   simp only [vG,i1,cm,Qa0 _ _ _ (Qce _),Qa,Qb,↓BU3,BL,simprocAttr]
   refine ⟨ys,fun y => ?_,?_⟩
   ·rw [zM,Qa4 k7,Qx]
    unfold mskF
    rw [Zs]
    show _ ↔ y ∈ mskS w m (mskF w m (l.take i)) sp
    unfold mskS
    rw [Qly,Xa,hLN]
    constructor
    ·rintro ⟨n,hn,x,hx,e⟩
     exact ⟨x,(xJ x).1 hx,Qo.2 ⟨n,hn,e.symm⟩⟩
    ·rintro ⟨x,hx,h2⟩
     obtain ⟨n,hn,e⟩ := Qo.1 h2
     exact ⟨n,hn,x,(xJ x).2 hx,e.symm⟩
   ·simp only [Qcz _ _ (Qce _),Qa0 _ _ _ (Qce _),cm,↓BU3,BL,simprocAttr]
 ·intro xs xJ
  have hlt : ¬ ((l.length : Int) < l.length) := by omega
  rw [Qx] at xJ
  simp only [hlt,↓BU3,BL,simprocAttr]
  exact ⟨xs,rfl,rfl,xJ⟩
def eOM (a : Work × List Int × Int) : List V := [.pa (Qbs a.1),.sl 1 (a.2.1.map eI),.i a.2.2]
def dOM : List V → Work × List Int × Int | [.pa p,.sl _ l,.i m] => (Qv8 p,l.map dI,m) | _ => (Qc0 [],[],0)
def Zdl (a : Work × List Int × Int) : dOM (eOM a) = a := by
 obtain ⟨w,l,m⟩ := a
 simp [dOM,eOM,Qs2,Function.comp_def,Qas]
def p129 (vs : List V) : Prop := eOM (dOM vs) = vs ∧ OkM (dOM vs).1 (dOM vs).2.1 (dOM vs).2.2
def q129 : List V → Prop
 | .tp (r :: bs) :: vs => ∃ xs : List Int,r = .mp 0 0 ∧ bs = [bV (cm xs)] ∧ ∀ y,y ∈ xs ↔ y ∈ mskF (dOM vs).1 (dOM vs).2.2 (dOM vs).2.1
 | _ => False
def K113 := (K112.ext 3000129 fun vs => (p129 vs,.u)).ext 4000129 fun vs => (q129 vs,.u)
def Zb1 : GOk TP K113 := by
 refine Zb0.extR (f := 129) (p := p129) (q := q129) (fun a w => call129 a w) fun vs h => ?_
 have := X129 _ _ _ h.2
 have e : eOM (dOM vs) = vs := h.1
 unfold eOM at e
 rw [e] at this
 refine this.mono fun r hp hr => ?_
 obtain ⟨xs,rfl,rfl,hi⟩ := hr
 exact ⟨[bV (cm xs)],by simp [cm,Zce],xs,rfl,rfl,hi⟩
def x129 (w : Work) (l : List Int) (m : Int) : K113 3000129 [.pa (Qbs w),.sl 1 (l.map eI),.i m] = (OkM w l m,.u) := by
 refine (show K113 3000129 _ = (p129 (eOM (w,l,m)),V.u) from rfl).trans ?_
 unfold p129
 rw [Zdl]; simp
def Zqo (w : Work) (l : List Int) (m : Int) (x : V) (bs : List V) : K113 4000129 [.tp (x :: bs),.pa (Qbs w),.sl 1 (l.map eI),.i m] = (∃ xs : List Int,x = .mp 0 0 ∧ bs = [bV (cm xs)] ∧ ∀ y,y ∈ xs ↔ y ∈ mskF w m l,.u) := by
 refine (show K113 4000129 _ = (∃ xs : List Int,x = .mp 0 0 ∧ bs = [bV (cm xs)] ∧ ∀ y,y ∈ xs ↔ y ∈ mskF (dOM (eOM (w,l,m))).1 (dOM (eOM (w,l,m))).2.2 (dOM (eOM (w,l,m))).2.1,V.u) from rfl).trans ?_
 rw [Zdl]
def k89' (a b : Int) : K113 89 [.i a,.i b] = (True,.i (Qk4 a b)) := rfl
def Qxm (w : Work) (m : Int) : Int := shlW .i64 1 (Qav w m).length - 1
def Qom (w : Work) (l : List Int) (m : Int) : Int := Qk4 (if Qxm w m ∈ mskF w m l then 1 else 0) (mskF w m l).length
def shl5 : ∀ a : Fin 5,1 ≤ shlW .i64 1 (a.val : Int) ∧ shlW .i64 1 (a.val : Int) ≤ 16 := by decide +kernel
def X96 (w : Work) (l : List Int) (m : Int) (h : OkM w l m) : Qa1 TP 96 [.pa (Qbs w),.sl 1 (l.map eI),.i m] (.i (Qom w l m)) := by
 refine pc Zb1 func96 cf96 ?_
 have y3 := h.get
 have h4 := h.n4
 have u5 := h.mi
 have g1 := x129 w l m
 have g2 := fun x bs => Zqo w l m x bs
 have hD := Zap h4 l
 have hDn := Qnl w m l
 have u9 : Qbs w = [.sl 4 (w.spares.map eSpare),.sl 1 (w.makes.map eMake),.i w.cut,.sl 4 (w.table.map eTrial),.sl 1 ((Qdc w w.spares.length).map eLens)] := rfl
 generalize (Qdc w w.spares.length).map eLens = LW at *
 rw [u9] at g1 g2 ⊢
 have s5 := shl5 ⟨(Qav w m).length,by omega⟩
 simp only at s5
 have i1 : inI (shlW .i64 1 (Qav w m).length - 1) := by unfold inI; omega
 have wT : (0 : Int) ≤ (Qav w m).length := by omega
 have hW : shlW .i64 1 (Qav w m).length - 1 = Qxm w m := rfl
 obtain ⟨D,hDd⟩ : ∃ D,D = mskF w m l := ⟨_,rfl⟩
 have hM : Qom w l m = Qk4 (if Qxm w m ∈ D then 1 else 0) D.length := by rw [hDd]; rfl
 rw [← hDd] at g2 hD hDn
 simp only [rc96,rs96,g1,h,g2,↓BU3,BL,simprocAttr]
 rintro r bs ⟨xs,rfl,rfl,xJ⟩
 have xB := Qs6 hDn xJ
 simp only [cm,Qda _ _ (Qce _),y3,u5,wT,i1,hW,Qv4,k89',↓BU3,BL,simprocAttr]
 rw [hM,xB]
 refine ⟨by rw [← hW]; exact i1,fun hc => ?_,fun hc => ?_⟩
 ·rw [if_pos ((xJ _).1 (Z5.1 (by omega)))]
 ·rw [if_neg fun hm => hc (by have := Z5.2 ((xJ _).2 hm); omega)]
def K114 := K113.ext 96 (fnG eOM dOM (fun a => OkM a.1 a.2.1 a.2.2) (fun a => Qom a.1 a.2.1 a.2.2) (.i))
def Zb2 : GOk TP K114 := Zb1.ext call96 (Qa7 fun a h => X96 a.1 a.2.1 a.2.2 h)
def x96 (w : Work) (l : List Int) (m : Int) : K114 96 [.pa (Qbs w),.sl 1 (l.map eI),.i m] = (OkM w l m,.i (Qom w l m)) := (kx K114 96 (Zdl (w,l,m)) rfl :)
def setB (w : Work) (many : Nat) (x : Nat) : Bool := decide (Qd2 x = many) && (Qr w.makes.length).all fun (m : Nat) => decide (Qom w (Qga x) m = 1)
def Qki (w : Work) (many : Nat) (k : Nat) : List Int := (((Qr (2 ^ w.spares.length)).drop k).filter (setB w many)).map fun (i : Nat) => (i : Int)
def Qgb (w : Work) (k : Nat) : List Int := ((Qr (w.spares.length + 1)).drop k).flatMap fun many => Qki w many 0
def Qif (w : Work) : List Int := Qgb w 0
def Qug {w : Work} {many k : Nat} (h : k < 2 ^ w.spares.length) : Qki w many k = if setB w many k = true then (k : Int) :: Qki w many (k + 1) else Qki w many (k + 1) := by
 unfold Qki
 rw [Qad (Zm h),Qw]
 split <;> rfl
def Qxh (w : Work) (many : Nat) : Qki w many (2 ^ w.spares.length) = [] := by
 unfold Qki
 rw [Z0.2 (by simp)]; rfl
def Qr6 {w : Work} {k : Nat} (h : k < w.spares.length + 1) : Qgb w k = Qki w k 0 ++ Qgb w (k + 1) := by
 unfold Qgb
 rw [Qad (Zm h),List.flatMap_cons]
def Qu6 (w : Work) : Qgb w (w.spares.length + 1) = [] := by
 unfold Qgb
 rw [Z0.2 (by simp)]; rfl
def Zci {x : Int} (h : 0 ≤ x ∧ x < 9223372036854775808) : IntKind.u64.wrap x = x := by
 have : x % 18446744073709551616 = x := Int.emod_eq_of_lt h.1 (by omega)
 simp [IntKind.wrap,IntKind.signed,IntKind.bits,this]
def shlU : ∀ a : Fin 11,shlW .u64 1 (a.val : Int) = ((2 ^ a.val : Nat) : Int) := by decide +kernel
def and0 : Qhh .and .u64 0 1 = 0 := by decide +kernel
def Qyu {n : Nat} (hn : n ≤ 10) {x : Nat} (hx : x < 2 ^ n) : ∀ y ∈ Qga x,0 ≤ y ∧ y < n := by
 intro y hy
 unfold Qga Qhn at hy
 obtain ⟨i,hi,rfl⟩ := Qo.1 hy
 obtain ⟨iI,fO⟩ := Zw.1 hi
 have iI := Qy.1 iI
 refine ⟨by omega,Classical.byContradiction fun hc => ?_⟩
 have kA : n ≤ i := by omega
 have h0 : shrW .u64 x i = 0 := by
  unfold shrW
  have e : min (i : Int).toNat IntKind.u64.bits = i := by
   rw [Q6]
   have : IntKind.u64.bits = 64 := rfl
   omega
  rw [e]
  have h1 : x < 2 ^ i := Nat.lt_of_lt_of_le hx (Zl (by decide) kA)
  have h2 : ((x : Int)) < 2 ^ i := by
   have : ((2 ^ i : Nat) : Int) = (2 : Int) ^ i := by simp
   rw [← this]; omega
  rw [Int.fdiv_eq_ediv_of_nonneg _ (by have := Int.pow_pos (n := 2) (m := i) (by decide); omega)]
  exact Int.ediv_eq_zero_of_lt (by omega) h2
 unfold bitB at fO
 rw [h0,and0] at fO
 exact absurd fO (by decide)
def encL (x : Int) : List V := gyE [.w .u64 x] []
def itL (w : Work) (l : Nat) (bv : List V) : List Blk := .gh [.yl l,.pa (Qbs w)] (some ((.b true :: bv) :: (Qif w).map encL)) :: bv.map vB
def OkAl (al : List V → Prop) : Prop := (∀ bv,al bv → ∃ b1 b2,bv = [b1,b2]) ∧ ∀ b1 b2 hp,al [b1,b2] → cutB hp 3 (vB b1) = vB b1 ∧ cutB hp 3 (vB b2) = vB b2
def tL (al : List V → Prop) (xs : List V) (hp : List Blk) : Prop × (V → List Blk → Prop) :=
 (∃ w l bv,OkW w ∧ al bv ∧ OkAl al ∧ xs = [.pa (Qbs w),.yl l] ∧ hp = itL w l bv,
  fun r hp => ∃ w l,xs = [.pa (Qbs w),.yl l] ∧ Go.C06.RIt al [.yl l,.pa (Qbs w)] r hp)
def X64 (al : List V → Prop) (w : Work) (l : Nat) (b1 b2 : V) (hw : OkW w) (vL : al [b1,b2]) (hone : OkAl al) :
  Qkc TP 64 al [.pa (Qbs w),.yl l] (itL w l [b1,b2]) (Go.C06.RIt al [.yl l,.pa (Qbs w)]) := by
 refine Qiy (Zb2.wal al) hmix func64 cf64.b (lo := 3) cf64.c cf64.s (by exact cf64.n) (by rfl) (by decide) ?_
 have v7 : (K114.wal al).al = al := rfl
 have cF := hw.nsp
 have pO := hw.nmk
 have g36 : ∀ x : Int,(K114.wal al) 36 [.w .u64 x] = (True,.i (Qd2 x)) := fun x => k36 x
 have g97 : ∀ x : Int,(K114.wal al) 97 [.w .u64 x] = (True,.sl 1 ((Qga x).map eI)) := fun x => k97 x
 have g96 := fun (l : List Int) (m : Int) => (show (K114.wal al) 96 [.pa (Qbs w),.sl 1 (l.map eI),.i m] = (OkM w l m,.i (Qom w l m)) from x96 w l m)
 have u9 : Qbs w = [.sl 4 (w.spares.map eSpare),.sl 1 (w.makes.map eMake),.i w.cut,.sl 4 (w.table.map eTrial),.sl 1 ((Qdc w w.spares.length).map eLens)] := rfl
 have hLL : Qif w = Qgb w 0 := rfl
 unfold itL
 generalize uB : (Qdc w w.spares.length).map eLens = LW at *
 rw [u9] at g96 ⊢
 have i0 : inI ((w.spares.length : Int) + 1) := by unfold inI; omega
 have mM := shlU ⟨w.spares.length,by omega⟩
 simp only at mM
 have z8 : 2 ^ w.spares.length ≤ 1024 := Zl (n := 2) (j := 10) (by decide) cF
 have wT : (0 : Int) ≤ w.spares.length := by omega
 obtain ⟨P2,hP2⟩ : ∃ P2,P2 = 2 ^ w.spares.length := ⟨_,rfl⟩
 have bF := Qxh w
 have nQ := fun (many k : Nat) => Qug (w := w) (many := many) (k := k)
 rw [← hP2] at mM z8 bF
 simp only [← hP2] at nQ
 have yA : ∀ c1 c2,al [c1,c2] → (∀ hp,cutB hp 3 (vB c1) = vB c1) ∧ ∀ hp,cutB hp 3 (vB c2) = vB c2 := fun c1 c2 h => ⟨fun hp => (hone.2 c1 c2 hp h).1,fun hp => (hone.2 c1 c2 hp h).2⟩
 simp only [cutB] at yA
 obtain ⟨xQ,zD⟩ := yA b1 b2 vL
 have nR : ((w.spares.length + 1 : Nat) : Int) = (w.spares.length : Int) + 1 := by omega
 simp only [rc64,rs64,v7,hLL,i0,↓BU3,BL,simprocAttr]
 refine Qac (w.spares.length + 1) (fun many (y : V × V) => ⟨lkp [(0,.pa [.sl 4 (w.spares.map eSpare),.sl 1 (w.makes.map eMake),.i w.cut,.sl 4 (w.table.map eTrial),.sl 1 LW]),(1,.yl l),(13,.i ((w.spares.length : Int) + 1)),(14,.i many)],
   [.gh [.yl l,.pa [.sl 4 (w.spares.map eSpare),.sl 1 (w.makes.map eMake),.i w.cut,.sl 4 (w.table.map eTrial),.sl 1 LW]] (some ((.b true :: [y.1,y.2]) :: (Qgb w many).map encL)),vB y.1,vB y.2]⟩) (fun many y => al [y.1,y.2]) (b1,b2) ?_ vL ?_ ?_
 ·simp only [Qd,↓BU3,BL,simprocAttr]
 ·rintro many ⟨c1,c2⟩ fP hc
  simp only at hc
  have hlt : (many : Int) < (w.spares.length : Int) + 1 := by omega
  have i1 : inI ((many : Int) + 1) := by unfold inI; omega
  have jI := Qr6 fP
  simp only [hlt,wT,mM,↓BU3,BL,simprocAttr]
  refine Qac P2 (fun x (y : V × V) => ⟨lkp [(0,.pa [.sl 4 (w.spares.map eSpare),.sl 1 (w.makes.map eMake),.i w.cut,.sl 4 (w.table.map eTrial),.sl 1 LW]),(1,.yl l),(4,.i many),(13,.i ((w.spares.length : Int) + 1)),(14,.i many),(23,.w .u64 (P2 : Nat)),(24,.w .u64 x)],
   [.gh [.yl l,.pa [.sl 4 (w.spares.map eSpare),.sl 1 (w.makes.map eMake),.i w.cut,.sl 4 (w.table.map eTrial),.sl 1 LW]] (some ((.b true :: [y.1,y.2]) :: (Qki w many x ++ Qgb w (many + 1)).map encL)),vB y.1,vB y.2]⟩) (fun x y => al [y.1,y.2]) (c1,c2) ?_ hc ?_ ?_
  ·simp only [Qd,jI,↓BU3,BL,simprocAttr]
  ·rintro x ⟨d1,d2⟩ hx hd
   simp only at hd
   have hxl : (x : Int) < P2 := by omega
   have dC : IntKind.u64.wrap ((x : Int) + 1) = (x : Int) + 1 := Zci (by omega)
   have aK := nQ many x hx
   have hB : setB w many x = (decide (Qd2 x = many) && (Qr w.makes.length).all fun (m : Nat) => decide (Qom w (Qga x) m = 1)) := rfl
   by_cases e1 : Qd2 x = many
   rotate_left
   ·rw [if_neg (by rw [hB]; simp [e1])] at aK
    simp only [hxl,g36,Qmz,e1,dC,aK,Qa,Qb,↓BU3,BL,simprocAttr]
    exact ⟨(d1,d2),hd,rfl⟩
   simp only [hxl,g36,Qmz,e1,↓BU3,BL,simprocAttr]
   have iS := Qyu (n := w.spares.length) cF (x := x) (by rw [← hP2]; exact hx)
   have u7 := Qpv x 10
   refine Qao w.makes.length (fun m => ⟨lkp [(0,.pa [.sl 4 (w.spares.map eSpare),.sl 1 (w.makes.map eMake),.i w.cut,.sl 4 (w.table.map eTrial),.sl 1 LW]),(1,.yl l),(4,.i many),(5,.w .u64 x),(13,.i ((w.spares.length : Int) + 1)),(14,.i many),(23,.w .u64 (P2 : Nat)),(24,.w .u64 x),(36,.i w.makes.length),(37,.i m)],
    [.gh [.yl l,.pa [.sl 4 (w.spares.map eSpare),.sl 1 (w.makes.map eMake),.i w.cut,.sl 4 (w.table.map eTrial),.sl 1 LW]] (some ((.b true :: [d1,d2]) :: (Qki w many x ++ Qgb w (many + 1)).map encL)),vB d1,vB d2]⟩) (fun m => ∀ j : Nat,j < m → Qom w (Qga x) j = 1) ?_ ?_ ?_ ?_
   ·simp only [Qd,↓BU3,BL,simprocAttr]
   ·intro j hj; omega
   ·intro m hm hC
    have u8 : (m : Int) < w.makes.length := by omega
    have i2 : inI ((m : Int) + 1) := by unfold inI; omega
    have cM : OkM w (Qga x) m := ⟨hw,iS,by omega,by unfold Qga; omega⟩
    by_cases e2 : Qom w (Qga x) m = 1
    ·simp only [u8,g97,g96,cM,e2,i2,Qmz,vw_I,Qa,Qb,↓BU3,BL,simprocAttr]
     intro j hj
     by_cases e : j = m
     ·subst e; exact e2
     ·exact hC j (by omega)
    ·have hf : setB w many x = false := by
      rw [hB,Bool.and_eq_false_iff]
      exact .inr (Qkv hm (by simpa using e2))
     rw [if_neg (by rw [hf]; simp)] at aK
     simp only [u8,g97,g96,cM,e2,Qmz,vw_I,dC,aK,Qa,Qb,↓BU3,BL,simprocAttr]
     exact ⟨(d1,d2),hd,rfl⟩
   ·intro hC
    have u8 : ¬ ((w.makes.length : Int) < w.makes.length) := by omega
    have ht : setB w many x = true := by
     rw [hB,e1,Qt]
     exact ⟨by simp,Za.2 fun j hj => by rw [decide_eq_true_eq]; exact hC j (Qy.1 hj)⟩
    rw [if_pos ht] at aK
    simp only [u8,aK,encL,gyE,v7,↓BU3,BL,simprocAttr]
    rintro b bv' uX
    obtain ⟨d3,d4,rfl⟩ := hone.1 bv' uX
    refine ⟨fun hb => ?_,fun hb => ?_⟩
    ·subst hb; exact ⟨false,[d3,d4],[],[],by simp,by simp,uX⟩
    ·subst hb
     refine ⟨(d3,d4),uX,?_⟩
     simp only [dC,Qa,Qb,↓BU3,BL,simprocAttr]
  ·rintro ⟨d1,d2⟩ hd
   simp only at hd
   have hxl : ¬ ((P2 : Int) < P2) := by omega
   simp only [hxl,bF,i1,Qa,Qb,↓BU3,BL,simprocAttr]
   exact ⟨(d1,d2),hd,rfl⟩
 ·rintro ⟨c1,c2⟩ hc
  simp only at hc
  have hlt : ¬ (((w.spares.length + 1 : Nat) : Int) < (w.spares.length : Int) + 1) := by omega
  rw [Qu6]
  simp only [hlt,↓BU3,BL,simprocAttr]
  exact ⟨true,[c1,c2],[],[],by simp,fun _ => rfl,hc⟩
def K115 := K114.extY 64 tL
def Zb3 : GOk TP K115 := by
 refine Zb2.extY call64 fun al xs hp h => ?_
 obtain ⟨w,l,bv,h1,h2,h3,rfl,rfl⟩ := h
 obtain ⟨b1,b2,rfl⟩ := h3.1 bv h2
 exact (X64 al w l b1 b2 h1 h2 h3).mono fun r hp h => ⟨w,l,rfl,h⟩
def Zcn (al : List V → Prop) (xs : List V) (hp : List Blk) : K115.y 64 al xs hp = tL al xs hp := rfl
def Ze8 (w : Work) (is : Bool) := lft K115 (h80 w is) rfl
def Qw0 (x : Int) := lft K115 (k36 x) rfl
def eU6 (x : Int) : List V := [.w .u64 x]
def vU6 (x : Int) : V := .w .u64 x
def Zib (L : List Int) : (L.map eU6).flatten = L.map vU6 := by induction L <;> simp_all [eU6,vU6]
def Qm4 (L : List Int) : Qa8 (L.map vU6) = false := by induction L <;> simp_all [Qa8,Qan,vU6]
def vw_U (hp : List Blk) (n : Nat) (l : List Int) : (l.map eU6).map (fun r => r.map (vw hp (n + 1))) = l.map eU6 := Qa6 (e := eU6) hp (n + 1) (fun _ => rfl) l
def Qv2 (w : List Int) {m : Nat} (h : w.length = m) : Qbi 1 (w.map vU6) 0 m = w.map eU6 := by
 have := Qa9 (e := eU6) (k := 1) (fun _ => rfl) w
 rw [Zib] at this
 rw [← h]; exact this
def fewF : List Int → List Int
 | [] => []
 | x :: l => x :: l.takeWhile fun y => !decide (Qd2 x < Qd2 y)
def Qla (w : Work) : V := if Qb5 w true = 0 then (if Qif w = [] then .tp [.sl 1 [],.i 3] else .tp [.sl 1 ((fewF (Qif w)).map eU6),.i 0]) else .tp [.sl 1 [],.i (Qb5 w true)]
def Zcc {p : Int → Bool} : ∀ {l : List Int},(∀ y ∈ l,p y = true) → l.takeWhile p = l
 | [],_ => rfl
 | x :: l,h => by rw [Zr (h x (by simp)),Zcc fun y hy => h y (by simp [hy])]
def Zcd {p : Int → Bool} {y : Int} {b : List Int} (hy : ¬ p y = true) : ∀ {a : List Int},(∀ z ∈ a,p z = true) → (a ++ y :: b).takeWhile p = a
 | [],_ => by rw [Zd,List.takeWhile_cons_of_neg hy]
 | x :: a,h => by rw [Zt,Zr (h x (by simp)),Zcd hy fun z hz => h z (by simp [hz])]
def Qyk {L : List Int} {x : Int} (h0 : L[0]? = some x) (h : ∀ y ∈ L,¬ Qd2 x < Qd2 y) : fewF L = L := by
 cases L with
 | nil => cases h0
 | cons a l =>
  simp only [Qq,Zg.injEq] at h0
  subst h0
  show a :: l.takeWhile _ = _
  rw [Zcc fun y hy => by simpa using h y (by simp [hy])]
def Qyl {L : List Int} {x y : Int} {k : Nat} (h0 : L[0]? = some x) (hk : L[k]? = some y) (hb : Qd2 x < Qd2 y) (h : ∀ z ∈ L.take k,¬ Qd2 x < Qd2 z) : fewF L = L.take k := by
 cases L with
 | nil => cases h0
 | cons a l =>
  simp only [Qq,Zg.injEq] at h0
  subst h0
  cases k with
  | zero =>
   simp only [Qq,Zg.injEq] at hk
   subst hk; omega
  | succ k =>
   simp only [Zu] at hk
   rw [Q1]
   show a :: l.takeWhile _ = _
   have hd : l = l.take k ++ y :: l.drop (k + 1) := by rw [← Qad hk,List.take_append_drop]
   have := Zcd (p := fun y => !decide (Qd2 a < Qd2 y)) (y := y) (b := l.drop (k + 1)) (a := l.take k) (by simpa using hb) fun z hz => by simpa using h z (by rw [Q1]; simp [hz])
   rw [← hd] at this
   rw [this]
def Qu5 {w : Work} (h : OkW w) : (Qif w).length ≤ 11264 := by
 have h1 := Qdg (fun many => Qki w many 0) 1024 (Qr (w.spares.length + 1)) fun many _ => by
  unfold Qki
  rw [Qf,Q8]
  refine Zh (Qz _ _) ?_
  rw [Z7]
  exact Zl (n := 2) (j := 10) (by decide) h.nsp
 have := h.nsp
 rw [Z7] at h1
 unfold Qif Qgb
 rw [Q8]; omega
def X35 (w : Work) (hw : SmallW w) : Qa1 TP 35 [.ag (Qai w)] (Qla w) := by
 refine pc Zb3 func35 cf35 ?_
 have g1 := Ze8 w true
 unfold Qgg at g1
 have q7 : Qai w = [.sl 4 (w.spares.map eSpare),.sl 1 (w.makes.map eMake),.i w.cut,.sl 4 (w.table.map eTrial)] := rfl
 rw [q7] at g1 ⊢
 unfold Qla
 by_cases e : Qb5 w true = 0
 rotate_left
 ·rw [if_neg e] at g1 ⊢
  simp only [rc35,rs35,g1,hw,e,↓BU3,BL,simprocAttr]
 rw [if_pos e] at g1 ⊢
 have jA := (Qdw e).1
 obtain ⟨L,hL⟩ : ∃ L,L = Qif w := ⟨_,rfl⟩
 rw [← hL]
 have hitL : ∀ l bv,itL w l bv = .gh [.yl l,.pa (Qbs w)] (some ((.b true :: bv) :: L.map encL)) :: bv.map vB := fun l bv => by rw [hL]; rfl
 have u9 : Qbs w = [.sl 4 (w.spares.map eSpare),.sl 1 (w.makes.map eMake),.i w.cut,.sl 4 (w.table.map eTrial),.sl 1 ((Qdc w w.spares.length).map eLens)] := rfl
 generalize uB : (Qdc w w.spares.length).map eLens = LW at *
 rw [u9] at g1
 simp only [rc35,rs35,g1,hw,e,↓BU3,BL,simprocAttr]
 refine Zc8 (gf := 64) (caps := [.pa [.sl 4 (w.spares.map eSpare),.sl 1 (w.makes.map eMake),.i w.cut,.sl 4 (w.table.map eTrial),.sl 1 LW]]) ?_ (fun bv => ∃ O : List Int,bv = [bV (.cells 0 [.rf 2 O.length 0 O.length 1]),bV (.cells O.length (O.map vU6))]) (L.map fun x => ([.w .u64 x],[])) (bv0 := [bV (.cells 0 [.rf 2 0 0 0 1]),bV (.cells 0 [])]) ?_
  (fun k bv => bv = [bV (.cells 0 [.rf 2 (L.take k).length 0 (L.take k).length 1]),bV (.cells (L.take k).length ((L.take k).map vU6))] ∧ k ≤ L.length ∧ ∀ x,L[0]? = some x → ∀ y ∈ L.take k,¬ Qd2 x < Qd2 y) ?_ ?_ ?_ ?_ ?_ ?_
 ·simp only [↓BU3,BL,simprocAttr]
 ·simp only [↓BU3,BL,simprocAttr]
 ·exact ⟨rfl,Nat.zero_le _,by simp⟩
 ·rintro k bv ⟨rfl,_,_⟩
  exact ⟨_,rfl⟩
 ·rintro bv ⟨O,rfl⟩
  refine ⟨rfl,fun hp => ?_⟩
  simp only [Qa0 _ _ _ (Qm4 _),↓BU3,BL,simprocAttr]
 ·intro l
  rw [Zcn]
  refine ⟨⟨w,l,[bV (.cells 0 [.rf 2 0 0 0 1]),bV (.cells 0 [])],jA,⟨[],rfl⟩,⟨fun bv h => ?_,fun b1 b2 hp h => ?_⟩,by rw [u9]; rfl,?_⟩,fun r hp' h => ?_⟩
  ·obtain ⟨O,h⟩ := h
   exact ⟨_,_,h⟩
  ·obtain ⟨O,h⟩ := h
   simp only [Z8.injEq,and_true] at h
   obtain ⟨rfl,rfl⟩ := h
   simp only [Qa0 _ _ _ (Qm4 _),↓BU3,BL,simprocAttr]
  ·rw [hitL,u9,Q9]; rfl
  ·obtain ⟨w',l',e,h⟩ := h
   simp only [Zt,Zd,Z8.injEq,V.yl.injEq,and_true] at e
   rw [e.1,e.2]; exact h
 ·rintro k x z bv hx ⟨rfl,hk,kA⟩
  rw [Zi,Option.map_eq_some_iff] at hx
  obtain ⟨y,hy,he⟩ := hx
  simp only [Prod.mk.injEq] at he
  obtain ⟨rfl,rfl⟩ := he
  have xB := Qag hy
  refine ⟨rfl,Qi _,?_⟩
  have xY : (L.take k).length = k := by rw [Qu]; omega
  have yS := Qa4 hy
  rw [xY]
  have f1 : Qam (k + 1) := by
   have h1 := Qu5 jA
   rw [← hL] at h1
   unfold Qam; omega
  have hLn : L ≠ [] := fun h => by rw [h] at xB; exact Xe _ xB
  have uD : ∀ O : List Int,O.map vU6 ++ [V.w .u64 y] = (O ++ [y]).map vU6 := fun O => by rw [Qk]; rfl
  by_cases uG : k = 0
  ·subst uG
   simp only [Qmz,f1,Qd,Qg,Qj,↓BU3,BL,simprocAttr]
   refine ⟨[bV (.cells 0 [.rf 2 1 0 1 1]),bV (.cells 1 [V.w .u64 y])],?_,rfl,⟨[y],rfl⟩,?_,by omega,?_⟩
   ·simp only [↓BU3,BL,simprocAttr]
   ·rw [yS]; rfl
   ·intro x h0 z hz
    rw [hy] at h0
    cases h0
    rw [yS] at hz
    simp only [Z1,Zd,Zf] at hz
    subst hz; omega
  ·obtain ⟨x0,xF⟩ : ∃ x0,L[0]? = some x0 := ⟨_,Qc (by omega)⟩
   obtain ⟨O',hO'⟩ : ∃ O',L.take k = x0 :: O' := by
    cases L with
    | nil => cases xF
    | cons a l =>
     obtain ⟨j,rfl⟩ : ∃ j,k = j + 1 := ⟨k - 1,by omega⟩
     simp only [Qq,Zg.injEq] at xF
     exact ⟨l.take j,by rw [Q1,xF]⟩
   have aL : (0 : Int) < k := by omega
   have qP : 1 ≤ k := by omega
   have hOl : O'.length + 1 = k := by have := congrArg Xc hO'; rw [xY] at this; simpa using this.symm
   by_cases hb : Qd2 x0 < Qd2 y
   ·have vZ := Qyl xF hy hb (kA x0 xF)
    rw [hO']
    simp only [vU6,Qw0,Qmz,hb,aL,qP,hOl,↓BU3,BL,simprocAttr]
    refine ⟨[bV (.cells 0 [.rf 2 k 0 k 1]),bV (.cells k ((L.take k).map vU6))],?_,rfl,⟨L.take k,by rw [xY]⟩,?_⟩
    ·rw [hO']
     simp only [Qa0 _ _ _ (Qm4 _),vU6,↓BU3,BL,simprocAttr]
    ·have vH := Qv2 (L.take k) xY
     have zW : ¬ ((k : Int) = 0) := by omega
     rw [if_neg hLn,vZ]
     simp only [zW,vH,vw_U,Qn,Qi,xY,↓BU3,BL,simprocAttr]
   ·rw [hO']
    simp only [vU6,Qw0,Qmz,hb,aL,qP,f1,hOl,Qn,Qg,Qj,↓BU3,BL,simprocAttr]
    refine ⟨[bV (.cells 0 [.rf 2 (k + 1) 0 (k + 1) 1]),bV (.cells (k + 1) ((L.take (k + 1)).map vU6))],?_,rfl,⟨L.take (k + 1),by rw [Qu,Xf (by omega)]⟩,?_,by omega,?_⟩
    ·rw [yS,hO']
     have yM : Qa8 (O'.map vU6 ++ [V.w .u64 y]) = false := by rw [Qa2,Qm4]; rfl
     simp only [Qa0 _ _ _ yM,Qa0 _ _ _ (Qm4 _),Qk,vU6,↓BU3,BL,simprocAttr]
    ·rw [Qu,Xf (by omega)]
    ·intro x h0 z hz
     rw [xF] at h0
     cases h0
     rw [yS] at hz
     rcases Zc.1 hz with hz | hz
     ·exact kA x0 xF z hz
     ·rw [Zf] at hz; subst hz; exact hb
 ·rintro bv ⟨rfl,_,kA⟩
  rw [Qf,Qx]
  have vH := Qv2 L rfl
  by_cases hLn : L = []
  ·rw [if_pos hLn,hLn]
   simp only [Qd,↓BU3,BL,simprocAttr]
  ·obtain ⟨x0,xF⟩ : ∃ x0,L[0]? = some x0 := ⟨_,Qc (by have := Z4.2 hLn; omega)⟩
   have zW : ¬ ((L.length : Int) = 0) := by have := Z4.2 hLn; omega
   rw [Qf,Qx] at kA
   have jR := Qyk xF (kA x0 xF)
   rw [if_neg hLn,jR]
   simp only [zW,vH,vw_U,Qn,Qi,↓BU3,BL,simprocAttr]
def K116 := K115.ext 35 (fnG eW1 dW1 (SmallW) (Qla) ((fun v => v)))
def Zb4 : GOk TP K116 := Zb3.ext call35 (Qa7 fun a h => X35 a h)
def x35 (w : Work) : K116 35 [.ag (Qai w)] = (SmallW w,Qla w) := (kx K116 35 (Ql7 w) rfl :)
def Ze9 (x : Int) := lft K116 (k36 x) rfl
def fewW (w : Work) : Int × Int := if Qb5 w true = 0 then (match Qif w with | [] => (0,3) | x :: _ => (Qd2 x,0)) else (0,Qb5 w true)
def X16 (w : Work) (hw : SmallW w) : Qa1 TP 16 [.ag (Qai w)] (.tp [.i (fewW w).1,.i (fewW w).2]) := by
 refine pc Zb4 func16 cf16 ?_
 have g1 := x35 w
 unfold Qla at g1
 unfold fewW
 have q7 : Qai w = [.sl 4 (w.spares.map eSpare),.sl 1 (w.makes.map eMake),.i w.cut,.sl 4 (w.table.map eTrial)] := rfl
 rw [q7] at g1 ⊢
 by_cases e : Qb5 w true = 0
 rotate_left
 ·rw [if_neg e] at g1 ⊢
  simp only [rc16,rs16,g1,hw,e,BL,simprocAttr]
 rw [if_pos e] at g1 ⊢
 cases hL : Qif w with
 | nil =>
  rw [if_pos hL] at g1
  simp only [rc16,rs16,g1,hw,BL,simprocAttr]
 | cons x l =>
  rw [if_neg (by rw [hL]; simp),hL] at g1
  have hf : fewF (x :: l) = x :: l.takeWhile fun y => !decide (Qd2 x < Qd2 y) := rfl
  rw [hf,Qm] at g1
  generalize (l.takeWhile fun y => !decide (Qd2 x < Qd2 y)).map eU6 = R at g1
  have hz : (0 : Int) < (R.length : Int) + 1 := by omega
  simp only [rc16,rs16,g1,hw,eU6,Ze9,Qmz,Qa,Qb,hz,BL,simprocAttr]
def K117 := K116.ext 16 (fnG eW1 dW1 (SmallW) (fewW) ((fun r => .tp [.i r.1,.i r.2])))
def Zb5 : GOk TP K117 := Zb4.ext call16 (Qa7 fun a h => X16 a h)
def x16 (w : Work) : K117 16 [.ag (Qai w)] = (SmallW w,.tp [.i (fewW w).1,.i (fewW w).2]) := (kx K117 16 (Ql7 w) rfl :)
def Zdz : fewW exW = (3,0) := by decide +kernel
structure Slip where
 id : Int
 clerk : Int
 atm : Int
 kind : Int
 umb : Int
 guest : Int
 deriving DecidableEq
structure Tariff where
 free : Int
 unit : Int
 price : Int
 most : Int
 lost : Int
 value : Int
 pledge : Int
 deriving DecidableEq
structure Ctr where
 clerks : List Span
 slips : List Slip
 voided : List Int
 closed : List Span
 tar : Tariff
def eSlip (s : Slip) : List V := [.i s.id,.i s.clerk,.i s.atm,.i s.kind,.i s.umb,.i s.guest]
def Qf8 : List V → Slip | [.i a,.i b,.i c,.i d,.i e,.i f] => ⟨a,b,c,d,e,f⟩ | _ => ⟨0,0,0,0,0,0⟩
def Qg0 (s : Slip) : Qf8 (eSlip s) = s := rfl
def eTar (t : Tariff) : List V := [.i t.free,.i t.unit,.i t.price,.i t.most,.i t.lost,.i t.value,.i t.pledge]
def dTar : List V → Tariff | [.i a,.i b,.i c,.i d,.i e,.i f,.i g] => ⟨a,b,c,d,e,f,g⟩ | _ => ⟨0,0,0,0,0,0,0⟩
def dSpa (r : List V) : Span := match r with | [.i a,.i b] => ⟨a,b⟩ | _ => ⟨0,0⟩
def Zhs (s : Span) : dSpa (eSpan s) = s := rfl
def eCtr (c : Ctr) : List V := [.sl 2 (c.clerks.map eSpan),.sl 6 (c.slips.map eSlip),.sl 1 (c.voided.map eI),.sl 2 (c.closed.map eSpan),.i c.tar.free,.i c.tar.unit,.i c.tar.price,.i c.tar.most,.i c.tar.lost,.i c.tar.value,.i c.tar.pledge]
def dCtr : List V → Ctr | [.sl _ a,.sl _ b,.sl _ v,.sl _ d,.i e,.i f,.i g,.i h,.i i,.i j,.i k] => ⟨a.map dSpa,b.map Qf8,v.map dI,d.map dSpa,⟨e,f,g,h,i,j,k⟩⟩ | _ => ⟨[],[],[],[],⟨0,0,0,0,0,0,0⟩⟩
def Qfn (c : Ctr) : dCtr (eCtr c) = c := by obtain ⟨a,b,v,d,⟨_,_,_,_,_,_,_⟩⟩ := c; simp [dCtr,eCtr,Function.comp_def,Zhs,Qg0,Qas]
def X150 (n lo hi : Int) : Qa1 TP 150 [.i n,.i lo,.i hi] (.b (Qa3 n lo hi)) := by
 refine pc Zb5 func150 Znt ?_
 unfold Qa3
 by_cases e : lo ≤ n
 ·simp only [rc150,rs150,e,BL,simprocAttr]
 ·simp only [rc150,rs150,e,BL,simprocAttr]
def eWi (a : Int × Int × Int) : List V := [.i a.1,.i a.2.1,.i a.2.2]
def dWi : List V → Int × Int × Int | [.i a,.i b,.i c] => (a,b,c) | _ => (0,0,0)
def Zph (a : Int × Int × Int) : dWi (eWi a) = a := rfl
def K118 := K117.ext 150 (fnG eWi dWi (fun _ => True) (fun a => Qa3 a.1 a.2.1 a.2.2) (.b))
def Zb6 : GOk TP K118 := Zb5.ext call150 (Qa7 fun a h => X150 a.1 a.2.1 a.2.2)
def x150 (n lo hi : Int) : K118 150 [.i n,.i lo,.i hi] = (True,.b (Qa3 n lo hi)) := (kx K118 150 (Zph (n,lo,hi)) rfl :)
def okId (n : Int) : Bool := Qa3 n 0 99
def X154 (n : Int) : Qa1 TP 154 [.i n] (.b (okId n)) := by
 refine pc Zb6 func154 Znx ?_
 simp only [rc154,rs154,x150,okId,BL,simprocAttr]
def eNo (n : Int) : List V := [.i n]
def dNo : List V → Int | [.i n] => n | _ => 0
def Zhq (n : Int) : dNo (eNo n) = n := rfl
def K119 := K118.ext 154 (fnG eNo dNo (fun _ => True) (okId) (.b))
def Zb7 : GOk TP K119 := Zb6.ext call154 (Qa7 fun a h => X154 a)
def x154 (n : Int) : K119 154 [.i n] = (True,.b (okId n)) := (kx K119 154 (Zhq n) rfl :)
def Qxp (n lo hi : Int) := lft K119 (x150 n lo hi) rfl
def Qjq (t : Tariff) : Bool := Qa3 t.price 0 100000 && Qa3 t.most 0 100000 && Qa3 t.value 0 100000 && Qa3 t.pledge 0 100000 && Qa3 t.free 0 9999 && Qa3 t.unit 1 9999 && Qa3 t.lost 1 9999
def X149 (t : Tariff) : Qa1 TP 149 [.ag (eTar t)] (.b (Qjq t)) := by
 refine pc Zb7 func149 Zns ?_
 have hE : Qjq t = (Qa3 t.price 0 100000 && Qa3 t.most 0 100000 && Qa3 t.value 0 100000 && Qa3 t.pledge 0 100000 && Qa3 t.free 0 9999 && Qa3 t.unit 1 9999 && Qa3 t.lost 1 9999) := rfl
 generalize Qjq t = res at hE
 obtain ⟨L,hL⟩ : ∃ L : List Int,L = [t.price,t.most,t.value,t.pledge] := ⟨_,rfl⟩
 have hLm : ([[V.i t.price],[V.i t.most],[V.i t.value],[V.i t.pledge]] : List (List V)) = L.map eI := by rw [hL]; rfl
 have uU : L.length = 4 := by rw [hL]; rfl
 have jR : L.all (fun n => Qa3 n 0 100000) = (Qa3 t.price 0 100000 && Qa3 t.most 0 100000 && Qa3 t.value 0 100000 && Qa3 t.pledge 0 100000) := by rw [hL]; simp [Bool.and_assoc]
 have xA : Qbi 1 (V.i t.price :: V.i t.most :: V.i t.value :: V.i t.pledge :: Xb 1 (Xb 1 (Xb 1 (Xb 1 ([[V.i 0],[V.i 0],[V.i 0],[V.i 0]] : List (List V)).flatten)))) 0 4 = L.map eI := by rw [hL]; rfl
 simp only [rc149,rs149,eTar,hLm,xA,BL,simprocAttr]
 refine Qao 4 (fun i => ⟨lkp [(1,.pa [.i t.free,.i t.unit,.i t.price,.i t.most,.i t.lost,.i t.value,.i t.pledge]),(13,.sl 1 (L.map eI)),(14,.i 4),(15,.i i)],[]⟩) (fun i => ∀ j x,j < i → L[j]? = some x → Qa3 x 0 100000 = true) ?_ ?_ ?_ ?_
 ·simp only [Qd,xA,uU,BL,simprocAttr]
 ·intro j x h; omega
 ·intro i hi hc
  have hlt : (i : Int) < 4 := by omega
  have i1 : inI ((i : Int) + 1) := by unfold inI; omega
  obtain ⟨x,hx⟩ : ∃ x,L[i]? = some x := ⟨_,Qc (by omega)⟩
  have aD : (i : Int) < L.length := by omega
  cases e : Qa3 x 0 100000 with
  | false =>
   have hf : L.all (fun n => Qa3 n 0 100000) = false := Qen (p := fun n => Qa3 n 0 100000) hx e
   rw [jR] at hf
   simp only [hlt,aD,hx,Qxp,e,BL,simprocAttr]
   rw [hE,hf]; rfl
  | true =>
   simp only [hlt,aD,hx,Qxp,e,i1,Qa,Qb,BL,simprocAttr]
   exact Qbw (p := fun n => Qa3 n 0 100000) hx e hc
 ·intro hc
  have hlt : ¬ (((4 : Nat) : Int) < 4) := by omega
  have ht : L.all (fun n => Qa3 n 0 100000) = true := Qde (p := fun n => Qa3 n 0 100000) fun j x hj hx => hc j x (by omega) hx
  rw [jR] at ht
  rw [ht,Bool.true_and] at hE
  cases a1 : Qa3 t.free 0 9999 with
  | false => simp only [hlt,Qxp,a1,BL,simprocAttr]; simp [hE,a1]
  | true =>
  cases a2 : Qa3 t.unit 1 9999 with
  | false => simp only [hlt,Qxp,a1,a2,BL,simprocAttr]; simp [hE,a2]
  | true =>
  simp only [hlt,Qxp,a1,a2,BL,simprocAttr]
  simp [hE,a1,a2]
def eTr1 (t : Tariff) : List V := [.ag (eTar t)]
def dTr1 : List V → Tariff | [.ag t] => dTar t | _ => dTar []
def Zhu (t : Tariff) : dTr1 (eTr1 t) = t := rfl
def K120 := K119.ext 149 (fnG eTr1 dTr1 (fun _ => True) (Qjq) (.b))
def Zb8 : GOk TP K120 := Zb7.ext call149 (Qa7 fun a h => X149 a)
def x149 (t : Tariff) : K120 149 [.ag (eTar t)] = (True,.b (Qjq t)) := (kx K120 149 (Zhu t) rfl :)
def Qun (n lo hi : Int) := lft K120 (x150 n lo hi) rfl
def Qn0 (n : Int) := lft K120 (x154 n) rfl
def Qpx (s : Slip) : Bool := decide (s.kind = 1) || decide (s.kind = 2) && decide (s.guest = 0)
def Qfq (c : Ctr) (s : Slip) : Bool := Qpx s && okId s.id && okId s.guest && Qa3 s.clerk 0 (c.clerks.length - 1) && Qa3 s.atm 0 9999 && Qa3 s.umb 0 9
def X152 (c : Ctr) (s : Slip) (h : c.clerks.length ≤ 1000000) : Qa1 TP 152 [.ag (eCtr c),.ag (eSlip s)] (.b (Qfq c s)) := by
 refine pc Zb8 func152 Znv ?_
 have hE : Qfq c s = (Qpx s && okId s.id && okId s.guest && Qa3 s.clerk 0 (c.clerks.length - 1) && Qa3 s.atm 0 9999 && Qa3 s.umb 0 9) := rfl
 have hK : Qpx s = (decide (s.kind = 1) || decide (s.kind = 2) && decide (s.guest = 0)) := rfl
 have i1 : inI ((c.clerks.length : Int) - 1) := by unfold inI; omega
 generalize Qfq c s = res at hE
 generalize Qpx s = k at hE hK
 by_cases k1 : s.kind = 1
 ·have hk : k = true := by rw [hK]; simp [k1]
  subst hk
  cases a1 : okId s.id with
  | false => simp only [rc152,rs152,eCtr,eSlip,k1,Qn0,a1,BL,simprocAttr]; simp [hE,a1]
  | true =>
  cases a2 : okId s.guest with
  | false => simp only [rc152,rs152,eCtr,eSlip,k1,Qn0,a1,a2,BL,simprocAttr]; simp [hE,a2]
  | true =>
  cases a3 : Qa3 s.clerk 0 (c.clerks.length - 1) with
  | false => simp only [rc152,rs152,eCtr,eSlip,k1,Qn0,a1,a2,i1,Qun,a3,BL,simprocAttr]; simp [hE,a3]
  | true =>
  cases a4 : Qa3 s.atm 0 9999 with
  | false => simp only [rc152,rs152,eCtr,eSlip,k1,Qn0,a1,a2,i1,Qun,a3,a4,BL,simprocAttr]; simp [hE,a4]
  | true => simp only [rc152,rs152,eCtr,eSlip,k1,Qn0,a1,a2,i1,Qun,a3,a4,BL,simprocAttr]; simp [hE,a1,a2,a3,a4]
 by_cases k2 : s.kind = 2
 ·by_cases k3 : s.guest = 0
  ·have hk : k = true := by rw [hK]; simp [k2,k3]
   subst hk
   cases a1 : okId s.id with
   | false => simp only [rc152,rs152,eCtr,eSlip,k1,k2,k3,Qn0,a1,BL,simprocAttr]; simp [hE,a1]
   | true =>
   cases a2 : okId 0 with
   | false => simp only [rc152,rs152,eCtr,eSlip,k1,k2,k3,Qn0,a1,a2,BL,simprocAttr]; simp [hE,k3,a2]
   | true =>
   cases a3 : Qa3 s.clerk 0 (c.clerks.length - 1) with
   | false => simp only [rc152,rs152,eCtr,eSlip,k1,k2,k3,Qn0,a1,a2,i1,Qun,a3,BL,simprocAttr]; simp [hE,a3]
   | true =>
   cases a4 : Qa3 s.atm 0 9999 with
   | false => simp only [rc152,rs152,eCtr,eSlip,k1,k2,k3,Qn0,a1,a2,i1,Qun,a3,a4,BL,simprocAttr]; simp [hE,a4]
   | true => simp only [rc152,rs152,eCtr,eSlip,k1,k2,k3,Qn0,a1,a2,i1,Qun,a3,a4,BL,simprocAttr]; simp [hE,k3,a1,a2,a3,a4]
  ·have hk : k = false := by rw [hK]; simp [k2,k3]
   subst hk
   simp only [rc152,rs152,eCtr,eSlip,k1,k2,k3,BL,simprocAttr]; simp [hE]
 ·have hk : k = false := by rw [hK]; simp [k1,k2]
  subst hk
  simp only [rc152,rs152,eCtr,eSlip,k1,k2,BL,simprocAttr]; simp [hE]
def eCS (a : Ctr × Slip) : List V := [.ag (eCtr a.1),.ag (eSlip a.2)]
def dCS : List V → Ctr × Slip | [.ag c,.ag s] => (dCtr c,Qf8 s) | _ => (dCtr [],Qf8 [])
def Zoy (a : Ctr × Slip) : dCS (eCS a) = a := by obtain ⟨c,s⟩ := a; simp [dCS,eCS,Qfn,Qg0]
def K121 := K120.ext 152 (fnG eCS dCS (fun a => a.1.clerks.length ≤ 1000000) (fun a => Qfq a.1 a.2) (.b))
def Zb9 : GOk TP K121 := Zb8.ext call152 (Qa7 fun a h => X152 a.1 a.2 h)
def x152 (c : Ctr) (s : Slip) : K121 152 [.ag (eCtr c),.ag (eSlip s)] = (c.clerks.length ≤ 1000000,.b (Qfq c s)) := (kx K121 152 (Zoy (c,s)) rfl :)
def Zcf (hp : List Blk) (n : Nat) (l : List Span) : (l.map eSpan).map (fun r => r.map (vw hp (n + 1))) = l.map eSpan := Qa6 (e := eSpan) hp (n + 1) (fun _ => rfl) l
def Qkb (hp : List Blk) (n : Nat) (l : List Slip) : (l.map eSlip).map (fun r => r.map (vw hp (n + 1))) = l.map eSlip := Qa6 (e := eSlip) hp (n + 1) (fun _ => rfl) l
def pWr (c : Ctr) (s : Slip) : Bool := !Qfq c s
def CWr (c : Ctr) (_ : Slip) : Prop := c.clerks.length ≤ 1000000
def eCc (c : Ctr) : List V := [.pa (eCtr c)]
def dCc : List V → Ctr | [.pa c] => dCtr c | _ => dCtr []
def Zhm (c : Ctr) : dCc (eCc c) = c := by simp [dCc,eCc,Qfn]
def X151 (c : Ctr) (s : Slip) (h : c.clerks.length ≤ 1000000) : Qa1 TP 151 (.ag (eSlip s) :: eCc c) (.b (pWr c s)) := by
 refine pc Zb9 func151 Znu ?_
 have g := x152 c s
 simp only [eCtr,eSlip] at g
 unfold pWr
 simp only [rc151,rs151,eCc,eCtr,eSlip,g,h,BL,simprocAttr]
def e151 (a : Ctr × Slip) : List V := .ag (eSlip a.2) :: eCc a.1
def d151 : List V → Ctr × Slip | .ag s :: c => (dCc c,Qf8 s) | _ => (dCc [],Qf8 [])
def Zh3 (a : Ctr × Slip) : d151 (e151 a) = a := by obtain ⟨a,x⟩ := a; simp [d151,e151,Zhm,Qg0]
def K122 := K121.ext 151 (fnG e151 d151 (fun a => a.1.clerks.length ≤ 1000000) (fun a => pWr a.1 a.2) (.b))
def Zba : GOk TP K122 := Zb9.ext call151 (Qa7 fun a h => X151 a.1 a.2 h)
def x151 (a : Ctr) (x : Slip) : K122 151 (.ag (eSlip x) :: eCc a) = (CWr a x,.b (pWr a x)) := (kx K122 151 (Zh3 (a,x)) rfl :)
def Zd7 (hG : GOk TP Γ) (l : List Slip) (f : Nat) (hf : f < 1000000) (caps : List V) (p : Slip → Bool) (C : Slip → Prop) (hC : ∀ x ∈ l,C x) (hv : caps.map (vw [] 8) = caps) (hr : Qa8 caps = false) (hl : l.length < 10000000)
  (h : ∀ x ∈ l,Γ f (V.ag (eSlip x) :: caps) = (C x,.b (p x))) : Qa1 TP 104 [.sl 6 (l.map eSlip),.fn f caps] (.i (idxOf p l)) := by
 refine pc hG func104 Zmu ?_
 simp only [rc104,rs104,BL,simprocAttr]
 refine Qao l.length (fun i => ⟨lkp [(0,.sl 6 (l.map eSlip)),(1,.fn f caps),(7,.i l.length),(8,.i i)],[]⟩) (fun i => ∀ j x,j < i → l[j]? = some x → p x = false) ?_ ?_ ?_ ?_
 ·simp only [Qd,BL,simprocAttr]
 ·intro j x h; omega
 ·intro i hi hc
  obtain ⟨x,hx⟩ : ∃ x,l[i]? = some x := ⟨_,Qc hi⟩
  have hlt : (i : Int) < l.length := by omega
  have h3 : inI ((i : Int) + 1) := by unfold inI; omega
  have hp := h x (Qe hx)
  have hCx := hC x (Qe hx)
  try simp only [eSlip,eMake] at hp
  simp only [hx,hlt,Qa,Qb,h3,hp,hv,hr,hf,hCx,eSlip,BL,simprocAttr]
  refine ⟨fun e => ?_,fun e => ?_⟩
  ·rw [Qah hx e hc]
  ·exact Qbd hx e hc
 ·intro hc
  simp only [BL,simprocAttr]
  exact (Qaa fun x hx => by
   obtain ⟨j,hj⟩ := Q7 hx
   exact hc j x (by have := Qag hj; exact this) hj).symm
def e2Wr (a : Ctr × List Slip) : List V := [.sl 6 (a.2.map eSlip),.fn 151 (eCc a.1)]
def d2Wr : List V → Ctr × List Slip | [.sl _ l,.fn _ c] => (dCc c,l.map Qf8) | _ => (dCc [],[])
def Za9 (a : Ctr × List Slip) : d2Wr (e2Wr a) = a := by obtain ⟨a,l⟩ := a; simp [d2Wr,e2Wr,Zhm,Qg0,Function.comp_def]
def C2Wr (a : Ctr × List Slip) : Prop := a.2.length < 10000000 ∧ ∀ x ∈ a.2,CWr a.1 x
def vwWr (a : Ctr) : ((eCc a) : List V).map (vw [] 8) = (eCc a) := by
 unfold eCc
 unfold eCtr
 simp only [Zcf,Qkb,vw_I,BL,simprocAttr]
def rfWr (a : Ctr) : Qa8 ((eCc a) : List V) = false := rfl
def K123 := K122.ext 104 (fnG e2Wr d2Wr (C2Wr) (fun a => idxOf (pWr a.1) a.2) (.i))
def Zbb : GOk TP K123 := Zba.ext call104 (Qa7 fun a h => Zd7 Zba a.2 151 (by decide) (eCc a.1) (pWr a.1) (CWr a.1) h.2 (vwWr a.1) (rfWr a.1) h.1 fun x _ => x151 a.1 x)
def Zid (a : Ctr) (l : List Slip) : K123 104 [.sl 6 (l.map eSlip),.fn 151 (eCc a)] = (C2Wr (a,l),.i (idxOf (pWr a) l)) := (kx K123 104 (Za9 (a,l)) rfl :)
def Zmh (a : Ctr) (l : List Slip) (h : C2Wr (a,l)) : Qa1 TP 70 [.sl 6 (l.map eSlip),.fn 151 (eCc a)] (.b (l.any (pWr a))) := by
 refine pc Zbb func70 cf70 ?_
 have g := Zid a l
 have q := Qab (pWr a) l
 generalize idxOf (pWr a) l = r at *
 generalize l.any (pWr a) = r2 at *
 try simp only [eCc,eSlip,eCtr] at g
 simp only [rc70,rs70,eCc,eCtr,g,h,q,BL,simprocAttr]
def K124 := K123.ext 70 (fnG e2Wr d2Wr (C2Wr) (fun a => a.2.any (pWr a.1)) (.b))
def Zbc : GOk TP K124 := Zbb.ext call70 (Qa7 fun a h => Zmh a.1 a.2 h)
def Zpn (a : Ctr) (l : List Slip) : K124 70 [.sl 6 (l.map eSlip),.fn 151 (eCc a)] = (C2Wr (a,l),.b (l.any (pWr a))) := (kx K124 70 (Za9 (a,l)) rfl :)
def pSt (_ : Unit) (n : Int) : Bool := !okId n
def CSt (_ : Unit) (_ : Int) : Prop := True
def Zqr (n : Int) : K124 154 [.i n] = (True,.b (okId n)) := x154 n
def X153 (n : Int) : Qa1 TP 153 [.i n] (.b (!okId n)) := by
 refine pc Zbc func153 Znw ?_
 simp only [rc153,rs153,Zqr,BL,simprocAttr]
def e153 (a : Unit × Int) : List V := .i a.2 :: eU0 a.1
def d153 : List V → Unit × Int | .i n :: c => (dU0 c,n) | _ => ((),0)
def Zh4 (a : Unit × Int) : d153 (e153 a) = a := rfl
def K125 := K124.ext 153 (fnG e153 d153 (fun _ => True) (fun a => pSt a.1 a.2) (.b))
def Zbd : GOk TP K125 := Zbc.ext call153 (Qa7 fun a h => X153 a.2)
def x153 (a : Unit) (x : Int) : K125 153 (.i x :: eU0 a) = (CSt a x,.b (pSt a x)) := (kx K125 153 (Zh4 (a,x)) rfl :)
def e2St (a : Unit × List Int) : List V := [.sl 1 (a.2.map eI),.fn 153 (eU0 a.1)]
def d2St : List V → Unit × List Int | [.sl _ l,.fn _ c] => (dU0 c,l.map dI) | _ => (dU0 [],[])
def Za7 (a : Unit × List Int) : d2St (e2St a) = a := by obtain ⟨a,l⟩ := a; simp [d2St,e2St,Qya,Qas,Function.comp_def]
def C2St (a : Unit × List Int) : Prop := a.2.length < 10000000 ∧ ∀ x ∈ a.2,CSt a.1 x
def vwSt (a : Unit) : ((eU0 a) : List V).map (vw [] 8) = (eU0 a) := by
 rfl
def rfSt (a : Unit) : Qa8 ((eU0 a) : List V) = false := rfl
def K126 := K125.ext 122 (fnG e2St d2St (C2St) (fun a => idxOf (pSt a.1) a.2) (.i))
def Zbe : GOk TP K126 := Zbd.ext call122 (Qa7 fun a h => Zgt Zbd a.2 153 (by decide) (eU0 a.1) (pSt a.1) (CSt a.1) h.2 (vwSt a.1) (rfSt a.1) h.1 fun x _ => x153 a.1 x)
def Zij (a : Unit) (l : List Int) : K126 122 [.sl 1 (l.map eI),.fn 153 (eU0 a)] = (C2St (a,l),.i (idxOf (pSt a) l)) := (kx K126 122 (Za7 (a,l)) rfl :)
def Zmi (a : Unit) (l : List Int) (h : C2St (a,l)) : Qa1 TP 82 [.sl 1 (l.map eI),.fn 153 (eU0 a)] (.b (l.any (pSt a))) := by
 refine pc Zbe func82 cf82 ?_
 have g := Zij a l
 have q := Qab (pSt a) l
 generalize idxOf (pSt a) l = r at *
 generalize l.any (pSt a) = r2 at *
 try simp only [eU0,eI] at g
 simp only [rc82,rs82,eU0,g,h,q,BL,simprocAttr]
def K127 := K126.ext 82 (fnG e2St d2St (C2St) (fun a => a.2.any (pSt a.1)) (.b))
def Qwo : GOk TP K127 := Zbe.ext call82 (Qa7 fun a h => Zmi a.1 a.2 h)
def Zpo (a : Unit) (l : List Int) : K127 82 [.sl 1 (l.map eI),.fn 153 (eU0 a)] = (C2St (a,l),.b (l.any (pSt a))) := (kx K127 82 (Za7 (a,l)) rfl :)
def Qqm (n lo hi : Int) : K127 150 [.i n,.i lo,.i hi] = (True,.b (Qa3 n lo hi)) := x150 n lo hi
def Zqq (t : Tariff) : K127 149 [.ag (eTar t)] = (True,.b (Qjq t)) := x149 t
def x70c (c : Ctr) (l : List Slip) : K127 70 [.sl 6 (l.map eSlip),.fn 151 [.pa (eCtr c)]] = (C2Wr (c,l),.b (l.any (pWr c))) := Zpn c l
def x82c (l : List Int) : K127 82 [.sl 1 (l.map eI),.fn 153 []] = (C2St ((),l),.b (l.any (pSt ()))) := Zpo () l
def Qei (s : Span) : Bool := Qa3 s.low (-30) s.high && decide (s.high ≤ 30)
def Qbo (c : Ctr) (i : Nat) : Span := c.closed.getD i ⟨0,0⟩
def Qgd (c : Ctr) (i : Nat) : Bool := Qa3 (Qbo c i).low 0 (Qbo c i).high && decide ((Qbo c i).high ≤ 9999) && (decide (i = 0) || decide ((Qbo c (i - 1)).high < (Qbo c i).low))
def Qih (c : Ctr) : Bool := decide ((c.clerks.length : Int) ≤ 3) && decide ((c.slips.length : Int) ≤ 12) && decide ((c.voided.length : Int) ≤ 12) && decide ((c.closed.length : Int) ≤ 4) && Qjq c.tar && c.clerks.all Qei && (Qr c.closed.length).all (Qgd c) && c.slips.all (Qfq c) && c.voided.all okId
structure SmallCt (c : Ctr) : Prop where
 clerks : c.clerks.length ≤ 1000000
 slips : c.slips.length ≤ 1000000
 voided : c.voided.length ≤ 1000000
 closed : c.closed.length ≤ 1000000
def Qnx {c : Ctr} {i : Nat} (h : i < c.closed.length) : c.closed[i]? = some (Qbo c i) := by
 unfold Qbo
 rw [Qh,Qc h]; rfl
def X131 (c : Ctr) (hs : SmallCt c) : Qa1 TP 131 [.ag (eCtr c)] (.b (Qih c)) := by
 refine pc Qwo func131 Znd ?_
 have hE : Qih c = (decide ((c.clerks.length : Int) ≤ 3) && decide ((c.slips.length : Int) ≤ 12) && decide ((c.voided.length : Int) ≤ 12) && decide ((c.closed.length : Int) ≤ 4) && Qjq c.tar && c.clerks.all Qei && (Qr c.closed.length).all (Qgd c) && c.slips.all (Qfq c) && c.voided.all okId) := rfl
 generalize Qih c = res at hE
 have g1 := Zqq c.tar
 simp only [eTar] at g1
 have g2 := x70c c c.slips
 have g3 := x82c c.voided
 have jP : eCtr c = [.sl 2 (c.clerks.map eSpan),.sl 6 (c.slips.map eSlip),.sl 1 (c.voided.map eI),.sl 2 (c.closed.map eSpan),.i c.tar.free,.i c.tar.unit,.i c.tar.price,.i c.tar.most,.i c.tar.lost,.i c.tar.value,.i c.tar.pledge] := rfl
 rw [jP] at g2 ⊢
 have h1 := hs.clerks
 have h2 := hs.slips
 have h3 := hs.voided
 have h4 := hs.closed
 by_cases a1 : (c.clerks.length : Int) ≤ 3
 rotate_left
 ·have b1 : (3 : Int) < c.clerks.length := by omega
  simp only [rc131,rs131,b1,BL,simprocAttr]; simp [hE,a1]
 have b1 : ¬ (3 : Int) < c.clerks.length := by omega
 by_cases a2 : (c.slips.length : Int) ≤ 12
 rotate_left
 ·have b2 : (12 : Int) < c.slips.length := by omega
  simp only [rc131,rs131,b1,b2,BL,simprocAttr]; simp [hE,a2]
 have b2 : ¬ (12 : Int) < c.slips.length := by omega
 by_cases a3 : (c.voided.length : Int) ≤ 12
 rotate_left
 ·have b3 : (12 : Int) < c.voided.length := by omega
  simp only [rc131,rs131,b1,b2,b3,BL,simprocAttr]; simp [hE,a3]
 have b3 : ¬ (12 : Int) < c.voided.length := by omega
 by_cases a4 : (c.closed.length : Int) ≤ 4
 rotate_left
 ·have b4 : (4 : Int) < c.closed.length := by omega
  simp only [rc131,rs131,b1,b2,b3,b4,BL,simprocAttr]; simp [hE,a4]
 have b4 : ¬ (4 : Int) < c.closed.length := by omega
 cases a5 : Qjq c.tar with
 | false => simp only [rc131,rs131,b1,b2,b3,b4,g1,a5,BL,simprocAttr]; simp [hE,a5]
 | true =>
 simp only [rc131,rs131,b1,b2,b3,b4,g1,a5,BL,simprocAttr]
 refine Qao c.clerks.length (fun i => ⟨lkp [(1,.pa [.sl 2 (c.clerks.map eSpan),.sl 6 (c.slips.map eSlip),.sl 1 (c.voided.map eI),.sl 2 (c.closed.map eSpan),.i c.tar.free,.i c.tar.unit,.i c.tar.price,.i c.tar.most,.i c.tar.lost,.i c.tar.value,.i c.tar.pledge]),(38,.sl 2 (c.clerks.map eSpan)),(39,.i c.clerks.length),(40,.i i)],[]⟩) (fun i => ∀ j x,j < i → c.clerks[j]? = some x → Qei x = true) ?_ ?_ ?_ ?_
 ·simp only [Qd,BL,simprocAttr]
 ·intro j x h; omega
 ·intro i hi hc
  have hlt : (i : Int) < c.clerks.length := by omega
  have i1 : inI ((i : Int) + 1) := by unfold inI; omega
  obtain ⟨s,hx⟩ : ∃ s,c.clerks[i]? = some s := ⟨_,Qc hi⟩
  have hk : Qei s = (Qa3 s.low (-30) s.high && decide (s.high ≤ 30)) := rfl
  have jX : Qei s = false → res = false := fun h => by
   have := Qen (p := Qei) hx h
   rw [hE,this]; simp
  cases e1 : Qa3 s.low (-30) s.high with
  | false =>
   have q := jX (by rw [hk,e1]; rfl)
   simp only [hlt,hx,Qqm,e1,q,BL,simprocAttr]
  | true =>
   by_cases e2 : s.high ≤ 30
   ·have e3 : ¬ (30 : Int) < s.high := by omega
    simp only [hlt,hx,Qqm,e1,e3,i1,Qa,Qb,BL,simprocAttr]
    exact Qbw (p := Qei) hx (by rw [hk,e1]; simp [e2]) hc
   ·have e3 : (30 : Int) < s.high := by omega
    have q := jX (by rw [hk,e1]; simp [e2])
    simp only [hlt,hx,Qqm,e1,e3,q,BL,simprocAttr]
 ·intro hc
  have hlt : ¬ ((c.clerks.length : Int) < c.clerks.length) := by omega
  have t1 : c.clerks.all Qei = true := Qde (p := Qei) hc
  simp only [hlt,BL,simprocAttr]
  refine Qao c.closed.length (fun i => ⟨lkp [(1,.pa [.sl 2 (c.clerks.map eSpan),.sl 6 (c.slips.map eSlip),.sl 1 (c.voided.map eI),.sl 2 (c.closed.map eSpan),.i c.tar.free,.i c.tar.unit,.i c.tar.price,.i c.tar.most,.i c.tar.lost,.i c.tar.value,.i c.tar.pledge]),(57,.sl 2 (c.closed.map eSpan)),(58,.i c.closed.length),(59,.i i)],[]⟩) (fun i => ∀ j,j < i → Qgd c j = true) ?_ ?_ ?_ ?_
  ·simp only [Qd,BL,simprocAttr]
  ·intro j h; omega
  ·intro i hi hc
   have hlt : (i : Int) < c.closed.length := by omega
   have i1 : inI ((i : Int) + 1) := by unfold inI; omega
   have hx := Qnx hi
   have hk : Qgd c i = (Qa3 (Qbo c i).low 0 (Qbo c i).high && decide ((Qbo c i).high ≤ 9999) && (decide (i = 0) || decide ((Qbo c (i - 1)).high < (Qbo c i).low))) := rfl
   have jX : Qgd c i = false → res = false := fun h => by
    rw [hE,Qkv hi h]; simp
   have bX : Qgd c i = true → ∀ j,j < i + 1 → Qgd c j = true := fun h j hj => by
    by_cases e : j = i
    ·subst e; exact h
    ·exact hc j (by omega)
   cases e1 : Qa3 (Qbo c i).low 0 (Qbo c i).high with
   | false =>
    have q := jX (by rw [hk,e1]; rfl)
    simp only [hlt,hx,Qqm,e1,q,BL,simprocAttr]
   | true =>
    by_cases e2 : (Qbo c i).high ≤ 9999
    rotate_left
    ·have e3 : (9999 : Int) < (Qbo c i).high := by omega
     have q := jX (by rw [hk,e1]; simp [e2])
     simp only [hlt,hx,Qqm,e1,e3,q,BL,simprocAttr]
    have e3 : ¬ (9999 : Int) < (Qbo c i).high := by omega
    by_cases e4 : i = 0
    ·subst e4
     have ho : Qgd c 0 = true := by rw [hk,e1]; simp [e2]
     have mN : (0 : Int) < c.closed.length := by omega
     simp only [mN,hx,Qqm,e1,e3,i1,Qd,Qa,Qb,BL,simprocAttr]
     exact ⟨by unfold inI; omega,fun j hj => by
      obtain rfl : j = 0 := by omega
      exact ho⟩
    ·have i0 : (0 : Int) < i := by omega
     have i2 : inI ((i : Int) - 1) := by unfold inI; omega
     have i3 : (0 : Int) ≤ (i : Int) - 1 := by omega
     have i4 : (i : Int) - 1 < c.closed.length := by omega
     have hp := Qnx (c := c) (i := i - 1) (by omega)
     have hn : ((i : Int) - 1).toNat = i - 1 := by omega
     by_cases e5 : (Qbo c (i - 1)).high < (Qbo c i).low
     ·have e6 : ¬ (Qbo c i).low ≤ (Qbo c (i - 1)).high := by omega
      have ho := bX (by rw [hk,e1]; simp [e2,e5])
      simp only [hlt,hx,Qqm,e1,e3,i0,i2,i3,i4,hn,hp,e6,i1,Qa,Qb,BL,simprocAttr]
      exact ho
     ·have e6 : (Qbo c i).low ≤ (Qbo c (i - 1)).high := by omega
      have q := jX (by rw [hk,e1]; simp [e2,e5,e4])
      simp only [hlt,hx,Qqm,e1,e3,i0,i2,i3,i4,hn,hp,e6,q,BL,simprocAttr]
  ·intro hc
   have hlt : ¬ ((c.closed.length : Int) < c.closed.length) := by omega
   have t2 : (Qr c.closed.length).all (Qgd c) = true := Za.2 fun j hj => hc j (Qy.1 hj)
   have c1 : C2Wr (c,c.slips) := ⟨by show c.slips.length < 10000000; omega,fun _ _ => h1⟩
   have c2 : C2St ((),c.voided) := ⟨by show c.voided.length < 10000000; omega,fun _ _ => trivial⟩
   have n1 : c.slips.all (Qfq c) = !c.slips.any (pWr c) := by rw [Q2]; simp [pWr]
   have n2 : c.voided.all okId = !c.voided.any (pSt ()) := by rw [Q2]; simp [pSt]
   rw [t1,t2,n1,n2] at hE
   cases d1 : c.slips.any (pWr c) with
   | true =>
    simp only [hlt,g2,c1,d1,BL,simprocAttr]; simp [hE,d1]
   | false =>
    simp only [hlt,g2,c1,d1,g3,c2,BL,simprocAttr]; simp [hE,d1,a1,a2,a3,a4,a5]
end Go.CS
end
namespace Go.CS
open Go.Fam Go.Proofs Go.RowKit Go.Maps Go.Sort Go.Shelf
open Go.WideElems (rg rd)
open Go.WideShapes (sorted_perm)
open Go.C06 (eI)
set_option maxRecDepth 100000 in
theorem Zea (F : Fence) (n : Nat) (hf : F.fn 157) (hro : F.round = none) (hn : 1 ≤ n) (l Bm off b nn : Nat) (D0 : DataW Unit) {R : Value → Option (DataW Unit × List MemPlace)} (J : List Int → World → Prop)
  (hY : ∀ pre x W,J pre W → pre.length < Maps.size D0 → YieldAt F (n - 1) Tryz.prog l #[encZ x] W fun e W' => e = .returned (.bool true) ∧ J (pre ++ [x]) W' ∧ KeepsWalks W W')
  (W : World) (hJ : AbidesFrom W.heap.size J) (hm : W.cell? ⟨Bm,off,none⟩ = some (.map (some b))) (hown : W.ownsMap Tryz.prog 3 R b nn D0) (h0 : J [] W) :
  CallsIn F n Tryz.prog 157 #[.func (.yield l) #[] #[],.pointer (some ⟨Bm,off,none⟩)] W fun e W' => (∃ v,e = .returned v) ∧ ∃ ss : List Int,ss.Perm (intKeys D0) ∧ J ss W' := by
 refine callsIn_of_wp Tryz.func157 rfl hf ?_ hro
 simp only [Tryz.ntmps157,List.size_toArray,Qp,List.length_nil,Nat.reduceAdd,Nat.reduceSub,Array.replicate_succ,Array.replicate_zero,List.push_toArray,List.append_toArray,Zd,Zt]
 gi_wp2_with (first
  | (gi_at_range; refine wpListIn_range_own _ rfl _ 212 rfl 3 105 (int_keyed Tryz.underlying3) Tryz.underlying212 _ b nn _ rfl hown ?_; intro w0 hrg0 hg0 hs0)
  | gi_in)
 go_frame
 gi_loopw [3] (fun _ wr => ∃ (left : Lit → Bool) (cnt : Nat) (ss : List Int),wr.ranges Tryz.prog 3 R b W.heap.size nn D0 left cnt ∧ ss.length + cnt ≤ Maps.size D0 ∧ CollectedI D0 left ss ∧ J ss wr)
  (fun _ wr => wr.rangeLeft b W.heap.size)
 case atStart =>
  exact ⟨_,_,[],hrg0,by simp,CollectedI.start D0,hJ [] W w0 none h0 hg0 (fun r e => by cases e)⟩
 case round =>
  obtain ⟨left,cnt,ss,hrg,hcs,hC,hJs⟩ := hrel
  gi_wp2_with (first
   | (gi_at_next; refine wpListIn_next_ranges _ rfl _ rfl 3 (int_keyed Tryz.underlying3) R encZ id (fun key kl hk => by obtain ⟨x,hx,_⟩ := Maps.keyOf_i64 Tryz.underlying3 hk; exact ⟨x,hx⟩) (fun v _ _ => ⟨v,rfl⟩) b W.heap.size nn _ _ _ rfl hrg ?_ ?_)
   | gi_in)
  ·intro hc0 hl0
   gi_wp2
   go_end0
   exact ⟨⟨_,rfl⟩,ss,hC.perm hown (int_keyed Tryz.underlying3) Tryz.underlying3 hl0,hJs⟩
  ·intro x c kl yd yp w2 cnt2 hkey hlk hv hat hrg2 hlt hg2 hs2 hen
   obtain ⟨x',ex,rfl,_⟩ := Maps.keyOf_i64 Tryz.underlying3 hkey
   obtain rfl : x = x' := encZ_inj ex
   have hJ2 : J ss w2 := hJ ss wr w2 (some W.heap.size) hJs hg2 (fun r e => by cases e; exact ⟨Qi _,hrg.iter_walk⟩)
   obtain ⟨fn,tmps,assign,body,hy,hR⟩ := hY ss x w2 hJ2 (by omega)
   clear hs2
   gi_wp2
   refine hR.mono ?_
   rintro e W3 ⟨rfl,hJ3,hk3⟩
   gi_wp2
   have hrg3 := hrg2.of_walks hk3
   go_roundw
   case rel => exact ⟨_,cnt2,ss ++ [x],hrg3,by simp; omega,hC.step hlk hat,hJ3⟩
   case measure => rw [hrg3.left_eq,hrg.left_eq]; exact hlt
def Qzk (m : Nat) : AnyZI.SortsIn Tryz.prog Tryz.sorted132_ren Fence.wide m :=
  ⟨fun blk off cap ss W hH hblk hsz => callsIn_wide.2 (Tryz.slices_Sort_int blk off cap ss W hH hblk hsz),
   fun p cap W => callsIn_wide.2 (Tryz.slices_Sort_int_none p cap W)⟩
def Qzj (l : List Int) : List Int := l.mergeSort fun x y => decide (x ≤ y)
def anyR : Value → Option (DataW Unit × List MemPlace) := fun _ => some (.lit (.bool true),[])
def Zm0 {z : Int} (h : inI z) : (Lit.int .i64 z).wf = true := by
 unfold inI at h
 simp [Lit.wf,IntKind.min,IntKind.max,IntKind.signed,IntKind.bits]
 omega
def Qw6 {z : Int} (h : inI z) : keyOf Tryz.prog 3 (.int .i64 z) = some (.int .i64 z) := by
 simp [keyOf,Tryz.underlying3,mapKey,Zm0 h]
def sorted132 (ks : List (List Int)) (vs : List V) (hl : ks.length ≤ 1000000) (hin : ∀ k ∈ ks,inI (k.headD 0)) : Qa1 Tryz.prog 132 [.fn 157 [.pa [.pm false ks vs]]] (.sl 1 ((Qzj (ks.map fun k => k.headD 0)).map eI)) := by
 intro S w cargs hS hsz hrep
 obtain ⟨c,hc⟩ : ∃ c,cargs = #[c] := by
  match cargs,hsz with
  | ⟨[c]⟩,_ => exact ⟨c,rfl⟩
 subst hc
 simp only [RepL,Rep,and_true] at hrep
 obtain ⟨ccs,rfl,hn,hrep⟩ := hrep
 obtain ⟨c1,hc1⟩ : ∃ c1,ccs = #[c1] := by
  match ccs,hn with
  | ⟨[c]⟩,_ => exact ⟨c,rfl⟩
 subst hc1
 simp only [RepL,Rep,and_true] at hrep
 obtain ⟨Bm,off,cur,e,fr,rfl,hSB,hheap,hrow⟩ := hrep
 cases hd : cur.toList.drop off with
 | nil => rw [hd] at hrow; exact hrow.elim
 | cons sv rest =>
 rw [hd] at hrow
 obtain ⟨⟨b,es,rfl,hSb,hbh,hME,_,_,hnd,hone⟩,_⟩ := hrow
 have hone := hone rfl
 have hg0 : cur[off]? = some (.map (some b)) := by
  have := congrArg (·[0]?) hd
  simpa using this
 have hc0 : w.cell? ⟨Bm,off,none⟩ = some (.map (some b)) := by
  simp only [World.cell?,hheap,hg0]; rfl
 have hlen : es.size = ks.length := by
  have := congrArg Xc hME.1
  simpa using this
 have hkey : ∀ x ∈ es.toList,∃ k ∈ ks,x.key = .int .i64 (k.headD 0) := fun x hx => by
  have : x.key ∈ es.toList.map (·.key) := Qo.2 ⟨x,hx,rfl⟩
  rw [hME.1] at this
  obtain ⟨k,hk,e⟩ := Qo.1 this
  exact ⟨k,hk,e.symm⟩
 have hko : ∀ x ∈ es.toList,∃ k ∈ ks,x.key = .int .i64 (k.headD 0) ∧ keyOf Tryz.prog 3 x.key = some (.int .i64 (k.headD 0)) := fun x hx => by
  obtain ⟨k,hk,e⟩ := hkey x hx
  exact ⟨k,hk,e,by rw [e]; exact Qw6 (hin k hk)⟩
 have hmx : es.size ≤ maxLen := Zh (show es.size ≤ 1000000 by omega) (by decide)
 have hown : w.ownsMap Tryz.prog 3 anyR b es.size (.map ((es.toList.map (rg Tryz.prog 3 anyR)).foldr DataW.insert [])) := by
  refine ⟨es,es.size,hbh,⟨hmx,⟨fun x hx => ?_,?_,?_⟩,fun x hx => ?_⟩,Qi _,rfl⟩
  ·obtain ⟨i,hi⟩ := Q7 hx
   rw [Array.getElem?_toList] at hi
   rw [hME.2 i x hi]
   exact (Array.getElem?_eq_some_iff.1 hi).1
  ·have : es.toList.map (·.born) = Qr es.size := by
    apply List.ext_getElem?
    intro i
    rw [Zi,Array.getElem?_toList]
    by_cases hi : i < es.size
    ·rw [Zm hi,Array.getElem?_eq_getElem hi]
     simp only [Option.map_some]
     rw [hME.2 i _ (Array.getElem?_eq_getElem hi)]
    ·rw [List.getElem?_eq_none (by simp; omega),Array.getElem?_eq_none (by omega)]; rfl
   rw [this]; exact List.nodup_range
  ·rw [hME.1]
   refine Qho (fun a ha b hb e => ?_) hnd
   have h1 := hone a ha
   have h2 := hone b hb
   match a,b,h1,h2 with
   | [x],[y],_,_ =>
    simp only [keyC,Ze,if_false,List.headD_cons,Value.int.injEq,true_and] at e
    rw [e]
  ·obtain ⟨k,_,_,hk⟩ := hko x hx
   exact ⟨(.int .i64 (k.headD 0),.lit (.bool true)),by unfold Go.WideElems.rd; rw [hk]; rfl⟩
 generalize hD0 : (DataW.map ((es.toList.map (rg Tryz.prog 3 anyR)).foldr DataW.insert []) : DataW Unit) = D0 at hown
 have hik : (intKeys D0).Perm (ks.map fun k => k.headD 0) := by
  rw [← hD0]
  show ((es.toList.map (rg Tryz.prog 3 anyR)).foldr DataW.insert []).map (fun p => Go.intOf p.1) |>.Perm _
  refine ((sorted_perm _).map _).trans ?_
  rw [Q9]
  have : es.toList.map ((fun p => Go.intOf p.1) ∘ rg Tryz.prog 3 anyR) = es.toList.map fun x => Go.RowKit.intOf x.key := by
   apply Zn
   intro x hx
   obtain ⟨k,hk,e,hko⟩ := hko x hx
   have h1 : Go.WideElems.rg Tryz.prog 3 anyR x = (.int .i64 (k.headD 0),.lit (.bool true)) := by
    unfold Go.WideElems.rg Go.WideElems.rd
    rw [hko]; rfl
   rw [Function.comp_apply,h1,e]; rfl
  rw [this,show (fun x : MapEntry => Go.RowKit.intOf x.key) = Go.RowKit.intOf ∘ (·.key) from rfl,← Q9,hME.1,Q9]
  exact List.Perm.of_eq (Zn fun k _ => rfl)
 have hsz0 : Maps.size D0 = ks.length := by
  rw [← hD0,size_eq,length_sorted,Qf,← hlen]; simp
 have hbm : Bm < w.heap.size := hS Bm hSB
 have hbl : b < w.heap.size := hS b hSb
 have hseq : SeqGives Fence.wide 2 Tryz.prog 157 #[.pointer (some ⟨Bm,off,none⟩)] encZ (fun ss => ss.Perm (intKeys D0)) (Maps.size D0) w := fun l J W hW hJ hY h0 => by
  obtain ⟨es',clock,hb,Ft,hs,hD⟩ := hown
  exact Zea Fence.wide 2 trivial rfl (by omega) l Bm off b es.size D0 J hY W hJ ((hW.cell (p := ⟨Bm,off,none⟩) hbm).trans hc0) ⟨es',clock,(hW.block b hbl).trans hb,Ft,hs,hD⟩ h0
 have cS := AnyZI.sorted_in { Tryz.sorted132 with } Fence.wide 5 trivial trivial trivial trivial rfl (by omega) (Qzk _) (enters_of Tryz.func156 (by kernel_rfl) rfl) 157 #[.pointer (some ⟨Bm,off,none⟩)] trivial (enters_of Tryz.func157 (by kernel_rfl) rfl) _ _ (by rw [hsz0,← hlen]; exact hmx) (by rw [hsz0]; omega) w hseq
 refine Calls.mono ((callsIn_wide (n := 5)).1 cS) ?_
 rintro e' w' ⟨v,ss,rfl,hperm,hrow,hnil,hbw⟩
 have hsort : Qzj (ks.map fun k => k.headD 0) = ss.mergeSort (fun x y => decide (x ≤ y)) := (mergeSort_of_perm_i (hperm.trans hik)).symm
 have hfz : ∀ a,a.block < w.heap.size → w'.frozen? a = w.frozen? a := fun a ha => by
  unfold World.frozen?; rw [hbw.block _ ha]
 refine ⟨v,rfl,⟨⟨fun k hk => ⟨.inl hk,hbw.block k (hS k hk)⟩,fun _ _ _ h => (by cases h)⟩,hbw.os,hbw.tape,hbw.output,hbw.size,hfz,fun k hk _ => hbw.block k hk,fun k ⟨_,_,h⟩ => (by cases h),fun k hk => ?_⟩,?_⟩
 ·rcases hk with hk | hk
  ·exact .inl hk
  ·exact .inr (.inr hk.1)
 ·rw [hsort]
  have hsl : (ss.mergeSort fun x y => decide (x ≤ y)).length = ss.length := Zy ss
  generalize (ss.mergeSort fun x y => decide (x ≤ y)) = zs at hrow hsl
  obtain ⟨hxl,hv⟩ := hrow
  simp only [Rep]
  rcases hv with ⟨rfl,h0⟩ | ⟨g,cap,cur',rfl,hg,hgh,h1,h2,h3,h4⟩
  ·have hz : zs = [] := List.eq_nil_of_length_eq_zero (by omega)
   subst hz
   exact ⟨none,0,rfl,Qi _,.inl rfl⟩
  ·refine ⟨some ⟨g,0,none⟩,cap,by rw [Qf,hsl],by rw [Qf,hsl]; exact h1,.inr ⟨g,0,cur',_,(0,0),rfl,.inr ⟨hg,(Array.getElem?_eq_some_iff.1 hgh).1⟩,hgh,?_⟩⟩
   rw [Q8]
   have key : ∀ (zs : List Int) (cs : List Value),zs.length ≤ cs.length → cs.take zs.length = zs.map encZ → Qau (Sfr S w w') w' 1 (zs.map eI) cs := by
    intro zs
    induction zs with
    | nil => intro cs _ _; exact trivial
    | cons z zs ih =>
     intro cs hl ht
     cases cs with
     | nil => simp at hl
     | cons c cs =>
      simp only [Qp,Q1,Qm,Z8.injEq] at ht
      obtain ⟨rfl,ht⟩ := ht
      refine ⟨⟨rfl,fun c hc => ?_⟩,⟨rfl,trivial⟩,ih cs (by simpa using hl) ht⟩
      simp only [Q1,Z1,Zf] at hc
      subst hc; rfl
   refine key zs _ ?_ ?_
   ·have : cur'.toList.length = cur'.size := by simp
    omega
   ·rw [hsl]
    rw [Qn] at h4
    exact h4
end Go.CS
noncomputable section
namespace Go.CS
open Go.Fam Go.Proofs
open Go.Proofs.Tryz
open Go.Proofs.Tryz renaming prog → TP
open Go.C06 (fnG Qap Span eI eSpan gI gR dI Qas Qa7 Qa3 Qa4 idxOf Qah Qaa Qab Qaf Qa9 Qa6 Qa5 Qad Qal Qaz vw_I Qaj hmix eLI dLI Qb1 Qac Qa0 Qa2 Qae)
variable {Γ : Gam}
set_option maxRecDepth 100000
def Zi7 : Qar TP 105 6 := Qar.of (fs := _) (show TP.underlying 105 = some (.struct (TP.fieldsOf 105)) by kernel_rfl) (by kernel_rfl) (by kernel_rfl)
abbrev KV := List (List Int) × List V
def e133 (a : KV) : List V := [.pm false a.1 a.2]
def d133 : List V → KV | [.pm _ ks vs] => (ks,vs) | _ => ([],[])
def Zh2 (a : KV) : d133 (e133 a) = a := rfl
def b133 (a : KV) : V := .fn 157 [.pa [.pm false a.1 a.2]]
def X133 (ks : List (List Int)) (vs : List V) : Qa1 TP 133 [.pm false ks vs] (.fn 157 [.pa [.pm false ks vs]]) := by
 refine pc Qwo func133 Zne ?_
 simp only [rc133,rs133,Zlz,↓BU3,BL,simprocAttr]
def K128 := K127.ext 133 (fnG e133 d133 (fun _ => True) (fun a => a) (b133))
def Zj2 : GOk TP K128 := Qwo.ext call133 (Qa7 fun a h => X133 a.1 a.2)
def x133 (ks : List (List Int)) (vs : List V) : K128 133 [.pm false ks vs] = (True,.fn 157 [.pa [.pm false ks vs]]) := (kx K128 133 (Zh2 (ks,vs)) rfl :)
def e132 (a : KV) : List V := [.fn 157 [.pa [.pm false a.1 a.2]]]
def d132 : List V → KV | [.fn _ [.pa [.pm _ ks vs]]] => (ks,vs) | _ => ([],[])
def Zh1 (a : KV) : d132 (e132 a) = a := rfl
def C132 (ks : List (List Int)) : Prop := ks.length ≤ 1000000 ∧ ∀ k ∈ ks,inI (k.headD 0)
def Qtz (ks : List (List Int)) : List Int := Qzj (ks.map fun k => k.headD 0)
def K129 := K128.ext 132 (fnG e132 d132 (fun a => C132 a.1) (fun a => Qtz a.1) ((fun l => .sl 1 (l.map eI))))
def Zbf : GOk TP K129 := Zj2.ext call132 (Qa7 fun a h => sorted132 a.1 a.2 h.1 h.2)
def x132 (ks : List (List Int)) (vs : List V) : K129 132 [.fn 157 [.pa [.pm false ks vs]]] = (C132 ks,.sl 1 ((Qtz ks).map eI)) := (kx K129 132 (Zh1 (ks,vs)) rfl :)
def Zqp (ks : List (List Int)) (vs : List V) := lft K129 (x133 ks vs) rfl
def Qmn (s : Slip) : V := .ag (eSlip s)
def sl0 : Slip := ⟨0,0,0,0,0,0⟩
def Qjr (l : List Slip) : Nat → Option (AM Slip)
 | 0 => some []
 | k + 1 => match Qjr l k with
  | none => none
  | some m => if (aget m [(l.getD k sl0).id]).isSome = true ∧ (aget m [(l.getD k sl0).id]).getD sl0 ≠ l.getD k sl0 then none else some (aput m [(l.getD k sl0).id] (l.getD k sl0))
def Qm5 (l : List Slip) : Option (AM Slip) := Qjr l l.length
def Qee (m : AM Slip) : List Slip := (Qtz (aks m)).map fun id => (aget m [id]).getD sl0
def Qq0 (o : Option (AM Slip)) : V := match o with | none => .tp [.sl 6 [],.b false] | some m => .tp [.sl 6 ((Qee m).map eSlip),.b true]
def Qno {l : List Slip} {k : Nat} (h : Qjr l k = none) : ∀ n, k ≤ n → Qjr l n = none
  | 0, hn => by have : k = 0 := by omega
                subst this; exact h
  | n + 1, hn => by
    by_cases e : k = n + 1
    · subst e; exact h
    · have := Qno h n (by omega)
      simp only [Qjr, this]
structure OkOnce (l : List Slip) (k : Nat) (m : AM Slip) : Prop where
 nod : (aks m).Nodup
 len : (aks m).length ≤ k
 ids : ∀ q ∈ aks m,∃ s ∈ l,q = [s.id]
def Qws {l : List Slip} : ∀ {k : Nat} {m : AM Slip},k ≤ l.length → Qjr l k = some m → OkOnce l k m
 | 0,m,_,h => by
  simp only [Qjr,Zg.injEq] at h
  subst h
  exact ⟨Zz,Qi _,by simp [aks]⟩
 | k + 1,m,hk,h => by
  simp only [Qjr] at h
  cases e : Qjr l k with
  | none => rw [e] at h; cases h
  | some m0 =>
   rw [e] at h
   simp only at h
   split at h
   ·cases h
   ·simp only [Zg.injEq] at h
    subst h
    have ih := Qws (by omega) e
    refine ⟨Qfx ih.nod _ _,?_,fun q hq => ?_⟩
    ·rw [Qeh]
     have := Qz7 (ks := aks m0) (l := [(l.getD k sl0).id])
     have := ih.len
     omega
    ·rw [Qeh,Qkt] at hq
     rcases hq with hq | rfl
     ·exact ih.ids q hq
     ·refine ⟨l.getD k sl0,?_,rfl⟩
      rw [Qh,Qc (by omega)]
      exact List.getElem_mem _
def Qrp (m : AM Slip) (k : List Int) : ((avs Qmn m)[(aks m).idxOf k]?).getD (.ag [.i 0,.i 0,.i 0,.i 0,.i 0,.i 0]) = .ag (eSlip ((aget m k).getD sl0)) := by
 rw [Qj0]
 cases aget m k <;> rfl
def Qoq (m : AM Slip) : Qa8 (avs Qmn m) = false := Qgc (fun _ => rfl) m
def Qwf (l : List Slip) : ((l.map eSlip).flatten).length = l.length * 6 := Qaf (e := eSlip) (k := 6) (fun _ => rfl) l
def Qv0 (l : List Slip) : Qbi 6 ((l.map eSlip).flatten) 0 l.length = l.map eSlip := Qa9 (e := eSlip) (k := 6) (fun _ => rfl) l
def Zqd (hp : List Blk) (n : Nat) (m : AM Slip) : (avs Qmn m).map (vw hp (n + 2)) = avs Qmn m := by
 unfold avs
 rw [Q9]
 exact Zn fun _ _ => rfl
structure OkOn (l : List Slip) : Prop where
 len : l.length ≤ 1000000
 ids : ∀ s ∈ l,inI s.id
def X100 (l : List Slip) (h : OkOn l) : Qa1 TP 100 [.sl 6 (l.map eSlip)] (Qq0 (Qm5 l)) := by
 refine pc Zbf func100 Zmr ?_
 have hl := h.len
 have a0 : aks ([] : AM Slip) = [] := rfl
 have v0 : avs Qmn ([] : AM Slip) = [] := rfl
 have jX : ∀ k,k ≤ l.length → Qjr l k = none → Qq0 (Qm5 l) = .tp [.sl 6 [],.b false] := fun k hk e => by
  unfold Qm5
  rw [Qno e _ hk]; rfl
 simp only [rc100,rs100,↓BU3,BL,simprocAttr]
 refine Qac l.length (fun i m => ⟨lkp [(4,.mp 0 0),(13,.sl 6 (l.map eSlip)),(14,.i l.length),(15,.i i)],[.map false (aks m) (avs Qmn m)]⟩) (fun i m => Qjr l i = some m) [] ?_ rfl ?_ ?_
 ·simp only [Qd,a0,v0,↓BU3,BL,simprocAttr]
 ·intro i m hi hm
  have hlt : (i : Int) < l.length := by omega
  have i1 : inI ((i : Int) + 1) := by unfold inI; omega
  obtain ⟨s,hs⟩ : ∃ s,l[i]? = some s := ⟨_,Qc hi⟩
  have pP : l.getD i sl0 = s := by rw [Qh,hs]; rfl
  have jA := Qws (by omega) hm
  have jI : Qjr l (i + 1) = if (aget m [s.id]).isSome = true ∧ (aget m [s.id]).getD sl0 ≠ s then none else some (aput m [s.id] s) := by
   simp only [Qjr,hm,pP]
  have jO := Qrp m [s.id]
  have kC : Blk.map false (putK (aks m) [s.id]) (Qfv (aks m) (avs Qmn m) [s.id] (.ag (eSlip s))) = .map false (aks (aput m [s.id] s)) (avs Qmn (aput m [s.id] s)) := by
   rw [Qeh,← Ql1 jA.nod]; rfl
  obtain ⟨old,jZ⟩ : ∃ old,old = (aget m [s.id]).getD sl0 := ⟨_,rfl⟩
  rw [← jZ] at jO jI
  simp only [eSlip] at jO kC
  have kR : ([s.id] ∈ aks m) ↔ (aget m [s.id]).isSome = true := Qwh
  by_cases e1 : (aget m [s.id]).isSome = true
  ·have e2 : [s.id] ∈ aks m := kR.2 e1
   have hq : decide ([old.id,old.clerk,old.atm,old.kind,old.umb,old.guest] = [s.id,s.clerk,s.atm,s.kind,s.umb,s.guest]) = decide (old = s) := by
    obtain ⟨a1,a2,a3,a4,a5,a6⟩ := old
    obtain ⟨b1,b2,b3,b4,b5,b6⟩ := s
    simp
   by_cases e3 : old = s
   ·rw [if_neg (by rintro ⟨_,h⟩; exact h e3)] at jI
    have mO := hq.trans (decide_eq_true e3)
    simp only [hlt,hs,eSlip,jO,e2,Zi7,mO,Bool.true_xor,kC,i1,Qa0 _ _ _ (Qoq _),Qa,Qb,↓BU3,BL,simprocAttr]
    exact ⟨_,jI,rfl⟩
   ·rw [if_pos ⟨e1,e3⟩] at jI
    have q := jX (i + 1) (by omega) jI
    have mO := hq.trans (decide_eq_false e3)
    simp only [hlt,hs,eSlip,jO,e2,Zi7,mO,Bool.true_xor,q,↓BU3,BL,simprocAttr]
  ·have e2 : [s.id] ∉ aks m := fun h => e1 (kR.1 h)
   rw [if_neg (by rintro ⟨h,_⟩; exact e1 h)] at jI
   simp only [hlt,hs,eSlip,jO,e2,kC,i1,Qa0 _ _ _ (Qoq _),Qa,Qb,↓BU3,BL,simprocAttr]
   exact ⟨_,jI,rfl⟩
 ·intro m hm
  have hlt : ¬ ((l.length : Int) < l.length) := by omega
  have jA := Qws (Qi _) hm
  have hC : C132 (aks m) := by
   refine ⟨by have := jA.len; omega,fun q hq => ?_⟩
   obtain ⟨s,hs,rfl⟩ := jA.ids q hq
   exact h.ids s hs
  have hq : Qm5 l = some m := hm
  have g1 := Zqp (aks m) (avs Qmn m)
  have g2 := x132 (aks m) (avs Qmn m)
  obtain ⟨ks,uV⟩ : ∃ ks,ks = Qtz (aks m) := ⟨_,rfl⟩
  have hL : Qee m = ks.map fun id => (aget m [id]).getD sl0 := by rw [uV]; rfl
  have hLl : (Qee m).length = ks.length := by rw [hL,Qf]
  have xB : ks.length ≤ 1000000 := by
   rw [uV]
   unfold Qtz Qzj
   rw [Zy,Qf]
   exact hC.1
  rw [← uV] at g2
  simp only [hlt,hpF,upB,Qae _ _ (Qoq _),Zfr,Zlz,Zqd,g1,g2,hC,↓BU3,BL,simprocAttr]
  refine Qaq ks.length (fun i => ⟨lkp [(4,.pm false (aks m) (avs Qmn m)),(9,.rf 0 i 0 i 6),(39,.sl 1 (ks.map eI)),(40,.i ks.length),(41,.i i)],[.cells i (((Qee m).take i).map eSlip).flatten]⟩) ?_ ?_ ?_
  ·simp only [Qd,Qj,↓BU3,BL,simprocAttr]
  ·intro i hi
   have y7 : (i : Int) < ks.length := by omega
   have i1 : inI ((i : Int) + 1) := by unfold inI; omega
   obtain ⟨x,hx⟩ : ∃ x,ks[i]? = some x := ⟨_,Qc hi⟩
   have aK : (Qee m)[i]? = some ((aget m [x]).getD sl0) := by rw [hL,Zi,hx]; rfl
   have yS := Qa4 aK
   have mJ : ((Qee m).take i).length = i := by rw [Qu]; omega
   have f1 : Qam (i + 1) := by unfold Qam; omega
   have jO := Qrp m [x]
   obtain ⟨s,dJ⟩ : ∃ s,s = (aget m [x]).getD sl0 := ⟨_,rfl⟩
   rw [← dJ] at jO yS
   simp only [eSlip] at jO
   simp only [y7,hx,jO,i1,f1,Qwf,mJ,yS,Qk,Zb,Qg,Qj,eSlip,Qa,Qb,↓BU3,BL,simprocAttr]
  ·have y7 : ¬ ((ks.length : Int) < ks.length) := by omega
   have vH := Qv0 (Qee m)
   have kA := Qwf (Qee m)
   rw [hLl] at vH kA
   have htF : (Qee m).take ks.length = Qee m := Zj (by omega)
   simp only [y7,htF,vH,kA,Qkb,Qi,hq,Qq0,↓BU3,BL,simprocAttr]
def eS6 (l : List Slip) : List V := [.sl 6 (l.map eSlip)]
def dS6 : List V → List Slip | [.sl _ l] => l.map Qf8 | _ => []
def Zpb (l : List Slip) : dS6 (eS6 l) = l := by simp [dS6,eS6,Function.comp_def,Qg0]
def K130 := K129.ext 100 (fnG eS6 dS6 (OkOn) (Qm5) (Qq0))
def Zj3 : GOk TP K130 := Zbf.ext call100 (Qa7 fun a h => X100 a h)
def x100 (l : List Slip) : K130 100 [.sl 6 (l.map eSlip)] = (OkOn l,Qq0 (Qm5 l)) := (kx K130 100 (Zpb l) rfl :)
def eC1 (c : Ctr) : List V := [.ag (eCtr c)]
def dC1 : List V → Ctr | [.ag c] => dCtr c | _ => dCtr []
def Zhl (c : Ctr) : dC1 (eC1 c) = c := by simp [dC1,eC1,Qfn]
def K131 := K130.ext 131 (fnG eC1 dC1 (SmallCt) (Qih) (.b))
def Zbg : GOk TP K131 := Zj3.ext call131 (Qa7 fun a h => X131 a h)
def x131 (c : Ctr) : K131 131 [.ag (eCtr c)] = (SmallCt c,.b (Qih c)) := (kx K131 131 (Zhl c) rfl :)
def Zqm (l : List Slip) := lft K131 (x100 l) rfl
structure OkCt (c : Ctr) : Prop where
 clerks : c.clerks.length ≤ 3
 slips : c.slips.length ≤ 12
 voided : c.voided.length ≤ 12
 closed : c.closed.length ≤ 4
 tar : Qjq c.tar = true
 cl : ∀ s ∈ c.clerks,Qei s = true
 clo : ∀ i,i < c.closed.length → Qgd c i = true
 sl : ∀ s ∈ c.slips,Qfq c s = true
def okCt {c : Ctr} (h : Qih c = true) : OkCt c := by
 unfold Qih at h
 simp only [Qt,decide_eq_true_eq,Za] at h
 obtain ⟨⟨⟨⟨⟨⟨⟨⟨h1,h2⟩,h3⟩,h4⟩,h5⟩,h6⟩,h7⟩,h8⟩,h9⟩ := h
 exact ⟨by omega,by omega,by omega,by omega,h5,h6,fun i hi => h7 i (Qy.2 hi),h8⟩
structure SlipIn (c : Ctr) (s : Slip) : Prop where
 kind : s.kind = 1 ∨ s.kind = 2
 id : 0 ≤ s.id ∧ s.id ≤ 99
 guest : 0 ≤ s.guest ∧ s.guest ≤ 99
 clerk : 0 ≤ s.clerk ∧ s.clerk < c.clerks.length
 atm : 0 ≤ s.atm ∧ s.atm ≤ 9999
 umb : 0 ≤ s.umb ∧ s.umb ≤ 9
def Zlm {c : Ctr} {s : Slip} (h : Qfq c s = true) : SlipIn c s := by
 unfold Qfq Qpx okId at h
 simp only [Qt,Xd,decide_eq_true_eq,Qak] at h
 obtain ⟨⟨⟨⟨⟨h1,h2⟩,h3⟩,h4⟩,h5⟩,h6⟩ := h
 exact ⟨h1.imp id (·.1),h2,h3,by omega,h5,h6⟩
def OkCt.on {c : Ctr} (h : OkCt c) : OkOn c.slips := ⟨by have := h.slips; omega,fun s hs => by have := (Zlm (h.sl s hs)).id; unfold inI; omega⟩
def ctrE (c : Ctr) : Int := if Qih c = true then (if Qm5 c.slips = none then 91 else 0) else 90
def X99 (c : Ctr) (hs : SmallCt c) : Qa1 TP 99 [.ag (eCtr c)] (.i (ctrE c)) := by
 refine pc Zbg func99 cf99 ?_
 have g1 := x131 c
 have g2 := Zqm c.slips
 have jP : eCtr c = [.sl 2 (c.clerks.map eSpan),.sl 6 (c.slips.map eSlip),.sl 1 (c.voided.map eI),.sl 2 (c.closed.map eSpan),.i c.tar.free,.i c.tar.unit,.i c.tar.price,.i c.tar.most,.i c.tar.lost,.i c.tar.value,.i c.tar.pledge] := rfl
 rw [jP] at g1 ⊢
 unfold ctrE
 cases e : Qih c with
 | false =>
  simp only [rc99,rs99,g1,hs,e,↓BU3,BL,simprocAttr]
  try rfl
 | true =>
  have ho := (okCt e).on
  cases e2 : Qm5 c.slips with
  | none =>
   rw [e2] at g2
   simp only [Qq0] at g2
   simp only [rc99,rs99,g1,hs,e,g2,ho,Qkb,↓BU3,BL,simprocAttr]
  | some m =>
   rw [e2] at g2
   simp only [Qq0] at g2
   simp only [rc99,rs99,g1,hs,e,g2,ho,Qkb,↓BU3,BL,simprocAttr]
   try rfl
def K132 := K131.ext 99 (fnG eC1 dC1 (SmallCt) (ctrE) (.i))
def Zbh : GOk TP K132 := Zbg.ext call99 (Qa7 fun a h => X99 a h)
def x99 (c : Ctr) : K132 99 [.ag (eCtr c)] = (SmallCt c,.i (ctrE c)) := (kx K132 99 (Zhl c) rfl :)
def feeN (t : Tariff) (m : Int) : Int := if t.lost ≤ m then t.value else min t.most (t.price * ((max 0 (m - t.free) + t.unit - 1).tdiv t.unit))
structure TarIn (t : Tariff) : Prop where
 free : 0 ≤ t.free ∧ t.free ≤ 9999
 unit : 1 ≤ t.unit ∧ t.unit ≤ 9999
 price : 0 ≤ t.price ∧ t.price ≤ 100000
 most : 0 ≤ t.most ∧ t.most ≤ 100000
 lost : 1 ≤ t.lost ∧ t.lost ≤ 9999
 value : 0 ≤ t.value ∧ t.value ≤ 100000
 pledge : 0 ≤ t.pledge ∧ t.pledge ≤ 100000
def Zqb {t : Tariff} (h : Qjq t = true) : TarIn t := by
 unfold Qjq at h
 simp only [Qt,Qak] at h
 obtain ⟨⟨⟨⟨⟨⟨h1,h2⟩,h3⟩,h4⟩,h5⟩,h6⟩,h7⟩ := h
 exact ⟨h5,h6,h1,h2,h7,h3,h4⟩
structure OkFee (t : Tariff) (m : Int) : Prop where
 t : Qjq t = true
 m : -1000000000 ≤ m ∧ m ≤ 1000000000
def X40 (t : Tariff) (m : Int) (h : OkFee t m) : Qa1 TP 40 [.ag (eTar t),.i m] (.i (feeN t m)) := by
 refine pc Zbh func40 cf40 ?_
 have ht := Zqb h.t
 have h1 := ht.value
 have h2 := ht.most
 have h3 := ht.price
 have h4 := ht.unit
 have h5 := ht.free
 have h6 := ht.lost
 have h7 := h.m
 unfold feeN
 by_cases e : t.lost ≤ m
 ·rw [if_pos e]
  simp only [rc40,rs40,eTar,e,BL,simprocAttr]
 ·rw [if_neg e]
  have i1 : inI (m - t.free) := by unfold inI; omega
  have i2 : inI (max 0 (m - t.free) + t.unit) := by unfold inI; omega
  have i3 : inI (max 0 (m - t.free) + t.unit - 1) := by unfold inI; omega
  have n0 : ¬ t.unit = 0 := by omega
  obtain ⟨A,hA⟩ : ∃ A,A = max 0 (m - t.free) + t.unit - 1 := ⟨_,rfl⟩
  have hA0 : 0 ≤ A ∧ A ≤ 20000 := by omega
  have hq : 0 ≤ A.tdiv t.unit ∧ A.tdiv t.unit ≤ A := by
   rw [Int.tdiv_eq_ediv_of_nonneg hA0.1]
   exact ⟨Int.ediv_nonneg hA0.1 (by omega),Int.ediv_le_self _ hA0.1⟩
  have i4 : inI (A.tdiv t.unit) := by unfold inI; omega
  have hm : 0 ≤ t.price * A.tdiv t.unit := Int.mul_nonneg h3.1 hq.1
  have uT : t.price * A.tdiv t.unit ≤ 100000 * 20000 := Int.mul_le_mul h3.2 (by omega) hq.1 (by decide)
  have i5 : inI (t.price * A.tdiv t.unit) := by unfold inI; omega
  have i6 : inI A := by unfold inI; omega
  simp only [rc40,rs40,eTar,e,i1,i2,← hA,n0,i4,i5,i6,BL,simprocAttr]
def eTM (a : Tariff × Int) : List V := [.ag (eTar a.1),.i a.2]
def dTM : List V → Tariff × Int | [.ag t,.i m] => (dTar t,m) | _ => (dTar [],0)
def Zpe (a : Tariff × Int) : dTM (eTM a) = a := rfl
def K133 := K132.ext 40 (fnG eTM dTM (fun a => OkFee a.1 a.2) (fun a => feeN a.1 a.2) (.i))
def Zbi : GOk TP K133 := Zbh.ext call40 (Qa7 fun a h => X40 a.1 a.2 h)
def x40 (t : Tariff) (m : Int) : K133 40 [.ag (eTar t),.i m] = (OkFee t m,.i (feeN t m)) := (kx K133 40 (Zpe (t,m)) rfl :)
def Qm7 (c : Ctr) (a b : Int) : Nat → Int
 | 0 => b - a
 | k + 1 => Qm7 c a b k - max 0 (min (Qbo c k).high (b - 1) - max (Qbo c k).low a + 1)
def Qwv (c : Ctr) (a b : Int) : Int := Qm7 c a b c.closed.length
structure OkOp (c : Ctr) (a b : Int) : Prop where
 c : OkCt c
 a : -100000 ≤ a ∧ a ≤ 100000
 b : -100000 ≤ b ∧ b ≤ 100000
def Qv3 {c : Ctr} (h : OkCt c) {i : Nat} (hi : i < c.closed.length) : 0 ≤ (Qbo c i).low ∧ (Qbo c i).low ≤ (Qbo c i).high ∧ (Qbo c i).high ≤ 9999 := by
 have := h.clo i hi
 unfold Qgd at this
 simp only [Qt,Qak,decide_eq_true_eq] at this
 omega
def Qsu {c : Ctr} {a b : Int} (h : OkOp c a b) : ∀ k,k ≤ c.closed.length → -(200000 + 200000 * (k : Int)) ≤ Qm7 c a b k ∧ Qm7 c a b k ≤ 200000
 | 0,_ => by
  have := h.a
  have := h.b
  unfold Qm7; omega
 | k + 1,hk => by
  have ih := Qsu h k (by omega)
  have hc := Qv3 h.c (i := k) (by omega)
  have := h.a
  have := h.b
  unfold Qm7
  omega
def X106 (c : Ctr) (a b : Int) (h : OkOp c a b) : Qa1 TP 106 [.ag (eCtr c),.i a,.i b] (.i (Qwv c a b)) := by
 refine pc Zbi func106 Zmv ?_
 have ha := h.a
 have hb := h.b
 have hcl := h.c.closed
 have i0 : inI (b - a) := by unfold inI; omega
 have i1 : inI (b - 1) := by unfold inI; omega
 have jP : eCtr c = [.sl 2 (c.clerks.map eSpan),.sl 6 (c.slips.map eSlip),.sl 1 (c.voided.map eI),.sl 2 (c.closed.map eSpan),.i c.tar.free,.i c.tar.unit,.i c.tar.price,.i c.tar.most,.i c.tar.lost,.i c.tar.value,.i c.tar.pledge] := rfl
 rw [jP]
 simp only [rc106,rs106,i0,BL,simprocAttr]
 refine Qaq c.closed.length (fun i => ⟨lkp [(1,.i a),(2,.i b),(7,.i (Qm7 c a b i)),(14,.sl 2 (c.closed.map eSpan)),(15,.i c.closed.length),(16,.i i)],[]⟩) ?_ ?_ ?_
 ·simp only [Qd,Qm7,BL,simprocAttr]
 ·intro i hi
  have hlt : (i : Int) < c.closed.length := by omega
  have i2 : inI ((i : Int) + 1) := by unfold inI; omega
  have hx := Qnx hi
  have hc := Qv3 h.c hi
  have hk := Qsu h i (by omega)
  have k8 : Qm7 c a b (i + 1) = Qm7 c a b i - max 0 (min (Qbo c i).high (b - 1) - max (Qbo c i).low a + 1) := rfl
  generalize Qbo c i = S at *
  have i3 : inI (min S.high (b - 1) - max S.low a) := by unfold inI; omega
  have i4 : inI (min S.high (b - 1) - max S.low a + 1) := by unfold inI; omega
  have i5 : inI (Qm7 c a b i - max 0 (min S.high (b - 1) - max S.low a + 1)) := by unfold inI; omega
  simp only [hlt,hx,i1,i3,i4,i5,i2,k8,Qa,Qb,BL,simprocAttr]
 ·have hlt : ¬ ((c.closed.length : Int) < c.closed.length) := by omega
  simp only [hlt,BL,simprocAttr]
  rfl
def eOp (a : Ctr × Int × Int) : List V := [.ag (eCtr a.1),.i a.2.1,.i a.2.2]
def dOp : List V → Ctr × Int × Int | [.ag c,.i a,.i b] => (dCtr c,a,b) | _ => (dCtr [],0,0)
def Zp7 (a : Ctr × Int × Int) : dOp (eOp a) = a := by obtain ⟨c,x,y⟩ := a; simp [dOp,eOp,Qfn]
def K134 := K133.ext 106 (fnG eOp dOp (fun a => OkOp a.1 a.2.1 a.2.2) (fun a => Qwv a.1 a.2.1 a.2.2) (.i))
def Zbj : GOk TP K134 := Zbi.ext call106 (Qa7 fun a h => X106 a.1 a.2.1 a.2.2 h)
def x106 (c : Ctr) (a b : Int) : K134 106 [.ag (eCtr c),.i a,.i b] = (OkOp c a b,.i (Qwv c a b)) := (kx K134 106 (Zp7 (c,a,b)) rfl :)
structure Ev where
 sl : Slip
 min : Int
 deriving DecidableEq
def eEv (e : Ev) : List V := [.i e.sl.id,.i e.sl.clerk,.i e.sl.atm,.i e.sl.kind,.i e.sl.umb,.i e.sl.guest,.i e.min]
def dEv : List V → Ev | [.i a,.i b,.i c,.i d,.i e,.i f,.i m] => ⟨⟨a,b,c,d,e,f⟩,m⟩ | _ => ⟨sl0,0⟩
def Zp0 (e : Ev) : dEv (eEv e) = e := rfl
def Qlu (l : List Ev) : ((l.map eEv).flatten).length = l.length * 7 := Qaf (e := eEv) (k := 7) (fun _ => rfl) l
def Qoo (l : List Ev) : Qa8 ((l.map eEv).flatten) = false := Qa5 (e := eEv) (fun _ => rfl) l
def Qrs (l : List Ev) : Qbi 7 ((l.map eEv).flatten) 0 l.length = l.map eEv := Qa9 (e := eEv) (k := 7) (fun _ => rfl) l
def Zlt (hp : List Blk) (n : Nat) (l : List Ev) : (l.map eEv).map (fun r => r.map (vw hp (n + 1))) = l.map eEv := Qa6 (e := eEv) hp (n + 1) (fun _ => rfl) l
def insE (x : Ev) (s : List Ev) : List Ev := s.takeWhile (fun y => decide (y.min ≤ x.min)) ++ x :: s.dropWhile (fun y => decide (y.min ≤ x.min))
def Qcd (l : List Ev) : List Ev := l.foldl (fun s x => insE x s) []
def Zlq {p : Ev → Bool} : ∀ {j : Nat} {s : List Ev},(∀ y ∈ s.take j,p y = true) → (∀ y ∈ s.drop j,p y = false) → s.takeWhile p = s.take j ∧ s.dropWhile p = s.drop j
 | 0,s,_,h => by
  cases s with
  | nil => simp
  | cons y s =>
   have := h y (by simp)
   simp [Zo,Zp,this]
 | j + 1,[],_,_ => by simp
 | j + 1,y :: s,h1,h2 => by
  have ih := Zlq (p := p) (j := j) (s := s) (fun z hz => h1 z (by simp [hz])) (fun z hz => h2 z (by simpa using hz))
  have hy := h1 y (by simp)
  simp [Zo,Zp,hy,ih.1,ih.2]
def Qvw {x : Ev} {s : List Ev} {j : Nat} (h1 : ∀ y ∈ s.take j,y.min ≤ x.min) (h2 : ∀ y ∈ s.drop j,x.min < y.min) : insE x s = s.take j ++ x :: s.drop j := by
 obtain ⟨e1,e2⟩ := Zlq (p := fun y => decide (y.min ≤ x.min)) (fun y hy => decide_eq_true (h1 y hy)) fun y hy => decide_eq_false (by have := h2 y hy; omega)
 unfold insE
 rw [e1,e2]
def SrtE (s : List Ev) : Prop := s.Pairwise fun a b => a.min ≤ b.min
def Qyq (x : Ev) (s : List Ev) : (insE x s).length = s.length + 1 := by
 unfold insE
 have := congrArg Xc (Zk (p := fun y : Ev => decide (y.min ≤ x.min)) (l := s))
 rw [Ql] at this
 rw [Ql,Qp]; omega
def Qf9 (l : List Ev) (x : Ev) : Qcd (l ++ [x]) = insE x (Qcd l) := by simp [Qcd]
def Qgq (l : List Ev) : (Qcd l).length = l.length := Qb0 (p := fun l => (Qcd l).length = l.length) rfl (fun l x ih => by rw [Qf9,Qyq,ih,Ql]; rfl) l
def Zi5 {x : Int} : ∀ {s : List Ev},SrtE s → ∀ y ∈ s.dropWhile (fun y => decide (y.min ≤ x)),x < y.min
 | [],_,y,h => by cases h
 | a :: s,hs,y,h => by
  obtain ⟨h1,h2⟩ := Z6.1 hs
  rw [Zp] at h
  split at h
  ·exact Zi5 h2 y h
  ·rename_i hn
   have ha : x < a.min := by simpa using hn
   rcases Q5.1 h with rfl | h
   ·exact ha
   ·have := h1 y h; omega
def Zlr {x : Int} : ∀ {s : List Ev},∀ y ∈ s.takeWhile (fun y => decide (y.min ≤ x)),y.min ≤ x
 | [],y,h => by cases h
 | a :: s,y,h => by
  rw [Zo] at h
  split at h
  ·rename_i hn
   rcases Q5.1 h with rfl | h
   ·simpa using hn
   ·exact Zlr y h
  ·cases h
def Qys {x : Ev} {s : List Ev} (hs : SrtE s) : SrtE (insE x s) := by
 unfold insE SrtE
 have e := Zk (p := fun y : Ev => decide (y.min ≤ x.min)) (l := s)
 have h1 : SrtE (s.takeWhile (fun y => decide (y.min ≤ x.min)) ++ s.dropWhile (fun y => decide (y.min ≤ x.min))) := by rw [e]; exact hs
 obtain ⟨a1,a2,a3⟩ := Z2.1 h1
 refine Z2.2 ⟨a1,Z6.2 ⟨fun y hy => by have := Zi5 hs y hy; omega,a2⟩,fun a ha b hb => ?_⟩
 have := Zlr a ha
 rcases Q5.1 hb with rfl | hb
 ·exact this
 ·exact a3 a ha b hb
def Qty (l : List Ev) : SrtE (Qcd l) := Qb0 (p := fun l => SrtE (Qcd l)) List.Pairwise.nil (fun l x ih => by rw [Qf9]; exact Qys ih) l
def cmpI (a b : Int) : Int := if a < b then -1 else if b < a then 1 else 0
def X172 (n : Int) : Qa1 TP 172 [.i n] (.b false) := by
 refine pc Zbj func172 Zo7 ?_
 simp only [rc172,rs172,BL,simprocAttr]
def K135 := K134.ext 172 (fnG eNo dNo (fun _ => True) (fun _ => false) (.b))
def Zbk : GOk TP K135 := Zbj.ext call172 (Qa7 fun a h => X172 a)
def x172 (n : Int) : K135 172 [.i n] = (True,.b false) := (kx K135 172 (Zhq n) rfl :)
def X161 (a b : Int) : Qa1 TP 161 [.i a,.i b] (.i (cmpI a b)) := by
 refine pc Zbk func161 Zo0 ?_
 unfold cmpI
 by_cases e : a < b
 ·simp only [rc161,rs161,x172,e,BL,simprocAttr]
 ·by_cases e2 : b < a
  ·simp only [rc161,rs161,x172,e,e2,BL,simprocAttr]
  ·simp only [rc161,rs161,x172,e,e2,BL,simprocAttr]
def eII (a : Int × Int) : List V := [.i a.1,.i a.2]
def dII : List V → Int × Int | [.i a,.i b] => (a,b) | _ => (0,0)
def Zp2 (a : Int × Int) : dII (eII a) = a := rfl
def K136 := K135.ext 161 (fnG eII dII (fun _ => True) (fun a => cmpI a.1 a.2) (.i))
def Zbl : GOk TP K136 := Zbk.ext call161 (Qa7 fun a h => X161 a.1 a.2)
def x161 (a b : Int) : K136 161 [.i a,.i b] = (True,.i (cmpI a b)) := (kx K136 161 (Zp2 (a,b)) rfl :)
def X160 (x y : Ev) : Qa1 TP 160 [.ag (eEv x),.ag (eEv y)] (.i (cmpI x.min y.min)) := by
 refine pc Zbl func160 Znz ?_
 simp only [rc160,rs160,eEv,x161,BL,simprocAttr]
def eEE (a : Ev × Ev) : List V := [.ag (eEv a.1),.ag (eEv a.2)]
def dEE : List V → Ev × Ev | [.ag a,.ag b] => (dEv a,dEv b) | _ => (dEv [],dEv [])
def Zoz (a : Ev × Ev) : dEE (eEE a) = a := rfl
def K137 := K136.ext 160 (fnG eEE dEE (fun _ => True) (fun a => cmpI a.1.min a.2.min) (.i))
def Zbm : GOk TP K137 := Zbl.ext call160 (Qa7 fun a h => X160 a.1 a.2)
def x160 (x y : Ev) : K137 160 [.ag (eEv x),.ag (eEv y)] = (True,.i (cmpI x.min y.min)) := (kx K137 160 (Zoz (x,y)) rfl :)
def Qd5 {α : Type} {e : α → List V} {k : Nat} (hk : ∀ x,(e x).length = k) : ∀ {l : List α} {i : Nat} {x : α},l[i]? = some x → ((l.map e).flatten.drop (i * k)).take k = e x
 | [],i,x,h => by simp at h
 | a :: l,0,x,h => by
  simp only [Qq,Zg.injEq] at h
  subst h
  rw [Nat.zero_mul,Q8,Qm,Qg,List.take_append_of_le_length (by rw [hk]; exact Qi _),← hk a,Qx]
 | a :: l,i + 1,x,h => by
  simp only [Zu] at h
  rw [Qm,Qg,Nat.succ_mul,Nat.add_comm,← Xg,← hk a,Z3,hk]
  exact Qd5 hk h
def Qo9 {α : Type} {e : α → List V} {k : Nat} (hk : ∀ x,(e x).length = k) (y : α) : ∀ {l : List α} {i : Nat},i < l.length → (l.map e).flatten.take (i * k) ++ e y ++ (l.map e).flatten.drop (i * k + k) = ((l.set i y).map e).flatten
 | [],i,h => by simp at h
 | a :: l,0,h => by
  simp only [Nat.zero_mul,Z1,Zd,Nat.zero_add,Qm,Qg,List.set_cons_zero]
  rw [← hk a,Z3]
 | a :: l,i + 1,h => by
  have ih := Qo9 hk y (l := l) (i := i) (by simpa using h)
  simp only [Qm,Qg,List.set_cons_succ]
  rw [Nat.succ_mul,Nat.add_comm (i * k) k,List.take_append,Zj (by rw [hk]; omega),hk,Nat.add_sub_cancel_left,Nat.add_assoc,← Xg,← hk a,Z3,hk,Q0,Q0,← Q0 _ (e y),ih]
end Go.CS
end
