import Derived.Test.YtjimcmcffjibmaaGreatG6
import Derived.Test.YtjimcmcffjibmaaGreatG5
import Derived.Test.YtjimcmcffjibmaaGreatG4
import Derived.Test.YtjimcmcffjibmaaGreatG3
set_option linter.all false
set_option maxHeartbeats 4000000
open List renaming replicate → Qa,mem_of_getElem? → Qb,getElem?_eq_getElem → Qd,length_append → Qh,getD_eq_getElem?_getD → Qi,mem_append → Qj,map_append → Qk,range → Ql,flatten_append → Qm,flatten_nil → Qp,getElem?_cons_zero → Qq,contains_cons → Qr,append_assoc → Qs,take_of_length_le → Qt,contains_nil → Qu,map_nil → Qv,map_cons → Qw,flatten_cons → Qx,length_replicate → Q0,mem_range → Q1,range_zero → Q3,getElem?_cons_succ → Q4,replicate_succ → Q6,flatMap_nil → Q7,getElem?_set_ne → Q8,nil_append → Q9,countP_eq_length_filter → Za,take_length → Zb,length_map → Zc,getElem?_of_mem → Ze,length_take → Zg,set_cons_zero → Zh,mem_singleton → Zi,range_succ → Zj,append_nil → Zk,nodup_nil → Zl,countP_cons → Zq,length_cons → Zr,all_eq_true → Zs,drop_append_of_le_length → Zt,getElem?_range → Zv,map_map → Zw,count_pos_iff → Zy,length_range → Z1,nodup_append → Z2,all_cons → Z3,idxOf_lt_length_iff → Z5,eq_of_mem_replicate → Z6,cons_append → Z7,mem_flatMap → Z8,drop_eq_nil_of_le → Z9,all_nil → Xa,getElem?_set_self → Xb,countP_nil → Xd,count_cons → Xe,nodup_cons → Xf,length_filter_le → Xg,countP_mono_left → Xh,length_singleton → Xi,drop_zero → Xj,idxOf_eq_length → Xk,mem_of_mem_take → Xl,replicate_zero → Xn,mem_cons → Xq,map_id'' → Xr,countP_append → Xs,any_eq_false → Xt,getElem?_map → Xu,getElem?_nil → Xw,isEmpty_cons → Xx,mem_map → Xy,flatMap_cons → Xz,isEmpty_nil → X2,getElem_mem → X3,length_nil → Jb,filter_nil → Jd,cons → Jf
open Nat renaming le_refl → Qn,mul_one → Zd,le_trans → Zn,zero_add → Zo,add_mul → Zz,zero_le → Z0,zero_mul → Xv,min_le_left → Ja
open Bool renaming false_eq_true → Qc,and_eq_true → Qo,true_eq_false → Qy,and_self → Zf,false_and → Zx,or_false → Z4,and_true → Xo,true_and → Xp,not_eq_true → X4,not_false → Je
open Option renaming getD_some → Q5,map_some → Xc,some → Xm,getD_none → X1,map_none → Jc
open Int renaming natCast_one → Qe,natCast_add → Qf,natCast_zero → Qg,toNat_natCast → Qz,lt_irrefl → Q2,natCast_nonneg → Zm,toNat_zero → Zp,le_refl → Zu,zero_add → X0
noncomputable section
namespace Go.CS
open Go.Fam Go.Proofs
open Go.Proofs.Tryz
open Go.Proofs.Tryz renaming prog → TP
open Go.C06 (fnG Qap Span eI eSpan gI gR dI Qas Qa7 Qa3 Qa4 idxOf Qah Qaa Qab Qaf Qa9 Qa6 Qa5 Qad Qal Qaz vw_I Qaj hmix eLI dLI Qb1 Qac Qa0 Qa2 Qae)
variable {Γ : Gam}
set_option maxRecDepth 100000
def Zfv (w : Work) : K57 75 [.ag (Qai w)] = (SmallW w,.i (Qco w)) := (show K57 75 _ = fnG eW1 dW1 SmallW Qco .i (eW1 w) from rfl).trans (Qap _ (Ql7 w))
def eLens (l : List Int) : List V := [.sl 1 (l.map eI)]
def Qdc (w : Work) (k : Nat) : List (List Int) := (Ql k).map fun (i : Nat) => Qcx w (i : Int)
def Qu3 (w : Work) (k : Nat) : Qdc w (k + 1) = Qdc w k ++ [Qcx w (k : Int)] := by simp [Qdc,Zj]
def Qie (w : Work) (k : Nat) : (Qdc w k).length = k := by simp [Qdc]
def Qbs (w : Work) : List V := [.sl 4 (w.spares.map eSpare),.sl 1 (w.makes.map eMake),.i w.cut,.sl 4 (w.table.map eTrial),.sl 1 ((Qdc w w.spares.length).map eLens)]
def Qgg (w : Work) (is : Bool) : V := if Qb5 w is = 0 then .tp [.pa (Qbs w),.i 0] else .tp [.pn,.i (Qb5 w is)]
def Qsj (l : List (List Int)) : ((l.map eLens).flatten).length = l.length * 1 := Qaf (e := eLens) (k := 1) (fun _ => rfl) l
def Qcs (l : List (List Int)) : Qa8 ((l.map eLens).flatten) = false := Qa5 (e := eLens) (fun _ => rfl) l
def Qrt (l : List (List Int)) : Qbi 1 ((l.map eLens).flatten) 0 l.length = l.map eLens := Qa9 (e := eLens) (k := 1) (fun _ => rfl) l
def Qzr (hp : List Blk) (n : Nat) (l : List (List Int)) : (l.map eLens).map (fun r => r.map (vw hp (n + 1))) = l.map eLens := Qa6 (e := eLens) hp (n + 1) (fun _ => rfl) l
def Zdc {w : Work} {i n : Int} (h : (Qbn w i).len.low ≤ n ∧ n ≤ (Qbn w i).len.high) : w.table.all (pSo (i,w,n)) = canB w i n := by
 unfold canB
 rw [Qak.2 h,Xo]; rfl
def W80 (w : Work) (is : Bool) (hw : SmallW w) : Qa1 TP 57 [.ag (Qai w),.b is] (Qgg w is) := by
 refine pc Zk5 func57 cf57 ?_
 have g := Zfv w
 unfold Qai at g
 by_cases h0 : Qco w = 0
 rotate_left
 ·simp only [rc57,rs57,g,hw,h0,BL,simprocAttr]; simp [Qgg,Qb5,h0]
 cases is with
 | false => simp only [rc57,rs57,g,hw,h0,BL,simprocAttr]; simp [Qgg,Qb5,h0]
 | true =>
 have hO := Qnn (Qjw h0)
 have hn := hO.nsp
 have hT := hO.ntb
 have hE : Qb5 w true = if Qcu w = true then 3 else 0 := by simp [Qb5,h0]
 simp only [rc57,rs57,g,hw,h0,BL,simprocAttr]
 refine Qao w.spares.length (fun i => ⟨lkp [(2,.pa (Qai w)),(7,.ad 0 0 0),(24,.sl 4 (w.spares.map eSpare)),(25,.i w.spares.length),(26,.i i)],
   [.cells 0 [.sl 4 (w.spares.map eSpare),.sl 1 (w.makes.map eMake),.i w.cut,.sl 4 (w.table.map eTrial),.rf 1 i 0 i 1],.cells i ((Qdc w i).map eLens).flatten]⟩) (fun k => ∀ j : Nat,j < k → (Qcx w (j : Int)).isEmpty = false) ?_ ?_ ?_ ?_
 ·simp only [Qg,Qdc,Q3,Qp,BL,simprocAttr]
 ·intro j h; omega
 ·intro i hi hc
  have hlt : (i : Int) < w.spares.length := by omega
  have i1 : inI ((i : Int) + 1) := by unfold inI; omega
  have hI : OkI w i := ⟨hO,by omega⟩
  have hs0 := Qf2 hI.sp
  have hs : w.spares[i]? = some (Qbn w i) := by simpa using hs0
  have hS := Qfe (hO.spare _ (Qb hs))
  have hN : Qcx w i = Qjn w i ((Qbn w i).len.high + 1 - (Qbn w i).len.low).toNat := rfl
  have g2 := fun n => Zii (i,w,n) w.table
  have hC : ∀ n,C2So ((i,w,n),w.table) := fun n => ⟨by show w.table.length < 10000000; omega,fun t ht => hI.fits ht⟩
  simp only [eSo,Qai] at g2
  have pE := fun n => Zdc (w := w) (i := i) (n := n)
  have jN := Qpu w i
  have kA := Qof w i
  have e0 : Qjn w i 0 = [] := rfl
  have k8 := Qu3 w i
  obtain ⟨res,vN⟩ : ∃ res,Qcx w (i : Int) = res := ⟨_,rfl⟩
  rw [vN] at hN k8
  generalize Qjn w i = L at *
  generalize Qbn w i = s at *
  simp only [hlt,hs,BL,simprocAttr]
  refine Qaq (s.len.high + 1 - s.len.low).toNat (fun k => ⟨lkp [(2,.pa (Qai w)),(7,.ad 0 0 0),(8,.ad 2 0 0),(9,.ad 3 0 0),(10,.rf 5 (L k).length 0 (L k).length 1),(11,.ad 4 0 0),(24,.sl 4 (w.spares.map eSpare)),(25,.i w.spares.length),(26,.i i)],
    [.cells 0 [.sl 4 (w.spares.map eSpare),.sl 1 (w.makes.map eMake),.i w.cut,.sl 4 (w.table.map eTrial),.rf 1 i 0 i 1],.cells i ((Qdc w i).map eLens).flatten,.cells 0 [.i i],.cells 0 (eSpare s),.cells 0 [.i (s.len.low + (k : Int))],.cells (L k).length ((L k).map eI).flatten]⟩) ?_ ?_ ?_
  ·simp only [Qg,e0,Qp,Int.add_zero,Qa0 _ _ _ (Qcs _),BL,simprocAttr]
  ·intro k hk
   have hlk : s.len.low + (k : Int) ≤ s.len.high := by omega
   have h3 : inI (s.len.low + (k : Int) + 1) ∧ inI (s.len.low + ((k : Int) + 1)) := by unfold inI; omega
   have u7 := kA k
   have xM : Qam ((L k).length + 1) := by unfold Qam; omega
   have zH := jN k
   have vH := pE (s.len.low + (k : Int)) ⟨by omega,hlk⟩
   cases ha : canB w i (s.len.low + (k : Int)) with
   | false =>
    rw [ha] at zH vH
    simp only [Qc,if_false] at zH
    simp only [hlk,g2,hC,vH,zH,h3,Qa0 _ _ _ (Qaj _),Qa0 _ _ _ (Qcs _),Qcz _ _ (Qaj _),Qcz _ _ (Qcs _),Qf,Qe,Int.add_assoc,↓BU3,BL,simprocAttr]
   | true =>
    rw [ha] at zH vH
    simp only [if_true] at zH
    have cL : Qa8 (((L k).map eI).flatten ++ [V.i (s.len.low + (k : Int))]) = false := by rw [Qa2,Qaj]; rfl
    simp only [hlk,g2,hC,vH,zH,h3,Qaz,Zd,xM,Qh,Qk,Qm,Qx,Qp,Qa0 _ _ _ (Qcs _),Qa0 _ _ _ cL,Qcz _ _ cL,Qcz _ _ (Qcs _),Qf,Qe,Int.add_assoc,↓BU3,BL,simprocAttr]
  ·have hlk : ¬ (s.len.low + (((s.len.high + 1 - s.len.low).toNat : Nat) : Int) ≤ s.len.high) := by omega
   have zX := Qie w i
   have f5 : Qam (i + 1) := by unfold Qam; omega
   have h78 := Qal res
   have yM : Qa8 (((Qdc w i).map eLens).flatten ++ [V.sl 1 (res.map eI)]) = false := by rw [Qa2,Qcs]; rfl
   simp only [hlk,← hN,↓BU3,BL,simprocAttr]
   refine ⟨fun e => ?_,fun e => ?_⟩
   ·have he : res = [] := by simpa using e
    have hb : Qcu w = true := List.any_eq_true.2 ⟨i,Q1.2 hi,by rw [vN,he]; rfl⟩
    rw [hb] at hE
    simp [Qgg,hE]
   ·simp only [hpF,upB,Qae _ _ (Qaj _),Qaz,Zd,Qn,h78,vw_I,Qsj,zX,f5,i1,k8,Qk,Qm,Qx,Qp,eLens,Qf,Qe,Qa0 _ _ _ yM,Qa0 _ _ _ (Qcs _),BU2,simprocAttr]
    intro j hj
    by_cases xE : j < i
    ·exact hc j xE
    ·have : j = i := by omega
     subst this
     rw [vN]
     cases res with
     | nil => exact absurd rfl e
     | cons a l => rfl
 ·intro hc
  have hlt : ¬ ((w.spares.length : Int) < w.spares.length) := by omega
  have hb : Qcu w = false := by
   unfold Qcu
   rw [Xt]
   intro i hi
   rw [hc i (Q1.1 hi)]; simp
  rw [hb] at hE
  simp only [Qc,if_false] at hE
  have hl := Qie w w.spares.length
  have h1 := Qrt (Qdc w w.spares.length)
  rw [hl] at h1
  simp only [hlt,Qsj,hl,Zd,Qn,h1,Qzr,BL,simprocAttr]
  simp [Qgg,hE,Qbs]
def Qv8 : List V → Work | [a,b,c,d,_] => Qc0 [a,b,c,d] | _ => Qc0 []
def Qs2 (w : Work) : Qv8 (Qbs w) = w := Qc3 w
def K58 := K57.ext 57 (fnG eWB dWB (fun a => SmallW a.1) (fun a => Qgg a.1 a.2) (fun v => v))
def Zk6 : GOk TP K58 := Zk5.ext call57 (Qa7 fun a h => W80 a.1 a.2 h)
def h80 (w : Work) (is : Bool) : K58 57 [.ag (Qai w),.b is] = (SmallW w,Qgg w is) := (kx K58 57 (Zhv (w,is)) rfl :)
def Zct (w : Work) (i n m k : Int) := lft K58 (h118 w i n m k) rfl
def Zcu (a b : Int) : K58 89 [.i a,.i b] = (True,.i (Qk4 a b)) := rfl
def fitN (w : Work) (i m k : Int) : Int := Qk4 ((Qcx w i).countP fun n => Qcn w i n m k) (Qcx w i).length
def Qlw {w : Work} {i : Int} (h : OkI w i) : (Qcx w i).length ≤ 1000 := by
 have hS := Qfe (h.ok.spare _ (Qb (Qf2 h.sp)))
 have := Qof w i ((Qbn w i).len.high + 1 - (Qbn w i).len.low).toNat
 unfold Qcx; omega
def Qlx {w : Work} {i : Int} (h : 0 ≤ i ∧ i < w.spares.length) : (Qdc w w.spares.length)[i.toNat]? = some (Qcx w i) := by
 unfold Qdc
 rw [Xu,Zv (by omega)]
 simp only [Xc]
 congr 2; omega
def W83 (w : Work) (i m k : Int) (h : OkF w i m k) : Qa1 TP 59 [.pa (Qbs w),.i i,.i m,.i k] (.i (fitN w i m k)) := by
 refine pc Zk6 func59 cf59 ?_
 have hl := Qlw ⟨h.ok,h.sp⟩
 have hg := Qlx h.sp
 have k7 := h.sp
 have iG := Qie w w.spares.length
 have g := fun n => Zct w i n m k
 simp only [Qai] at g
 unfold fitN
 simp only [Qbs]
 generalize Qcx w i = L at *
 generalize Qdc w w.spares.length = LL at *
 simp only [rc59,rs59,hg,iG,k7,eLens,BU2,simprocAttr]
 refine Qaq L.length (fun j => ⟨lkp [(0,.pa [.sl 4 (w.spares.map eSpare),.sl 1 (w.makes.map eMake),.i w.cut,.sl 4 (w.table.map eTrial),.sl 1 (LL.map eLens)]),(1,.i i),(2,.i m),(3,.i k),(9,.i ((L.take j).countP fun n => Qcn w i n m k : Nat)),(18,.sl 1 (L.map eI)),(19,.i L.length),(20,.i j)],[]⟩) ?_ ?_ ?_
 ·simp only [Qg,Xd,BU2,simprocAttr]
 ·intro j hj
  obtain ⟨x,hx⟩ : ∃ x,L[j]? = some x := ⟨_,Qd hj⟩
  have hlt : (j : Int) < L.length := by omega
  have i1 : inI ((j : Int) + 1) := by unfold inI; omega
  have hc : (L.take j).countP (fun n => Qcn w i n m k) ≤ 1000 := by
   refine Zn List.countP_le_length ?_
   rw [Zg]; omega
  have i2 : inI ((((L.take j).countP fun n => Qcn w i n m k) : Nat) + 1 : Int) := by unfold inI; omega
  have hs := Qa4 hx
  cases e : Qcn w i x m k with
  | false =>
   simp only [hlt,hx,g,h,e,i1,hs,Xs,Zq,Xd,Qf,Qe,BL,simprocAttr]
  | true =>
   simp only [hlt,hx,g,h,e,i1,i2,hs,Xs,Zq,Xd,Qf,Qe,BL,simprocAttr]
 ·have hlt : ¬ ((L.length : Int) < L.length) := by omega
  simp only [hlt,hg,iG,k7,Zcu,eLens,Zb,BU2,simprocAttr]
def eQF (a : Work × Int × Int × Int) : List V := [.pa (Qbs a.1),.i a.2.1,.i a.2.2.1,.i a.2.2.2]
def dQF : List V → Work × Int × Int × Int | [.pa s,.i a,.i b,.i c] => (Qv8 s,a,b,c) | _ => (Qc0 [],0,0,0)
def Zpa (a : Work × Int × Int × Int) : dQF (eQF a) = a := by obtain ⟨w,n,m,k⟩ := a; simp [dQF,eQF,Qs2]
def K59 := K58.ext 59 (fnG eQF dQF (fun a => OkF a.1 a.2.1 a.2.2.1 a.2.2.2) (fun a => fitN a.1 a.2.1 a.2.2.1 a.2.2.2) (.i))
def Zew : GOk TP K59 := Zk6.ext call59 (Qa7 fun a h => W83 a.1 a.2.1 a.2.2.1 a.2.2.2 h)
def h83 (w : Work) (i m k : Int) : K59 59 [.pa (Qbs w),.i i,.i m,.i k] = (OkF w i m k,.i (fitN w i m k)) := (kx K59 59 (Zpa (w,i,m,k)) rfl :)
def Qzu (w : Work) (n : Int) := lft K59 (h81 w n) rfl
def Zfw (w : Work) (m k : Int) := lft K59 (h82 w m k) rfl
def Qzt (w : Work) (is : Bool) := lft K59 (h80 w is) rfl
def isSp (w : Work) (i : Int) : Bool := Qa3 i 0 (w.spares.length - 1)
def Qlv (w : Work) (i : Int) : V := if Qb5 w (isSp w i) = 0 then .tp [.ag [.i ((Qcx w i).headD 0),.i ((Qcx w i).getD ((Qcx w i).length - 1) 0)],.i 0] else .tp [.ag [.i 0,.i 0],.i (Qb5 w (isSp w i))]
def Qtt (w : Work) (i m k : Int) : V := if Qb5 w (isSp w i && Qay w m k) = 0 then .tp [.i (fitN w i m k),.i 0] else .tp [.i 0,.i (Qb5 w (isSp w i && Qay w m k))]
def Qdw {w : Work} {is : Bool} (h : Qb5 w is = 0) : OkW w ∧ is = true ∧ Qcu w = false := by
 unfold Qb5 at h
 split at h
 ·rename_i h1; exact absurd h h1
 ·rename_i h1
  have h1 : Qco w = 0 := by omega
  cases is with
  | false => simp at h
  | true =>
   refine ⟨Qnn (Qjw h1),rfl,?_⟩
   cases hb : Qcu w with
   | false => rfl
   | true => simp [hb] at h
def Zeg {w : Work} (hb : Qcu w = false) {i : Int} (h : 0 ≤ i ∧ i < w.spares.length) : Qcx w i ≠ [] := by
 intro e
 unfold Qcu at hb
 rw [Xt] at hb
 have := hb i.toNat (Q1.2 (by omega))
 rw [show ((i.toNat : Nat) : Int) = i by omega,e] at this
 exact this rfl
def W60 (w : Work) (i m k : Int) (hw : SmallW w) : Qa1 TP 43 [.ag (Qai w),.i i,.i m,.i k] (Qtt w i m k) := by
 refine pc Zew func43 cf43 ?_
 have g1 := Qzu w i
 have g2 := Zfw w m k
 have g3 := Qzt w (isSp w i && Qay w m k)
 have g4 := h83 w i m k
 simp only [Qai] at g1 g2 g3
 have hsl := hw.spares
 have wN : (Qa3 i 0 (w.spares.length - 1)) = isSp w i := rfl
 unfold Qtt
 unfold Qgg at g3
 by_cases e : Qb5 w (isSp w i && Qay w m k) = 0
 ·rw [if_pos e] at g3 ⊢
  obtain ⟨h1,h2,h3⟩ := Qdw e
  rw [Qo] at h2
  obtain ⟨h4,h5⟩ := h2
  have hF : OkF w i m k := ⟨h1,by have := Qak.1 h4; omega,h5⟩
  rw [h4,h5] at g3
  rw [wN,h4] at g1
  rw [h5] at g2
  simp only [Zf] at g3
  simp only [Qbs] at g3 g4
  simp only [rc43,rs43,g1,g2,g3,g4,hsl,hw,hF,BL,simprocAttr]
 ·rw [if_neg e] at g3 ⊢
  generalize Qb5 w (isSp w i && Qay w m k) = E at *
  rw [wN] at g1
  cases a1 : isSp w i <;> cases a2 : Qay w m k <;> rw [a1] at g1 g3 <;> rw [a2] at g2 g3 <;> simp only [Zf,Bool.and_false,Zx] at g3 <;> simp only [rc43,rs43,g1,g2,g3,hsl,hw,e,BL,simprocAttr]
def W59 (w : Work) (i : Int) (hw : SmallW w) : Qa1 TP 42 [.ag (Qai w),.i i] (Qlv w i) := by
 refine pc Zew func42 cf42 ?_
 have g1 := Qzu w i
 have g3 := Qzt w (isSp w i)
 simp only [Qai] at g1 g3
 have hsl := hw.spares
 have wN : (Qa3 i 0 (w.spares.length - 1)) = isSp w i := rfl
 unfold Qlv
 unfold Qgg at g3
 rw [wN] at g1
 by_cases e : Qb5 w (isSp w i) = 0
 ·rw [if_pos e] at g3 ⊢
  obtain ⟨h1,h2,h3⟩ := Qdw e
  have hi : 0 ≤ i ∧ i < w.spares.length := by have := Qak.1 h2; omega
  have j7 := Zeg h3 hi
  have hl := Qlw ⟨h1,hi⟩
  have hg := Qlx hi
  have iG := Qie w w.spares.length
  rw [h2] at g1 g3
  simp only [Qbs] at g3
  generalize Qcx w i = L at *
  generalize Qdc w w.spares.length = LL at *
  have hp : 0 < L.length := List.length_pos_iff.2 j7
  obtain ⟨x,hx⟩ : ∃ x,L[0]? = some x := ⟨_,Qd hp⟩
  obtain ⟨y,hy⟩ : ∃ y,L[L.length - 1]? = some y := ⟨_,Qd (by omega)⟩
  have i1 : inI ((L.length : Int) - 1) := by unfold inI; omega
  have i2 : (0 : Int) < L.length := by omega
  have i3 : 0 ≤ (L.length : Int) - 1 ∧ (L.length : Int) - 1 < L.length := by omega
  have i4 : ((L.length : Int) - 1).toNat = L.length - 1 := by omega
  have hh : L.headD 0 = x := by cases L with
   | nil => simp at hx
   | cons a l => simpa using hx
  rw [hh]
  simp only [rc42,rs42,g1,g3,hsl,hw,hg,iG,hi,eLens,hx,hy,i1,i2,i3,i4,BL,simprocAttr]
 ·rw [if_neg e] at g3 ⊢
  generalize Qb5 w (isSp w i) = E at *
  cases a1 : isSp w i <;> rw [a1] at g1 g3 <;> simp only [rc42,rs42,g1,g3,hsl,hw,e,BL,simprocAttr]
def eWF4 (a : Work × Int × Int × Int) : List V := [.ag (Qai a.1),.i a.2.1,.i a.2.2.1,.i a.2.2.2]
def dWF4 : List V → Work × Int × Int × Int | [.ag s,.i a,.i b,.i c] => (Qc0 s,a,b,c) | _ => (Qc0 [],0,0,0)
def Zhx (a : Work × Int × Int × Int) : dWF4 (eWF4 a) = a := by obtain ⟨w,n,m,k⟩ := a; simp [dWF4,eWF4,Qc3]
def K60 := K59.ext 43 (fnG eWF4 dWF4 (fun a => SmallW a.1) (fun a => Qtt a.1 a.2.1 a.2.2.1 a.2.2.2) (fun v => v))
def Zpy : GOk TP K60 := Zew.ext call43 (Qa7 fun a h => W60 a.1 a.2.1 a.2.2.1 a.2.2.2 h)
def h60 (w : Work) (i m k : Int) : K60 43 [.ag (Qai w),.i i,.i m,.i k] = (SmallW w,Qtt w i m k) := (kx K60 43 (Zhx (w,i,m,k)) rfl :)
def K61 := K60.ext 42 (fnG eWI dWI (fun a => SmallW a.1) (fun a => Qlv a.1 a.2) (fun v => v))
def Zpz : GOk TP K61 := Zpy.ext call42 (Qa7 fun a h => W59 a.1 a.2 h)
def h59 (w : Work) (i : Int) : K61 42 [.ag (Qai w),.i i] = (SmallW w,Qlv w i) := (kx K61 42 (Qva (w,i)) rfl :)
def dI_e (x : Int) : dI (eI x) = x := Qas x
def eU (_ : Unit) : List V := []
def dU (_ : List V) : Unit := ()
def dU_e (a : Unit) : dU (eU a) = a := rfl
def eWp (w : Work) : List V := [.pa (Qai w)]
def dWp : List V → Work | [.pa w] => Qc0 w | _ => Qc0 []
def Zi2 (w : Work) : dWp (eWp w) = w := Qc3 w
def badN (_ : Unit) (n : Int) : Bool := !Qa3 n 0 10
def badP (w : Work) (p : Piece) : Bool := !Qc7 ⟨w,[],[],[],[],0⟩ p
def badX (_ : Unit) (x : Wish) : Bool := !okWish x
def badD (w : Work) (d : Del) : Bool := !Qge ⟨w,[],[],[],[],0⟩ d
def CN (_ : Unit) (_ : Int) : Prop := True
def CP (w : Work) (p : Piece) : Prop := SmallW w ∧ p.broken.length ≤ 1000000
def CX (_ : Unit) (_ : Wish) : Prop := True
def CD (w : Work) (_ : Del) : Prop := w.spares.length ≤ 1000000
def eN1 (n : Int) : List V := [.i n]
def dN1 : List V → Int | [.i n] => n | _ => 0
def Zp4 (n : Int) : dN1 (eN1 n) = n := rfl
def eWPc (a : Work × Piece) : List V := [.ag (ePiece a.2),.pa (Qai a.1)]
def dWPc : List V → Work × Piece | [.ag p,.pa w] => (Qc0 w,Qep p) | _ => (Qc0 [],Qep [])
def Zi0 (a : Work × Piece) : dWPc (eWPc a) = a := by obtain ⟨w,p⟩ := a; simp [dWPc,eWPc,Qc3,Qf7]
def eWDc (a : Work × Del) : List V := [.ag (eDel a.2),.pa (Qai a.1)]
def dWDc : List V → Work × Del | [.ag p,.pa w] => (Qc0 w,dDel p) | _ => (Qc0 [],dDel [])
def Zhw (a : Work × Del) : dWDc (eWDc a) = a := by obtain ⟨w,p⟩ := a; simp [dWDc,eWDc,Qc3,Qv7]
def Zme (n : Int) : Qa1 TP 115 [.i n] (.b (badN () n)) := W112 n
def Zmb (w : Work) (p : Piece) (h : CP w p) : Qa1 TP 108 [.ag (ePiece p),.pa (Qai w)] (.b (badP w p)) := W105 ⟨w,[],[],[],[],0⟩ p h
def Zmc (x : Wish) : Qa1 TP 112 [.ag (eWish x)] (.b (badX () x)) := W109 x
def Zmd (w : Work) (d : Del) (h : CD w d) : Qa1 TP 114 [.ag (eDel d),.pa (Qai w)] (.b (badD w d)) := W111 ⟨w,[],[],[],[],0⟩ d h
def K62 := K61.ext 115 (fnG eN1 dN1 (fun _ => True) (badN ()) (.b))
def Zq0 : GOk TP K62 := Zpz.ext call115 (Qa7 fun a h => Zme a)
def h112 (a : Unit) (n : Int) : K62 115 [.i n] = (CN a n,.b (badN a n)) := (kx K62 115 (Zp4 n) rfl :)
def K63 := K62.ext 108 (fnG eWPc dWPc (fun a => CP a.1 a.2) (fun a => badP a.1 a.2) (.b))
def Zq1 : GOk TP K63 := Zq0.ext call108 (Qa7 fun a h => Zmb a.1 a.2 h)
def h105 (w : Work) (p : Piece) : K63 108 [.ag (ePiece p),.pa (Qai w)] = (CP w p,.b (badP w p)) := (kx K63 108 (Zi0 (w,p)) rfl :)
def K64 := K63.ext 112 (fnG eX1 dX1 (fun _ => True) (badX ()) (.b))
def Zq2 : GOk TP K64 := Zq1.ext call112 (Qa7 fun a h => Zmc a)
def h109 (a : Unit) (x : Wish) : K64 112 [.ag (eWish x)] = (CX a x,.b (badX a x)) := (kx K64 112 (Zi3 x) rfl :)
def K65 := K64.ext 114 (fnG eWDc dWDc (fun a => CD a.1 a.2) (fun a => badD a.1 a.2) (.b))
def Zk7 : GOk TP K65 := Zq2.ext call114 (Qa7 fun a h => Zmd a.1 a.2 h)
def h111 (w : Work) (d : Del) : K65 114 [.ag (eDel d),.pa (Qai w)] = (CD w d,.b (badD w d)) := (kx K65 114 (Zhw (w,d)) rfl :)
def Zcv (a : Unit) (n : Int) := lft K65 (h112 a n) rfl
def R143 (hG : GOk TP Γ) (l : List Int) (f : Nat) (hf : f < 1000000) (caps : List V) (p : Int → Bool) (C : Int → Prop) (hC : ∀ x ∈ l,C x) (hv : caps.map (vw [] 8) = caps) (hr : Qa8 caps = false) (hl : l.length < 10000000)
  (h : ∀ x ∈ l,Γ f (V.i x :: caps) = (C x,.b (p x))) : Qa1 TP 122 [.sl 1 (l.map eI),.fn f caps] (.i (idxOf p l)) := by
 refine pc hG func122 Zdd ?_
 simp only [rc122,rs122,BU2,simprocAttr]
 refine Qao l.length (fun i => ⟨lkp [(0,.sl 1 (l.map eI)),(1,.fn f caps),(7,.i l.length),(8,.i i)],[]⟩) (fun i => ∀ j x,j < i → l[j]? = some x → p x = false) ?_ ?_ ?_ ?_
 ·simp only [Qg,BU2,simprocAttr]
 ·intro j x h; omega
 ·intro i hi hc
  obtain ⟨x,hx⟩ : ∃ x,l[i]? = some x := ⟨_,Qd hi⟩
  have hlt : (i : Int) < l.length := by omega
  have h3 : inI ((i : Int) + 1) := by unfold inI; omega
  have hp := h x (Qb hx)
  have hCx := hC x (Qb hx)
  try simp only [eI,eMake] at hp
  simp only [hx,hlt,Qf,Qe,h3,hp,hv,hr,hf,hCx,BL,simprocAttr]
  refine ⟨fun e => ?_,fun e => ?_⟩
  ·rw [Qah hx e hc]
  ·exact Qbd hx e hc
 ·intro hc
  simp only [BU2,simprocAttr]
  exact (Qaa fun x hx => by
   obtain ⟨j,hj⟩ := Ze hx
   exact hc j x (by have := Qag hj; exact this) hj).symm
def e2Ns (a : Unit × List Int) : List V := [.sl 1 (a.2.map eI),.fn 115 (eU a.1)]
def d2Ns : List V → Unit × List Int | [.sl _ l,.fn _ c] => (dU c,l.map dI) | _ => (dU [],[])
def Za4 (a : Unit × List Int) : d2Ns (e2Ns a) = a := by obtain ⟨a,l⟩ := a; simp [d2Ns,e2Ns,dU_e,dI_e,Function.comp_def]
def C2Ns (a : Unit × List Int) : Prop := a.2.length < 10000000 ∧ ∀ x ∈ a.2,CN a.1 x
def vwNs (a : Unit) : ((eU a) : List V).map (vw [] 8) = (eU a) := by
 unfold eU
 simp only [Qv]
def rfNs (a : Unit) : Qa8 ((eU a) : List V) = false := rfl
def K66 := K65.ext 122 (fnG e2Ns d2Ns (C2Ns) (fun a => idxOf (badN a.1) a.2) (.i))
def Zk8 : GOk TP K66 := Zk7.ext call122 (Qa7 fun a h => R143 Zk7 a.2 115 (by decide) (eU a.1) (badN a.1) (CN a.1) h.2 (vwNs a.1) (rfNs a.1) h.1 fun x _ => Zcv a.1 x)
def Zim (a : Unit) (l : List Int) : K66 122 [.sl 1 (l.map eI),.fn 115 (eU a)] = (C2Ns (a,l),.i (idxOf (badN a) l)) := (kx K66 122 (Za4 (a,l)) rfl :)
def Zgm (a : Unit) (l : List Int) (h : C2Ns (a,l)) : Qa1 TP 82 [.sl 1 (l.map eI),.fn 115 (eU a)] (.b (l.any (badN a))) := by
 refine pc Zk8 func82 cf82 ?_
 have g := Zim a l
 have q := Qab (badN a) l
 generalize idxOf (badN a) l = r at *
 generalize l.any (badN a) = r2 at *
 try simp only [eU] at g
 simp only [rc82,rs82,eU,g,h,q,BU2,simprocAttr]
def K67 := K66.ext 82 (fnG e2Ns d2Ns (C2Ns) (fun a => a.2.any (badN a.1)) (.b))
def Zk9 : GOk TP K67 := Zk8.ext call82 (Qa7 fun a h => Zgm a.1 a.2 h)
def Zie (a : Unit) (l : List Int) : K67 82 [.sl 1 (l.map eI),.fn 115 (eU a)] = (C2Ns (a,l),.b (l.any (badN a))) := (kx K67 82 (Za4 (a,l)) rfl :)
def Zcw (w : Work) (p : Piece) := lft K67 (h105 w p) rfl
def R144 (hG : GOk TP Γ) (l : List Piece) (f : Nat) (hf : f < 1000000) (caps : List V) (p : Piece → Bool) (C : Piece → Prop) (hC : ∀ x ∈ l,C x) (hv : caps.map (vw [] 8) = caps) (hr : Qa8 caps = false) (hl : l.length < 10000000)
  (h : ∀ x ∈ l,Γ f (V.ag (ePiece x) :: caps) = (C x,.b (p x))) : Qa1 TP 145 [.sl 5 (l.map ePiece),.fn f caps] (.i (idxOf p l)) := by
 refine pc hG func145 Znp ?_
 simp only [rc145,rs145,BU2,simprocAttr]
 refine Qao l.length (fun i => ⟨lkp [(0,.sl 5 (l.map ePiece)),(1,.fn f caps),(7,.i l.length),(8,.i i)],[]⟩) (fun i => ∀ j x,j < i → l[j]? = some x → p x = false) ?_ ?_ ?_ ?_
 ·simp only [Qg,BU2,simprocAttr]
 ·intro j x h; omega
 ·intro i hi hc
  obtain ⟨x,hx⟩ : ∃ x,l[i]? = some x := ⟨_,Qd hi⟩
  have hlt : (i : Int) < l.length := by omega
  have h3 : inI ((i : Int) + 1) := by unfold inI; omega
  have hp := h x (Qb hx)
  have hCx := hC x (Qb hx)
  try simp only [ePiece] at hp
  simp only [hx,hlt,Qf,Qe,h3,hp,hv,hr,hf,hCx,BL,simprocAttr]
  refine ⟨fun e => ?_,fun e => ?_⟩
  ·rw [Qah hx e hc]
  ·exact Qbd hx e hc
 ·intro hc
  simp only [BU2,simprocAttr]
  exact (Qaa fun x hx => by
   obtain ⟨j,hj⟩ := Ze hx
   exact hc j x (by have := Qag hj; exact this) hj).symm
def e2Ps (a : Work × List Piece) : List V := [.sl 5 (a.2.map ePiece),.fn 108 (eWp a.1)]
def d2Ps : List V → Work × List Piece | [.sl _ l,.fn _ c] => (dWp c,l.map Qep) | _ => (dWp [],[])
def Za5 (a : Work × List Piece) : d2Ps (e2Ps a) = a := by obtain ⟨a,l⟩ := a; simp [d2Ps,e2Ps,Zi2,Qf7,Function.comp_def]
def C2Ps (a : Work × List Piece) : Prop := a.2.length < 10000000 ∧ ∀ x ∈ a.2,CP a.1 x
def vwPs (a : Work) : ((eWp a) : List V).map (vw [] 8) = (eWp a) := by
 unfold eWp
 simp only [Qw,Qv,Qul,Qai]
def rfPs (a : Work) : Qa8 ((eWp a) : List V) = false := rfl
def K68 := K67.ext 145 (fnG e2Ps d2Ps (C2Ps) (fun a => idxOf (badP a.1) a.2) (.i))
def Zka : GOk TP K68 := Zk9.ext call145 (Qa7 fun a h => R144 Zk9 a.2 108 (by decide) (eWp a.1) (badP a.1) (CP a.1) h.2 (vwPs a.1) (rfPs a.1) h.1 fun x _ => Zcw a.1 x)
def Zin (a : Work) (l : List Piece) : K68 145 [.sl 5 (l.map ePiece),.fn 108 (eWp a)] = (C2Ps (a,l),.i (idxOf (badP a) l)) := (kx K68 145 (Za5 (a,l)) rfl :)
def Zgn (a : Work) (l : List Piece) (h : C2Ps (a,l)) : Qa1 TP 116 [.sl 5 (l.map ePiece),.fn 108 (eWp a)] (.b (l.any (badP a))) := by
 refine pc Zka func116 Zn5 ?_
 have g := Zin a l
 have q := Qab (badP a) l
 generalize idxOf (badP a) l = r at *
 generalize l.any (badP a) = r2 at *
 try simp only [eWp,Qai] at g
 simp only [rc116,rs116,eWp,g,h,q,BL,simprocAttr]
def K69 := K68.ext 116 (fnG e2Ps d2Ps (C2Ps) (fun a => a.2.any (badP a.1)) (.b))
def Zkb : GOk TP K69 := Zka.ext call116 (Qa7 fun a h => Zgn a.1 a.2 h)
def Zif (a : Work) (l : List Piece) : K69 116 [.sl 5 (l.map ePiece),.fn 108 (eWp a)] = (C2Ps (a,l),.b (l.any (badP a))) := (kx K69 116 (Za5 (a,l)) rfl :)
def Zcx (a : Unit) (x : Wish) := lft K69 (h109 a x) rfl
def R145 (hG : GOk TP Γ) (l : List Wish) (f : Nat) (hf : f < 1000000) (caps : List V) (p : Wish → Bool) (C : Wish → Prop) (hC : ∀ x ∈ l,C x) (hv : caps.map (vw [] 8) = caps) (hr : Qa8 caps = false) (hl : l.length < 10000000)
  (h : ∀ x ∈ l,Γ f (V.ag (eWish x) :: caps) = (C x,.b (p x))) : Qa1 TP 146 [.sl 6 (l.map eWish),.fn f caps] (.i (idxOf p l)) := by
 refine pc hG func146 Znq ?_
 simp only [rc146,rs146,BU2,simprocAttr]
 refine Qao l.length (fun i => ⟨lkp [(0,.sl 6 (l.map eWish)),(1,.fn f caps),(7,.i l.length),(8,.i i)],[]⟩) (fun i => ∀ j x,j < i → l[j]? = some x → p x = false) ?_ ?_ ?_ ?_
 ·simp only [Qg,BU2,simprocAttr]
 ·intro j x h; omega
 ·intro i hi hc
  obtain ⟨x,hx⟩ : ∃ x,l[i]? = some x := ⟨_,Qd hi⟩
  have hlt : (i : Int) < l.length := by omega
  have h3 : inI ((i : Int) + 1) := by unfold inI; omega
  have hp := h x (Qb hx)
  have hCx := hC x (Qb hx)
  try simp only [eWish] at hp
  simp only [hx,hlt,Qf,Qe,h3,hp,hv,hr,hf,hCx,BL,simprocAttr]
  refine ⟨fun e => ?_,fun e => ?_⟩
  ·rw [Qah hx e hc]
  ·exact Qbd hx e hc
 ·intro hc
  simp only [BU2,simprocAttr]
  exact (Qaa fun x hx => by
   obtain ⟨j,hj⟩ := Ze hx
   exact hc j x (by have := Qag hj; exact this) hj).symm
def e2Xs (a : Unit × List Wish) : List V := [.sl 6 (a.2.map eWish),.fn 112 (eU a.1)]
def d2Xs : List V → Unit × List Wish | [.sl _ l,.fn _ c] => (dU c,l.map Qpa) | _ => (dU [],[])
def Zaa (a : Unit × List Wish) : d2Xs (e2Xs a) = a := by obtain ⟨a,l⟩ := a; simp [d2Xs,e2Xs,dU_e,Qo1,Function.comp_def]
def C2Xs (a : Unit × List Wish) : Prop := a.2.length < 10000000 ∧ ∀ x ∈ a.2,CX a.1 x
def vwXs (a : Unit) : ((eU a) : List V).map (vw [] 8) = (eU a) := by
 unfold eU
 simp only [Qv]
def rfXs (a : Unit) : Qa8 ((eU a) : List V) = false := rfl
def K70 := K69.ext 146 (fnG e2Xs d2Xs (C2Xs) (fun a => idxOf (badX a.1) a.2) (.i))
def Zkc : GOk TP K70 := Zkb.ext call146 (Qa7 fun a h => R145 Zkb a.2 112 (by decide) (eU a.1) (badX a.1) (CX a.1) h.2 (vwXs a.1) (rfXs a.1) h.1 fun x _ => Zcx a.1 x)
def Zio (a : Unit) (l : List Wish) : K70 146 [.sl 6 (l.map eWish),.fn 112 (eU a)] = (C2Xs (a,l),.i (idxOf (badX a) l)) := (kx K70 146 (Zaa (a,l)) rfl :)
def Zgo (a : Unit) (l : List Wish) (h : C2Xs (a,l)) : Qa1 TP 117 [.sl 6 (l.map eWish),.fn 112 (eU a)] (.b (l.any (badX a))) := by
 refine pc Zkc func117 Zn6 ?_
 have g := Zio a l
 have q := Qab (badX a) l
 generalize idxOf (badX a) l = r at *
 generalize l.any (badX a) = r2 at *
 try simp only [eU] at g
 simp only [rc117,rs117,eU,g,h,q,BU2,simprocAttr]
def K71 := K70.ext 117 (fnG e2Xs d2Xs (C2Xs) (fun a => a.2.any (badX a.1)) (.b))
def Zkd : GOk TP K71 := Zkc.ext call117 (Qa7 fun a h => Zgo a.1 a.2 h)
def Zig (a : Unit) (l : List Wish) : K71 117 [.sl 6 (l.map eWish),.fn 112 (eU a)] = (C2Xs (a,l),.b (l.any (badX a))) := (kx K71 117 (Zaa (a,l)) rfl :)
def Zcy (w : Work) (d : Del) := lft K71 (h111 w d) rfl
def R146 (hG : GOk TP Γ) (l : List Del) (f : Nat) (hf : f < 1000000) (caps : List V) (p : Del → Bool) (C : Del → Prop) (hC : ∀ x ∈ l,C x) (hv : caps.map (vw [] 8) = caps) (hr : Qa8 caps = false) (hl : l.length < 10000000)
  (h : ∀ x ∈ l,Γ f (V.ag (eDel x) :: caps) = (C x,.b (p x))) : Qa1 TP 147 [.sl 3 (l.map eDel),.fn f caps] (.i (idxOf p l)) := by
 refine pc hG func147 Znr ?_
 simp only [rc147,rs147,BU2,simprocAttr]
 refine Qao l.length (fun i => ⟨lkp [(0,.sl 3 (l.map eDel)),(1,.fn f caps),(7,.i l.length),(8,.i i)],[]⟩) (fun i => ∀ j x,j < i → l[j]? = some x → p x = false) ?_ ?_ ?_ ?_
 ·simp only [Qg,BU2,simprocAttr]
 ·intro j x h; omega
 ·intro i hi hc
  obtain ⟨x,hx⟩ : ∃ x,l[i]? = some x := ⟨_,Qd hi⟩
  have hlt : (i : Int) < l.length := by omega
  have h3 : inI ((i : Int) + 1) := by unfold inI; omega
  have hp := h x (Qb hx)
  have hCx := hC x (Qb hx)
  try simp only [eDel] at hp
  simp only [hx,hlt,Qf,Qe,h3,hp,hv,hr,hf,hCx,BL,simprocAttr]
  refine ⟨fun e => ?_,fun e => ?_⟩
  ·rw [Qah hx e hc]
  ·exact Qbd hx e hc
 ·intro hc
  simp only [BU2,simprocAttr]
  exact (Qaa fun x hx => by
   obtain ⟨j,hj⟩ := Ze hx
   exact hc j x (by have := Qag hj; exact this) hj).symm
def e2Ds (a : Work × List Del) : List V := [.sl 3 (a.2.map eDel),.fn 114 (eWp a.1)]
def d2Ds : List V → Work × List Del | [.sl _ l,.fn _ c] => (dWp c,l.map dDel) | _ => (dWp [],[])
def Za2 (a : Work × List Del) : d2Ds (e2Ds a) = a := by obtain ⟨a,l⟩ := a; simp [d2Ds,e2Ds,Zi2,Qv7,Function.comp_def]
def C2Ds (a : Work × List Del) : Prop := a.2.length < 10000000 ∧ ∀ x ∈ a.2,CD a.1 x
def vwDs (a : Work) : ((eWp a) : List V).map (vw [] 8) = (eWp a) := by
 unfold eWp
 simp only [Qw,Qv,Qul,Qai]
def rfDs (a : Work) : Qa8 ((eWp a) : List V) = false := rfl
def K72 := K71.ext 147 (fnG e2Ds d2Ds (C2Ds) (fun a => idxOf (badD a.1) a.2) (.i))
def Zke : GOk TP K72 := Zkd.ext call147 (Qa7 fun a h => R146 Zkd a.2 114 (by decide) (eWp a.1) (badD a.1) (CD a.1) h.2 (vwDs a.1) (rfDs a.1) h.1 fun x _ => Zcy a.1 x)
def Zip (a : Work) (l : List Del) : K72 147 [.sl 3 (l.map eDel),.fn 114 (eWp a)] = (C2Ds (a,l),.i (idxOf (badD a) l)) := (kx K72 147 (Za2 (a,l)) rfl :)
def Zgp (a : Work) (l : List Del) (h : C2Ds (a,l)) : Qa1 TP 118 [.sl 3 (l.map eDel),.fn 114 (eWp a)] (.b (l.any (badD a))) := by
 refine pc Zke func118 Zn7 ?_
 have g := Zip a l
 have q := Qab (badD a) l
 generalize idxOf (badD a) l = r at *
 generalize l.any (badD a) = r2 at *
 try simp only [eWp,Qai] at g
 simp only [rc118,rs118,eWp,g,h,q,BL,simprocAttr]
def K73 := K72.ext 118 (fnG e2Ds d2Ds (C2Ds) (fun a => a.2.any (badD a.1)) (.b))
def Zkf : GOk TP K73 := Zke.ext call118 (Qa7 fun a h => Zgp a.1 a.2 h)
def Zih (a : Work) (l : List Del) : K73 118 [.sl 3 (l.map eDel),.fn 114 (eWp a)] = (C2Ds (a,l),.b (l.any (badD a))) := (kx K73 118 (Za2 (a,l)) rfl :)
def Zd0 (a : Unit) (l : List Int) := lft K73 (Zie a l) rfl
def Zd1 (a : Work) (l : List Piece) := lft K73 (Zif a l) rfl
def Zd2 (a : Unit) (l : List Wish) := lft K73 (Zig a l) rfl
def Zcz (n : Int) := lft K73 (h110 n) rfl
def Qnv {α : Type} {l : List α} {p q : α → Bool} (h : ∀ x,q x = !p x) : l.any q = !l.all p := by
 have : q = fun x => !p x := funext h
 rw [this,List.not_all_eq_any_not]
def W79 (s : Shop) (hs : SmallS s) : Qa1 TP 76 [.ag (Qat s)] (.b (Qex s)) := by
 refine pc Zkf func76 cf76 ?_
 have hR : Qex s = (decide (s.stock.length = s.work.spares.length) && decide ((s.pieces.length : Int) ≤ 8) && decide ((s.wishes.length : Int) ≤ 6) && decide ((s.dels.length : Int) ≤ 8) && Qa3 s.carve 0 99 && (s.stock.all fun n => Qa3 n 0 10) && s.pieces.all (Qc7 s) && s.wishes.all okWish && s.dels.all (Qge s)) := rfl
 have g1 := Zd0 () s.stock
 have g2 := Zd1 s.work s.pieces
 have g3 := Zd2 () s.wishes
 have g4 := Zih s.work s.dels
 have q1 : s.stock.any (badN ()) = !(s.stock.all fun n => Qa3 n 0 10) := Qnv fun _ => rfl
 have q2 : s.pieces.any (badP s.work) = !s.pieces.all (Qc7 s) := Qnv fun _ => rfl
 have q3 : s.wishes.any (badX ()) = !s.wishes.all okWish := Qnv fun _ => rfl
 have q4 : s.dels.any (badD s.work) = !s.dels.all (Qge s) := Qnv fun _ => rfl
 rw [q1] at g1; rw [q2] at g2; rw [q3] at g3; rw [q4] at g4
 simp only [eU,eWp,Qai] at g1 g2 g3 g4
 have hw := hs.work
 generalize Qex s = res at *
 by_cases a1 : s.stock.length = s.work.spares.length
 rotate_left
 ·have n1 : ¬ (s.stock.length : Int) = s.work.spares.length := by omega
  simp only [rc76,rs76,n1,BL,simprocAttr]; simp [hR,a1]
 have b1 : (s.stock.length : Int) = s.work.spares.length := by omega
 have c1 : C2Ns ((),s.stock) := ⟨by have := hw.spares; show s.stock.length < 10000000; omega,fun _ _ => trivial⟩
 cases d1 : (s.stock.all fun n => Qa3 n 0 10) with
 | false => rw [d1] at g1; simp only [rc76,rs76,b1,g1,c1,BL,simprocAttr]; simp [hR,d1]
 | true =>
 rw [d1] at g1
 by_cases a2 : (s.pieces.length : Int) ≤ 8
 rotate_left
 ·simp only [rc76,rs76,b1,g1,c1,a2,BL,simprocAttr]; simp [hR,a2]
 have c2 : C2Ps (s.work,s.pieces) := ⟨by show s.pieces.length < 10000000; omega,fun p hp => ⟨hw,hs.broken p hp⟩⟩
 cases d2 : s.pieces.all (Qc7 s) with
 | false => rw [d2] at g2; simp only [rc76,rs76,b1,g1,c1,a2,g2,c2,BL,simprocAttr]; simp [hR,d2]
 | true =>
 rw [d2] at g2
 by_cases a3 : (s.wishes.length : Int) ≤ 6
 rotate_left
 ·simp only [rc76,rs76,b1,g1,c1,a2,g2,c2,a3,BL,simprocAttr]; simp [hR,a3]
 have c3 : C2Xs ((),s.wishes) := ⟨by show s.wishes.length < 10000000; omega,fun _ _ => trivial⟩
 cases d3 : s.wishes.all okWish with
 | false => rw [d3] at g3; simp only [rc76,rs76,b1,g1,c1,a2,g2,c2,a3,g3,c3,BL,simprocAttr]; simp [hR,d3]
 | true =>
 rw [d3] at g3
 by_cases a4 : (s.dels.length : Int) ≤ 8
 rotate_left
 ·simp only [rc76,rs76,b1,g1,c1,a2,g2,c2,a3,g3,c3,a4,BL,simprocAttr]; simp [hR,a4]
 have c4 : C2Ds (s.work,s.dels) := ⟨by show s.dels.length < 10000000; omega,fun d hd => hw.spares⟩
 cases d4 : s.dels.all (Qge s) with
 | false => rw [d4] at g4; simp only [rc76,rs76,b1,g1,c1,a2,g2,c2,a3,g3,c3,a4,g4,c4,BL,simprocAttr]; simp [hR,d4]
 | true =>
 rw [d4] at g4
 simp only [rc76,rs76,b1,g1,c1,a2,g2,c2,a3,g3,c3,a4,g4,c4,Zcz,BL,simprocAttr]
 simp [hR,d1,d2,d3,d4,a1,a2,a3,a4]
def K74 := K73.ext 76 (fnG eH1 dH1 SmallS Qex .b)
def Zkg : GOk TP K74 := Zkf.ext call76 (Qa7 fun a h => W79 a h)
def h79 (s : Shop) : K74 76 [.ag (Qat s)] = (SmallS s,.b (Qex s)) := (kx K74 76 (Qqr s) rfl :)
def Zfy (w : Work) := lft K74 (h78 w) rfl
def W58 (s : Shop) (hs : SmallS s) : Qa1 TP 41 [.ag (Qat s)] (.i (Qcl s)) := by
 refine pc Zkg func41 cf41 ?_
 have g1 := Zfy s.work
 have g2 := h79 s
 simp only [Qai,Qat] at g1 g2
 have hw := hs.work
 unfold Qcl
 by_cases h0 : Qco s.work = 0
 ·cases h1 : Qex s with
  | false => simp only [rc41,rs41,g1,g2,hs,hw,h0,h1,BL,simprocAttr]
  | true => simp only [rc41,rs41,g1,g2,hs,hw,h0,h1,BL,simprocAttr]
 ·simp only [rc41,rs41,g1,hw,h0,BL,simprocAttr]
def vw_w (hp : List Blk) (n : Nat) (k : IntKind) (a : Int) : vw hp (n + 1) (.w k a) = .w k a := rfl
def Qrh {α : Type} (m n : Nat) (a : α) : Qa (m + n) a = Qa m a ++ Qa n a := List.replicate_append_replicate.symm
def sMul : List V → Prop × V | [.w .u64 a,.w .u64 b] => ((0 ≤ a ∧ a ≤ 2147483648) ∧ 0 ≤ b ∧ b ≤ 2147483648,.tp [.w .u64 0,.w .u64 (a * b)]) | _ => (False,.u)
def Zfg (vs : List V) (h : (sMul vs).1) : Qa1 TP 78 vs (sMul vs).2 := by
 unfold sMul at h ⊢
 split at h
 ·rename_i a b
  obtain ⟨⟨h1,h2⟩,h3,h4⟩ := h
  obtain ⟨x,rfl⟩ : ∃ x : Nat,a = x := ⟨a.toNat,by omega⟩
  obtain ⟨y,rfl⟩ : ∃ y : Nat,b = y := ⟨b.toNat,by omega⟩
  have wX : x * y ≤ 2147483648 * 2147483648 := Nat.mul_le_mul (by omega) (by omega)
  intro S w cargs hS hsz hr
  obtain ⟨c,d,rfl⟩ : ∃ c d,cargs = #[c,d] := by
   match cargs,hsz with
   | ⟨[a,b]⟩,_ => exact ⟨a,b,rfl⟩
  simp only [RepL,Rep,and_true] at hr
  obtain ⟨rfl,rfl⟩ := hr
  refine (Tryz.bits_Mul x y (by omega) (by omega) w).mono ?_
  rintro e w' ⟨rfl,rfl⟩
  refine ⟨_,rfl,⟨⟨fun n hn => ⟨.inl hn,rfl⟩,fun _ _ _ h => nomatch h⟩,rfl,rfl,rfl,Qn _,fun _ _ => rfl,fun _ _ _ => rfl,(Evol.refl S w' noO).fresh,fun n hn => hn.elim .inl fun h => by omega⟩,?_⟩
  have e1 : x * y / 18446744073709551616 = 0 := Nat.div_eq_of_lt (by omega)
  have e2 : x * y % 18446744073709551616 = x * y := Nat.mod_eq_of_lt (by omega)
  rw [e1,e2]
  simp only [Rep]
  exact ⟨_,rfl,rfl,by simp [RepL,Rep]⟩
 ·exact h.elim
def K75 := (K74.ext 41 (fnG eH1 dH1 SmallS Qcl .i)).ext 78 sMul
def Zex : GOk TP K75 := (Zkg.ext call41 (Qa7 (e := eH1) (d := dH1) (ok := SmallS) (g := Qcl) (eb := .i) fun a h => W58 a h)).ext (f := 78) (r := sMul) (fun a w => call78 a w) Zfg
def h67 (a b : Int) : K75 78 [.w .u64 a,.w .u64 b] = ((0 ≤ a ∧ a ≤ 2147483648) ∧ 0 ≤ b ∧ b ≤ 2147483648,.tp [.w .u64 0,.w .u64 (a * b)]) := rfl
def Qta {n : Int} (h : 0 ≤ n ∧ n ≤ 2147483648) : IntKind.u64.wrap n = n := IntWalk.u64_in n (by omega)
def Zaj {n : Int} (h : 0 ≤ n ∧ n ≤ 2147483648) : IntKind.i64.wrap n = n := Qjy (by unfold inI; omega)
def Qeq (r z : List V) (n k : Nat) : List V := (Qa k r ++ Qa (n - k) z).flatten
def Qff {es : Nat} {r : List V} (h : r.length = es) (k : Nat) : ((Qa k r).flatten).length = k * es := by
 rw [List.length_flatten,List.map_replicate,List.sum_replicate_nat,h]
def Qs8 {es : Nat} {r z : List V} (hr : r.length = es) (hz : z.length = es) {n k : Nat} (h : k ≤ n) : (Qeq r z n k).length = n * es := by
 unfold Qeq
 rw [Qm,Qh,Qff hr,Qff hz,← Zz]
 congr 1; omega
def Qpf {es : Nat} {r z : List V} (hr : r.length = es) {n k m : Nat} (h : m ≤ k) : (Qeq r z n k).take (m * es) = (Qa m r).flatten := by
 unfold Qeq
 obtain ⟨j,rfl⟩ : ∃ j,k = m + j := ⟨k - m,by omega⟩
 rw [Qrh,Qs,Qm,List.take_append_of_le_length (by rw [Qff hr]; exact Qn _),Qt (by rw [Qff hr]; exact Qn _)]
def Qpe {es : Nat} {r z : List V} (hr : r.length = es) (hz : z.length = es) {n k m : Nat} (h : k + m ≤ n) : putAt (k * es) ((Qa m r).flatten) (Qeq r z n k) = Qeq r z n (k + m) := by
 unfold putAt
 rw [Qpf hr (Qn k)]
 have e : (Qeq r z n k).drop (k * es + ((Qa m r).flatten).length) = (Qa (n - (k + m)) z).flatten := by
  rw [Qff hr,← Zz]
  unfold Qeq
  rw [show n - k = m + (n - (k + m)) by omega,Qrh,← Qs,Qm,Zt,Z9,Q9]
  ·rw [Qm,Qh,Qff hr,Qff hz,Zz]; exact Qn _
  ·rw [Qm,Qh,Qff hr,Qff hz,Zz]; exact Qn _
 rw [e]
 unfold Qeq
 rw [Qrh,Qm,Qm]
def Zaf (r z : List V) (n : Nat) : Qeq r z n 0 = (Qa n z).flatten := by simp [Qeq]
def Qs7 (r z : List V) (n : Nat) : Qeq r z n n = (Qa n r).flatten := by simp [Qeq]
def Qnb (r z : List V) (es n : Nat) (hr : r.length = es) (hz : z.length = es) : putAt 0 (r.take (min 1 n * es)) (Qeq r z n 0) = Qeq r z n (min 1 n) := by
 have h := Qpe (m := min 1 n) (k := 0) (n := n) hr hz (by omega)
 rw [Xv,Zo] at h
 rw [← h]
 congr 1
 cases n with
 | zero => simp
 | succ n =>
  have : min 1 (n + 1) = 1 := by omega
  rw [this,Nat.one_mul,Qt (by omega)]; simp
def Qnc (r z : List V) (es n k : Nat) (hr : r.length = es) (hz : z.length = es) (hk : k < n) : putAt (k * es) (((Qeq r z n k).take (k * es)).take (min k (n - k) * es)) (Qeq r z n k) = Qeq r z n (k + min k (n - k)) := by
 rw [List.take_take,Nat.min_eq_left (Nat.mul_le_mul_right _ (Ja _ _)),Qpf hr (Ja _ _),Qpe hr hz (by omega)]
def W40 (x : Int) (n : Nat) (h : n ≤ 1000000) : Qd3 TP 58 [.sl 1 [[.i x]],.i n] (.rf 0 0 0 n 1) [.cells 0 (Qa n [V.i x]).flatten] := by
 refine Qku Zex hmix func58 cf58.b cf58.c cf58.s cf58.n ?_
 have h0 : ¬ ((n : Int) < 0) := by omega
 have u1 : IntKind.u64.wrap 1 = 1 := Qta (by omega)
 have u2 : IntKind.u64.wrap (n : Int) = n := Qta (by omega)
 have u3 : IntKind.i64.wrap (n : Int) = n := Zaj (by omega)
 have b1 : (0 : Int) ≤ n ∧ (n : Int) ≤ 2147483648 := by omega
 have b2 : ¬ ((9223372036854775807 : Int) < n) := by omega
 have f1 := Zaf [V.i x] [V.i 0] n
 have f2 := Qnb [V.i x] [V.i 0] 1 n rfl rfl
 have f3 := fun k (hk : k ≤ n) => Qs8 (es := 1) (r := [V.i x]) (z := [V.i 0]) (n := n) rfl rfl hk
 have f4 := fun k (hk : k < n) => Qnc [V.i x] [V.i 0] 1 n k rfl rfl hk
 have f5 := Qs7 [V.i x] [V.i 0] n
 simp only [rc58,rs58,h0,Qe,vw_w,cvkV,mkI,u1,u2,u3,h67,b1,b2,Int.one_mul,← f1,f2,f3 0 (Z0 _),Zu,Qn,Qx,Qp,Qmj,Qmh,Qmi,Qmf,Qin,Qht,putB,Qfw,Qbe,Qfg,Fam.step,Qh6,Qmx,Qm1,Qbp,Qdf,ug,putB,nv,sv,Qcb,evO,opv,qv,Qii,binV,binW,lenV,Qtk,Qan,Qa8,flat,Qmt,Qfi,Qdn,Qfb,↓reduceIte,Nat.reduceEqDiff,Nat.reduceAdd,Nat.reduceLT,Int.reduceLE,Qw,Qv,Z3,Xa,Zr,Jb,Q9,Zk,Qq,Q4,Q5,Zh,zipA,Q2,beq_self_eq_true,Zo,Zf,Z4,Qc,decide_false,true_and,and_self,forall_const,implies_true,reduceCtorEq,Qz]
 refine Qjt (fun j σ => ∃ k : Nat,(k ≤ n ∧ j = n - k ∧ (k = 0 → n = 0)) ∧ σ = ⟨lkp [(7,.rf 0 0 0 n 1),(8,.i k)],[.cells 0 (Qeq [V.i x] [V.i 0] n k)]⟩) ⟨n - min 1 n,min 1 n,⟨by omega,rfl,by omega⟩,?_⟩ ?_
 ·simp only [kp,Qdn,Qfb,↓reduceIte,Nat.reduceEqDiff,Qw,Qv]
 ·rintro j _ ⟨k,⟨hk,rfl,uG⟩,rfl⟩
  by_cases hlt : (k : Int) < n
  ·have qS : k < n := by omega
   have c1 : 0 < (k : Int) := by omega
   have i1 : inI ((k : Int) + (min k (n - k) : Nat)) := by unfold inI; omega
   have e1 : (k : Int) + (min k (n - k) : Nat) = ((k + min k (n - k) : Nat) : Int) := by omega
   rw [e1] at i1
   have c2 : k * 1 + (n - k) * 1 ≤ n * 1 := by omega
   have c3 : k * 1 ≤ n * 1 := by omega
   have c4 : (k : Int) ≤ n := by omega
   simp only [hlt,c1,c4,Zu,Zm,f3 k hk,c2,c3,Nat.sub_zero,Xv,f4 k qS,i1,e1,Qz,Qmj,Qmh,Qxb,Qmi,Qmf,Qin,Qht,Qbf,optL,Qfw,Qhx,Qbe,Qfg,Fam.step,Qh6,Qbp,runX,eff,Qaw,fpR,fpQ,fpV,Qmr,hits,nv,sv,Qcb,evO,opv,qv,binV,lenV,slcV,Qg6,kp,Qfi,Qdn,Qfb,↓reduceIte,Nat.reduceEqDiff,Zp,Qw,Qv,Z3,Xa,Xj,Z7,Q9,Zk,Qq,Xw,Q5,X1,Zh,Xn,X2,Xx,Zm,Zo,Nat.add_zero,Zf,Xo,Xp,Zx,Z4,Bool.not_true,Je,decide_true,true_and,and_self,Xc,Jc,List.any_cons,List.any_nil,Qr,Qu,Qz,Qi]
   exact ⟨n - (k + min k (n - k)),by omega,k + min k (n - k),⟨by omega,rfl,by omega⟩,rfl⟩
  ·obtain rfl : k = n := by omega
   have yE : ¬ ((k : Int) < k) := by omega
   simp only [yE,f5,Qmh,Qmi,Qmf,Qri,Qxc,Qht,endO,Qfw,Qhx,Qbe,Qfg,Fam.step,Qh6,evO,opv,qv,binV,lenV,kp,Qfi,Qdn,Qfb,↓reduceIte,Nat.reduceEqDiff,Qw,Qv,Qq,rvs,rv1,resV,Qc,decide_false,and_self]
def W61 (x y : Int) (n : Nat) (h : n ≤ 1000000) : Qd3 TP 44 [.sl 2 [[.i x,.i y]],.i n] (.rf 0 0 0 n 2) [.cells 0 (Qa n [V.i x,V.i y]).flatten] := by
 refine Qku Zex hmix func44 cf44.b cf44.c cf44.s cf44.n ?_
 have h0 : ¬ ((n : Int) < 0) := by omega
 have u1 : IntKind.u64.wrap 1 = 1 := Qta (by omega)
 have u2 : IntKind.u64.wrap (n : Int) = n := Qta (by omega)
 have u3 : IntKind.i64.wrap (n : Int) = n := Zaj (by omega)
 have b1 : (0 : Int) ≤ n ∧ (n : Int) ≤ 2147483648 := by omega
 have b2 : ¬ ((9223372036854775807 : Int) < n) := by omega
 have f1 := Zaf [V.i x,V.i y] [V.i 0,V.i 0] n
 have f2 := Qnb [V.i x,V.i y] [V.i 0,V.i 0] 2 n rfl rfl
 have f3 := fun k (hk : k ≤ n) => Qs8 (es := 2) (r := [V.i x,V.i y]) (z := [V.i 0,V.i 0]) (n := n) rfl rfl hk
 have f4 := fun k (hk : k < n) => Qnc [V.i x,V.i y] [V.i 0,V.i 0] 2 n k rfl rfl hk
 have f5 := Qs7 [V.i x,V.i y] [V.i 0,V.i 0] n
 simp only [rc44,rs44,h0,Qe,vw_w,cvkV,mkI,u1,u2,u3,h67,b1,b2,Int.one_mul,← f1,f2,f3 0 (Z0 _),Zu,Qn,Qx,Qp,Qmj,Qmh,Qmi,Qmf,Qin,Qht,putB,Qfw,Qbe,Qfg,Fam.step,Qh6,Qmx,Qm1,Qbp,Qdf,ug,putB,nv,sv,Qcb,evO,opv,qv,Qii,binV,binW,lenV,Qtk,Qan,Qa8,flat,Qmt,Qfi,Qdn,Qfb,↓reduceIte,Nat.reduceEqDiff,Nat.reduceAdd,Nat.reduceLT,Int.reduceLE,Qw,Qv,Z3,Xa,Zr,Jb,Q9,Zk,Qq,Q4,Q5,Zh,zipA,Q2,beq_self_eq_true,Zo,Zf,Z4,Qc,decide_false,true_and,and_self,forall_const,implies_true,reduceCtorEq,Qz]
 refine Qjt (fun j σ => ∃ k : Nat,(k ≤ n ∧ j = n - k ∧ (k = 0 → n = 0)) ∧ σ = ⟨lkp [(7,.rf 0 0 0 n 2),(8,.i k)],[.cells 0 (Qeq [V.i x,V.i y] [V.i 0,V.i 0] n k)]⟩) ⟨n - min 1 n,min 1 n,⟨by omega,rfl,by omega⟩,?_⟩ ?_
 ·simp only [kp,Qdn,Qfb,↓reduceIte,Nat.reduceEqDiff,Qw,Qv]
 ·rintro j _ ⟨k,⟨hk,rfl,uG⟩,rfl⟩
  by_cases hlt : (k : Int) < n
  ·have qS : k < n := by omega
   have c1 : 0 < (k : Int) := by omega
   have i1 : inI ((k : Int) + (min k (n - k) : Nat)) := by unfold inI; omega
   have e1 : (k : Int) + (min k (n - k) : Nat) = ((k + min k (n - k) : Nat) : Int) := by omega
   rw [e1] at i1
   have c2 : k * 2 + (n - k) * 2 ≤ n * 2 := by omega
   have c3 : k * 2 ≤ n * 2 := by omega
   have c4 : (k : Int) ≤ n := by omega
   simp only [hlt,c1,c4,Zu,Zm,f3 k hk,c2,c3,Nat.sub_zero,Xv,f4 k qS,i1,e1,Qz,Qmj,Qmh,Qxb,Qmi,Qmf,Qin,Qht,Qbf,optL,Qfw,Qhx,Qbe,Qfg,Fam.step,Qh6,Qbp,runX,eff,Qaw,fpR,fpQ,fpV,Qmr,hits,nv,sv,Qcb,evO,opv,qv,binV,lenV,slcV,Qg6,kp,Qfi,Qdn,Qfb,↓reduceIte,Nat.reduceEqDiff,Zp,Qw,Qv,Z3,Xa,Xj,Z7,Q9,Zk,Qq,Xw,Q5,X1,Zh,Xn,X2,Xx,Zm,Zo,Nat.add_zero,Zf,Xo,Xp,Zx,Z4,Bool.not_true,Je,decide_true,true_and,and_self,Xc,Jc,List.any_cons,List.any_nil,Qr,Qu,Qz,Qi]
   exact ⟨n - (k + min k (n - k)),by omega,k + min k (n - k),⟨by omega,rfl,by omega⟩,rfl⟩
  ·obtain rfl : k = n := by omega
   have yE : ¬ ((k : Int) < k) := by omega
   simp only [yE,f5,Qmh,Qmi,Qmf,Qri,Qxc,Qht,endO,Qfw,Qhx,Qbe,Qfg,Fam.step,Qh6,evO,opv,qv,binV,lenV,kp,Qfi,Qdn,Qfb,↓reduceIte,Nat.reduceEqDiff,Qw,Qv,Qq,rvs,rv1,resV,Qc,decide_false,and_self]
def s61 : List V → Prop × V | [.sl 2 [[.i x,.i y]],.i n] => (0 ≤ n ∧ n ≤ 1000000,.tp [.rf 0 0 0 n.toNat 2,.tp [bV (.cells 0 (Qa n.toNat [V.i x,V.i y]).flatten)]]) | _ => (False,.u)
def Zli (xs : List V) (v : V) (bs : List V) (h : (s61 xs).1) (h2 : (s61 xs).2 = .tp [v,.tp bs]) : Qd3 TP 44 xs v (bs.map vB) := by
 unfold s61 at h h2
 split at h
 ·rename_i x y n
  simp only [V.tp.injEq,Jf.injEq,and_true] at h2
  obtain ⟨rfl,rfl⟩ := h2
  have hn : n = (n.toNat : Int) := by omega
  have := W61 x y n.toNat (by omega)
  rw [← hn] at this
  simpa only [Qw,Qv,Qb2] using this
 ·exact h.elim
def s40 : List V → Prop × V | [.sl 1 [[.i x]],.i n] => (0 ≤ n ∧ n ≤ 1000000,.tp [.rf 0 0 0 n.toNat 1,.tp [bV (.cells 0 (Qa n.toNat [V.i x]).flatten)]]) | _ => (False,.u)
def Zlh (xs : List V) (v : V) (bs : List V) (h : (s40 xs).1) (h2 : (s40 xs).2 = .tp [v,.tp bs]) : Qd3 TP 58 xs v (bs.map vB) := by
 unfold s40 at h h2
 split at h
 ·rename_i x n
  simp only [V.tp.injEq,Jf.injEq,and_true] at h2
  obtain ⟨rfl,rfl⟩ := h2
  have hn : n = (n.toNat : Int) := by omega
  have := W40 x n.toNat (by omega)
  rw [← hn] at this
  simpa only [Qw,Qv,Qb2] using this
 ·exact h.elim
def Zl7 (n : Nat) (x : Int) : Qa n [V.i x] = (Qa n x).map eI := by simp [eI]
def p40 : List V → Prop × V | [.sl 1 [[.i x]],.i n] => (0 ≤ n ∧ n ≤ 1000000,.sl 1 ((Qa n.toNat x).map eI)) | _ => (False,.u)
def Zkz (xs : List V) (h : (p40 xs).1) : Qa1 TP 58 xs (p40 xs).2 := by
 unfold p40 at h ⊢
 split at h
 ·rename_i x n
  have hn : n = (n.toNat : Int) := by omega
  have := (W40 x n.toNat (by omega)).toPure
  rw [← hn,Zl7] at this
  have e : vw [.cells 0 ((Qa n.toNat x).map eI).flatten] 8 (.rf 0 0 0 n.toNat 1) = .sl 1 ((Qa n.toNat x).map eI) := by
   have h1 := Qal (Qa n.toNat x)
   have h2 := Qaz (Qa n.toNat x)
   rw [Q0] at h1 h2
   simp only [h2,Zd,Qn,h1,vw_I,↓reduceIte,Qq,Qql,Zo,and_self]
  rw [e] at this
  exact this
 ·exact h.elim
def K76 := ((K75.ext 1000044 s61).ext 1000058 s40).ext 58 p40
def Zkh : GOk TP K76 := ((Zex.extO (f := 44) (r := s61) (fun a w => call44 a w) Zli).extO (f := 58) (r := s40) (fun a w => call58 a w) Zlh).ext (f := 58) (r := p40) (fun a w => call58 a w) Zkz
def h61 (x y n : Int) : K76 1000044 [.sl 2 [[.i x,.i y]],.i n] = (0 ≤ n ∧ n ≤ 1000000,.tp [.rf 0 0 0 n.toNat 2,.tp [bV (.cells 0 (Qa n.toNat [V.i x,V.i y]).flatten)]]) := rfl
def h40o (x n : Int) : K76 1000058 [.sl 1 [[.i x]],.i n] = (0 ≤ n ∧ n ≤ 1000000,.tp [.rf 0 0 0 n.toNat 1,.tp [bV (.cells 0 (Qa n.toNat [V.i x]).flatten)]]) := rfl
def h40 (x n : Int) : K76 58 [.sl 1 [[.i x]],.i n] = (0 ≤ n ∧ n ≤ 1000000,.sl 1 ((Qa n.toNat x).map eI)) := rfl
def h58 (s : Shop) : K76 41 [.ag (Qat s)] = (SmallS s,.i (Qcl s)) := (show K76 41 _ = fnG eH1 dH1 SmallS Qcl .i (eH1 s) from rfl).trans (Qap _ (Qqr s))
def Zfz (w : Work) (i : Int) := lft K76 (h59 w i) rfl
def Qzv (w : Work) (i m k : Int) := lft K76 (h60 w i m k) rfl
def Qyg : Qar TP 113 3 := Qar.of (fs := _) (show TP.underlying 113 = some (.struct (TP.fieldsOf 113)) by kernel_rfl) (by kernel_rfl) (by kernel_rfl)
def cntM (xs : List (List Int)) : AM Int := xs.foldl (fun m k => aput m k ((aget m k).getD 0 + 1)) []
def Qfz (xs : List (List Int)) (k : List Int) : cntM (xs ++ [k]) = aput (cntM xs) k ((aget (cntM xs) k).getD 0 + 1) := by simp [cntM]
def Qn6 (xs : List (List Int)) : (aks (cntM xs)).Nodup := Qb0 (p := fun xs => (aks (cntM xs)).Nodup) (by simp [cntM,aks]) (fun l a h => by rw [Qfz]; exact Qfx h _ _) xs
def Qnz (xs : List (List Int)) (h3 : ∀ k ∈ xs,k.length = 3) : ∀ k ∈ aks (cntM xs),k.length = 3 := by
 revert h3
 refine Qb0 (p := fun xs => (∀ k ∈ xs,k.length = 3) → ∀ k ∈ aks (cntM xs),k.length = 3) (fun _ => by simp [cntM,aks]) (fun l a ih h k hk => ?_) xs
 rw [Qfz,Qeh,Qkt] at hk
 rcases hk with hk | rfl
 ·exact ih (fun k hk => h k (by simp [hk])) k hk
 ·exact h _ (by simp)
def Qny (xs : List (List Int)) : ∀ k,(k ∈ xs → ∃ n : Int,1 ≤ n ∧ n ≤ xs.length ∧ aget (cntM xs) k = some n) ∧ (k ∉ xs → aget (cntM xs) k = none) := by
 refine Qb0 (p := fun xs => ∀ k,(k ∈ xs → ∃ n : Int,1 ≤ n ∧ n ≤ xs.length ∧ aget (cntM xs) k = some n) ∧ (k ∉ xs → aget (cntM xs) k = none)) (fun k => by simp [cntM,aget]) (fun l a ih k => ?_) xs
 rw [Qfz,Qkj]
 by_cases e : k = a
 ·subst e
  refine ⟨fun _ => ?_,fun h => absurd (by simp) h⟩
  rw [if_pos rfl]
  by_cases hk : k ∈ l
  ·obtain ⟨n,h1,h2,h3⟩ := (ih k).1 hk
   refine ⟨n + 1,by omega,by simp; omega,by rw [h3]; rfl⟩
  ·rw [(ih k).2 hk]
   exact ⟨1,by omega,by simp; omega,rfl⟩
 ·rw [if_neg e]
  refine ⟨fun h => ?_,fun h => (ih k).2 fun h' => h (by simp [h'])⟩
  have hk : k ∈ l := by
   rcases Qj.1 h with h | h
   ·exact h
   ·simp at h; exact absurd h e
  obtain ⟨n,h1,h2,h3⟩ := (ih k).1 hk
  exact ⟨n,h1,by simp; omega,h3⟩
def kK (w : Work) (i m : Int) (k : Nat) : List (List Int) := ((Ql k).filter fun (j : Nat) => decide (fitN w i m (j : Int) = 1)).map fun (j : Nat) => [i,m,(j : Int)]
def kM (w : Work) (i : Int) (m : Nat) : List (List Int) := (Ql m).flatMap fun (a : Nat) => kK w i (a : Int) (Qav w (a : Int)).length
def kTI (w : Work) (n : Nat) : List (List Int) := (Ql n).flatMap fun (i : Nat) => kM w (i : Int) w.makes.length
def Qw3 (w : Work) (i m : Int) (k : Nat) : kK w i m (k + 1) = if fitN w i m (k : Int) = 1 then kK w i m k ++ [[i,m,(k : Int)]] else kK w i m k := by
 unfold kK
 rw [Zj,List.filter_append,Qk]
 by_cases h : fitN w i m (k : Int) = 1 <;> simp [h]
def Qw5 (w : Work) (i : Int) (m : Nat) : kM w i (m + 1) = kM w i m ++ kK w i (m : Int) (Qav w (m : Int)).length := by simp [kM,Zj]
def Qw1 (w : Work) (n : Nat) : kTI w (n + 1) = kTI w n ++ kM w (n : Int) w.makes.length := by simp [kTI,Zj]
def kK_3 {w : Work} {i m : Int} {k : Nat} : ∀ x ∈ kK w i m k,x.length = 3 := by
 intro x hx
 unfold kK at hx
 obtain ⟨j,_,rfl⟩ := Xy.1 hx
 rfl
def kM_3 {w : Work} {i : Int} {m : Nat} : ∀ x ∈ kM w i m,x.length = 3 := by
 intro x hx
 obtain ⟨j,_,h⟩ := Z8.1 hx
 exact kK_3 x h
def kI_3 {w : Work} {n : Nat} : ∀ x ∈ kTI w n,x.length = 3 := by
 intro x hx
 obtain ⟨j,_,h⟩ := Z8.1 hx
 exact kM_3 x h
def Qw2 (w : Work) (i m : Int) (k : Nat) : (kK w i m k).length ≤ k := by
 unfold kK
 rw [Zc]
 refine Zn (Xg _ _) (by simp)
def Qdg {α β : Type} (f : α → List β) (c : Nat) : ∀ l : List α,(∀ x ∈ l,(f x).length ≤ c) → (l.flatMap f).length ≤ l.length * c
 | [],_ => by simp
 | a :: l,h => by
  have h1 := Qdg f c l fun x hx => h x (by simp [hx])
  have h2 := h a (by simp)
  rw [Xz,Qh,Zr,Zz]
  omega
def Qw4 {w : Work} (h : OkW w) (i : Int) (m : Nat) (hm : m ≤ w.makes.length) : (kM w i m).length ≤ 24 := by
 have := Qdg (fun (a : Nat) => kK w i (a : Int) (Qav w (a : Int)).length) 4 (Ql m) fun a ha => by
  refine Zn (Qw2 _ _ _ _) ?_
  have ha' := Q1.1 ha
  have hg : w.makes[a]? = some (Qav w (a : Int)) := by
   have := (Qdo (w := w) (m := (a : Int)) (Qak.2 (by omega))).2.2
   simpa using this
  exact (h.make _ (Qb hg)).1
 rw [Z1] at this
 have := h.nmk
 unfold kM; omega
def Zak {w : Work} (h : OkW w) (n : Nat) (hn : n ≤ 10) : (kTI w n).length ≤ 240 := by
 have := Qdg (fun (i : Nat) => kM w (i : Int) w.makes.length) 24 (Ql n) fun a _ => Qw4 h _ _ (Qn _)
 rw [Z1] at this
 unfold kTI; omega
def eSp (p : Int × Int) : List V := [.i p.1,.i p.2]
def dSp : List V → Int × Int | [.i a,.i b] => (a,b) | _ => (0,0)
def Qtn (p : Int × Int) : dSp (eSp p) = p := rfl
def Qbu (l : List Int) (k : Nat) : List (Int × Int) := (Ql k).flatMap fun (i : Nat) => Qa (l.getD i 0).toNat ((i : Int),(0 : Int))
def delL (l : List Del) : List (Int × Int) := l.flatMap fun d => Qa d.many.toNat (d.spare,d.day)
def Qbc (s : Shop) : List (Int × Int) := Qbu s.stock s.stock.length ++ delL s.dels
def Qca (w : Work) : AM Int := cntM (kTI w w.spares.length)
def Qba (s : Shop) : List V := [.sl 4 (s.work.spares.map eSpare),.sl 1 (s.work.makes.map eMake),.i s.work.cut,.sl 4 (s.work.table.map eTrial),.sl 1 (s.stock.map eI),.sl 5 (s.pieces.map ePiece),.sl 6 (s.wishes.map eWish),.sl 3 (s.dels.map eDel),.i s.carve,
 .sl 2 ((Qbc s).map eSp),.pm true (aks (Qca s.work)) (avs .i (Qca s.work))]
def stE (s : Shop) : Qba s = [.sl 4 (s.work.spares.map eSpare),.sl 1 (s.work.makes.map eMake),.i s.work.cut,.sl 4 (s.work.table.map eTrial),.sl 1 (s.stock.map eI),.sl 5 (s.pieces.map ePiece),.sl 6 (s.wishes.map eWish),.sl 3 (s.dels.map eDel),.i s.carve,
 .sl 2 ((Qbc s).map eSp),.pm true (aks (Qca s.work)) (avs .i (Qca s.work))] := rfl
def Qd4 : List V → Shop | [a,b,c,d,e,f,g,h,i,_,_] => Qh0 [a,b,c,d,e,f,g,h,i] | _ => Qh0 []
def Qgn (s : Shop) : Qd4 (Qba s) = s := Qhj s
def Qjs (s : Shop) (is : Bool) : V := if Qd7 s is = 0 then .tp [.pa (Qba s),.i 0] else .tp [.pn,.i (Qd7 s is)]
def Qha (l : List (Int × Int)) : ((l.map eSp).flatten).length = l.length * 2 := Qaf (e := eSp) (k := 2) (fun _ => rfl) l
def Qd9 (l : List (Int × Int)) : Qa8 ((l.map eSp).flatten) = false := Qa5 (e := eSp) (fun _ => rfl) l
def Qry (l : List (Int × Int)) : Qbi 2 ((l.map eSp).flatten) 0 l.length = l.map eSp := Qa9 (e := eSp) (k := 2) (fun _ => rfl) l
def Zlx (hp : List Blk) (n : Nat) (l : List (Int × Int)) : (l.map eSp).map (fun r => r.map (vw hp (n + 1))) = l.map eSp := Qa6 (e := eSp) hp (n + 1) (fun _ => rfl) l
def Zl6 (n : Nat) (x y : Int) : (Qa n [V.i x,V.i y]).flatten = ((Qa n (x,y)).map eSp).flatten := by simp [eSp]
structure OkSh (s : Shop) : Prop where
 stock : s.stock.length = s.work.spares.length
 npc : s.pieces.length ≤ 8
 nwi : s.wishes.length ≤ 6
 nde : s.dels.length ≤ 8
 carve : 0 ≤ s.carve ∧ s.carve ≤ 99
 st : ∀ n ∈ s.stock,0 ≤ n ∧ n ≤ 10
 pc : ∀ p ∈ s.pieces,Qc7 s p = true
 wi : ∀ x ∈ s.wishes,okWish x = true
 de : ∀ d ∈ s.dels,Qge s d = true
def Qmk {s : Shop} (h : Qcl s = 0) : OkW s.work ∧ OkSh s := by
 unfold Qcl at h
 split at h
 ·rename_i h1; exact absurd h h1
 ·rename_i h1
  split at h
  ·rename_i h2
   refine ⟨Qnn (Qjw (by omega)),?_⟩
   unfold Qex at h2
   simp only [Qo,decide_eq_true_eq,Zs,Qak] at h2
   obtain ⟨⟨⟨⟨⟨⟨⟨⟨a1,a2⟩,a3⟩,a4⟩,a5⟩,a6⟩,a7⟩,a8⟩,a9⟩ := h2
   exact ⟨a1,by omega,by omega,by omega,a5,a6,a7,a8,a9⟩
  ·omega
def Qt0 (k n : Nat) (x y : Int) : shL k (Qa n [V.i x,V.i y]).flatten = ((Qa n (x,y)).map eSp).flatten := by
 rw [Zl6,Qda _ _ (Qd9 _)]
def Zcg (hp : List Blk) (n : Nat) (m : AM Int) : (avs V.i m).map (vw hp (n + 1)) = avs V.i m := by
 unfold avs
 rw [Zw]; rfl
def Qo3 {s : Shop} {d : Del} (h : Qge s d = true) : d.many ≤ 10 := by
 unfold Qge at h
 rw [Qo] at h
 exact (Qak.1 h.2).2
def Qo2 {l : List Del} (h : ∀ d ∈ l,d.many ≤ 10) : (delL l).length ≤ l.length * 10 :=
 Qdg _ 10 l fun d hd => by rw [Q0]; have := h d hd; omega
def Qf3 {l : List Int} (h : ∀ x ∈ l,x ≤ 10) (k : Nat) : (Qbu l k).length ≤ k * 10 := by
 have := Qdg (fun (i : Nat) => Qa (l.getD i 0).toNat ((i : Int),(0 : Int))) 10 (Ql k) fun i _ => by
  rw [Q0,Qi]
  cases e : l[i]? with
  | none => simp
  | some x => have := h x (Qb e); simp; omega
 rw [Z1] at this
 exact this
def Qhu (l : List Int) (k : Nat) : Qbu l (k + 1) = Qbu l k ++ Qa (l.getD k 0).toNat ((k : Int),(0 : Int)) := by simp [Qbu,Zj]
def Qpb (l : List Del) (d : Del) : delL (l ++ [d]) = delL l ++ Qa d.many.toNat (d.spare,d.day) := by simp [delL]
def stC (s : Shop) (v : V) : List V := [.sl 4 (s.work.spares.map eSpare),.sl 1 (s.work.makes.map eMake),.i s.work.cut,.sl 4 (s.work.table.map eTrial),.sl 1 (s.stock.map eI),.sl 5 (s.pieces.map ePiece),.sl 6 (s.wishes.map eWish),.sl 3 (s.dels.map eDel),.i s.carve,v,.mp 0 0]
def mpB (ks : List (List Int)) : Blk := .map true (aks (cntM ks)) (avs .i (cntM ks))
def Qbh (ks : List (List Int)) : Qa8 (avs V.i (cntM ks)) = false := Qgc (fun _ => rfl) _
def W34 (s : Shop) (is : Bool) (hs : SmallS s) : Qa1 TP 22 [.ag (Qat s),.b is] (Qjs s is) := by
 refine pc Zkh func22 cf22 ?_
 have g1 := h58 s
 simp only [Qat] at g1
 by_cases h0 : Qcl s = 0
 rotate_left
 ·simp only [rc22,rs22,g1,hs,h0,BL,simprocAttr]; simp [Qjs,Qd7,h0]
 cases is with
 | false => simp only [rc22,rs22,g1,hs,h0,BL,simprocAttr]; simp [Qjs,Qd7,h0]
 | true =>
 obtain ⟨hO,hSh⟩ := Qmk h0
 have hw := hs.work
 have hE : Qd7 s true = Qb5 s.work true := by simp [Qd7,h0]
 have g2 := Zfz s.work 0
 simp only [Qai] at g2
 have hlen := hSh.stock
 have k7 := hO.nsp
 by_cases hz : (0 : Int) < s.stock.length
 ·have pF : isSp s.work 0 = true := by unfold isSp; exact Qak.2 (by omega)
  unfold Qlv at g2
  rw [pF] at g2
  by_cases e0 : Qb5 s.work true = 0
  rotate_left
  ·rw [if_neg e0] at g2
   simp only [rc22,rs22,g1,hs,h0,hz,g2,hw,e0,BL,simprocAttr]
   simp [Qjs,hE,e0]
  rw [if_pos e0] at g2
  generalize (Qcx s.work 0).headD 0 = l1 at g2
  generalize (Qcx s.work 0).getD ((Qcx s.work 0).length - 1) 0 = l2 at g2
  simp only [rc22,rs22,g1,hs,h0,hz,g2,hw,↓BU3,BL,simprocAttr]
  refine Qaq s.stock.length (fun i => ⟨lkp [(2,.pa (Qat s)),(7,.ad 1 0 0),(46,.i s.stock.length),(47,.i i)],[mpB (kTI s.work i),.cells 0 (stC s (.z 2))]⟩) ?_ ?_ ?_
  ·simp only [Qg,mpB,cntM,kTI,Q3,Q7,aks,avs,stC,BL,simprocAttr]
  ·intro i hi
   have hlt : (i : Int) < s.stock.length := by omega
   have i1 : inI ((i : Int) + 1) := by unfold inI; omega
   have fG : isSp s.work (i : Int) = true := Qak.2 (by omega)
   simp only [hlt,stC,BL,simprocAttr]
   refine Qaq s.work.makes.length (fun m => ⟨lkp [(2,.pa (Qat s)),(7,.ad 1 0 0),(10,.i i),(46,.i s.stock.length),(47,.i i),(52,.sl 1 (s.work.makes.map eMake)),(53,.i s.work.makes.length),(54,.i m)],[mpB (kTI s.work i ++ kM s.work i m),.cells 0 (stC s (.z 2))]⟩) ?_ ?_ ?_
   ·simp only [Qg,stC,mpB,Qa0 _ _ _ (Qbh _),kM,Q3,Q7,BL,simprocAttr]
   ·intro m hm
    have u8 : (m : Int) < s.work.makes.length := by omega
    have wM := hO.nmk
    have i2 : inI ((m : Int) + 1) := by unfold inI; omega
    have lY := (Qdo (w := s.work) (m := (m : Int)) (Qak.2 (by omega))).2.2
    have y3 : s.work.makes[m]? = some (Qav s.work (m : Int)) := by simpa using lY
    have lZ := (hO.make _ (Qb y3)).1
    simp only [u8,y3,stC,BL,simprocAttr]
    refine Qaq (Qav s.work (m : Int)).length (fun k => ⟨lkp [(2,.pa (Qat s)),(7,.ad 1 0 0),(10,.i i),(11,.i m),(46,.i s.stock.length),(47,.i i),(52,.sl 1 (s.work.makes.map eMake)),(53,.i s.work.makes.length),(54,.i m),(61,.i (Qav s.work (m : Int)).length),(62,.i k)],[mpB (kTI s.work i ++ kM s.work i m ++ kK s.work i m k),.cells 0 (stC s (.z 2)),.cells 0 [.sl 4 ((Qav s.work (m : Int)).map eSlot)]]⟩) ?_ ?_ ?_
    ·simp only [Qg,stC,mpB,kK,Q3,Jd,BL,simprocAttr]
    ·intro k hk
     have vG : (k : Int) < (Qav s.work (m : Int)).length := by omega
     have i3 : inI ((k : Int) + 1) := by unfold inI; omega
     have hsl : Qay s.work (m : Int) (k : Int) = true := by
      unfold Qay
      rw [Qo]
      exact ⟨Qak.2 (by omega),Qak.2 (by omega)⟩
     have g3 := Qzv s.work i m k
     unfold Qtt at g3
     rw [fG,hsl] at g3
     simp only [Zf,e0,if_true,Qai] at g3
     have uV := Qw3 s.work i m k
     by_cases hf : fitN s.work (i : Int) (m : Int) (k : Int) = 1
     ·rw [if_pos hf] at uV
      obtain ⟨X,hX⟩ : ∃ X,X = kTI s.work i ++ kM s.work (i : Int) m ++ kK s.work (i : Int) (m : Int) k := ⟨_,rfl⟩
      have hX1 : kTI s.work i ++ kM s.work (i : Int) m ++ kK s.work (i : Int) (m : Int) (k + 1) = X ++ [[(i : Int),(m : Int),(k : Int)]] := by rw [uV,hX]; simp
      have hX3 : ∀ x ∈ X,x.length = 3 := by
       rw [hX]
       intro x hx
       rcases Qj.1 hx with hx | hx
       ·rcases Qj.1 hx with hx | hx
        ·exact kI_3 x hx
        ·exact kM_3 x hx
       ·exact kK_3 x hx
      have hXl : X.length ≤ 268 := by
       have a1 := Zak hO i (by omega)
       have a2 := Qw4 hO i m (by omega)
       have a3 := Qw2 s.work i m k
       rw [hX,Qh,Qh]; omega
      have hk3 := Qnz X hX3
      have hnd := Qn6 X
      have yM := Qbh X
      have zA := Qbh (X ++ [[(i : Int),(m : Int),(k : Int)]])
      have jO := Qj0 V.i (cntM X) [(i : Int),(m : Int),(k : Int)]
      have cU := Qny X [(i : Int),(m : Int),(k : Int)]
      have zY := Qfz X [(i : Int),(m : Int),(k : Int)]
      obtain ⟨a,ha,hg2⟩ : ∃ a : Int,(0 ≤ a ∧ a ≤ 268) ∧ (aget (cntM X) [(i : Int),(m : Int),(k : Int)]).getD 0 = a ∧ ((avs V.i (cntM X))[(aks (cntM X)).idxOf [(i : Int),(m : Int),(k : Int)]]?).getD (.i 0) = .i a := by
       by_cases hin : [(i : Int),(m : Int),(k : Int)] ∈ X
       ·obtain ⟨n,h1,h2,h3⟩ := cU.1 hin
        rw [h3] at jO
        exact ⟨n,by omega,by rw [h3]; rfl,by rw [jO]; rfl⟩
       ·have h3 := cU.2 hin
        rw [h3] at jO
        exact ⟨0,by omega,by rw [h3]; rfl,by rw [jO]; rfl⟩
      have i4 : inI (a + 1) := by unfold inI; omega
      rw [hg2.1] at zY
      have kC : Blk.map true (putK (aks (cntM X)) [(i : Int),(m : Int),(k : Int)]) ((if [(i : Int),(m : Int),(k : Int)] ∈ aks (cntM X) then avs V.i (cntM X) else avs V.i (cntM X) ++ [.i 0]).set ((aks (cntM X)).idxOf [(i : Int),(m : Int),(k : Int)]) (.i (a + 1))) = mpB (X ++ [[(i : Int),(m : Int),(k : Int)]]) := by
       unfold mpB
       rw [Qwi (Quw _ _),zY,Qeh,← Ql1 hnd]
      have qC : ((aks (cntM X)).idxOf [(i : Int),(m : Int),(k : Int)] : Int) < (putK (aks (cntM X)) [(i : Int),(m : Int),(k : Int)]).length := by
       have : (aks (cntM X)).idxOf [(i : Int),(m : Int),(k : Int)] < (putK (aks (cntM X)) [(i : Int),(m : Int),(k : Int)]).length := by
        unfold putK
        split
        ·rename_i h; exact Z5.2 h
        ·rename_i h; rw [Xk h]; simp
       omega
      have jW := hg2.2
      rw [← hX,hX1]
      generalize mpB (X ++ [[(i : Int),(m : Int),(k : Int)]]) = R at *
      simp only [vG,g3,hw,hf,stC,mpB,Qyg,jW,i4,qC,kC,i3,Qf,Qe,BL,simprocAttr]
      exact hk3
     ·rw [if_neg hf] at uV
      simp only [vG,g3,hw,hf,i3,uV,stC,Qf,Qe,BL,simprocAttr]
    ·have vG : ¬ (((Qav s.work (m : Int)).length : Int) < (Qav s.work (m : Int)).length) := by omega
     have l0 := Qw5 s.work (i : Int) m
     simp only [vG,i2,stC,mpB,Qa0 _ _ _ (Qbh _),l0,← Qs,Qf,Qe,↓BU3,BL,simprocAttr]
   ·have u8 : ¬ ((s.work.makes.length : Int) < s.work.makes.length) := by omega
    have fH := Qw1 s.work i
    simp only [u8,i1,stC,mpB,Qa0 _ _ _ (Qbh _),fH,Qf,Qe,↓BU3,BL,simprocAttr]
  ·have hlt : ¬ ((s.stock.length : Int) < s.stock.length) := by omega
   simp only [hlt,stC,BL,simprocAttr]
   refine Qaq s.stock.length (fun i => ⟨lkp [(2,.pa (Qat s)),(7,.ad 1 0 0),(92,.sl 1 (s.stock.map eI)),(93,.i s.stock.length),(94,.i i)],[mpB (kTI s.work s.stock.length),.cells 0 (stC s (.rf 2 i 0 (Qbu s.stock i).length 2)),.cells i ((Qbu s.stock i).map eSp).flatten]⟩) ?_ ?_ ?_
   ·simp only [Qg,stC,mpB,Qa0 _ _ _ (Qbh _),Qbu,Q3,Q7,Qp,BL,simprocAttr]
   ·intro i hi
    have hlt : (i : Int) < s.stock.length := by omega
    have i1 : inI ((i : Int) + 1) := by unfold inI; omega
    obtain ⟨n,hn⟩ : ∃ n,s.stock[i]? = some n := ⟨_,Qd hi⟩
    have aV := hSh.st n (Qb hn)
    have zZ : 0 ≤ n ∧ n ≤ 1000000 := by omega
    have r1 := Qt0 3 n.toNat (i : Int) 0
    have r2 := Qha (Qa n.toNat ((i : Int),(0 : Int)))
    rw [Q0] at r2
    have r3 : (((Qa n.toNat ((i : Int),(0 : Int))).map eSp).flatten).take (n.toNat * 2) = ((Qa n.toNat ((i : Int),(0 : Int))).map eSp).flatten := Qt (by omega)
    have hsl := Qhu s.stock i
    rw [Qi,hn,Q5] at hsl
    have u7 := Qf3 (fun x hx => (hSh.st x hx).2) i
    have f1 : Qam ((Qbu s.stock i).length + n.toNat) := by unfold Qam; omega
    have yM : Qa8 (((Qbu s.stock i).map eSp).flatten ++ ((Qa n.toNat ((i : Int),(0 : Int))).map eSp).flatten) = false := by rw [Qa2,Qd9,Qd9]; rfl
    simp only [hlt,hn,stC,h61,zZ,r1,r2,r3,Qa0 _ _ _ yM,Qn,Qha,f1,mpB,Qa0 _ _ _ (Qbh _),hsl,Qk,Qm,Qh,i1,Qf,Qe,↓BU3,BL,simprocAttr]
   ·have hlt : ¬ ((s.stock.length : Int) < s.stock.length) := by omega
    simp only [hlt,stC,BL,simprocAttr]
    refine Qaq s.dels.length (fun i => ⟨lkp [(7,.ad 1 0 0),(114,.sl 3 (s.dels.map eDel)),(115,.i s.dels.length),(116,.i i)],[mpB (kTI s.work s.stock.length),.cells 0 (stC s (.rf 2 (s.stock.length + i) 0 (Qbu s.stock s.stock.length ++ delL (s.dels.take i)).length 2)),.cells (s.stock.length + i) ((Qbu s.stock s.stock.length ++ delL (s.dels.take i)).map eSp).flatten]⟩) ?_ ?_ ?_
    ·simp only [Qg,stC,mpB,Qa0 _ _ _ (Qbh _),Qa0 _ _ _ (Qd9 _),delL,Q7,BU2,simprocAttr]
    ·intro i hi
     have hlt : (i : Int) < s.dels.length := by omega
     have hnd := hSh.nde
     have i1 : inI ((i : Int) + 1) := by unfold inI; omega
     obtain ⟨d,hd⟩ : ∃ d,s.dels[i]? = some d := ⟨_,Qd hi⟩
     have yV := hSh.de d (Qb hd)
     have pG : 1 ≤ d.many ∧ d.many ≤ 10 := by
      unfold Qge at yV
      rw [Qo] at yV
      exact Qak.1 yV.2
     have zZ : 0 ≤ d.many ∧ d.many ≤ 1000000 := by omega
     have r1 := Qt0 4 d.many.toNat d.spare d.day
     have r2 := Qha (Qa d.many.toNat (d.spare,d.day))
     rw [Q0] at r2
     have r3 : (((Qa d.many.toNat (d.spare,d.day)).map eSp).flatten).take (d.many.toNat * 2) = ((Qa d.many.toNat (d.spare,d.day)).map eSp).flatten := Qt (by omega)
     have hsl : delL (s.dels.take (i + 1)) = delL (s.dels.take i) ++ Qa d.many.toNat (d.spare,d.day) := by rw [Qa4 hd,Qpb]
     have f1 : Qam ((Qbu s.stock s.stock.length ++ delL (s.dels.take i)).length + d.many.toNat) := by
      have a1 := Qf3 (fun x hx => (hSh.st x hx).2) s.stock.length
      have a2 := Qo2 (l := s.dels.take i) (fun x hx => Qo3 (hSh.de x (Xl hx)))
      rw [Zg] at a2
      rw [Qh]; unfold Qam; omega
     obtain ⟨A,hA⟩ : ∃ A,A = Qbu s.stock s.stock.length ++ delL (s.dels.take i) := ⟨_,rfl⟩
     rw [hsl,← Qs,← hA]
     rw [← hA] at f1
     have yM : Qa8 ((A.map eSp).flatten ++ ((Qa d.many.toNat (d.spare,d.day)).map eSp).flatten) = false := by rw [Qa2,Qd9,Qd9]; rfl
     have e1 : s.stock.length + (i + 1) = s.stock.length + i + 1 := rfl
     simp only [hlt,hd,stC,h61,zZ,r1,r2,r3,e1,Qa0 _ _ _ yM,Qn,Qha,f1,mpB,Qa0 _ _ _ (Qbh _),Qk,Qm,Qh,i1,Qf,Qe,↓BU3,BL,simprocAttr]
    ·have hlt : ¬ ((s.dels.length : Int) < s.dels.length) := by omega
     have z6 : Qbu s.stock s.stock.length ++ delL (s.dels.take s.dels.length) = Qbc s := by rw [Zb]; rfl
     rw [z6]
     have h1 := Qry (Qbc s)
     have h2 : avs V.i (cntM (kTI s.work s.stock.length)) = avs V.i (Qca s.work) := by rw [hlen]; rfl
     have h3 : aks (cntM (kTI s.work s.stock.length)) = aks (Qca s.work) := by rw [hlen]; rfl
     have h4 : Qjs s true = .tp [.pa (Qba s),.i 0] := by unfold Qjs; rw [hE,e0]; rfl
     simp only [hlt,stC,Qha,Qn,h1,Zlx,Zfr,mpB,h2,h3,h4,Qba,Zcg,BU2,simprocAttr]
 ·have e0 : Qb5 s.work true = 0 := by
   have h1 : Qco s.work = 0 := by
    unfold Qcl at h0
    split at h0
    ·rename_i h2; exact absurd h0 h2
    ·omega
   have h2 : Qcu s.work = false := by
    have : s.work.spares.length = 0 := by omega
    simp [Qcu,this]
   simp [Qb5,h1,h2]
  simp only [rc22,rs22,g1,hs,h0,hz,↓BU3,BL,simprocAttr]
  refine Qaq s.stock.length (fun i => ⟨lkp [(2,.pa (Qat s)),(7,.ad 1 0 0),(46,.i s.stock.length),(47,.i i)],[mpB (kTI s.work i),.cells 0 (stC s (.z 2))]⟩) ?_ ?_ ?_
  ·simp only [Qg,mpB,cntM,kTI,Q3,Q7,aks,avs,stC,BL,simprocAttr]
  ·intro i hi
   have hlt : (i : Int) < s.stock.length := by omega
   have i1 : inI ((i : Int) + 1) := by unfold inI; omega
   have fG : isSp s.work (i : Int) = true := Qak.2 (by omega)
   simp only [hlt,stC,BL,simprocAttr]
   refine Qaq s.work.makes.length (fun m => ⟨lkp [(2,.pa (Qat s)),(7,.ad 1 0 0),(10,.i i),(46,.i s.stock.length),(47,.i i),(52,.sl 1 (s.work.makes.map eMake)),(53,.i s.work.makes.length),(54,.i m)],[mpB (kTI s.work i ++ kM s.work i m),.cells 0 (stC s (.z 2))]⟩) ?_ ?_ ?_
   ·simp only [Qg,stC,mpB,Qa0 _ _ _ (Qbh _),kM,Q3,Q7,BL,simprocAttr]
   ·intro m hm
    have u8 : (m : Int) < s.work.makes.length := by omega
    have wM := hO.nmk
    have i2 : inI ((m : Int) + 1) := by unfold inI; omega
    have lY := (Qdo (w := s.work) (m := (m : Int)) (Qak.2 (by omega))).2.2
    have y3 : s.work.makes[m]? = some (Qav s.work (m : Int)) := by simpa using lY
    have lZ := (hO.make _ (Qb y3)).1
    simp only [u8,y3,stC,BL,simprocAttr]
    refine Qaq (Qav s.work (m : Int)).length (fun k => ⟨lkp [(2,.pa (Qat s)),(7,.ad 1 0 0),(10,.i i),(11,.i m),(46,.i s.stock.length),(47,.i i),(52,.sl 1 (s.work.makes.map eMake)),(53,.i s.work.makes.length),(54,.i m),(61,.i (Qav s.work (m : Int)).length),(62,.i k)],[mpB (kTI s.work i ++ kM s.work i m ++ kK s.work i m k),.cells 0 (stC s (.z 2)),.cells 0 [.sl 4 ((Qav s.work (m : Int)).map eSlot)]]⟩) ?_ ?_ ?_
    ·simp only [Qg,stC,mpB,kK,Q3,Jd,BL,simprocAttr]
    ·intro k hk
     have vG : (k : Int) < (Qav s.work (m : Int)).length := by omega
     have i3 : inI ((k : Int) + 1) := by unfold inI; omega
     have hsl : Qay s.work (m : Int) (k : Int) = true := by
      unfold Qay
      rw [Qo]
      exact ⟨Qak.2 (by omega),Qak.2 (by omega)⟩
     have g3 := Qzv s.work i m k
     unfold Qtt at g3
     rw [fG,hsl] at g3
     simp only [Zf,e0,if_true,Qai] at g3
     have uV := Qw3 s.work i m k
     by_cases hf : fitN s.work (i : Int) (m : Int) (k : Int) = 1
     ·rw [if_pos hf] at uV
      obtain ⟨X,hX⟩ : ∃ X,X = kTI s.work i ++ kM s.work (i : Int) m ++ kK s.work (i : Int) (m : Int) k := ⟨_,rfl⟩
      have hX1 : kTI s.work i ++ kM s.work (i : Int) m ++ kK s.work (i : Int) (m : Int) (k + 1) = X ++ [[(i : Int),(m : Int),(k : Int)]] := by rw [uV,hX]; simp
      have hX3 : ∀ x ∈ X,x.length = 3 := by
       rw [hX]
       intro x hx
       rcases Qj.1 hx with hx | hx
       ·rcases Qj.1 hx with hx | hx
        ·exact kI_3 x hx
        ·exact kM_3 x hx
       ·exact kK_3 x hx
      have hXl : X.length ≤ 268 := by
       have a1 := Zak hO i (by omega)
       have a2 := Qw4 hO i m (by omega)
       have a3 := Qw2 s.work i m k
       rw [hX,Qh,Qh]; omega
      have hk3 := Qnz X hX3
      have hnd := Qn6 X
      have yM := Qbh X
      have zA := Qbh (X ++ [[(i : Int),(m : Int),(k : Int)]])
      have jO := Qj0 V.i (cntM X) [(i : Int),(m : Int),(k : Int)]
      have cU := Qny X [(i : Int),(m : Int),(k : Int)]
      have zY := Qfz X [(i : Int),(m : Int),(k : Int)]
      obtain ⟨a,ha,hg2⟩ : ∃ a : Int,(0 ≤ a ∧ a ≤ 268) ∧ (aget (cntM X) [(i : Int),(m : Int),(k : Int)]).getD 0 = a ∧ ((avs V.i (cntM X))[(aks (cntM X)).idxOf [(i : Int),(m : Int),(k : Int)]]?).getD (.i 0) = .i a := by
       by_cases hin : [(i : Int),(m : Int),(k : Int)] ∈ X
       ·obtain ⟨n,h1,h2,h3⟩ := cU.1 hin
        rw [h3] at jO
        exact ⟨n,by omega,by rw [h3]; rfl,by rw [jO]; rfl⟩
       ·have h3 := cU.2 hin
        rw [h3] at jO
        exact ⟨0,by omega,by rw [h3]; rfl,by rw [jO]; rfl⟩
      have i4 : inI (a + 1) := by unfold inI; omega
      rw [hg2.1] at zY
      have kC : Blk.map true (putK (aks (cntM X)) [(i : Int),(m : Int),(k : Int)]) ((if [(i : Int),(m : Int),(k : Int)] ∈ aks (cntM X) then avs V.i (cntM X) else avs V.i (cntM X) ++ [.i 0]).set ((aks (cntM X)).idxOf [(i : Int),(m : Int),(k : Int)]) (.i (a + 1))) = mpB (X ++ [[(i : Int),(m : Int),(k : Int)]]) := by
       unfold mpB
       rw [Qwi (Quw _ _),zY,Qeh,← Ql1 hnd]
      have qC : ((aks (cntM X)).idxOf [(i : Int),(m : Int),(k : Int)] : Int) < (putK (aks (cntM X)) [(i : Int),(m : Int),(k : Int)]).length := by
       have : (aks (cntM X)).idxOf [(i : Int),(m : Int),(k : Int)] < (putK (aks (cntM X)) [(i : Int),(m : Int),(k : Int)]).length := by
        unfold putK
        split
        ·rename_i h; exact Z5.2 h
        ·rename_i h; rw [Xk h]; simp
       omega
      have jW := hg2.2
      rw [← hX,hX1]
      generalize mpB (X ++ [[(i : Int),(m : Int),(k : Int)]]) = R at *
      simp only [vG,g3,hw,hf,stC,mpB,Qyg,jW,i4,qC,kC,i3,Qf,Qe,BL,simprocAttr]
      exact hk3
     ·rw [if_neg hf] at uV
      simp only [vG,g3,hw,hf,i3,uV,stC,Qf,Qe,BL,simprocAttr]
    ·have vG : ¬ (((Qav s.work (m : Int)).length : Int) < (Qav s.work (m : Int)).length) := by omega
     have l0 := Qw5 s.work (i : Int) m
     simp only [vG,i2,stC,mpB,Qa0 _ _ _ (Qbh _),l0,← Qs,Qf,Qe,↓BU3,BL,simprocAttr]
   ·have u8 : ¬ ((s.work.makes.length : Int) < s.work.makes.length) := by omega
    have fH := Qw1 s.work i
    simp only [u8,i1,stC,mpB,Qa0 _ _ _ (Qbh _),fH,Qf,Qe,↓BU3,BL,simprocAttr]
  ·have hlt : ¬ ((s.stock.length : Int) < s.stock.length) := by omega
   simp only [hlt,stC,BL,simprocAttr]
   refine Qaq s.stock.length (fun i => ⟨lkp [(2,.pa (Qat s)),(7,.ad 1 0 0),(92,.sl 1 (s.stock.map eI)),(93,.i s.stock.length),(94,.i i)],[mpB (kTI s.work s.stock.length),.cells 0 (stC s (.rf 2 i 0 (Qbu s.stock i).length 2)),.cells i ((Qbu s.stock i).map eSp).flatten]⟩) ?_ ?_ ?_
   ·simp only [Qg,stC,mpB,Qa0 _ _ _ (Qbh _),Qbu,Q3,Q7,Qp,BL,simprocAttr]
   ·intro i hi
    have hlt : (i : Int) < s.stock.length := by omega
    have i1 : inI ((i : Int) + 1) := by unfold inI; omega
    obtain ⟨n,hn⟩ : ∃ n,s.stock[i]? = some n := ⟨_,Qd hi⟩
    have aV := hSh.st n (Qb hn)
    have zZ : 0 ≤ n ∧ n ≤ 1000000 := by omega
    have r1 := Qt0 3 n.toNat (i : Int) 0
    have r2 := Qha (Qa n.toNat ((i : Int),(0 : Int)))
    rw [Q0] at r2
    have r3 : (((Qa n.toNat ((i : Int),(0 : Int))).map eSp).flatten).take (n.toNat * 2) = ((Qa n.toNat ((i : Int),(0 : Int))).map eSp).flatten := Qt (by omega)
    have hsl := Qhu s.stock i
    rw [Qi,hn,Q5] at hsl
    have u7 := Qf3 (fun x hx => (hSh.st x hx).2) i
    have f1 : Qam ((Qbu s.stock i).length + n.toNat) := by unfold Qam; omega
    have yM : Qa8 (((Qbu s.stock i).map eSp).flatten ++ ((Qa n.toNat ((i : Int),(0 : Int))).map eSp).flatten) = false := by rw [Qa2,Qd9,Qd9]; rfl
    simp only [hlt,hn,stC,h61,zZ,r1,r2,r3,Qa0 _ _ _ yM,Qn,Qha,f1,mpB,Qa0 _ _ _ (Qbh _),hsl,Qk,Qm,Qh,i1,Qf,Qe,↓BU3,BL,simprocAttr]
   ·have hlt : ¬ ((s.stock.length : Int) < s.stock.length) := by omega
    simp only [hlt,stC,BL,simprocAttr]
    refine Qaq s.dels.length (fun i => ⟨lkp [(7,.ad 1 0 0),(114,.sl 3 (s.dels.map eDel)),(115,.i s.dels.length),(116,.i i)],[mpB (kTI s.work s.stock.length),.cells 0 (stC s (.rf 2 (s.stock.length + i) 0 (Qbu s.stock s.stock.length ++ delL (s.dels.take i)).length 2)),.cells (s.stock.length + i) ((Qbu s.stock s.stock.length ++ delL (s.dels.take i)).map eSp).flatten]⟩) ?_ ?_ ?_
    ·simp only [Qg,stC,mpB,Qa0 _ _ _ (Qbh _),Qa0 _ _ _ (Qd9 _),delL,Q7,BU2,simprocAttr]
    ·intro i hi
     have hlt : (i : Int) < s.dels.length := by omega
     have hnd := hSh.nde
     have i1 : inI ((i : Int) + 1) := by unfold inI; omega
     obtain ⟨d,hd⟩ : ∃ d,s.dels[i]? = some d := ⟨_,Qd hi⟩
     have yV := hSh.de d (Qb hd)
     have pG : 1 ≤ d.many ∧ d.many ≤ 10 := by
      unfold Qge at yV
      rw [Qo] at yV
      exact Qak.1 yV.2
     have zZ : 0 ≤ d.many ∧ d.many ≤ 1000000 := by omega
     have r1 := Qt0 4 d.many.toNat d.spare d.day
     have r2 := Qha (Qa d.many.toNat (d.spare,d.day))
     rw [Q0] at r2
     have r3 : (((Qa d.many.toNat (d.spare,d.day)).map eSp).flatten).take (d.many.toNat * 2) = ((Qa d.many.toNat (d.spare,d.day)).map eSp).flatten := Qt (by omega)
     have hsl : delL (s.dels.take (i + 1)) = delL (s.dels.take i) ++ Qa d.many.toNat (d.spare,d.day) := by rw [Qa4 hd,Qpb]
     have f1 : Qam ((Qbu s.stock s.stock.length ++ delL (s.dels.take i)).length + d.many.toNat) := by
      have a1 := Qf3 (fun x hx => (hSh.st x hx).2) s.stock.length
      have a2 := Qo2 (l := s.dels.take i) (fun x hx => Qo3 (hSh.de x (Xl hx)))
      rw [Zg] at a2
      rw [Qh]; unfold Qam; omega
     obtain ⟨A,hA⟩ : ∃ A,A = Qbu s.stock s.stock.length ++ delL (s.dels.take i) := ⟨_,rfl⟩
     rw [hsl,← Qs,← hA]
     rw [← hA] at f1
     have yM : Qa8 ((A.map eSp).flatten ++ ((Qa d.many.toNat (d.spare,d.day)).map eSp).flatten) = false := by rw [Qa2,Qd9,Qd9]; rfl
     have e1 : s.stock.length + (i + 1) = s.stock.length + i + 1 := rfl
     simp only [hlt,hd,stC,h61,zZ,r1,r2,r3,e1,Qa0 _ _ _ yM,Qn,Qha,f1,mpB,Qa0 _ _ _ (Qbh _),Qk,Qm,Qh,i1,Qf,Qe,↓BU3,BL,simprocAttr]
    ·have hlt : ¬ ((s.dels.length : Int) < s.dels.length) := by omega
     have z6 : Qbu s.stock s.stock.length ++ delL (s.dels.take s.dels.length) = Qbc s := by rw [Zb]; rfl
     rw [z6]
     have h1 := Qry (Qbc s)
     have h2 : avs V.i (cntM (kTI s.work s.stock.length)) = avs V.i (Qca s.work) := by rw [hlen]; rfl
     have h3 : aks (cntM (kTI s.work s.stock.length)) = aks (Qca s.work) := by rw [hlen]; rfl
     have h4 : Qjs s true = .tp [.pa (Qba s),.i 0] := by unfold Qjs; rw [hE,e0]; rfl
     simp only [hlt,stC,Qha,Qn,h1,Zlx,Zfr,mpB,h2,h3,h4,Qba,Zcg,BU2,simprocAttr]
def K77 := K76.ext 22 (fnG eHB dHB (fun a => SmallS a.1) (fun a => Qjs a.1 a.2) (fun v => v))
def Zki : GOk TP K77 := Zkh.ext call22 (Qa7 fun a h => W34 a.1 a.2 h)
def h34 (s : Shop) (is : Bool) : K77 22 [.ag (Qat s),.b is] = (SmallS s,Qjs s is) := (kx K77 22 (Zhn (s,is)) rfl :)
structure Job where
 maker : Int
 slot : Int
 day : Int
 deriving DecidableEq
def eJob (j : Job) : List V := [.i j.maker,.i j.slot,.i j.day]
def dJob : List V → Job | [.i a,.i b,.i c] => ⟨a,b,c⟩ | _ => ⟨0,0,0⟩
def Zac (j : Job) : dJob (eJob j) = j := rfl
def Qln (s : Shop) (p : Int × Int) (j : Job) : Bool := decide (p.2 ≤ j.day) && decide (0 < (aget (Qca s.work) [p.1,j.maker,j.slot]).getD 0)
def Zia (w : Work) : ∀ k ∈ aks (Qca w),k.length = 3 := Qnz _ kI_3
def Qym (w : Work) (k : List Int) : ((avs V.i (Qca w))[(aks (Qca w)).idxOf k]?).getD (.i 0) = .i ((aget (Qca w) k).getD 0) := by
 rw [Qj0]
 cases aget (Qca w) k <;> rfl
def W64 (s : Shop) (p : Int × Int) (j : Job) : Qa1 TP 121 [.pa (Qba s),.ag (eSp p),.ag (eJob j)] (.b (Qln s p j)) := by
 refine pc Zki func121 Zn8 ?_
 have h3 := Zia s.work
 have hg := Qym s.work [p.1,j.maker,j.slot]
 unfold Qln
 by_cases e : p.2 ≤ j.day
 ·simp only [rc121,rs121,Qba,eSp,eJob,e,Qyg,hg,BU2,simprocAttr]
  exact h3
 ·simp only [rc121,rs121,Qba,eSp,eJob,e,Qyg,hg,BU2,simprocAttr]
def eG (a : Shop × (Int × Int) × Job) : List V := [.pa (Qba a.1),.ag (eSp a.2.1),.ag (eJob a.2.2)]
def dG : List V → Shop × (Int × Int) × Job | [.pa s,.ag p,.ag j] => (Qd4 s,dSp p,dJob j) | _ => (Qd4 [],(0,0),⟨0,0,0⟩)
def dG_e (a : Shop × (Int × Int) × Job) : dG (eG a) = a := by obtain ⟨s,p,j⟩ := a; simp [dG,eG,Qgn,Qtn,Zac]
def K78 := K77.ext 121 (fnG eG dG (fun _ => True) (fun a => Qln a.1 a.2.1 a.2.2) (.b))
def Zey : GOk TP K78 := Zki.ext call121 (Qa7 fun a h => W64 a.1 a.2.1 a.2.2)
def h64 (s : Shop) (p : Int × Int) (j : Job) : K78 121 [.pa (Qba s),.ag (eSp p),.ag (eJob j)] = (True,.b (Qln s p j)) := (kx K78 121 (dG_e (s,p,j)) rfl :)
def Qbb (s : Shop) (i : Nat) : Wish := s.wishes.getD i ⟨[],⟨0,0⟩,0,0,0⟩
def Qax (s : Shop) (i : Int) : Piece := s.pieces.getD i.toNat ⟨0,0,0,0,[]⟩
def dayN (s : Shop) (x : Wish) (p : Piece) : Int := if Qcf x p = 2 then x.due - s.carve else x.due
def jobW (s : Shop) (i : Nat) (piece : Int) : Option (List Job) :=
 if piece < 0 then some [] else if Qcf (Qbb s i) (Qax s piece) = 0 then none else
  if dayN s (Qbb s i) (Qax s piece) < 0 then none else some ((Qax s piece).broken.map fun k => ⟨(Qax s piece).make,k,dayN s (Qbb s i) (Qax s piece)⟩)
def Qet (s : Shop) (plan : List Int) : Nat → Option (List Job)
 | 0 => some []
 | k + 1 => match Qet s plan k,jobW s k (plan.getD k 0) with
  | some a,some b => some (a ++ b)
  | _,_ => none
def Qfa (s : Shop) (plan : List Int) : Option (List Job) := Qet s plan plan.length
def Qr0 : Option (List Job) → V | some l => .tp [.sl 3 (l.map eJob),.b true] | none => .tp [.sl 3 [],.b false]
def Qjl {s : Shop} {plan : List Int} {k : Nat} (h : Qet s plan k = none) : ∀ n, k ≤ n → Qet s plan n = none
  | 0, hn => by have : k = 0 := by omega
                subst this; exact h
  | n + 1, hn => by
    by_cases e : k = n + 1
    · subst e; exact h
    · have := Qjl h n (by omega)
      simp only [Qet, this]
def Qey {s : Shop} {x : Int} (h : 0 ≤ x ∧ x < s.pieces.length) : s.pieces[x.toNat]? = some (Qax s x) := by
 unfold Qax
 rw [Qi,Qd (by omega)]; rfl
def Qfj {s : Shop} {i : Nat} (h : i < s.wishes.length) : s.wishes[i]? = some (Qbb s i) := by
 unfold Qbb
 rw [Qi,Qd h]; rfl
structure OkSt (s : Shop) : Prop where
 w : OkW s.work
 s : OkSh s
structure OkPl (s : Shop) (plan : List Int) : Prop where
 st : OkSt s
 len : plan.length ≤ s.wishes.length
 pc : ∀ x ∈ plan,x < s.pieces.length
def Qwe (l : List Job) : ((l.map eJob).flatten).length = l.length * 3 := Qaf (e := eJob) (k := 3) (fun _ => rfl) l
def Qop (l : List Job) : Qa8 ((l.map eJob).flatten) = false := Qa5 (e := eJob) (fun _ => rfl) l
def Qy5 (l : List Job) : Qbi 3 ((l.map eJob).flatten) 0 l.length = l.map eJob := Qa9 (e := eJob) (k := 3) (fun _ => rfl) l
def Zqc (hp : List Blk) (n : Nat) (l : List Job) : (l.map eJob).map (fun r => r.map (vw hp (n + 1))) = l.map eJob := Qa6 (e := eJob) hp (n + 1) (fun _ => rfl) l
def Ql3 {s : Shop} {p : Piece} (hw : OkW s.work) (h : Qc7 s p = true) : p.broken.length ≤ 4 := by
 unfold Qc7 at h
 simp only [Qo] at h
 obtain ⟨⟨_,hm⟩,hr⟩ := h
 unfold risB at hr
 rw [Qo] at hr
 obtain ⟨h1,h2,h3⟩ := Qdo hm
 have hl := (hw.make _ (Qb h3)).1
 have hin : ∀ x ∈ p.broken,0 ≤ x ∧ x ≤ (Qav s.work p.make).length - 1 := fun x hx => Qak.1 (Zs.1 hr.1 x hx)
 have hlt : ∀ (k : Nat) (x : Int),p.broken[k]? = some x → (k : Int) ≤ x := by
  intro k
  induction k with
  | zero => intro x hx; exact (hin x (Qb hx)).1
  | succ k ih =>
   intro x hx
   obtain ⟨y,hy⟩ : ∃ y,p.broken[k]? = some y := ⟨_,Qd (by have := Qag hx; omega)⟩
   have := (Qdk _).1 hr.2 k y x hy hx
   have := ih y hy
   omega
 by_cases h0 : p.broken.length = 0
 ·omega
 ·obtain ⟨x,hx⟩ : ∃ x,p.broken[p.broken.length - 1]? = some x := ⟨_,Qd (by omega)⟩
  have h4 := hlt _ x hx
  have h5 := (hin x (Qb hx)).2
  omega
def Zg0 (x : Wish) (p : Piece) := lft K78 (h63 x p) rfl
def Qib {s : Shop} {plan : List Int} (h : OkPl s plan) : ∀ (k : Nat) (l : List Job),k ≤ plan.length → Qet s plan k = some l → l.length ≤ k * 4
 | 0,l,_,e => by simp only [Qet,Xm.injEq] at e; subst e; simp
 | k + 1,l,hk,e => by
  simp only [Qet] at e
  cases e1 : Qet s plan k with
  | none => rw [e1] at e; cases e
  | some a =>
   cases e2 : jobW s k (plan.getD k 0) with
   | none => rw [e1,e2] at e; cases e
   | some b =>
    rw [e1,e2] at e
    simp only [Xm.injEq] at e
    have h1 := Qib h k a (by omega) e1
    have h2 : b.length ≤ 4 := by
     unfold jobW at e2
     split at e2
     ·cases e2; simp
     ·rename_i hn
      split at e2
      ·cases e2
      ·split at e2
       ·cases e2
       ·cases e2
        rw [Zc]
        have hx : plan.getD k 0 < s.pieces.length := by
         rw [Qi,Qd (by omega),Q5]
         exact h.pc _ (X3 _)
        have hg := Qey (s := s) (x := plan.getD k 0) ⟨by omega,hx⟩
        exact Ql3 h.st.w (h.st.s.pc _ (Qb hg))
    rw [← e,Qh]; omega
def W36 (s : Shop) (plan : List Int) (h : OkPl s plan) : Qa1 TP 47 [.pa (Qba s),.sl 1 (plan.map eI)] (Qr0 (Qfa s plan)) := by
 refine pc Zey func47 cf47 ?_
 have hlen := h.len
 have uC := h.st.s.nwi
 have jN : Qba s = [.sl 4 (s.work.spares.map eSpare),.sl 1 (s.work.makes.map eMake),.i s.work.cut,.sl 4 (s.work.table.map eTrial),.sl 1 (s.stock.map eI),.sl 5 (s.pieces.map ePiece),.sl 6 (s.wishes.map eWish),.sl 3 (s.dels.map eDel),.i s.carve,.sl 2 ((Qbc s).map eSp),.pm true (aks (Qca s.work)) (avs .i (Qca s.work))] := rfl
 generalize (Qbc s).map eSp = sp0 at jN
 generalize aks (Qca s.work) = ks0 at jN
 generalize avs V.i (Qca s.work) = vs0 at jN
 rw [jN]
 have jX : ∀ k,k ≤ plan.length → Qet s plan k = none → Qr0 (Qfa s plan) = .tp [.sl 3 [],.b false] := fun k hk e => by
  unfold Qfa
  rw [Qjl e _ hk]; rfl
 simp only [rc47,rs47,BU2,simprocAttr]
 refine Qac plan.length (fun i (A : List Job) => ⟨lkp [(0,.pa [.sl 4 (s.work.spares.map eSpare),.sl 1 (s.work.makes.map eMake),.i s.work.cut,.sl 4 (s.work.table.map eTrial),.sl 1 (s.stock.map eI),.sl 5 (s.pieces.map ePiece),.sl 6 (s.wishes.map eWish),.sl 3 (s.dels.map eDel),.i s.carve,.sl 2 sp0,.pm true ks0 vs0]),(6,.rf 0 A.length 0 A.length 3),(14,.sl 1 (plan.map eI)),(15,.i plan.length),(16,.i i)],[.cells A.length (A.map eJob).flatten]⟩)
  (fun i A => Qet s plan i = some A) [] ?_ rfl ?_ ?_
 ·simp only [Qg,Qp,BU2,simprocAttr]
 ·intro i A hi hA
  have hlt : (i : Int) < plan.length := by omega
  have i1 : inI ((i : Int) + 1) := by unfold inI; omega
  obtain ⟨x,hx⟩ : ∃ x,plan[i]? = some x := ⟨_,Qd hi⟩
  have wO : plan.getD i 0 = x := by rw [Qi,hx]; rfl
  have mA := h.pc x (Qb hx)
  have hAl := Qib h i A (by omega) hA
  have jI : Qet s plan (i + 1) = match jobW s i x with | some b => some (A ++ b) | none => none := by
   simp only [Qet,hA,wO]
   cases jobW s i x <;> rfl
  by_cases x0 : x < 0
  ·have hW : jobW s i x = some [] := by unfold jobW; rw [if_pos x0]
   rw [hW] at jI
   simp only [Zk] at jI
   simp only [hlt,hx,x0,i1,Qa0 _ _ _ (Qop _),Qf,Qe,BL,simprocAttr]
   exact ⟨A,jI,rfl⟩
  have uW := Qfj (s := s) (i := i) (by omega)
  have qZ := Qey (s := s) (x := x) ⟨by omega,mA⟩
  have vR := h.st.s.wi _ (Qb uW)
  have b7 := h.st.s.pc _ (Qb qZ)
  have hbl := Ql3 h.st.w b7
  have vM : (Qbb s i).colors.length < 10000000 := by
   unfold okWish at vR
   simp only [Qo,Qak] at vR
   omega
  have mB : 0 ≤ (Qbb s i).due ∧ (Qbb s i).due ≤ 99 := by
   unfold okWish at vR
   simp only [Qo,Qak] at vR
   exact vR.1.2
  have mC := h.st.s.carve
  have g := Zg0 (Qbb s i) (Qax s x)
  simp only [eWish,ePiece] at g
  have q5 : (i : Int) < s.wishes.length := by omega
  have xF : 0 ≤ x ∧ x < s.pieces.length := by omega
  have hWx : jobW s i x = if Qcf (Qbb s i) (Qax s x) = 0 then none else if dayN s (Qbb s i) (Qax s x) < 0 then none else some ((Qax s x).broken.map fun k => ⟨(Qax s x).make,k,dayN s (Qbb s i) (Qax s x)⟩) := by unfold jobW; rw [if_neg x0]
  have v6 : dayN s (Qbb s i) (Qax s x) = if Qcf (Qbb s i) (Qax s x) = 2 then (Qbb s i).due - s.carve else (Qbb s i).due := rfl
  generalize Qbb s i = X at *
  generalize Qax s x = p at *
  by_cases s0 : Qcf X p = 0
  ·rw [if_pos s0] at hWx
   rw [hWx] at jI
   have q := jX (i + 1) (by omega) jI
   simp only [hlt,hx,x0,uW,qZ,q5,xF,g,vM,s0,q,BL,simprocAttr]
  rw [if_neg s0] at hWx
  by_cases s2 : Qcf X p = 2
  ·have i3 : inI (X.due - s.carve) := by unfold inI; omega
   rw [if_pos s2] at v6
   by_cases d0 : X.due - s.carve < 0
   ·rw [if_pos (by rw [v6]; exact d0)] at hWx
    rw [hWx] at jI
    have q := jX (i + 1) (by omega) jI
    simp only [hlt,hx,x0,uW,qZ,q5,xF,g,vM,s2,i3,d0,q,BL,simprocAttr]
   ·rw [if_neg (by rw [v6]; exact d0)] at hWx
    simp only [hlt,hx,x0,uW,qZ,q5,xF,g,vM,s2,i3,d0,BL,simprocAttr]
    rw [hWx] at jI
    obtain ⟨D,hD⟩ : ∃ D,D = dayN s X p := ⟨_,rfl⟩
    rw [← hD] at jI v6
    refine Qaq p.broken.length (fun j => ⟨lkp [(0,.pa [.sl 4 (s.work.spares.map eSpare),.sl 1 (s.work.makes.map eMake),.i s.work.cut,.sl 4 (s.work.table.map eTrial),.sl 1 (s.stock.map eI),.sl 5 (s.pieces.map ePiece),.sl 6 (s.wishes.map eWish),.sl 3 (s.dels.map eDel),.i s.carve,.sl 2 sp0,.pm true ks0 vs0]),(6,.rf 0 (A.length + j) 0 (A.length + j) 3),(10,.ad 2 0 0),(11,.i D),(14,.sl 1 (plan.map eI)),(15,.i plan.length),(16,.i i),(58,.sl 1 (p.broken.map eI)),(59,.i p.broken.length),(60,.i j)],
      [.cells (A.length + j) ((A ++ (p.broken.take j).map fun k => (⟨p.make,k,D⟩ : Job)).map eJob).flatten,.cells 0 [.sl 1 (X.colors.map eI),.i X.size.low,.i X.size.high,.i X.letter,.i X.due,.i X.price],.cells 0 [.i p.color,.i p.size,.i p.letter,.i p.make,.sl 1 (p.broken.map eI)]]⟩) ?_ ?_ ?_
    ·simp only [Qg,v6,BU2,simprocAttr]
    ·intro j hj
     obtain ⟨k,hk⟩ : ∃ k,p.broken[j]? = some k := ⟨_,Qd hj⟩
     have xU : (j : Int) < p.broken.length := by omega
     have i4 : inI ((j : Int) + 1) := by unfold inI; omega
     have f1 : Qam (A.length + j + 1) := by unfold Qam; omega
     have xR : (A ++ (p.broken.take j).map fun k => (⟨p.make,k,D⟩ : Job)).length = A.length + j := by rw [Qh,Zc,Zg]; omega
     have yS := Qa4 hk
     have e1 : A.length + (j + 1) = A.length + j + 1 := rfl
     have uD : A ++ (p.broken.take (j + 1)).map (fun k => (⟨p.make,k,D⟩ : Job)) = (A ++ (p.broken.take j).map fun k => (⟨p.make,k,D⟩ : Job)) ++ [⟨p.make,k,D⟩] := by rw [yS,Qk,Qs]; rfl
     rw [uD]
     generalize A ++ (p.broken.take j).map (fun k => (⟨p.make,k,D⟩ : Job)) = B at *
     simp only [xU,hk,i4,f1,e1,Qwe,xR,Qk,Qm,Qx,Qp,eJob,Qf,Qe,BL,simprocAttr]
    ·have xU : ¬ ((p.broken.length : Int) < p.broken.length) := by omega
     simp only [xU,i1,Zb,Qa0 _ _ _ (Qop _),Qf,Qe,BU2,simprocAttr]
     refine ⟨A ++ p.broken.map _,jI,?_⟩
     rw [Qh,Zc]
  ·rw [if_neg s2] at v6
   have d0 : ¬ X.due < 0 := by omega
   rw [if_neg (by rw [v6]; exact d0)] at hWx
   simp only [hlt,hx,x0,uW,qZ,q5,xF,g,vM,s0,s2,d0,BL,simprocAttr]
   rw [hWx] at jI
   obtain ⟨D,hD⟩ : ∃ D,D = dayN s X p := ⟨_,rfl⟩
   rw [← hD] at jI v6
   refine Qaq p.broken.length (fun j => ⟨lkp [(0,.pa [.sl 4 (s.work.spares.map eSpare),.sl 1 (s.work.makes.map eMake),.i s.work.cut,.sl 4 (s.work.table.map eTrial),.sl 1 (s.stock.map eI),.sl 5 (s.pieces.map ePiece),.sl 6 (s.wishes.map eWish),.sl 3 (s.dels.map eDel),.i s.carve,.sl 2 sp0,.pm true ks0 vs0]),(6,.rf 0 (A.length + j) 0 (A.length + j) 3),(10,.ad 2 0 0),(11,.i D),(14,.sl 1 (plan.map eI)),(15,.i plan.length),(16,.i i),(58,.sl 1 (p.broken.map eI)),(59,.i p.broken.length),(60,.i j)],
     [.cells (A.length + j) ((A ++ (p.broken.take j).map fun k => (⟨p.make,k,D⟩ : Job)).map eJob).flatten,.cells 0 [.sl 1 (X.colors.map eI),.i X.size.low,.i X.size.high,.i X.letter,.i X.due,.i X.price],.cells 0 [.i p.color,.i p.size,.i p.letter,.i p.make,.sl 1 (p.broken.map eI)]]⟩) ?_ ?_ ?_
   ·simp only [Qg,v6,BU2,simprocAttr]
   ·intro j hj
    obtain ⟨k,hk⟩ : ∃ k,p.broken[j]? = some k := ⟨_,Qd hj⟩
    have xU : (j : Int) < p.broken.length := by omega
    have i4 : inI ((j : Int) + 1) := by unfold inI; omega
    have f1 : Qam (A.length + j + 1) := by unfold Qam; omega
    have xR : (A ++ (p.broken.take j).map fun k => (⟨p.make,k,D⟩ : Job)).length = A.length + j := by rw [Qh,Zc,Zg]; omega
    have yS := Qa4 hk
    have e1 : A.length + (j + 1) = A.length + j + 1 := rfl
    have uD : A ++ (p.broken.take (j + 1)).map (fun k => (⟨p.make,k,D⟩ : Job)) = (A ++ (p.broken.take j).map fun k => (⟨p.make,k,D⟩ : Job)) ++ [⟨p.make,k,D⟩] := by rw [yS,Qk,Qs]; rfl
    rw [uD]
    generalize A ++ (p.broken.take j).map (fun k => (⟨p.make,k,D⟩ : Job)) = B at *
    simp only [xU,hk,i4,f1,e1,Qwe,xR,Qk,Qm,Qx,Qp,eJob,Qf,Qe,BL,simprocAttr]
   ·have xU : ¬ ((p.broken.length : Int) < p.broken.length) := by omega
    simp only [xU,i1,Zb,Qa0 _ _ _ (Qop _),Qf,Qe,BU2,simprocAttr]
    refine ⟨A ++ p.broken.map _,jI,?_⟩
    rw [Qh,Zc]
 ·intro A hA
  have hlt : ¬ ((plan.length : Int) < plan.length) := by omega
  have q : Qfa s plan = some A := hA
  simp only [hlt,q,Qr0,Qwe,Qn,Qy5,Zqc,BU2,simprocAttr]
def takK (s : Shop) (plan : List Int) (k : Nat) : Int := ((Ql k).map fun (i : Nat) => if plan.getD i 0 = -1 then 0 else (Qbb s i).price).sum
def takN (s : Shop) (plan : List Int) : Int := takK s plan plan.length
def Qqg (s : Shop) (plan : List Int) (k : Nat) : takK s plan (k + 1) = takK s plan k + if plan.getD k 0 = -1 then 0 else (Qbb s k).price := by
 unfold takK
 rw [Zj,Qk,List.sum_append]; simp
def Qk5 {x : Wish} (h : okWish x = true) : 0 ≤ x.price ∧ x.price ≤ 100000 := by
 unfold okWish at h
 rw [Qo] at h
 exact Qak.1 h.2
def Qxk {s : Shop} (hs : OkSh s) (plan : List Int) : ∀ k,k ≤ s.wishes.length → 0 ≤ takK s plan k ∧ takK s plan k ≤ k * 100000
 | 0,_ => by simp [takK]
 | k + 1,hk => by
  have ih := Qxk hs plan k (by omega)
  have hp := Qk5 (hs.wi _ (Qb (Qfj (s := s) (i := k) (by omega))))
  rw [Qqg]
  split <;> omega
def W56 (s : Shop) (plan : List Int) (h : OkSt s) (hl : plan.length ≤ s.wishes.length) : Qa1 TP 25 [.pa (Qba s),.sl 1 (plan.map eI)] (.i (takN s plan)) := by
 refine pc Zey func25 cf25 ?_
 have uC := h.s.nwi
 have jN : Qba s = [.sl 4 (s.work.spares.map eSpare),.sl 1 (s.work.makes.map eMake),.i s.work.cut,.sl 4 (s.work.table.map eTrial),.sl 1 (s.stock.map eI),.sl 5 (s.pieces.map ePiece),.sl 6 (s.wishes.map eWish),.sl 3 (s.dels.map eDel),.i s.carve,.sl 2 ((Qbc s).map eSp),.pm true (aks (Qca s.work)) (avs .i (Qca s.work))] := rfl
 generalize (Qbc s).map eSp = sp0 at jN
 generalize aks (Qca s.work) = ks0 at jN
 generalize avs V.i (Qca s.work) = vs0 at jN
 rw [jN]
 simp only [rc25,rs25,BU2,simprocAttr]
 refine Qaq plan.length (fun i => ⟨lkp [(0,.pa [.sl 4 (s.work.spares.map eSpare),.sl 1 (s.work.makes.map eMake),.i s.work.cut,.sl 4 (s.work.table.map eTrial),.sl 1 (s.stock.map eI),.sl 5 (s.pieces.map ePiece),.sl 6 (s.wishes.map eWish),.sl 3 (s.dels.map eDel),.i s.carve,.sl 2 sp0,.pm true ks0 vs0]),(4,.i (takK s plan i)),(7,.sl 1 (plan.map eI)),(8,.i plan.length),(9,.i i)],[]⟩) ?_ ?_ ?_
 ·simp only [Qg,takK,Q3,List.sum_nil,BU2,simprocAttr]
 ·intro i hi
  have hlt : (i : Int) < plan.length := by omega
  have i1 : inI ((i : Int) + 1) := by unfold inI; omega
  obtain ⟨x,hx⟩ : ∃ x,plan[i]? = some x := ⟨_,Qd hi⟩
  have wO : plan.getD i 0 = x := by rw [Qi,hx]; rfl
  have uW := Qfj (s := s) (i := i) (by omega)
  have k8 := Qqg s plan i
  rw [wO] at k8
  have kA := Qxk h.s plan i (by omega)
  have p6 := Qk5 (h.s.wi _ (Qb uW))
  have i2 : inI (takK s plan i + (Qbb s i).price) := by unfold inI; omega
  have q5 : (i : Int) < s.wishes.length := by omega
  by_cases e : x = -1
  ·rw [if_pos e,Int.add_zero] at k8
   simp only [hlt,hx,e,i1,k8,Qf,Qe,BL,simprocAttr]
  ·rw [if_neg e] at k8
   simp only [hlt,hx,e,i1,i2,k8,uW,q5,Qf,Qe,BL,simprocAttr]
 ·have hlt : ¬ ((plan.length : Int) < plan.length) := by omega
  simp only [hlt,BU2,simprocAttr]
  rfl
end Go.CS
end
namespace Go.CS
open Go.Fam
abbrev Giv := Bool × List Int × List Int
def Qd1 (gd : Nat → Int → Bool) (rec : List Int → Int → List Int → Giv) (own : Int) : List Nat → List Int → List Int → Giv
 | [],g,s => (false,g,s)
 | i :: l,g,s =>
  if (i : Int) ∈ s ∨ gd i own = false then Qd1 gd rec own l g s
  else if g[i]?.getD 0 = -1 then (true,g.set i own,s ++ [(i : Int)])
  else if (rec g (g[i]?.getD 0) (s ++ [(i : Int)])).1 = true then (true,(rec g (g[i]?.getD 0) (s ++ [(i : Int)])).2.1.set i own,(rec g (g[i]?.getD 0) (s ++ [(i : Int)])).2.2)
  else Qd1 gd rec own l (rec g (g[i]?.getD 0) (s ++ [(i : Int)])).2.1 (rec g (g[i]?.getD 0) (s ++ [(i : Int)])).2.2
def Qc2 (gd : Nat → Int → Bool) (n : Nat) : Nat → List Int → Int → List Int → Giv
 | 0,g,_,s => (false,g,s)
 | f + 1,g,own,s => Qd1 gd (Qc2 gd n f) own (Ql n) g s
def uns (n : Nat) (s : List Int) : Nat := ((Ql n).filter fun (i : Nat) => decide ((i : Int) ∉ s)).length
def Qp0 {n : Nat} {s s' : List Int} (h : ∀ x ∈ s,x ∈ s') : uns n s' ≤ uns n s := by
 unfold uns
 rw [← Za,← Za]
 exact Xh fun x _ hx => by simp only [decide_eq_true_eq] at hx ⊢; exact fun h' => hx (h _ h')
def Qp1 {n i : Nat} {s : List Int} (hi : i < n) (hs : (i : Int) ∉ s) : uns n (s ++ [(i : Int)]) < uns n s := by
 unfold uns
 rw [← Za,← Za]
 have : ∀ l : List Nat,i ∈ l → l.countP (fun (k : Nat) => decide ((k : Int) ∉ s ++ [(i : Int)])) < l.countP fun (k : Nat) => decide ((k : Int) ∉ s) := by
  intro l
  induction l with
  | nil => simp
  | cons k l ih =>
   intro hm
   have kA : l.countP (fun (k : Nat) => decide ((k : Int) ∉ s ++ [(i : Int)])) ≤ l.countP fun (k : Nat) => decide ((k : Int) ∉ s) :=
    Xh fun x _ hx => by simp only [decide_eq_true_eq] at hx ⊢; exact fun h' => hx (Qj.2 (.inl h'))
   rw [Zq,Zq]
   by_cases hk : k = i
   ·subst hk
    rw [if_neg (by simp),if_pos (by simpa using hs)]; omega
   ·have hm' : i ∈ l := by rcases Xq.1 hm with e | e; exact absurd e.symm hk; exact e
    have := ih hm'
    have e : decide ((k : Int) ∉ s ++ [(i : Int)]) = decide ((k : Int) ∉ s) := by
     congr 1
     simp only [Qj,Zi,eq_iff_iff,not_or]
     exact ⟨fun h => h.1,fun h => ⟨h,by omega⟩⟩
    rw [e]; omega
 exact this _ (Q1.2 hi)
def Qtb (n : Nat) (s : List Int) : uns n s ≤ n := by
 unfold uns
 exact Zn (Xg _ _) (by simp)
def Clo (gd : Nat → Int → Bool) (n : Nat) (g : List Int) (S : List Int) (x : Int) : Prop :=
 ∃ i : Nat,i < n ∧ x = i ∧ g[i]?.getD 0 ≠ -1 ∧ ∀ k : Nat,k < n → gd k (g[i]?.getD 0) = true → (k : Int) ∈ S
def Clo.mono {gd : Nat → Int → Bool} {n : Nat} {g S S' : List Int} {x : Int} (h : Clo gd n g S x) (hs : ∀ y ∈ S,y ∈ S') : Clo gd n g S' x := by
 obtain ⟨i,hi,e,h1,h2⟩ := h
 exact ⟨i,hi,e,h1,fun k hk hg => hs _ (h2 k hk hg)⟩
def Zcl (gd : Nat → Int → Bool) (n : Nat) (own : Int) (l : List Nat) (g s : List Int) (r : Giv) : Prop :=
 r.1 = false → r.2.1 = g ∧ (∀ x ∈ s,x ∈ r.2.2) ∧ (∀ i ∈ l,gd i own = true → (i : Int) ∈ r.2.2) ∧ ∀ x ∈ r.2.2,x ∉ s → Clo gd n g r.2.2 x
def Qjd {gd : Nat → Int → Bool} {n : Nat} {rec : List Int → Int → List Int → Giv} {own : Int} {b : Nat}
  (hr : ∀ g j s,uns n s < b → Zcl gd n j (Ql n) g s (rec g j s)) : ∀ (l : List Nat) (g s : List Int),(∀ i ∈ l,i < n) → uns n s ≤ b → Zcl gd n own l g s (Qd1 gd rec own l g s)
 | [],g,s,_,_ => fun _ => ⟨rfl,fun x hx => hx,by simp,fun x hx hn => absurd hx hn⟩
 | i :: l,g,s,hl,hb => by
  intro hf
  unfold Qd1 at hf ⊢
  have hl' : ∀ i ∈ l,i < n := fun k hk => hl k (by simp [hk])
  by_cases h1 : (i : Int) ∈ s ∨ gd i own = false
  ·rw [if_pos h1] at hf ⊢
   obtain ⟨a,b',c,d⟩ := Qjd hr l g s hl' hb hf
   refine ⟨a,b',fun k hk hg => ?_,d⟩
   rcases Xq.1 hk with rfl | hk
   ·rcases h1 with h1 | h1
    ·exact b' _ h1
    ·rw [h1] at hg; cases hg
   ·exact c k hk hg
  ·rw [if_neg h1] at hf ⊢
   have hs : (i : Int) ∉ s := fun h => h1 (.inl h)
   have hin : i < n := hl i (by simp)
   by_cases h2 : g[i]?.getD 0 = -1
   ·rw [if_pos h2] at hf; cases hf
   ·rw [if_neg h2] at hf ⊢
    by_cases h3 : (rec g (g[i]?.getD 0) (s ++ [(i : Int)])).1 = true
    ·rw [if_pos h3] at hf; cases hf
    ·rw [if_neg h3] at hf ⊢
     have hu := Qp1 hin hs
     have h3' : (rec g (g[i]?.getD 0) (s ++ [(i : Int)])).1 = false := by simpa using h3
     have hR := hr g (g[i]?.getD 0) (s ++ [(i : Int)]) (by omega) h3'
     generalize rec g (g[i]?.getD 0) (s ++ [(i : Int)]) = r at hf hR h3 h3' ⊢
     obtain ⟨a,b',c,d⟩ := hR
     rw [a] at hf ⊢
     have cW : uns n r.2.2 ≤ b := Zn (Qp0 fun x hx => b' x (Qj.2 (.inl hx))) hb
     obtain ⟨a2,b2,c2,d2⟩ := Qjd hr l g r.2.2 hl' cW hf
     refine ⟨a2,fun x hx => b2 _ (b' x (Qj.2 (.inl hx))),fun k hk hg => ?_,fun x hx xJ => ?_⟩
     ·rcases Xq.1 hk with rfl | hk
      ·exact b2 _ (b' _ (by simp))
      ·exact c2 k hk hg
     ·by_cases iE : x ∈ r.2.2
      ·by_cases cP : x = i
       ·exact ⟨i,hin,cP,h2,fun k hk hg => b2 _ (c k (Q1.2 hk) hg)⟩
       ·exact (d x iE (by simp [xJ,cP])).mono b2
      ·exact d2 x hx iE
def Qnd {gd : Nat → Int → Bool} {n : Nat} : ∀ (f : Nat) (g : List Int) (own : Int) (s : List Int),uns n s < f → Zcl gd n own (Ql n) g s (Qc2 gd n f g own s)
 | 0,_,_,_,h => by omega
 | f + 1,g,own,s,h => by
  unfold Qc2
  exact Qjd (b := f) (fun g j s hs => Qnd f g j s hs) (Ql n) g s (by simp) (by omega)
def Qje {gd : Nat → Int → Bool} {rec : List Int → Int → List Int → Giv} {own : Int}
  (hr : ∀ g j s,(rec g j s).1 = false → (rec g j s).2.1 = g) : ∀ (l : List Nat) (g s : List Int),(Qd1 gd rec own l g s).1 = false → (Qd1 gd rec own l g s).2.1 = g
 | [],_,_,_ => rfl
 | i :: l,g,s,hf => by
  unfold Qd1 at hf ⊢
  split
  ·rename_i h; rw [if_pos h] at hf; exact Qje hr l g s hf
  ·rename_i h; rw [if_neg h] at hf
   split
   ·rename_i h2; rw [if_pos h2] at hf; cases hf
   ·rename_i h2; rw [if_neg h2] at hf
    split
    ·rename_i h3; rw [if_pos h3] at hf; cases hf
    ·rename_i h3; rw [if_neg h3] at hf
     have e := hr g (g[i]?.getD 0) (s ++ [(i : Int)]) (by simpa using h3)
     rw [e] at hf ⊢
     exact Qje hr l g _ hf
def Qgo {gd : Nat → Int → Bool} {n : Nat} : ∀ (f : Nat) (g : List Int) (own : Int) (s : List Int),(Qc2 gd n f g own s).1 = false → (Qc2 gd n f g own s).2.1 = g
 | 0,_,_,_,_ => rfl
 | f + 1,g,own,s,h => Qje (fun g j s hs => Qgo f g j s hs) (Ql n) g s h
def Qjf {gd : Nat → Int → Bool} {rec : List Int → Int → List Int → Giv} {own : Int}
  (hr : ∀ g j s,∀ x ∈ s,x ∈ (rec g j s).2.2) : ∀ (l : List Nat) (g s : List Int),∀ x ∈ s,x ∈ (Qd1 gd rec own l g s).2.2
 | [],_,_,_,h => h
 | i :: l,g,s,x,h => by
  unfold Qd1
  split
  ·exact Qjf hr l g s x h
  ·split
   ·exact Qj.2 (.inl h)
   ·split
    ·exact hr _ _ _ x (Qj.2 (.inl h))
    ·exact Qjf hr l _ _ x (hr _ _ _ x (Qj.2 (.inl h)))
def Qgp {gd : Nat → Int → Bool} {n : Nat} : ∀ (f : Nat) (g : List Int) (own : Int) (s : List Int),∀ x ∈ s,x ∈ (Qc2 gd n f g own s).2.2
 | 0,_,_,_,_,h => h
 | f + 1,g,own,s,x,h => Qjf (fun g j s x hx => Qgp f g j s x hx) (Ql n) g s x h
def Clos (gd : Nat → Int → Bool) (n : Nat) (g S : List Int) : Prop := ∀ x ∈ S,Clo gd n g S x
def Qjg {gd : Nat → Int → Bool} {n : Nat} {S : List Int} {rec : List Int → Int → List Int → Giv} {own : Int}
  (hr : ∀ g j s,Clos gd n g S → (∀ k : Nat,k < n → gd k j = true → (k : Int) ∈ S) → (rec g j s).1 = false)
  (hs : ∀ g j s,(rec g j s).1 = false → (rec g j s).2.1 = g) (ho : ∀ k : Nat,k < n → gd k own = true → (k : Int) ∈ S) :
  ∀ (l : List Nat) (g s : List Int),(∀ i ∈ l,i < n) → Clos gd n g S → (Qd1 gd rec own l g s).1 = false
 | [],_,_,_,_ => rfl
 | i :: l,g,s,hl,hc => by
  have hl' : ∀ i ∈ l,i < n := fun k hk => hl k (by simp [hk])
  unfold Qd1
  by_cases h1 : (i : Int) ∈ s ∨ gd i own = false
  ·rw [if_pos h1]; exact Qjg hr hs ho l g s hl' hc
  ·rw [if_neg h1]
   have hg : gd i own = true := by
    cases h : gd i own
    ·exact absurd (.inr h) h1
    ·rfl
   obtain ⟨i',hi',e,j7,hn⟩ := hc _ (ho i (hl i (by simp)) hg)
   have : i' = i := by omega
   subst this
   rw [if_neg j7]
   have hf := hr g (g[i']?.getD 0) (s ++ [(i' : Int)]) hc hn
   rw [if_neg (by rw [hf]; simp),hs _ _ _ hf]
   exact Qjg hr hs ho l g _ hl' hc
def Qnf {gd : Nat → Int → Bool} {n : Nat} {S : List Int} : ∀ (f : Nat) (g : List Int) (own : Int) (s : List Int),Clos gd n g S → (∀ k : Nat,k < n → gd k own = true → (k : Int) ∈ S) → (Qc2 gd n f g own s).1 = false
 | 0,_,_,_,_,_ => rfl
 | f + 1,g,own,s,hc,ho => Qjg (fun g j s h1 h2 => Qnf f g j s h1 h2) (fun g j s h => Qgo f g j s h) ho (Ql n) g s (by simp) hc
structure SuccR (gd : Nat → Int → Bool) (n : Nat) (own : Int) (g s g' : List Int) : Prop where
 len : g'.length = n
 cnt : ∀ j : Int,j ≠ -1 → g'.count j = g.count j + if j = own then 1 else 0
 old : ∀ i : Nat,(i : Int) ∈ s → g'[i]? = g[i]?
 val : ∀ i : Nat,i < n → g'[i]?.getD 0 ≠ -1 → gd i (g'[i]?.getD 0) = true
 off : ∀ S : List Int,Clos gd n g S → ∀ i : Nat,(i : Int) ∈ S → g'[i]? = g[i]?
def Val (gd : Nat → Int → Bool) (n : Nat) (g : List Int) : Prop := g.length = n ∧ ∀ i : Nat,i < n → g[i]?.getD 0 ≠ -1 → gd i (g[i]?.getD 0) = true
def Qj5 {g : List Int} {i : Nat} (hi : i < g.length) (x j : Int) : (g.set i x).count j + (if j = g[i]?.getD 0 then 1 else 0) = g.count j + if j = x then 1 else 0 := by
 induction g generalizing i with
 | nil => simp at hi
 | cons a g ih =>
  cases i with
  | zero =>
   simp only [Zh,Xe,Qq,Q5]
   have e1 : (if j = a then 1 else 0) = if (a == j) = true then 1 else (0 : Nat) := by
    by_cases h : j = a
    ·subst h; simp
    ·rw [if_neg h,if_neg (by simpa using fun e => h e.symm)]
   have e2 : (if j = x then 1 else 0) = if (x == j) = true then 1 else (0 : Nat) := by
    by_cases h : j = x
    ·subst h; simp
    ·rw [if_neg h,if_neg (by simpa using fun e => h e.symm)]
   rw [e1,e2]; omega
  | succ i =>
   simp only [List.set_cons_succ,Xe,Q4]
   have := ih (i := i) (by simpa using hi)
   omega
def Qjh {gd : Nat → Int → Bool} {n : Nat} {rec : List Int → Int → List Int → Giv} {own : Int} (ho : own ≠ -1)
  (hr : ∀ g j s,j ≠ -1 → Val gd n g → (rec g j s).1 = true → SuccR gd n j g s (rec g j s).2.1)
  (hs : ∀ g j s,(rec g j s).1 = false → (rec g j s).2.1 = g)
  (hm : ∀ g j s,∀ x ∈ s,x ∈ (rec g j s).2.2)
  (jN : ∀ S g j s,Clos gd n g S → (∀ k : Nat,k < n → gd k j = true → (k : Int) ∈ S) → (rec g j s).1 = false) :
  ∀ (l : List Nat) (g s : List Int),(∀ i ∈ l,i < n) → Val gd n g → (Qd1 gd rec own l g s).1 = true → SuccR gd n own g s (Qd1 gd rec own l g s).2.1
 | [],_,_,_,_,h => by cases h
 | i :: l,g,s,hl,hv,hf => by
  have hl' : ∀ i ∈ l,i < n := fun k hk => hl k (by simp [hk])
  unfold Qd1 at hf ⊢
  by_cases h1 : (i : Int) ∈ s ∨ gd i own = false
  ·rw [if_pos h1] at hf ⊢; exact Qjh ho hr hs hm jN l g s hl' hv hf
  ·rw [if_neg h1] at hf ⊢
   have hg : gd i own = true := by
    cases h : gd i own
    ·exact absurd (.inr h) h1
    ·rfl
   have fH : (i : Int) ∉ s := fun h => h1 (.inl h)
   have hin : i < n := hl i (by simp)
   have j7 : ∀ k : Nat,(k : Int) ∈ s → i ≠ k := by rintro k hk rfl; exact fH hk
   by_cases h2 : g[i]?.getD 0 = -1
   ·rw [if_pos h2] at hf ⊢
    refine ⟨by simp [hv.1],fun j hj => ?_,fun k hk => ?_,fun k hk => ?_,fun S hc k hk => ?_⟩
    ·have := Qj5 (g := g) (i := i) (by rw [hv.1]; exact hin) own j
     rw [h2,if_neg hj] at this; simpa using this
    ·exact Q8 (j7 k hk)
    ·by_cases zW : i = k
     ·subst zW
      intro _
      simp only []
      rw [Xb (by rw [hv.1]; exact hin)]; exact hg
     ·simp only []
      rw [Q8 zW]; exact hv.2 k hk
    ·obtain ⟨k',hk',e,yJ,_⟩ := hc _ hk
     have : k' = k := by omega
     subst this
     exact Q8 (by rintro rfl; exact yJ h2)
   ·rw [if_neg h2] at hf ⊢
    by_cases h3 : (rec g (g[i]?.getD 0) (s ++ [(i : Int)])).1 = true
    ·rw [if_pos h3] at hf ⊢
     have hR := hr g _ _ h2 hv h3
     have hb : ∀ S,Clos gd n g S → (i : Int) ∉ S := by
      intro S hc hi
      obtain ⟨k',hk',e,_,hn⟩ := hc _ hi
      have : k' = i := by omega
      subst this
      have := jN S g _ (s ++ [(k' : Int)]) hc hn
      rw [this] at h3; cases h3
     generalize rec g (g[i]?.getD 0) (s ++ [(i : Int)]) = r at hR ⊢
     have hi' : r.2.1[i]? = g[i]? := hR.old i (by simp)
     refine ⟨by simp [hR.len],fun j hj => ?_,fun k hk => ?_,fun k hk => ?_,fun S hc k hk => ?_⟩
     ·have a := Qj5 (g := r.2.1) (i := i) (by rw [hR.len]; exact hin) own j
      have b := hR.cnt j hj
      rw [hi'] at a
      simp only [] at *
      omega
     ·simp only []
      rw [Q8 (j7 k hk)]; exact hR.old k (by simp [hk])
     ·by_cases zW : i = k
      ·subst zW
       intro _
       simp only []
       rw [Xb (by rw [hR.len]; exact hin)]; exact hg
      ·simp only []
       rw [Q8 zW]; exact hR.val k hk
     ·simp only []
      rw [Q8 (by rintro rfl; exact hb S hc hk)]; exact hR.off S hc k hk
    ·rw [if_neg h3] at hf ⊢
     have e := hs g (g[i]?.getD 0) (s ++ [(i : Int)]) (by simpa using h3)
     rw [e] at hf ⊢
     have hM := hm g (g[i]?.getD 0) (s ++ [(i : Int)])
     have := Qjh ho hr hs hm jN l g (rec g (g[i]?.getD 0) (s ++ [(i : Int)])).2.2 hl' hv hf
     exact ⟨this.len,this.cnt,fun k hk => this.old k (hM _ (by simp [hk])),this.val,this.off⟩
def Qng {gd : Nat → Int → Bool} {n : Nat} : ∀ (f : Nat) (g : List Int) (own : Int) (s : List Int),own ≠ -1 → Val gd n g → (Qc2 gd n f g own s).1 = true → SuccR gd n own g s (Qc2 gd n f g own s).2.1
 | 0,_,_,_,_,_,h => by cases h
 | f + 1,g,own,s,ho,hv,h =>
  Qjh ho (fun g j s h1 h2 h3 => Qng f g j s h1 h2 h3) (fun g j s h => Qgo f g j s h) (fun g j s x hx => Qgp f g j s x hx) (fun S g j s h1 h2 => Qnf f g j s h1 h2) (Ql n) g s (by simp) hv h
def Qlk {gd : Nat → Int → Bool} {n : Nat} {r1 r2 : List Int → Int → List Int → Giv} {own : Int} {b : Nat}
  (hm : ∀ g j s,∀ x ∈ s,x ∈ (r2 g j s).2.2)
  (hr : ∀ g j s,uns n s < b → r1 g j s = r2 g j s) : ∀ (l : List Nat) (g s : List Int),(∀ i ∈ l,i < n) → uns n s ≤ b → Qd1 gd r1 own l g s = Qd1 gd r2 own l g s
 | [],_,_,_,_ => rfl
 | i :: l,g,s,hl,hb => by
  have hl' : ∀ i ∈ l,i < n := fun k hk => hl k (by simp [hk])
  unfold Qd1
  by_cases h1 : (i : Int) ∈ s ∨ gd i own = false
  ·rw [if_pos h1,if_pos h1]; exact Qlk hm hr l g s hl' hb
  ·rw [if_neg h1,if_neg h1]
   have hu := Qp1 (hl i (by simp)) (fun h => h1 (.inl h))
   rw [hr g _ _ (by omega)]
   have cW : uns n (r2 g (g[i]?.getD 0) (s ++ [(i : Int)])).2.2 ≤ b := Zn (Qp0 fun x hx => hm _ _ _ x (Qj.2 (.inl hx))) hb
   rw [Qlk hm hr l _ _ hl' cW]
def Qne {gd : Nat → Int → Bool} {n : Nat} : ∀ (f f' : Nat) (g : List Int) (own : Int) (s : List Int),uns n s < f → uns n s < f' → Qc2 gd n f g own s = Qc2 gd n f' g own s
 | 0,_,_,_,_,h,_ => by omega
 | _,0,_,_,_,_,h => by omega
 | f + 1,f' + 1,g,own,s,h,h' => by
  unfold Qc2
  exact Qlk (b := uns n s) (fun g j s x hx => Qgp f' g j s x hx) (fun g j s hs => Qne f f' g j s (by omega) (by omega)) (Ql n) g s (by simp) (Qn _)
def Qci (gd : Nat → Int → Bool) (n : Nat) : Nat → Nat × List Int
 | 0 => (0,Qa n (-1))
 | m + 1 =>
  if (Qc2 gd n (n + 1) (Qci gd n m).2 m []).1 = true then ((Qci gd n m).1,(Qc2 gd n (n + 1) (Qci gd n m).2 m []).2.1)
  else ((Qci gd n m).1 + 1,(Qc2 gd n (n + 1) (Qci gd n m).2 m []).2.1)
structure LackR (gd : Nat → Int → Bool) (n m : Nat) (c : Nat) (g : List Int) (S : List Int) (F : List Int) : Prop where
 val : Val gd n g
 clo : Clos gd n g S
 nod : F.Nodup
 len : F.length = c
 lt : ∀ j ∈ F,0 ≤ j ∧ j < m
 non : ∀ j ∈ F,∀ k : Nat,k < n → gd k j = true → (k : Int) ∈ S
 zer : ∀ j ∈ F,g.count j = 0
 one : ∀ j : Int,0 ≤ j → j < m → j ∉ F → g.count j = 1
 up : ∀ j : Int,j ≠ -1 → ¬ (0 ≤ j ∧ j < m) → g.count j = 0
def Qr1 (gd : Nat → Int → Bool) (n : Nat) : ∀ m : Nat,∃ S F,LackR gd n m (Qci gd n m).1 (Qci gd n m).2 S F
 | 0 => by
  refine ⟨[],[],⟨by simp [Qci],fun i hi h => ?_⟩,by intro x hx; simp at hx,Zl,rfl,by simp,by simp,by simp,by intro j h1 h2; simp at h2; omega,fun j hj _ => ?_⟩
  ·rw [show (Qci gd n 0).2 = Qa n (-1) from rfl,List.getElem?_replicate,if_pos hi] at h; exact absurd rfl h
  ·rw [show (Qci gd n 0).2 = Qa n (-1) from rfl,List.count_replicate]
   rw [if_neg (by simpa using fun e => hj e.symm)]
 | m + 1 => by
  obtain ⟨S,F,h⟩ := Qr1 gd n m
  unfold Qci
  generalize cU : Qci gd n m = cg at h ⊢
  obtain ⟨c,g⟩ := cg
  have fI : g.count (m : Int) = 0 := h.up m (by omega) (by omega)
  by_cases hb : (Qc2 gd n (n + 1) g m []).1 = true
  ·simp only [hb,if_true]
   have hR := Qng (n + 1) g m [] (by omega) h.val hb
   generalize Qc2 gd n (n + 1) g m [] = r at hR ⊢
   refine ⟨S,F,⟨hR.len,hR.val⟩,fun x hx => ?_,h.nod,h.len,fun j hj => ?_,h.non,fun j hj => ?_,fun j h1 h2 h3 => ?_,fun j h1 h2 => ?_⟩
   ·obtain ⟨i,hi,e,a,b⟩ := h.clo x hx
    have e2 := hR.off S h.clo i (by rw [← e]; exact hx)
    exact ⟨i,hi,e,by rw [e2]; exact a,by rw [e2]; exact b⟩
   ·have := h.lt j hj; omega
   ·have := h.lt j hj
    rw [hR.cnt j (by omega),h.zer j hj,if_neg (by omega)]
   ·rw [hR.cnt j (by omega)]
    by_cases aH : j = m
    ·subst aH; rw [fI,if_pos rfl]
    ·rw [h.one j h1 (by omega) h3,if_neg aH]
   ·rw [hR.cnt j h1,h.up j h1 (by omega),if_neg (by omega)]
  ·have hb' : (Qc2 gd n (n + 1) g m []).1 = false := by simpa using hb
   simp only [hb',Qc,if_false]
   obtain ⟨a,b,c',d⟩ := Qnd (gd := gd) (n := n) (n + 1) g m [] (Nat.lt_succ_of_le (Qtb n [])) hb'
   generalize Qc2 gd n (n + 1) g m [] = r at a b c' d ⊢
   rw [a]
   have hmF : (m : Int) ∉ F := fun hm => by have := h.lt _ hm; omega
   refine ⟨S ++ r.2.2,F ++ [(m : Int)],h.val,fun x hx => ?_,?_,by simp [h.len],fun j hj => ?_,fun j hj k hk hg => ?_,fun j hj => ?_,fun j h1 h2 h3 => ?_,fun j h1 h2 => h.up j h1 (by omega)⟩
   ·rcases Qj.1 hx with hx | hx
    ·exact (h.clo x hx).mono fun y hy => Qj.2 (.inl hy)
    ·exact (d x hx (by simp)).mono fun y hy => Qj.2 (.inr hy)
   ·rw [Z2]
    exact ⟨h.nod,by simp,fun x hx y hy => by simp at hy; subst hy; rintro rfl; exact hmF hx⟩
   ·rcases Qj.1 hj with hj | hj
    ·have := h.lt j hj; omega
    ·simp at hj; omega
   ·rcases Qj.1 hj with hj | hj
    ·exact Qj.2 (.inl (h.non j hj k hk hg))
    ·simp at hj; subst hj
     exact Qj.2 (.inr (c' k (Q1.2 hk) hg))
   ·rcases Qj.1 hj with hj | hj
    ·exact h.zer j hj
    ·simp at hj; subst hj; exact fI
   ·have : j ≠ m := by rintro rfl; exact h3 (by simp)
    exact h.one j h1 (by omega) fun hj => h3 (by simp [hj])
def Qhr {α : Type} [DecidableEq α] : ∀ {T U : List α},T.Nodup → (∀ x ∈ T,x ∈ U) → T.length ≤ U.length
 | [],_,_,_ => Z0 _
 | t :: T,U,hn,hs => by
  rw [Xf] at hn
  have ht := hs t (by simp)
  have := Qhr (T := T) (U := U.erase t) hn.2 fun x hx => (List.mem_erase_of_ne (by rintro rfl; exact hn.1 hx)).2 (hs x (by simp [hx]))
  rw [List.length_erase_of_mem ht] at this
  have hp := List.length_pos_of_mem ht
  simp only [Zr]; omega
def Zdf {g : List Int} {a b : Nat} {x : Int} (ha : g[a]? = some x) (hb : g[b]? = some x) (h : g.count x ≤ 1) : a = b := by
 induction g generalizing a b with
 | nil => simp at ha
 | cons y g ih =>
  rw [Xe] at h
  cases a with
  | zero =>
   cases b with
   | zero => rfl
   | succ b =>
    simp only [Qq,Xm.injEq,Q4] at ha hb
    subst ha
    have := Zy.2 (Qb hb)
    simp at h; omega
  | succ a =>
   cases b with
   | zero =>
    simp only [Qq,Xm.injEq,Q4] at ha hb
    subst hb
    have := Zy.2 (Qb ha)
    simp at h; omega
   | succ b =>
    simp only [Q4] at ha hb
    rw [ih ha hb (by omega)]
def Qho {α β : Type} {f : α → β} : ∀ {l : List α},(∀ a ∈ l,∀ b ∈ l,f a = f b → a = b) → l.Nodup → (l.map f).Nodup
 | [],_,_ => Zl
 | a :: l,h,hn => by
  rw [Xf] at hn
  rw [Qw,Xf]
  refine ⟨fun hm => ?_,Qho (fun x hx y hy => h x (by simp [hx]) y (by simp [hy])) hn.2⟩
  obtain ⟨b,hb,e⟩ := Xy.1 hm
  exact hn.1 (h b (by simp [hb]) a (by simp) e ▸ hb)
end Go.CS
noncomputable section
namespace Go.CS
open Go.Fam Go.Proofs
open Go.Proofs.Tryz
open Go.Proofs.Tryz renaming prog → TP
open Go.C06 (fnG Qap Span eI eSpan gI gR dI Qas Qa7 Qa3 Qa4 idxOf Qah Qaa Qab Qaf Qa9 Qa6 Qa5 Qad Qal Qaz vw_I Qaj hmix eLI dLI Qb1 Qac Qa0 Qa2 Qae)
variable {Γ : Gam}
set_option maxRecDepth 100000
def ePl (a : Shop × List Int) : List V := [.pa (Qba a.1),.sl 1 (a.2.map eI)]
def dPl : List V → Shop × List Int | [.pa s,.sl _ l] => (Qd4 s,l.map dI) | _ => (Qd4 [],[])
def Zdm (a : Shop × List Int) : dPl (ePl a) = a := by obtain ⟨s,l⟩ := a; simp [dPl,ePl,Qgn,Function.comp_def,Qas]
def eJl (a : Shop × List Job) : List V := [.pa (Qba a.1),.sl 3 (a.2.map eJob)]
def dJl : List V → Shop × List Job | [.pa s,.sl _ l] => (Qd4 s,l.map dJob) | _ => (Qd4 [],[])
def Zp3 (a : Shop × List Job) : dJl (eJl a) = a := by obtain ⟨s,l⟩ := a; simp [dJl,eJl,Qgn,Function.comp_def,Zac]
def K79 := K78.ext 47 (fnG ePl dPl (fun a => OkPl a.1 a.2) (fun a => Qfa a.1 a.2) (Qr0))
def Zq3 : GOk TP K79 := Zey.ext call47 (Qa7 fun a h => W36 a.1 a.2 h)
def h36 (s : Shop) (plan : List Int) : K79 47 [.pa (Qba s),.sl 1 (plan.map eI)] = (OkPl s plan,Qr0 (Qfa s plan)) := (kx K79 47 (Zdm (s,plan)) rfl :)
def K80 := K79.ext 25 (fnG ePl dPl (fun a => OkSt a.1 ∧ a.2.length ≤ a.1.wishes.length) (fun a => takN a.1 a.2) (.i))
def Zq4 : GOk TP K80 := Zq3.ext call25 (Qa7 fun a h => W56 a.1 a.2 h.1 h.2)
def h56 (s : Shop) (plan : List Int) : K80 25 [.pa (Qba s),.sl 1 (plan.map eI)] = (OkSt s ∧ plan.length ≤ s.wishes.length,.i (takN s plan)) := (kx K80 25 (Zdm (s,plan)) rfl :)
def K81 := K80
def Zez : GOk TP K81 := Zq4
def spAt (s : Shop) (i : Nat) : Int × Int := (Qbc s).getD i (0,0)
def joAt (l : List Job) (j : Int) : Job := l.getD j.toNat ⟨0,0,0⟩
def gdS (s : Shop) (l : List Job) (i : Nat) (j : Int) : Bool := Qln s (spAt s i) (joAt l j)
def PG (n m : Nat) (g s : List Int) : Prop := g.length = n ∧ (∀ v ∈ g,v = -1 ∨ (0 ≤ v ∧ v < m)) ∧ s.Nodup ∧ ∀ x ∈ s,0 ≤ x ∧ x < n
def PG.snoc {n m : Nat} {g s : List Int} {i : Nat} (h : PG n m g s) (hi : i < n) (hs : (i : Int) ∉ s) : PG n m g (s ++ [(i : Int)]) := by
 obtain ⟨h1,h2,h3,h4⟩ := h
 refine ⟨h1,h2,?_,fun x hx => ?_⟩
 ·rw [Z2]
  exact ⟨h3,by simp,fun a ha b hb e => by rw [Zi] at hb; subst hb; subst e; exact hs ha⟩
 ·rcases Qj.1 hx with hx | hx
  ·exact h4 x hx
  ·rw [Zi] at hx; omega
def PG.set {n m : Nat} {g s : List Int} {i : Nat} {own : Int} (h : PG n m g s) (ho : 0 ≤ own ∧ own < m) : PG n m (g.set i own) s := by
 obtain ⟨h1,h2,h3,h4⟩ := h
 refine ⟨by rw [List.length_set]; exact h1,fun v hv => ?_,h3,h4⟩
 rcases List.mem_or_eq_of_mem_set hv with hv | rfl
 ·exact h2 v hv
 ·exact .inr ho
def PG.at {n m : Nat} {g s : List Int} {i : Nat} (h : PG n m g s) (hi : i < n) (h1 : g[i]?.getD 0 ≠ -1) : 0 ≤ g[i]?.getD 0 ∧ g[i]?.getD 0 < m := by
 have : i < g.length := by rw [h.1]; exact hi
 rw [Qd this,Q5] at h1 ⊢
 exact (h.2.1 _ (X3 this)).resolve_left h1
def Qll {gd : Nat → Int → Bool} {n m : Nat} {rec : List Int → Int → List Int → Giv} {own : Int} (ho : 0 ≤ own ∧ own < m)
  (hr : ∀ (g : List Int) (j : Int) (s : List Int),PG n m g s → 0 ≤ j ∧ j < m → PG n m (rec g j s).2.1 (rec g j s).2.2) : ∀ (l : List Nat) (g s : List Int),(∀ i ∈ l,i < n) → PG n m g s → PG n m (Qd1 gd rec own l g s).2.1 (Qd1 gd rec own l g s).2.2
 | [],g,s,_,h => h
 | i :: l,g,s,hl,h => by
  have hl' : ∀ i ∈ l,i < n := fun k hk => hl k (by simp [hk])
  have hin := hl i (by simp)
  unfold Qd1
  by_cases h1 : (i : Int) ∈ s ∨ gd i own = false
  ·rw [if_pos h1]; exact Qll ho hr l g s hl' h
  ·rw [if_neg h1]
   have hs : (i : Int) ∉ s := fun e => h1 (.inl e)
   have hp := h.snoc hin hs
   by_cases h2 : g[i]?.getD 0 = -1
   ·rw [if_pos h2]; exact hp.set ho
   ·rw [if_neg h2]
    have hq := hr g (g[i]?.getD 0) (s ++ [(i : Int)]) hp (h.at hin h2)
    split
    ·exact hq.set ho
    ·exact Qll ho hr l _ _ hl' hq
def Qlm {gd : Nat → Int → Bool} {n m : Nat} : ∀ (f : Nat) (g : List Int) (own : Int) (s : List Int),0 ≤ own ∧ own < m → PG n m g s → PG n m (Qc2 gd n f g own s).2.1 (Qc2 gd n f g own s).2.2
 | 0,_,_,_,_,h => h
 | f + 1,g,own,s,ho,h => Qll ho (fun g j s hp hj => Qlm f g j s hj hp) (Ql n) g s (by simp) h
structure D65 where
 s : Shop
 l : List Job
 g : List Int
 own : Int
 seen : List Int
def nS (s : Shop) : Nat := (Qbc s).length
def eA65 (x : D65) : List V := [.pa (Qba x.s),.rf 0 0 0 x.g.length 1,.sl 3 (x.l.map eJob),.i x.own,.mp 1 0]
def eH65 (x : D65) : List Blk := [.cells 0 (x.g.map V.i),cm x.seen]
def Qye (xs : List V) (hp : List Blk) : D65 := match xs,hp with
 | [.pa s,_,.sl _ l,.i own,_],[.cells _ cs,.map _ ks _] => ⟨Qd4 s,l.map dJob,cs.map gI,own,ks.map fun k => k.headD 0⟩
 | _,_ => ⟨Qd4 [],[],[],0,[]⟩
def Qy6 : ∀ l : List Int,l.Nodup → cmKs l = l.map fun x => [x] := by
 refine Qb0 (p := fun l : List Int => l.Nodup → cmKs l = l.map fun x => [x]) (fun _ => rfl) fun l x ih h => ?_
 rw [Z2] at h
 rw [Qeo,ih h.1]
 unfold putK
 rw [if_neg]
 ·simp
 ·intro hm
  obtain ⟨y,hy,e⟩ := Xy.1 hm
  cases e
  exact h.2.2 x hy x (by simp) rfl
def Zdq (x : D65) (h : x.seen.Nodup) : Qye (eA65 x) (eH65 x) = x := by
 obtain ⟨s,l,g,own,seen⟩ := x
 have e : (g.map V.i).map gI = g := by rw [Zw]; exact Xr (fun _ => rfl) g
 have e2 : (cmKs seen).map (fun k => k.headD 0) = seen := by
  rw [Qy6 seen h,Zw]
  exact Xr (fun _ => rfl) seen
 have e3 : (l.map eJob).map dJob = l := by rw [Zw]; exact Xr (fun _ => rfl) l
 simp only [Qye,eA65,eH65,cm,Qgn,e,e2,e3]
structure C65 (k : Nat) (x : D65) : Prop where
 st : OkSt x.s
 own : 0 ≤ x.own ∧ x.own < x.l.length
 pg : PG (nS x.s) x.l.length x.g x.seen
 k : uns (nS x.s) x.seen < k
 ln : x.l.length ≤ 1000000
def R65 (k : Nat) (x : D65) (r : V) (hp : List Blk) : Prop :=
 r = .b (Qc2 (gdS x.s x.l) (nS x.s) k x.g x.own x.seen).1 ∧ hp = [.cells 0 ((Qc2 (gdS x.s x.l) (nS x.s) k x.g x.own x.seen).2.1.map V.i),cm (Qc2 (gdS x.s x.l) (nS x.s) k x.g x.own x.seen).2.2]
def HG (k : Nat) : Gam := K81.extH 81 (hpG eA65 eH65 Qye (C65 k) (R65 k))
def kG (k : Nat) (x : D65) (h : x.seen.Nodup) : (HG k).h 81 (eA65 x) (eH65 x) = (C65 k x,R65 k x) :=
 (show (HG k).h 81 _ _ = hpG eA65 eH65 Qye (C65 k) (R65 k) _ _ from rfl).trans (Qi9 x (Zdq x h))
def kG64 (k : Nat) (s : Shop) (p : Int × Int) (j : Job) : (HG k) 121 [.pa (Qba s),.ag (eSp p),.ag (eJob j)] = (True,.b (Qln s p j)) := h64 s p j
def Ziy {s : Shop} (h : OkSt s) : nS s ≤ 180 := by
 have a1 := Qf3 (fun x hx => (h.s.st x hx).2) s.stock.length
 have a2 := Qo2 (l := s.dels) (fun x hx => Qo3 (h.s.de x hx))
 have a3 := h.s.nde
 have a4 := h.s.stock
 have a5 := h.w.nsp
 unfold nS Qbc
 rw [Qh]; omega
def Qud {n i : Nat} (h : i < n) : (Ql n).drop i = i :: (Ql n).drop (i + 1) := Qad (Zv h)
def W65 (k : Nat) (hG : GOk TP (HG k)) (x : D65) (h : C65 (k + 1) x) : Qb7 TP 81 (eA65 x) (eH65 x) (R65 (k + 1) x) := by
 obtain ⟨s,l,g,own,seen⟩ := x
 obtain ⟨jN,hown,aI,hk,uB⟩ := h
 simp only at jN hown aI hk uB
 have fJ := aI.1
 have hn := Ziy jN
 refine Qer hG hmix func81 cf81.b cf81.c cf81.s (by exact cf81.n) (by show 2 ≤ 2; decide) (by decide) ?_
 obtain ⟨RES,hRES⟩ : ∃ RES,RES = Qc2 (gdS s l) (nS s) (k + 1) g own seen := ⟨_,rfl⟩
 have hR : ∀ r hp,r = .b RES.1 → hp = [.cells 0 (RES.2.1.map V.i),cm RES.2.2] → R65 (k + 1) ⟨s,l,g,own,seen⟩ r hp := fun r hp e1 e2 => ⟨by rw [e1,hRES],by rw [e2,hRES]⟩
 have hj : l[own.toNat]? = some (joAt l own) := by
  unfold joAt
  rw [Qi,Qd (by omega)]; rfl
 have g1 := fun p => kG64 k s p (joAt l own)
 simp only [eSp,eJob] at g1
 have gR := fun (gi : Int) (s' : List Int) (hs : s'.Nodup) => kG k ⟨s,l,g,gi,s'⟩ hs
 simp only [eA65,eH65,fJ] at gR
 have jT := stE s
 simp only [eA65,eH65,fJ]
 generalize aks (Qca s.work) = ks0 at jT
 generalize avs V.i (Qca s.work) = vs0 at jT
 rw [jT] at g1 gR ⊢
 have hnS : ((Qbc s).length : Int) = nS s := rfl
 have hRL : RES = Qd1 (gdS s l) (Qc2 (gdS s l) (nS s) k) own (Ql (nS s)) g seen := hRES
 clear hRES
 obtain ⟨gd,jW⟩ : ∃ gd,gd = gdS s l := ⟨_,rfl⟩
 obtain ⟨n,yJ⟩ : ∃ n,n = nS s := ⟨_,rfl⟩
 obtain ⟨m,hm⟩ : ∃ m,m = l.length := ⟨_,rfl⟩
 rw [← jW,← yJ] at hRL
 rw [← yJ] at aI hk fJ gR hn
 rw [← hm] at aI
 simp only [rc81,rs81,hnS,← yJ,BU2,simprocAttr]
 refine Qac n (fun i s' => ⟨lkp [(0,.pa [.sl 4 (s.work.spares.map eSpare),.sl 1 (s.work.makes.map eMake),.i s.work.cut,.sl 4 (s.work.table.map eTrial),.sl 1 (s.stock.map eI),.sl 5 (s.pieces.map ePiece),.sl 6 (s.wishes.map eWish),.sl 3 (s.dels.map eDel),.i s.carve,.sl 2 ((Qbc s).map eSp),.pm true ks0 vs0]),(1,.rf 0 0 0 n 1),(2,.sl 3 (l.map eJob)),(3,.i own),(4,.mp 1 0),(16,.sl 2 ((Qbc s).map eSp)),(17,.i n),(18,.i i)],[.cells 0 (g.map V.i),cm s']⟩)
  (fun i s' => PG n m g s' ∧ uns n s' ≤ uns n seen ∧ Qd1 gd (Qc2 gd n k) own ((Ql n).drop i) g s' = RES) seen ?_ ⟨aI,Qn _,by rw [Xj]; exact hRL.symm⟩ ?_ ?_
 ·simp only [Qg,cm,Qa0 _ _ _ (Qce _),Qa0 _ _ _ (Go.C06.noref_Is _),BU2,simprocAttr]
 ·rintro i s' hi ⟨hp,hu,hL⟩
  have hlt : (i : Int) < n := by omega
  have i1 : inI ((i : Int) + 1) := by unfold inI; omega
  rw [Qud hi] at hL
  have k7 : (Qbc s)[i]? = some (spAt s i) := by
   unfold spAt
   rw [Qi,Qd (by rw [yJ] at hi; exact hi)]; rfl
  have nJ : gd i own = Qln s (spAt s i) (joAt l own) := by rw [jW]; rfl
  have g2 := g1 (spAt s i)
  have aX := Qv4 s' (i : Int)
  have hin : (i : Int) < (Qbc s).length := by rw [hnS,← yJ]; exact hlt
  by_cases hs : (i : Int) ∈ s'
  ·have hc : (0 : Int) < s'.count (i : Int) := by have := Zy.2 hs; omega
   have hL' : Qd1 gd (Qc2 gd n k) own ((Ql n).drop (i + 1)) g s' = RES := by
    rw [← hL]
    conv => rhs; unfold Qd1
    rw [if_pos (.inl hs)]
   simp only [hlt,hin,k7,eSp,cm,aX,hc,i1,Qa0 _ _ _ (Qce _),Qa0 _ _ _ (Go.C06.noref_Is _),Qf,Qe,↓BU3,BU2,simprocAttr]
   exact ⟨s',⟨hp,hu,hL'⟩,rfl⟩
  have hc0 : ((s'.count (i : Int) : Nat) : Int) = 0 := by rw [List.count_eq_zero.2 hs]; rfl
  cases vS : Qln s (spAt s i) (joAt l own) with
  | false =>
   have hL' : Qd1 gd (Qc2 gd n k) own ((Ql n).drop (i + 1)) g s' = RES := by
    rw [← hL]
    conv => rhs; unfold Qd1
    rw [if_pos (.inr (by rw [nJ]; exact vS))]
   simp only [hlt,hin,k7,eSp,cm,aX,hc0,hj,hown,eJob,g2,vS,i1,Qa0 _ _ _ (Qce _),Qa0 _ _ _ (Go.C06.noref_Is _),Qf,Qe,↓BU3,BU2,simprocAttr]
   exact ⟨s',⟨hp,hu,hL'⟩,rfl⟩
  | true =>
   have y0 : ¬ ((i : Int) ∈ s' ∨ gd i own = false) := by
    rintro (h | h)
    ·exact hs h
    ·rw [nJ,vS] at h; cases h
   have kC := Zde s' (i : Int)
   rw [hc0,X0] at kC
   have i2 : inI (1 : Int) := by unfold inI; omega
   have c1 : i + 1 ≤ n := hi
   have cY := hp.snoc hi hs
   have fK : i < g.length := by omega
   have fD   := Go.C06.hdD g i fK
   have mD := Qp1 (n := n) hi hs
   obtain ⟨z,hz⟩ : ∃ z,g[i]?.getD 0 = z := ⟨_,rfl⟩
   rw [Qi,hz] at fD
   have hgD := hz
   by_cases hf : z = -1
   ·have hL' : RES = (true,g.set i own,s' ++ [(i : Int)]) := by
     rw [← hL]
     unfold Qd1
     rw [if_neg y0,if_pos (by rw [hgD]; exact hf)]
    have hpI   := Go.C06.putI g i own fK
    simp only [hlt,hin,k7,eSp,cm,aX,hc0,hj,hown,eJob,g2,vS,i2,c1,X0,Zd,kC,fD,hf,hpI,Qa0 _ _ _ (Qce _),Qa0 _ _ _ (Go.C06.noref_Is _),fJ,↓BU3,BU2,simprocAttr]
    exact hR _ _ (by rw [hL']) (by rw [hL']; rfl)
   ·have mE := cY.at hi (by rw [hgD]; exact hf)
    rw [hgD] at mE
    have g3 := gR z (s' ++ [(i : Int)]) cY.2.2.1
    simp only [cm] at g3
    have hL' : RES = if (Qc2 gd n k g (z) (s' ++ [(i : Int)])).1 = true then (true,(Qc2 gd n k g (z) (s' ++ [(i : Int)])).2.1.set i own,(Qc2 gd n k g (z) (s' ++ [(i : Int)])).2.2)
      else Qd1 gd (Qc2 gd n k) own ((Ql n).drop (i + 1)) (Qc2 gd n k g (z) (s' ++ [(i : Int)])).2.1 (Qc2 gd n k g (z) (s' ++ [(i : Int)])).2.2 := by
     rw [← hL]
     conv => lhs; unfold Qd1
     rw [if_neg y0,if_neg (by rw [hgD]; exact hf),hgD]
    simp only [hlt,hin,k7,eSp,cm,aX,hc0,hj,hown,eJob,g2,vS,i2,c1,X0,Zd,kC,fD,hf,Qa0 _ _ _ (Qce _),Qa0 _ _ _ (Go.C06.noref_Is _),fJ,g3,↓BU3,BU2,simprocAttr]
    obtain ⟨b,g',s'',hr⟩ : ∃ b g' s'',Qc2 gd n k g z (s' ++ [(i : Int)]) = (b,g',s'') := ⟨_,_,_,rfl⟩
    refine ⟨⟨jN,by rw [← hm]; exact mE,by rw [← yJ,← hm]; exact cY,by rw [← yJ]; show uns n (s' ++ [(i : Int)]) < k; omega,uB⟩,?_⟩
    rintro r hp' ⟨e1,e2⟩
    simp only at e1 e2
    rw [← jW,← yJ,hr] at e1 e2
    rw [hr] at hL'
    simp only at e1 e2 hL'
    have zB := Qlm (gd := gd) k g z (s' ++ [(i : Int)]) mE cY
    rw [hr] at zB
    simp only at zB
    have mG : i < g'.length := by rw [zB.1]; exact hi
    have hpI := Go.C06.putI g' i own mG
    subst e1 e2
    cases b with
    | true =>
     rw [if_pos rfl] at hL'
     simp only [cm,c1,hpI,zB.1,BU2,simprocAttr]
     exact hR _ _ (by rw [hL']) (by rw [hL']; rfl)
    | false =>
     rw [if_neg (by simp)] at hL'
     have fL := Qgo (gd := gd) (n := n) k g z (s' ++ [(i : Int)]) (by rw [hr])
     rw [hr] at fL
     simp only at fL
     subst fL
     simp only [cm,i1,Qa0 _ _ _ (Qce _),Qa0 _ _ _ (Go.C06.noref_Is _),Qf,Qe,BU2,simprocAttr]
     have zY := Qgp (gd := gd) (n := n) k g' z (s' ++ [(i : Int)])
     rw [hr] at zY
     simp only at zY
     exact ⟨s'',⟨zB,by have := Qp0 (n := n) zY; omega,hL'.symm⟩,rfl⟩
 ·rintro s' ⟨hp,hu,hL⟩
  have hlt : ¬ ((n : Int) < n) := by omega
  rw [Z9 (by simp)] at hL
  have e1 : RES = (false,g,s') := hL.symm
  simp only [hlt,BU2,simprocAttr]
  exact hR _ _ (by rw [e1]) (by rw [e1])
def okHG : ∀ k,GOk TP (HG k) := by
 intro k
 induction k with
 | zero =>
  refine Zez.extH call81 fun xs hp => Qg5 (fun x hx => ?_) xs hp
  have := hx.k
  omega
 | succ k ih => exact Zez.extH call81 fun xs hp => Qg5 (fun x hx => ⟨fun r hp' _ y hy => (by simp [eH65,ghO] at hy),W65 k ih x hx⟩) xs hp
def Qwb {gd : Nat → Int → Bool} {n m : Nat} : ∀ i,i ≤ m → PG n m (Qci gd n i).2 []
 | 0,_ => ⟨by simp [Qci],fun v hv => .inl (Z6 hv),Zl,fun _ h => by cases h⟩
 | i + 1,h => by
  have ih := Qwb (gd := gd) (n := n) (m := m) i (by omega)
  have := Qlm (gd := gd) (n + 1) (Qci gd n i).2 i [] (m := m) (by omega) ih
  simp only [Qci]
  split
  ·exact ⟨this.1,this.2.1,Zl,fun _ h => by cases h⟩
  ·exact ⟨this.1,this.2.1,Zl,fun _ h => by cases h⟩
def Qwa {gd : Nat → Int → Bool} {n : Nat} : ∀ i,(Qci gd n i).1 ≤ i
 | 0 => Qn _
 | i + 1 => by
  have := Qwa (gd := gd) (n := n) i
  simp only [Qci]
  split <;> (simp only; omega)
def Qoe (s : Shop) (l : List Job) : Int := ((Qci (gdS s l) (nS s) l.length).1 : Nat)
def W38 (s : Shop) (l : List Job) (jN : OkSt s) (hl : l.length ≤ 1000000) : Qa1 TP 48 [.pa (Qba s),.sl 3 (l.map eJob)] (.i (Qoe s l)) := by
 refine pc (okHG 200) func48 cf48 ?_
 have hn := Ziy jN
 have g1 : (HG 200) 1000058 [.sl 1 [[.i (-1)]],.i (nS s)] = (0 ≤ ((nS s : Nat) : Int) ∧ ((nS s : Nat) : Int) ≤ 1000000,.tp [.rf 0 0 0 ((nS s : Nat) : Int).toNat 1,.tp [bV (.cells 0 (Qa ((nS s : Nat) : Int).toNat [V.i (-1)]).flatten)]]) := h40o (-1) (nS s)
 have b1 : 0 ≤ ((nS s : Nat) : Int) ∧ ((nS s : Nat) : Int) ≤ 1000000 := by omega
 have hnS : ((Qbc s).length : Int) = nS s := rfl
 have gR := fun (i : Nat) (gi : List Int) => kG 200 ⟨s,l,gi,i,[]⟩ Zl
 simp only [eA65,eH65,cm] at gR
 have jT := stE s
 generalize aks (Qca s.work) = ks0 at jT
 generalize avs V.i (Qca s.work) = vs0 at jT
 rw [jT] at gR ⊢
 have xM : (Qa (nS s) [V.i (-1)]).flatten = (Qa (nS s) (-1 : Int)).map V.i := by simp
 have c0 : cmKs [] = [] := rfl
 have c1 : cmVs [] = [] := rfl
 have hL : Qoe s l = ((Qci (gdS s l) (nS s) l.length).1 : Nat) := rfl
 obtain ⟨gd,jW⟩ : ∃ gd,gd = gdS s l := ⟨_,rfl⟩
 obtain ⟨n,yJ⟩ : ∃ n,n = nS s := ⟨_,rfl⟩
 rw [← jW,← yJ] at hL
 rw [← yJ] at g1 hn b1 xM
 simp only [rc48,rs48,hnS,← yJ,g1,b1,xM,Qda _ _ (Go.C06.noref_Is _),BU2,simprocAttr]
 refine Qaq l.length (fun i => ⟨lkp [(0,.pa [.sl 4 (s.work.spares.map eSpare),.sl 1 (s.work.makes.map eMake),.i s.work.cut,.sl 4 (s.work.table.map eTrial),.sl 1 (s.stock.map eI),.sl 5 (s.pieces.map ePiece),.sl 6 (s.wishes.map eWish),.sl 3 (s.dels.map eDel),.i s.carve,.sl 2 ((Qbc s).map eSp),.pm true ks0 vs0]),(1,.sl 3 (l.map eJob)),(5,.rf 0 0 0 n 1),(6,.i ((Qci gd n i).1 : Nat)),(16,.i l.length),(17,.i i)],[.cells 0 ((Qci gd n i).2.map V.i)]⟩) ?_ ?_ ?_
 ·simp only [Qg,Qci,Qa0 _ _ _ (Go.C06.noref_Is _),BU2,simprocAttr]
 ·intro i hi
  have hlt : (i : Int) < l.length := by omega
  have i1 : inI ((i : Int) + 1) := by unfold inI; omega
  have kA := Qwa (gd := gd) (n := n) i
  have i2 : inI (((Qci gd n i).1 : Nat) + 1 : Int) := by unfold inI; omega
  have aI := Qwb (gd := gd) (n := n) (m := l.length) i (by omega)
  have g2 := gR i (Qci gd n i).2
  rw [aI.1] at g2
  simp only [c0,c1] at g2
  have nA := Qne (gd := gd) (n := n) 200 (n + 1) (Qci gd n i).2 i [] (by have := Qtb n []; omega) (by have := Qtb n []; omega)
  have k8 : Qci gd n (i + 1) = if (Qc2 gd n (n + 1) (Qci gd n i).2 i []).1 = true then ((Qci gd n i).1,(Qc2 gd n (n + 1) (Qci gd n i).2 i []).2.1) else ((Qci gd n i).1 + 1,(Qc2 gd n (n + 1) (Qci gd n i).2 i []).2.1) := rfl
  simp only [hlt,g2,↓BU3,BU2,simprocAttr]
  refine ⟨⟨jN,by show 0 ≤ (i : Int) ∧ (i : Int) < l.length; omega,by rw [← yJ]; exact aI,by rw [← yJ]; show uns n [] < 200; have := Qtb n []; omega,hl⟩,?_⟩
  rintro r hp' ⟨e1,e2⟩
  simp only at e1 e2
  rw [← jW,← yJ,nA] at e1 e2
  obtain ⟨b,g',s'',hr⟩ : ∃ b g' s'',Qc2 gd n (n + 1) (Qci gd n i).2 i [] = (b,g',s'') := ⟨_,_,_,rfl⟩
  rw [hr] at e1 e2 k8
  simp only at e1 e2 k8
  subst e1 e2
  cases b with
  | true =>
   rw [if_pos rfl] at k8
   simp only [cm,k8,i1,Qa0 _ _ _ (Go.C06.noref_Is _),Qf,Qe,BU2,simprocAttr]
  | false =>
   rw [if_neg (by simp)] at k8
   simp only [cm,k8,i1,i2,Qa0 _ _ _ (Go.C06.noref_Is _),Qf,Qe,BU2,simprocAttr]
 ·have hlt : ¬ ((l.length : Int) < l.length) := by omega
  simp only [hlt,hL,BU2,simprocAttr]
def K82 := K81.ext 48 (fnG eJl dJl (fun a => OkSt a.1 ∧ a.2.length ≤ 1000000) (fun a => Qoe a.1 a.2) (.i))
def Zkj : GOk TP K82 := Zez.ext call48 (Qa7 fun a h => W38 a.1 a.2 h.1 h.2)
def h38 (s : Shop) (l : List Job) : K82 48 [.pa (Qba s),.sl 3 (l.map eJob)] = (OkSt s ∧ l.length ≤ 1000000,.i (Qoe s l)) := (kx K82 48 (Zp3 (s,l)) rfl :)
def Zg1 (s : Shop) (plan : List Int) := lft K82 (h36 s plan) rfl
def Qvz {s : Shop} {plan : List Int} (h : OkPl s plan) {l : List Job} (e : Qfa s plan = some l) : l.length ≤ 24 := by
 have h1 := Qib h plan.length l (Qn _) e
 have h2 := h.len
 have h3 := h.st.s.nwi
 omega
def Qcw (s : Shop) (plan : List Int) : Bool := match Qfa s plan with | some l => decide (Qoe s l = 0) | none => false
def W41 (s : Shop) (plan : List Int) (h : OkPl s plan) : Qa1 TP 24 [.pa (Qba s),.sl 1 (plan.map eI)] (.b (Qcw s plan)) := by
 refine pc Zkj func24 cf24 ?_
 have g1 := Zg1 s plan
 have g2 := fun l => h38 s l
 cases e : Qfa s plan with
 | none =>
  rw [e] at g1
  simp only [rc24,rs24,g1,Qr0,h,Qcw,e,Qbe,Qrc,binW,Qan,Qa8,flat,Qmt,↓reduceIte,Nat.reduceEqDiff,Nat.reduceAdd,Nat.reduceLT,rvs,zipA,Qc,forall_const,implies_true,reduceCtorEq,imp_self,BU1]
 | some l =>
  rw [e] at g1
  have hl := Qvz h e
  have qX : l.length ≤ 1000000 := by omega
  have jN := h.st
  simp only [rc24,rs24,g1,Qr0,h,Qcw,e,g2,jN,qX,Qbe,Qan,Qa8,flat,Qmt,↓reduceIte,Nat.reduceEqDiff,Nat.reduceAdd,Nat.reduceLT,rvs,zipA,beq_self_eq_true,Qc,Qy,forall_const,implies_true,reduceCtorEq,imp_self,BU1]
def K83 := K82.ext 24 (fnG ePl dPl (fun a => OkPl a.1 a.2) (fun a => Qcw a.1 a.2) (.b))
def Zkk : GOk TP K83 := Zkj.ext call24 (Qa7 fun a h => W41 a.1 a.2 h)
def h41 (s : Shop) (plan : List Int) : K83 24 [.pa (Qba s),.sl 1 (plan.map eI)] = (OkPl s plan,.b (Qcw s plan)) := (kx K83 24 (Zdm (s,plan)) rfl :)
def fitB (s : Shop) (first : List Int) (i : Nat) : Bool := !decide ((i : Int) ∈ first) && !decide (Qcf (Qbb s first.length) (Qax s i) = 0)
def Qcq (s : Shop) (e : Int) : Nat → List Int → List (List Int)
 | 0,first => [first]
 | k + 1,first => ((Ql s.pieces.length).filter (fitB s first)).flatMap (fun (i : Nat) => Qcq s e k (first ++ [(i : Int)])) ++ (if e = 0 then [] else Qcq s e k (first ++ [-1]))
def encF (p : List Int) : V := if p = [] then .z 1 else .sl 1 (p.map eI)
def encP (p : List Int) : List V := gyE [encF p] []
structure D62 where
 s : Shop
 first : List Int
 e : Int
 caps : List V
 rest : List (List V)
 b0 : V
 l : Nat
def lenP (x : D62) : Nat := x.s.wishes.length - x.first.length
def eA62 (x : D62) : List V := [.pa (Qba x.s),encF x.first,.i x.e,.yl x.l]
def eH62 (x : D62) : List Blk := [.gh x.caps (some ((.b true :: [x.b0]) :: ((Qcq x.s x.e (lenP x) x.first).map encP ++ x.rest))),vB x.b0]
def decF : V → List Int | .sl _ l => l.map dI | _ => []
def Zi4 (p : List Int) : decF (encF p) = p := by
 unfold encF
 split
 ·rename_i h; rw [h]; rfl
 ·simp [decF,Function.comp_def,Qas]
def Qyd (xs : List V) (hp : List Blk) : D62 := match xs,hp with
 | [.pa s,p,.i e,.yl l],[.gh caps (some ([_,b0] :: ys)),_] => ⟨Qd4 s,decF p,e,caps,ys.drop (Qcq (Qd4 s) e ((Qd4 s).wishes.length - (decF p).length) (decF p)).length,b0,l⟩
 | _,_ => ⟨Qd4 [],[],0,[],[],.u,0⟩
def Zdp (x : D62) : Qyd (eA62 x) (eH62 x) = x := by
 obtain ⟨s,p,e,caps,rest,b0,l⟩ := x
 simp only [Qyd,eA62,eH62,Qgn,Zi4,lenP]
 rw [Zt (by simp)]
 simp
structure C62 (k : Nat) (al : List V → Prop) (x : D62) : Prop where
 y : x.caps[0]? = some (.yl x.l)
 st : OkSt x.s
 f : x.first.length ≤ x.s.wishes.length
 k : lenP x < k
 now : al [x.b0]
 one : ∀ bv,al bv → ∃ b,bv = [b]
 cut : ∀ b hp,al [b] → cutB hp 2 (vB b) = vB b
def R62 (al : List V → Prop) (x : D62) (r : V) (hp : List Blk) : Prop :=
 ∃ (b : Bool) (b0 : V),al [b0] ∧ r = .b b ∧ hp = [.gh x.caps (some ((.b b :: [b0]) :: if b then x.rest else [])),vB b0]
def HP (k : Nat) : Gam := K83.extY 130 fun al => hpG eA62 eH62 Qyd (C62 k al) (R62 al)
def kP (k : Nat) (al : List V → Prop) (x : D62) : ((HP k).wal al).y 130 al (eA62 x) (eH62 x) = (C62 k al x,R62 al x) :=
 (show ((HP k).wal al).y 130 al _ _ = hpG eA62 eH62 Qyd (C62 k al) (R62 al) _ _ from rfl).trans (Qi9 x (Zdp x))
def W62 (k : Nat) (hG : GOk TP (HP k)) (al : List V → Prop) (x : D62) (h : C62 (k + 1) al x) : Qkc TP 130 al (eA62 x) (eH62 x) (R62 al x) := by
 refine Qiy (hG.wal al) hmix func130 Qy0.b (lo := 2) Qy0.c Qy0.s (by exact Qy0.n) (by rfl) (by decide) ?_
 obtain ⟨s,first,e,caps,rest,b0,l⟩ := x
 obtain ⟨hy,jN,hf,hk,vL,hone,vZ⟩ := h
 simp only [lenP] at hy hf hk vL jN
 have v7 : ((HP k).wal al).al = al := rfl
 have gC : ∀ (l : List Int) (n : Int),((HP k).wal al) 46 [.sl 1 (l.map eI),.i n] = (l.length < 10000000,.b (decide (n ∈ l))) := fun l n => h84 l n
 have gS : ∀ (x : Wish) (p : Piece),((HP k).wal al) 50 [.ag (eWish x),.ag (ePiece p)] = (x.colors.length < 10000000,.i (Qcf x p)) := fun x p => h63 x p
 have gP := fun (f : List Int) (rest : List (List V)) (b : V) => kP k al ⟨s,f,e,caps,rest,b,l⟩
 simp only [eA62,eH62,lenP] at gP
 have jT := stE s
 generalize (Qbc s).map eSp = sp0 at jT
 generalize aks (Qca s.work) = ks0 at jT
 generalize avs V.i (Qca s.work) = vs0 at jT
 have nK : first.length < 10000000 := by have := jN.s.nwi; omega
 have jG : (encF first = .z 1 ∧ first = []) ∨ encF first = .sl 1 (first.map eI) := by
  unfold encF
  by_cases h : first = []
  ·exact .inl ⟨by rw [if_pos h],h⟩
  ·exact .inr (by rw [if_neg h])
 obtain ⟨TL,hTL⟩ : ∃ T,T = (if e = 0 then [] else Qcq s e (s.wishes.length - (first.length + 1)) (first ++ [-1])) := ⟨_,rfl⟩
 obtain ⟨rem,b8⟩ : ∃ rem : Nat → List (List Int),rem = fun j => (((Ql s.pieces.length).drop j).filter (fitB s first)).flatMap fun (i : Nat) => Qcq s e (s.wishes.length - (first.length + 1)) (first ++ [(i : Int)]) := ⟨_,rfl⟩
 have uK : first.length ≠ s.wishes.length → Qcq s e (s.wishes.length - first.length) first = rem 0 ++ TL := by
  intro j7
  obtain ⟨K,hK⟩ : ∃ K,s.wishes.length - first.length = K + 1 := ⟨s.wishes.length - first.length - 1,by omega⟩
  have hK2 : s.wishes.length - (first.length + 1) = K := by omega
  rw [hK,b8,hTL,hK2]; rfl
 have qY : ∀ j,j < s.pieces.length → rem j = (if fitB s first j = true then Qcq s e (s.wishes.length - (first.length + 1)) (first ++ [(j : Int)]) else []) ++ rem (j + 1) := by
  intro j hj
  rw [b8]
  simp only
  rw [Qad (Zv hj),List.filter_cons]
  split
  ·rw [Xz]
  ·rfl
 have iH : rem s.pieces.length = [] := by
  rw [b8]
  simp only
  rw [List.drop_eq_nil_iff.2 (by simp)]; rfl
 rcases jG with ⟨hF,hz⟩ | hF
 ·have eN : first.length = 0 := by rw [hz]; rfl
  have gN : ∀ (rest : List (List V)) (b : V) (x : Int),((HP k).wal al).y 130 al [.pa (Qba s),.sl 1 [[.i x]],.i e,.yl l] [.gh caps (some ((.b true :: [b]) :: ((Qcq s e (s.wishes.length - (first ++ [x]).length) (first ++ [x])).map encP ++ rest))),vB b] = (C62 k al ⟨s,first ++ [x],e,caps,rest,b,l⟩,R62 al ⟨s,first ++ [x],e,caps,rest,b,l⟩) := by
   intro rest b x
   rw [← gP]
   simp [encF,hz,eI]
  have gc : ∀ n : Int,((HP k).wal al) 46 [.sl 1 [],.i n] = (True,.b (decide (n ∈ first))) := by
   intro n
   have := gC first n
   rw [hz] at this
   rw [hz]
   simpa [nK] using this
  rw [jT] at gN
  by_cases uI : first.length = s.wishes.length
  ·have e0 : (0 : Int) = (s.wishes.length : Int) := by omega
   have ey : Qcq s e (s.wishes.length - first.length) first = [first] := by rw [uI,Nat.sub_self]; rfl
   simp only [rc130,rs130,eA62,eH62,jT,lenP,hF,ey,encP,hy,v7,← e0,gyE,Qxd,yres,endK,Qbe,↓reduceIte,Nat.reduceEqDiff,Nat.reduceAdd,Nat.reduceLeDiff,Int.reduceNeg,rvs,zipA,Qc,reduceCtorEq,BU1]
   intro b bv' uX
   obtain ⟨b',rfl⟩ := hone bv' uX
   refine ⟨b,b',uX,rfl,?_⟩
   simp
  ·have e0 : ¬ (0 : Int) = (s.wishes.length : Int) := by omega
   have uK := uK uI
   have hw := Qfj (s := s) (i := first.length) (by omega)
   have vM : (Qbb s first.length).colors.length < 10000000 := by
    have vR := jN.s.wi _ (Qb hw)
    unfold okWish at vR
    simp only [Qo,Qak] at vR
    omega
   have jV : ∀ j : Nat,fitB s first j = (!decide ((j : Int) ∈ first) && !decide (Qcf (Qbb s first.length) (Qax s j) = 0)) := fun _ => rfl
   obtain ⟨X,hX⟩ : ∃ X,X = Qbb s first.length := ⟨_,rfl⟩
   rw [← hX] at hw vM
   simp only [← hX] at jV
   have zX : (first.length : Int) < s.wishes.length := by omega
   rw [eN] at hw zX
   rw [Qg] at zX
   have yA : ∀ b,al [b] → ∀ hp,cutB hp 2 (vB b) = vB b := fun b h hp => vZ b hp h
   simp only [cutB] at yA
   have b9 := yA b0 vL
   simp only [rc130,rs130,eA62,eH62,jT,lenP,hF,e0,Qbe,↓reduceIte,Nat.reduceEqDiff,Nat.reduceAdd,Nat.reduceLeDiff,Int.reduceNeg,zipA,Qc,reduceCtorEq,BU1]
   refine Qac s.pieces.length (fun j b => ⟨lkp [(0,.pa [.sl 4 (s.work.spares.map eSpare),.sl 1 (s.work.makes.map eMake),.i s.work.cut,.sl 4 (s.work.table.map eTrial),.sl 1 (s.stock.map eI),.sl 5 (s.pieces.map ePiece),.sl 6 (s.wishes.map eWish),.sl 3 (s.dels.map eDel),.i s.carve,.sl 2 sp0,.pm true ks0 vs0]),(1,.z 1),(2,.i e),(3,.yl l),(9,.i 0),(29,.sl 5 (s.pieces.map ePiece)),(30,.i s.pieces.length),(31,.i j)],[.gh caps (some ((.b true :: [b]) :: ((rem j).map encP ++ (TL.map encP ++ rest)))),vB b]⟩) (fun j b => al [b]) b0 ?_ vL ?_ ?_
   ·simp only [Qg,uK,Qk,Qs,b9,cutV,cutB,↓reduceIte,Nat.reduceEqDiff,reduceCtorEq,BU1]
   ·intro j b hj hb
    have hlt : (j : Int) < s.pieces.length := by omega
    have i1 : inI ((j : Int) + 1) := by unfold inI; have := jN.s.npc; omega
    have uO := Qey (s := s) (x := j) (by omega)
    rw [Qz] at uO
    have cD := qY j hj
    have gS1 := gS X (Qax s j)
    have wP := jV j
    have iB : Qax s (j : Int) = Qax s j := rfl
    obtain ⟨p,hp⟩ : ∃ p,p = Qax s j := ⟨_,rfl⟩
    rw [← hp] at uO gS1 wP
    simp only [eWish,ePiece] at gS1
    have xQ := yA b hb
    have zC : fitB s first j = false → rem (j + 1) = rem j := fun e => by rw [cD,if_neg (by rw [e]; simp),Q9]
    by_cases m1 : (j : Int) ∈ first
    ·have q := zC (by rw [wP]; simp [m1])
     simp only [hlt,uO,hw,gc,i1,gS1,vM,m1,xQ,zX,Qmg,↓Qch,Qbf,Qbe,runX,fpQ,fpV,Qcg,Qan,Qa8,flat,cutV,cutB,↓reduceIte,Nat.reduceEqDiff,Nat.reduceAdd,Nat.reduceLT,Nat.reduceLeDiff,Int.reduceNeg,Zp,Int.reduceLE,vw_z,Qc,Qy,forall_const,implies_true,reduceCtorEq,Qr,Qu,imp_self,ePiece,eWish,BU1]
     exact ⟨b,hb,by simp [q]⟩
    by_cases m2 : Qcf X p = 0
    ·have q := zC (by rw [wP]; simp [m2])
     simp only [hlt,uO,hw,gc,i1,gS1,vM,m1,m2,xQ,zX,Qmg,↓Qch,Qbf,Qbe,runX,fpQ,fpV,Qcg,Qan,Qa8,flat,cutV,cutB,↓reduceIte,Nat.reduceEqDiff,Nat.reduceAdd,Nat.reduceLT,Nat.reduceLeDiff,Int.reduceNeg,Zp,Int.reduceLE,vw_z,beq_self_eq_true,Qc,forall_const,implies_true,reduceCtorEq,Qr,Qu,ePiece,eWish,BU1]
     exact ⟨b,hb,by simp [q]⟩
    rw [if_pos (by rw [wP]; simp [m1,m2])] at cD
    have g := gN ((rem (j + 1)).map encP ++ (TL.map encP ++ rest)) b j
    have ek : s.wishes.length - (first ++ [(j : Int)]).length = s.wishes.length - (first.length + 1) := by simp
    rw [ek,← Qs ((Qcq s e (s.wishes.length - (first.length + 1)) (first ++ [(j : Int)])).map encP),← Qk,← cD] at g
    obtain ⟨L,hL⟩ : ∃ L,L = first ++ [(j : Int)] := ⟨_,rfl⟩
    have hLl : first.length + 1 = L.length := by rw [hL]; simp
    have qD : (first.map eI).flatten ++ [V.i (j : Int)] = L.map V.i := by rw [Go.C06.flat_I,hL,Qk]; rfl
    have u0 : L.length ≤ 2147483648 := by have := jN.s.nwi; omega
    rw [← hL] at g
    have fB1 : Qld 8 1 := .inl (by decide)
    simp only [hlt,uO,hw,gc,i1,gS1,vM,m1,m2,xQ,zX,v7,g,hpF,upB,upL,upV,fB1,Nat.reduceLeDiff,Qx,Qp,Zd,Qn,Ze5,Qmg,Qk7,Qec,Qk8,Qio,drpS,Qk1,↓Qch,Qbf,endK,Qbe,runX,fpQ,fpV,Qcb,slxV,Qbg,Qck,Qc8,Qcg,Qan,Qa8,flat,cutV,cutB,↓reduceIte,Nat.reduceEqDiff,Nat.reduceAdd,Nat.reduceLT,Nat.reduceLeDiff,Int.reduceNeg,Zp,Int.reduceLE,Q6,rvs,vw_z,Qql,beq_self_eq_true,Qc,forall_const,implies_true,reduceCtorEq,not_false_eq_true,ne_eq,Qr,Qu,X4,ePiece,eWish,BU1]
    refine ⟨⟨hy,jN,by show L.length ≤ s.wishes.length; omega,by show s.wishes.length - L.length < k; omega,hb,hone,vZ⟩,?_⟩
    rintro r hp' ⟨bb,b2,vW,rfl,rfl⟩
    have zD := yA b2 vW
    cases bb with
    | false =>
     simp only [cutB,↓reduceIte,Qc,Qy,forall_const,BU1]
     exact ⟨false,b2,vW,rfl,by simp⟩
    | true =>
     simp only [zD,cutB,↓reduceIte,Qc,forall_const,BU1]
     exact ⟨b2,vW,rfl⟩
   ·intro b hb
    have xQ := yA b hb
    by_cases e1 : e = 0
    ·have hTL0 : TL = [] := by rw [hTL,if_pos e1]
     simp only [Q2,iH,e1,hTL0,Qk7,Qec,Qk8,Qns,Qio,Qk1,endK,Qbe,Qrd,slxV,Qbg,Qck,Qc8,Qcg,Qan,Qa8,↓reduceIte,Nat.reduceEqDiff,Nat.reduceMul,Nat.reduceLeDiff,Int.reduceNeg,Q6,rvs,Q2,Qc,Qy,forall_const,implies_true,reduceCtorEq,not_false_eq_true,ne_eq,imp_self,BU1]
     exact ⟨true,b,hb,rfl,by simp⟩
    ·have hTL0 : TL = Qcq s e (s.wishes.length - (first.length + 1)) (first ++ [-1]) := by rw [hTL,if_neg e1]
     have g := gN rest b (-1)
     have ek : s.wishes.length - (first ++ [(-1 : Int)]).length = s.wishes.length - (first.length + 1) := by simp
     rw [ek,← hTL0] at g
     obtain ⟨L,hL⟩ : ∃ L,L = first ++ [(-1 : Int)] := ⟨_,rfl⟩
     have hLl : first.length + 1 = L.length := by rw [hL]; simp
     have qD : (first.map eI).flatten ++ [V.i (-1)] = L.map V.i := by rw [Go.C06.flat_I,hL,Qk]; rfl
     have u0 : L.length ≤ 2147483648 := by have := jN.s.nwi; omega
     rw [← hL] at g
     have fB1 : Qld 8 1 := .inl (by decide)
     simp only [Q2,iH,e1,xQ,v7,g,hpF,upB,upL,upV,fB1,Nat.reduceLeDiff,Qx,Qp,Zd,Qn,Qk7,Qec,Qk8,Qns,Qio,drpS,Qk1,↓Qch,endK,Qbe,Qcb,slxV,Qbg,Qck,Qc8,Qcg,Qan,Qa8,cutV,cutB,↓reduceIte,Nat.reduceEqDiff,Nat.reduceAdd,Nat.reduceLT,Nat.reduceLeDiff,Int.reduceNeg,Q6,rvs,Qql,Q2,beq_self_eq_true,Qc,forall_const,implies_true,reduceCtorEq,not_false_eq_true,ne_eq,BU1]
     refine ⟨⟨hy,jN,by show L.length ≤ s.wishes.length; omega,by show s.wishes.length - L.length < k; omega,hb,hone,vZ⟩,?_⟩
     rintro r hp' ⟨bb,b2,vW,rfl,rfl⟩
     have zD := yA b2 vW
     simp only [Qii,↓reduceIte,Qc,true_and,and_self]
     exact ⟨bb,b2,vW,rfl,by cases bb <;> simp⟩
 ·have eN : first.length = first.length := rfl
  have gN : ∀ (rest : List (List V)) (b : V) (x : Int),((HP k).wal al).y 130 al [.pa (Qba s),.sl 1 ((first ++ [x]).map eI),.i e,.yl l] [.gh caps (some ((.b true :: [b]) :: ((Qcq s e (s.wishes.length - (first ++ [x]).length) (first ++ [x])).map encP ++ rest))),vB b] = (C62 k al ⟨s,first ++ [x],e,caps,rest,b,l⟩,R62 al ⟨s,first ++ [x],e,caps,rest,b,l⟩) := by
   intro rest b x
   rw [← gP]
   simp [encF,eI]
  have gc : ∀ n : Int,((HP k).wal al) 46 [.sl 1 (first.map eI),.i n] = (True,.b (decide (n ∈ first))) := by
   intro n
   have := gC first n
   rw []
   simpa [nK] using this
  rw [jT] at gN
  by_cases uI : first.length = s.wishes.length
  ·have e0 : (first.length : Int) = (s.wishes.length : Int) := by omega
   have ey : Qcq s e (s.wishes.length - first.length) first = [first] := by rw [uI,Nat.sub_self]; rfl
   simp only [rc130,rs130,eA62,eH62,jT,lenP,hF,ey,encP,hy,v7,e0,gyE,Qxd,yres,endK,Qbe,↓reduceIte,Nat.reduceEqDiff,Nat.reduceAdd,Nat.reduceLeDiff,Int.reduceNeg,rvs,zipA,Qc,reduceCtorEq,BU1]
   intro b bv' uX
   obtain ⟨b',rfl⟩ := hone bv' uX
   refine ⟨b,b',uX,rfl,?_⟩
   simp
  ·have e0 : ¬ (first.length : Int) = (s.wishes.length : Int) := by omega
   have uK := uK uI
   have hw := Qfj (s := s) (i := first.length) (by omega)
   have vM : (Qbb s first.length).colors.length < 10000000 := by
    have vR := jN.s.wi _ (Qb hw)
    unfold okWish at vR
    simp only [Qo,Qak] at vR
    omega
   have jV : ∀ j : Nat,fitB s first j = (!decide ((j : Int) ∈ first) && !decide (Qcf (Qbb s first.length) (Qax s j) = 0)) := fun _ => rfl
   obtain ⟨X,hX⟩ : ∃ X,X = Qbb s first.length := ⟨_,rfl⟩
   rw [← hX] at hw vM
   simp only [← hX] at jV
   have zX : (first.length : Int) < s.wishes.length := by omega
   rw [eN] at hw zX
   have nL : (first.map eI).take first.length = first.map eI := Qt (by simp)
   have yA : ∀ b,al [b] → ∀ hp,cutB hp 2 (vB b) = vB b := fun b h hp => vZ b hp h
   simp only [cutB] at yA
   have b9 := yA b0 vL
   simp only [rc130,rs130,eA62,eH62,jT,lenP,hF,e0,Qbe,↓reduceIte,Nat.reduceEqDiff,Nat.reduceAdd,Nat.reduceLeDiff,Int.reduceNeg,zipA,Qc,reduceCtorEq,BU1]
   refine Qac s.pieces.length (fun j b => ⟨lkp [(0,.pa [.sl 4 (s.work.spares.map eSpare),.sl 1 (s.work.makes.map eMake),.i s.work.cut,.sl 4 (s.work.table.map eTrial),.sl 1 (s.stock.map eI),.sl 5 (s.pieces.map ePiece),.sl 6 (s.wishes.map eWish),.sl 3 (s.dels.map eDel),.i s.carve,.sl 2 sp0,.pm true ks0 vs0]),(1,.sl 1 (first.map eI)),(2,.i e),(3,.yl l),(9,.i first.length),(29,.sl 5 (s.pieces.map ePiece)),(30,.i s.pieces.length),(31,.i j)],[.gh caps (some ((.b true :: [b]) :: ((rem j).map encP ++ (TL.map encP ++ rest)))),vB b]⟩) (fun j b => al [b]) b0 ?_ vL ?_ ?_
   ·simp only [Qg,uK,Qk,Qs,b9,cutV,cutB,↓reduceIte,Nat.reduceEqDiff,reduceCtorEq,BU1]
   ·intro j b hj hb
    have hlt : (j : Int) < s.pieces.length := by omega
    have i1 : inI ((j : Int) + 1) := by unfold inI; have := jN.s.npc; omega
    have uO := Qey (s := s) (x := j) (by omega)
    rw [Qz] at uO
    have cD := qY j hj
    have gS1 := gS X (Qax s j)
    have wP := jV j
    have iB : Qax s (j : Int) = Qax s j := rfl
    obtain ⟨p,hp⟩ : ∃ p,p = Qax s j := ⟨_,rfl⟩
    rw [← hp] at uO gS1 wP
    simp only [eWish,ePiece] at gS1
    have xQ := yA b hb
    have zC : fitB s first j = false → rem (j + 1) = rem j := fun e => by rw [cD,if_neg (by rw [e]; simp),Q9]
    by_cases m1 : (j : Int) ∈ first
    ·have q := zC (by rw [wP]; simp [m1])
     simp only [hlt,uO,hw,gc,i1,gS1,vM,m1,xQ,zX,Qmg,↓Qch,Qbf,Qbe,runX,fpQ,fpV,Qcg,Qan,Qa8,flat,cutV,cutB,↓reduceIte,Nat.reduceEqDiff,Nat.reduceAdd,Nat.reduceLT,Nat.reduceLeDiff,Int.reduceNeg,Qc,Qy,forall_const,implies_true,reduceCtorEq,Qr,Qu,imp_self,ePiece,eWish,BU1]
     exact ⟨b,hb,by simp [q]⟩
    by_cases m2 : Qcf X p = 0
    ·have q := zC (by rw [wP]; simp [m2])
     simp only [hlt,uO,hw,gc,i1,gS1,vM,m1,m2,xQ,zX,Qmg,↓Qch,Qbf,Qbe,runX,fpQ,fpV,Qcg,Qan,Qa8,flat,cutV,cutB,↓reduceIte,Nat.reduceEqDiff,Nat.reduceAdd,Nat.reduceLT,Nat.reduceLeDiff,Int.reduceNeg,beq_self_eq_true,Qc,forall_const,implies_true,reduceCtorEq,Qr,Qu,ePiece,eWish,BU1]
     exact ⟨b,hb,by simp [q]⟩
    rw [if_pos (by rw [wP]; simp [m1,m2])] at cD
    have g := gN ((rem (j + 1)).map encP ++ (TL.map encP ++ rest)) b j
    have ek : s.wishes.length - (first ++ [(j : Int)]).length = s.wishes.length - (first.length + 1) := by simp
    rw [ek,← Qs ((Qcq s e (s.wishes.length - (first.length + 1)) (first ++ [(j : Int)])).map encP),← Qk,← cD] at g
    obtain ⟨L,hL⟩ : ∃ L,L = first ++ [(j : Int)] := ⟨_,rfl⟩
    have hLl : first.length + 1 = L.length := by rw [hL]; simp
    have qD : (first.map eI).flatten ++ [V.i (j : Int)] = L.map V.i := by rw [Go.C06.flat_I,hL,Qk]; rfl
    have u0 : L.length ≤ 2147483648 := by have := jN.s.nwi; omega
    rw [← hL] at g
    have fBL : Qld 8 L.length := .inl u0
    simp only [hlt,uO,hw,gc,i1,gS1,vM,m1,m2,xQ,zX,v7,g,hpF,upB,upL,upV,fBL,Nat.reduceLeDiff,Qx,Qp,Zd,Qn,nL,qD,hLl,Go.C06.chunkI,vw_I,u0,Qae _ _ (Go.C06.noref_Is _),Ze5,Qmg,Qk7,Qec,Qk8,Qio,drpS,Qk1,↓Qch,Qbf,endK,Qbe,runX,fpQ,fpV,Qcb,slxV,Qbg,Qck,Qc8,Qcg,Qan,Qa8,flat,cutV,cutB,↓reduceIte,Nat.reduceEqDiff,Nat.reduceAdd,Nat.reduceLT,Nat.reduceLeDiff,Int.reduceNeg,Q6,rvs,Qql,beq_self_eq_true,Qc,forall_const,implies_true,reduceCtorEq,not_false_eq_true,ne_eq,Qr,Qu,X4,ePiece,eWish,BU1]
    refine ⟨Zu _,⟨hy,jN,by show L.length ≤ s.wishes.length; omega,by show s.wishes.length - L.length < k; omega,hb,hone,vZ⟩,?_⟩
    rintro r hp' ⟨bb,b2,vW,rfl,rfl⟩
    have zD := yA b2 vW
    cases bb with
    | false =>
     simp only [cutB,↓reduceIte,Qc,Qy,forall_const,BU1]
     exact ⟨false,b2,vW,rfl,by simp⟩
    | true =>
     simp only [zD,cutB,↓reduceIte,Qc,forall_const,BU1]
     exact ⟨b2,vW,rfl⟩
   ·intro b hb
    have xQ := yA b hb
    by_cases e1 : e = 0
    ·have hTL0 : TL = [] := by rw [hTL,if_pos e1]
     simp only [Q2,iH,e1,hTL0,Qk7,Qec,Qk8,Qns,Qio,Qk1,endK,Qbe,Qrd,slxV,Qbg,Qck,Qc8,Qcg,Qan,Qa8,↓reduceIte,Nat.reduceEqDiff,Nat.reduceMul,Nat.reduceLeDiff,Int.reduceNeg,Q6,rvs,Q2,Qc,Qy,forall_const,implies_true,reduceCtorEq,not_false_eq_true,ne_eq,imp_self,BU1]
     exact ⟨true,b,hb,rfl,by simp⟩
    ·have hTL0 : TL = Qcq s e (s.wishes.length - (first.length + 1)) (first ++ [-1]) := by rw [hTL,if_neg e1]
     have g := gN rest b (-1)
     have ek : s.wishes.length - (first ++ [(-1 : Int)]).length = s.wishes.length - (first.length + 1) := by simp
     rw [ek,← hTL0] at g
     obtain ⟨L,hL⟩ : ∃ L,L = first ++ [(-1 : Int)] := ⟨_,rfl⟩
     have hLl : first.length + 1 = L.length := by rw [hL]; simp
     have qD : (first.map eI).flatten ++ [V.i (-1)] = L.map V.i := by rw [Go.C06.flat_I,hL,Qk]; rfl
     have u0 : L.length ≤ 2147483648 := by have := jN.s.nwi; omega
     rw [← hL] at g
     have fBL : Qld 8 L.length := .inl u0
     simp only [Q2,iH,e1,xQ,v7,g,hpF,upB,fBL,Qx,Qp,Zd,Qn,nL,qD,hLl,Go.C06.chunkI,vw_I,u0,Qae _ _ (Go.C06.noref_Is _),Qk7,Qec,Qk8,Qns,Qio,drpS,Qk1,↓Qch,endK,Qbe,Qcb,slxV,Qbg,Qck,Qc8,Qcg,Qan,Qa8,cutV,cutB,↓reduceIte,Nat.reduceEqDiff,Nat.reduceAdd,Nat.reduceLT,Int.reduceNeg,Q6,rvs,Qql,Q2,beq_self_eq_true,Qc,forall_const,implies_true,reduceCtorEq,not_false_eq_true,ne_eq,BU1]
     refine ⟨Zu _,⟨hy,jN,by show L.length ≤ s.wishes.length; omega,by show s.wishes.length - L.length < k; omega,hb,hone,vZ⟩,?_⟩
     rintro r hp' ⟨bb,b2,vW,rfl,rfl⟩
     have zD := yA b2 vW
     simp only [Qii,↓reduceIte,Qc,true_and,and_self]
     exact ⟨bb,b2,vW,rfl,by cases bb <;> simp⟩
def okHP : ∀ k,GOk TP (HP k) := by
 intro k
 induction k with
 | zero =>
  refine Zkk.extY call130 fun al => Zit fun x hx => ?_
  have := hx.k
  omega
 | succ k ih => exact Zkk.extY call130 fun al => Zit fun x hx => W62 k ih al x hx
def Qik (s : Shop) (e : Int) : List (List Int) := Qcq s e s.wishes.length []
def itP (s : Shop) (e : Int) (l : Nat) (b0 : V) : List Blk := [.gh [.yl l,.pa (Qba s)] (some ((.b true :: [b0]) :: (Qik s e).map encP)),vB b0]
def tP (e : Int) (al : List V → Prop) (xs : List V) (hp : List Blk) : Prop × (V → List Blk → Prop) :=
 (∃ s l b0,OkSt s ∧ al [b0] ∧ (∀ bv,al bv → ∃ b,bv = [b]) ∧ (∀ b hp,al [b] → cutB hp 2 (vB b) = vB b) ∧ xs = [.pa (Qba s),.yl l] ∧ hp = itP s e l b0,
  fun r hp => ∃ s l,xs = [.pa (Qba s),.yl l] ∧ Go.C06.RIt al [.yl l,.pa (Qba s)] r hp)
def W77 (al : List V → Prop) (s : Shop) (l : Nat) (b0 : V) (jN : OkSt s) (vL : al [b0]) (hone : ∀ bv,al bv → ∃ b,bv = [b]) (vZ : ∀ b hp,al [b] → cutB hp 2 (vB b) = vB b) :
  Qkc TP 98 al [.pa (Qba s),.yl l] (itP s 1 l b0) (Go.C06.RIt al [.yl l,.pa (Qba s)]) := by
 refine Qiy ((okHP 7).wal al) hmix func98 cf98.b (lo := 2) cf98.c cf98.s (by exact cf98.n) (by rfl) (by decide) ?_
 have v7 : ((HP 7).wal al).al = al := rfl
 have g2 := kP 7 al ⟨s,[],1,[.yl l,.pa (Qba s)],[],b0,l⟩
 have e1 : encF [] = .z 1 := rfl
 have e2 : Qcq s 1 (s.wishes.length - ([] : List Int).length) [] = Qik s 1 := rfl
 simp only [eA62,eH62,lenP,e1,e2,Zk] at g2
 have jT := stE s
 generalize (Qbc s).map eSp = sp0 at jT
 generalize aks (Qca s.work) = ks0 at jT
 generalize avs V.i (Qca s.work) = vs0 at jT
 rw [jT] at g2
 have yA : ∀ hp,cutB hp 2 (vB b0) = vB b0 := fun hp => vZ b0 hp vL
 simp only [cutB] at yA
 simp only [rc98,rs98,itP,jT,v7,g2,yA,Qk7,Qec,Qk8,Qio,drpS,↓Qch,endK,cutV,cutB,↓reduceIte,Nat.reduceEqDiff,Nat.reduceAdd,Nat.reduceLeDiff,rvs,zipA,reduceCtorEq,BU1]
 have hw := jN.s.nwi
 refine ⟨⟨rfl,jN,Z0 _,by show s.wishes.length - 0 < 7; omega,vL,hone,vZ⟩,?_⟩
 rintro r hp' ⟨b,b2,h1,rfl,rfl⟩
 have zD : ∀ hp,cutB hp 2 (vB b2) = vB b2 := fun hp => vZ b2 hp h1
 simp only [cutB] at zD
 simp only []
 exact ⟨b,[b2],[],[],by cases b <;> simp,fun _ => rfl,h1⟩
def K84 := (HP 7).extY 98 (tP 1)
def Zq5 : GOk TP K84 := by
 refine (okHP 7).extY call98 fun al xs hp h => ?_
 obtain ⟨s,l,b0,h1,h2,h3,h4,rfl,rfl⟩ := h
 exact (W77 al s l b0 h1 h2 h3 h4).mono fun r hp h => ⟨s,l,rfl,h⟩
def K85 := K84
def Zkl : GOk TP K85 := Zq5
def Zg5 (al : List V → Prop) (xs : List V) (hp : List Blk) : K85.y 98 al xs hp = tP 1 al xs hp := rfl
def Zg3 (x n : Int) := lft K85 (h40 x n) rfl
def Zg4 (s : Shop) (plan : List Int) := lft K85 (h41 s plan) rfl
def Qzw (s : Shop) (plan : List Int) := lft K85 (h56 s plan) rfl
def Zg2 (s : Shop) (is : Bool) := lft K85 (h34 s is) rfl
def Qm9 (s : Shop) (e : Int) : ∀ (k : Nat) (first : List Int),∀ p ∈ Qcq s e k first,p.length = first.length + k ∧ ∀ x ∈ p,x ∈ first ∨ (-1 ≤ x ∧ x < s.pieces.length)
 | 0,first,p,hp => by
  have : p = first := by simpa [Qcq] using hp
  subst this
  exact ⟨rfl,fun _ h => .inl h⟩
 | k + 1,first,p,hp => by
  simp only [Qcq,Qj,Z8,List.mem_filter,Q1] at hp
  rcases hp with ⟨i,⟨hi,_⟩,hp⟩ | hp
  ·obtain ⟨h1,h2⟩ := Qm9 s e k _ p hp
   rw [Qh,Xi] at h1
   refine ⟨by omega,fun x hx => ?_⟩
   rcases h2 x hx with h | h
   ·rcases Qj.1 h with h | h
    ·exact .inl h
    ·rw [Zi] at h; exact .inr (by omega)
   ·exact .inr h
  ·split at hp
   ·cases hp
   ·obtain ⟨h1,h2⟩ := Qm9 s e k _ p hp
    rw [Qh,Xi] at h1
    refine ⟨by omega,fun x hx => ?_⟩
    rcases h2 x hx with h | h
    ·rcases Qj.1 h with h | h
     ·exact .inl h
     ·rw [Zi] at h; exact .inr (by omega)
    ·exact .inr h
def Qq3 {s : Shop} {e : Int} {p : List Int} (hp : p ∈ Qik s e) : p.length = s.wishes.length ∧ ∀ x ∈ p,-1 ≤ x ∧ x < s.pieces.length := by
 obtain ⟨h1,h2⟩ := Qm9 s e _ _ p hp
 refine ⟨by simpa using h1,fun x hx => ?_⟩
 rcases h2 x hx with h | h
 ·cases h
 ·exact h
def Zf1 {s : Shop} (jN : OkSt s) {p : List Int} (h : p.length = s.wishes.length ∧ ∀ x ∈ p,-1 ≤ x ∧ x < s.pieces.length) : OkPl s p := ⟨jN,by omega,fun x hx => (h.2 x hx).2⟩
def Qon (s : Shop) : List Int := Qa s.wishes.length (-1)
def betP (s : Shop) (best p : List Int) : List Int := if takN s best < takN s p ∧ Qcw s p = true then p else best
def Qj2 (s : Shop) (k : Nat) : List Int := ((Qik s 1).take k).foldl (betP s) (Qon s)
def Qj1 (s : Shop) : List Int := (Qik s 1).foldl (betP s) (Qon s)
def Qn3 {s : Shop} {k : Nat} {p : List Int} (h : (Qik s 1)[k]? = some p) : Qj2 s (k + 1) = betP s (Qj2 s k) p := by
 unfold Qj2
 rw [Qa4 h,List.foldl_append]; rfl
def Qyz (s : Shop) : (Qon s).length = s.wishes.length ∧ ∀ x ∈ Qon s,-1 ≤ x ∧ x < s.pieces.length := by
 refine ⟨by simp [Qon],fun x hx => ?_⟩
 have := Z6 hx
 omega
def Qrq (s : Shop) : ∀ k,(Qj2 s k).length = s.wishes.length ∧ ∀ x ∈ Qj2 s k,-1 ≤ x ∧ x < s.pieces.length := by
 intro k
 induction k with
 | zero => exact Qyz s
 | succ k ih =>
  cases hp : (Qik s 1)[k]? with
  | none =>
   have e : Qj2 s (k + 1) = Qj2 s k := by
    unfold Qj2
    have := List.getElem?_eq_none_iff.1 hp
    rw [Qt (by omega),Qt this]
   rw [e]; exact ih
  | some p =>
   rw [Qn3 hp]
   unfold betP
   split
   ·exact Qq3 (Qb hp)
   ·exact ih
def W57 (s : Shop) (jN : OkSt s) : Qa1 TP 67 [.pa (Qba s)] (.sl 1 ((Qj1 s).map eI)) := by
 refine pc Zkl func67 cf67 ?_
 have g1 := Zg3 (-1) s.wishes.length
 rw [Qz] at g1
 have g2 := Qzw s
 have g3 := Zg4 s
 have e2 : itP s 1 = fun l b0 => itP s 1 l b0 := rfl
 obtain ⟨A,hA⟩ : ∃ A,A = Qik s 1 := ⟨_,rfl⟩
 have jT := stE s
 generalize (Qbc s).map eSp = sp0 at jT
 generalize aks (Qca s.work) = ks0 at jT
 generalize avs V.i (Qca s.work) = vs0 at jT
 rw [jT] at g2 g3
 have hn : (0 : Int) ≤ s.wishes.length ∧ (s.wishes.length : Int) ≤ 1000000 := by have := jN.s.nwi; omega
 simp only [rc67,rs67,jT,g1,hn,Zc7,Qk1,Qbe,Qbg,Qck,Qc8,Qcg,Qan,Qa8,flat,↓reduceIte,Nat.reduceEqDiff,Nat.reduceAdd,Nat.reduceMul,Nat.reduceLT,Nat.reduceLeDiff,Int.reduceNeg,Q6,zipA,Qc,reduceCtorEq,not_false_eq_true,ne_eq,imp_self,BU1]
 refine Zc8 (gf := 98) (caps := [.pa [.sl 4 (s.work.spares.map eSpare),.sl 1 (s.work.makes.map eMake),.i s.work.cut,.sl 4 (s.work.table.map eTrial),.sl 1 (s.stock.map eI),.sl 5 (s.pieces.map ePiece),.sl 6 (s.wishes.map eWish),.sl 3 (s.dels.map eDel),.i s.carve,.sl 2 sp0,.pm true ks0 vs0]]) ?_ (fun bv => ∃ best : List Int,bv = [bV (.cells 0 [.sl 1 (best.map eI)])]) (A.map fun p => ([encF p],[])) (bv0 := [bV (.cells 0 [.sl 1 ((Qon s).map eI)])]) ?_
  (fun k bv => bv = [bV (.cells 0 [.sl 1 ((Qj2 s k).map eI)])]) ?_ ?_ ?_ ?_ ?_ ?_
 ·simp only [evO,cutV,Qdn,↓reduceIte,Nat.reduceEqDiff,Int.reduceNeg]
 ·simp only [Qb2,Qon,Qb2,cutV,cutL,cutB,Int.reduceNeg,BU1]
 ·rfl
 ·rintro k bv rfl
  exact ⟨_,rfl⟩
 ·rintro bv ⟨best,rfl⟩
  refine ⟨rfl,fun hp => ?_⟩
  simp only [Qb2,Qb2,cutV,cutL,cutB,Qw,Qv]
 ·intro l
  rw [Zg5,← jT]
  refine ⟨⟨s,l,bV (.cells 0 [.sl 1 ((Qon s).map eI)]),jN,⟨Qon s,rfl⟩,fun bv h => ?_,fun b hp h => ?_,rfl,?_⟩,fun r hp' h => ?_⟩
  ·obtain ⟨best,rfl⟩ := h
   exact ⟨_,rfl⟩
  ·obtain ⟨best,h⟩ := h
   cases h
   simp only [Qb2,Qb2,cutV,cutL,cutB]
  ·rw [Zw,hA]; rfl
  ·obtain ⟨s',l',e,h⟩ := h
   simp only [Z7,Q9,Jf.injEq,V.yl.injEq,and_true] at e
   rw [e.1,e.2]; exact h
 ·rintro k x z bv hx rfl
  rw [Xu,Option.map_eq_some_iff] at hx
  obtain ⟨p,hp,he⟩ := hx
  simp only [Prod.mk.injEq] at he
  obtain ⟨rfl,rfl⟩ := he
  refine ⟨rfl,Qn _,?_⟩
  rw [hA] at hp
  have zB := Qq3 (Qb hp)
  have aU := Qrq s k
  have q6 := Qn3 hp
  unfold betP at q6
  obtain ⟨B,hB⟩ : ∃ B,B = Qj2 s k := ⟨_,rfl⟩
  rw [← hB] at aU q6 ⊢
  have o1 : OkPl s p := Zf1 jN zB
  have g4 := g2 p
  have g5 := g2 B
  have g6 := g3 p
  have l1 : p.length ≤ s.wishes.length := by omega
  have l2 : B.length ≤ s.wishes.length := by omega
  by_cases hz : p = []
  ·have gG : B = [] := List.length_eq_zero_iff.1 (by rw [aU.1,← zB.1,hz]; rfl)
   have e1 : encF p = .z 1 := by unfold encF; rw [if_pos hz]
   rw [hz,Qv] at g4
   rw [gG,Qv] at g5
   rw [hz,gG,if_neg (fun h => Q2 _ h.1)] at q6
   simp only [Qb2,e1,g4,gG,jN,Z0,↓Qch,rnQ,updL,Qbf,Qb2,Qbe,runX,fpQ,fpV,Qrc,Qan,Qa8,flat,cutV,↓reduceIte,Nat.reduceEqDiff,Nat.reduceLT,Nat.reduceLeDiff,Int.reduceNeg,vw_z,Q2,Qc,forall_const,implies_true,Qr,Qu,imp_self,BU1]
   refine ⟨[bV (.cells 0 [.sl 1 (([] : List Int).map eI)])],?_,rfl,⟨_,rfl⟩,by rw [q6]⟩
   simp only [Qb2,Qb2,cutV,cutL,cutB,BU1]
  ·have e1 : encF p = .sl 1 (p.map eI) := by unfold encF; rw [if_neg hz]
   by_cases q1 : takN s B < takN s p
   ·by_cases q2 : Qcw s p = true
    ·rw [if_pos ⟨q1,q2⟩] at q6
     simp only [Qb2,e1,g4,g5,g6,o1,l1,l2,jN,q1,q2,↓Qch,rnQ,updL,Qbf,Qb2,Qbe,runX,fpQ,fpV,Qcg,Qan,Qa8,flat,cutV,↓reduceIte,Nat.reduceEqDiff,Nat.reduceLT,Nat.reduceLeDiff,Int.reduceNeg,beq_self_eq_true,Qc,Qy,forall_const,implies_true,Qr,Qu,BU1]
     refine ⟨[bV (.cells 0 [.sl 1 (p.map eI)])],?_,rfl,⟨_,rfl⟩,by rw [q6]⟩
     simp only [Qb2,Qb2,cutV,cutL,cutB,BU1]
    ·have q3 : Qcw s p = false := by simpa using q2
     rw [if_neg (fun h => q2 h.2)] at q6
     simp only [Qb2,e1,g4,g5,g6,o1,l1,l2,jN,q1,q3,↓Qch,rnQ,updL,Qbf,Qb2,Qbe,runX,fpQ,fpV,Qan,Qa8,flat,cutV,↓reduceIte,Nat.reduceEqDiff,Nat.reduceLT,Nat.reduceLeDiff,Int.reduceNeg,beq_self_eq_true,Qc,Qy,forall_const,implies_true,Qr,Qu,BU1]
     refine ⟨[bV (.cells 0 [.sl 1 (B.map eI)])],?_,rfl,⟨_,rfl⟩,by rw [q6]⟩
     simp only [Qb2,Qb2,cutV,cutL,cutB,BU1]
   ·rw [if_neg (fun h => q1 h.1)] at q6
    simp only [Qb2,e1,g4,g5,g6,o1,l1,l2,jN,q1,↓Qch,rnQ,updL,Qbf,Qb2,Qbe,runX,fpQ,fpV,Qan,Qa8,flat,cutV,↓reduceIte,Nat.reduceEqDiff,Nat.reduceLT,Nat.reduceLeDiff,Int.reduceNeg,Qc,forall_const,implies_true,Qr,Qu,imp_self,BU1]
    refine ⟨[bV (.cells 0 [.sl 1 (B.map eI)])],?_,rfl,⟨_,rfl⟩,by rw [q6]⟩
    simp only [Qb2,Qb2,cutV,cutL,cutB,BU1]
 ·rintro bv rfl
  have e : Qj2 s (A.map fun p => (([encF p],[]) : List V × List V)).length = Qj1 s := by
   unfold Qj2 Qj1
   rw [Zc,hA,Zb]
  rw [e]
  simp only [Qb2,↓Qch,Qb2,Qbe,cutV,↓reduceIte,Nat.reduceEqDiff,Nat.reduceLT,Nat.reduceLeDiff,Int.reduceNeg,rvs,Qc,BU1]
def K86 := K85.ext 67 (fnG (fun s => [.pa (Qba s)]) (fun xs => match xs with | [.pa s] => Qd4 s | _ => Qd4 []) (OkSt) (Qj1) ((fun l => .sl 1 (l.map eI))))
def Zkm : GOk TP K86 := Zkl.ext (f := 67) (fun a w => call67 a w) (Qa7 (e := (fun s => [.pa (Qba s)])) (d := (fun xs => match xs with | [.pa s] => Qd4 s | _ => Qd4 [])) (ok := OkSt) (g := Qj1) (eb := (fun l => .sl 1 (l.map eI))) fun a h => W57 a h)
def h57 (s : Shop) : K86 67 [.pa (Qba s)] = (OkSt s,.sl 1 ((Qj1 s).map eI)) := (show K86 67 _ = fnG (fun s => [.pa (Qba s)]) (fun xs => match xs with | [.pa s] => Qd4 s | _ => Qd4 []) (OkSt) (Qj1) ((fun l => .sl 1 (l.map eI))) ((fun s => [.pa (Qba s)]) s) from rfl).trans (Qap _ ((fun s => Qgn s) s))
def Zg6 (s : Shop) (is : Bool) : K86 22 [.ag (Qat s),.b is] = (SmallS s,Qjs s is) := Zg2 s is
def Zg7 (s : Shop) (plan : List Int) : K86 25 [.pa (Qba s),.sl 1 (plan.map eI)] = (OkSt s ∧ plan.length ≤ s.wishes.length,.i (takN s plan)) := Qzw s plan
def Qxv (s : Shop) : (Qj1 s).length = s.wishes.length ∧ ∀ x ∈ Qj1 s,-1 ≤ x ∧ x < s.pieces.length := by
 have := Qrq s (Qik s 1).length
 unfold Qj2 at this
 rw [Zb] at this
 exact this
def Qwt {s : Shop} {is : Bool} (h : Qd7 s is = 0) : OkSt s := by
 unfold Qd7 at h
 by_cases e : Qcl s = 0
 ·exact ⟨(Qmk e).1,(Qmk e).2⟩
 ·rw [if_pos e] at h
  exact absurd h e
def Qhq (s : Shop) (is : Bool) : Int × Int := if Qd7 s is = 0 then (takN s (Qj1 s),0) else (0,Qd7 s is)
def W33 (s : Shop) (is : Bool) (h : SmallS s) : Qa1 TP 37 [.ag (Qat s),.b is] (.tp [.i (Qhq s is).1,.i (Qhq s is).2]) := by
 refine pc Zkm func37 cf37 ?_
 have g1 := Zg6 s is
 have g2 := h57 s
 have g3 := Zg7 s (Qj1 s)
 have hl := (Qxv s).1
 have jT := stE s
 generalize (Qbc s).map eSp = sp0 at jT
 generalize aks (Qca s.work) = ks0 at jT
 generalize avs V.i (Qca s.work) = vs0 at jT
 unfold Qjs at g1
 rw [jT] at g1 g2 g3
 unfold Qat at g1
 unfold Qhq
 by_cases e : Qd7 s is = 0
 ·have jN := Qwt e
  have l1 : (Qj1 s).length ≤ s.wishes.length := by omega
  rw [if_pos e] at g1 ⊢
  simp only [rc37,rs37,g1,g2,g3,h,jN,l1,BL,simprocAttr]
 ·rw [if_neg e] at g1 ⊢
  simp only [rc37,rs37,g1,h,e,BL,simprocAttr]
def K87 := K86.ext 37 (fnG eHB dHB (fun a => SmallS a.1) (fun a => Qhq a.1 a.2) ((fun r => .tp [.i r.1,.i r.2])))
def Zkn : GOk TP K87 := Zkm.ext (f := 37) (fun a w => call37 a w) (Qa7 (e := eHB) (d := dHB) (ok := fun a => SmallS a.1) (g := fun a => Qhq a.1 a.2) (eb := (fun r => .tp [.i r.1,.i r.2])) fun a h => W33 a.1 a.2 h)
def h33 (s : Shop) (is : Bool) : K87 37 [.ag (Qat s),.b is] = (SmallS s,.tp [.i (Qhq s is).1,.i (Qhq s is).2]) := (show K87 37 _ = fnG eHB dHB (fun a => SmallS a.1) (fun a => Qhq a.1 a.2) ((fun r => .tp [.i r.1,.i r.2])) (eHB (s,is)) from rfl).trans (Qap _ (Zhn (s,is)))
def W14 (s : Shop) (h : SmallS s) : Qa1 TP 18 [.ag (Qat s)] (.tp [.i (Qhq s true).1,.i (Qhq s true).2]) := by
 refine pc Zkn func18 cf18 ?_
 have g := h33 s true
 unfold Qat at g
 simp only [rc18,rs18,g,h,BL,simprocAttr]
def K88 := K87.ext 18 (fnG eH1 dH1 (SmallS) (fun s => Qhq s true) ((fun r => .tp [.i r.1,.i r.2])))
def Zq6 : GOk TP K88 := Zkn.ext call18 (Qa7 fun a h => W14 a h)
def h14 (s : Shop) : K88 18 [.ag (Qat s)] = (SmallS s,.tp [.i (Qhq s true).1,.i (Qhq s true).2]) := (kx K88 18 (Qqr s) rfl :)
def K89 := K88
def Zq7 : GOk TP K89 := Zq6
def K90 := K89
def Zko : GOk TP K90 := Zq7
def exW : Work := ⟨[⟨1,2,⟨300,310⟩⟩,⟨1,3,⟨305,305⟩⟩,⟨2,1,⟨50,60⟩⟩,⟨1,2,⟨320,330⟩⟩],[[⟨1,[2,3],⟨300,306⟩⟩,⟨2,[1],⟨40,58⟩⟩],[⟨1,[2],⟨310,326⟩⟩]],5,[⟨0,1,0,0⟩]⟩
def exC : Shop := ⟨exW,[1,0,0,0],[⟨1,60,0,0,[0]⟩,⟨1,60,7,0,[]⟩,⟨2,65,0,1,[0]⟩,⟨2,60,0,0,[0,1]⟩],
 [⟨[1],⟨55,65⟩,7,3,500⟩,⟨[1,2],⟨60,60⟩,0,5,400⟩,⟨[2],⟨60,70⟩,9,8,700⟩,⟨[2],⟨65,65⟩,0,5,300⟩],[⟨4,2,1⟩,⟨6,3,1⟩],2⟩
def Qve : Qd7 exC true = 0 := by decide +kernel
def Qyi : takN exC (Qj1 exC) = 1600 := by decide +kernel
def Qvf : Qhq exC true = (1600,0) := by
 unfold Qhq
 rw [if_pos Qve,Qyi]
def W46 : Qa1 TP 17 [] (.ag (Qai exW)) := by
 refine pc Zko func17 cf17 ?_
 simp only [rc17,rs17,exW,BL,simprocAttr]
 rfl
def p46 : List V → Prop × V := fun xs => (xs = [],.ag (Qai exW))
def K91 := K90.ext 17 p46
def Zkp : GOk TP K91 := Zko.ext call17 (by rintro xs rfl; exact W46)
def h46 : K91 17 [] = (True,.ag (Qai exW)) := by show ([] = [],_) = _; simp
def W23 : Qa1 TP 19 [] (.ag (Qat exC)) := by
 refine pc Zkp func19 cf19 ?_
 have g := h46
 unfold Qai at g
 simp only [rc19,rs19,g,exC,BL,simprocAttr]
 rfl
def p23 : List V → Prop × V := fun xs => (xs = [],.ag (Qat exC))
def K92 := K91.ext 19 p23
def Zkq : GOk TP K92 := Zkp.ext call19 (by rintro xs rfl; exact W23)
def h23 : K92 19 [] = (True,.ag (Qat exC)) := by show ([] = [],_) = _; simp
def Qvg : SmallS exC := (Qit (by decide +kernel)).1
def Zg8 (n lo hi : Int) := lft K92 (h66 n lo hi) rfl
def X45 (s : Shop) (n : Int) (h : s.pieces.length ≤ 1000000) : Qa1 TP 45 [.ag (Qat s),.i n] (.b (Qa3 n 0 (s.pieces.length - 1))) := by
 refine pc Zkq func45 cf45 ?_
 have i1 : inI ((s.pieces.length : Int) - 1) := by unfold inI; omega
 simp only [rc45,rs45,Zg8,i1,BL,simprocAttr]
def K93 := K92.ext 45 (fnG eHI dHI (fun a => a.1.pieces.length ≤ 1000000) (fun a => Qa3 a.2 0 (a.1.pieces.length - 1)) (.b))
def Zkr : GOk TP K93 := Zkq.ext call45 (Qa7 fun a h => X45 a.1 a.2 h)
def x45 (s : Shop) (n : Int) : K93 45 [.ag (Qat s),.i n] = (s.pieces.length ≤ 1000000,.b (Qa3 n 0 (s.pieces.length - 1))) := (kx K93 45 (Zho (s,n)) rfl :)
def Qzx (l : List Int) (n : Int) := lft K93 (h84 l n) rfl
def Qhc (s : Shop) (plan : List Int) (i : Nat) : Bool := decide (plan.getD i 0 = -1) || (Qa3 (plan.getD i 0) 0 (s.pieces.length - 1) && !decide (plan.getD i 0 ∈ plan.take i))
def Qh3 (s : Shop) (plan : List Int) : Bool := (Ql plan.length).all (Qhc s plan) && decide (plan.length = s.wishes.length)
def Qkv {p : Nat → Bool} {n i : Nat} (hi : i < n) (h : p i = false) : (Ql n).all p = false := by
 rw [List.all_eq_false]
 exact ⟨i,Q1.2 hi,by rw [h]; simp⟩
def Qq5 {p : Nat → Bool} {n : Nat} (h : ∀ k,k < n → p k = true) : (Ql n).all p = true := by
 rw [Zs]
 exact fun i hi => h i (Q1.1 hi)
def X23 (s : Shop) (plan : List Int) (hp : s.pieces.length ≤ 1000000) (hl : plan.length ≤ 1000000) : Qa1 TP 23 [.ag (Qat s),.sl 1 (plan.map eI)] (.b (Qh3 s plan)) := by
 refine pc Zkr func23 cf23 ?_
 have g1 := fun n => x45 s n
 unfold Qat at g1
 simp only [rc23,rs23,BL,simprocAttr]
 refine Qao plan.length (fun i => ⟨lkp [(1,.sl 1 (plan.map eI)),(2,.pa (Qat s)),(7,.sl 1 (plan.map eI)),(8,.i plan.length),(9,.i i)],[]⟩) (fun i => ∀ k,k < i → Qhc s plan k = true) ?_ ?_ ?_ ?_
 ·simp only [Qg,BL,simprocAttr]
 ·intro k h; omega
 ·intro i hi hc
  have hlt : (i : Int) < plan.length := by omega
  have i1 : inI ((i : Int) + 1) := by unfold inI; omega
  obtain ⟨x,hx⟩ : ∃ x,plan[i]? = some x := ⟨_,Qd hi⟩
  have wO : plan.getD i 0 = x := by rw [Qi,hx]; rfl
  have hA : Qhc s plan i = (decide (x = -1) || (Qa3 x 0 (s.pieces.length - 1) && !decide (x ∈ plan.take i))) := by unfold Qhc; rw [wO]
  have g2 := Qzx (plan.take i) x
  simp only [List.map_take] at g2
  have xY : (plan.take i).length < 10000000 := by rw [Zg]; omega
  have jI : Qhc s plan i = true → ∀ k,k < i + 1 → Qhc s plan k = true := fun h k hk => by
   by_cases e : k = i
   ·subst e; exact h
   ·exact hc k (by omega)
  have jX : Qhc s plan i = false → Qh3 s plan = false := fun h => by unfold Qh3; rw [Qkv hi h,Zx]
  by_cases e1 : x = -1
  ·have q := jI (by rw [hA]; simp [e1])
   simp only [hlt,hx,e1,i1,g1,hp,Qf,Qe,BL,simprocAttr]
   exact q
  ·by_cases e2 : Qa3 x 0 (s.pieces.length - 1) = true
   ·by_cases e3 : x ∈ plan.take i
    ·have q := jX (by rw [hA]; simp [e1,e2,e3])
     simp only [hlt,hx,e1,e2,e3,g1,g2,hp,xY,q,i1,BL,simprocAttr]
     omega
    ·have q := jI (by rw [hA]; simp [e1,e2,e3])
     simp only [hlt,hx,e1,e2,e3,g1,g2,hp,xY,i1,Qf,Qe,BL,simprocAttr]
     exact ⟨by omega,q⟩
   ·have e2' : Qa3 x 0 (s.pieces.length - 1) = false := by simpa using e2
    have q := jX (by rw [hA]; simp [e1,e2'])
    simp only [hlt,hx,e1,e2',g1,hp,q,i1,BL,simprocAttr]
 ·intro hc
  have q : Qh3 s plan = decide (plan.length = s.wishes.length) := by unfold Qh3; rw [Qq5 hc,Xp]
  simp only [q,BL,simprocAttr]
  exact decide_eq_decide.2 (by omega)
def ePP (a : Shop × List Int) : List V := [.ag (Qat a.1),.sl 1 (a.2.map eI)]
def dPP : List V → Shop × List Int | [.ag s,.sl _ l] => (Qh0 s,l.map dI) | _ => (Qh0 [],[])
def Qy8 (a : Shop × List Int) : dPP (ePP a) = a := by obtain ⟨s,l⟩ := a; simp [dPP,ePP,Qhj,Function.comp_def,Qas]
def K94 := K93.ext 23 (fnG ePP dPP (fun a => a.1.pieces.length ≤ 1000000 ∧ a.2.length ≤ 1000000) (fun a => Qh3 a.1 a.2) (.b))
def Zks : GOk TP K94 := Zkr.ext call23 (Qa7 fun a h => X23 a.1 a.2 h.1 h.2)
def x23 (s : Shop) (l : List Int) : K94 23 [.ag (Qat s),.sl 1 (l.map eI)] = (s.pieces.length ≤ 1000000 ∧ l.length ≤ 1000000,.b (Qh3 s l)) := (kx K94 23 (Qy8 (s,l)) rfl :)
def Zg9 (s : Shop) (is : Bool) := lft K94 (h34 s is) rfl
def Zga (s : Shop) (plan : List Int) := lft K94 (h41 s plan) rfl
def Zgb (s : Shop) (plan : List Int) := lft K94 (h56 s plan) rfl
def Qsy {s : Shop} {plan : List Int} (jN : OkSt s) (h : Qh3 s plan = true) : OkPl s plan := by
 unfold Qh3 at h
 rw [Qo,decide_eq_true_eq,Zs] at h
 refine ⟨jN,by omega,fun x hx => ?_⟩
 obtain ⟨i,hi⟩ := Ze hx
 have := h.1 i (Q1.2 (Qag hi))
 unfold Qhc at this
 rw [show plan.getD i 0 = x by rw [Qi,hi]; rfl] at this
 rw [Bool.or_eq_true,decide_eq_true_eq,Qo] at this
 rcases this with e | ⟨e,_⟩
 ·omega
 ·have := Qak.1 e; omega
def Qu1 {s : Shop} {b : Bool} (h : Qd7 s b = 0) : b = true := by
 unfold Qd7 at h
 by_cases e : Qcl s = 0
 ·rw [if_neg (fun h => h e)] at h
  cases b with
  | true => rfl
  | false => rw [if_pos rfl] at h; omega
 ·rw [if_pos e] at h
  exact absurd h e
def Qef (s : Shop) (plan : List Int) : Int × Int := if Qd7 s (Qh3 s plan) = 0 then (if Qcw s plan = true then (takN s plan,0) else (0,3)) else (0,Qd7 s (Qh3 s plan))
def X8 (s : Shop) (plan : List Int) (hs : SmallS s) (hp : s.pieces.length ≤ 1000000) (hl : plan.length ≤ 1000000) : Qa1 TP 8 [.ag (Qat s),.sl 1 (plan.map eI)] (.tp [.i (Qef s plan).1,.i (Qef s plan).2]) := by
 refine pc Zks func8 cf8 ?_
 have g0 := x23 s plan
 have g1 := Zg9 s (Qh3 s plan)
 have g2 := Zga s plan
 have g3 := Zgb s plan
 have jT := stE s
 generalize (Qbc s).map eSp = sp0 at jT
 generalize aks (Qca s.work) = ks0 at jT
 generalize avs V.i (Qca s.work) = vs0 at jT
 unfold Qjs at g1
 rw [jT] at g1 g2 g3
 unfold Qat at g0 g1
 unfold Qef
 by_cases e : Qd7 s (Qh3 s plan) = 0
 ·have jN := Qwt e
  have xL := Qsy jN (Qu1 e)
  have l1 := xL.len
  rw [if_pos e] at g1 ⊢
  cases q : Qcw s plan with
  | true => simp only [rc8,rs8,g0,hp,hl,g1,hs,g2,xL,q,g3,jN,l1,BL,simprocAttr]
  | false => simp only [rc8,rs8,g0,hp,hl,g1,hs,g2,xL,q,g3,jN,l1,BL,simprocAttr]
 ·rw [if_neg e] at g1 ⊢
  simp only [rc8,rs8,g0,hp,hl,g1,hs,e,BL,simprocAttr]
end Go.CS
end
