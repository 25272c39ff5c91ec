import Derived.Test.YtjimcmcffjibmaaGreatG8
import Derived.Test.YtjimcmcffjibmaaGreatG6
import Derived.Test.YtjimcmcffjibmaaGreatG4
import Derived.Test.YtjimcmcffjibmaaGreatG5
set_option linter.all false
set_option maxHeartbeats 4000000
open List renaming getElem?_eq_getElem → Qa,getD_eq_getElem?_getD → Qb,length_map → Qc,length_append → Qg,range → Qh,getElem?_map → Qi,map_cons → Qj,mem_range → Qk,take_of_length_le → Ql,length_set → Qm,mem_filter → Qn,map_nil → Qp,mem_append → Qr,mem_map → Qs,length_cons → Qt,length_take → Qu,getElem_mem → Qw,map_append → Qy,mem_of_getElem? → Qz,mem_cons → Q0,filter_sublist → Q1,cons_append → Q2,map_map → Q3,nil_append → Q5,set_append_right → Q7,append_assoc → Q8,length_range → Q9,getElem?_append_right → Za,take_length → Zd,countP_cons → Ze,nodup_range → Zf,getElem?_eq_some_iff → Zg,getElem?_append_left → Zh,getElem?_range → Zi,getElem_range → Zj,getElem?_cons_zero → Zk,length_filter_le → Zm,length_singleton → Zn,all_eq_true → Zo,map_id'' → Zq,eq_nil_of_length_eq_zero → Zr,count_cons → Zs,take_succ_cons → Zt,mem_singleton → Zv,drop_zero → Zw,headD_eq_head?_getD → Zz,sum_cons → Z0,length_drop → Z1,drop_length → Z2,flatten_nil → Z3,getElem?_replicate → Z4,getElem?_set_self → Z5,not_of_lt_findIdx → Z6,range_succ_eq_map → Z7,Nodup → Z8,findIdx_getElem → Xa,take_zero → Xb,count_replicate → Xc,count_eq_countP → Xd,cons → Xe,flatMap_append → Xf,getElem?_take → Xg,mem_cons_self → Xh,count_eq_zero → Xi,count_pos_iff → Xj,flatMap_cons → Xn,not_mem_nil → Xp,filter_cons → Xq,mem_flatMap → Xr,length → Xs,append_nil → Xt,head?_drop → Xu,filter_map → Xv,nodup_cons → Xw,drop → Xx
open Nat renaming le_refl → Qo,not_lt_zero → Q4,zero_mul → Zl,lt_irrefl → Zp,le_trans → Zu,sub_self → Xk,lt_succ_self → Xo
open Bool renaming and_eq_true → Qv,or_eq_false_iff → Zc,and_eq_false_iff → Z9,not_eq_true' → Xm
open Option renaming getD_some → Qe,some → Zy
open Int renaming toNat_natCast → Qd,natCast_zero → Qf,le_trans → Qq,natCast_add → Qx,natCast_one → Q6,tmod_eq_emod_of_nonneg → Zb,le_refl → Zx,zero_add → Xl
noncomputable section
namespace Go.CS
open Go.Fam Go.Proofs
open Go.Proofs.Tryz
open Go.Proofs.Tryz renaming prog → TP
open Go.C06 (fnG Qap Span eI eSpan gI gR dI Qas Qa7 Qa3 Qa4 idxOf Qah Qaa Qab Qaf Qa9 Qa6 Qa5 Qad Qal Qaz vw_I Qaj hmix eLI dLI Qb1 Qac Qa0 Qa2 Qae)
variable {Γ : Gam}
set_option maxRecDepth 100000
def Qt6 {hp : List Blk} {id : Nat} {b : Blk} (h : hp[id]? = some b) : hp.set id b = hp := by
 obtain ⟨hlt,he⟩ := Zg.1 h
 rw [← he]; exact List.set_getElem_self hlt
def Qyf (id g n : Nat) : List V := [.rf id g 0 n 7,.i 0,.i n,.fn 160 []]
def midE (S : List Ev) (x : Ev) (R : List Ev) (j : Nat) : List Ev := S.take j ++ x :: (S.drop j ++ R)
def Qyx (S : List Ev) (x : Ev) (R : List Ev) (j : Nat) (h : j ≤ S.length) : (midE S x R j).length = S.length + 1 + R.length := by
 unfold midE
 rw [Qg,Qt,Qg,Qu,Z1]; omega
def Zel (S : List Ev) (x : Ev) (R : List Ev) {j : Nat} (h : j ≤ S.length) : (midE S x R j)[j]? = some x := by
 unfold midE
 rw [Za (by rw [Qu]; omega),Qu,Nat.min_eq_left h,Xk]; rfl
def Qr7 (S : List Ev) (x : Ev) (R : List Ev) {j : Nat} (h : j + 1 ≤ S.length) {y : Ev} (hy : S[j]? = some y) : (midE S x R (j + 1))[j]? = some y := by
 unfold midE
 rw [Zh (by rw [Qu]; omega),Xg,if_pos (by omega),hy]
def Qwj (S : List Ev) (x : Ev) (R : List Ev) {j : Nat} (h : j + 1 ≤ S.length) {y : Ev} (hy : S[j]? = some y) : ((midE S x R (j + 1)).set (j + 1) y).set j x = midE S x R j := by
 have h1 : S.take (j + 1) = S.take j ++ [y] := Qa4 hy
 have h2 : S.drop j = y :: S.drop (j + 1) := Qad hy
 have hl : (S.take j).length = j := by rw [Qu]; omega
 unfold midE
 rw [h1,h2,Q8,Q7 _ _ (by omega),hl,Q7 _ _ (by omega),hl,Xk]
 congr 1
 rw [show j + 1 - j = 1 by omega]
 rfl
def Qv5 (a b : Int) : (cmpI a b < 0) = (a < b) := by
 unfold cmpI
 split
 ·simp_all
 ·split <;> simp_all
def vw7 (hp : List Blk) (n : Nat) (x : Ev) : (eEv x).map (vw hp (n + 1)) = eEv x := rfl
def nr7 (x : Ev) : Qa8 (eEv x) = false := rfl
def ok7 (x : Ev) : (eEv x).all Qcg = true := rfl
def ln7 (x : Ev) : (eEv x).length = 7 := rfl
def X187 (hp : List Blk) (id g : Nat) (l : List Ev) (kL : hp.length ≤ 20) (jF : hp[id]? = some (.cells g (l.map eEv).flatten)) (hl : l.length ≤ 1000) :
  Qb7 TP 187 (Qyf id g l.length) hp fun r hp' => r = .tp [] ∧ hp' = hp.set id (.cells g ((Qcd l).map eEv).flatten) := by
 refine Qer Zbm hmix func187 Qy4.b Qy4.c Qy4.s (by exact Qy4.n) kL (by decide) ?_
 have mP : id < hp.length := (Zg.1 jF).1
 have jO : ∀ b : Blk,(hp.set id b)[id]? = some b := fun b => Z5 mP
 have kU : ∀ b b' : Blk,(hp.set id b).set id b' = hp.set id b' := fun b b' => List.set_set ..
 obtain ⟨n,hn⟩ : ∃ n,n = l.length := ⟨_,rfl⟩
 have fQ : hp.set id (.cells g ((Qcd (l.take 1) ++ l.drop 1).map eEv).flatten) = hp := by
  have : Qcd (l.take 1) ++ l.drop 1 = l := by
   cases l with
   | nil => rfl
   | cons a l => rfl
  rw [this]; exact Qt6 jF
 rw [← hn] at hl ⊢
 simp only [Qyf]
 have i0 : inI (1 : Int) := by unfold inI; omega
 simp only [rc187,rs187,i0,BL,simprocAttr]
 by_cases wT : n = 0
 ·subst wT
  have hl0 : l = [] := Zr hn.symm
  subst hl0
  refine Qaq 0 (fun i => ⟨lkp [(0,.rf id g 0 0 7),(1,.i 0),(2,.i 0),(3,.fn 160 []),(8,.i 1)],hp⟩) ?_ (fun i hi => absurd hi (Q4 _)) ?_
  ·simp only [Qf,Xl,BL,simprocAttr]
  ·have e : hp = hp.set id (.cells g ((Qcd []).map eEv).flatten) := (Qt6 jF).symm
   simp only [Qf,← e,BL,simprocAttr]
 refine Qaq (n - 1) (fun i => ⟨lkp [(0,.rf id g 0 n 7),(1,.i 0),(2,.i n),(3,.fn 160 []),(8,.i ((i : Int) + 1))],hp.set id (.cells g ((Qcd (l.take (i + 1)) ++ l.drop (i + 1)).map eEv).flatten)⟩) ?_ ?_ ?_
 ·simp only [Qf,fQ,BL,simprocAttr]
 ·intro i hi
  have hlt : (i : Int) + 1 < n := by omega
  have i1 : inI ((i : Int) + 1 + 1) := by unfold inI; omega
  obtain ⟨x,hx⟩ : ∃ x,l[i + 1]? = some x := ⟨_,Qa (by omega)⟩
  obtain ⟨S,hS⟩ : ∃ S,S = Qcd (l.take (i + 1)) := ⟨_,rfl⟩
  have hSl : S.length = i + 1 := by rw [hS,Qgq,Qu]; omega
  have hSs : SrtE S := by rw [hS]; exact Qty _
  have hd : l.drop (i + 1) = x :: l.drop (i + 1 + 1) := Qad hx
  have cL : Qcd (l.take (i + 1 + 1)) = insE x S := by rw [Qa4 hx,Qf9,← hS]
  have u5 : S ++ l.drop (i + 1) = midE S x (l.drop (i + 1 + 1)) (i + 1) := by
   unfold midE
   rw [hd,← hSl,Zd,Z2,Q5]
  rw [← hS,u5,cL]
  obtain ⟨R,hR⟩ : ∃ R,R = l.drop (i + 1 + 1) := ⟨_,rfl⟩
  have hRl : R.length + (i + 1) + 1 = n := by rw [hR,Z1]; omega
  rw [← hR]
  simp only [hlt,BL,simprocAttr]
  refine Qac (i + 1) (fun k (_ : Unit) => ⟨lkp [(0,.rf id g 0 n 7),(1,.i 0),(2,.i n),(3,.fn 160 []),(8,.i ((i : Int) + 1)),(9,.i ((i + 1 - k : Nat) : Int))],hp.set id (.cells g ((midE S x R (i + 1 - k)).map eEv).flatten)⟩) (fun k _ => ∀ y ∈ S.drop (i + 1 - k),x.min < y.min) () ?_ ?_ ?_ ?_
  ·simp only [Qf,Nat.sub_zero,Qx,Q6,BL,simprocAttr]
  ·intro y hy
   rw [Nat.sub_zero,← hSl,Z2] at hy; cases hy
  ·rintro k _ hk aM
   obtain ⟨j,hj⟩ : ∃ j,i + 1 - k = j + 1 := ⟨i - k,by omega⟩
   have eD : i + 1 - (k + 1) = j := by omega
   rw [hj] at aM ⊢
   rw [eD]
   have q8 : (0 : Int) < ((j + 1 : Nat) : Int) := by omega
   obtain ⟨y,hy⟩ : ∃ y,S[j]? = some y := ⟨_,Qa (by omega)⟩
   have m1 := Zel S x R (j := j + 1) (by omega)
   have m2 := Qr7 S x R (j := j) (by omega) hy
   have m3 := Qwj S x R (j := j) (by omega) hy
   have ml := Qyx S x R (j + 1) (by omega)
   obtain ⟨C,hC⟩ : ∃ C,C = midE S x R (j + 1) := ⟨_,rfl⟩
   rw [← hC] at m1 m2 m3 ml ⊢
   have t1 := Qd5 (e := eEv) (k := 7) (fun _ => rfl) m1
   have t2 := Qd5 (e := eEv) (k := 7) (fun _ => rfl) m2
   have q1 := Qo9 (e := eEv) (k := 7) (fun _ => rfl) y (l := C) (i := j + 1) (by omega)
   have q2 := Qo9 (e := eEv) (k := 7) (fun _ => rfl) x (l := C.set (j + 1) y) (i := j) (by rw [Qm]; omega)
   rw [m3] at q2
   have fl : (C.map eEv).flatten.length = n * 7 := by rw [Qlu,ml]; congr 1; omega
   have fl2 : ((C.set (j + 1) y).map eEv).flatten.length = n * 7 := by rw [Qlu,Qm,ml]; congr 1; omega
   have jm : ((j + 1 : Nat) : Int) - 1 = (j : Int) := by omega
   have c1 : ((j + 1 : Nat) : Int) < (n : Int) := by omega
   have c2 : (j : Int) < (n : Int) := by omega
   have c3 : (j + 1) * 7 + 7 ≤ n * 7 := by omega
   have c4 : j * 7 + 7 ≤ n * 7 := by omega
   have c5 : inI (j : Int) := by unfold inI; omega
   have c6 : (0 : Int) ≤ (j : Int) := by omega
   have c7 : (0 : Int) ≤ ((j + 1 : Nat) : Int) := by omega
   have fO : ((i + 1 : Nat) : Int) = (i : Int) + 1 := by omega
   by_cases wX : x.min < y.min
   ·have hg2 : ∀ z ∈ S.drop j,x.min < z.min := by
     rw [Qad hy]
     intro z hz
     rcases Q0.1 hz with rfl | hz
     ·exact wX
     ·exact aM z hz
    simp only [q8,jO,kU,t1,t2,jm,c1,c2,c3,c4,c5,c6,c7,fl,fl2,vw7,nr7,ok7,ln7,x160,Qv5,wX,q1,q2,BL,simprocAttr]
    exact ⟨(),hg2⟩
   ·have e : insE x S ++ R = C := by
     have h1 : ∀ z ∈ S.take (j + 1),z.min ≤ x.min := by
      have hs2 : SrtE (S.take (j + 1)) := hSs.sublist (List.take_sublist _ _)
      rw [Qa4 hy] at hs2 ⊢
      intro z hz
      rcases Qr.1 hz with hz | hz
      ·have := (List.pairwise_append.1 hs2).2.2 z hz y (Xh ..)
       omega
      ·cases Zv.1 hz; omega
     rw [Qvw h1 aM,hC]
     unfold midE
     rw [Q8]; rfl
    simp only [q8,jO,kU,t1,t2,jm,c1,c2,c3,c4,c5,c6,c7,fl,fl2,vw7,nr7,ok7,ln7,x160,Qv5,wX,e,i1,fO,BL,simprocAttr]
  ·rintro _ aM
   rw [Xk] at aM ⊢
   have e : insE x S ++ R = midE S x R 0 := by
    rw [Qvw (j := 0) (fun z hz => by simp at hz) aM]
    unfold midE
    rw [Q8]; rfl
   simp only [jO,kU,Qf,e,i1,Qx,Q6,BL,simprocAttr]
 ·have hlt : ¬ (((n - 1 : Nat) : Int) + 1 < n) := by omega
  have e : Qcd (l.take (n - 1 + 1)) ++ l.drop (n - 1 + 1) = Qcd l := by
   rw [show n - 1 + 1 = n by omega,hn,Zd,Z2,Xt]
  simp only [hlt,e,BL,simprocAttr]
structure D7 where
 hp : List Blk
 id : Nat
 g : Nat
 l : List Ev
def Qq9 (hp : List Blk) (id n : Nat) : List Ev := match hp[id]? with
 | some (.cells _ vs) => (Qbi 7 vs 0 n).map dEv
 | _ => []
def Qou {hp : List Blk} {id g : Nat} {l : List Ev} (h : hp[id]? = some (.cells g (l.map eEv).flatten)) : Qq9 hp id l.length = l := by
 unfold Qq9
 rw [h]
 simp only [Qrs,Q3]
 exact (List.map_congr_left fun x _ => Zp0 x).trans (List.map_id _)
def G7 (x : D7) : Prop := x.hp.length ≤ 20 ∧ x.hp[x.id]? = some (.cells x.g (x.l.map eEv).flatten) ∧ x.l.length ≤ 12 ∧ ghO x.hp = none
def R7 (x : D7) (r : V) (hp' : List Blk) : Prop := r = .tp [] ∧ hp' = x.hp.set x.id (.cells x.g ((Qcd x.l).map eEv).flatten)
def gh7 {x : D7} : ∀ r hp',R7 x r hp' → ghO x.hp = none → ∀ y,ghO x.hp = some y → ghO hp' = some y := by
 intro r hp' _ h y hy
 rw [h] at hy; cases hy
def eA7 (x : D7) : List V := Qyf x.id x.g x.l.length
def eH7 (x : D7) : List Blk := x.hp
def dA7 : List V → List Blk → D7
 | [.rf id g _ n _,_,_,_],hp => ⟨hp,id,g,Qq9 hp id n⟩
 | _,_ => ⟨[],0,0,[]⟩
def Zox {x : D7} (h : G7 x) : dA7 (eA7 x) (eH7 x) = x := by
 obtain ⟨hp,id,g,l⟩ := x
 show D7.mk hp id g (Qq9 hp id l.length) = _
 rw [Qou h.2.1]
def K138 := K137.extH 187 (hpG eA7 eH7 dA7 G7 R7)
def Zbn : GOk TP K138 := by
 refine Zbm.extH call187 fun xs hp => Qg5 (fun x hx => ⟨fun r hp' hr => gh7 r hp' hr hx.2.2.2,?_⟩) xs hp
 exact X187 x.hp x.id x.g x.l hx.1 hx.2.1 (Zu hx.2.2.1 (by decide))
def x187 {x : D7} (h : G7 x) : K138.h 187 (eA7 x) x.hp = (True,R7 x) := by
 have := (show K138.h 187 (eA7 x) (eH7 x) = hpG eA7 eH7 dA7 G7 R7 _ _ from rfl).trans (Qi9 x (Zox h))
 rw [show eH7 x = x.hp from rfl] at this
 rw [this]
 exact Prod.ext (propext ⟨fun _ => trivial,fun _ => h⟩) rfl
def Qtp (id g n : Nat) (k : Int) : List V := [.rf id g 0 n 7,.i 0,.i n,.i k,.fn 160 []]
def X171 (x : D7) (k : Int) (h : G7 x) : Qb7 TP 171 (Qtp x.id x.g x.l.length k) x.hp (R7 x) := by
 refine Qer Zbn hmix func171 Qy3.b Qy3.c Qy3.s (by exact Qy3.n) h.1 (by decide) ?_
 have hx := x187 h
 obtain ⟨hp,id,g,l⟩ := x
 obtain ⟨h1,h2,h3,h4⟩ := h
 simp only [eA7,Qyf] at hx
 simp only at h1 h2 h3 h4
 have i1 : inI ((l.length : Int)) := by unfold inI; omega
 have i2 : (l.length : Int) ≤ 12 := by omega
 simp only [Qtp]
 simp only [rc171,rs171,i1,Int.sub_zero,BL,simprocAttr]
 refine Qaq 0 (fun i => ⟨lkp [(0,.rf id g 0 l.length 7),(1,.i 0),(2,.i l.length),(3,.i k),(4,.fn 160 []),(10,.b true),(11,.b true)],hp⟩) ?_ (fun i hi => absurd hi (Q4 _)) ?_
 ·simp only [Qf,Xl,BL,simprocAttr]
 ·simp only [i1,i2,Int.sub_zero,hx,R7,BL,simprocAttr]
  rintro r hp' ⟨_,h⟩
  exact h
def X170 (n : Nat) (h : n ≤ 1000) : Qa1 TP 170 [.w .u64 n] (.i (Lib.bitLen n)) := by
 intro S w cargs hS hsz hrep
 obtain ⟨c,hc⟩ : ∃ c,cargs = #[c] := by
  match cargs,hsz with
  | ⟨[c]⟩,_ => exact ⟨c,rfl⟩
 subst hc
 simp only [RepL,Rep,and_true] at hrep
 subst hrep
 have e : Sfr S w w = S := funext fun k => propext ⟨fun h => h.elim id fun h => absurd (Nat.lt_of_le_of_lt h.1 h.2) (Zp _),fun h => .inl h⟩
 refine (Tryz.bits_Len n w (by omega) (by omega)).mono ?_
 rintro r w' ⟨rfl,rfl⟩
 exact ⟨_,rfl,by rw [e]; exact Evol.refl _ _ _,rfl⟩
def e170 (n : Nat) : List V := [.w .u64 n]
def d170 : List V → Nat | [.w _ x] => x.toNat | _ => 0
def Zh6 (n : Nat) : d170 (e170 n) = n := rfl
def Qvb (x : D7 × Int) : List Blk := x.1.hp
def eA1 (x : D7 × Int) : List V := Qtp x.1.id x.1.g x.1.l.length x.2
def dA1 : List V → List Blk → D7 × Int
 | [.rf id g _ n _,_,_,.i k,_],hp => (⟨hp,id,g,Qq9 hp id n⟩,k)
 | _,_ => (⟨[],0,0,[]⟩,0)
def Zou {x : D7 × Int} (h : G7 x.1) : dA1 (eA1 x) (Qvb x) = x := by
 obtain ⟨⟨hp,id,g,l⟩,k⟩ := x
 show (D7.mk hp id g (Qq9 hp id l.length),k) = _
 rw [Qou h.2.1]
def K139 := (K138.extH 171 (hpG eA1 Qvb dA1 (fun x => G7 x.1) (fun x => R7 x.1))).ext 170 (fnG e170 d170 (fun n => n ≤ 1000) (fun n => ((Lib.bitLen n : Nat) : Int)) (.i))
def Zbo : GOk TP K139 := by
 refine GOk.ext ?_ call170 (Qa7 (e := e170) (d := d170) (ok := fun n => n ≤ 1000) (g := fun n => ((Lib.bitLen n : Nat) : Int)) (eb := .i) fun n h => X170 n h)
 refine Zbn.extH call171 fun xs hp => Qg5 (fun x hx => ⟨fun r hp' hr => gh7 r hp' hr hx.2.2.2,X171 x.1 x.2 hx⟩) xs hp
def x171 {x : D7} (k : Int) (h : G7 x) : K139.h 171 (Qtp x.id x.g x.l.length k) x.hp = (True,R7 x) := by
 have := (show K139.h 171 (eA1 (x,k)) (Qvb (x,k)) = hpG eA1 Qvb dA1 (fun x => G7 x.1) (fun x => R7 x.1) _ _ from rfl).trans (Qi9 (x,k) (Zou h))
 rw [show Qvb (x,k) = x.hp from rfl,show eA1 (x,k) = Qtp x.id x.g x.l.length k from rfl] at this
 rw [this]
 exact Prod.ext (propext ⟨fun _ => trivial,fun _ => h⟩) rfl
def x170 (n : Nat) (h : n ≤ 1000) : K139 170 [.w .u64 n] = (True,.i (Lib.bitLen n)) :=
 ((show K139 170 _ = fnG e170 d170 (fun n => n ≤ 1000) (fun n => ((Lib.bitLen n : Nat) : Int)) (.i) (e170 n) from rfl).trans (Qap _ (Zh6 n))).trans (Prod.ext (propext ⟨fun _ => trivial,fun _ => h⟩) rfl)
def Qqt (id g n : Nat) : List V := [.rf id g 0 n 7,.fn 160 []]
def X159 (x : D7) (h : G7 x) : Qb7 TP 159 (Qqt x.id x.g x.l.length) x.hp (R7 x) := by
 refine Qer Zbo hmix func159 Qy2.b Qy2.c Qy2.s (by exact Qy2.n) h.1 (by decide) ?_
 have hx := fun k => x171 k h
 obtain ⟨hp,id,g,l⟩ := x
 obtain ⟨h1,h2,h3,h4⟩ := h
 simp only [Qtp] at hx
 simp only at h1 h2 h3 h4
 have hb := x170 l.length (by omega)
 have hw : IntKind.u64.wrap (l.length : Int) = (l.length : Int) :=  Zci (by omega)
 simp only [Qqt]
 simp only [rc159,rs159,hw,hb,hx,R7,cvkV,mkI,h2,Qmz,BL,simprocAttr]
 rintro r hp' ⟨_,h⟩
 exact h
def eA59 (x : D7) : List V := Qqt x.id x.g x.l.length
def dA59 : List V → List Blk → D7
 | [.rf id g _ n _,_],hp => ⟨hp,id,g,Qq9 hp id n⟩
 | _,_ => ⟨[],0,0,[]⟩
def Zhk {x : D7} (h : G7 x) : dA59 (eA59 x) (eH7 x) = x := by
 obtain ⟨hp,id,g,l⟩ := x
 show D7.mk hp id g (Qq9 hp id l.length) = _
 rw [Qou h.2.1]
def K140 := K139.extH 159 (hpG eA59 eH7 dA59 G7 R7)
def Zbp : GOk TP K140 :=
 Zbo.extH call159 fun xs hp => Qg5 (fun x hx => ⟨fun r hp' hr => gh7 r hp' hr hx.2.2.2,X159 x hx⟩) xs hp
def x159 {x : D7} (h : G7 x) : K140.h 159 (Qqt x.id x.g x.l.length) x.hp = (True,R7 x) := by
 have := (show K140.h 159 (eA59 x) (eH7 x) = hpG eA59 eH7 dA59 G7 R7 _ _ from rfl).trans (Qi9 x (Zhk h))
 rw [show eH7 x = x.hp from rfl,show eA59 x = Qqt x.id x.g x.l.length from rfl] at this
 rw [this]
 exact Prod.ext (propext ⟨fun _ => trivial,fun _ => h⟩) rfl
def X158 (l : List Int) (hl : l.length ≤ 1000) : Qa1 TP 158 [.sl 1 (l.map eI)] (.sl 1 (l.map eI)) := by
 refine pc Zbp func158 Zny ?_
 have vH : Qbi 1 (l.map V.i) 0 l.length = l.map eI := Qhi _ rfl
 have hf : Qam l.length := by unfold Qam; omega
 have pQ : Qam 0 := by unfold Qam; omega
 cases l with
 | nil =>
  simp only [rc158,rs158,Z3,pQ,Qbi,BL,simprocAttr]
  intro b _
  rfl
 | cons a l =>
  rw [Qt] at vH hf
  rw [← Qlh] at vH
  simp only [rc158,rs158,Z3,vH,hf,Qaz,Nat.mul_one,BL,simprocAttr]
  intro b hb
  subst hb
  refine ⟨fun h => Bool.noConfusion h,fun _ => ?_⟩
  rw [show [V.i a] :: l.map eI = (a :: l).map eI from rfl,vH,Qlh,Qc,Qt,if_pos (Qo _),vw_I]
def e158 (l : List Int) : List V := [.sl 1 (l.map eI)]
def d158 : List V → List Int | [.sl _ a] => a.map dI | _ => []
def Zh5 (l : List Int) : d158 (e158 l) = l := by simp [d158,e158,Function.comp_def,Qas]
def K141 := K140.ext 158 (fnG e158 d158 (fun l => l.length ≤ 1000) (fun a => a) ((fun l => .sl 1 (l.map eI))))
def Zbq : GOk TP K141 := Zbp.ext call158 (Qa7 fun a h => X158 a h)
def x158 (l : List Int) : K141 158 [.sl 1 (l.map eI)] = (l.length ≤ 1000,.sl 1 (l.map eI)) := (kx K141 158 (Zh5 l) rfl :)
def evU (u : Nat) (ws : List Int) (l : List Slip) : List Ev := (l.filter fun s => decide (s.umb = (u : Int))).map fun s => ⟨s,s.atm + ws.getD s.clerk.toNat 0⟩
def badE (l : List Ev) (i : Nat) : Bool := decide ((l.getD i ⟨sl0,0⟩).sl.kind ≠ if i % 2 = 1 then 2 else 1) || (decide (0 < i) && decide ((l.getD i ⟨sl0,0⟩).min = (l.getD (i - 1) ⟨sl0,0⟩).min))
def okEv (l : List Ev) : Bool := !(Qh l.length).any (badE l)
def evS (ws : List Int) (l : List Slip) (u : Nat) : List Ev := Qcd (evU u ws l)
def Qu8 (ws : List Int) (l : List Slip) : Bool := (Qh 10).all fun u => okEv (evS ws l u)
def Qbr (ws : List Int) (l : List Slip) : V := .pa (.sl 1 (ws.map eI) :: (Qh 10).map fun u => .sl 7 ((evS ws l u).map eEv))
def opnV (ws : List Int) (l : List Slip) : V := if Qu8 ws l then .tp [Qbr ws l,.b true] else .tp [.pn,.b false]
structure OkO (ws : List Int) (l : List Slip) : Prop where
 len : l.length ≤ 12
 wl : ws.length ≤ 1000
 umb : ∀ s ∈ l,0 ≤ s.umb ∧ s.umb ≤ 9
 clk : ∀ s ∈ l,0 ≤ s.clerk ∧ s.clerk < ws.length
 inn : ∀ s ∈ l,inI (s.atm + ws.getD s.clerk.toNat 0)
def Qyh (u : Nat) (ws : List Int) (l : List Slip) (s : Slip) : evU u ws (l ++ [s]) = if s.umb = (u : Int) then evU u ws l ++ [⟨s,s.atm + ws.getD s.clerk.toNat 0⟩] else evU u ws l := by
 unfold evU
 rw [List.filter_append,Qy]
 by_cases h : s.umb = (u : Int) <;> simp [h]
def Qf6 (c : Ctr) (l : List Slip) (n : Nat) : List V := eCtr c ++ [.sl 6 (l.map eSlip),.rf 1 n 0 n 1]
def Qto (g : Nat) (ws : List Int) : List V := [.ad 0 g 0,.sl 1 (ws.map eI)]
abbrev rfE (u n : Nat) : V := .rf u n 0 n 7
abbrev blkE (l : List Ev) : Blk := .cells l.length (l.map eEv).flatten
def hpE (B0 B1 : Blk) (ws : List Int) (e : Nat → List Ev) : List Blk := [B0,B1,.cells 0 [.sl 1 (ws.map eI),rfE 3 (e 0).length,rfE 4 (e 1).length,rfE 5 (e 2).length,rfE 6 (e 3).length,rfE 7 (e 4).length,rfE 8 (e 5).length,rfE 9 (e 6).length,rfE 10 (e 7).length,rfE 11 (e 8).length,rfE 12 (e 9).length],blkE (e 0),blkE (e 1),blkE (e 2),blkE (e 3),blkE (e 4),blkE (e 5),blkE (e 6),blkE (e 7),blkE (e 8),blkE (e 9)]
def Qpn (B0 B1 : Blk) (ws : List Int) (E : Nat → List Ev) {u : Nat} (hu : u < 10) : (hpE B0 B1 ws E)[3 + u]? = some (blkE (E u)) := by
 have hcl : u = 0 ∨ u = 1 ∨ u = 2 ∨ u = 3 ∨ u = 4 ∨ u = 5 ∨ u = 6 ∨ u = 7 ∨ u = 8 ∨ u = 9 := by omega
 rcases hcl with rfl | rfl | rfl | rfl | rfl | rfl | rfl | rfl | rfl | rfl <;> rfl
def Qvu (B0 B1 : Blk) (ws : List Int) (E : Nat → List Ev) {u : Nat} (hu : u < 10) {S : List Ev} (hS : S.length = (E u).length) : (hpE B0 B1 ws E).set (3 + u) (.cells S.length (S.map eEv).flatten) = hpE B0 B1 ws fun v => if v = u then S else E v := by
 have hcl : u = 0 ∨ u = 1 ∨ u = 2 ∨ u = 3 ∨ u = 4 ∨ u = 5 ∨ u = 6 ∨ u = 7 ∨ u = 8 ∨ u = 9 := by omega
 have hT : ∀ v,(if v = u then S else E v).length = (E v).length := fun v => by
  by_cases h : v = u
  ·rw [if_pos h,hS,h]
  ·rw [if_neg h]
 unfold hpE
 simp only [hT]
 rcases hcl with rfl | rfl | rfl | rfl | rfl | rfl | rfl | rfl | rfl | rfl <;> rfl
def zE (E : Nat → List Ev) : List V := [rfE 3 (E 0).length,rfE 4 (E 1).length,rfE 5 (E 2).length,rfE 6 (E 3).length,rfE 7 (E 4).length,rfE 8 (E 5).length,rfE 9 (E 6).length,rfE 10 (E 7).length,rfE 11 (E 8).length,rfE 12 (E 9).length]
def Zm3 (E : Nat → List Ev) {u : Nat} (hu : u < 10) : ((zE E).drop u).headD .u = rfE (3 + u) (E u).length := by
 have hcl : u = 0 ∨ u = 1 ∨ u = 2 ∨ u = 3 ∨ u = 4 ∨ u = 5 ∨ u = 6 ∨ u = 7 ∨ u = 8 ∨ u = 9 := by omega
 rcases hcl with rfl | rfl | rfl | rfl | rfl | rfl | rfl | rfl | rfl | rfl <;> rfl
def Qvt {g m : Nat} {C L1 : List V} (ws : List Int) (E : Nat → List Ev) (H : List Blk) (hC : cutL H 13 C = C) (hL : cutL H 13 L1 = L1) : (hpE (.cells g C) (.cells m L1) ws E).map (cutB H 13) = hpE (.cells g C) (.cells m L1) ws E := by
 have hu : ∀ L : List Ev,cutL H 13 (L.map eEv).flatten = (L.map eEv).flatten := fun L => Qa0 H 13 _ (Qoo L)
 simp only [hpE,Qj,Qp,cutB,cutL,cutV,hC,hL,hu,rfE,blkE]
 rfl
def Qz1 {l : List Ev} (h : okEv l = true) : ∀ k,k < l.length → badE l k = false := by
 intro k hk
 unfold okEv at h
 rw [Xm,List.any_eq_false] at h
 have := h k (Qk.2 hk)
 simpa using this
def Qu7 {l : List Ev} (h : okEv l = false) : ∃ k,k < l.length ∧ badE l k = true ∧ ∀ i,i < k → badE l i = false := by
 unfold okEv at h
 rw [Bool.not_eq_false',List.any_eq_true] at h
 have hlt : (Qh l.length).findIdx (badE l) < (Qh l.length).length := List.findIdx_lt_length.2 h
 have h1 := Xa (w := hlt)
 refine ⟨(Qh l.length).findIdx (badE l),by rwa [Q9] at hlt,by rwa [Zj] at h1,fun i hi => ?_⟩
 have h2 := Z6 hi
 rw [Zj] at h2
 simpa using h2
def Qz6 (B0 B1 : Blk) (ws : List Int) (E : Nat → List Ev) : (match (hpF 2 (hpE B0 B1 ws E))[2]? with
     | some (Blk.cells g' vs) => if g' = 0 then V.pa (List.map (vw (hpF 2 (hpE B0 B1 ws E)) 7) vs) else V.u
     | x => V.u) = .pa (.sl 1 (ws.map eI) :: (Qh 10).map fun u => .sl 7 ((E u).map eEv)) := by
 have hu : ∀ L : List Ev, upL 2 (L.map eEv).flatten = (L.map eEv).flatten := fun L => Qae 2 _ (Qoo L)
 have hF : hpF 2 (hpE B0 B1 ws E) = hpE .hole .hole ws E := by
  simp only [hpF, hpE, Zt, Xb, List.drop_succ_cons, Zw, Qj, Qp, Q2, Q5, upB, upL, upV, hu, rfE, blkE]
  rfl
 rw [hF]
 show V.pa (List.map (vw (hpE .hole .hole ws E) 7) _) = _
 have hv : ∀ u, u < 10 → vw (hpE .hole .hole ws E) 7 (rfE (3 + u) (E u).length) = .sl 7 ((E u).map eEv) := fun u hu => by
  have e := Qpn .hole .hole ws E hu
  have kA : (E u).length * 7 ≤ (E u).length * 7 := Qo _
  simp only [rfE, e, blkE, Qrs, Zlt, Qlu, kA, BL, simprocAttr]
 have h0 := hv 0 (by decide)
 have h1 := hv 1 (by decide)
 have h2 := hv 2 (by decide)
 have h3 := hv 3 (by decide)
 have h4 := hv 4 (by decide)
 have h5 := hv 5 (by decide)
 have h6 := hv 6 (by decide)
 have h7 := hv 7 (by decide)
 have h8 := hv 8 (by decide)
 have h9 := hv 9 (by decide)
 simp only [Nat.add_zero, Nat.reduceAdd] at h0 h1 h2 h3 h4 h5 h6 h7 h8 h9
 have hw : vw (hpE .hole .hole ws E) 7 (.sl 1 (ws.map eI)) = .sl 1 (ws.map eI) := rfl
 simp only [Qj, Qp, h0, h1, h2, h3, h4, h5, h6, h7, h8, h9, hw]
 rfl
def Ze2 {vs : List V} {i : Nat} {y : Ev} (h : (vs.drop (i * 7)).take 7 = eEv y) : (vs.drop (i * 7 + 6)).headD .u = .i y.min := by
 have h6 := congrArg (·[6]?) h
 simp only [Xg,List.getElem?_drop] at h6
 rw [if_pos (by decide)] at h6
 rw [Zz,Xu,h6]; rfl
def X134 (c : Ctr) (l : List Slip) (ws : List Int) (g : Nat) (L1 : List V) (hL1 : Qa8 L1 = false) (h : OkO ws l) :
  Qb7 TP 134 (Qto g ws) [.cells g (Qf6 c l L1.length),.cells L1.length L1] fun r hp' => r = opnV ws l ∧ hp' = [.cells g (Qf6 c l L1.length),.cells L1.length L1] := by
 refine Qtu Zbq hmix func134 Qy1.b Qy1.c Qy1.s (by exact Qy1.n) (lo := 2) (by exact Qo 2) (by decide) ?_
 have u7 := h.len
 have qO := h.wl
 obtain ⟨C,hC⟩ : ∃ C,C = Qf6 c l L1.length := ⟨_,rfl⟩
 have hC11 : (C.drop 11).headD .u = .sl 6 (l.map eSlip) := by rw [hC]; rfl
 have hCl : 12 ≤ C.length := by rw [hC]; exact Nat.le_succ 12
 have hC0 : ∀ H n,2 ≤ n → cutL H n C = C := by
  intro H n hn
  rw [hC]
  unfold Qf6
  rw [Qi1,Qa0 H n (eCtr c) rfl]
  simp [cutL,cutV,show 1 < n by omega]
 have hC13 : ∀ H,cutL H 13 C = C := fun H => hC0 H 13 (by decide)
 have hL13 : ∀ H,cutL H 13 L1 = L1 := fun H => Qa0 H 13 L1 hL1
 have pR : ∀ u,evU u ws [] = [] := fun u => rfl
 rw [← hC]
 simp only [Qto]
 simp only [rc134,rs134,hC11,hCl,x158,qO,BL,simprocAttr]
 refine Qaq l.length (fun k => ⟨lkp [(1,.sl 1 (ws.map eI)),(6,.ad 2 0 0),(21,.sl 6 (l.map eSlip)),(22,.i l.length),(23,.i k)],hpE (.cells g C) (.cells L1.length L1) ws fun u => evU u ws (l.take k)⟩) ?_ ?_ ?_
 ·simp only [Qf,hpE,hC13,hL13,pR,rfE,blkE,Z3,BL,simprocAttr]
 ·intro k hk
  obtain ⟨s,hs⟩ : ∃ s,l[k]? = some s := ⟨_,Qa hk⟩
  have hm : s ∈ l := Qz hs
  have hu := h.umb s hm
  have hc := h.clk s hm
  have hi := h.inn s hm
  have hrow : (l.map eSlip)[k]? = some (eSlip s) := by rw [Qi,hs]; rfl
  obtain ⟨w,hw⟩ : ∃ w,ws[s.clerk.toNat]? = some w := ⟨_,Qa (by omega)⟩
  have qI : ws.getD s.clerk.toNat 0 = w := by rw [Qb,hw]; rfl
  have dC : (ws.map eI)[s.clerk.toNat]? = some [.i w] := by rw [Qi,hw]; rfl
  rw [qI] at hi
  have hE : ∀ u : Nat,evU u ws (l.take (k + 1)) = if s.umb = (u : Int) then evU u ws (l.take k) ++ [⟨s,s.atm + w⟩] else evU u ws (l.take k) := fun u => by rw [Qa4 hs,Qyh,qI]
  obtain ⟨e,he⟩ : ∃ e,e = fun u => evU u ws (l.take k) := ⟨_,rfl⟩
  have hE2 : ∀ u : Nat,evU u ws (l.take (k + 1)) = if s.umb = (u : Int) then e u ++ [⟨s,s.atm + w⟩] else e u := fun u => by rw [hE,he]
  have hlt : (k : Int) < l.length := by omega
  have eV : ((k : Int)).toNat = k := Qd k
  have i1 : inI ((k : Int) + 1) := by unfold inI; omega
  have uG : (0 : Int) ≤ k := by omega
  have hcE : ∀ H (L : List Ev),cutL H 13 (L.map eEv).flatten = (L.map eEv).flatten := fun H L => Qa0 H 13 _ (Qoo L)
  have hcA : ∀ H (L : List Ev) (a b c d e f g : Int),cutL H 13 ((L.map eEv).flatten ++ [[V.i a,V.i b,V.i c,V.i d,V.i e,V.i f,V.i g]].flatten) = (L.map eEv).flatten ++ [V.i a,V.i b,V.i c,V.i d,V.i e,V.i f,V.i g] := fun H L a b c d e f g => by rw [Qi1,hcE]; rfl
  have hcB : ∀ H (L : List Ev) (a b c d e f g : Int),cutL H 13 ((L.map eEv).flatten ++ [V.i a,V.i b,V.i c,V.i d,V.i e,V.i f,V.i g]) = (L.map eEv).flatten ++ [V.i a,V.i b,V.i c,V.i d,V.i e,V.i f,V.i g] := fun H L a b c d e f g => by rw [Qi1,hcE]; rfl
  have fR : ∀ r : List V,[r].flatten = r := fun r => by simp
  have kY : ((k + 1 : Nat) : Int) = (k : Int) + 1 := by omega
  have dD : (0 : Int) < ((10 : Nat) : Int) := by decide
  have xM : ∀ u,Qam ((e u).length + 1) := fun u => by
   have h1 : (evU u ws (l.take k)).length ≤ (l.take k).length := by
    unfold evU; rw [Qc]; exact Zm _ _
   have h2 : (l.take k).length ≤ l.length := by rw [Qu]; omega
   have h3 : (e u).length ≤ 12 := by rw [he]; exact Zu h1 (Zu h2 u7)
   unfold Qam; omega
  rw [← he]
  simp only [hE2]
  obtain ⟨c,dM⟩ : ∃ c : Nat,s.umb = (c : Int) := ⟨s.umb.toNat,by omega⟩
  have hE3 : ∀ u : Nat,(if s.umb = (u : Int) then e u ++ [⟨s,s.atm + w⟩] else e u) = if c = u then e u ++ [⟨s,s.atm + w⟩] else e u := fun u => by
   by_cases hq : c = u
   ·rw [if_pos hq,if_pos (by omega)]
   ·rw [if_neg hq,if_neg (by omega)]
  simp only [hE3]
  have hcl : c = 0 ∨ c = 1 ∨ c = 2 ∨ c = 3 ∨ c = 4 ∨ c = 5 ∨ c = 6 ∨ c = 7 ∨ c = 8 ∨ c = 9 := by omega
  rcases hcl with rfl | rfl | rfl | rfl | rfl | rfl | rfl | rfl | rfl | rfl <;>
  ·have hx := dM
   simp only [Int.cast_ofNat_Int,Qf,Q6] at hx
   obtain ⟨id,clerk,atm,kind,umb,guest⟩ := s
   simp only at hx hc hi hw dC
   subst hx
   simp only [hpE,hlt,hrow,eV,uG,hc.1,hc.2,i1,hi,dC,hC13,hL13,hcE,hcA,hcB,dD,xM,Qlu,rfE,blkE,eSlip,Qg,Qy,List.flatten_append,eEv,kY,fR,show ((0 : Int) < ((10 : Nat) : Int)) = True from eq_true (by decide),BL,simprocAttr]
 ·have hlt : ¬ ((l.length : Int) < l.length) := by omega
  obtain ⟨Hj,hHj⟩ : ∃ Hj : Nat → List Blk,Hj = fun j => hpE (.cells g C) (.cells L1.length L1) ws fun u => if u < j then evS ws l u else evU u ws l := ⟨_,rfl⟩
  obtain ⟨Z,hZ⟩ : ∃ Z : List V,Z = zE fun u => evU u ws l := ⟨_,rfl⟩
  have hH0 : hpE (.cells g C) (.cells L1.length L1) ws (fun u => evU u ws l) = Hj 0 := by rw [hHj]; rfl
  have hHl : ∀ j,(Hj j).length = 13 := fun j => by rw [hHj]; rfl
  have hHg : ∀ j,ghO (Hj j) = none := fun j => by rw [hHj]; rfl
  have qV : ∀ u,(evU u ws l).length ≤ 12 := fun u => by
   unfold evU; rw [Qc]; exact Zu (Zm _ _) u7
  have hT : l.take l.length = l := Zd
  have gT : (Hj 0)[2]? = some (.cells 0 (.sl 1 (ws.map eI) :: Z)) := by rw [hHj,hZ]; rfl
  have hHd0 : ∀ j,((Hj j).take 13).map (cutB (Hj j) 13) = Hj j := fun j => by
   have e := Qvt (g := g) (m := L1.length) ws (fun u => if u < j then evS ws l u else evU u ws l) (Hj j) (hC13 _) (hL13 _)
   rw [Ql (by rw [hHl]; decide)]
   have e2 : Hj j = hpE (.cells g C) (.cells L1.length L1) ws fun u => if u < j then evS ws l u else evU u ws l := by rw [hHj]
   rw [← e2] at e
   exact e
  have hHd : ∀ j b,((Hj j ++ [b]).take 13).map (cutB (Hj j ++ [b]) 13) = Hj j := fun j b => by
   have e := Qvt (g := g) (m := L1.length) ws (fun u => if u < j then evS ws l u else evU u ws l) (Hj j ++ [b]) (hC13 _) (hL13 _)
   have e2 : Hj j = hpE (.cells g C) (.cells L1.length L1) ws fun u => if u < j then evS ws l u else evU u ws l := by rw [hHj]
   rw [← e2] at e
   rw [List.take_append_of_le_length (by rw [hHl]; decide),Ql (by rw [hHl]; decide)]
   exact e
  have hZ10 : Z.length = 10 := by rw [hZ]; rfl
  obtain ⟨nu,fS⟩ : ∃ nu,nu = (Qh 10).findIdx fun u => !okEv (evS ws l u) := ⟨_,rfl⟩
  have nT : nu ≤ 10 := by rw [fS]; exact List.findIdx_le_length
  have hZt : Z.take 10 = Z := Ql (by omega)
  have hcZ : ∀ H,cutL H 13 Z = Z := fun H => by rw [hZ]; rfl
  rw [hT,hH0]
  simp only [hlt,gT,hZ10,BL,simprocAttr]
  refine Qaq nu (fun j => ⟨lkp [(6,.ad 2 0 0),(56,.ag Z),(57,.i j)],Hj j⟩) ?_ ?_ ?_
  ·simp only [Qf,hZt,hHd0,hcZ,BL,simprocAttr]
  ·intro j hj
   have yK : j < 10 := by omega
   have vY : (j : Int) < 10 := by omega
   have q8 : (0 : Int) ≤ j := by omega
   have qQ : (j : Int) < ((10 : Nat) : Int) := by omega
   obtain ⟨S,hS⟩ : ∃ S,S = evS ws l j := ⟨_,rfl⟩
   obtain ⟨n,hn⟩ : ∃ n,n = (evU j ws l).length := ⟨_,rfl⟩
   have hSn : S.length = n := by rw [hS,hn]; exact Qgq _
   have g0 : (Hj j)[3 + j]? = some (.cells n ((evU j ws l).map eEv).flatten) := by
    have e := Qpn (.cells g C) (.cells L1.length L1) ws (fun u => if u < j then evS ws l u else evU u ws l) yK
    rw [hHj,hn]
    rw [show (if j < j then evS ws l j else evU j ws l) = evU j ws l from if_neg (Zp _)] at e
    exact e
   have g1 : (Hj (j + 1))[3 + j]? = some (.cells n (S.map eEv).flatten) := by
    have e := Qpn (.cells g C) (.cells L1.length L1) ws (fun u => if u < j + 1 then evS ws l u else evU u ws l) yK
    rw [show (if j < j + 1 then evS ws l j else evU j ws l) = S from (if_pos (Xo _)).trans hS.symm] at e
    rw [hHj,← hSn]
    exact e
   have gset : (Hj j).set (3 + j) (.cells n (S.map eEv).flatten) = Hj (j + 1) := by
    have e := Qvu (.cells g C) (.cells L1.length L1) ws (fun u => if u < j then evS ws l u else evU u ws l) yK (S := S) (by show S.length = (if j < j then evS ws l j else evU j ws l).length; rw [if_neg (Zp _),hSn,hn])
    rw [hSn] at e
    rw [hHj]
    refine e.trans ?_
    show _ = hpE _ _ _ _
    congr 1
    funext v
    by_cases h1 : v = j
    ·rw [if_pos h1,if_pos (by omega),hS,h1]
    ·rw [if_neg h1]
     by_cases h2 : v < j
     ·rw [if_pos h2,if_pos (by omega)]
     ·rw [if_neg h2,if_neg (by omega)]
   have hz : (Z.drop j).headD .u = rfE (3 + j) n := by rw [hZ,hn]; exact Zm3 _ yK
   have hx : K141.h 159 [.rf (3 + j) n 0 n 7,.fn 160 []] (Hj j) = (True,fun r hp' => r = .tp [] ∧ hp' = Hj (j + 1)) := by
    have e := x159 (x := ⟨Hj j,3 + j,n,evU j ws l⟩) ⟨by rw [hHl]; decide,g0,qV j,hHg j⟩
    simp only [Qqt,← hn] at e
    refine e.trans (Prod.ext rfl ?_)
    funext r hp'
    show (r = .tp [] ∧ hp' = (Hj j).set (3 + j) (.cells n ((Qcd (evU j ws l)).map eEv).flatten)) = _
    rw [show Qcd (evU j ws l) = S from hS.symm,gset]
   obtain ⟨H1,hH1⟩ : ∃ H1,H1 = Hj (j + 1) := ⟨_,rfl⟩
   have yI : H1.length = 13 := by rw [hH1]; exact hHl _
   have ga : ∀ b : Blk,(H1 ++ [b])[3 + j]? = some (.cells n (S.map eEv).flatten) := fun b => by rw [Zh (by omega),hH1,g1]
   have gb : ∀ b : Blk,(H1 ++ [b])[13]? = some b := fun b => by rw [Za (by omega),yI]; rfl
   have gs : ∀ b c : Blk,(H1 ++ [b]).set 13 c = H1 ++ [c] := fun b c => by rw [Q7 _ _ (by omega),yI]; rfl
   have gd : ∀ b : Blk,((H1 ++ [b]).take 13).map (cutB (H1 ++ [b]) 13) = H1 := fun b => by rw [hH1]; exact hHd _ b
   have gd0 : (H1.take 13).map (cutB H1 13) = H1 := by rw [hH1]; exact hHd0 _
   rw [← hH1] at hx g1
   have j3 : 3 + j < 13 := by omega
   have jn : (j : Int).toNat = j := Qd j
   have mQ : n ≤ 12 := by rw [hn]; exact qV j
   have jA : ∀ k,k < n → badE S k = false := by
    rw [← hSn]
    refine Qz1 ?_
    rw [fS] at hj
    have h2 := Z6 hj
    rw [Zj] at h2
    rw [hS]
    simpa using h2
   have ij : inI ((j : Int) + 1) := by unfold inI; omega
   have iD : ((j + 1 : Nat) : Int) = (j : Int) + 1 := by omega
   simp only [vY,qQ,q8,jn,hz,hx,g1,hZ10,yI,j3,hcZ,gd0,forall_eq_apply_imp_iff,and_imp,forall_eq,BL,simprocAttr]
   refine Qaq n (fun k => ⟨lkp [(6,.ad 2 0 0),(10,.rf (3 + j) n 0 n 7),(56,.ag Z),(57,.i j),(62,.rf (3 + j) n 0 n 7),(63,.i n),(64,.i k)],H1⟩) ?_ ?_ ?_
   ·simp only [Qf,hcZ,gd0,j3,BL,simprocAttr]
   ·intro k hk
    obtain ⟨x,aN⟩ : ∃ x,S[k]? = some x := ⟨_,Qa (by omega)⟩
    have t1 := Qd5 (e := eEv) (k := 7) (fun _ => rfl) aN
    have fl : (S.map eEv).flatten.length = n * 7 := by rw [Qlu,hSn]
    have c1 : k * 7 + 7 ≤ n * 7 := by omega
    have kl : (k : Int) < n := by omega
    have k0 : (0 : Int) ≤ k := by omega
    have kn : (k : Int).toNat = k := Qd k
    have i1 : inI ((k : Int) + 1) := by unfold inI; omega
    have km2 : ((k : Int).tmod 2 = 1) = (k % 2 = 1) := by rw [Zb k0]; exact propext ⟨fun h => by omega,fun h => by omega⟩
    have kY : ((k + 1 : Nat) : Int) = (k : Int) + 1 := by omega
    have kb := jA k (by omega)
    unfold badE at kb
    rw [Qb,aN] at kb
    simp only [Qe,Zc,decide_eq_false_iff_not,Z9,ne_eq,Decidable.not_not] at kb
    obtain ⟨kb1,kb2⟩ := kb
    by_cases uG : k = 0
    ·subst uG
     have kO : ¬ (0 % 2 = 1) := by decide
     rw [if_neg kO] at kb1
     rw [Zl,Zw] at t1
     have kl0 : (0 : Int) < n := by omega
     have km0 : ¬ Int.tmod 0 2 = 1 := by decide
     have i10 : inI 1 := by unfold inI; omega
     simp only [kl,k0,kn,g1,ga,gb,gs,gd,gd0,yI,t1,fl,c1,i1,eEv,hcZ,j3,km2,kY,kO,kb1,Qf,Zl,kl0,km0,i10,BL,simprocAttr]
    ·obtain ⟨y,qN⟩ : ∃ y,S[k - 1]? = some y := ⟨_,Qa (by omega)⟩
     have t2 := Qd5 (e := eEv) (k := 7) (fun _ => rfl) qN
     have t3 : (Xx ((k - 1) * 7 + 6) (S.map eEv).flatten).headD .u = .i y.min := Ze2 t2
     have kpos : (0 : Int) < k := by omega
     have km : ((k : Int) - 1).toNat = k - 1 := by omega
     have c2 : (k - 1) * 7 + 7 ≤ n * 7 := by omega
     have kl2 : (k : Int) - 1 < n := by omega
     have k02 : (0 : Int) ≤ (k : Int) - 1 := by omega
     have i2 : inI ((k : Int) - 1) := by unfold inI; omega
     rw [Qb,qN] at kb2
     have kb3 : ¬ x.min = y.min := by
      rcases kb2 with h | h
      ·omega
      ·exact h
     by_cases kO : k % 2 = 1
     ·rw [if_pos kO] at kb1
      simp only [kl,k0,kn,g1,ga,gb,gs,gd,gd0,yI,t1,fl,c1,i1,eEv,hcZ,j3,km2,kY,kO,kb1,kb3,kpos,km,c2,kl2,k02,i2,t2,t3,BL,simprocAttr]
     ·rw [if_neg kO] at kb1
      simp only [kl,k0,kn,g1,ga,gb,gs,gd,gd0,yI,t1,fl,c1,i1,eEv,hcZ,j3,km2,kY,kO,kb1,kb3,kpos,km,c2,kl2,k02,i2,t2,t3,BL,simprocAttr]
   ·have hlt : ¬ ((n : Int) < n) := by omega
    simp only [hlt,gd0,hcZ,ij,iD,BL,simprocAttr]
    rw [hH1]
  ·by_cases dD : nu = 10
   ·have jE : Qu8 ws l = true := by
     unfold Qu8
     rw [Zo]
     intro u hu
     have e := List.findIdx_eq_length.1 (fS.symm.trans (dD.trans (Q9).symm)) u hu
     simpa using e
    have hlt : ¬ ((nu : Int) < 10) := by omega
    have hE : Hj nu = hpE (.cells g C) (.cells L1.length L1) ws fun u => if u < 10 then evS ws l u else evU u ws l := by rw [hHj,dD]
    simp only [hlt,hE,BL,simprocAttr]
    refine ⟨?_,?_⟩
    ·rw [show opnV ws l = .tp [Qbr ws l,.b true] by unfold opnV; rw [if_pos jE]]
     congr 1
     congr 1
     exact Qz6 _ _ ws (fun u => if u < 10 then evS ws l u else evU u ws l)
    ·simp only [hpE,Zt,Xb,Qj,Qp,cutB,hC0 _ 2 (Qo 2),Qa0 _ 2 L1 hL1]
   ·obtain ⟨j,wY⟩ : ∃ j,j = nu := ⟨_,rfl⟩
    rw [← wY]
    have yK : j < 10 := by omega
    have vY : (j : Int) < 10 := by omega
    have q8 : (0 : Int) ≤ j := by omega
    have qQ : (j : Int) < ((10 : Nat) : Int) := by omega
    obtain ⟨S,hS⟩ : ∃ S,S = evS ws l j := ⟨_,rfl⟩
    obtain ⟨n,hn⟩ : ∃ n,n = (evU j ws l).length := ⟨_,rfl⟩
    have hSn : S.length = n := by rw [hS,hn]; exact Qgq _
    have g0 : (Hj j)[3 + j]? = some (.cells n ((evU j ws l).map eEv).flatten) := by
     have e := Qpn (.cells g C) (.cells L1.length L1) ws (fun u => if u < j then evS ws l u else evU u ws l) yK
     rw [hHj,hn]
     rw [show (if j < j then evS ws l j else evU j ws l) = evU j ws l from if_neg (Zp _)] at e
     exact e
    have g1 : (Hj (j + 1))[3 + j]? = some (.cells n (S.map eEv).flatten) := by
     have e := Qpn (.cells g C) (.cells L1.length L1) ws (fun u => if u < j + 1 then evS ws l u else evU u ws l) yK
     rw [show (if j < j + 1 then evS ws l j else evU j ws l) = S from (if_pos (Xo _)).trans hS.symm] at e
     rw [hHj,← hSn]
     exact e
    have gset : (Hj j).set (3 + j) (.cells n (S.map eEv).flatten) = Hj (j + 1) := by
     have e := Qvu (.cells g C) (.cells L1.length L1) ws (fun u => if u < j then evS ws l u else evU u ws l) yK (S := S) (by show S.length = (if j < j then evS ws l j else evU j ws l).length; rw [if_neg (Zp _),hSn,hn])
     rw [hSn] at e
     rw [hHj]
     refine e.trans ?_
     show _ = hpE _ _ _ _
     congr 1
     funext v
     by_cases h1 : v = j
     ·rw [if_pos h1,if_pos (by omega),hS,h1]
     ·rw [if_neg h1]
      by_cases h2 : v < j
      ·rw [if_pos h2,if_pos (by omega)]
      ·rw [if_neg h2,if_neg (by omega)]
    have hz : (Z.drop j).headD .u = rfE (3 + j) n := by rw [hZ,hn]; exact Zm3 _ yK
    have hx : K141.h 159 [.rf (3 + j) n 0 n 7,.fn 160 []] (Hj j) = (True,fun r hp' => r = .tp [] ∧ hp' = Hj (j + 1)) := by
     have e := x159 (x := ⟨Hj j,3 + j,n,evU j ws l⟩) ⟨by rw [hHl]; decide,g0,qV j,hHg j⟩
     simp only [Qqt,← hn] at e
     refine e.trans (Prod.ext rfl ?_)
     funext r hp'
     show (r = .tp [] ∧ hp' = (Hj j).set (3 + j) (.cells n ((Qcd (evU j ws l)).map eEv).flatten)) = _
     rw [show Qcd (evU j ws l) = S from hS.symm,gset]
    obtain ⟨H1,hH1⟩ : ∃ H1,H1 = Hj (j + 1) := ⟨_,rfl⟩
    have yI : H1.length = 13 := by rw [hH1]; exact hHl _
    have ga : ∀ b : Blk,(H1 ++ [b])[3 + j]? = some (.cells n (S.map eEv).flatten) := fun b => by rw [Zh (by omega),hH1,g1]
    have gb : ∀ b : Blk,(H1 ++ [b])[13]? = some b := fun b => by rw [Za (by omega),yI]; rfl
    have gs : ∀ b c : Blk,(H1 ++ [b]).set 13 c = H1 ++ [c] := fun b c => by rw [Q7 _ _ (by omega),yI]; rfl
    have gd : ∀ b : Blk,((H1 ++ [b]).take 13).map (cutB (H1 ++ [b]) 13) = H1 := fun b => by rw [hH1]; exact hHd _ b
    have gd0 : (H1.take 13).map (cutB H1 13) = H1 := by rw [hH1]; exact hHd0 _
    rw [← hH1] at hx g1
    have j3 : 3 + j < 13 := by omega
    have jn : (j : Int).toNat = j := Qd j
    have mQ : n ≤ 12 := by rw [hn]; exact qV j
    have fT : okEv S = false := by
     have hlt : (Qh 10).findIdx (fun u => !okEv (evS ws l u)) < (Qh 10).length := by rw [← fS,Q9]; omega
     have h1 := Xa (w := hlt)
     rw [Zj,← fS,← wY] at h1
     rw [hS]
     simpa using h1
    obtain ⟨nb,aV,nU,jA⟩ := Qu7 fT
    have pS : nb ≤ n := by omega
    have yF : opnV ws l = .tp [.pn,.b false] := by
     unfold opnV
     rw [if_neg]
     unfold Qu8
     rw [Zo]
     intro h
     have := h j (Qk.2 yK)
     rw [← hS,fT] at this
     cases this
    have gq : ∀ b : Blk,((H1 ++ [b]).take 2).map (cutB (H1 ++ [b]) 2) = [.cells g C,.cells L1.length L1] := fun b => by
     rw [hH1,hHj]
     simp only [hpE,Q2,Zt,Xb,Qj,Qp,cutB,hC0 _ 2 (Qo 2),Qa0 _ 2 L1 hL1]
    simp only [vY,qQ,q8,jn,hz,hx,g1,hZ10,yI,j3,hcZ,gd0,forall_eq_apply_imp_iff,and_imp,forall_eq,BL,simprocAttr]
    refine Qaq nb (fun k => ⟨lkp [(6,.ad 2 0 0),(10,.rf (3 + j) n 0 n 7),(56,.ag Z),(57,.i j),(62,.rf (3 + j) n 0 n 7),(63,.i n),(64,.i k)],H1⟩) ?_ ?_ ?_
    ·simp only [Qf,hcZ,gd0,j3,BL,simprocAttr]
    ·intro k hk
     obtain ⟨x,aN⟩ : ∃ x,S[k]? = some x := ⟨_,Qa (by omega)⟩
     have t1 := Qd5 (e := eEv) (k := 7) (fun _ => rfl) aN
     have fl : (S.map eEv).flatten.length = n * 7 := by rw [Qlu,hSn]
     have c1 : k * 7 + 7 ≤ n * 7 := by omega
     have kl : (k : Int) < n := by omega
     have k0 : (0 : Int) ≤ k := by omega
     have kn : (k : Int).toNat = k := Qd k
     have i1 : inI ((k : Int) + 1) := by unfold inI; omega
     have km2 : ((k : Int).tmod 2 = 1) = (k % 2 = 1) := by rw [Zb k0]; exact propext ⟨fun h => by omega,fun h => by omega⟩
     have kY : ((k + 1 : Nat) : Int) = (k : Int) + 1 := by omega
     have kb := jA k (by omega)
     unfold badE at kb
     rw [Qb,aN] at kb
     simp only [Qe,Zc,decide_eq_false_iff_not,Z9,ne_eq,Decidable.not_not] at kb
     obtain ⟨kb1,kb2⟩ := kb
     by_cases uG : k = 0
     ·subst uG
      have kO : ¬ (0 % 2 = 1) := by decide
      rw [if_neg kO] at kb1
      rw [Zl,Zw] at t1
      have kl0 : (0 : Int) < n := by omega
      have km0 : ¬ Int.tmod 0 2 = 1 := by decide
      have i10 : inI 1 := by unfold inI; omega
      simp only [kl,k0,kn,g1,ga,gb,gs,gd,gd0,yI,t1,fl,c1,i1,eEv,hcZ,j3,km2,kY,kO,kb1,Qf,Zl,kl0,km0,i10,BL,simprocAttr]
     ·obtain ⟨y,qN⟩ : ∃ y,S[k - 1]? = some y := ⟨_,Qa (by omega)⟩
      have t2 := Qd5 (e := eEv) (k := 7) (fun _ => rfl) qN
      have t3 : (Xx ((k - 1) * 7 + 6) (S.map eEv).flatten).headD .u = .i y.min := Ze2 t2
      have kpos : (0 : Int) < k := by omega
      have km : ((k : Int) - 1).toNat = k - 1 := by omega
      have c2 : (k - 1) * 7 + 7 ≤ n * 7 := by omega
      have kl2 : (k : Int) - 1 < n := by omega
      have k02 : (0 : Int) ≤ (k : Int) - 1 := by omega
      have i2 : inI ((k : Int) - 1) := by unfold inI; omega
      rw [Qb,qN] at kb2
      have kb3 : ¬ x.min = y.min := by
       rcases kb2 with h | h
       ·omega
       ·exact h
      by_cases kO : k % 2 = 1
      ·rw [if_pos kO] at kb1
       simp only [kl,k0,kn,g1,ga,gb,gs,gd,gd0,yI,t1,fl,c1,i1,eEv,hcZ,j3,km2,kY,kO,kb1,kb3,kpos,km,c2,kl2,k02,i2,t2,t3,BL,simprocAttr]
      ·rw [if_neg kO] at kb1
       simp only [kl,k0,kn,g1,ga,gb,gs,gd,gd0,yI,t1,fl,c1,i1,eEv,hcZ,j3,km2,kY,kO,kb1,kb3,kpos,km,c2,kl2,k02,i2,t2,t3,BL,simprocAttr]
    ·obtain ⟨k,hk⟩ : ∃ k,k = nb := ⟨_,rfl⟩
     rw [← hk]
     rw [← hk] at aV nU
     obtain ⟨x,aN⟩ : ∃ x,S[k]? = some x := ⟨_,Qa aV⟩
     rw [hSn] at aV
     have t1 := Qd5 (e := eEv) (k := 7) (fun _ => rfl) aN
     have fl : (S.map eEv).flatten.length = n * 7 := by rw [Qlu,hSn]
     have c1 : k * 7 + 7 ≤ n * 7 := by omega
     have kl : (k : Int) < n := by omega
     have k0 : (0 : Int) ≤ k := by omega
     have kn : (k : Int).toNat = k := Qd k
     have i1 : inI ((k : Int) + 1) := by unfold inI; omega
     have km2 : ((k : Int).tmod 2 = 1) = (k % 2 = 1) := by rw [Zb k0]; exact propext ⟨fun h => by omega,fun h => by omega⟩
     have kb := nU
     unfold badE at kb
     rw [Qb,aN] at kb
     simp only [Qe,Bool.or_eq_true,decide_eq_true_eq,Qv,ne_eq] at kb
     by_cases uG : k = 0
     ·subst uG
      have kO : ¬ (0 % 2 = 1) := by decide
      rw [if_neg kO] at kb
      have kb1 : ¬ x.sl.kind = 1 := by
       rcases kb with h | h
       ·exact h
       ·omega
      rw [Zl,Zw] at t1
      have kl0 : (0 : Int) < n := by omega
      have km0 : ¬ Int.tmod 0 2 = 1 := by decide
      have i10 : inI 1 := by unfold inI; omega
      simp only [kl,k0,kn,g1,ga,gb,gs,gd,gd0,yI,t1,fl,c1,i1,eEv,hcZ,j3,km2,kO,yF,gq,kb1,Qf,Zl,kl0,km0,i10,BL,simprocAttr]
     ·obtain ⟨y,qN⟩ : ∃ y,S[k - 1]? = some y := ⟨_,Qa (by omega)⟩
      have t2 := Qd5 (e := eEv) (k := 7) (fun _ => rfl) qN
      have t3 : (Xx ((k - 1) * 7 + 6) (S.map eEv).flatten).headD .u = .i y.min := Ze2 t2
      have kpos : (0 : Int) < k := by omega
      have km : ((k : Int) - 1).toNat = k - 1 := by omega
      have c2 : (k - 1) * 7 + 7 ≤ n * 7 := by omega
      have kl2 : (k : Int) - 1 < n := by omega
      have k02 : (0 : Int) ≤ (k : Int) - 1 := by omega
      have i2 : inI ((k : Int) - 1) := by unfold inI; omega
      rw [Qb,qN] at kb
      simp only [Qe] at kb
      by_cases kO : k % 2 = 1
      ·rw [if_pos kO] at kb
       by_cases kb1 : x.sl.kind = 2
       ·have kb3 : x.min = y.min := by
         rcases kb with h | h
         ·exact absurd kb1 h
         ·exact h.2
        simp only [kl,k0,kn,g1,ga,gb,gs,gd,gd0,yI,t1,fl,c1,i1,eEv,hcZ,j3,km2,kO,yF,gq,kb1,kb3,kpos,km,c2,kl2,k02,i2,t2,t3,BL,simprocAttr]
       ·simp only [kl,k0,kn,g1,ga,gb,gs,gd,gd0,yI,t1,fl,c1,i1,eEv,hcZ,j3,km2,kO,yF,gq,kb1,kpos,km,c2,kl2,k02,i2,t2,t3,BL,simprocAttr]
      ·rw [if_neg kO] at kb
       by_cases kb1 : x.sl.kind = 1
       ·have kb3 : x.min = y.min := by
         rcases kb with h | h
         ·exact absurd kb1 h
         ·exact h.2
        simp only [kl,k0,kn,g1,ga,gb,gs,gd,gd0,yI,t1,fl,c1,i1,eEv,hcZ,j3,km2,kO,yF,gq,kb1,kb3,kpos,km,c2,kl2,k02,i2,t2,t3,BL,simprocAttr]
       ·simp only [kl,k0,kn,g1,ga,gb,gs,gd,gd0,yI,t1,fl,c1,i1,eEv,hcZ,j3,km2,kO,yF,gq,kb1,kpos,km,c2,kl2,k02,i2,t2,t3,BL,simprocAttr]
abbrev hpB (c : Ctr) (l : List Slip) (g : Nat) (L : List V) : List Blk := [.cells g (Qf6 c l L.length),.cells L.length L]
structure DB where
 c : Ctr
 l : List Slip
 ws : List Int
 g : Nat
 L : List V
def eAb4 (x : DB) : List V := Qto x.g x.ws
def eHbk (x : DB) : List Blk := hpB x.c x.l x.g x.L
def dBk : List V → Ctr × List Slip
 | a :: b :: c :: d :: e :: f :: g :: h :: i :: j :: k :: .sl _ s :: _ => (dCtr [a,b,c,d,e,f,g,h,i,j,k],s.map Qf8)
 | _ => (⟨[],[],[],[],⟨0,0,0,0,0,0,0⟩⟩,[])
def Zdi (c : Ctr) (l : List Slip) (n : Nat) : dBk (Qf6 c l n) = (c,l) := by
 show (dCtr (eCtr c),(l.map eSlip).map Qf8) = _
 rw [Qfn,Q3]
 congr 1
 exact Zq (fun s => Qg0 s) l
def dAb4 : List V → List Blk → DB
 | [.ad _ g _,.sl _ w],[.cells _ b,.cells _ L] => ⟨(dBk b).1,(dBk b).2,w.map dI,g,L⟩
 | _,_ => ⟨⟨[],[],[],[],⟨0,0,0,0,0,0,0⟩⟩,[],[],0,[]⟩
def dIs (w : List Int) : (w.map eI).map dI = w := by rw [Q3]; exact Zq (fun s => Qas s) w
def Zow (x : DB) : dAb4 (eAb4 x) (eHbk x) = x := by
 obtain ⟨c,l,ws,g,L⟩ := x
 show DB.mk (dBk (Qf6 c l L.length)).1 (dBk (Qf6 c l L.length)).2 ((ws.map eI).map dI) g L = _
 rw [Zdi,dIs]
def G134 (x : DB) : Prop := Qa8 x.L = false ∧ OkO x.ws x.l
def R134 (x : DB) (r : V) (hp' : List Blk) : Prop := r = opnV x.ws x.l ∧ hp' = hpB x.c x.l x.g x.L
def K142 := K141.extH 134 (hpG eAb4 eHbk dAb4 G134 R134)
def Qss : GOk TP K142 :=
 Zbq.extH call134 fun xs hp => Qg5 (fun x hx => ⟨fun r hp' hr y hy => absurd hy (by simp [eHbk,ghO]),X134 x.c x.l x.ws x.g x.L hx.1 hx.2⟩) xs hp
def x134 {x : DB} (h : G134 x) : K142.h 134 (eAb4 x) (eHbk x) = (True,R134 x) := by
 rw [show K142.h 134 (eAb4 x) (eHbk x) = hpG eAb4 eHbk dAb4 G134 R134 _ _ from rfl,Qi9 x (Zow x)]
 exact Prod.ext (propext ⟨fun _ => trivial,fun _ => h⟩) rfl
def Qmw (s : Span) : List Int := (Qh (s.high - s.low + 1).toNat).map fun (i : Nat) => s.low + (i : Int)
def Qcc (l : List Slip) : List Span → List Int → List (List Int)
 | [],ws => if Qu8 ws l then [ws] else []
 | s :: rest,ws => (Qmw s).flatMap fun w => Qcc l rest (ws ++ [w])
def trsV (l : List Slip) (W : List (List Int)) : List V := W.map fun ws => Qbr ws l
structure OkS (c : Ctr) (l : List Slip) : Prop where
 len : l.length ≤ 12
 cl : c.clerks.length ≤ 100
 umb : ∀ s ∈ l,0 ≤ s.umb ∧ s.umb ≤ 9
 clk : ∀ s ∈ l,0 ≤ s.clerk ∧ s.clerk < c.clerks.length
 atm : ∀ s ∈ l,0 ≤ s.atm ∧ s.atm ≤ 1000000
 spn : ∀ s ∈ c.clerks,-1000 ≤ s.low ∧ s.high ≤ 1000
structure OkWs (c : Ctr) (ws : List Int) : Prop where
 len : ws.length ≤ c.clerks.length
 bnd : ∀ w ∈ ws,-1000 ≤ w ∧ w ≤ 1000
def OkS.open {c : Ctr} {l : List Slip} {ws : List Int} (h : OkS c l) (hw : OkWs c ws) (e : ws.length = c.clerks.length) : OkO ws l := by
 have hcl := h.cl
 refine ⟨h.len,by omega,h.umb,fun s hs => by rw [e]; exact h.clk s hs,fun s hs => ?_⟩
 have h1 := h.clk s hs
 have h2 := h.atm s hs
 obtain ⟨w,qI⟩ : ∃ w,ws[s.clerk.toNat]? = some w := ⟨_,Qa (by omega)⟩
 have h3 := hw.bnd w (Qz qI)
 rw [Qb,qI]
 unfold inI
 simp only [Qe]
 omega
def Qqh (ws : List Int) (l : List Slip) : Qan (Qbr ws l) = false := rfl
def Quj (l : List Slip) (W : List (List Int)) : Qa8 (trsV l W) = false := by
 induction W with
 | nil => rfl
 | cons a W ih => show (Qan _ || Qa8 (trsV l W)) = false; rw [ih]; rfl
def vwTr (hp : List Blk) (n : Nat) (ws : List Int) (l : List Slip) : vw hp (n + 1) (Qbr ws l) = Qbr ws l := rfl
def R103 (x : DB) (r : V) (hp' : List Blk) : Prop := r = .tp [] ∧ hp' = hpB x.c x.l x.g (x.L ++ trsV x.l (Qcc x.l (x.c.clerks.drop x.ws.length) x.ws))
structure C103 (k : Nat) (x : DB) : Prop where
 s : OkS x.c x.l
 w : OkWs x.c x.ws
 r : Qa8 x.L = false
 k : x.c.clerks.length < x.ws.length + k
 n : x.L.length + (Qcc x.l (x.c.clerks.drop x.ws.length) x.ws).length ≤ 1000000
def eAb3 (x : DB) : List V := [.ad 0 x.g 0,.rf 2 0 0 x.ws.length 1]
def eHb3 (x : DB) : List Blk := hpB x.c x.l x.g x.L ++ [.cells 0 (x.ws.map V.i)]
def dAb3 : List V → List Blk → DB
 | [.ad _ g _,_],[.cells _ b,.cells _ L,.cells _ w] => ⟨(dBk b).1,(dBk b).2,w.map gI,g,L⟩
 | _,_ => ⟨⟨[],[],[],[],⟨0,0,0,0,0,0,0⟩⟩,[],[],0,[]⟩
def Zov (x : DB) : dAb3 (eAb3 x) (eHb3 x) = x := by
 obtain ⟨c,l,ws,g,L⟩ := x
 show DB.mk (dBk (Qf6 c l L.length)).1 (dBk (Qf6 c l L.length)).2 ((ws.map V.i).map gI) g L = _
 rw [Zdi,Q3,show ws.map (gI ∘ V.i) = ws from Zq (fun _ => rfl) ws]
def Qtj (x : DB) (r : V) (hp : List Blk) : Prop := ∃ hp',R103 x r hp' ∧ hp = hp' ++ [.dead 1]
def HS (k : Nat) : Gam := K142.extH 103 (hpG eAb3 eHb3 dAb3 (C103 k) (Qtj))
def xHS {k : Nat} {x : DB} (h : C103 k x) : (HS k).h 103 (eAb3 x) (eHb3 x) = (True,Qtj x) := by
 rw [show (HS k).h 103 (eAb3 x) (eHb3 x) = hpG eAb3 eHb3 dAb3 (C103 k) Qtj _ _ from rfl,Qi9 x (Zov x)]
 exact Prod.ext (propext ⟨fun _ => trivial,fun _ => h⟩) rfl
def xHS4 {k : Nat} {x : DB} (h : G134 x) : (HS k).h 134 (eAb4 x) (eHbk x) = (True,R134 x) := x134 h
def X103 (k : Nat) (hG : GOk TP (HS k)) (x : DB) (h : C103 (k + 1) x) : Qb7 TP 103 (eAb4 x) (eHbk x) (R103 x) := by
 refine Qer hG hmix func103 Qxx.b Qxx.c Qxx.s (by exact Qxx.n) (lo := 2) (by exact Qo 2) (by decide) ?_
 obtain ⟨c,l,ws,g,L⟩ := x
 obtain ⟨hs,hw,hr,hk,hN⟩ := h
 simp only at hs hw hr hk hN
 have qO := hw.len
 have hcl := hs.cl
 simp only [eAb4,Qto,eHbk,R103]
 by_cases e : ws.length = c.clerks.length
 ·have hx := xHS4 (k := k) (x := ⟨c,l,ws,g,L⟩) ⟨hr,hs.open hw e⟩
  have ei : (ws.length : Int) = (c.clerks.length : Int) := by omega
  have hd : c.clerks.drop ws.length = [] := List.drop_eq_nil_of_le (by omega)
  simp only [eAb4,Qto,eHbk,hpB,Qf6,eCtr,Q2,Q5] at hx
  rw [hd]
  by_cases ho : Qu8 ws l = true
  ·have e1 : Qcc l [] ws = [ws] := by unfold Qcc; rw [if_pos ho]
   have e2 : opnV ws l = .tp [Qbr ws l,.b true] := by unfold opnV; rw [if_pos ho]
   rw [e1]
   simp only [rc103,rs103,hpB,Qf6,eCtr,hx,R134,e2,ei,and_imp,forall_eq,↓BU3,BL,simprocAttr]
   rintro r hp' rfl rfl
   obtain ⟨T,hT⟩ : ∃ T,Qbr ws l = .pa T := ⟨_,rfl⟩
   have hT1 := Qqh ws l
   have hT2 := fun hp n => vwTr hp n ws l
   rw [hT] at hT1 hT2
   have fR : ∀ r : List V,[r].flatten = r := fun r => by simp
   have xM : Qam (L.length + 1) := by unfold Qam; omega
   simp only [trsV,hT,hT1,hT2,fR,xM,Nat.mul_one,Qg,↓BU3,BL,simprocAttr]
  ·have e1 : Qcc l [] ws = [] := by unfold Qcc; rw [if_neg ho]
   have e2 : opnV ws l = .tp [.pn,.b false] := by unfold opnV; rw [if_neg ho]
   rw [e1]
   simp only [rc103,rs103,hpB,Qf6,eCtr,hx,R134,e2,ei,and_imp,forall_eq,↓BU3,BL,simprocAttr]
   rintro r hp' rfl rfl
   simp only [trsV,↓BU3,BL,simprocAttr]
 ·have ei : ¬ (ws.length : Int) = (c.clerks.length : Int) := by omega
  obtain ⟨s,zY⟩ : ∃ s,c.clerks[ws.length]? = some s := ⟨_,Qa (by omega)⟩
  have hrow : (c.clerks.map eSpan)[ws.length]? = some [.i s.low,.i s.high] := by rw [Qi,zY]; rfl
  have hlt : (ws.length : Int) < c.clerks.length := by omega
  have wT : (0 : Int) ≤ ws.length := by omega
  have yJ : (ws.length : Int).toNat = ws.length := Qd _
  simp only [rc103,rs103,hpB,Qf6,eCtr,ei,hrow,hlt,wT,yJ,↓BU3,BL,simprocAttr]
  obtain ⟨rest,kQ⟩ : ∃ rest,rest = c.clerks.drop (ws.length + 1) := ⟨_,rfl⟩
  have cK : c.clerks.drop ws.length = s :: rest := by rw [kQ]; exact Qad zY
  obtain ⟨F,hF⟩ : ∃ F : Int → List (List Int),F = fun w => Qcc l rest (ws ++ [w]) := ⟨_,rfl⟩
  have bF : Qcc l (s :: rest) ws = (Qmw s).flatMap F := by rw [hF]; rfl
  have k7 := hs.spn s (Qz zY)
  obtain ⟨m,hm⟩ : ∃ m,m = (Qmw s).length := ⟨_,rfl⟩
  have uT : m = (s.high - s.low + 1).toNat := by rw [hm]; unfold Qmw; rw [Qc,Q9]
  obtain ⟨Li,hLi⟩ : ∃ Li : Nat → List V,Li = fun i => L ++ trsV l (((Qmw s).take i).flatMap F) := ⟨_,rfl⟩
  have hL0 : Li 0 = L := by rw [hLi]; simp [trsV]
  have hLm : Li m = L ++ trsV l ((Qmw s).flatMap F) := by rw [hLi,hm]; simp only [Zd]
  have hLr : ∀ i,Qa8 (Li i) = false := fun i => by rw [hLi,Qa2,hr,Quj]; rfl
  rw [cK,bF,← hLm]
  refine Qaq m (fun i => ⟨lkp [(0,.ad 0 g 0),(1,.sl 1 (ws.map eI)),(4,.i ws.length),(7,.i (s.low + i))],hpB c l g (Li i)⟩) ?_ ?_ ?_
  ·simp only [Qf,Int.add_zero,hL0,hpB,Qf6,eCtr,↓BU3,BL,simprocAttr]
  ·intro i hi
   have kA : s.low + (i : Int) ≤ s.high := by omega
   have i1 : inI (s.low + (i : Int) + 1) := by unfold inI; omega
   have qI : OkWs c (ws ++ [s.low + (i : Int)]) := by
    refine ⟨by rw [Qg,Zn]; omega,fun w hw' => ?_⟩
    rcases Qr.1 hw' with h | h
    ·exact hw.bnd w h
    ·cases Zv.1 h; omega
   have fG : (Qmw s)[i]? = some (s.low + (i : Int)) := by
    unfold Qmw
    rw [Qi,Zi (by omega)]; rfl
   have vC : c.clerks.drop (ws ++ [s.low + (i : Int)]).length = rest := by rw [kQ,Qg]; rfl
   have hn : Li i ++ trsV l (Qcc l (c.clerks.drop (ws ++ [s.low + (i : Int)]).length) (ws ++ [s.low + (i : Int)])) = Li (i + 1) := by
    rw [vC,hLi,hF]
    simp only [Qa4 fG,Xf,Xn,List.flatMap_nil,Xt]
    unfold trsV
    rw [Qy,Q8]
   have hNi : (Li i).length + (Qcc l (c.clerks.drop (ws ++ [s.low + (i : Int)]).length) (ws ++ [s.low + (i : Int)])).length ≤ 1000000 := by
    have e1 := congrArg Xs hn
    rw [Qg,show (trsV l (Qcc l (c.clerks.drop (ws ++ [s.low + (i : Int)]).length) (ws ++ [s.low + (i : Int)]))).length = (Qcc l (c.clerks.drop (ws ++ [s.low + (i : Int)]).length) (ws ++ [s.low + (i : Int)])).length from Qc ..] at e1
    rw [e1]
    have e2 : (Li (i + 1)).length + (trsV l (((Qmw s).drop (i + 1)).flatMap F)).length = (Li m).length := by
     rw [hLm,hLi,← Qg]
     congr 1
     simp only [Q8]
     congr 1
     unfold trsV
     rw [← Qy,← Xf,List.take_append_drop]
    have e3 : (Li m).length = L.length + ((Qmw s).flatMap F).length := by rw [hLm,Qg]; congr 1; exact Qc ..
    rw [cK,bF] at hN
    omega
   have hx := xHS (k := k) (x := ⟨c,l,ws ++ [s.low + (i : Int)],g,Li i⟩) ⟨hs,qI,hLr i,by simp only [Qg,Zn]; omega,hNi⟩
   have hRd : Qtj ⟨c,l,ws ++ [s.low + (i : Int)],g,Li i⟩ = fun r hp => r = .tp [] ∧ hp = hpB c l g (Li (i + 1)) ++ [.dead 1] := by
    funext r hp
    unfold Qtj R103
    simp only [hn]
    exact propext ⟨fun ⟨hp',⟨h1,h2⟩,h3⟩ => ⟨h1,by rw [h3,h2]⟩,fun ⟨h1,h2⟩ => ⟨_,⟨h1,rfl⟩,h2⟩⟩
   rw [hRd] at hx
   have yS : (ws.map eI).take ws.length = ws.map eI := Ql (by rw [Qc]; exact Qo _)
   have fR : ∀ r : List V,[r].flatten = r := fun r => by simp
   simp only [eAb3,eHb3,hpB,Qf6,eCtr,Q2,Q5,Qy,Qj,Qp,Qg,Zn] at hx
   simp only [kA,i1,hx,hpB,Qf6,eCtr,hrow,hlt,wT,yJ,yS,fR,Qlh,and_imp,↓BU3,BL,simprocAttr]
   refine ⟨Zx _,.inl (by omega),?_⟩
   rintro r hp' _ rfl
   have hcL : ∀ H,cutL H 2 (Li (i + 1)) = Li (i + 1) := fun H => Qa0 H 2 _ (hLr _)
   have iI : s.low + ((i + 1 : Nat) : Int) = s.low + (i : Int) + 1 := by omega
   simp only [hcL,iI,↓BU3,BL,simprocAttr]
  ·have aM : ¬ s.low + (m : Int) ≤ s.high := by omega
   simp only [aM,hpB,Qf6,eCtr,hrow,hlt,wT,yJ,↓BU3,BL,simprocAttr]
mutual
theorem Qnj (n : Nat) : ∀ v : V,Qan v = false → lowV n v = true
 | .ad _ _ _,h => by simp [Qan] at h
 | .rf _ _ _ _ _,h => by simp [Qan] at h
 | .mp _ _,h => by simp [Qan] at h
 | .it _ _,h => by simp [Qan] at h
 | .ag cs,h => by simp only [Qan] at h; simp only [lowV,Qeu n cs h]
 | .tp cs,h => by simp only [Qan] at h; simp only [lowV,Qeu n cs h]
 | .fn _ cs,h => by simp only [Qan] at h; simp only [lowV,Qeu n cs h]
 | .gv _ v,h => by simp only [Qan] at h; simp only [lowV,Qnj n v h]
 | .u,_ | .b _,_ | .i _,_ | .z _,_ | .sl _ _,_ | .sx _ _,_ | .pa _,_ | .pn,_ | .yl _,_ | .w _ _,_ | .pm _ _ _,_ | .fb _ _,_ => rfl
theorem Qeu (n : Nat) : ∀ vs : List V,Qa8 vs = false → lowL n vs = true
 | [],_ => rfl
 | v :: vs,h => by
  simp only [Qa8,Zc] at h
  simp only [lowL,Qnj n v h.1,Qeu n vs h.2,Bool.and_self]
end
def Zmn (k : Nat) (hG : GOk TP (HS k)) (x : DB) (h : C103 (k + 1) x) : Qb7 TP 103 (eAb3 x) (eHb3 x) (Qtj x) := by
 refine Qb7.frz [2] ?_ ?_ ?_
 ·have := Go.C06.noref_Is x.ws
  simp [eHb3,Qid,this]
 ·intro v hv
  simp only [eAb3,Q0,Xp,or_false] at hv
  rcases hv with rfl | rfl <;> simp [rids]
 ·have e1 : (eAb3 x).map (fzV (eHb3 x) [2]) = eAb4 x := by
   have vH : Qbi 1 (x.ws.map V.i) 0 x.ws.length = x.ws.map eI := Qhi _ rfl
   simp only [eAb3,eAb4,Qto,Qj,Qp,fzV,rids,List.any_cons,List.any_nil,Zv]
   have e3 : vw (eHb3 x) 8 (.rf 2 0 0 x.ws.length 1) = .sl 1 (x.ws.map eI) := by
    rw [vw8,Qql]
    show (if 0 = 0 ∧ 0 + x.ws.length * 1 ≤ (x.ws.map V.i).length then V.sl 1 ((Qbi 1 (x.ws.map V.i) 0 x.ws.length).map fun r => r.map (vw (eHb3 x) 7)) else .u) = _
    rw [vH,vw_I,if_pos ⟨rfl,by rw [Qc]; omega⟩]
   rw [e3]
   simp
  have e2 : [2].foldl Qh2 (eHb3 x) = eHbk x ++ [.dead 1] := rfl
  rw [e1,e2]
  have zX : lowL (eHbk x).length (eAb4 x) = true := rfl
  have pT : ∀ b ∈ eHbk x,lowB (eHbk x).length b = true := by
   intro b hb
   simp only [eHbk,Q0,Xp,or_false] at hb
   rcases hb with rfl | rfl
   ·rfl
   ·exact Qeu 2 x.L h.r
  exact Qb7.frame (X103 k hG x h) (fun r hp' hR => by rw [hR.2]; rfl) zX pT [.dead 1]
def okHS : ∀ k,GOk TP (HS k) := by
 intro k
 induction k with
 | zero =>
  refine Qss.extH call103 fun xs hp => Qg5 (fun x hx => ?_) xs hp
  have h1 := hx.w.len
  have h2 := hx.k
  omega
 | succ k ih => exact Qss.extH call103 fun xs hp => Qg5 (fun x hx => ⟨fun r hp' _ y hy => (by simp [eHb3,ghO] at hy),Zmn k ih x hx⟩) xs hp
def x46 (l : List Int) (n : Int) := lft K142 (Qzx l n) rfl
def pVo (c : Ctr) (s : Slip) : Bool := decide (s.id ∈ c.voided)
def X102 (c : Ctr) (s : Slip) (h : c.voided.length < 10000000) : Qa1 TP 102 [.ag (eSlip s),.pa (eCtr c)] (.b (pVo c s)) := by
 refine pc Qss func102 Zmt ?_
 have g := x46 c.voided s.id
 unfold pVo
 simp only [rc102,rs102,eSlip,eCtr,vw_I,g,h,BL,simprocAttr]
def e102 (a : Ctr × Slip) : List V := [.ag (eSlip a.2),.pa (eCtr a.1)]
def d102 : List V → Ctr × Slip | [.ag s,.pa c] => (dCtr c,Qf8 s) | _ => (dCtr [],sl0)
def Zgz (a : Ctr × Slip) : d102 (e102 a) = a := by obtain ⟨a,x⟩ := a; simp [d102,e102,Qfn,Qg0]
def K143 := K142.ext 102 (fnG e102 d102 (fun a => a.1.voided.length < 10000000) (fun a => pVo a.1 a.2) (.b))
def Zbr : GOk TP K143 := Qss.ext call102 (Qa7 fun a h => X102 a.1 a.2 h)
def x102 (c : Ctr) (s : Slip) : K143 102 [.ag (eSlip s),.pa (eCtr c)] = (c.voided.length < 10000000,.b (pVo c s)) := (kx K143 102 (Zgz (c,s)) rfl :)
def e104 (a : Ctr × List Slip) : List V := [.sl 6 (a.2.map eSlip),.fn 102 [.pa (eCtr a.1)]]
def d104 : List V → Ctr × List Slip | [.sl _ l,.fn _ [.pa c]] => (dCtr c,l.map Qf8) | _ => (dCtr [],[])
def Qs3 (l : List Slip) : (l.map eSlip).map Qf8 = l := by rw [Q3]; exact Zq (fun s => Qg0 s) l
def Za1 (a : Ctr × List Slip) : d104 (e104 a) = a := by obtain ⟨a,l⟩ := a; show (dCtr (eCtr a),(l.map eSlip).map Qf8) = _; rw [Qfn,Qs3]
def C104 (a : Ctr × List Slip) : Prop := a.1.voided.length < 10000000 ∧ a.2.length < 10000000
def vwCt (c : Ctr) : ([.pa (eCtr c)] : List V).map (vw [] 8) = [.pa (eCtr c)] := vwWr c
def K144 := K143.ext 104 (fnG e104 d104 (C104) (fun a => idxOf (pVo a.1) a.2) (.i))
def Zbs : GOk TP K144 := Zbr.ext call104 (Qa7 fun a h => Zd7 Zbr a.2 102 (by decide) [.pa (eCtr a.1)] (pVo a.1) (fun _ => a.1.voided.length < 10000000) (fun _ _ => h.1) (vwCt a.1) rfl h.2 fun x _ => x102 a.1 x)
def x104 (c : Ctr) (l : List Slip) : K144 104 [.sl 6 (l.map eSlip),.fn 102 [.pa (eCtr c)]] = (C104 (c,l),.i (idxOf (pVo c) l)) := (kx K144 104 (Za1 (c,l)) rfl :)
def C101 (a : Ctr × List Slip) : Prop := C104 a ∧ ∀ s ∈ a.2,pVo a.1 s = false
def X101 (c : Ctr) (l : List Slip) (h : C101 (c,l)) : Qa1 TP 101 [.sl 6 (l.map eSlip),.fn 102 [.pa (eCtr c)]] (.sl 6 (l.map eSlip)) := by
 refine pc Zbs func101 Zms ?_
 have g := x104 c l
 rw [Qaa h.2] at g
 have h1 := h.1
 have hv := vwCt c
 simp only [Qj,Qp,Xe.injEq,and_true] at hv
 simp only [rc101,rs101,hv,g,h1,Qkb,BL,simprocAttr]
def K145 := K144.ext 101 (fnG e104 d104 (C101) (fun a => a.2) ((fun l => .sl 6 (l.map eSlip))))
def Zbt : GOk TP K145 := Zbs.ext call101 (Qa7 fun a h => X101 a.1 a.2 h)
def x101 (c : Ctr) (l : List Slip) : K145 101 [.sl 6 (l.map eSlip),.fn 102 [.pa (eCtr c)]] = (C101 (c,l),.sl 6 (l.map eSlip)) := (kx K145 101 (Za1 (c,l)) rfl :)
def pLe (n : Int) (s : Slip) : Bool := decide (s.id = n) && decide (s.kind = 1)
def X71 (n : Int) (s : Slip) : Qa1 TP 71 [.ag (eSlip s),.pa [.i n]] (.b (pLe n s)) := by
 refine pc Zbt func71 cf71 ?_
 unfold pLe
 by_cases e1 : s.id = n
 ·by_cases e2 : s.kind = 1 <;> simp only [rc71,rs71,eSlip,e1,e2,BL,simprocAttr]
 ·simp only [rc71,rs71,eSlip,e1,BL,simprocAttr]
def e71 (a : Int × Slip) : List V := [.ag (eSlip a.2),.pa [.i a.1]]
def d71 : List V → Int × Slip | [.ag s,.pa [.i n]] => (n,Qf8 s) | _ => (0,sl0)
def Zoq (a : Int × Slip) : d71 (e71 a) = a := rfl
def K146 := K145.ext 71 (fnG e71 d71 (fun _ => True) (fun a => pLe a.1 a.2) (.b))
def Zbu : GOk TP K146 := Zbt.ext call71 (Qa7 fun a h => X71 a.1 a.2)
def x71 (n : Int) (s : Slip) : K146 71 [.ag (eSlip s),.pa [.i n]] = (True,.b (pLe n s)) := (kx K146 71 (Zoq (n,s)) rfl :)
def e70 (a : Int × List Slip) : List V := [.sl 6 (a.2.map eSlip),.fn 71 [.pa [.i a.1]]]
def d70 : List V → Int × List Slip | [.sl _ l,.fn _ [.pa [.i n]]] => (n,l.map Qf8) | _ => (0,[])
def Zhi (a : Int × List Slip) : d70 (e70 a) = a := by obtain ⟨n,l⟩ := a; show (n,(l.map eSlip).map Qf8) = _; rw [Qs3]
def K147 := K146.ext 104 (fnG e70 d70 (fun a => a.2.length < 10000000) (fun a => idxOf (pLe a.1) a.2) (.i))
def Zbv : GOk TP K147 := Zbu.ext call104 (Qa7 fun a h => Zd7 Zbu a.2 71 (by decide) [.pa [.i a.1]] (pLe a.1) (fun _ => True) (fun _ _ => trivial) rfl rfl h fun x _ => x71 a.1 x)
def Zqn (n : Int) (l : List Slip) : K147 104 [.sl 6 (l.map eSlip),.fn 71 [.pa [.i n]]] = (l.length < 10000000,.i (idxOf (pLe n) l)) := (kx K147 104 (Zhi (n,l)) rfl :)
def X70 (n : Int) (l : List Slip) (h : l.length < 10000000) : Qa1 TP 70 [.sl 6 (l.map eSlip),.fn 71 [.pa [.i n]]] (.b (l.any (pLe n))) := by
 refine pc Zbv func70 cf70 ?_
 have g := Zqn n l
 have q := Qab (pLe n) l
 generalize idxOf (pLe n) l = r at *
 generalize l.any (pLe n) = r2 at *
 simp only [rc70,rs70,g,h,q,Qkb,BL,simprocAttr]
def K148 := K147.ext 70 (fnG e70 d70 (fun a => a.2.length < 10000000) (fun a => a.2.any (pLe a.1)) (.b))
def Zbw : GOk TP K148 := Zbv.ext call70 (Qa7 fun a h => X70 a.1 a.2 h)
def x70 (n : Int) (l : List Slip) : K148 70 [.sl 6 (l.map eSlip),.fn 71 [.pa [.i n]]] = (l.length < 10000000,.b (l.any (pLe n))) := (kx K148 70 (Zhi (n,l)) rfl :)
def bk0 (c : Ctr) (l : List Slip) : List V := eCtr c ++ [.sl 6 (l.map eSlip),.sl 1 []]
def X69 (c : Ctr) (l : List Slip) (n : Int) (h : l.length < 10000000) : Qa1 TP 69 [.pa (bk0 c l),.pa [.i n]] (.b (l.any (pLe n))) := by
 refine pc Zbw func69 cf69 ?_
 have g := x70 n l
 simp only [rc69,rs69,bk0,eCtr,g,h,Qkb,BL,simprocAttr]
def e69 (a : (Ctr × List Slip) × Int) : List V := [.pa (bk0 a.1.1 a.1.2),.pa [.i a.2]]
def d69 : List V → (Ctr × List Slip) × Int | [.pa b,.pa [.i n]] => (dBk b,n) | _ => ((dCtr [],[]),0)
def dBk0 (c : Ctr) (l : List Slip) : dBk (bk0 c l) = (c,l) := by
 show (dCtr (eCtr c),(l.map eSlip).map Qf8) = _
 rw [Qfn,Qs3]
def Zop (a : (Ctr × List Slip) × Int) : d69 (e69 a) = a := by obtain ⟨⟨c,l⟩,n⟩ := a; show (dBk (bk0 c l),n) = _; rw [dBk0]
def K149 := K148.ext 69 (fnG e69 d69 (fun a => a.1.2.length < 10000000) (fun a => a.1.2.any (pLe a.2)) (.b))
def Zj4 : GOk TP K149 := Zbw.ext call69 (Qa7 fun a h => X69 a.1.1 a.1.2 a.2 h)
def x69 (c : Ctr) (l : List Slip) (n : Int) : K149 69 [.pa (bk0 c l),.pa [.i n]] = (l.length < 10000000,.b (l.any (pLe n))) := (kx K149 69 (Zop ((c,l),n)) rfl :)
def Qb7.z {P : Program} {f : FuncId} {a : V} {hp : List Blk} {R : V → List Blk → Prop} (h : Qb7 P f [a,.sl 1 []] hp R) : Qb7 P f [a,.z 1] hp R := by
 intro S w O cargs hm hsz hr
 refine h S w O cargs hm hsz ?_
 match hc : cargs.toList,hr with
 | [c1,c2],hr =>
  simp only [RepL,Rep,and_true] at hr ⊢
  obtain ⟨h1,x,rfl⟩ := hr
  exact ⟨h1,x,0,rfl,Qo _,.inl trivial⟩
 | [c1],hr => simp [RepL] at hr
 | [],hr => simp [RepL] at hr
 | c1 :: c2 :: c3 :: cs,hr =>
  have := congrArg Xs hc
  simp at this
  simp at hsz
  omega
def eA03 (_ : Ctr × List Slip) : List V := [.ad 0 0 0,.z 1]
def eH03 (x : Ctr × List Slip) : List Blk := hpB x.1 x.2 0 []
def dA03 : List V → List Blk → Ctr × List Slip
 | _,[.cells _ b,_] => dBk b
 | _,_ => (dCtr [],[])
def Zhj (x : Ctr × List Slip) : dA03 (eA03 x) (eH03 x) = x := Zdi x.1 x.2 0
def C03 (x : Ctr × List Slip) : Prop := OkS x.1 x.2 ∧ (Qcc x.2 x.1.clerks []).length ≤ 1000000
def R03 (x : Ctr × List Slip) (r : V) (hp : List Blk) : Prop := r = .tp [] ∧ hp = hpB x.1 x.2 0 (trsV x.2 (Qcc x.2 x.1.clerks []))
def Zmo (x : Ctr × List Slip) (h : C03 x) : Qb7 TP 103 (eA03 x) (eH03 x) (R03 x) :=
 Qb7.z (X103 (x.1.clerks.length) (okHS _) ⟨x.1,x.2,[],0,[]⟩ ⟨h.1,⟨Nat.zero_le _,fun _ hw => nomatch hw⟩,rfl,by show x.1.clerks.length < 0 + (x.1.clerks.length + 1); omega,by show 0 + _ ≤ _; rw [Nat.zero_add]; exact h.2⟩)
def K150 := K149.extH 103 (hpG eA03 eH03 dA03 C03 R03)
def Zbx : GOk TP K150 :=
 Zj4.extH call103 fun xs hp => Qg5 (fun x hx => ⟨fun r hp' _ y hy => absurd hy (by simp [eH03,ghO]),Zmo x hx⟩) xs hp
def x103 {x : Ctr × List Slip} (h : C03 x) : K150.h 103 (eA03 x) (eH03 x) = (True,R03 x) := by
 rw [show K150.h 103 (eA03 x) (eH03 x) = hpG eA03 eH03 dA03 C03 R03 _ _ from rfl,Qi9 x (Zhj x)]
 exact Prod.ext (propext ⟨fun _ => trivial,fun _ => h⟩) rfl
structure RdOk (c : Ctr) (n : Int) (l : List Slip) (W : List (List Int)) : Prop where
 small : SmallCt c
 err : ctrE c = 0
 on : OkOn c.slips
 once : Qq0 (Qm5 c.slips) = .tp [.sl 6 (l.map eSlip),.b true]
 vo : C101 (c,l)
 s : OkS c l
 is : l.any (pLe n) = true
 w : Qcc l c.clerks [] = W
 w0 : W ≠ []
 wn : W.length ≤ 1000000
def trR (l : List Slip) (W : List (List Int)) : List (List V) := W.map fun ws => [Qbr ws l]
def Qd0 (c : Ctr) (l : List Slip) (W : List (List Int)) : V := .pa (eCtr c ++ [.sl 6 (l.map eSlip),.sl 1 (trR l W)])
def e68 (c : Ctr) (n : Int) : List V := [.ag (eCtr c),.fn 69 [.pa [.i n]]]
def k99 (c : Ctr) := lft K150 (x99 c) rfl
def k100 (l : List Slip) := lft K150 (x100 l) rfl
def k101 (c : Ctr) (l : List Slip) := lft K150 (x101 c l) rfl
def k69 (c : Ctr) (l : List Slip) (n : Int) := lft K150 (x69 c l n) rfl
def Qtm (f : List Int → V) (W : List (List Int)) : Qbi 1 (W.map f) 0 W.length = W.map fun ws => [f ws] := by
 have := Qa9 (e := fun ws => [f ws]) (k := 1) (fun _ => rfl) W
 have e : (W.map fun ws => [f ws]).flatten = W.map f := by
  clear this
  induction W with
  | nil => rfl
  | cons a W ih => simp only [Qj,List.flatten_cons,ih]; rfl
 rw [e] at this
 exact this
def X68 (c : Ctr) (n : Int) (l : List Slip) (W : List (List Int)) (h : RdOk c n l W) : Qa1 TP 68 (e68 c n) (.tp [Qd0 c l W,.i 0]) := by
 refine pc Zbx func68 cf68 ?_
 have g1 := k99 c
 have g2 := k100 c.slips
 have g3 := k101 c l
 have g4 := k69 c l n
 have g5 := x103 (x := (c,l)) ⟨h.s,by rw [h.w]; exact h.wn⟩
 have h1 := h.small
 have h2 := h.err
 have h3 := h.on
 have h4 := h.once
 have h5 := h.vo
 have h6 := h.is
 have h7 : l.length < 10000000 := by have := h.s.len; omega
 have hv := vwCt c
 have qO : W.length ≠ 0 := fun e => h.w0 (Zr e)
 have hw := h.w
 rw [h2] at g1
 rw [h4] at g2
 rw [h6] at g4
 have hR : R03 (c,l) = fun r hp => r = .tp [] ∧ hp = hpB c l 0 (trsV l W) := by funext r hp; unfold R03; rw [hw]
 rw [hR] at g5
 simp only [Qj,Qp,Xe.injEq,and_true] at hv
 simp only [eCtr] at g1 g3 hv
 simp only [bk0,eCtr,Q2,Q5] at g4
 simp only [eA03,eH03,hpB,Qf6,eCtr,Q2,Q5,List.length_nil] at g5
 simp only [e68,rc68,rs68,eCtr,g1,h1,g2,h3,g3,h5,g4,h7,g5,hv,Qkb,Zcf,vw_I,and_imp,BL,simprocAttr]
 rintro r hp' rfl rfl
 have ht : (trsV l W).length = W.length := Qc ..
 simp only [ht,BL,simprocAttr]
 refine ⟨fun e => absurd e (by omega),fun _ => ?_⟩
 rw [if_pos (by omega)]
 unfold trsV
 rw [Qtm]
 simp only [Q3,Function.comp_def,Qj,Qp,vwTr]
 rfl
def Qkd (c : Ctr) : List Slip := match Qm5 c.slips with | some m => Qee m | none => []
def Ql2 (c : Ctr) : List (List Int) := Qcc (Qkd c) c.clerks []
def d68 : List V → Ctr × Int | [.ag c,.fn _ [.pa [.i n]]] => (dCtr c,n) | _ => (dCtr [],0)
def Zoo (a : Ctr × Int) : d68 (e68 a.1 a.2) = a := by obtain ⟨c,n⟩ := a; show (dCtr (eCtr c),n) = _; rw [Qfn]
def C68 (a : Ctr × Int) : Prop := RdOk a.1 a.2 (Qkd a.1) (Ql2 a.1)
def K151 := K150.ext 68 (fnG (fun a : Ctr × Int => e68 a.1 a.2) d68 (C68) (fun a => Qd0 a.1 (Qkd a.1) (Ql2 a.1)) ((fun v => .tp [v,.i 0])))
def Zby : GOk TP K151 := Zbx.ext call68 (Qa7 fun a h => X68 a.1 a.2 (Qkd a.1) (Ql2 a.1) h)
def x68 (c : Ctr) (n : Int) : K151 68 [.ag (eCtr c),.fn 69 [.pa [.i n]]] = (C68 (c,n),.tp [Qd0 c (Qkd c) (Ql2 c),.i 0]) := (kx K151 68 (Zoo (c,n)) rfl :)
def k106 (c : Ctr) (a b : Int) := lft K151 (x106 c a b) rfl
def Qfr : List Ev → List (Ev × Ev) | a :: b :: r => (a,b) :: Qfr r | _ => []
def yP (x : Slip × Int) : List V := [.ag (eSlip x.1),.i x.2]
def hiP (c : Ctr) (p : Ev × Ev) : Slip × Int := (p.1.sl,Qwv c p.1.min p.2.min)
def Qh9 (c : Ctr) (ws : List Int) (l : List Slip) (u : Nat) : List (Slip × Int) := ((Qh 10).drop u).flatMap fun u => (Qfr (evS ws l u)).map (hiP c)
def encH (x : Slip × Int) : List V := gyE (yP x) []
def gH (T B : List V) (y : Nat) (bv : List V) (q : List (Slip × Int)) : List Blk := .gh [.yl y,.pa T,.pa B] (some ((.b true :: bv) :: q.map encH)) :: bv.map vB
structure HirOk (c : Ctr) (ws : List Int) (l : List Slip) : Prop where
 len : ∀ u,(evS ws l u).length ≤ 12
 op : ∀ u,∀ p ∈ Qfr (evS ws l u),OkOp c p.1.min p.2.min
def Qrb {L : List Ev} {i : Nat} {a b : Ev} (ha : L[2 * i]? = some a) (hb : L[2 * i + 1]? = some b) : Qfr (L.drop (2 * i)) = (a,b) :: Qfr (L.drop (2 * (i + 1))) := by
 rw [Qad ha,Qad hb]; rfl
def Qu9 {L : List Ev} {i : Nat} (h : ¬ 2 * i + 1 < L.length) : Qfr (L.drop (2 * i)) = [] := by
 match hd : L.drop (2 * i) with
 | [] => rfl
 | [a] => rfl
 | a :: b :: r =>
  have := congrArg Xs hd
  rw [Z1] at this
  simp only [Qt] at this
  omega
def Qua {L : List Ev} : ∀ {i : Nat} {a b : Ev},L[2 * i]? = some a → L[2 * i + 1]? = some b → (a,b) ∈ Qfr L := by
 induction L using Qfr.induct with
 | case1 x y r ih =>
  intro i a b ha hb
  cases i with
  | zero =>
   simp at ha hb
   subst ha; subst hb
   exact Xh ..
  | succ i =>
   refine List.mem_cons_of_mem _ (ih (i := i) ?_ ?_)
   ·rw [show 2 * (i + 1) = 2 * i + 1 + 1 by omega] at ha
    simpa using ha
   ·rw [show 2 * (i + 1) + 1 = 2 * i + 1 + 1 + 1 by omega] at hb
    simpa using hb
 | case2 L hL =>
  intro i a b ha hb
  exfalso
  match L,hL with
  | [],_ => simp at ha
  | [x],_ =>
   have := (Zg.1 hb).1
   simp at this
  | x :: y :: r,hL => exact hL x y r rfl
def X105 (al : List V → Prop) (c : Ctr) (l : List Slip) (W : List (List Int)) (ws : List Int) (h : HirOk c ws l) (y : Nat) (b1 b2 : V) (vL : al [b1,b2]) (hone : OkAl al) :
  Qkc TP 105 al [.yl y,.pa [Qbr ws l],.pa [Qd0 c l W]] (gH [Qbr ws l] [Qd0 c l W] y [b1,b2] (Qh9 c ws l 0)) (Go.C06.RIt al [.yl y,.pa [Qbr ws l],.pa [Qd0 c l W]]) := by
 refine Qiy (Zby.wal al) hmix func105 Qxy.b (lo := 3) Qxy.c Qxy.s (by exact Qxy.n) (by rfl) (by decide) ?_
 have v7 : (K151.wal al).al = al := rfl
 have yA : ∀ c1 c2,al [c1,c2] → (∀ hp,cutB hp 3 (vB c1) = vB c1) ∧ ∀ hp,cutB hp 3 (vB c2) = vB c2 := fun c1 c2 h => ⟨fun hp => (hone.2 c1 c2 hp h).1,fun hp => (hone.2 c1 c2 hp h).2⟩
 unfold gH
 obtain ⟨Z,hZ⟩ : ∃ Z : List V,Z = (Qh 10).map fun u => .sl 7 ((evS ws l u).map eEv) := ⟨_,rfl⟩
 have hZl : Z.length = 10 := by rw [hZ]; rfl
 have hZt : Z.take 10 = Z := Ql (by omega)
 have hZd : ∀ u,u < 10 → (Z.drop u).headD .u = .sl 7 ((evS ws l u).map eEv) := by
  intro u hu
  rw [Zz,Xu,hZ,Qi,Zi hu]; rfl
 obtain ⟨T,hT⟩ : ∃ T : List V,T = [Qbr ws l] := ⟨_,rfl⟩
 obtain ⟨B,hB⟩ : ∃ B : List V,B = [Qd0 c l W] := ⟨_,rfl⟩
 have hT0 : T = [.pa (.sl 1 (ws.map eI) :: Z)] := by rw [hT,hZ]; rfl
 rw [← hT,← hB]
 have dD : 10 ≤ Z.length := by omega
 simp only [rc105,rs105,v7,hT0,hZt,hZl,dD,BL,simprocAttr]
 refine Qac 10 (fun j (v : V × V) => ⟨lkp [(0,.yl y),(2,.pa B),(10,.ag Z),(11,.i j)],[.gh [.yl y,.pa T,.pa B] (some ((.b true :: [v.1,v.2]) :: (Qh9 c ws l j).map encH)),vB v.1,vB v.2]⟩) (fun j v => al [v.1,v.2]) (b1,b2) ?_ vL ?_ ?_
 ·simp only [Qf,hT0,BL,simprocAttr]
 ·rintro j ⟨c1',c2'⟩ hj hc
  simp only at hc
  have vY : (j : Int) < 10 := by omega
  have q8 : (0 : Int) ≤ j := by omega
  have qQ : (j : Int) < ((10 : Nat) : Int) := by omega
  have wY : (j : Int).toNat = j := Qd j
  have ij : inI ((j : Int) + 1) := by unfold inI; omega
  have hz := hZd j hj
  obtain ⟨L,hL⟩ : ∃ L,L = evS ws l j := ⟨_,rfl⟩
  have hLl : L.length ≤ 12 := by rw [hL]; exact h.len j
  have zM : Qh9 c ws l j = (Qfr (L.drop (2 * 0))).map (hiP c) ++ Qh9 c ws l (j + 1) := by
   unfold Qh9
   rw [Qad (Zi hj),Xn,hL]; rfl
  rw [zM]
  rw [← hL] at hz
  simp only [vY,qQ,q8,wY,hz,hZl,BL,simprocAttr]
  refine Qac (L.length / 2) (fun i (v : V × V) => ⟨lkp [(0,.yl y),(2,.pa B),(5,.sl 7 (L.map eEv)),(6,.i ((2 * i : Nat) : Int)),(10,.ag Z),(11,.i j)],[.gh [.yl y,.pa T,.pa B] (some ((.b true :: [v.1,v.2]) :: ((Qfr (L.drop (2 * i))).map (hiP c) ++ Qh9 c ws l (j + 1)).map encH)),vB v.1,vB v.2]⟩) (fun i v => al [v.1,v.2]) (c1',c2') ?_ hc ?_ ?_
  ·simp only [Nat.mul_zero,Qf,BL,simprocAttr]
  ·rintro i ⟨d1,d2⟩ hi hd
   simp only at hd
   obtain ⟨a,ha⟩ : ∃ a,L[2 * i]? = some a := ⟨_,Qa (by omega)⟩
   obtain ⟨b,hb⟩ : ∃ b,L[2 * i + 1]? = some b := ⟨_,Qa (by omega)⟩
   have hp := Qrb ha hb
   have jE : OkOp c a.min b.min := by
    have hm := Qua ha hb
    rw [hL] at hm
    exact h.op j _ hm
   have ra : (L.map eEv)[2 * i]? = some (eEv a) := by rw [Qi,ha]; rfl
   have rb : (L.map eEv)[2 * i + 1]? = some (eEv b) := by rw [Qi,hb]; rfl
   have c1 : ((2 * i : Nat) : Int) + 1 < L.length := by omega
   have c2 : inI (((2 * i : Nat) : Int) + 1) := by unfold inI; omega
   have c3 : (((2 * i : Nat) : Int)).toNat = 2 * i := Qd _
   have c4 : (((2 * i : Nat) : Int) + 1).toNat = 2 * i + 1 := by omega
   have c5 : (0 : Int) ≤ ((2 * i : Nat) : Int) := by omega
   have c6 : (0 : Int) ≤ ((2 * i : Nat) : Int) + 1 := by omega
   have c7 : ((2 * i : Nat) : Int) < L.length := by omega
   have c8 : inI (((2 * i : Nat) : Int) + 2) := by unfold inI; omega
   have c9 : ((2 * (i + 1) : Nat) : Int) = ((2 * i : Nat) : Int) + 2 := by omega
   have g := (show (K151.wal al) 106 [.ag (eCtr c),.i a.min,.i b.min] = (OkOp c a.min b.min,.i (Qwv c a.min b.min)) from k106 c a.min b.min)
   rw [hp]
   simp only [eCtr] at g
   simp only [c1,c2,c3,c4,c5,c6,c7,c8,ra,rb,hB,Qd0,eCtr,eEv,g,jE,v7,hiP,yP,encH,gyE,eSlip,BL,simprocAttr]
   rintro b bv' uX
   obtain ⟨d3,d4,rfl⟩ := hone.1 bv' uX
   refine ⟨fun hb => ?_,fun hb => ?_⟩
   ·subst hb
    rw [hT0]
    exact ⟨false,[d3,d4],[],[],by simp,by simp,uX⟩
   ·subst hb
    refine ⟨(d3,d4),uX,?_⟩
    simp only [c8,c9,hB,Qd0,eCtr,BL,simprocAttr]
  ·rintro ⟨d1,d2⟩ hd
   simp only at hd
   have mR := Qu9 (L := L) (i := L.length / 2) (by omega)
   have c1 : ¬ (((2 * (L.length / 2) : Nat) : Int) + 1 < L.length) := by omega
   have c2 : inI (((2 * (L.length / 2) : Nat) : Int) + 1) := by unfold inI; omega
   rw [mR]
   simp only [c1,c2,ij,Qx,Q6,BL,simprocAttr]
   exact ⟨(d1,d2),hd,rfl⟩
 ·rintro ⟨c1',c2'⟩ hc
  simp only at hc
  have hlt : ¬ (((10 : Nat) : Int) < 10) := by omega
  have e : Qh9 c ws l 10 = [] := rfl
  simp only [hlt,e,BL,simprocAttr]
  rw [hT0]
  exact ⟨true,[c1',c2'],[],[],by simp,fun _ => rfl,hc⟩
def dTr : V → List Int | .pa (.sl _ w :: _) => w.map dI | _ => []
def Zdn (ws : List Int) (l : List Slip) : dTr (Qbr ws l) = ws := dIs ws
def dBV : V → (Ctr × List Slip) × List (List Int)
 | .pa b => (dBk b,match b.drop 12 with | .sl _ r :: _ => r.map fun r => dTr (r.headD .u) | _ => [])
 | _ => ((dCtr [],[]),[])
def Zdh (c : Ctr) (l : List Slip) (W : List (List Int)) : dBV (Qd0 c l W) = ((c,l),W) := by
 show ((dCtr (eCtr c),(l.map eSlip).map Qf8),(trR l W).map fun r => dTr (r.headD .u)) = _
 rw [Qfn,Qs3,trR,Q3]
 congr 1
 exact Zq (fun ws => Zdn ws l) W
abbrev D105 := ((Ctr × List Slip) × List (List Int)) × List Int
def e105 (a : D105) : List V := [.pa [Qbr a.2 a.1.1.2],.pa [Qd0 a.1.1.1 a.1.1.2 a.1.2]]
def d105 : List V → D105 | [.pa [t],.pa [b]] => (dBV b,dTr t) | _ => (dBV .u,[])
def Zh0 (a : D105) : d105 (e105 a) = a := by
 obtain ⟨⟨⟨c,l⟩,W⟩,ws⟩ := a
 show (dBV (Qd0 c l W),dTr (Qbr ws l)) = _
 rw [Zdh,Zdn]
def tH (al : List V → Prop) (xs : List V) (hp : List Blk) : Prop × (V → List Blk → Prop) :=
 (∃ c l W ws y bv,HirOk c ws l ∧ al bv ∧ OkAl al ∧ xs = [.yl y,.pa [Qbr ws l],.pa [Qd0 c l W]] ∧ hp = gH [Qbr ws l] [Qd0 c l W] y bv (Qh9 c ws l 0),
  fun r hp => ∃ y T B,xs = [.yl y,.pa T,.pa B] ∧ Go.C06.RIt al [.yl y,.pa T,.pa B] r hp)
def K152 := K151.extY 105 tH
def Zbz : GOk TP K152 := by
 refine Zby.extY call105 fun al xs hp h => ?_
 obtain ⟨c,l,W,ws,y,bv,h1,h2,h3,rfl,rfl⟩ := h
 obtain ⟨b1,b2,rfl⟩ := h3.1 bv h2
 exact (X105 al c l W ws h1 y b1 b2 h2 h3).mono fun r hp h => ⟨y,_,_,rfl,h⟩
def e74 (a : D105) : List V := [Qd0 a.1.1.1 a.1.1.2 a.1.2,Qbr a.2 a.1.1.2]
def d74 : List V → D105 | [b,t] => (dBV b,dTr t) | _ => (dBV .u,[])
def Zot (a : D105) : d74 (e74 a) = a := Zh0 a
def X74 (c : Ctr) (l : List Slip) (W : List (List Int)) (ws : List Int) : Qa1 TP 74 [Qd0 c l W,Qbr ws l] (.fn 105 [.pa [Qbr ws l],.pa [Qd0 c l W]]) := by
 refine pc Zbz func74 cf74 ?_
 obtain ⟨B,hB⟩ : ∃ B,Qd0 c l W = .pa B := ⟨_,rfl⟩
 obtain ⟨T,hT⟩ : ∃ T,Qbr ws l = .pa T := ⟨_,rfl⟩
 rw [hB,hT]
 simp only [rc74,rs74,↓BU3,BL,simprocAttr]
def K153 := K152.ext 74 (fnG e74 d74 (fun _ => True) (fun a => a) ((fun a => .fn 105 (e105 a))))
def Zc0 : GOk TP K153 := Zbz.ext call74 (Qa7 fun a h => X74 a.1.1.1 a.1.1.2 a.1.2 a.2)
def x74 (c : Ctr) (l : List Slip) (W : List (List Int)) (ws : List Int) : K153 74 [Qd0 c l W,Qbr ws l] = (True,.fn 105 [.pa [Qbr ws l],.pa [Qd0 c l W]]) := (kx K153 74 (Zot (((c,l),W),ws)) rfl :)
def k40 (t : Tariff) (m : Int) := lft K153 (x40 t m) rfl
def X39 (c : Ctr) (m : Int) (h : OkFee c.tar m) : Qa1 TP 39 [.i m,.pa (eCtr c)] (.i (feeN c.tar m)) := by
 refine pc Zc0 func39 cf39 ?_
 have g := k40 c.tar m
 simp only [eTar] at g
 simp only [rc39,rs39,eCtr,g,h,↓BU3,BL,simprocAttr]
def e39 (a : Ctr × Int) : List V := [.i a.2,.pa (eCtr a.1)]
def d39 : List V → Ctr × Int | [.i m,.pa c] => (dCtr c,m) | _ => (dCtr [],0)
def Zoh (a : Ctr × Int) : d39 (e39 a) = a := by obtain ⟨c,m⟩ := a; show (dCtr (eCtr c),m) = _; rw [Qfn]
def K154 := K153.ext 39 (fnG e39 d39 (fun a => OkFee a.1.tar a.2) (fun a => feeN a.1.tar a.2) (.i))
def Zc1 : GOk TP K154 := Zc0.ext call39 (Qa7 fun a h => X39 a.1 a.2 h)
def x39 (c : Ctr) (m : Int) : K154 39 [.i m,.pa (eCtr c)] = (OkFee c.tar m,.i (feeN c.tar m)) := (kx K154 39 (Zoh (c,m)) rfl :)
def Zai (c : Ctr) (ws : List Int) (l : List Slip) : List (Slip × Int) := Qh9 c ws l 0
def Qtr (c : Ctr) (n : Int) (ws : List Int) (l : List Slip) : Option (Slip × Int) := (Zai c ws l).find? fun x => decide (x.1.id = n)
structure C73 (c : Ctr) (n : Int) (ws : List Int) (l : List Slip) : Prop where
 h : HirOk c ws l
 f : (Qtr c n ws l).isSome = true
 m : OkFee c.tar ((Qtr c n ws l).getD (sl0,0)).2
def Qr2 (c : Ctr) (n : Int) (ws : List Int) (l : List Slip) : Int := feeN c.tar ((Qtr c n ws l).getD (sl0,0)).2
def Ql4 (c : Ctr) (n : Int) (l : List Slip) (W : List (List Int)) : List V := [.pa [Qd0 c l W],.pa [.i n],.pa [.fn 39 [.pa (eCtr c)]]]
def k74 (c : Ctr) (l : List Slip) (W : List (List Int)) (ws : List Int) := lft K154 (x74 c l W ws) rfl
def y105 (al : List V → Prop) (xs : List V) (hp : List Blk) : K154.y 105 al xs hp = tH al xs hp := rfl
def Qts {α : Type} {p : α → Bool} {l : List α} {k : Nat} {x : α} (hx : l[k]? = some x) (hp : p x = true) (hc : ∀ j y,j < k → l[j]? = some y → p y = false) : l.find? p = some x := by
 induction l generalizing k with
 | nil => simp at hx
 | cons a l ih =>
  cases k with
  | zero => simp at hx; subst hx; simp [hp]
  | succ k =>
   have ha := hc 0 a (by omega) rfl
   rw [List.find?_cons_of_neg (by simp [ha])]
   exact ih (by simpa using hx) fun j y hj hy => hc (j + 1) y (by omega) (by simpa using hy)
def X73 (c : Ctr) (n : Int) (ws : List Int) (l : List Slip) (W : List (List Int)) (h : C73 c n ws l) : Qa1 TP 73 (Qbr ws l :: Ql4 c n l W) (.tp [.i (Qr2 c n ws l),.b true]) := by
 refine pc Zc1 func73 cf73 ?_
 have g1 := k74 c l W ws
 have g3 := fun m => x39 c m
 have hm := h.m
 obtain ⟨B,hB⟩ : ∃ B,Qd0 c l W = .pa B := ⟨_,rfl⟩
 obtain ⟨T,hT⟩ : ∃ T,Qbr ws l = .pa T := ⟨_,rfl⟩
 obtain ⟨E,hE⟩ : ∃ E,E = eCtr c := ⟨_,rfl⟩
 rw [hB,hT] at g1
 rw [← hE] at g3
 unfold Ql4
 rw [hB,hT,← hE]
 obtain ⟨H,hH⟩ : ∃ H,H = Zai c ws l := ⟨_,rfl⟩
 simp only [rc73,rs73,g1,↓BU3,BL,simprocAttr]
 refine Zlc (gf := 105) (caps := [.pa [.pa T],.pa [.pa B]]) ?_ (fun bv => ∃ x b,bv = [bV (.cells 0 [.i x]),bV (.cells 0 [.b b])]) (H.map fun x => (yP x,[])) (bv0 := [bV (.cells 0 [.i 0]),bV (.cells 0 [.b false])]) ?_
  (fun k bv => bv = [bV (.cells 0 [.i 0]),bV (.cells 0 [.b false])] ∧ ∀ j y,j < k → H[j]? = some y → decide (y.1.id = n) = false) ?_ ?_ ?_ ?_ ?_ ?_
 ·simp only [↓BU3,BL,simprocAttr]
 ·simp only [↓BU3,BL,simprocAttr]
 ·exact ⟨rfl,fun j y hj => absurd hj (Q4 _)⟩
 ·rintro k bv ⟨rfl,_⟩
  exact ⟨_,_,rfl⟩
 ·rintro bv ⟨x,b,rfl⟩
  refine ⟨rfl,fun hp => ?_⟩
  simp only [↓BU3,BL,simprocAttr]
 ·intro y
  rw [y105]
  refine ⟨⟨c,l,W,ws,y,[bV (.cells 0 [.i 0]),bV (.cells 0 [.b false])],h.h,⟨_,_,rfl⟩,⟨fun bv h => ?_,fun b1 b2 hp h => ?_⟩,by rw [hB,hT],?_⟩,fun r hp' h => ?_⟩
  ·obtain ⟨x,b,h⟩ := h
   exact ⟨_,_,h⟩
  ·obtain ⟨x,b,h⟩ := h
   simp only [Xe.injEq,and_true] at h
   obtain ⟨rfl,rfl⟩ := h
   simp only [↓BU3,BL,simprocAttr]
  ·rw [hB,hT,gH,Q3]
   rw [show Qh9 c ws l 0 = H from hH.symm]
   rfl
  ·obtain ⟨y',T',B',e,h⟩ := h
   simp only [Xe.injEq,V.yl.injEq,V.pa.injEq,and_true] at e
   obtain ⟨rfl,rfl,rfl⟩ := e
   exact h
 ·rintro k x z bv hx ⟨rfl,hc⟩
  rw [Qi,Option.map_eq_some_iff] at hx
  obtain ⟨⟨s,m⟩,hy,he⟩ := hx
  simp only [Prod.mk.injEq] at he
  obtain ⟨rfl,rfl⟩ := he
  refine ⟨rfl,Qo _,?_⟩
  by_cases e : s.id = n
  ·have hf : Qtr c n ws l = some (s,m) := by
    unfold Qtr
    rw [← hH]
    exact Qts hy (by simpa using e) hc
   rw [hf] at hm
   have hl : Qr2 c n ws l = feeN c.tar m := by unfold Qr2; rw [hf]; rfl
   simp only [Qe] at hm
   simp only [yP,eSlip,e,g3,hm,hl,↓BU3,BL,simprocAttr]
   refine ⟨[bV (.cells 0 [.i (feeN c.tar m)]),bV (.cells 0 [.b true])],?_,rfl,⟨_,_,rfl⟩,?_⟩
   ·simp only [↓BU3,BL,simprocAttr]
   ·simp only [↓BU3,BL,simprocAttr]
  ·have vO : ∀ j y,j < k + 1 → H[j]? = some y → decide (y.1.id = n) = false := by
    intro j y hj fU
    rcases Nat.lt_or_eq_of_le (Nat.lt_succ_iff.1 hj) with h | h
    ·exact hc j y h fU
    ·subst h
     rw [hy] at fU
     cases fU
     simpa using e
   simp only [yP,eSlip,e,↓BU3,BL,simprocAttr]
   refine ⟨[bV (.cells 0 [.i 0]),bV (.cells 0 [.b false])],?_,rfl,⟨_,_,rfl⟩,rfl,fun j y hj fU => by simpa using vO j y hj fU⟩
   simp only [↓BU3,BL,simprocAttr]
 ·rintro bv ⟨rfl,hc⟩
  exfalso
  rw [Qc] at hc
  have hs := h.f
  unfold Qtr at hs
  rw [← hH,List.find?_isSome] at hs
  obtain ⟨y,hy,hp⟩ := hs
  obtain ⟨j,hj⟩ := List.getElem?_of_mem hy
  have := hc j y (Qag hj) hj
  rw [this] at hp
  cases hp
abbrev D73 := D105 × Int
def e73 (a : D73) : List V := Qbr a.1.2 a.1.1.1.2 :: Ql4 a.1.1.1.1 a.2 a.1.1.1.2 a.1.1.2
def d73 : List V → D73 | [t,.pa [b],.pa [.i n],_] => ((dBV b,dTr t),n) | _ => ((dBV .u,[]),0)
def Zos (a : D73) : d73 (e73 a) = a := by
 obtain ⟨⟨⟨⟨c,l⟩,W⟩,ws⟩,n⟩ := a
 show ((dBV (Qd0 c l W),dTr (Qbr ws l)),n) = _
 rw [Zdh,Zdn]
def K155 := K154.ext 73 (fnG e73 d73 (fun a => C73 a.1.1.1.1 a.2 a.1.2 a.1.1.1.2) (fun a => Qr2 a.1.1.1.1 a.2 a.1.2 a.1.1.1.2) ((fun m => .tp [.i m,.b true])))
def Zc2 : GOk TP K155 := Zc1.ext call73 (Qa7 fun a h => X73 a.1.1.1.1 a.2 a.1.2 a.1.1.1.2 a.1.1.2 h)
def x73 (c : Ctr) (l : List Slip) (W : List (List Int)) (ws : List Int) (n : Int) : K155 73 (Qbr ws l :: Ql4 c n l W) = (C73 c n ws l,.tp [.i (Qr2 c n ws l),.b true]) := (kx K155 73 (Zos ((((c,l),W),ws),n)) rfl :)
def spS (s : Span × Bool) (m : Int) : Span × Bool := if s.2 = true then (⟨min s.1.low m,max s.1.high m⟩,true) else (⟨m,m⟩,true)
def spF (ms : List Int) : Span × Bool := ms.foldl spS (⟨0,0⟩,false)
def Qt9 (ms : List Int) (m : Int) : spF (ms ++ [m]) = spS (spF ms) m := by simp [spF]
def Qzl {ms : List Int} (h : ms ≠ []) : (spF ms).2 = true := by
 obtain ⟨a,b,rfl⟩ : ∃ a b,ms = a ++ [b] := ⟨ms.dropLast,ms.getLast h,(List.dropLast_concat_getLast h).symm⟩
 rw [Qt9]
 unfold spS
 split <;> rfl
def msN (c : Ctr) (n : Int) (l : List Slip) (W : List (List Int)) : List Int := W.map fun ws => Qr2 c n ws l
def e72 (c : Ctr) (n : Int) (l : List Slip) (W : List (List Int)) : List V := [Qd0 c l W,.fn 73 (Ql4 c n l W)]
def X72 (c : Ctr) (n : Int) (l : List Slip) (W : List (List Int)) (h : ∀ ws ∈ W,C73 c n ws l) (h0 : W ≠ []) (hl : W.length ≤ 1000000) :
  Qa1 TP 72 (e72 c n l W) (.tp [.ag (eSpan (spF (msN c n l W)).1),.b true]) := by
 refine pc Zc2 func72 cf72 ?_
 have g := fun ws => x73 c l W ws n
 obtain ⟨E,hE⟩ : ∃ E,E = eCtr c := ⟨_,rfl⟩
 obtain ⟨B,hB⟩ : ∃ B,B = [Qd0 c l W] := ⟨_,rfl⟩
 have qO : ∀ ws,C73 c n ws l = C73 c n ws l := fun _ => rfl
 have wZ : (spF (msN c n l W)).2 = true := Qzl (by unfold msN; simpa using h0)
 have hd : (eCtr c ++ [.sl 6 (l.map eSlip),.sl 1 (trR l W)]) = eCtr c ++ [.sl 6 (l.map eSlip),.sl 1 (trR l W)] := rfl
 simp only [e72]
 unfold Ql4 at g ⊢
 rw [← hB,← hE] at g
 rw [← hB,← hE]
 have yX : Qd0 c l W = .pa (eCtr c ++ [.sl 6 (l.map eSlip),.sl 1 (trR l W)]) := rfl
 rw [yX]
 have kH : (trR l W).length = W.length := Qc ..
 simp only [rc72,rs72,eCtr,kH,BL,simprocAttr]
 refine Qaq W.length (fun k => ⟨lkp [(1,.fn 73 [.pa B,.pa [.i n],.pa [.fn 39 [.pa E]]]),(4,.ad 0 0 0),(5,.b (spF (msN c n l (W.take k))).2),(13,.sl 1 (trR l W)),(14,.i W.length),(15,.i k)],[.cells 0 [.i (spF (msN c n l (W.take k))).1.low,.i (spF (msN c n l (W.take k))).1.high]]⟩) ?_ ?_ ?_
 ·simp only [Qf,msN,spF,BL,simprocAttr]
 ·intro k hk
  obtain ⟨ws,fV⟩ : ∃ ws,W[k]? = some ws := ⟨_,Qa hk⟩
  have hC := h ws (Qz fV)
  have hrow : (trR l W)[k]? = some [Qbr ws l] := by unfold trR; rw [Qi,fV]; rfl
  have hlt : (k : Int) < W.length := by omega
  have uG : (0 : Int) ≤ k := by omega
  have qS : (k : Int).toNat = k := Qd k
  have i1 : inI ((k : Int) + 1) := by unfold inI; omega
  have gw := g ws
  have zY : msN c n l (W.take (k + 1)) = msN c n l (W.take k) ++ [Qr2 c n ws l] := by unfold msN; rw [Qa4 fV,Qy]; rfl
  rw [zY,Qt9]
  obtain ⟨T,hT⟩ : ∃ T,Qbr ws l = .pa T := ⟨_,rfl⟩
  rw [hT] at gw hrow
  generalize spF (msN c n l (W.take k)) = s
  obtain ⟨⟨slo,shi⟩,sb⟩ := s
  cases sb
  ·simp only [hlt,hrow,kH,uG,qS,i1,gw,hC,spS,Qx,Q6,BL,simprocAttr]
  ·simp only [hlt,hrow,kH,uG,qS,i1,gw,hC,spS,Qx,Q6,BL,simprocAttr]
 ·have hlt : ¬ ((W.length : Int) < W.length) := by omega
  simp only [hlt,Zd,wZ,BL,simprocAttr]
def d72 : List V → (Ctr × Int) × (List Slip × List (List Int)) | [b,.fn _ [_,.pa [.i n],_]] => (((dBV b).1.1,n),((dBV b).1.2,(dBV b).2)) | _ => ((dCtr [],0),([],[]))
def Zor (a : (Ctr × Int) × (List Slip × List (List Int))) : d72 (e72 a.1.1 a.1.2 a.2.1 a.2.2) = a := by
 obtain ⟨⟨c,n⟩,l,W⟩ := a
 show (((dBV (Qd0 c l W)).1.1,n),((dBV (Qd0 c l W)).1.2,(dBV (Qd0 c l W)).2)) = _
 rw [Zdh]
structure C72 (c : Ctr) (n : Int) (l : List Slip) (W : List (List Int)) : Prop where
 c : ∀ ws ∈ W,C73 c n ws l
 e : W ≠ []
 l : W.length ≤ 1000000
def K156 := K155.ext 72 (fnG (fun a : (Ctr × Int) × (List Slip × List (List Int)) => e72 a.1.1 a.1.2 a.2.1 a.2.2) d72 (fun a => C72 a.1.1 a.1.2 a.2.1 a.2.2) (fun a => (spF (msN a.1.1 a.1.2 a.2.1 a.2.2)).1) ((fun s => .tp [.ag (eSpan s),.b true])))
def Zc3 : GOk TP K156 := Zc2.ext call72 (Qa7 fun a h => X72 a.1.1 a.1.2 a.2.1 a.2.2 h.c h.e h.l)
def x72 (c : Ctr) (n : Int) (l : List Slip) (W : List (List Int)) : K156 72 (e72 c n l W) = (C72 c n l W,.tp [.ag (eSpan (spF (msN c n l W)).1),.b true]) := (kx K156 72 (Zor ((c,n),(l,W))) rfl :)
def k68 (c : Ctr) (n : Int) := lft K156 (x68 c n) rfl
structure C38 (c : Ctr) (n : Int) : Prop where
 r : C68 (c,n)
 s : C72 c n (Qkd c) (Ql2 c)
def feeS (c : Ctr) (n : Int) : Span := (spF (msN c n (Qkd c) (Ql2 c))).1
def X38 (c : Ctr) (n : Int) (h : C38 c n) : Qa1 TP 38 [.ag (eCtr c),.i n,.fn 39 [.pa (eCtr c)]] (.tp [.ag (eSpan (feeS c n)),.i 0]) := by
 refine pc Zc3 func38 cf38 ?_
 have g1 := k68 c n
 have g2 := x72 c n (Qkd c) (Ql2 c)
 have h1 := h.r
 have h2 := h.s
 unfold feeS
 simp only [e72,Ql4] at g2
 obtain ⟨E,hE⟩ : ∃ E,E = eCtr c := ⟨_,rfl⟩
 have hEl : E.length = 11 := by rw [hE]; rfl
 have hEr : Qa8 E = false := by rw [hE]; rfl
 have hE7 : ∀ H,E.map (vw H 7) = E := fun H => by rw [hE]; rfl
 have hEv : ∀ H n,E.map (vw H (n + 1)) = E := fun H n => by rw [hE]; rfl
 obtain ⟨B,hB⟩ : ∃ B,Qd0 c (Qkd c) (Ql2 c) = .pa B := ⟨_,rfl⟩
 rw [hB] at g1 g2
 rw [← hE] at g1 g2 ⊢
 have hEt : E.take 11 = E := Ql (by omega)
 have hE11 : 11 ≤ E.length := by omega
 simp only [rc38,rs38,g1,h1,g2,h2,hEl,hEt,hE11,hEr,hE7,BL,simprocAttr]
def e38 (a : Ctr × Int) : List V := [.ag (eCtr a.1),.i a.2,.fn 39 [.pa (eCtr a.1)]]
def d38 : List V → Ctr × Int | [.ag c,.i n,_] => (dCtr c,n) | _ => (dCtr [],0)
def Zog (a : Ctr × Int) : d38 (e38 a) = a := by obtain ⟨c,n⟩ := a; show (dCtr (eCtr c),n) = _; rw [Qfn]
def K157 := K156.ext 38 (fnG e38 d38 (fun a => C38 a.1 a.2) (fun a => feeS a.1 a.2) ((fun s => .tp [.ag (eSpan s),.i 0])))
def Qwp : GOk TP K157 := Zc3.ext call38 (Qa7 fun a h => X38 a.1 a.2 h)
def x38 (c : Ctr) (n : Int) : K157 38 [.ag (eCtr c),.i n,.fn 39 [.pa (eCtr c)]] = (C38 c n,.tp [.ag (eSpan (feeS c n)),.i 0]) := (kx K157 38 (Zog (c,n)) rfl :)
def X20 (c : Ctr) (n : Int) (h : C38 c n) : Qa1 TP 20 [.ag (eCtr c),.i n] (.tp [.ag (eSpan (feeS c n)),.i 0]) := by
 refine pc Qwp func20 cf20 ?_
 have g := x38 c n
 obtain ⟨E,hE⟩ : ∃ E,E = eCtr c := ⟨_,rfl⟩
 have hEl : E.length = 11 := by rw [hE]; rfl
 have hEr : Qa8 E = false := by rw [hE]; rfl
 have hE7 : ∀ H,E.map (vw H 7) = E := fun H => by rw [hE]; rfl
 have hEt : E.take 11 = E := Ql (by omega)
 have hE11 : 11 ≤ E.length := by omega
 rw [← hE] at g ⊢
 simp only [rc20,rs20,g,h,hEl,hEt,hE11,hEr,hE7,BL,simprocAttr]
def exF : Ctr := ⟨[⟨0,0⟩,⟨-2,1⟩],[⟨1,0,100,1,3,7⟩,⟨2,1,160,2,3,0⟩,⟨3,0,161,1,3,8⟩,⟨4,1,393,2,3,0⟩,⟨5,0,120,1,4,7⟩],[],[⟨200,299⟩],⟨10,30,50,400,500,1500,1000⟩⟩
def X21 : Qa1 TP 21 [] (.ag (eCtr exF)) := by
 refine pc Qwp func21 cf21 ?_
 simp only [rc21,rs21,BL,simprocAttr]
 rfl
def Qvh : SmallCt exF := ⟨by decide,by decide,by decide,by decide⟩
def mF : AM Slip := [([1],⟨1,0,100,1,3,7⟩),([2],⟨2,1,160,2,3,0⟩),([3],⟨3,0,161,1,3,8⟩),([4],⟨4,1,393,2,3,0⟩),([5],⟨5,0,120,1,4,7⟩)]
def Qo5 : Qm5 exF.slips = some mF := by decide +kernel
def Zdx : ctrE exF = 0 := by
 unfold ctrE
 rw [Qo5,if_pos (by decide +kernel)]
 simp
def Qyj : Qtz (aks mF) = [1,2,3,4,5] := by
 show ([1,2,3,4,5] : List Int).mergeSort (fun a b => decide (a ≤ b)) = _
 exact List.mergeSort_of_pairwise (by decide)
def Qpd : Qee mF = exF.slips := by
 unfold Qee
 rw [Qyj]
 decide +kernel
def Qkl : Qkd exF = exF.slips := by unfold Qkd; rw [Qo5]; exact Qpd
def wF : List (List Int) := [[0,-2],[0,-1],[0,0]]
def Zi9 : Qcc exF.slips exF.clerks [] = wF := by decide +kernel
def Zdw : Ql2 exF = wF := by unfold Ql2; rw [Qkl]; exact Zi9
def Zdy : feeS exF 3 = ⟨200,250⟩ := by
 unfold feeS
 rw [Qkl,Zdw]
 decide +kernel
def Qyr {x y : Ev} {s : List Ev} (h : y ∈ insE x s) : y = x ∨ y ∈ s := by
 unfold insE at h
 have e := List.takeWhile_append_dropWhile (p := fun y : Ev => decide (y.min ≤ x.min)) (l := s)
 rcases Qr.1 h with h | h
 ·right; rw [← e]; exact Qr.2 (.inl h)
 ·rcases Q0.1 h with h | h
  ·exact .inl h
  ·right; rw [← e]; exact Qr.2 (.inr h)
def Qtx (l : List Ev) : ∀ y ∈ Qcd l,y ∈ l := Qb0 (p := fun l => ∀ y ∈ Qcd l,y ∈ l) (fun _ h => h) (fun l x ih y hy => by
 rw [Qf9] at hy
 rcases Qyr hy with rfl | h
 ·simp
 ·exact Qr.2 (.inl (ih y h))) l
def Qub {L : List Ev} : ∀ p ∈ Qfr L,p.1 ∈ L ∧ p.2 ∈ L := by
 induction L using Qfr.induct with
 | case1 x y r ih =>
  intro p hp
  rcases Q0.1 hp with rfl | hp
  ·exact ⟨by simp,by simp⟩
  ·have := ih p hp
   exact ⟨by simp [this.1],by simp [this.2]⟩
 | case2 L hL =>
  intro p hp
  exfalso
  match L,hL with
  | [],_ => cases hp
  | [x],_ => cases hp
  | x :: y :: r,hL => exact hL x y r rfl
def Zdv {ws : List Int} {l : List Slip} (hs : ∀ s ∈ l,0 ≤ s.atm ∧ s.atm ≤ 10000) (hw : ∀ i,-1000 ≤ ws.getD i 0 ∧ ws.getD i 0 ≤ 1000) (u : Nat) : ∀ e ∈ evS ws l u,-100000 ≤ e.min ∧ e.min ≤ 100000 := by
 intro e he
 have h := Qtx _ e he
 unfold evU at h
 obtain ⟨s,hm,rfl⟩ := Qs.1 h
 have h1 := hs s (Qn.1 hm).1
 have h2 := hw s.clerk.toNat
 simp only
 omega
def Zae : OkCt exF := okCt (by decide +kernel)
def hirF {ws : List Int} (hw : ∀ i,-1000 ≤ ws.getD i 0 ∧ ws.getD i 0 ≤ 1000) : HirOk exF ws exF.slips := by
 refine ⟨fun u => ?_,fun u p hp => ?_⟩
 ·unfold evS
  rw [Qgq]
  unfold evU
  rw [Qc]
  exact Zu (Zm _ _) (by decide)
 ·have h := Qub p hp
  have hb := Zdv (ws := ws) (l := exF.slips) (by decide) hw u
  exact ⟨Zae,hb _ h.1,hb _ h.2⟩
def getF (a b : Int) (ha : -1000 ≤ a ∧ a ≤ 1000) (hb : -1000 ≤ b ∧ b ≤ 1000) : ∀ i,-1000 ≤ ([a,b] : List Int).getD i 0 ∧ ([a,b] : List Int).getD i 0 ≤ 1000
 | 0 => ha
 | 1 => hb
 | i + 2 => by simp [List.getD]
def c73F : ∀ ws ∈ wF,C73 exF 3 ws exF.slips := by
 intro ws fV
 have : ws = [0,-2] ∨ ws = [0,-1] ∨ ws = [0,0] := by simpa [wF] using fV
 rcases this with rfl | rfl | rfl
 ·exact ⟨hirF (getF _ _ (by decide) (by decide)),by decide +kernel,⟨by decide +kernel,by decide +kernel⟩⟩
 ·exact ⟨hirF (getF _ _ (by decide) (by decide)),by decide +kernel,⟨by decide +kernel,by decide +kernel⟩⟩
 ·exact ⟨hirF (getF _ _ (by decide) (by decide)),by decide +kernel,⟨by decide +kernel,by decide +kernel⟩⟩
def rdF : RdOk exF 3 exF.slips wF where
 small := Qvh
 err := Zdx
 on := Zae.on
 once := by
  rw [Qo5]
  show V.tp [.sl 6 ((Qee mF).map eSlip),.b true] = _
  rw [Qpd]
 vo := ⟨⟨by decide,by decide⟩,fun s _ => by simp [pVo,exF]⟩
 s := ⟨by decide,by decide,by decide,by decide,by decide,by decide⟩
 is := by decide
 w := Zi9
 w0 := by simp [wF]
 wn := by decide
def c38F : C38 exF 3 := by
 refine ⟨?_,?_⟩
 ·show RdOk exF 3 (Qkd exF) (Ql2 exF)
  rw [Qkl,Zdw]
  exact rdF
 ·rw [Qkl,Zdw]
  exact ⟨c73F,by simp [wF],by decide⟩
def K158 := (K157.ext 21 fun l => (l = [],.ag (eCtr exF))).ext 20 fun l => (l = [.ag (eCtr exF),.i 3],.tp [.ag [.i 200,.i 250],.i 0])
def Zc4 : GOk TP K158 := by
 refine GOk.ext (Qwp.ext call21 ?_) call20 ?_
 ·rintro _ rfl
  exact X21
 ·rintro _ rfl
  have := X20 exF 3 c38F
  rw [Zdy] at this
  exact this
def x21 : K158 21 [] = (True,.ag (eCtr exF)) := by show (([] : List V) = [],_) = _; simp
def x20 : K158 20 [.ag (eCtr exF),.i 3] = (True,.tp [.ag [.i 200,.i 250],.i 0]) := by show (([.ag (eCtr exF),.i 3] : List V) = _,_) = _; simp
def k17 : K158 17 [] = (True,.ag (Qai exW)) := h46
def k19 : K158 19 [] = (True,.ag (Qat exC)) := h23
def k18 (s : Shop) := lft K158 (h14 s) rfl
def k16 (w : Work) := lft K158 (x16 w) rfl
def eq48 : Qar TP 48 2 := Qar.of (fs := _) (show TP.underlying 48 = some (.struct (TP.fieldsOf 48)) by kernel_rfl) (by kernel_rfl) (by kernel_rfl)
def Zln : SmallS exC := Qvg
def Zfk : SmallW exW := ⟨by decide,by decide,by decide,by decide,by decide⟩
def v7X : (Qai exW).map (vw [] 7) = Qai exW := by kernel_rfl
def v7Y : (Qat exC).map (vw [] 7) = Qat exC := by kernel_rfl
def v7E : (eCtr exF).map (vw [] 7) = eCtr exF := by kernel_rfl
def r7X : Qa8 (Qai exW) = false := by kernel_rfl
def r7Y : Qa8 (Qat exC) = false := by kernel_rfl
def r7E : Qa8 (eCtr exF) = false := by kernel_rfl
def X7 : Qa1 TP 7 [] (.b true) := by
 refine pc Zc4 func7 cf7 ?_
 have g16 := k16 exW
 have g18 := k18 exC
 rw [Zdz] at g16
 rw [Qvf] at g18
 have h1 := Zln
 have h2 := Zfk
 have g17 := k17
 have g19 := k19
 have g21 := x21
 have g20 := x20
 obtain ⟨E,hE⟩ : ∃ E,E = eCtr exF := ⟨_,rfl⟩
 obtain ⟨X,hX⟩ : ∃ X,X = Qai exW := ⟨_,rfl⟩
 obtain ⟨Y,hY⟩ : ∃ Y,Y = Qat exC := ⟨_,rfl⟩
 have a1 := v7X
 have a2 := v7Y
 have a3 := v7E
 have a4 := r7X
 have a5 := r7Y
 have a6 := r7E
 rw [← hE] at g20 g21 a3 a6
 rw [← hX] at g16 g17 a1 a4
 rw [← hY] at g18 g19 a2 a5
 simp only [rc7,rs7,g16,g17,g18,g19,g20,g21,h1,h2,eq48,a1,a2,a3,a4,a5,a6,BL,simprocAttr]
 rfl
def K159 := K158.ext 7 fun l => (l = [],.b true)
def Zj6 : GOk TP K159 := by
 refine Zc4.ext call7 ?_
 rintro _ rfl
 exact X7
def x7 : K159 7 [] = (True,.b true) := by show (([] : List V) = [],_) = _; simp
end Go.CS
end
namespace Go.CS
open Go.Fam
def Qp9 {y : Int} : ∀ {u v : List Int},u.length = v.length → (∀ j : Nat,j < u.length → (u[j]?.getD 0 = y ↔ v[j]?.getD 0 = y)) → u.count y = v.count y
 | [],[],_,_ => rfl
 | [],_ :: _,h,_ => by simp at h
 | _ :: _,[],h,_ => by simp at h
 | a :: u,b :: v,h,hp => by
  have ih := Qp9 (y := y) (u := u) (v := v) (by simpa using h) fun j hj => by
   have := hp (j + 1) (by simpa using hj)
   simpa using this
  have h0 := hp 0 (by simp)
  simp only [Zk,Qe] at h0
  rw [Zs,Zs,ih]
  by_cases e : a = y
  ·rw [if_pos (by simpa using e),if_pos (by simpa using h0.1 e)]
  ·rw [if_neg (by simpa using e),if_neg (by simpa using fun e' => e (h0.2 e'))]
def Qjj (work : List Int) (x : Int) : (Qb3 work x).length = work.count x := by
 unfold Qb3 Qg4
 rw [Qc]
 induction work with
 | nil => rfl
 | cons a l ih =>
  have e : (Qh (a :: l).length).filter (fun (i : Nat) => decide ((a :: l).getD i 0 = x)) = (if a = x then [0] else []) ++ ((Qh l.length).filter fun (i : Nat) => decide (l.getD i 0 = x)).map Nat.succ := by
   rw [Qt,Z7,Xq]
   simp only [List.getD_cons_zero,Xv,Function.comp_def,List.getD_cons_succ,decide_eq_true_eq]
   split <;> simp
  rw [e,Qg,Qc,ih,Zs]
  by_cases h : a = x
  ·simp [h]; omega
  ·simp [h]
structure ValW (fit : List (List Int)) (stock : List Int) (work : List Int) : Prop where
 len : work.length = fit.length
 fits : ∀ j : Nat,j < work.length → work[j]?.getD 0 ≠ -1 → work[j]?.getD 0 ∈ fit.getD j []
 cap : ∀ x : Int,0 ≤ x → (work.count x : Int) ≤ stock.getD x.toNat 0
structure SucW (fit : List (List Int)) (stock : List Int) (job : Int) (work : List Int) (a : AM Int) (w' : List Int) : Prop where
 val : ValW fit stock w'
 asg : ∀ j : Nat,j < work.length → (w'[j]?.getD 0 = -1 ↔ work[j]?.getD 0 = -1 ∧ (j : Int) ≠ job)
 old : ∀ (j : Nat) (x : Int),j < work.length → (j : Int) ≠ job → 1 ≤ askN a x → (w'[j]?.getD 0 = x ↔ work[j]?.getD 0 = x)
 new : ∀ x : Int,1 ≤ askN a x → w'[job.toNat]?.getD 0 ≠ x
structure FaiW (fit : List (List Int)) (stock : List Int) (job : Int) (row : List Int) (work : List Int) (a : AM Int) (w' : List Int) (a' : AM Int) : Prop where
 same : w' = work
 row : ∀ x ∈ row,1 ≤ askN a' x
 clo : ∀ x : Int,askN a x = 0 → 1 ≤ askN a' x → stock.getD x.toNat 0 ≤ (work.count x : Int) ∧ ∀ o : Nat,o < work.length → work[o]?.getD 0 = x → ∀ y ∈ fit.getD o [],1 ≤ askN a' y
def MonW (a a' : AM Int) : Prop := ∀ x,askN a x ≤ askN a' x
def MonW.refl (a : AM Int) : MonW a a := fun _ => Zx _
def MonW.trans {a b c : AM Int} (h1 : MonW a b) (h2 : MonW b c) : MonW a c := fun x => Qq (h1 x) (h2 x)
def MonW.ask (a : AM Int) (x : Int) : MonW a (askA a x) := fun y => by
 rw [Qe0]
 split
 ·rename_i h; subst h; omega
 ·exact Zx _
def HasW (job : Int) (work : List Int) (a : AM Int) : Prop := work[job.toNat]?.getD 0 = -1 ∨ 1 ≤ askN a (work[job.toNat]?.getD 0)
structure CallW (n : Nat) (fit : List (List Int)) (stock : List Int) (c : Nat) (rec : Int → List Int → AM Int → Gw) : Prop where
 suc : ∀ (b : Int) (j : Int) (work : List Int) (a : AM Int),0 ≤ j ∧ j < fit.length → unA n a < c → PI n fit.length b work a → ValW fit stock work → HasW j work a → (rec j work a).1 = true → SucW fit stock j work a (rec j work a).2.1
 fai : ∀ (b : Int) (j : Int) (work : List Int) (a : AM Int),0 ≤ j ∧ j < fit.length → unA n a < c → PI n fit.length b work a → (rec j work a).1 = false → FaiW fit stock j (fit.getD j.toNat []) work a (rec j work a).2.1 (rec j work a).2.2
 mon : ∀ (j : Int) (work : List Int) (a : AM Int),MonW a (rec j work a).2.2
def Qji {n : Nat} {fit : List (List Int)} {stock : List Int} {c : Nat} {rec : Int → List Int → AM Int → Gw} (hr : CallW n fit stock c rec) {job x : Int} : ∀ (l : List Int) (work : List Int) (a : AM Int),MonW a (hlW rec job x l work a).2.2
 | [],work,a => MonW.refl a
 | o :: l,work,a => by
  unfold hlW
  split
  ·exact hr.mon o work a
  ·exact (hr.mon o work a).trans (Qji hr l _ _)
def Qlf {n : Nat} {fit : List (List Int)} {stock : List Int} {c : Nat} {rec : Int → List Int → AM Int → Gw} (hr : CallW n fit stock c rec) {job : Int} : ∀ (l : List Int) (work : List Int) (a : AM Int),MonW a (flW stock rec job l work a).2.2
 | [],work,a => MonW.refl a
 | x :: l,work,a => by
  unfold flW
  split
  ·exact (MonW.ask a x).trans (Qlf hr l _ _)
  ·split
   ·exact MonW.ask a x
   ·split
    ·exact (MonW.ask a x).trans (Qji hr _ _ _)
    ·exact ((MonW.ask a x).trans (Qji hr _ _ _)).trans (Qlf hr l _ _)
def Qqz {n : Nat} {fit : List (List Int)} {stock : List Int} {c : Nat} {rec : Int → List Int → AM Int → Gw} (hr : CallW n fit stock c rec) (hk : Qqo n fit.length rec c) {job x : Int} : ∀ (l : List Int) (b : Int) (work : List Int) (a : AM Int),(∀ o ∈ l,0 ≤ o ∧ o < fit.length) → unA n a < c → PI n fit.length b work a → (hlW rec job x l work a).1 = false →
  (hlW rec job x l work a).2.1 = work ∧ (∀ o ∈ l,∀ y ∈ fit.getD o.toNat [],1 ≤ askN (hlW rec job x l work a).2.2 y) ∧
  ∀ y : Int,askN a y = 0 → 1 ≤ askN (hlW rec job x l work a).2.2 y → stock.getD y.toNat 0 ≤ (work.count y : Int) ∧ ∀ o : Nat,o < work.length → work[o]?.getD 0 = y → ∀ z ∈ fit.getD o [],1 ≤ askN (hlW rec job x l work a).2.2 z
 | [],b,work,a,_,_,_,_ => ⟨rfl,by simp,fun y h0 h1 => by simp only [hlW] at h1; omega⟩
 | o :: l,b,work,a,hl,hu,h,hf => by
  have ho := hl o (by simp)
  obtain ⟨k1,k2⟩ := hk b o work a ho hu h
  unfold hlW at hf ⊢
  by_cases e : (rec o work a).1 = true
  ·rw [if_pos e] at hf; cases hf
  ·rw [if_neg e] at hf ⊢
   obtain ⟨f1,f2,f3⟩ := hr.fai b o work a ho hu h (by simpa using e)
   generalize rec o work a = r at *
   obtain ⟨rb,rw',ra⟩ := r
   simp only at f1 f2 f3 k1 k2 hf ⊢
   subst f1
   obtain ⟨i1,i2,i3⟩ := Qqz hr hk l (b + 10) rw' ra (fun y hy => hl y (by simp [hy])) (by omega) k1 hf (job := job) (x := x)
   have hm := Qji hr (job := job) (x := x) l rw' ra
   refine ⟨i1,fun p hp y hy => ?_,fun y h0 h1 => ?_⟩
   ·rcases Q0.1 hp with rfl | hp
    ·exact Qq (f2 y hy) (hm y)
    ·exact i2 p hp y hy
   ·by_cases e1 : askN ra y = 0
    ·exact i3 y e1 h1
    ·have := k1.low y
     obtain ⟨q1,q2⟩ := f3 y h0 (by omega)
     exact ⟨q1,fun p x9 z8 z hz => Qq (q2 p x9 z8 z hz) (hm z)⟩
def Qyp {work : List Int} {x : Int} {o : Nat} (ho : o < work.length) (h : work[o]?.getD 0 = x) : (o : Int) ∈ Qb3 work x := by
 refine Qok.2 ⟨o,rfl,ho,?_⟩
 rw [Qb]; exact h
def Qqv {n : Nat} {fit : List (List Int)} {stock : List Int} {c : Nat} {rec : Int → List Int → AM Int → Gw} (hr : CallW n fit stock c rec) (hk : Qqo n fit.length rec c) (qR : fit.length ≤ 10) {job : Int} : ∀ (l : List Int) (b : Int) (work : List Int) (a : AM Int),(∀ x ∈ l,0 ≤ x ∧ x < n) → unA n a < c + 1 → PI n fit.length b work a → (flW stock rec job l work a).1 = false →
  FaiW fit stock job l work a (flW stock rec job l work a).2.1 (flW stock rec job l work a).2.2
 | [],b,work,a,_,_,_,_ => ⟨rfl,by simp,fun y h0 h1 => by simp only [flW] at h1; omega⟩
 | x :: l,b,work,a,hl,hu,h,hf => by
  have hx := hl x (by simp)
  have hl' : ∀ y ∈ l,0 ≤ y ∧ y < n := fun y hy => hl y (by simp [hy])
  have mH := Qgi n a x (h.low x)
  unfold flW at hf ⊢
  by_cases e1 : 1 < askN a x + 1
  ·rw [if_pos e1] at hf ⊢
   obtain ⟨f1,f2,f3⟩ := Qqv hr hk qR l (b + 1) work (askA a x) hl' (by omega) (h.ask x) hf
   have hm := Qlf hr (job := job) l work (askA a x)
   refine ⟨f1,fun y hy => ?_,fun y h0 h1 => f3 y ?_ h1⟩
   ·rcases Q0.1 hy with rfl | hy
    ·have := hm y
     rw [Qe0,if_pos rfl] at this
     have := h.low y
     omega
    ·exact f2 y hy
   ·rw [Qe0,if_neg]
    ·exact h0
    ·rintro rfl; omega
  ·rw [if_neg e1] at hf ⊢
   have zF : askN a x = 0 := by have := h.low x; omega
   have hlt := Qgj hx zF
   have hn := h.askNew hx zF
   by_cases e2 : ((Qb3 work x).length : Int) < stock.getD x.toNat 0
   ·rw [if_pos e2] at hf; cases hf
   ·rw [if_neg e2] at hf ⊢
    have hin : ∀ o ∈ Qb3 work x,0 ≤ o ∧ o < fit.length := fun o ho => Qoc h ho
    by_cases e3 : (hlW rec job x (Qb3 work x) work (askA a x)).1 = true
    ·rw [if_pos e3] at hf; rw [e3] at hf; cases hf
    ·rw [if_neg e3] at hf ⊢
     obtain ⟨i1,i2,i3⟩ := Qqz hr hk (Qb3 work x) (b - 99) work (askA a x) hin (by omega) hn (by simpa using e3)
     obtain ⟨k1,k2⟩ := Qi7 hk hx (Qb3 work x) (b - 99) work (askA a x) hin (by omega) hn (job := job)
     have nM : (Qb3 work x).length ≤ 10 := by
      have := Qes work x work.length
      have := h.len
      unfold Qb3; omega
     have hmx := Qji hr (job := job) (x := x) (Qb3 work x) work (askA a x) x
     rw [Qe0,if_pos rfl,zF,Xl] at hmx
     generalize hlW rec job x (Qb3 work x) work (askA a x) = r at *
     obtain ⟨rb,rw',ra⟩ := r
     simp only at i1 i2 i3 k1 k2 hf hmx ⊢
     subst i1
     obtain ⟨f1,f2,f3⟩ := Qqv hr hk qR l (b + 1) rw' ra hl' (by omega) (k1.mono (by omega)) hf (job := job)
     have hm := Qlf hr (job := job) l rw' ra
     refine ⟨f1,fun y hy => ?_,fun y h0 h1 => ?_⟩
     ·rcases Q0.1 hy with rfl | hy
      ·exact Qq hmx (hm y)
      ·exact f2 y hy
     ·by_cases ey : y = x
      ·subst ey
       rw [Qjj] at e2
       refine ⟨by omega,fun o pU yH z hz => ?_⟩
       have := i2 o (Qyp pU yH) z (by rw [Qd]; exact hz)
       exact Qq this (hm z)
      ·by_cases e4 : askN ra y = 0
       ·exact f3 y e4 h1
       ·have := k1.low y
        obtain ⟨q1,q2⟩ := i3 y (by rw [Qe0,if_neg ey]; exact h0) (by omega)
        exact ⟨q1,fun p x9 z8 z hz => Qq (q2 p x9 z8 z hz) (hm z)⟩
def Qdm {l : List Int} {i k : Nat} {x : Int} (hi : i < l.length) : (l.set i x)[k]?.getD 0 = if k = i then x else l[k]?.getD 0 := by
 by_cases h : k = i
 ·subst h
  rw [if_pos rfl,Z5 hi]; rfl
 ·rw [if_neg h,List.getElem?_set_ne (by omega)]
def Qui {n : Nat} {fit : List (List Int)} {stock : List Int} {b : Int} {work : List Int} {a : AM Int} {job x : Int} (hj : 0 ≤ job ∧ job < fit.length) (h : PI n fit.length b work a) (hv : ValW fit stock work) (hx : 0 ≤ x ∧ x < n) (h0 : askN a x = 0) (uE : x ∈ fit.getD job.toNat [])
  (hc : (work.count x : Int) < stock.getD x.toNat 0) : SucW fit stock job work a (work.set job.toNat x) := by
 have hl := h.len
 have vY : job.toNat < work.length := by omega
 refine ⟨⟨by rw [Qm]; exact hv.len,fun j uY j7 => ?_,fun y hy => ?_⟩,fun j uY => ?_,fun j y uY j7 ha => ?_,fun y ha => ?_⟩
 ·rw [Qm] at uY
  rw [Qdm vY] at j7 ⊢
  by_cases e : j = job.toNat
  ·rw [if_pos e]; rw [e]; exact uE
  ·rw [if_neg e] at j7 ⊢; exact hv.fits j uY j7
 ·have hcs := Qj5 vY x y
  have := hv.cap y hy
  by_cases e : y = x
  ·subst e
   rw [if_pos rfl] at hcs
   split at hcs <;> omega
  ·rw [if_neg e] at hcs
   split at hcs <;> omega
 ·rw [Qdm vY]
  by_cases e : j = job.toNat
  ·rw [if_pos e]
   exact ⟨fun e2 => by omega,fun ⟨_,e2⟩ => absurd (by omega) e2⟩
  ·rw [if_neg e]
   exact ⟨fun e2 => ⟨e2,by omega⟩,fun e2 => e2.1⟩
 ·rw [Qdm vY,if_neg (by omega)]
 ·rw [Qdm vY,if_pos rfl]
  rintro rfl; omega
def Zfl {n : Nat} {fit : List (List Int)} {stock : List Int} {b : Int} {work w1 : List Int} {a a1 : AM Int} {job x o : Int} (hj : 0 ≤ job ∧ job < fit.length) (ho : 0 ≤ o ∧ o < fit.length) (h : PI n fit.length b work a) (hv : ValW fit stock work) (hh : HasW job work a) (hx : 0 ≤ x ∧ x < n) (h0 : askN a x = 0)
  (uE : x ∈ fit.getD job.toNat []) (wU : work[o.toNat]?.getD 0 = x) (hm : MonW (askA a x) a1) (hs : SucW fit stock o work a1 w1) : SucW fit stock job work a (w1.set job.toNat x) := by
 have hl := h.len
 have pV := hs.val.len
 have vY : job.toNat < w1.length := by omega
 have qB : 1 ≤ askN a1 x := by
  have := hm x
  rw [Qe0,if_pos rfl] at this; omega
 have nV : ∀ y,1 ≤ askN a y → 1 ≤ askN a1 y := fun y hy => Qq (Qq hy ((MonW.ask a x) y)) (hm y)
 have p9 : job ≠ o := by
  rintro rfl
  rcases hh with e | e
  ·rw [wU] at e; omega
  ·rw [wU] at e; omega
 have pW : w1[job.toNat]?.getD 0 ≠ x := by
  intro e
  have := (hs.old job.toNat x (by omega) (by omega) qB).1 e
  rcases hh with e2 | e2
  ·omega
  ·rw [this] at e2; omega
 have v8 : w1.count x + 1 = work.count x := by
  have e1 : (w1.set o.toNat x).count x = work.count x := by
   refine Qp9 (by rw [Qm]; omega) fun j uY => ?_
   rw [Qm] at uY
   rw [Qdm (by omega)]
   by_cases e : j = o.toNat
   ·rw [if_pos e,e,wU]
   ·rw [if_neg e]
    exact hs.old j x (by omega) (by omega) qB
  have e2 := Qj5 (g := w1) (i := o.toNat) (by omega) x x
  rw [if_pos rfl,if_neg (fun e => hs.new x qB e.symm)] at e2
  omega
 refine ⟨⟨by rw [Qm]; exact pV,fun j uY j7 => ?_,fun y hy => ?_⟩,fun j uY => ?_,fun j y uY j7 ha => ?_,fun y ha => ?_⟩
 ·rw [Qm] at uY
  rw [Qdm vY] at j7 ⊢
  by_cases e : j = job.toNat
  ·rw [if_pos e]; rw [e]; exact uE
  ·rw [if_neg e] at j7 ⊢; exact hs.val.fits j uY j7
 ·have hcs := Qj5 vY x y
  have c1 := hs.val.cap y hy
  by_cases e : y = x
  ·subst e
   have c2 := hv.cap y hy
   rw [if_pos rfl,if_neg (fun e => pW e.symm)] at hcs
   omega
  ·rw [if_neg e] at hcs
   split at hcs <;> omega
 ·have ha := hs.asg j uY
  rw [Qdm vY]
  by_cases e : j = job.toNat
  ·rw [if_pos e]
   exact ⟨fun e2 => by omega,fun ⟨_,e2⟩ => absurd (by omega) e2⟩
  ·rw [if_neg e,ha]
   constructor
   ·rintro ⟨e1,_⟩; exact ⟨e1,by omega⟩
   ·rintro ⟨e1,_⟩
    refine ⟨e1,fun e3 => ?_⟩
    rw [← e3,Qd] at wU
    omega
 ·rw [Qdm vY,if_neg (by omega)]
  by_cases e : (j : Int) = o
  ·have h2 : w1[j]?.getD 0 ≠ y := by
    have := hs.new y (nV y ha)
    rw [← e,Qd] at this; exact this
   have h3 : work[j]?.getD 0 ≠ y := by
    rw [← e,Qd] at wU
    rw [wU]; rintro rfl; omega
   exact ⟨fun e => absurd e h2,fun e => absurd e h3⟩
  ·exact hs.old j y uY e (nV y ha)
 ·rw [Qdm vY,if_pos rfl]
  rintro rfl; omega
def Qvs {n : Nat} {fit : List (List Int)} {stock : List Int} {c : Nat} {rec : Int → List Int → AM Int → Gw} (hr : CallW n fit stock c rec) (hk : Qqo n fit.length rec c) {job x : Int} {a0 : AM Int} {b0 : Int} {work : List Int} (hj : 0 ≤ job ∧ job < fit.length) (hx : 0 ≤ x ∧ x < n) (h0 : askN a0 x = 0)
  (gW : PI n fit.length b0 work a0) (hv : ValW fit stock work) (hh : HasW job work a0) (uE : x ∈ fit.getD job.toNat []) : ∀ (l : List Int) (b : Int) (a : AM Int),(∀ o ∈ l,(0 ≤ o ∧ o < fit.length) ∧ work[o.toNat]?.getD 0 = x) → unA n a < c → PI n fit.length b work a → MonW (askA a0 x) a → (hlW rec job x l work a).1 = true →
  SucW fit stock job work a0 (hlW rec job x l work a).2.1
 | [],b,a,_,_,_,_,hf => by cases hf
 | o :: l,b,a,hl,hu,h,hm,hf => by
  obtain ⟨ho,wU⟩ := hl o (by simp)
  have qB : 1 ≤ askN a x := by
   have := hm x
   rw [Qe0,if_pos rfl] at this; omega
  unfold hlW at hf ⊢
  by_cases e : (rec o work a).1 = true
  ·rw [if_pos e]
   have hs := hr.suc b o work a ho hu h hv (.inr (by rw [wU]; exact qB)) e
   exact Zfl hj ho gW hv hh hx h0 uE wU hm hs
  ·rw [if_neg e] at hf ⊢
   obtain ⟨k1,k2⟩ := hk b o work a ho hu h
   have f1 := (hr.fai b o work a ho hu h (by simpa using e)).same
   have dE := hr.mon o work a
   generalize rec o work a = r at *
   obtain ⟨rb,rw',ra⟩ := r
   simp only at f1 k1 k2 hf dE ⊢
   subst f1
   exact Qvs hr hk hj hx h0 gW hv hh uE l (b + 10) ra (fun y hy => hl y (by simp [hy])) (by omega) k1 (hm.trans dE) hf
def SucW.ask {fit : List (List Int)} {stock : List Int} {job : Int} {work : List Int} {a a' : AM Int} {w' : List Int} (h : SucW fit stock job work a' w') (hm : MonW a a') : SucW fit stock job work a w' :=
 ⟨h.val,h.asg,fun j x h1 h2 h3 => h.old j x h1 h2 (Qq h3 (hm x)),fun x hx => h.new x (Qq hx (hm x))⟩
def Qqw {n : Nat} {fit : List (List Int)} {stock : List Int} {c : Nat} {rec : Int → List Int → AM Int → Gw} (hr : CallW n fit stock c rec) (hk : Qqo n fit.length rec c) (qR : fit.length ≤ 10) {job : Int} (hj : 0 ≤ job ∧ job < fit.length) : ∀ (l : List Int) (b : Int) (work : List Int) (a : AM Int),(∀ x ∈ l,(0 ≤ x ∧ x < n) ∧ x ∈ fit.getD job.toNat []) → unA n a < c + 1 → PI n fit.length b work a → ValW fit stock work → HasW job work a →
  (flW stock rec job l work a).1 = true → SucW fit stock job work a (flW stock rec job l work a).2.1
 | [],b,work,a,_,_,_,_,_,hf => by cases hf
 | x :: l,b,work,a,hl,hu,h,hv,hh,hf => by
  obtain ⟨hx,uE⟩ := hl x (by simp)
  have hl' : ∀ y ∈ l,(0 ≤ y ∧ y < n) ∧ y ∈ fit.getD job.toNat [] := fun y hy => hl y (by simp [hy])
  have mH := Qgi n a x (h.low x)
  have cH : MonW a (askA a x) := MonW.ask a x
  have nW : ∀ a',MonW a a' → HasW job work a' := fun a' hm => by
   rcases hh with e | e
   ·exact .inl e
   ·exact .inr (Qq e (hm _))
  unfold flW at hf ⊢
  by_cases e1 : 1 < askN a x + 1
  ·rw [if_pos e1] at hf ⊢
   exact (Qqw hr hk qR hj l (b + 1) work (askA a x) hl' (by omega) (h.ask x) hv (nW _ cH) hf).ask cH
  ·rw [if_neg e1] at hf ⊢
   have zF : askN a x = 0 := by have := h.low x; omega
   have hlt := Qgj hx zF
   have hn := h.askNew hx zF
   by_cases e2 : ((Qb3 work x).length : Int) < stock.getD x.toNat 0
   ·rw [if_pos e2]
    rw [Qjj] at e2
    exact Qui hj h hv hx zF uE e2
   ·rw [if_neg e2] at hf ⊢
    have hin : ∀ o ∈ Qb3 work x,0 ≤ o ∧ o < fit.length := fun o ho => Qoc h ho
    have mS : ∀ o ∈ Qb3 work x,(0 ≤ o ∧ o < fit.length) ∧ work[o.toNat]?.getD 0 = x := fun o ho => ⟨hin o ho,by
     obtain ⟨i,rfl,_,hi⟩ := Qok.1 ho
     rw [Qb] at hi
     rw [Qd]; exact hi⟩
    by_cases e3 : (hlW rec job x (Qb3 work x) work (askA a x)).1 = true
    ·rw [if_pos e3]
     exact Qvs hr hk hj hx zF h hv hh uE (Qb3 work x) (b - 99) (askA a x) mS (by omega) hn (fun _ => Zx _) e3
    ·rw [if_neg e3] at hf ⊢
     obtain ⟨i1,_,_⟩ := Qqz hr hk (Qb3 work x) (b - 99) work (askA a x) hin (by omega) hn (by simpa using e3)
     obtain ⟨k1,k2⟩ := Qi7 hk hx (Qb3 work x) (b - 99) work (askA a x) hin (by omega) hn (job := job)
     have nM : (Qb3 work x).length ≤ 10 := by
      have := Qes work x work.length
      have := h.len
      unfold Qb3; omega
     have dE := cH.trans (Qji hr (job := job) (x := x) (Qb3 work x) work (askA a x))
     generalize hlW rec job x (Qb3 work x) work (askA a x) = r at *
     obtain ⟨rb,rw',ra⟩ := r
     simp only at i1 k1 k2 hf dE ⊢
     subst i1
     exact (Qqw hr hk qR hj l (b + 1) rw' ra hl' (by omega) (k1.mono (by omega)) hv (nW _ dE) hf).ask dE
def Qko {n : Nat} {fit : List (List Int)} {stock : List Int} (hf : OkFit n fit stock) : ∀ c,CallW n fit stock c (gvW fit stock c)
 | 0 => ⟨fun b j work a _ hu => absurd hu (Q4 _),fun b j work a _ hu => absurd hu (Q4 _),fun j work a => MonW.refl a⟩
 | c + 1 => by
  have ih := Qko hf c
  have hk := Qg3 hf c
  refine ⟨fun b j work a hj hu h hv hh he => ?_,fun b j work a hj hu h he => ?_,fun j work a => Qlf ih _ _ _⟩
  ·exact Qqw ih hk hf.ml hj _ b work a (fun x hx => ⟨(Qo7 hf j.toNat).2 x hx,hx⟩) hu h hv hh he
  ·exact Qqv ih hk hf.ml _ b work a (Qo7 hf j.toNat).2 hu h he
end Go.CS
namespace Go.CS
open Go.Fam
def PMw (fit : List (List Int)) (stock : List Int) : Prop := ∃ bl : List Int,bl.length = fit.length ∧ (∀ j : Nat,j < fit.length → bl[j]?.getD 0 ∈ fit.getD j []) ∧ ∀ x : Int,0 ≤ x → (bl.count x : Int) ≤ stock.getD x.toNat 0
def Qk2 {p q : Int → Bool} : ∀ {u v : List Int},u.length = v.length → (∀ j : Nat,j < u.length → p (u[j]?.getD 0) = true → q (v[j]?.getD 0) = true) → u.countP p ≤ v.countP q
 | [],[],_,_ => Qo _
 | [],_ :: _,h,_ => by simp at h
 | _ :: _,[],h,_ => by simp at h
 | a :: u,b :: v,h,hp => by
  have ih := Qk2 (p := p) (q := q) (u := u) (v := v) (by simpa using h) fun j hj => by
   have := hp (j + 1) (by simpa using hj)
   simpa using this
  have h0 := hp 0 (by simp)
  simp only [Zk,Qe] at h0
  rw [Ze,Ze]
  by_cases e : p a = true
  ·rw [if_pos e,if_pos (h0 e)]; omega
  ·rw [if_neg e]; omega
def Qgl (l : List Int) : ∀ X : List Int,X.Nodup → l.countP (fun y => decide (y ∈ X)) = (X.map fun x => l.count x).sum
 | [],_ => by simp
 | x :: X,h => by
  rw [Xw] at h
  rw [Qj,Z0,← Qgl l X h.2]
  induction l with
  | nil => rfl
  | cons y l ih =>
   rw [Ze,Ze,Zs,ih]
   by_cases e : y = x
   ·subst e
    simp [h.1]; omega
   ·by_cases e2 : y ∈ X
    ·simp [e,e2]; omega
    ·simp [e,e2]
def Qxj {α : Type} {f g : α → Int} : ∀ {X : List α},(∀ x ∈ X,f x ≤ g x) → (X.map f).sum ≤ (X.map g).sum
 | [],_ => Zx _
 | x :: X,h => by
  have := Qxj (f := f) (g := g) (X := X) fun y hy => h y (by simp [hy])
  have := h x (by simp)
  simp only [Qj,Z0]; omega
def Qiu {α : Type} {f : α → Nat} : ∀ {X : List α},(((X.map f).sum : Nat) : Int) = (X.map fun x => (f x : Int)).sum
 | [] => rfl
 | x :: X => by
  have := Qiu (f := f) (X := X)
  simp only [Qj,Z0,Qx,this]
def Zf3 {n : Nat} {fit : List (List Int)} {stock : List Int} (hf : OkFit n fit stock) (dB : PMw fit stock) {job : Nat} (hj : job < fit.length) {work : List Int} {b : Int} (h : PI n fit.length b work []) (hv : ValW fit stock work) (hw : work[job]?.getD 0 = -1) {c : Nat} (hc : n < c) : (gvW fit stock c job work []).1 = true := by
 have hu : unA n [] < c := by have := Qqj n []; omega
 cases e : (gvW fit stock c job work []).1 with
 | true => rfl
 | false =>
  exfalso
  obtain ⟨_,f2,f3⟩ := (Qko hf c).fai b job work [] (by omega) hu h e
  have k1 := (Qg3 hf c b job work [] (by omega) hu h).1
  generalize (gvW fit stock c job work []).2.2 = a' at f2 f3 k1
  obtain ⟨bl,nX,vW,mT⟩ := dB
  have zF : ∀ x : Int,askN [] x = 0 := fun x => by simp [askN,aget]
  let X : List Int := ((Qh n).map fun (i : Nat) => (i : Int)).filter fun x => decide (1 ≤ askN a' x)
  have hXn : X.Nodup := Z8.sublist Q1 (Qho (fun a _ b _ e => by omega) Zf)
  have hX : ∀ x,x ∈ X ↔ (0 ≤ x ∧ x < n) ∧ 1 ≤ askN a' x := fun x => by
   simp only [X,Qn,Qs,Qk,decide_eq_true_eq]
   constructor
   ·rintro ⟨⟨i,hi,rfl⟩,h2⟩; exact ⟨by omega,h2⟩
   ·rintro ⟨h1,h2⟩; exact ⟨⟨x.toNat,by omega,by omega⟩,h2⟩
  have xS : ∀ (o : Nat) (x : Int),x ∈ fit.getD o [] → 0 ≤ x ∧ x < n := fun o x hx => (Qo7 hf o).2 x hx
  rw [Qd] at f2
  have xF : bl[job]?.getD 0 ∈ X := (hX _).2 ⟨xS _ _ (vW job hj),f2 _ (vW job hj)⟩
  have qO := h.len
  have j7 : ∀ x ∈ X,x ≠ -1 := fun x hx e => by have := ((hX x).1 hx).1; omega
  have c1 : (work.set job (bl[job]?.getD 0)).countP (fun y => decide (y ∈ X)) ≤ bl.countP (fun y => decide (y ∈ X)) := by
   refine Qk2 (by rw [Qm]; omega) fun j vY hp => ?_
   rw [Qm] at vY
   rw [Qdm (by omega),decide_eq_true_eq] at hp
   rw [decide_eq_true_eq]
   by_cases e : j = job
   ·rw [e]; exact xF
   ·rw [if_neg e] at hp
    obtain ⟨x9,z8⟩ := (hX _).1 hp
    have := (f3 _ (zF _) z8).2 j (by omega) rfl _ (vW j (by omega))
    exact (hX _).2 ⟨xS _ _ (vW j (by omega)),this⟩
  rw [Qgl _ X hXn,Qgl _ X hXn] at c1
  have c2 : ((X.map fun x => (work.set job (bl[job]?.getD 0)).count x).sum : Int) = (X.map fun x => work.count x).sum + 1 := by
   have e1 : ∀ Y : List Int,Y.Nodup → (∀ x ∈ Y,x ≠ -1) → ((Y.map fun x => (work.set job (bl[job]?.getD 0)).count x).sum : Int) = (Y.map fun x => work.count x).sum + if bl[job]?.getD 0 ∈ Y then 1 else 0 := by
    intro Y
    induction Y with
    | nil => intro _ _; rfl
    | cons y Y ih =>
     intro hn j7
     rw [Xw] at hn
     have ih := ih hn.2 fun x hx => j7 x (by simp [hx])
     have hcs := Qj5 (g := work) (i := job) (by omega) (bl[job]?.getD 0) y
     rw [hw,if_neg (j7 y (by simp))] at hcs
     simp only [Qj,Z0,Qx,ih]
     by_cases e : y = bl[job]?.getD 0
     ·rw [if_pos e] at hcs
      rw [if_neg (by rw [← e]; exact hn.1),if_pos (by rw [e]; simp)]
      omega
     ·rw [if_neg e] at hcs
      by_cases e2 : bl[job]?.getD 0 ∈ Y
      ·rw [if_pos e2,if_pos (by simp [e2])]; omega
      ·rw [if_neg e2,if_neg (by simp [e2,Ne.symm e])]; omega
   rw [e1 X hXn j7,if_pos xF]
  have c3 : (((X.map fun x => bl.count x).sum : Nat) : Int) ≤ ((X.map fun x => work.count x).sum : Nat) := by
   rw [Qiu,Qiu]
   refine Qxj fun x hx => ?_
   obtain ⟨y5,cR⟩ := (hX x).1 hx
   have := mT x y5.1
   have := (f3 x (zF x) cR).1
   omega
  omega
def val0 {fit : List (List Int)} {stock : List Int} (jN : ∀ n ∈ stock,0 ≤ n) : ValW fit stock (List.replicate fit.length (-1)) := by
 refine ⟨by simp,fun j hj j7 => ?_,fun x hx => ?_⟩
 ·rw [List.length_replicate] at hj
  rw [Z4,if_pos hj] at j7
  exact absurd rfl j7
 ·rw [Xc,if_neg (by simp; omega)]
  rw [Qb]
  cases e : stock[x.toNat]? with
  | none => simp
  | some q => exact jN q (Qz e)
def Zch {n : Nat} {fit : List (List Int)} {stock : List Int} (hf : OkFit n fit stock) (jN : ∀ n ∈ stock,0 ≤ n) : ∀ i,i ≤ fit.length → ValW fit stock (wkW fit stock i) ∧ (∀ j : Nat,j < fit.length → i ≤ j → (wkW fit stock i)[j]?.getD 0 = -1) ∧
  (PMw fit stock → ∀ j : Nat,j < i → (wkW fit stock i)[j]?.getD 0 ≠ -1)
 | 0,_ => ⟨val0 jN,fun j hj _ => by simp only [wkW,Z4,hj,↓reduceIte,Qe],fun _ j hj => absurd hj (Q4 _)⟩
 | i + 1,hi => by
  obtain ⟨hv,h1,h2⟩ := Zch hf jN i (by omega)
  obtain ⟨p1,p2⟩ := Qxo hf i (by omega)
  have zB := pi0 hf.nl p1 p2
  have hn := hf.nl
  have hu : unA n [] < 20 := by have := Qqj n []; omega
  have nY := h1 i (by omega) (Qo _)
  have hs : PMw fit stock → (gvW fit stock 20 i (wkW fit stock i) []).1 = true := fun hp => Zf3 hf hp (job := i) (by omega) zB hv nY (by omega)
  show ValW fit stock (gvW fit stock 20 i (wkW fit stock i) []).2.1 ∧ (∀ j : Nat,j < fit.length → i + 1 ≤ j → (gvW fit stock 20 i (wkW fit stock i) []).2.1[j]?.getD 0 = -1) ∧ (PMw fit stock → ∀ j : Nat,j < i + 1 → (gvW fit stock 20 i (wkW fit stock i) []).2.1[j]?.getD 0 ≠ -1)
  cases e : (gvW fit stock 20 i (wkW fit stock i) []).1 with
  | true =>
   obtain ⟨s1,s2,_,_⟩ := (Qko hf 20).suc 1000 i (wkW fit stock i) [] (by omega) hu zB hv (.inl (by rw [Qd]; exact nY)) e
   refine ⟨s1,fun j hj yL => (s2 j (by omega)).2 ⟨h1 j hj (by omega),by omega⟩,fun hp j hj e2 => ?_⟩
   obtain ⟨e3,e4⟩ := (s2 j (by omega)).1 e2
   exact h2 hp j (by omega) e3
  | false =>
   have := ((Qko hf 20).fai 1000 i (wkW fit stock i) [] (by omega) hu zB e).same
   rw [this]
   refine ⟨hv,fun j hj yL => h1 j hj (by omega),fun hp => ?_⟩
   rw [hs hp] at e; cases e
def Zm1 {n : Nat} {fit : List (List Int)} {stock : List Int} (hf : OkFit n fit stock) (jN : ∀ n ∈ stock,0 ≤ n) : (Qb3 (wkW fit stock fit.length) (-1)).length = 0 ↔ PMw fit stock := by
 obtain ⟨hv,_,h2⟩ := Zch hf jN fit.length (Qo _)
 rw [Qjj]
 constructor
 ·intro h
  refine ⟨wkW fit stock fit.length,hv.len,fun j hj => hv.fits j (by rw [hv.len]; exact hj) fun e => ?_,hv.cap⟩
  have := Xi.1 h
  apply this
  rw [Qa (by rw [hv.len]; exact hj),Qe] at e
  rw [← e]; exact Qw _
 ·intro hp
  refine Xi.2 fun hm => ?_
  obtain ⟨j,hj⟩ := List.mem_iff_getElem?.1 hm
  have vY := Qag hj
  exact h2 hp j (by rw [← hv.len]; exact vY) (by rw [hj]; rfl)
end Go.CS
namespace Go.CS
open Go.Fam
open Go.C06 (Qa3)
def Ziw {w : Work} {n : Nat} {i m k : Int} : [i,m,k] ∈ kTI w n ↔ (0 ≤ i ∧ i < n) ∧ (0 ≤ m ∧ m < w.makes.length) ∧ (0 ≤ k ∧ k < (Qav w m).length) ∧ fitN w i m k = 1 := by
 unfold kTI kM kK
 simp only [Xr,Qk,Qs,Qn,decide_eq_true_eq]
 constructor
 ·rintro ⟨a,ha,b,hb,c,⟨hc,hf⟩,e⟩
  simp only [Xe.injEq,and_true] at e
  obtain ⟨rfl,rfl,rfl⟩ := e
  exact ⟨by omega,by omega,by omega,hf⟩
 ·rintro ⟨h1,h2,h3,h4⟩
  refine ⟨i.toNat,by omega,m.toNat,by omega,k.toNat,⟨?_,?_⟩,?_⟩
  ·rw [show ((m.toNat : Nat) : Int) = m by omega]; omega
  ·rw [show ((i.toNat : Nat) : Int) = i by omega,show ((m.toNat : Nat) : Int) = m by omega,show ((k.toNat : Nat) : Int) = k by omega]; exact h4
  ·rw [show ((i.toNat : Nat) : Int) = i by omega,show ((m.toNat : Nat) : Int) = m by omega,show ((k.toNat : Nat) : Int) = k by omega]
def Qyo (s : Shop) (p : Int × Int) (j : Job) : Qln s p j = true ↔ p.2 ≤ j.day ∧ [p.1,j.maker,j.slot] ∈ kTI s.work s.work.spares.length := by
 unfold Qln Qca
 rw [Qv,decide_eq_true_eq,decide_eq_true_eq]
 obtain ⟨h1,h2⟩ := Qny (kTI s.work s.work.spares.length) [p.1,j.maker,j.slot]
 refine and_congr Iff.rfl ⟨fun h => ?_,fun h => ?_⟩
 ·by_cases e : [p.1,j.maker,j.slot] ∈ kTI s.work s.work.spares.length
  ·exact e
  ·rw [h2 e] at h; simp at h
 ·obtain ⟨n,hn,_,e⟩ := h1 h
  rw [e]; simp only [Qe]; omega
def Qdb (s : Shop) : List Int := (Qbc s).map Prod.fst
def Qnt (l : List Int) : ∀ (k : Nat) (x : Int),((Qbu l k).map Prod.fst).count x = if 0 ≤ x ∧ x < k then (l.getD x.toNat 0).toNat else 0
 | 0,x => by
  rw [if_neg (by omega)]; simp [Qbu]
 | k + 1,x => by
  rw [Qhu,Qy,List.count_append,Qnt l k x,List.map_replicate,Xc]
  by_cases e : x = k
  ·subst e
   rw [if_neg (by omega),if_pos (by simp),if_pos (by omega),Qd]; omega
  ·have e2 : (((k : Int),(0 : Int)).1 == x) = false := by simpa using fun h => e h.symm
   rw [e2]
   simp only [Bool.false_eq_true,if_false,Nat.add_zero]
   by_cases e3 : 0 ≤ x ∧ x < k
   ·rw [if_pos e3,if_pos (by omega)]
   ·rw [if_neg e3,if_neg (by omega)]
def Quh (l : List Int) (k : Nat) : ∀ p ∈ Qbu l k,p.2 = 0 ∧ 0 ≤ p.1 ∧ p.1 < k := by
 intro p hp
 unfold Qbu at hp
 obtain ⟨i,hi,hp⟩ := Xr.1 hp
 have := List.eq_of_mem_replicate hp
 subst this
 have := Qk.1 hi
 exact ⟨rfl,by simp only; omega⟩
def Qqd {s : Shop} (h : s.dels = []) : Qbc s = Qbu s.stock s.stock.length := by
 unfold Qbc; rw [h]; simp [delL]
def Qrm {s : Shop} (hd : s.dels = []) (jN : ∀ n ∈ s.stock,0 ≤ n) (x : Int) (hx : 0 ≤ x) : ((Qdb s).count x : Int) = s.stock.getD x.toNat 0 := by
 unfold Qdb
 rw [Qqd hd,Qnt]
 by_cases e : x < s.stock.length
 ·rw [if_pos ⟨hx,e⟩,Qb]
  have hl : x.toNat < s.stock.length := by omega
  rw [Qa hl,Qe]
  have := jN _ (Qw hl)
  omega
 ·rw [if_neg (by omega),Qb,List.getElem?_eq_none (by omega)]; rfl
def Qjc (l : List Int) (p : Int → Bool) : ((Qh l.length).filter fun (i : Nat) => p (l[i]?.getD 0)).length = l.countP p := by
 induction l with
 | nil => rfl
 | cons a l ih =>
  rw [Qt,Z7,Xq,Ze]
  simp only [Zk,Qe,Xv,Function.comp_def,List.getElem?_cons_succ,Nat.succ_eq_add_one]
  by_cases h : p a = true
  ·rw [if_pos h,if_pos h,Qt,Qc,ih]
  ·rw [if_neg h,if_neg h,Qc,ih]; rfl
structure OkJs (s : Shop) (l : List Job) : Prop where
 w : OkW s.work
 st : s.stock.length = s.work.spares.length
 pos : ∀ n ∈ s.stock,0 ≤ n
 dels : s.dels = []
 day : ∀ j ∈ l,0 ≤ j.day
 slot : ∀ j ∈ l,Qay s.work j.maker j.slot = true
def Zfi {w : Work} {m k : Int} (h : Qay w m k = true) : (0 ≤ m ∧ m < w.makes.length) ∧ 0 ≤ k ∧ k < (Qav w m).length := by
 unfold Qay at h
 simp only [Qv,Qak] at h
 omega
def Zag {w : Work} {l : List Job} {j : Nat} (hj : j < l.length) : (fitW w (l.map jobP)).getD j [] = fitK w (jobP (joAt l j)) w.spares.length := by
 unfold fitW joAt
 rw [Qb,Qi,Qi,Qa hj,Qd,Qb,Qa hj]; rfl
def Zfn (s : Shop) (u : Nat) : (Qdb s)[u]?.getD 0 = (spAt s u).1 := by
 unfold Qdb spAt
 rw [Qi,Qb]
 cases (Qbc s)[u]? <;> rfl
def Qvo {s : Shop} {l : List Job} (h : OkJs s l) {u j : Nat} (hu : u < nS s) (hj : j < l.length) : gdS s l u j = true ↔ (Qdb s)[u]?.getD 0 ∈ (fitW s.work (l.map jobP)).getD j [] := by
 have aH : joAt l j ∈ l := by
  unfold joAt
  rw [Qd,Qb,Qa hj]; exact Qw hj
 have hp : spAt s u ∈ Qbc s := by
  unfold spAt
  rw [Qb,Qa (show u < (Qbc s).length from hu)]; exact Qw _
 rw [Qqd h.dels] at hp
 obtain ⟨h1,h2⟩ := Quh _ _ _ hp
 have h3 := Zfi (h.slot _ aH)
 have h4 := h.day _ aH
 rw [Zfn,Zag hj,Qoj]
 show Qln s (spAt s u) (joAt l j) = true ↔ _
 rw [Qyo,Ziw]
 constructor
 ·rintro ⟨_,_,_,_,h5⟩
  exact ⟨(spAt s u).1.toNat,by omega,by have := h.st; omega,by rw [show (((spAt s u).1.toNat : Nat) : Int) = (spAt s u).1 by omega]; exact h5⟩
 ·rintro ⟨i,hi,hin,h5⟩
  have := h.st
  refine ⟨by omega,by omega,h3.1,h3.2,?_⟩
  rw [hi]; exact h5
def Quk (s : Shop) : (Qdb s).length = nS s := by unfold Qdb nS; rw [Qc]
def Zec {s : Shop} {l : List Job} (h : OkJs s l) : Qoe s l = 0 ↔ PMw (fitW s.work (l.map jobP)) s.stock := by
 have xM : (fitW s.work (l.map jobP)).length = l.length := by unfold fitW; rw [Qc,Qc]
 have cE := Qrm h.dels h.pos
 have hUl := Quk s
 unfold Qoe
 constructor
 ·intro h0
  obtain ⟨S,F,a⟩ := Qr1 (gdS s l) (nS s) l.length
  have hF : F = [] := List.length_eq_zero_iff.1 (by have := a.len; omega)
  subst hF
  generalize (Qci (gdS s l) (nS s) l.length).2 = g at a
  have hg : ∀ j : Nat,j < l.length → g[g.idxOf (j : Int)]? = some (j : Int) ∧ g.idxOf (j : Int) < nS s := fun j hj => by
   have hc := a.one j (by omega) (by omega) (by simp)
   have hm : (j : Int) ∈ g := Xj.1 (by omega)
   have hl := List.idxOf_lt_length_iff.2 hm
   exact ⟨by rw [Qa hl,List.getElem_idxOf hl],by rw [← a.val.1]; exact hl⟩
  refine ⟨(Qh l.length).map fun (j : Nat) => (Qdb s)[g.idxOf (j : Int)]?.getD 0,by rw [Qc,Q9,xM],fun j hj => ?_,fun x hx => ?_⟩
  ·rw [xM] at hj
   obtain ⟨h1,h2⟩ := hg j hj
   rw [Qi,Zi hj]
   simp only [Option.map_some,Qe]
   have hv := a.val.2 _ h2 (by rw [h1]; simp only [Qe]; omega)
   rw [h1,Qe] at hv
   exact (Qvo h h2 hj).1 hv
  ·rw [← cE x hx,Xd,List.countP_map]
   have e1 : ((Qh l.length).countP ((fun y => y == x) ∘ fun (j : Nat) => (Qdb s)[g.idxOf (j : Int)]?.getD 0)) = (((Qh l.length).filter fun (j : Nat) => decide ((Qdb s)[g.idxOf (j : Int)]?.getD 0 = x)).map fun (j : Nat) => g.idxOf (j : Int)).length := by
    rw [Qc,List.countP_eq_length_filter]
    congr 1
   rw [e1]
   have e2 := Qjc (Qdb s) fun y => decide (y = x)
   have e3 : (Qdb s).countP (fun y => decide (y = x)) = (Qdb s).count x := by rw [Xd]; congr 1
   rw [e3] at e2
   rw [← e2]
   have := Qhr (T := ((Qh l.length).filter fun (j : Nat) => decide ((Qdb s)[g.idxOf (j : Int)]?.getD 0 = x)).map fun (j : Nat) => g.idxOf (j : Int)) (U := (Qh (Qdb s).length).filter fun (i : Nat) => decide ((Qdb s)[i]?.getD 0 = x)) ?_ ?_
   ·omega
   ·refine Qho (fun i hi k hk e => ?_) (Z8.sublist Q1 Zf)
    have h1 := (hg i (Qk.1 (Qn.1 hi).1)).1
    have h2 := (hg k (Qk.1 (Qn.1 hk).1)).1
    rw [e,h2] at h1
    have := Zy.inj h1
    omega
   ·intro u hu
    obtain ⟨j,hj,rfl⟩ := Qs.1 hu
    obtain ⟨iD,eD⟩ := Qn.1 hj
    have := (hg j (Qk.1 iD)).2
    exact Qn.2 ⟨Qk.2 (by omega),eD⟩
 ·rintro ⟨bl,nX,vW,mT⟩
  rw [xM] at nX vW
  obtain ⟨S,F,b⟩ := Qr1 (gdS s l) (nS s) l.length
  have hbl := b.len
  generalize (Qci (gdS s l) (nS s) l.length).2 = g at b
  obtain ⟨n,hn⟩ : ∃ n,n = nS s := ⟨_,rfl⟩
  rw [← hn] at b hbl hUl ⊢
  let L := (Qh n).filter fun (i : Nat) => decide ((i : Int) ∈ S)
  have hL : ∀ i,i ∈ L ↔ i < n ∧ (i : Int) ∈ S := fun i => by simp [L]
  have hLn : L.Nodup := Z8.sublist Q1 Zf
  have hg : ∀ i ∈ L,∃ j,g[i]? = some j ∧ j ≠ -1 ∧ 0 ≤ j ∧ j < l.length ∧ j ∉ F ∧ g.count j ≤ 1 ∧ ∀ k : Nat,k < n → gdS s l k j = true → (k : Int) ∈ S := by
   intro i hi
   obtain ⟨hin,hs⟩ := (hL i).1 hi
   obtain ⟨i',hi',e,j7,hq⟩ := b.clo _ hs
   have : i' = i := by omega
   subst this
   have hlt : i' < g.length := by rw [b.val.1]; exact hin
   have hj : g[i']? = some g[i'] := Qa hlt
   rw [hj] at j7 hq
   simp only [Qe] at j7 hq
   have hc : 0 < g.count g[i'] := Xj.2 (Qw hlt)
   have hr : 0 ≤ g[i'] ∧ g[i'] < l.length := by
    by_cases hq : 0 ≤ g[i'] ∧ g[i'] < l.length
    ·exact hq
    ·have := b.up _ j7 hq; omega
   have hF : g[i'] ∉ F := fun hm => by have := b.zer _ hm; omega
   exact ⟨_,hj,j7,hr.1,hr.2,hF,by rw [b.one _ hr.1 hr.2 hF]; exact Qo _,hq⟩
  have hT : (F ++ L.map fun i => g[i]?.getD 0).Nodup := by
   rw [List.nodup_append]
   refine ⟨b.nod,Qho (fun x hx y hy e => ?_) hLn,fun x hx y hy e => ?_⟩
   ·obtain ⟨j,h1,_,_,_,_,h2,_⟩ := hg x hx
    obtain ⟨k,h3,_⟩ := hg y hy
    rw [h1,h3] at e
    simp only [Qe] at e
    subst e
    exact Zdf h1 h3 h2
   ·obtain ⟨i,hi,e2⟩ := Qs.1 hy
    obtain ⟨j,h1,_,_,_,hF,_⟩ := hg i hi
    rw [h1] at e2
    simp only [Qe] at e2
    subst e2; subst e
    exact hF hx
  generalize hTe : F ++ L.map (fun i => g[i]?.getD 0) = T at hT
  have hTl : T.length = F.length + L.length := by rw [← hTe,Qg,Qc]
  have hTp : ∀ j ∈ T,0 ≤ j ∧ j < l.length ∧ ∀ k : Nat,k < n → gdS s l k j = true → (k : Int) ∈ S := by
   intro j hj
   rw [← hTe] at hj
   rcases Qr.1 hj with hj | hj
   ·exact ⟨(b.lt j hj).1,(b.lt j hj).2,b.non j hj⟩
   ·obtain ⟨i,hi,e⟩ := Qs.1 hj
    obtain ⟨j',h1,_,h2,h3,_,_,h4⟩ := hg i hi
    rw [h1] at e
    simp only [Qe] at e
    subst e
    exact ⟨h2,h3,h4⟩
  let X : List Int := ((Qh s.work.spares.length).map fun (i : Nat) => (i : Int)).filter fun x => decide (x ∈ T.map fun j => bl[j.toNat]?.getD 0)
  have hXn : X.Nodup := Z8.sublist Q1 (Qho (fun a _ b _ e => by omega) Zf)
  have hX : ∀ x,x ∈ X ↔ (0 ≤ x ∧ x < s.work.spares.length) ∧ ∃ j ∈ T,bl[j.toNat]?.getD 0 = x := fun x => by
   simp only [X,Qn,Qs,Qk,decide_eq_true_eq]
   constructor
   ·rintro ⟨⟨i,hi,rfl⟩,h2⟩; exact ⟨by omega,h2⟩
   ·rintro ⟨h1,h2⟩; exact ⟨⟨x.toNat,by omega,by omega⟩,h2⟩
  have xS : ∀ j : Nat,j < l.length → 0 ≤ bl[j]?.getD 0 ∧ bl[j]?.getD 0 < s.work.spares.length := fun j hj => by
   have := vW j hj
   rw [Zag hj] at this
   obtain ⟨i,hi,h1,_⟩ := Qoj.1 this
   omega
  have c1 : T.length ≤ bl.countP fun y => decide (y ∈ X) := by
   rw [← Qjc bl fun y => decide (y ∈ X)]
   have := Qhr (T := T) (U := ((Qh bl.length).filter fun (i : Nat) => decide (bl[i]?.getD 0 ∈ X)).map fun (i : Nat) => (i : Int)) hT fun j hj => by
    obtain ⟨h1,h2,_⟩ := hTp j hj
    refine Qs.2 ⟨j.toNat,Qn.2 ⟨Qk.2 (by omega),?_⟩,by omega⟩
    rw [decide_eq_true_eq]
    exact (hX _).2 ⟨xS _ (by omega),j,hj,rfl⟩
   rw [Qc] at this
   exact this
  have c2 : (Qdb s).countP (fun y => decide (y ∈ X)) ≤ L.length := by
   rw [← Qjc (Qdb s) fun y => decide (y ∈ X)]
   refine Qhr (Z8.sublist Q1 Zf) fun u hu => ?_
   obtain ⟨dA,cW⟩ := Qn.1 hu
   have dA := Qk.1 dA
   rw [decide_eq_true_eq] at cW
   obtain ⟨_,j,hj,e⟩ := (hX _).1 cW
   obtain ⟨h1,h2,h3⟩ := hTp j hj
   have mD : u < n := by omega
   have jW := (Qvo h (u := u) (j := j.toNat) (by omega) (by omega)).2 (by rw [← e]; exact vW j.toNat (by omega))
   rw [show ((j.toNat : Nat) : Int) = j by omega] at jW
   exact (hL u).2 ⟨mD,h3 u mD jW⟩
  rw [Qgl _ X hXn] at c1 c2
  have c3 : (((X.map fun x => bl.count x).sum : Nat) : Int) ≤ ((X.map fun x => (Qdb s).count x).sum : Nat) := by
   rw [Qiu,Qiu]
   refine Qxj fun x hx => ?_
   have xF := ((hX x).1 hx).1.1
   rw [cE x xF]
   exact mT x xF
  omega
end Go.CS
noncomputable section
namespace Go.CS
open Go.Fam Go.Proofs
open Go.Proofs.Tryz
open Go.Proofs.Tryz renaming prog → TP
open Go.C06 (fnG Qap Span eI eSpan gI gR dI Qas Qa7 Qa3 Qa4 idxOf Qah Qaa Qab Qaf Qa9 Qa6 Qa5 Qad Qal Qaz vw_I Qaj hmix eLI dLI Qb1 Qac Qa0 Qa2 Qae)
variable {Γ : Gam}
set_option maxRecDepth 100000
def Qpq {s : Shop} {plan : List Int} (h : OkPl s plan) : ∀ {k : Nat} {l : List Job},k ≤ plan.length → Qet s plan k = some l → ∀ j ∈ l,0 ≤ j.day ∧ Qay s.work j.maker j.slot = true
 | 0,l,_,e => by
  simp only [Qet,Zy.injEq] at e
  subst e
  intro j hj; cases hj
 | k + 1,l,hk,e => by
  simp only [Qet] at e
  split at e
  ·rename_i a b ha hb
   simp only [Zy.injEq] at e
   subst e
   intro j hj
   rcases Qr.1 hj with hj | hj
   ·exact Qpq h (by omega) ha j hj
   ·have hx : plan.getD k 0 ∈ plan := by
     rw [Qb,Qa (by omega)]
     exact Qw _
    have fX := h.pc _ hx
    unfold jobW at hb
    split at hb
    ·simp only [Zy.injEq] at hb
     subst hb
     cases hj
    ·rename_i pX
     split at hb
     ·cases hb
     ·split at hb
      ·cases hb
      ·rename_i v6
       simp only [Zy.injEq] at hb
       subst hb
       obtain ⟨q,hq,rfl⟩ := Qs.1 hj
       have hp : Qax s (plan.getD k 0) ∈ s.pieces := by
        unfold Qax
        rw [Qb,Qa (by omega)]
        exact Qw _
       have jA := h.st.s.pc _ hp
       unfold Qc7 risB at jA
       simp only [Qv,Zo] at jA
       refine ⟨by simp only; omega,?_⟩
       unfold Qay
       rw [Qv]
       exact ⟨jA.1.2,jA.2.1 q hq⟩
  ·cases e
structure Law (s : Shop) (p : List Int) : Prop where
 small : SmallS s
 pieces : s.pieces.length ≤ 1000000
 stock : s.stock.length ≤ 1000000
 pl : OkPl s p
 e : Qcl s = 0
 t : (Qef s p).2 = 0 ∨ (Qef s p).2 = 3
 no : Qfa s p = none → (Qef s p).2 = 3
 yes : ∀ l,Qfa s p = some l → l.length ≤ 10 → (Qjo s.work s.stock (l.map jobP)).2 = 0 ∧ ((Qef s p).2 = 0 ↔ (Qjo s.work s.stock (l.map jobP)).1 = l.length)
def Ziv {s : Shop} {p : List Int} (hg : Qlo s = true) (hp : Qkg s p = true) (hd : s.dels = []) : Law s p := by
 unfold Qlo at hg
 simp only [Qv,Xm,decide_eq_true_eq] at hg
 obtain ⟨⟨hf,he⟩,hk⟩ := hg
 rw [Zf2] at hp
 have aZ : bigS s = false := by
  unfold farS at hf
  rw [Zc] at hf
  exact hf.1
 obtain ⟨h1,h2,h3,_⟩ := Qit aZ
 have jN : OkSt s := ⟨(Qmk he).1,(Qmk he).2⟩
 have xL := Qsy jN hp
 have qS : Qd7 s (Qh3 s p) = 0 := by
  unfold Qd7
  rw [hp,if_neg (fun h => h he),if_neg (by decide)]
  exact hk
 have d9 : Qef s p = if Qcw s p = true then (takN s p,0) else (0,3) := by
  unfold Qef
  rw [if_pos qS]
 refine ⟨h1,by omega,by omega,xL,he,?_,?_,?_⟩
 ·rw [d9]; split
  ·exact .inl rfl
  ·exact .inr rfl
 ·intro hn
  have : Qcw s p = false := by unfold Qcw; rw [hn]
  rw [d9,this]; rfl
 ·intro l hl pY
  have kR : ∀ j ∈ l,0 ≤ j.day ∧ Qay s.work j.maker j.slot = true := Qpq xL (Qo _) hl
  have lF : OkJs s l := ⟨jN.w,jN.s.stock,fun n hn => (jN.s.st n hn).1,hd,fun j hj => (kR j hj).1,fun j hj => (kR j hj).2⟩
  have dB := Zec lF
  have hlen : (l.map jobP).length = l.length := Qc ..
  have jV := Qsq (w := s.work) (stock := s.stock) (jobs := l.map jobP) jN.w (by have := jN.s.stock; omega) (by rw [hlen]; omega)
  have q7 := Zm1 jV fun n hn => (jN.s.st n hn).1
  have xM : (fitW s.work (l.map jobP)).length = (l.map jobP).length := by unfold fitW; rw [Qc]
  rw [xM] at q7
  have pZ : begE s.work s.stock (l.map jobP) = 0 := by
   unfold begE
   have hb : begB s.work s.stock (l.map jobP) = true := by
    unfold begB
    simp only [Qv,decide_eq_true_eq,Zo]
    refine ⟨⟨⟨by have := jN.s.stock; omega,fun n hn => ?_⟩,by rw [hlen]; omega⟩,?_⟩
    ·exact Qak.2 (jN.s.st n hn)
    ·intro j hj
     obtain ⟨q,hq,rfl⟩ := Qs.1 hj
     exact (kR q hq).2
   rw [hb]
   exact hk
  have p3 : Qjo s.work s.stock (l.map jobP) = (((l.map jobP).length : Int) - (Qb3 (wkW (fitW s.work (l.map jobP)) s.stock (l.map jobP).length) (-1)).length,0) := by
   unfold Qjo
   rw [if_pos pZ]
  rw [p3]
  refine ⟨rfl,?_⟩
  have u0 : Qcw s p = decide (Qoe s l = 0) := by unfold Qcw; rw [hl]
  rw [d9,u0]
  simp only [hlen] at q7 ⊢
  by_cases hlk : Qoe s l = 0
  ·have hz := q7.2 (dB.1 hlk)
   rw [if_pos (by simpa using hlk)]
   simp only [true_iff]
   omega
  ·have hz : ¬ (Qb3 (wkW (fitW s.work (l.map jobP)) s.stock l.length) (-1)).length = 0 := fun h => hlk (dB.2 (q7.1 h))
   rw [if_neg (by simpa using hlk)]
   constructor
   ·intro h; cases h
   ·intro h; omega
def C9 (a : Shop × List Int) : Prop := OkPl a.1 a.2 ∧ Qcl a.1 = 0 ∧ SmallS a.1
def K160 := (K159.ext 6 (fnG ePP dPP (fun a => a.2.length ≤ 1000000) (fun a => Qkg a.1 a.2) (.b))).ext 9 (fnG ePP dPP C9 (fun a => Qfa a.1 a.2) Qr9)
def Zj7 : GOk TP K160 := (Zj6.ext call6 (Qa7 (e := ePP) (d := dPP) (ok := fun a => a.2.length ≤ 1000000) (g := fun a => Qkg a.1 a.2) (eb := .b) fun a h => X6 a.1 a.2 h)).ext call9 (Qa7 fun a h => X9 a.1 a.2 h.1 h.2.1 h.2.2)
def l6 (s : Shop) (p : List Int) : K160 6 [.ag (Qat s),.sl 1 (p.map eI)] = (p.length ≤ 1000000,.b (Qkg s p)) := (ky K160 6 (Qy8 (s,p)) rfl (by decide) :)
def l9 (s : Shop) (p : List Int) : K160 9 [.ag (Qat s),.sl 1 (p.map eI)] = (C9 (s,p),Qr9 (Qfa s p)) := (kx K160 9 (Qy8 (s,p)) rfl :)
def K161 := K160.ext 4 (fnG eH1 dH1 BigC (fun s => s) fun s => .ag (Qat s))
def Zj8 : GOk TP K161 := Zj7.ext call4 (Qa7 fun a h => X4b a h)
def l4 (s : Shop) : K161 4 [.ag (Qat s)] = (BigC s,.ag (Qat s)) := (kx K161 4 (Qqr s) rfl :)
def l5 (s : Shop) := lft K161 (x5 s) rfl
def l7 : K161 7 [] = (True,.b true) := x7
def l8 (s : Shop) (l : List Int) := lft K161 (x8 s l) rfl
def l10 (w : Work) (s : List Int) (j : List (Int × Int)) := lft K161 (x10 w s j) rfl
def noD (s : Shop) : Shop := ⟨s.work,s.stock,s.pieces,s.wishes,[],s.carve⟩
def m6 (s : Shop) (p : List Int) := lft K161 (l6 s p) rfl
def m9 (s : Shop) (p : List Int) := lft K161 (l9 s p) rfl
def P3u (s : Shop) (p : List Int) (hC : BigC s) : Qa1 TP 3 [.ag (Qat s),.sl 1 (p.map eI)] (.b true) := by
 refine pc Zj8 func3 cf3 ?_
 have g4 := l4 s
 have g5 := l5 (noD s)
 have g6 := m6 (noD s) p
 have g7 := l7
 have g8 := l8 (noD s) p
 have g9 := m9 (noD s) p
 simp only [Qat,noD,Qp] at g4 g5 g6 g8 g9
 have e0 : (⟨s.work,s.stock,s.pieces,s.wishes,[],s.carve⟩ : Shop) = noD s := rfl
 simp only [e0] at g5 g6 g8 g9
 by_cases f1 : Qlo (noD s) = true
 ·by_cases f2 : (20 : Int) < p.length
  ·simp only [rc3,rs3,g4,g5,g7,f1,f2,hC,BL,simprocAttr]
  ·have f2' : p.length ≤ 1000000 := by omega
   by_cases f3 : Qkg (noD s) p = true
   ·have L := Ziv f1 f3 rfl
    obtain ⟨L1,L2,L3,Lp,Le,L5,L6,L7⟩ := L
    have c9 : C9 (noD s,p) := ⟨Lp,Le,L1⟩
    have k2 : s.pieces.length ≤ 1000000 := L2
    have k3 : s.stock.length ≤ 1000000 := L3
    have hw : SmallW s.work := L1.work
    have L7' : ∀ l,Qfa (noD s) p = some l → l.length ≤ 10 → (Qjo s.work s.stock (l.map jobP)).2 = 0 ∧ ((Qef (noD s) p).2 = 0 ↔ (Qjo s.work s.stock (l.map jobP)).1 = l.length) := L7
    clear L7
    generalize Qef (noD s) p = t at *
    obtain ⟨t1,t2⟩ := t
    generalize Qfa (noD s) p = jb at *
    simp only at L5 L6 L7' g8
    cases jb with
    | none =>
     have e := L6 rfl
     subst e
     simp only [Qr9] at g9
     simp only [rc3,rs3,g4,g5,g6,g7,g8,g9,f1,f2,f2',f3,hC,L1,k2,c9,BL,simprocAttr]
    | some l =>
     simp only [Qr9] at g9
     have hl : (l.map jobP).length = l.length := Qc ..
     by_cases f4 : (10 : Int) < l.length
     ·rcases L5 with e | e <;> subst e <;> simp only [rc3,rs3,g4,g5,g6,g7,g8,g9,f1,f2,f2',f3,f4,hl,hC,L1,k2,c9,BL,simprocAttr]
     ·obtain ⟨m0,hm⟩ := L7' l rfl (by omega)
      have g10 := l10 s.work s.stock (l.map jobP)
      have c10 : Qti (s.work,s.stock,l.map jobP) := ⟨hw,k3,by rw [hl]; omega⟩
      generalize Qjo s.work s.stock (l.map jobP) = m at *
      obtain ⟨m1,m2⟩ := m
      simp only at m0 hm g10
      unfold Qai at g10
      subst m0
      rcases L5 with e | e
      ·subst e
       have e2 := hm.1 rfl
       subst e2
       simp only [rc3,rs3,g4,g5,g6,g7,g8,g9,g10,f1,f2,f2',f3,f4,hl,hC,L1,k2,c9,c10,BL,simprocAttr]
       rfl
      ·subst e
       have e2 : ¬ m1 = l.length := fun h => absurd (hm.2 h) (by decide)
       simp only [rc3,rs3,g4,g5,g6,g7,g8,g9,g10,f1,f2,f2',f3,f4,e2,hl,hC,L1,k2,c9,c10,BL,simprocAttr]
       rfl
   ·simp only [rc3,rs3,g4,g5,g6,g7,f1,f2,f2',f3,hC,BL,simprocAttr]
 ·simp only [rc3,rs3,g4,g5,g7,f1,hC,BL,simprocAttr]
end Go.CS
end
