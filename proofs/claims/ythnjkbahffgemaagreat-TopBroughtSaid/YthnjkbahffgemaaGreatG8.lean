import Derived.Test.YthnjkbahffgemaaGreatG7
import Derived.Test.YthnjkbahffgemaaGreatG5
set_option linter.all false
set_option maxHeartbeats 4000000
namespace Go.CS
open Go.Fam Go.Proofs
open Go.C06 (Span eI eIs eSpan gI gR dI dI_eI spanE fnG fnG_ok fnG_at within take_succ_of idxOf idxOf_at idxOf_none idxOf_any flat_len chunk_flat map_vw_rows hasRefL_flat drop_cons chunk_I len_I vw_I noref_I hmix eLI dLI dLI_e ru_countE cutL_noref hasRefL_append upL_noref)
variable {Γ : Gam}
namespace R
open Go.C06 (flat_I chunkI noref_Is)
theorem CS7_of {t : Tour} {route truth : List Int} (h : route.length = 3) (h0 : COs t route truth (sellsK t route truth 0) 0) (h1 : COs t route truth (sellsK t route truth 1) 1) (h2 : COs t route truth (sellsK t route truth 2) 2) : CS7 t route truth := by
 refine ⟨by omega, fun i hi => ?_⟩
 rw [h] at hi
 match i, hi with
 | 0, _ => exact h0
 | 1, _ => exact h1
 | 2, _ => exact h2
def cosB (t : Tour) (route truth : List Int) (i : Nat) : Bool :=
 let x := sellsK t route truth i
 decide (0 ≤ atL route i) && decide (atL route i < t.fairs.length) && decide (i < truth.length) && decide (0 ≤ atL truth i) && decide (atL truth i < (fairAt t (atL route i)).sells.length) && decide (inI ((fairAt t (atL route i)).price * soldAt t route truth x i)) && decide (inI (x.1 + (fairAt t (atL route i)).price * soldAt t route truth x i)) && decide (inI (x.2 - soldAt t route truth x i))
theorem cos_of {t : Tour} {route truth : List Int} {i : Nat} (h : cosB t route truth i = true) : COs t route truth (sellsK t route truth i) i := by
 unfold cosB at h
 simp only [Bool.and_eq_true, decide_eq_true_eq] at h
 obtain ⟨⟨⟨⟨⟨⟨⟨h1, h2⟩, h3⟩, h4⟩, h5⟩, h6⟩, h7⟩, h8⟩ := h
 exact ⟨h1, h2, h3, h4, h5, h6, h7, h8⟩
theorem rts_ok : ∀ r ∈ allR 3 2 1, r.length = 3 ∧ ∀ b ∈ trL, cosB exT r b 0 = true ∧ cosB exT r b 1 = true ∧ cosB exT r b 2 = true := by decide +kernel
theorem rts_n : (allR 3 2 1).length = 17 := by decide +kernel
theorem rts_cs {r b : List Int} (hr : r ∈ allR 3 2 1) (hb : b ∈ trL) : CS7 exT r b := by
 obtain ⟨h1, h2⟩ := rts_ok r hr
 obtain ⟨a0, a1, a2⟩ := h2 b hb
 exact CS7_of h1 (cos_of a0) (cos_of a1) (cos_of a2)
def bnE (p : List Int) : Int × Int := bnd exT p [2, 0, 0] trL.tail
def e54 (p : List Int) : List V := [.pa (eWt exT trL), .sl 1 (p.map eI), .fn 55 []]
def d54 : List V → List Int | [_, .sl _ l, _] => l.map dI | _ => []
theorem d54_e (p : List Int) : d54 (e54 p) = p := by show (p.map eI).map dI = p; rw [List.map_map, show dI ∘ eI = id from funext dI_eI, List.map_id]
noncomputable def KRE : Gam := ((KRD.ext 52 fun l => (l = [.ag (eTour exT), .b true], .tp [.pa (eWt exT trL), .i 0])).ext 33 (fnG eSa dSa (fun _ => True) (fun a => a.1) (.i))).ext 54 (fnG e54 d54 (fun p => p ∈ allR 3 2 1) bnE fun s => .ag [.i s.1, .i s.2])
theorem okKRE : GOk Tryz.prog KRE := by
 refine ((okKRD.ext (f := 52) Tryz.call52 ?_).ext (f := 33) Tryz.call33 (fnG_ok fun a h => W33 ⟨a.1, a.2⟩)).ext (f := 54) Tryz.call54 (fnG_ok fun p h => W54 exT [2, 0, 0] trL.tail p (by decide) (rts_cs h (by decide)) fun b hb => rts_cs h (List.mem_of_mem_tail hb))
 rintro _ rfl
 exact W52
theorem r52 : KRE 52 [.ag (eTour exT), .b true] = (True, .tp [.pa (eWt exT trL), .i 0]) := by show (([.ag (eTour exT), .b true] : List V) = _, _) = _; simp
theorem r53e : KRE 53 [.ag (eTour exT)] = (True, .fn 95 (capsR 3 2 1)) := r53
theorem r54 (p : List Int) : KRE 54 [.pa (eWt exT trL), .sl 1 (p.map eI), .fn 55 []] = (p ∈ allR 3 2 1, .ag [.i (bnE p).1, .i (bnE p).2]) := (kx KRE 54 (d54_e p) rfl :)
theorem r33 (a b : Int) : KRE 33 [.ag [.i a, .i b]] = (True, .i a) := (kx ((KRD.ext 52 fun l => (l = [.ag (eTour exT), .b true], .tp [.pa (eWt exT trL), .i 0])).ext 33 (fnG eSa dSa (fun _ => True) (fun a => a.1) (.i))) 33 (show dSa (eSa (a, b)) = (a, b) from rfl) rfl :)
theorem y95e (al : List V → Prop) (xs : List V) (hp : List Blk) : KRE.y 95 al xs hp = t95 al xs hp := rfl
theorem q16e (l : List Int) : KRE 1000016 [.sl 1 (l.map eI)] = (l.length ≤ 1000000, .tp [.rf 0 1 0 l.length 1, .tp [bV (.cells 1 (l.map eI).flatten)]]) := S.q16 l
def bestS (x : Int × V) (p : List Int) : Int × V := if x.1 < (bnE p).1 then ((bnE p).1, sV p) else x
def bK (k : Nat) : Int × V := ((allR 3 2 1).take k).foldl bestS (-1, .z 1)
theorem bK_step {k : Nat} {p : List Int} (h : (allR 3 2 1)[k]? = some p) : bK (k + 1) = bestS (bK k) p := by
 unfold bK
 rw [take_succ_of h, List.foldl_append]; rfl
theorem bK_v : ∀ k, (bK k).2 = .z 1 ∨ ∃ p, (bK k).2 = sV p := by
 intro k
 unfold bK
 generalize (allR 3 2 1).take k = l
 have : ∀ (l : List (List Int)) (x : Int × V), (x.2 = .z 1 ∨ ∃ p, x.2 = sV p) → (l.foldl bestS x).2 = .z 1 ∨ ∃ p, (l.foldl bestS x).2 = sV p := by
  intro l
  induction l with
  | nil => exact fun x h => h
  | cons a l ih =>
   intro x h
   refine ih _ ?_
   unfold bestS
   split
   ·exact .inr ⟨a, rfl⟩
   ·exact h
 exact this l _ (.inl rfl)
theorem bK_17 : bK 17 = (65, sV [1, 1, 2]) := by kernel_rfl
def bW (W : List V) (x : Int × V) : List V := [bV (.cells 0 [.pa W]), bV (.cells 0 [.i x.1]), bV (.cells 0 [x.2])]
theorem eT_ex2 : ∃ R F, eTour exT = [.i 3, .i 2, .sl 3 R, .i 1, .sl 2 F, .i 1, .i 7] ∧ (∀ H n, R.map (fun r => r.map (vw H (n + 1))) = R) ∧ (∀ H n, F.map (fun r => r.map (vw H (n + 1))) = F) ∧ F.length = 3 := ⟨_, _, rfl, fun H n => vw_R H n _, fun H n => vw_F H n _, rfl⟩
theorem W32 : PureCall Tryz.prog 32 [.ag (eTour exT), .fn 33 []] (.tp [.i 65, (bK 17).2, .i 0]) := by
 refine pure_body okKRE hmix Tryz.func32 cb32 cc32 cs32 cn32 ?_
 have g52 := r52
 have g53 := r53e
 have g54 := r54
 obtain ⟨R, F, e, hR, hF, hFl⟩ := eT_ex2
 have hE : eWt exT trL = eTour exT ++ [.sl 1 (trL.map fun r => [.sl 1 (r.map eI)])] := rfl
 rw [hE] at g52 g54
 rw [e] at g52 g53 g54 ⊢
 rw [bK_17]
 have hWv : ∀ H, ([V.i 3, V.i 2, V.sl 3 R, V.i 1, V.sl 2 F, V.i 1, V.i 7] ++ [V.sl 1 (trL.map fun r => [V.sl 1 (r.map eI)])]).map (vw H 7) = [V.i 3, V.i 2, V.sl 3 R, V.i 1, V.sl 2 F, V.i 1, V.i 7] ++ [V.sl 1 (trL.map fun r => [V.sl 1 (r.map eI)])] := by
  intro H
  rfl
 generalize hW : ([V.i 3, V.i 2, V.sl 3 R, V.i 1, V.sl 2 F, V.i 1, V.i 7] ++ [V.sl 1 (trL.map fun r => [V.sl 1 (r.map eI)])]) = W at *
 simp only [rc32, rs32, g52, g53, hR, hF, ↓BU3, BL, simprocAttr]
 refine ru_rfhL (gf := 95) (caps := capsR 3 2 1) ?_ (fun bv => ∃ x : Int × V, (x.2 = .z 1 ∨ ∃ p, x.2 = sV p) ∧ bv = bW W x) (fun l => (allR 3 2 1).map fun p => ([.rf 4 0 0 3 1], zR l 3 2 1 p)) (bv0 := bW W (-1, .z 1)) ?_
  (fun k bv => bv = bW W (bK k) ∧ k ≤ 17) ?_ ?_ ?_ ?_ ?_ ?_
 ·simp only [capsR, ↓BU3, BL, simprocAttr]
 ·simp only [bW, ↓BU3, BL, simprocAttr]
 ·exact ⟨rfl, Nat.zero_le _⟩
 ·rintro k bv ⟨rfl, _⟩
  exact ⟨_, bK_v k, rfl⟩
 ·rintro bv ⟨⟨x, v⟩, hv, rfl⟩
  refine ⟨rfl, fun hp => ?_⟩
  rcases hv with hv | ⟨p, hv⟩
  ·simp only at hv
   subst hv
   simp only [bW, ↓BU3, BL, simprocAttr]
  ·simp only at hv
   subst hv
   simp only [bW, sV, ↓BU3, BL, simprocAttr]
 ·intro l
  rw [y95e]
  refine ⟨⟨3, 2, 1, l, (bV (.cells 0 [.pa W]), bV (.cells 0 [.i (-1)]), bV (.cells 0 [.z 1])), by decide, by decide, by decide, ⟨(-1, .z 1), .inl rfl, rfl⟩, ?_, rfl, ?_⟩, fun r hp' h => h⟩
  ·rintro bv ⟨x, _, rfl⟩
   exact ⟨_, _, _, rfl⟩
  ·rw [itR, List.map_map]; rfl
 ·rintro l k x z bv hx ⟨rfl, hk⟩
  rw [List.getElem?_map, Option.map_eq_some_iff] at hx
  obtain ⟨p, hp, he⟩ := hx
  simp only [Prod.mk.injEq] at he
  obtain ⟨rfl, rfl⟩ := he
  refine ⟨rfl, Nat.le_refl _, ?_⟩
  have hmem := List.mem_of_getElem? hp
  have hpl := (rts_ok p hmem).1
  have hck := chunkI p
  rw [hpl] at hck
  have hpm : (p.map V.i).length = 3 := by simp [hpl]
  have hst := bK_step hp
  have hkl : k < 17 := by
   have := getElemLt hp
   rw [rts_n] at this; exact this
  have hn1 : hasRefL (p.map V.i) = false := noref_Is p
  have hpv : V.sl 1 (p.map eI) = sV p := rfl
  have g16 := q16e p
  rw [hpl, flat_I] at g16
  have h3 : 3 ≤ 1000000 := by decide
  have gb := g54 p
  have gf := fun a b => lft KRE (r33 a b) rfl
  have hv := bK_v k
  rw [hst]
  unfold bestS
  generalize bK k = y at *
  obtain ⟨m, v⟩ := y
  simp only at hv
  rcases hv with rfl | ⟨q, rfl⟩
  ·simp only [bW, zR, capsR, gb, gf, hmem, g16, h3, hWv, hck, hpl, hpm, vw_I, rflat_I, ↓BU3, BL, simprocAttr]
   refine ⟨fun hlt => ?_, fun hge => ?_⟩
   ·rw [if_pos hlt]
    refine ⟨bW W ((bnE p).1, sV p), ?_, rfl, ⟨((bnE p).1, sV p), .inr ⟨p, rfl⟩, rfl⟩, rfl, by omega⟩
    simp only [bW, caps96, hck, hpl, hpm, hpF, upB, upL, upV, upL_noref _ _ hn1, shL_noref _ _ hn1, cutL_noref _ _ _ hn1, hpv, vw_I, ↓BU3, BL, simprocAttr]
   ·rw [if_neg hge]
    refine ⟨bW W (m, .z 1), ?_, rfl, ⟨(m, .z 1), .inl rfl, rfl⟩, rfl, by omega⟩
    simp only [bW, caps96, cutL_noref _ _ _ hn1, ↓BU3, BL, simprocAttr]
  ·simp only [bW, zR, capsR, gb, gf, hmem, g16, h3, hWv, hck, hpl, hpm, vw_I, rflat_I, sV, ↓BU3, BL, simprocAttr]
   refine ⟨fun hlt => ?_, fun hge => ?_⟩
   ·rw [if_pos hlt]
    refine ⟨bW W ((bnE p).1, sV p), ?_, rfl, ⟨((bnE p).1, sV p), .inr ⟨p, rfl⟩, rfl⟩, rfl, by omega⟩
    simp only [bW, caps96, hck, hpl, hpm, hpF, upB, upL, upV, upL_noref _ _ hn1, shL_noref _ _ hn1, cutL_noref _ _ _ hn1, hpv, vw_I, ↓BU3, BL, simprocAttr]
   ·rw [if_neg hge]
    refine ⟨bW W (m, sV q), ?_, rfl, ⟨(m, sV q), .inr ⟨q, rfl⟩, rfl⟩, rfl, by omega⟩
    simp only [bW, caps96, cutL_noref _ _ _ hn1, sV, ↓BU3, BL, simprocAttr]
 ·rintro l bv ⟨rfl, _⟩
  rw [List.length_map, rts_n]
  rw [bK_17]
  simp only [bW, sV, vw_I, ↓BU3, BL, simprocAttr]
noncomputable def KRF : Gam := KRE.ext 32 fun l => (l = [.ag (eTour exT), .fn 33 []], .tp [.i 65, (bK 17).2, .i 0])
theorem okKRF : GOk Tryz.prog KRF := by
 refine okKRE.ext (f := 32) Tryz.call32 ?_
 rintro _ rfl
 exact W32
theorem r32 : KRF 32 [.ag (eTour exT), .fn 33 []] = (True, .tp [.i 65, (bK 17).2, .i 0]) := by show (([.ag (eTour exT), .fn 33 []] : List V) = _, _) = _; simp
theorem W13 : PureCall Tryz.prog 13 [.ag (eTour exT)] (.tp [.i 65, .i 0]) := by
 refine pure_body okKRF hmix Tryz.func13 cb13 cc13 cs13 cn13 ?_
 have g := r32
 rw [bK_17] at g
 obtain ⟨R, F, e, hR, hF, hFl⟩ := eT_ex
 rw [e] at g ⊢
 simp only [rc13, rs13, g, hR, hF, sV, vw_I, ↓BU3, BL, simprocAttr]
end R
end Go.CS
set_option maxHeartbeats 4000000
namespace Go.CS
open Go.Fam Go.Proofs
open Go.C06 (Span eI eIs eSpan gI gR dI dI_eI spanE fnG fnG_ok fnG_at within take_succ_of idxOf idxOf_at idxOf_none idxOf_any flat_len chunk_flat map_vw_rows hasRefL_flat drop_cons chunk_I len_I vw_I noref_I hmix eLI dLI dLI_e ru_countE cutL_noref hasRefL_append upL_noref)
variable {Γ : Gam}
theorem W4 : PureCall Tryz.prog 4 [] (.b true) := W4of R.W13
noncomputable def KZ : Gam := KY2.ext 4 fun l => (l = [], .b true)
theorem okKZ : GOk Tryz.prog KZ := okKY2.ext (f := 4) Tryz.call4 (by rintro _ rfl; exact W4)
theorem z4 : KZ 4 [] = (True, .b true) := Prod.ext (propext ⟨fun _ => trivial, fun _ => rfl⟩) rfl
theorem eq40 : EqFlat Tryz.prog 40 2 := EqFlat.of (fs := _) (show Tryz.prog.underlying 40 = some (.struct (Tryz.prog.fieldsOf 40)) by kernel_rfl) (by kernel_rfl) (by kernel_rfl)
def ownK (t : List Int) (k : Nat) : List Int := ownN k ++ t.drop k
theorem ownK_len {t : List Int} {k : Nat} (hk : k ≤ t.length) : (ownK t k).length = t.length := by
 unfold ownK; rw [List.length_append, own_len, List.length_drop]; omega
theorem ownK_set {t : List Int} {k : Nat} (hk : k < t.length) : (ownK t k).set k (k : Int) = ownK t (k + 1) := by
 unfold ownK
 rw [List.set_append_right _ _ (by rw [own_len]; omega), own_len, Nat.sub_self, List.drop_eq_getElem_cons hk]
 show ownN k ++ ((k : Int) :: t.drop (k + 1)) = _
 unfold ownN
 rw [List.range_succ, List.map_append]
 simp
theorem exch_len {t : List Int} (h : S.takE t = 0) : (S.exchR t).1.length ≤ t.length := by
 have hB : S.takB t = true := by unfold S.takE at h; split at h <;> first | assumption | cases h
 obtain ⟨_, hT⟩ := (S.takB_iff t).1 hB
 have h1 := (S.ex_spec hT t.length (Nat.le_refl _)).2
 have h2 := S.mis_le t
 unfold S.exchR
 rw [if_pos h]
 show (S.exS t t.length).2.length ≤ t.length
 omega
set_option maxRecDepth 100000 in
set_option maxHeartbeats 8000000 in
theorem P3 (t : List Int) (f p : Int) : PureCall Tryz.prog 3 [.sl 1 (t.map eI), .i f, .i p] (.b true) := by
 refine pure_body okKZ hmix Tryz.func3 cb3 cc3 cs3 cn3 ?_
 have z := z4
 by_cases h1 : (6 : Int) < t.length
 ·simp only [rc3, rs3, h1, z, BL, simprocAttr]
 by_cases h2 : f < 0
 ·simp only [rc3, rs3, h1, h2, z, BL, simprocAttr]
 by_cases h3 : (90 : Int) < f
 ·simp only [rc3, rs3, h1, h2, h3, z, BL, simprocAttr]
 by_cases h4 : p < 0
 ·simp only [rc3, rs3, h1, h2, h3, h4, z, BL, simprocAttr]
 by_cases h5 : (99 : Int) < p
 ·simp only [rc3, rs3, h1, h2, h3, h4, h5, z, BL, simprocAttr]
 have hl : t.length ≤ 6 := by omega
 have hlen : t.length ≤ 1000000 := by omega
 have hf : 0 ≤ f ∧ f ≤ 90 := by omega
 have hp : 0 ≤ p ∧ p ≤ 99 := by omega
 have g5 := lft KZ (S.q5 t) rfl
 have g6 := lft KZ (S.q6 t) rfl
 rw [ex_err] at g5 g6
 rcases S.takE_cases t with h0 | h0
 ·rw [h0] at g5 g6
  have hn6 : t.length ≤ 6 := hl
  obtain ⟨X, hX⟩ : ∃ X, X = (S.exchR t).1 := ⟨_, rfl⟩
  rw [← hX] at g5 g6
  have hfl : fitsLen t.length := by unfold fitsLen; omega
  simp only [rc3, rs3, h1, h2, h3, h4, h5, g5, g6, hlen, S.vw_C, z, len_I, hfl, noref_I, List.flatten_nil, BL, simprocAttr]
  refine ru_count t.length (fun k => ⟨lkp [(0, .sl 1 (t.map eI)), (1, .i f), (2, .i p), (7, .i X.length), (9, .sl 1 (X.map S.eCan)), (11, .rf 0 1 0 t.length 1), (12, .i k)], [.cells 1 ((ownK t k).map eI).flatten]⟩) ?_ ?_ ?_
  ·simp only [Int.natCast_zero, BL, simprocAttr]
   rfl
  ·intro k hk
   have hlt : (k : Int) < t.length := by omega
   have hk0 : (0 : Int) ≤ k := by omega
   have hkn : (k : Int).toNat = k := Int.toNat_natCast k
   have i1 : inI ((k : Int) + 1) := by unfold inI; omega
   have hk1 : ((k + 1 : Nat) : Int) = (k : Int) + 1 := by omega
   have hkl := ownK_len (t := t) (k := k) (by omega)
   have hs1 := S.set_flat (ownK t k) k k (by omega)
   rw [ownK_set hk] at hs1
   unfold putAt at hs1
   simp only [List.length_cons, List.length_nil, Nat.zero_add] at hs1
   have hln := len_I (ownK t k)
   rw [hkl] at hln
   have hk2 : k + 1 ≤ t.length := hk
   rw [hk1, ← hs1]
   simp only [hlt, hk0, hkn, i1, hln, Nat.mul_one, hk2, BL, simprocAttr]
  have hlt : ¬ ((t.length : Int) < t.length) := by omega
  have hkl := ownK_len (t := t) (k := t.length) (Nat.le_refl _)
  have hown : ownK t t.length = ownN t.length := by unfold ownK; rw [List.drop_length, List.append_nil]
  rw [hown] at hkl ⊢
  have hln := len_I (ownN t.length)
  have hch := chunk_I (ownN t.length)
  rw [hkl] at hln hch
  have g7 := lft KZ (p7 t f p) rfl
  have g7o := lft KZ (p7 (ownN t.length) f p) rfl
  have c7 : t.length ≤ 6 ∧ 0 ≤ f ∧ f ≤ 90 := ⟨hl, hf⟩
  have c7o : (ownN t.length).length ≤ 6 ∧ 0 ≤ f ∧ f ≤ 90 := ⟨by omega, hf⟩
  have ho0 := own_tak t.length hl
  have g8 := lft KZ (p8 (ctrN t f p) t.length) rfl
  have g8o := lft KZ (p8 (ctrN (ownN t.length) f p) t.length) rfl
  have c8 := cod_c h0 hl hf hp
  have c8o := cod_c ho0 (by omega) hf hp
  have e8 := owed_c h0 hl hf hp
  have e8o := owed_c ho0 (by omega) hf hp
  rw [hkl] at c8o e8o
  rw [e8] at g8
  rw [e8o] at g8o
  obtain ⟨c9, e9⟩ := che_c h0 hl hf hp
  have g9 := lft KZ (w9 (ctrN t f p) 200) rfl
  rw [e9] at g9
  have g10 := fun u => lft KZ (w10 (ctrN t f p) u 200) rfl
  obtain ⟨E, hE⟩ : ∃ E, E = eCtr (ctrN t f p) := ⟨_, rfl⟩
  have hEl : E.length = 11 := by rw [hE]; rfl
  have hEr : hasRefL E = false := by rw [hE]; rfl
  have hEv : ∀ H n, E.map (vw H (n + 1)) = E := fun H n => by rw [hE]; rfl
  have hE7 : ∀ H, E.map (vw H 7) = E := fun H => by rw [hE]; rfl
  have hEt : E.take 11 = E := List.take_of_length_le (by omega)
  have hE11 : 11 ≤ E.length := by omega
  have hEc : E.all cellOk = true := by rw [hE]; rfl
  obtain ⟨D, hD⟩ : ∃ D, D = eCtr (ctrN (ownN t.length) f p) := ⟨_, rfl⟩
  have hDl : D.length = 11 := by rw [hD]; rfl
  have hDr : hasRefL D = false := by rw [hD]; rfl
  have hDv : ∀ H n, D.map (vw H (n + 1)) = D := fun H n => by rw [hD]; rfl
  have hD7 : ∀ H, D.map (vw H 7) = D := fun H => by rw [hD]; rfl
  rw [← hE] at g7 g8 g9 g10
  rw [← hD] at g7o g8o
  have eS0 : eSpan ⟨0, 0⟩ = [.i 0, .i 0] := rfl
  rw [eS0] at g9
  simp only [hlt, hln, hch, g7, g7o, c7, c7o, g8, g8o, c8, c8o, g9, c9, eq40, vw_I, Nat.mul_one, Nat.le_refl, hEl, hEr, hE7, hEv, hEt, hE11, hEc, hDl, hDr, hD7, hDv, hpF, upB, upL_noref _ _ (noref_I _), ↓BU3, BL, simprocAttr]
  obtain ⟨q, hq⟩ : ∃ q, q = p * ((100 - f) * t.length) := ⟨_, rfl⟩
  rw [← hq]
  refine ru_count t.length (fun k => ⟨lkp [(0, .sl 1 (t.map eI)), (1, .i f), (2, .i p), (7, .i X.length), (9, .sl 1 (X.map S.eCan)), (13, .ad 0 0 0), (14, .i q), (20, .i k)], [.cells 0 E, .cells 0 [.i 0, .i 0]]⟩) ?_ ?_ ?_
  ·simp only [Int.natCast_zero, BL, simprocAttr]
  ·intro k hk
   have hlt : (k : Int) < t.length := by omega
   have i1 : inI ((k : Int) + 1) := by unfold inI; omega
   have hk1 : ((k + 1 : Nat) : Int) = (k : Int) + 1 := by omega
   have gk := g10 k
   have ck := cwh_c h0 hl hf hp hk
   rw [hk1]
   simp only [hlt, gk, ck, i1, hEl, hEt, hE11, hEr, hE7, hEv, hEc, BL, simprocAttr]
  have hlt : ¬ ((t.length : Int) < t.length) := by omega
  cases X with
  | nil =>
   simp only [hlt, z, ↓BU3, BL, simprocAttr]
  | cons e r =>
   obtain ⟨a, b, rfl, ha, hab, hb, hlen2, ht2⟩ := ex_pair h0 hl hX.symm
   obtain ⟨N, hN⟩ : ∃ N, N = (t.set a.toNat (S.atN t b)).set b.toNat (S.atN t a) := ⟨_, rfl⟩
   rw [← hN] at hlen2 ht2
   have hNl : N.length = t.length := by rw [hN]; simp
   have ra : (t.map eI)[a.toNat]? = some [.i (S.atN t a)] := by
    rw [List.getElem?_map]; unfold S.atN; rw [List.getElem?_eq_getElem (by omega)]; rfl
   have rb : (t.map eI)[b.toNat]? = some [.i (S.atN t b)] := by
    rw [List.getElem?_map]; unfold S.atN; rw [List.getElem?_eq_getElem (by omega)]; rfl
   have hs1 := S.set_flat t a.toNat (S.atN t b) (by omega)
   have hs2 := S.set_flat (t.set a.toNat (S.atN t b)) b.toNat (S.atN t a) (by simp; omega)
   rw [← hN] at hs2
   unfold putAt at hs1 hs2
   simp only [List.length_cons, List.length_nil, Nat.zero_add] at hs1 hs2
   have l1 := len_I t
   have l2 := len_I (t.set a.toNat (S.atN t b))
   rw [List.length_set] at l2
   have l3 := len_I N
   have k3 := chunk_I N
   rw [hNl] at l3 k3
   have g5N := lft KZ (S.q5 N) rfl
   rw [ex_err, ht2, hlen2] at g5N
   have g7N := lft KZ (p7 N f p) rfl
   have c7N : N.length ≤ 6 ∧ 0 ≤ f ∧ f ≤ 90 := ⟨by omega, hf⟩
   have g8N := lft KZ (p8 (ctrN N f p) t.length) rfl
   have c8N := cod_c ht2 (by omega) hf hp
   have e8N := owed_c ht2 (by omega) hf hp
   rw [hNl] at c8N e8N
   rw [e8N, ← hq] at g8N
   obtain ⟨F, hF⟩ : ∃ F, F = eCtr (ctrN N f p) := ⟨_, rfl⟩
   have hFl : F.length = 11 := by rw [hF]; rfl
   have hFr : hasRefL F = false := by rw [hF]; rfl
   have hF7 : ∀ H, F.map (vw H 7) = F := fun H => by rw [hF]; rfl
   rw [← hF] at g7N g8N
   have n1 : ¬ a < 0 := by omega
   have n2 : ¬ b ≤ a := by omega
   have n3 : ¬ (t.length : Int) ≤ b := by omega
   have n4 : (0 : Int) ≤ b := by omega
   have n5 : a < t.length := by omega
   have n6 : a.toNat + 1 ≤ t.length := by omega
   have n7 : b.toNat + 1 ≤ t.length := by omega
   have n8 : N.length ≤ 1000000 := by omega
   have hrl : r.length + 1 ≤ t.length := by
    have := exch_len h0
    rw [← hX] at this
    simpa using this
   have n9 : inI ((r.length : Int) + 1 - 1) := by unfold inI; omega
   have n10 : ((r.length : Int) + 1 - 1) = r.length := by omega
   have n11 : (0 : Int) < (r.length : Int) + 1 := by omega
   simp only [hlt, S.eCan, n9, n10, n11, vw_I, hpF, upB, upL, upV, upL_noref _ _ (noref_I _), upL_noref _ _ hEr, Nat.le_refl, Int.natCast_add, Int.natCast_one, ra, rb, n1, n2, n3, n4, n5, n6, n7, n8, ha, hb, hab, hfl, l1, l2, l3, k3, hs1, hs2, g5N, g7N, c7N, g8N, c8N, hFl, hFr, hF7, z, len_I, noref_I, List.flatten_nil, Nat.mul_one, ↓BU3, BL, simprocAttr]
   exact fun _ => by unfold inI; omega
 ·rw [h0] at g5 g6
  simp only [rc3, rs3, h1, h2, h3, h4, h5, g5, g6, hlen, S.vw_C, z, BL, simprocAttr]
end Go.CS
