import Derived.Test.YtcdgojonaloclaaG3
import Derived.Test.YtcdgojonaloclaaChecked
import Derived.Test.YtcdgojonaloclaaG9
set_option linter.all false
open List renaming drop_succ_cons → Qa, map_cons → Qc, take_succ_cons → Qd, append_nil → Qe, length_map → Qf, length_cons → Qg, drop_zero → Qh, length_nil → Qi, headD_cons → Qj, map_nil → Qk, all_cons → Ql, all_nil → Qo, take_nil → Qr, getD_eq_getElem?_getD → Qu, getElem?_eq_getElem → Qw, getElem?_cons_zero → Qx, getElem?_cons_succ → Qy, nil_append → Qz, map_append → Q1, take_zero → Q3, set_cons_zero → Q4, set_cons_succ → Q5, all_eq_true → Q7, cons_append → Q9
open Nat renaming zero_add → Qp
open Bool renaming false_eq_true → Qb, and_self → Qm, or_false → Qn, true_eq_false → Qq, and_true → Qs, not_true → Qt, and_eq_true → Qv, not_false → Q2, false_and → Zc
open Option renaming getD_some → Q8
open Int renaming tmod_eq_emod_of_nonneg → Q0, toNat_natCast → Q6, natCast_add → Za, natCast_one → Zb
set_option maxRecDepth 8000
namespace Go.C02
open Go.Fam Go.Proofs
def rc12 : RC := (.seq (.reg false [(cX 3 0), (cQ 6 [] (.mv (kB false)))]) (.keep [1,2,3] (.seq (.seq (.reg true [(cLd 21 3 true 11), (cQ 22 [21] (.call (kF 16) [(.t 21)])), (cN 23 22), (cMv 24 23), (gMv 25 24 false 1), (gQ 26 24 false [25] (.bin .lss (.t 25) (kI 0))), (cQ 27 [24,26] (.pick (.t 24) (kB true) (.t 26))), (cMv 28 27), (gMv 29 28 false 1), (gQ 30 28 false [29] (.bin .gtr (.t 29) (kI 1000))), (cQ 31 [28,30] (.pick (.t 28) (kB true) (.t 30))), (cMv 32 31), (gMv 33 32 false 2), (gQ 34 32 false [33] (.bin .lss (.t 33) (kI 0))), (cQ 35 [32,34] (.pick (.t 32) (kB true) (.t 34))), (cMv 36 35), (gMv 37 36 false 2), (gQ 38 36 false [3] (.fad 9 (.t 3))), (gQ 39 36 false [38] (.ld false 1 (.t 38))), (gQ 40 36 false [39] (.len (.t 39))), (gQ 41 36 false [37,40] (.bin .geq (.t 37) (.t 40))), (cQ 42 [36,41] (.pick (.t 36) (kB true) (.t 41)))]) (.keep [1,2,3,42] (.cond (.t 42) (.seq (.reg false [(cQ 43 [] (.call (kF 17) [])), (cMv 6 43)]) .ret) .skip))) (.keep [1,2,3] (.seq (.reg false [(cLd 44 3 true 11), (cQ 45 [44] (.call (kF 21) [(.t 44)])), ⟨(some 7), none, [], none, .w (.alc [(.z 4), (.z 1), (.i 0), (.z 2), (.z 1), (.i 0), (.i 0), (.i 0), (.i 0), (.z 1), (.z 1)])⟩, ⟨none, none, [7,45], none, .w (.st 11 (.t 7) (.t 45))⟩]) (.keep [1,2,3,7] (.seq (.seq (.reg false [(cI 8 0)]) (.keep [1,2,3,7,8] (.block 0 (.loop [1,2,3,7,8] none (.seq (.seq (.reg false [(cMv 46 8), (cFa 47 7 9), (cLd 48 47 false 1), (cLn 49 48), (cB 50 .lss 46 49)]) (.keep [1,2,3,7,8,50] (.cond (.t 50) .skip (.exit 0)))) (.keep [1,2,3,7,8] (.seq (.block 1 (.any false 0 [⟨(cFa 53 7 9), [], []⟩, ⟨(cLd 54 53 false 1), [], [0]⟩, ⟨(cMv 55 8), [], []⟩, ⟨(cFa 56 7 9), [], []⟩, ⟨(cLd 57 56 false 1), [], [3]⟩, ⟨(cMv 58 8), [], []⟩, ⟨(cA 59 1 57 58), [], [4,3,5]⟩, ⟨(cLd 60 59 false 1), [], [6,4,3,5]⟩, ⟨(cMv 61 1), [], []⟩, ⟨(cB 62 .add 60 61), [], [7,6,4,3,5,8]⟩, ⟨(cFa 63 3 6), [], []⟩, ⟨(cLd 64 63 false 1), [], [10]⟩, ⟨(cB 65 .rem 62 64), [], [9,7,6,4,3,5,8,11,10]⟩, ⟨(cA 66 1 54 55), [], [1,0,2,3,4,5,6,7,8,9,10,11,12]⟩, ⟨⟨none, none, [66,65], none, .w (.st 1 (.t 66) (.t 65))⟩, [], [13,1,0,2,3,4,5,6,7,8,9,10,11,12]⟩])) (.keep [1,2,3,7,8] (.reg false [(cMv 51 8), (cC 52 .add 51 1), (cMv 8 52)]))))))))) (.keep [2,3,7] (.seq (.reg false [(cLd 68 3 true 11), (cMv 69 2), (cQ 70 [68,69] (.call (kF 38) [(.t 68), (.t 69)])), (cMv 67 70), (cEx 71 67 0), (cEx 72 67 1), (cMv 9 71), (cMv 10 72)]) (.keep [2,3,7,9,10] (.seq (.reg false [(cLd 74 7 true 11), (cMv 75 2), (cQ 76 [74,75] (.call (kF 38) [(.t 74), (.t 75)])), (cMv 73 76), (cEx 77 73 0), (cEx 78 73 1), (cMv 11 77), (cMv 12 78)]) (.keep [3,7,9,10,11,12] (.seq (.reg false [(cLd 80 3 true 11), (cQ 81 [80] (.call (kF 19) [(.t 80)])), (cMv 79 81), (cEx 82 79 0), (cEx 83 79 1), (cMv 13 82), (cMv 14 83)]) (.keep [3,7,9,10,11,12,13,14] (.seq (.reg false [(cLd 85 7 true 11), (cQ 86 [85] (.call (kF 19) [(.t 85)])), (cMv 84 86), (cEx 87 84 0), (cEx 88 84 1), (cMv 15 87), (cMv 16 88)]) (.keep [3,7,9,10,11,12,13,14,15,16] (.seq (.reg false [(cLd 90 3 true 11), (cQ 91 [90] (.call (kF 18) [(.t 90)])), (cMv 89 91), (cEx 92 89 0), (cEx 93 89 1), (cMv 17 92), (cMv 18 93)]) (.keep [7,9,10,11,12,13,14,15,16,17,18] (.seq (.reg false [(cLd 95 7 true 11), (cQ 96 [95] (.call (kF 18) [(.t 95)])), (cMv 94 96), (cEx 97 94 0), (cEx 98 94 1), (cMv 19 97), (cMv 20 98)]) (.keep [9,10,11,12,13,14,15,16,17,18,19,20] (.seq (.reg true [(cMv 99 9), (cMv 100 11), (cB 101 .eql 99 100), (cMv 102 101), (gMv 103 102 true 10), (gMv 104 102 true 12), (gQ 105 102 true [103,104] (.bin .eql (.t 103) (.t 104))), (cQ 106 [102,105] (.pick (.t 102) (.t 105) (kB false))), (cMv 107 106), (gMv 108 107 true 13), (gMv 109 107 true 15), (gQ 110 107 true [108,109] (.call (kF 32) [(.t 108), (.t 109)])), (cQ 111 [107,110] (.pick (.t 107) (.t 110) (kB false))), (cMv 112 111), (gMv 113 112 true 14), (gMv 114 112 true 16), (gQ 115 112 true [113,114] (.bin .eql (.t 113) (.t 114))), (cQ 116 [112,115] (.pick (.t 112) (.t 115) (kB false))), (cMv 117 116), (gMv 118 117 true 17), (gMv 119 117 true 19), (gQ 120 117 true [118,119] (.bin .eql (.t 118) (.t 119))), (cQ 121 [117,120] (.pick (.t 117) (.t 120) (kB false))), (cMv 122 121), (gMv 123 122 true 18), (gMv 124 122 true 20), (gQ 125 122 true [123,124] (.bin .eql (.t 123) (.t 124))), (cQ 126 [122,125] (.pick (.t 122) (.t 125) (kB false))), (cMv 127 126), (gQ 128 127 true [] (.call (kF 17) [])), (cQ 129 [127,128] (.pick (.t 127) (.t 128) (kB false))), (cMv 6 129)]) .ret)))))))))))))))))))))
def pu12 : List Nat := [3]
def rs12 : List RV := [.t 6]
theorem cc12 : comp Try.prog pu12 (Try.f12.ntmps, 0) 0 1 rc12 (Try.f12.body.getD .skip) = some rc12 := by kernel_rfl
theorem cb12 : Try.f12.body = some (Try.f12.body.getD .skip) := by kernel_rfl
theorem cs12 : resRV Try.prog Try.f12.results.toList = some rs12 := by kernel_rfl
theorem cn12 : 3 ≤ Try.f12.ntmps := by decide
end Go.C02
set_option linter.unusedSimpArgs false
set_option linter.unusedVariables false
namespace Go.C02
open Go.Fam Go.Proofs
section
variable (f : Fig) (l k : List Int) (n : Int)
theorem b18 : HB 18 [.ag (eFig f)] = (True, eNE (leastR f)) := y18 f
theorem b19 : HB 19 [.ag (eFig f)] = (True, eLE (badR f)) := y19 f
theorem b38 : HB 38 [.ag (eFig f), .i n] = (f.dome.gores.length < 1000000, eNE (meetsR f n)) := y38 f n
theorem b21o : HB 1000021 [.ag (eFig f)] = (Ok21 f, .tp [.ag (copyF f), .tp ((copyFH f).map bV)]) := z21o f
theorem b32 : HB 32 [.sl 1 (l.map eI), .sl 1 (k.map eI)] = (l.length < 10000000, .b (decide (l = k))) := z32 l k
theorem b16 : HB 16 [.ag (eFig f)] = (True, .b (readyF f)) :=
  (show HB 16 _ = fnG (fun f => [.ag (eFig f)]) decF (fun _ => True) readyF .b [.ag (eFig f)] from rfl).trans (fnG_at _ (dFig_e _))
end
theorem bad_len (f : Fig) : (badR f).1.length ≤ f.dome.gores.length := by
  unfold badR
  split
  · exact badTo_len _ _
  · simp
end Go.C02
set_option maxRecDepth 8000
namespace Go.C02.N
open Go.Fam Go.Proofs
def rc12 : RC := (.seq (.reg false [(cX 3 0), (cQ 6 [] (.mv (kB false)))]) (.keep [1,2,3] (.seq (.seq (.reg true [(cLd 21 3 true 11), (cQ 22 [21] (.call (kF 16) [(.t 21)])), (cN 23 22), (cMv 24 23), (gMv 25 24 false 1), (gQ 26 24 false [25] (.bin .lss (.t 25) (kI 0))), (cQ 27 [24,26] (.pick (.t 24) (kB true) (.t 26))), (cMv 28 27), (gMv 29 28 false 1), (gQ 30 28 false [29] (.bin .gtr (.t 29) (kI 1000))), (cQ 31 [28,30] (.pick (.t 28) (kB true) (.t 30))), (cMv 32 31), (gMv 33 32 false 2), (gQ 34 32 false [33] (.bin .lss (.t 33) (kI 0))), (cQ 35 [32,34] (.pick (.t 32) (kB true) (.t 34))), (cMv 36 35), (gMv 37 36 false 2), (gQ 38 36 false [3] (.fad 9 (.t 3))), (gQ 39 36 false [38] (.ld false 1 (.t 38))), (gQ 40 36 false [39] (.len (.t 39))), (gQ 41 36 false [37,40] (.bin .geq (.t 37) (.t 40))), (cQ 42 [36,41] (.pick (.t 36) (kB true) (.t 41)))]) (.keep [1,2,3,42] (.cond (.t 42) (.seq (.reg false [(cQ 43 [] (.call (kF 17) [])), (cMv 6 43)]) .ret) .skip))) (.keep [1,2,3] (.seq (.reg false [(cLd 44 3 true 11), ⟨(some 45), none, [44], none, .o (kF 21) [(.t 44)]⟩, ⟨(some 7), none, [], none, .w (.alc [(.z 4), (.z 1), (.i 0), (.z 2), (.z 1), (.i 0), (.i 0), (.i 0), (.i 0), (.z 1), (.z 1)])⟩, ⟨none, none, [7,45], none, .w (.st 11 (.t 7) (.t 45))⟩]) (.keep [1,2,3,7] (.seq (.seq (.reg false [(cI 8 0)]) (.keep [1,2,3,7,8] (.block 0 (.loop [1,2,3,7,8] none (.seq (.seq (.reg false [(cMv 46 8), (cFa 47 7 9), (cLd 48 47 false 1), (cLn 49 48), (cB 50 .lss 46 49)]) (.keep [1,2,3,7,8,50] (.cond (.t 50) .skip (.exit 0)))) (.keep [1,2,3,7,8] (.seq (.block 1 (.any false 0 [⟨(cFa 53 7 9), [], []⟩, ⟨(cLd 54 53 false 1), [], [0]⟩, ⟨(cMv 55 8), [], []⟩, ⟨(cFa 56 7 9), [], []⟩, ⟨(cLd 57 56 false 1), [], [3]⟩, ⟨(cMv 58 8), [], []⟩, ⟨(cA 59 1 57 58), [], [4,3,5]⟩, ⟨(cLd 60 59 false 1), [], [6,4,3,5]⟩, ⟨(cMv 61 1), [], []⟩, ⟨(cB 62 .add 60 61), [], [7,6,4,3,5,8]⟩, ⟨(cFa 63 3 6), [], []⟩, ⟨(cLd 64 63 false 1), [], [10]⟩, ⟨(cB 65 .rem 62 64), [], [9,7,6,4,3,5,8,11,10]⟩, ⟨(cA 66 1 54 55), [], [1,0,2,3,4,5,6,7,8,9,10,11,12]⟩, ⟨⟨none, none, [66,65], none, .w (.st 1 (.t 66) (.t 65))⟩, [], [13,1,0,2,3,4,5,6,7,8,9,10,11,12]⟩])) (.keep [1,2,3,7,8] (.reg false [(cMv 51 8), (cC 52 .add 51 1), (cMv 8 52)]))))))))) (.keep [2,3,7] (.seq (.drp 0 (.reg false [(cLd 68 3 true 11), (cMv 69 2), (cQ 70 [68,69] (.call (kF 38) [(.t 68), (.t 69)])), (cMv 67 70), (cEx 71 67 0), (cEx 72 67 1), (cMv 9 71), (cMv 10 72)])) (.keep [2,3,7,9,10] (.seq (.reg false [(cLd 74 7 true 11), (cMv 75 2), (cQ 76 [74,75] (.call (kF 38) [(.t 74), (.t 75)])), (cMv 73 76), (cEx 77 73 0), (cEx 78 73 1), (cMv 11 77), (cMv 12 78)]) (.keep [3,7,9,10,11,12] (.seq (.reg false [(cLd 80 3 true 11), (cQ 81 [80] (.call (kF 19) [(.t 80)])), (cMv 79 81), (cEx 82 79 0), (cEx 83 79 1), (cMv 13 82), (cMv 14 83)]) (.keep [3,7,9,10,11,12,13,14] (.seq (.reg false [(cLd 85 7 true 11), (cQ 86 [85] (.call (kF 19) [(.t 85)])), (cMv 84 86), (cEx 87 84 0), (cEx 88 84 1), (cMv 15 87), (cMv 16 88)]) (.keep [3,7,9,10,11,12,13,14,15,16] (.seq (.reg false [(cLd 90 3 true 11), (cQ 91 [90] (.call (kF 18) [(.t 90)])), (cMv 89 91), (cEx 92 89 0), (cEx 93 89 1), (cMv 17 92), (cMv 18 93)]) (.keep [7,9,10,11,12,13,14,15,16,17,18] (.seq (.reg false [(cLd 95 7 true 11), (cQ 96 [95] (.call (kF 18) [(.t 95)])), (cMv 94 96), (cEx 97 94 0), (cEx 98 94 1), (cMv 19 97), (cMv 20 98)]) (.keep [9,10,11,12,13,14,15,16,17,18,19,20] (.seq (.reg true [(cMv 99 9), (cMv 100 11), (cB 101 .eql 99 100), (cMv 102 101), (gMv 103 102 true 10), (gMv 104 102 true 12), (gQ 105 102 true [103,104] (.bin .eql (.t 103) (.t 104))), (cQ 106 [102,105] (.pick (.t 102) (.t 105) (kB false))), (cMv 107 106), (gMv 108 107 true 13), (gMv 109 107 true 15), (gQ 110 107 true [108,109] (.call (kF 32) [(.t 108), (.t 109)])), (cQ 111 [107,110] (.pick (.t 107) (.t 110) (kB false))), (cMv 112 111), (gMv 113 112 true 14), (gMv 114 112 true 16), (gQ 115 112 true [113,114] (.bin .eql (.t 113) (.t 114))), (cQ 116 [112,115] (.pick (.t 112) (.t 115) (kB false))), (cMv 117 116), (gMv 118 117 true 17), (gMv 119 117 true 19), (gQ 120 117 true [118,119] (.bin .eql (.t 118) (.t 119))), (cQ 121 [117,120] (.pick (.t 117) (.t 120) (kB false))), (cMv 122 121), (gMv 123 122 true 18), (gMv 124 122 true 20), (gQ 125 122 true [123,124] (.bin .eql (.t 123) (.t 124))), (cQ 126 [122,125] (.pick (.t 122) (.t 125) (kB false))), (cMv 127 126), (gQ 128 127 true [] (.call (kF 17) [])), (cQ 129 [127,128] (.pick (.t 127) (.t 128) (kB false))), (cMv 6 129)]) .ret)))))))))))))))))))))
def pu12 : List Nat := [1000045,3]
def rs12 : List RV := [.t 6]
theorem cc12 : comp Try.prog pu12 (Try.f12.ntmps, 0) 0 1 rc12 (Try.f12.body.getD .skip) = some rc12 := by kernel_rfl
theorem cb12 : Try.f12.body = some (Try.f12.body.getD .skip) := by kernel_rfl
theorem cs12 : resRV Try.prog Try.f12.results.toList = some rs12 := by kernel_rfl
theorem cn12 : 3 ≤ Try.f12.ntmps := by decide
end Go.C02.N
set_option linter.unusedSimpArgs false
set_option linter.unusedVariables false
namespace Go.C02
open Go.Fam Go.Proofs
theorem ownN_get {f : Fig} (h : figCheck f = 0) {i : Nat} (hi : i < f.starts.length) :
    ownN (ringOf f) i = meetsN f.period (movesAt (ringOf f) i) (modN (f.starts.getD ((i + 1) % f.starts.length) 0 - f.starts.getD i 0) f.period) f.near := by
  have hns := (validF_of h).ns
  have hml : (ringOf f).moves.length = f.starts.length := by rw [hns]; simp [ringOf]
  have e1 : ((i : Int) + 1).tmod f.starts.length = (((i + 1) % f.starts.length : Nat) : Int) := by
    rw [Q0 (by omega), Int.natCast_emod]; simp only [Za, Zb]
  unfold ownN
  rw [hml, e1]
  have hs : ∀ k : Nat, startAt f (k : Nat) = f.starts.getD k 0 := fun k => by unfold startAt; rw [Q6, Qu]
  show meetsN f.period _ (modN (startAt f _ - startAt f _) f.period) f.near = _
  rw [hs, hs]
end Go.C02
set_option linter.unusedSimpArgs false
set_option linter.unusedVariables false
namespace Go.C02
open Go.Fam Go.Proofs
end Go.C02
set_option linter.unusedSimpArgs false
set_option linter.unusedVariables false
namespace Go.C02
open Go.Fam Go.Proofs
end Go.C02
set_option linter.unusedSimpArgs false
set_option linter.unusedVariables false
namespace Go.C02
open Go.Fam Go.Proofs
theorem fl_I (l : List Int) : (l.map eI).flatten = l.map V.i := by
  induction l with
  | nil => rfl
  | cons a l ih => rw [Qc, List.flatten_cons, ih]; rfl
theorem nr_i (o : List Int) : hasRefL (o.map V.i) = false := by induction o <;> simp_all [hasRefL, hasRef]
theorem good_starts {f f' : Fig} (h : figCheck f = 0) (hd : f'.dome = f.dome) (hp : f'.period = f.period) (hr : f'.run = f.run) (hn : f'.near = f.near) (ht : f'.times.length = f.times.length ∧ ∀ x ∈ f'.times, 1 ≤ x ∧ x ≤ 99) (hs : f'.starts.length = f.starts.length ∧ ∀ x ∈ f'.starts, 0 ≤ x ∧ x < f.period) : figCheck f' = 0 := by
  have hv := validF_of h
  have hper := hv.period
  unfold figCheck at h ⊢
  rw [hd]
  split at h
  · rename_i h1; exact absurd h h1
  · rename_i h1
    rw [if_neg h1, if_pos]
    have hg : goodFig f = true := by
      split at h
      · assumption
      · cases h
    unfold goodFig at hg ⊢
    rw [hp, hr, hn, hd, hs.1, ht.1]
    simp only [Qv] at hg ⊢
    obtain ⟨⟨⟨⟨⟨⟨a1, a2⟩, a3⟩, a4⟩, a5⟩, a6⟩, a7⟩ := hg
    refine ⟨⟨⟨⟨⟨⟨a1, a2⟩, a3⟩, a4⟩, a5⟩, ?_⟩, ?_⟩
    · rw [Q7]
      intro x hx
      have := hs.2 x hx
      simp only [within, Qv, decide_eq_true_eq]; omega
    · rw [Q7]
      intro x hx
      have := ht.2 x hx
      simp only [within, Qv, decide_eq_true_eq]; omega
def movedF (f : Fig) (by_ : Int) : Fig := { f with starts := f.starts.map fun x => (x + by_).tmod f.period }
theorem moved_ok {f : Fig} (h : figCheck f = 0) {b : Int} (hb : 0 ≤ b) : figCheck (movedF f b) = 0 := by
  have hv := validF_of h
  have hper := hv.period
  refine good_starts h rfl rfl rfl rfl ⟨rfl, hv.times⟩ ⟨by simp [movedF], fun x hx => ?_⟩
  obtain ⟨y, hy, rfl⟩ := List.mem_map.1 hx
  have := hv.starts y hy
  exact ⟨Int.tmod_nonneg _ (by omega), Int.tmod_lt_of_pos _ (by omega)⟩
theorem moved_own {f : Fig} (h : figCheck f = 0) {b : Int} (hb : 0 ≤ b) {i : Nat} (hi : i < f.starts.length) : ownN (ringOf (movedF f b)) i = ownN (ringOf f) i := by
  have hv := validF_of h
  have hper := hv.period
  have hl : (movedF f b).starts.length = f.starts.length := by simp [movedF]
  rw [ownN_get h hi, ownN_get (moved_ok h hb) (by rw [hl]; exact hi), hl]
  have hg : ∀ j, j < f.starts.length → (movedF f b).starts.getD j 0 = (f.starts.getD j 0 + b) % f.period := fun j hj => by
    have h0 := hv.starts _ (List.getElem_mem hj)
    simp only [Qu, movedF, List.getElem?_map]
    rw [Qw hj]
    simp only [Option.map_some, Q8]
    rw [Q0 (by omega)]
  rw [hg i hi, hg _ (Nat.mod_lt _ (by omega))]
  show meetsN f.period _ (modN _ f.period) f.near = _
  congr 1
  simp only [modN_eq (show 0 < f.period by omega)]
  rw [Int.emod_sub_emod, Int.sub_emod_emod]
  congr 1; omega
set_option maxRecDepth 20000 in
set_option maxHeartbeats 4000000 in
theorem P12 (f : Fig) (by_ seam : Int) : PureCall Try.prog 12 [.ag (eFig f), .i by_, .i seam] (.b true) := by
  refine pure_body okHB hmix Try.func12 N.cb12 N.cc12 N.cs12 N.cn12 ?_
  have g1 := b16 f
  have g2 := b21o f
  have g9 := b17
  simp only [eFig] at g1 g2
  cases hf : readyF f with
  | false => simp only [N.rc12, N.rs12, g1, g9, hf, ru_reg, ru_seq, ru_cnd, ru_ret, ru_keep, thenQ, run_nil, run_cons, Fam.step, stepQ, needQ, condB, ug, evO, opv, qv, pickV_bb, binV, ldV, lenV, callV, V.cells, solid, hasRef, hasRefL, flat, upd_some, lkp_cons, lkp_nil, ↓reduceIte, Nat.reduceEqDiff, Nat.reduceAdd, Nat.reduceLT, Nat.reduceLeDiff, Qc, Qk, Ql, Qo, Qg, Qi, Qa, Qh, Qd, Qr, Qj, Qe, endQ, rvs, rv1, resV, vw_i, vw_b, vw_sl, vw_ag, zipA, Qp, Qm, Qs, Qn, Qt, Q2, Qb, Qq, and_true, and_self, forall_const, implies_true, reduceCtorEq, beq_false, imp_self, Qf, eFig]
  | true =>
    have hf' := hf
    unfold readyF at hf'
    rw [Qv, Bool.not_eq_true', decide_eq_true_eq] at hf'
    obtain ⟨hfar, he⟩ := hf'
    obtain ⟨h1, _, hp⟩ := openE_ok he
    have hv := validF_of h1
    have hns := hv.ns
    have h21 := farRing_ok (farF_ring hfar)
    by_cases hm1 : by_ < 0
    case pos => simp only [N.rc12, N.rs12, g1, g9, hf, hm1, ru_reg, ru_seq, ru_cnd, ru_ret, ru_keep, thenQ, run_nil, run_cons, Fam.step, stepQ, needQ, condB, ug, evO, opv, qv, pickV_bb, binV, ldV, lenV, callV, V.cells, solid, hasRef, hasRefL, flat, upd_some, lkp_cons, lkp_nil, ↓reduceIte, Nat.reduceEqDiff, Nat.reduceAdd, Nat.reduceLT, Nat.reduceLeDiff, Qc, Qk, Ql, Qo, Qg, Qi, Qa, Qh, Qd, Qr, Qj, Qe, endQ, rvs, rv1, resV, vw_i, vw_b, vw_sl, vw_ag, zipA, beq_self_eq_true, Qp, Qm, Qs, Qn, Qt, Qb, Qq, decide_true, and_true, and_self, forall_const, implies_true, reduceCtorEq, beq_false, imp_self, Qf, eFig]
    by_cases hm2 : 1000 < by_
    case pos => simp only [N.rc12, N.rs12, g1, g9, hf, hm1, hm2, ru_reg, ru_seq, ru_cnd, ru_ret, ru_keep, thenQ, run_nil, run_cons, Fam.step, stepQ, needQ, condB, ug, evO, opv, qv, pickV_bb, binV, ldV, lenV, callV, V.cells, solid, hasRef, hasRefL, flat, upd_some, lkp_cons, lkp_nil, ↓reduceIte, Nat.reduceEqDiff, Nat.reduceAdd, Nat.reduceLT, Nat.reduceLeDiff, Qc, Qk, Ql, Qo, Qg, Qi, Qa, Qh, Qd, Qr, Qj, Qe, endQ, rvs, rv1, resV, vw_i, vw_b, vw_sl, vw_ag, zipA, beq_self_eq_true, Qp, Qm, Qs, Qn, Qt, Qb, Qq, decide_true, decide_false, and_true, and_self, forall_const, implies_true, reduceCtorEq, beq_false, imp_self, Qf, eFig]
    by_cases hs1 : seam < 0
    case pos => simp only [N.rc12, N.rs12, g1, g9, hf, hm1, hm2, hs1, ru_reg, ru_seq, ru_cnd, ru_ret, ru_keep, thenQ, run_nil, run_cons, Fam.step, stepQ, needQ, condB, ug, evO, opv, qv, pickV_bb, binV, ldV, lenV, callV, V.cells, solid, hasRef, hasRefL, flat, upd_some, lkp_cons, lkp_nil, ↓reduceIte, Nat.reduceEqDiff, Nat.reduceAdd, Nat.reduceLT, Nat.reduceLeDiff, Qc, Qk, Ql, Qo, Qg, Qi, Qa, Qh, Qd, Qr, Qj, Qe, endQ, rvs, rv1, resV, vw_i, vw_b, vw_sl, vw_ag, zipA, beq_self_eq_true, Qp, Qm, Qs, Qn, Qt, Qb, Qq, decide_true, decide_false, and_true, and_self, forall_const, implies_true, reduceCtorEq, beq_false, imp_self, Qf, eFig]
    by_cases hs2 : (f.starts.length : Int) ≤ seam
    case pos => simp only [N.rc12, N.rs12, g1, g9, hf, hm1, hm2, hs1, hs2, ru_reg, ru_seq, ru_cnd, ru_ret, ru_keep, thenQ, run_nil, run_cons, Fam.step, stepQ, needQ, condB, ug, evO, opv, qv, pickV_bb, binV, ldV, lenV, callV, V.cells, solid, hasRef, hasRefL, flat, upd_some, lkp_cons, lkp_nil, ↓reduceIte, Nat.reduceEqDiff, Nat.reduceAdd, Nat.reduceLT, Nat.reduceLeDiff, Qc, Qk, Ql, Qo, Qg, Qi, Qa, Qh, Qd, Qr, Qj, Qe, endQ, rvs, rv1, resV, vw_i, vw_b, vw_sl, vw_ag, zipA, beq_self_eq_true, Qp, Qm, Qn, Qt, Qb, decide_true, decide_false, and_self, forall_const, implies_true, reduceCtorEq, Qf, eFig]
    have hper := hv.period
    have hng := hv.dome.ng
    have hns0 : ∀ k, shL k (f.starts.map V.i) = f.starts.map V.i := fun k => shL_noref k _ (nr_i _)
    have hnt0 : ∀ k, shL k (f.times.map V.i) = f.times.map V.i := fun k => shL_noref k _ (nr_i _)
    simp only [N.rc12, N.rs12, g1, g2, hf, hm1, hm2, hs1, hs2, h21, copyF, copyFH, fl_I, hns0, hnt0, ru_skip, ru_reg, ru_seq, ru_cnd, ru_block, ru_keep, stepO, ocV, nidQ, plO, plQ, plB, rflat, rflatL, rflatB, shV, shL, shB, vB_cells, putB, thenQ, run_nil, run_cons, Fam.step, stepQ, stepW, needQ, needW, condB, ug, putB, nv, sv, evO, opv, qv, pickV_bb, binV, ldV, lenV, callV, putAt, V.cells, solid, cellOk, hasRef, hasRefL, flat, upd_some, upd_none, lkp_cons, lkp_nil, ↓reduceIte, Nat.reduceEqDiff, Nat.reduceAdd, Nat.reduceLT, Nat.reduceLeDiff, Qc, Qk, Ql, Qo, Qg, Qi, Qa, Qh, List.drop_nil, Qd, Q3, Qr, Qj, Q9, Qz, Qe, Qx, Qy, Q4, Q5, vw_i, vw_sl, vw_ag, zipA, beq_self_eq_true, Qp, Qm, Qs, Zc, Bool.and_false, Qn, Qt, Q2, Qb, decide_false, true_and, and_self, forall_const, implies_true, reduceCtorEq, Qf, eFig]
    obtain ⟨L, hL⟩ : ∃ L, L = (movedF f by_).starts := ⟨_, rfl⟩
    have hLl : L.length = f.starts.length := by rw [hL]; simp [movedF]
    refine ru_count f.starts.length (fun i => ⟨lkp [(1, .i by_), (2, .i seam), (3, .pa (eFig f)), (7, .ad 6 0 0), (8, .i i)],
      [.cells 0 (copyF f), .cells 0 (copyF f), .cells 1 ((L.take i ++ f.starts.drop i).map V.i), .hole, .cells 1 (f.times.map V.i), .hole, .cells 0 (copyF f)]⟩) ?_ ?_ ?_
    · simp only [Int.natCast_zero, copyF, kp, lkp_cons, lkp_nil, ↓reduceIte, Nat.reduceEqDiff, Qc, Qk, Qh, Q3, Qz, eFig]
      rfl
    · intro i hi
      obtain ⟨x, hx⟩ : ∃ x, f.starts[i]? = some x := ⟨_, Qw hi⟩
      have hy : L[i]? = some ((x + by_).tmod f.period) := by rw [hL]; simp [movedF, hx]
      have hxx := hv.starts x (List.mem_of_getElem? hx)
      have hlt : (i : Int) < f.starts.length := by omega
      have h3 : inI ((i : Int) + 1) := by unfold inI; omega
      have h4 : inI (x + by_) := by unfold inI; omega
      have h5 : ¬ f.period = 0 := by omega
      obtain ⟨pre, hpre⟩ : ∃ pre, pre = (L.take i).map V.i := ⟨_, rfl⟩
      obtain ⟨post, hpost⟩ : ∃ post, post = (f.starts.drop (i + 1)).map V.i := ⟨_, rfl⟩
      have hpl : pre.length = i := by rw [hpre, Qf, List.length_take]; omega
      have e1 : (L.take i ++ f.starts.drop i).map V.i = pre ++ V.i x :: post := by
        rw [Q1, ← hpre, List.drop_eq_getElem_cons hi, Qc, ← hpost]
        rw [Qw hi] at hx
        rw [Option.some.inj hx]
      have e2 : (L.take (i + 1) ++ f.starts.drop (i + 1)).map V.i = pre ++ V.i ((x + by_).tmod f.period) :: post := by
        rw [take_succ_of hy, Q1, Q1, ← hpre, ← hpost]; simp
      rw [e1, e2]
      have hdrop : ∀ x : V, List.drop i (pre ++ x :: post) = x :: post := fun x => by simp [hpl]
      have htake : ∀ x : V, List.take i (pre ++ x :: post) = pre := fun x => List.take_left' hpl
      have hdrop1 : ∀ x : V, List.drop (i + 1) (pre ++ x :: post) = post := fun x => by simp [List.drop_append, hpl]
      have hle : i + 1 ≤ i + (post.length + 1) := by omega
      simp only [copyF, hlt, h3, h4, h5, Nat.mul_one, hdrop, htake, hdrop1, List.append_assoc, List.length_append, hpl, hle, Za, Zb, ru_skip, ru_reg, ru_any, ru_seq, ru_cnd, ru_block, ru_keep, putBs, optL, thenQ, blockQ, run_nil, run_cons, Fam.step, stepQ, needW, runX, eff, nextD, fpR, fpQ, fpV, disjB, hits, nv, sv, evO, opv, qv, binV, ldV, iadV, lenV, curG, putAt, V.cells, solid, cellOk, kp, upd_some, upd_none, lkp_cons, lkp_nil, ↓reduceIte, Nat.reduceEqDiff, Nat.reduceAdd, Nat.reduceLeDiff, Qc, Qk, Ql, Qo, Qg, Qi, Qa, Qh, Qj, Q9, Qz, Qe, Qx, Qy, List.getElem?_nil, Option.getD_none, Q4, Q5, List.replicate_zero, List.isEmpty_nil, List.isEmpty_cons, Int.natCast_nonneg, beq_self_eq_true, Qp, Qm, Qs, Bool.true_and, Zc, Qn, Bool.false_or, Qt, Q2, Qb, decide_true, and_self, not_false_eq_true, ne_eq, List.any_cons, List.any_nil, List.contains_cons, List.contains_nil, Q6, Qu, eFig]
    · have e3 : (L.take f.starts.length ++ f.starts.drop f.starts.length) = L := by
        rw [List.take_of_length_le (by omega), List.drop_of_length_le (by omega), Qe]
      rw [e3]
      have hc1 := chunk_i L
      rw [hLl] at hc1
      have hc2 := chunk_i f.times
      have hok' := moved_ok h1 (b := by_) (by omega)
      have he' : openE (movedF f by_) true = 0 := by simp [openE, hok']; exact hp
      have g3 := b38 f seam
      have g4 := b38 (movedF f by_) seam
      have g5 := b19 f
      have g6 := b19 (movedF f by_)
      have g7 := b18 f
      have g8 := b18 (movedF f by_)
      have hown : ∀ i : Nat, i < f.starts.length → ownN (ringOf (movedF f by_)) i = ownN (ringOf f) i := fun i hi => moved_own h1 (by omega) hi
      have hw : within seam 0 ((f.dome.gores.length : Int) - 1) = true := by simp only [within, Qv, decide_eq_true_eq]; omega
      have hme : meetsR (movedF f by_) seam = meetsR f seam := by
        have e1 : meetsR (movedF f by_) seam = (ownN (ringOf (movedF f by_)) seam, 0) := by
          unfold meetsR
          rw [show (movedF f by_).dome = f.dome from rfl, hw, if_pos he']
        have e2 : meetsR f seam = (ownN (ringOf f) seam, 0) := by unfold meetsR; rw [hw, if_pos he]
        rw [e1, e2]
        have := hown seam.toNat (by omega)
        rw [show ((seam.toNat : Nat) : Int) = seam by omega] at this
        rw [this]
      have hba : badR (movedF f by_) = badR f := by
        unfold badR
        rw [if_pos he', if_pos he, show (movedF f by_).dome = f.dome from rfl]
        congr 1
        unfold badTo
        refine List.filter_congr fun x hx => ?_
        obtain ⟨i, hi, rfl⟩ := List.mem_map.1 hx
        rw [hown i (by have := List.mem_range.1 hi; omega)]
      have hle : leastR (movedF f by_) = leastR f := by
        unfold leastR
        rw [if_pos he', if_pos he]; rfl
      rw [hme] at g4
      rw [hba] at g6
      rw [hle] at g8
      have hgl : f.dome.gores.length < 1000000 := by omega
      have hbl : (badR f).1.length < 10000000 := by have := bad_len f; omega
      simp only [eFig, eNE, eLE, show (movedF f by_).dome = f.dome from rfl, show (movedF f by_).period = f.period from rfl, show (movedF f by_).run = f.run from rfl, show (movedF f by_).near = f.near from rfl, show (movedF f by_).times = f.times from rfl, ← hL] at g3 g4 g5 g6 g7 g8
      simp only [copyF, Int.lt_irrefl, hpF, upB, upL, upV, upL_noref _ _ (nr_i _), Nat.mul_one, Qf, hLl, Nat.le_refl, hc1, hc2, vw_I, g3, g4, g5, g6, g7, g8, g9, hgl, hbl, b32, eq_self, ru_reg, ru_seq, ru_cnd, ru_exit, ru_ret, ru_keep, ru_drp, ↓cut_lkp, cutH, thenQ, blockQ, run_nil, run_cons, Fam.step, stepQ, needQ, condB, ug, evO, opv, qv, pickV_bb, binV, ldV, lenV, curG, callV, hasRef, hasRefL, flat, flatL, cutV, upd_some, lkp_cons, lkp_nil, ↓reduceIte, Nat.reduceEqDiff, Nat.reduceAdd, Nat.reduceLT, Nat.reduceLeDiff, Qc, Qk, Ql, Qo, Qg, Qi, Qa, Qh, Qd, Q3, Qr, Qj, Qz, Qe, Qx, Qy, Q8, endQ, rvs, rv1, resV, vw_i, vw_b, vw_sl, vw_ag, vw_ad, vw_rf, Int.lt_irrefl, beq_self_eq_true, Qp, Qm, Qs, Qn, Qb, Qq, decide_true, decide_false, and_self, forall_const, implies_true, imp_self, Qf, eFig]
end Go.C02
