/- The Go function TopFilled of package ferruletop returns true, and each argument reads afterwards as it read before, where what it reads is of bounded bulk. -/
import Derived.Test.YtjimcmcffjibmaaGreatG6
import Derived.Test.YtjimcmcffjibmaaGreatG9
import Derived.Test.YtjimcmcffjibmaaGreatRows
set_option linter.all false
set_option maxHeartbeats 4000000
namespace Go.Proofs.YtjimcmcffjibmaaGreat
open Go.Fam Go.CS Go.ChangeShapes Go.WideShapes Go.ChangeAt Go.RowKit
theorem bulk_one {H : Type} (d : DataW H) : 1 ≤ Rows.uptoBulk d := by
  cases d with
  | lit l => cases l <;> simp [Rows.uptoBulk]
  | nil => simp [Rows.uptoBulk]
  | ptr d => simp [Rows.uptoBulk]
  | slice elems spare => simp [Rows.uptoBulk]
  | agg parts => simp [Rows.uptoBulk]
  | iface t d => simp [Rows.uptoBulk]
  | map entries => simp [Rows.uptoBulk]
  | held h => simp [Rows.uptoBulk]
theorem bulk_part {H : Type} {d : DataW H} {l : List (DataW H)} (h : d ∈ l) : Rows.uptoBulk d ≤ Rows.uptoBulkAll l := by
  induction l with
  | nil => cases h
  | cons x r ih =>
    simp only [Rows.uptoBulkAll]
    rcases List.mem_cons.1 h with e | e
    · subst e; omega
    · have := ih e; omega
theorem bulk_len {H : Type} (l : List (DataW H)) : l.length ≤ Rows.uptoBulkAll l := by
  induction l with
  | nil => simp [Rows.uptoBulkAll]
  | cons x r ih => have := bulk_one x; simp only [Rows.uptoBulkAll, List.length_cons]; omega
theorem bulk_ok {H : Type} : Go.FamN.BkOk (Rows.uptoBulk : DataW H → Nat) := by
  refine ⟨fun elems spare d h => ?_, fun elems spare => ?_, fun parts d h => ?_⟩
  · have := bulk_part h
    simp only [Rows.uptoBulk]; omega
  · have := bulk_len elems
    simp only [Rows.uptoBulk]; omega
  · have := bulk_part h
    simp only [Rows.uptoBulk]; omega
set_option maxRecDepth 100000 in
theorem topFilled_lifted (os : Os) (started : os.Started) (H : Type) (enc : TypeId × Value → H) (F : Stop.Interp) :
    ReturnsInHanded {} Tryz.checked os 3 .any ((Rows.OpenSpec.upto Rows.topFilledSpec).pre6 enc Tryz.prog Tryz.f3 Rows.topFilledUptoRow.domain false) (((Rows.OpenSpec.upto Rows.topFilledSpec).at F).post enc Tryz.prog Tryz.f3 false true false false) := by
  refine returnsInHanded_of_cond (C := Tryz.checked) (s := Rows.OpenSpec.upto Rows.topFilledSpec) (k := Rows.uptoSmall) rfl own started (by kernel_rfl) Tryz.func3
    (OpenSpec.witness (enc := enc) (C := Tryz.checked) (s := Rows.OpenSpec.upto Rows.topFilledSpec) (k := Rows.uptoSmall) rfl false ⟨#[], #[.agg #[.slice none 0 0, .slice none 0 0, .int .i64 0, .slice none 0 0, .slice none 0 0, .slice none 0 0, .slice none 0 0, .slice none 0 0, .int .i64 0], .slice none 0 0], []⟩ 8 (by kernel_rfl) (by kernel_rfl) (by kernel_rfl)
      (x := ([.agg [.agg [.nil, .nil, .lit (.int .i64 0), .nil], .nil, .nil, .nil, .nil, .lit (.int .i64 0)], .nil], [], [])) (by kernel_rfl) rfl (by kernel_rfl)) ?_
  intro W base args ds gs before hval hW _ hk _
  have hb : Rows.uptoBulkAll (ds ++ gs) ≤ 1048576 := of_decide_eq_true hk
  exact Go.FamN.bridge (bk := Rows.uptoBulk) (N := 1048576) (enc := enc) (s := (Rows.OpenSpec.upto Rows.topFilledSpec).at F) (ts := [32, 27]) laid (by kernel_rfl) (fun W => (Go.FamN.rdA_cons (aShop bulk_ok) (Go.FamN.rdA_cons (aInts bulk_ok) Go.FamN.rdA_nil))) (by kernel_rfl) rfl
    (fun ds h => match ds, h with | [_, _], _ => rfl) (tb := 4) (by kernel_rfl) (by kernel_rfl) (fun a h => P3u a.1 a.2.1 (h.1.big (by decide)) (Nat.le_trans h.2.1 (by decide))) hval hW (fun d hd => Nat.le_trans (bulk_part (List.mem_append.2 (.inl hd))) hb)
theorem topFilled_holds : Rows.TopFilledUptoSaid :=
  OpenClaim.holds_of_cond 3 Tryz.f3 rfl rfl rfl rfl rfl rfl rfl ⟨rfl, rfl, rfl, rfl, rfl⟩ rfl rfl rfl rfl rfl (by kernel_rfl) Tryz.func3 (by kernel_rfl)
    (of_decide_eq_true (by kernel_rfl)) (by unfold Func.isWrapper; first | (rw [if_pos (by decide +kernel)]; kernel_rfl) | (rw [if_neg (by decide +kernel)]; exact ⟨rfl, rfl⟩))
    (fun os started H enc _ F => topFilled_lifted os started H enc F)
#print axioms topFilled_holds
end Go.Proofs.YtjimcmcffjibmaaGreat
