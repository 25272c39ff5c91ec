/- For every input, the Go function StandsSwaps of package ferrulelaw10 returns true, and each argument reads afterwards as it read before. No condition. -/
import Derived.Test.YtoeiaekighfifaaG5
import Derived.Test.YtoeiaekighfifaaG8
set_option linter.all false
namespace Go.Proofs.Ytoeiaekighfifaa
open Go.Fam Go.C10 Go.ChangeShapes Go.WideShapes Go.ChangeAt Go.RowKit
set_option maxRecDepth 100000 in
theorem standsSwaps_lifted (os : Os) (started : os.Started) (H : Type) (enc : TypeId × Value → H) :
    ReturnsInHanded {} Try.checked os 6 .any (Rows.standsSwapsSpec.pre6 enc Try.prog Try.f6 Rows.standsSwapsRow.domain false) (Rows.standsSwapsSpec.post enc Try.prog Try.f6 false true false false) := by
  refine returnsInHanded_of_change (C := Try.checked) own started (by kernel_rfl) Try.func6
    (ChangeSpec.witness6 (enc := enc) (C := Try.checked) false ⟨#[], #[.slice none 0 0], []⟩ 8 (by kernel_rfl) (by kernel_rfl) (by kernel_rfl) (by kernel_rfl)) ?_
  intro W base args ds gs before hval hW _ _
  exact bridge (enc := enc) (ts := [30]) laid (by kernel_rfl) (fun W => (Qxg aInts Qz1)) (by kernel_rfl) rfl
    (fun ds h => match ds, h with | [_], _ => rfl) (tb := 4) (by kernel_rfl) (by kernel_rfl) (fun a h => P6 a.1) hval hW
theorem standsSwaps_holds : Rows.StandsSwapsSaid :=
  OpenClaim.holds_of_wide 6 Try.f6 rfl rfl rfl rfl rfl rfl rfl ⟨rfl, rfl, rfl, rfl, rfl⟩ rfl rfl rfl rfl rfl (by kernel_rfl) Try.func6 (by kernel_rfl)
    (of_decide_eq_true (by kernel_rfl)) (by unfold Func.isWrapper; first | (rw [if_pos (by decide +kernel)]; kernel_rfl) | (rw [if_neg (by decide +kernel)]; exact ⟨rfl, rfl⟩))
    (fun os started H enc _ => standsSwaps_lifted os started H enc)
#print axioms standsSwaps_holds
end Go.Proofs.Ytoeiaekighfifaa
