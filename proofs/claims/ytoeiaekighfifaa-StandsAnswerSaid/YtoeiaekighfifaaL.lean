/- For every input, the Go function StandsAnswer of package ferrulelaw10 returns true, and each argument reads afterwards as it read before. No condition. -/
import Derived.Test.YtoeiaekighfifaaG5
import Derived.Test.YtoeiaekighfifaaG8
set_option linter.all false
namespace Go.Proofs.Ytoeiaekighfifaa
open Go.Fam Go.C10 Go.ChangeShapes Go.WideShapes Go.ChangeAt Go.RowKit
set_option maxRecDepth 100000 in
theorem standsAnswer_lifted (os : Os) (started : os.Started) (H : Type) (enc : TypeId × Value → H) :
    ReturnsInHanded {} Try.checked os 10 .any (Rows.standsAnswerSpec.pre6 enc Try.prog Try.f10 Rows.standsAnswerRow.domain false) (Rows.standsAnswerSpec.post enc Try.prog Try.f10 false true false false) := by
  refine returnsInHanded_of_change (C := Try.checked) own started (by kernel_rfl) Try.func10
    (ChangeSpec.witness6 (enc := enc) (C := Try.checked) false ⟨#[], #[.agg #[.int .i64 0, .slice none 0 0, .int .i64 0]], []⟩ 8 (by kernel_rfl) (by kernel_rfl) (by kernel_rfl) (by kernel_rfl)) ?_
  intro W base args ds gs before hval hW _ _
  exact bridge (enc := enc) (ts := [24]) laid (by kernel_rfl) (fun W => (Qxb aStand Qyv)) (by kernel_rfl) rfl
    (fun ds h => match ds, h with | [_], _ => rfl) (tb := 4) (by kernel_rfl) (by kernel_rfl) (fun a h => P10 a.1) hval hW
theorem standsAnswer_holds : Rows.StandsAnswerSaid :=
  OpenClaim.holds_of_wide 10 Try.f10 rfl rfl rfl rfl rfl rfl rfl ⟨rfl, rfl, rfl, rfl, rfl⟩ rfl rfl rfl rfl rfl (by kernel_rfl) Try.func10 (by kernel_rfl)
    (of_decide_eq_true (by kernel_rfl)) (by unfold Func.isWrapper; first | (rw [if_pos (by decide +kernel)]; kernel_rfl) | (rw [if_neg (by decide +kernel)]; exact ⟨rfl, rfl⟩))
    (fun os started H enc _ => standsAnswer_lifted os started H enc)
#print axioms standsAnswer_holds
end Go.Proofs.Ytoeiaekighfifaa
