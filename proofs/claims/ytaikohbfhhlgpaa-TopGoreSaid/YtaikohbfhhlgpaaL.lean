/- For every input, the Go function TopGore of package ferruletop returns true, and each argument reads afterwards as it read before. No condition. -/
import Derived.Test.YtaikohbfhhlgpaaG5
import Derived.Test.YtaikohbfhhlgpaaG7
set_option linter.all false
namespace Go.Proofs.Ytaikohbfhhlgpaa
open Go.Fam Go.CT Go.ChangeShapes Go.WideShapes Go.ChangeAt Go.RowKit
set_option maxRecDepth 100000 in
theorem topGore_lifted (os : Os) (started : os.Started) (H : Type) (enc : TypeId × Value → H) :
    ReturnsInHanded {} Try.checked os 3 .any (Rows.topGoreSpec.pre6 enc Try.prog Try.f3 Rows.topGoreRow.domain false) (Rows.topGoreSpec.post enc Try.prog Try.f3 false true false false) := by
  refine returnsInHanded_of_change (C := Try.checked) own started (by kernel_rfl) Try.func3
    (ChangeSpec.witness6 (enc := enc) (C := Try.checked) false ⟨#[], #[.agg #[.slice none 0 0, .slice none 0 0, .int .i64 0, .slice none 0 0, .slice none 0 0, .int .i64 0]], []⟩ 8 (by kernel_rfl) (by kernel_rfl) (by kernel_rfl) (by kernel_rfl)) ?_
  intro W base args ds gs before hval hW _ _
  exact bridge (enc := enc) (ts := [26]) laid (by kernel_rfl) (fun W => (Qyh aDome Qyx)) (by kernel_rfl) rfl
    (fun ds h => match ds, h with | [_], _ => rfl) (tb := 4) (by kernel_rfl) (by kernel_rfl) (fun a h => Go.CT.P3 a.1) hval hW
theorem topGore_holds : Rows.TopGoreSaid :=
  OpenClaim.holds_of_wide 3 Try.f3 rfl rfl rfl rfl rfl rfl rfl ⟨rfl, rfl, rfl, rfl, rfl⟩ rfl rfl rfl rfl rfl (by kernel_rfl) Try.func3 (by kernel_rfl)
    (of_decide_eq_true (by kernel_rfl)) (by unfold Func.isWrapper; first | (rw [if_pos (by decide +kernel)]; kernel_rfl) | (rw [if_neg (by decide +kernel)]; exact ⟨rfl, rfl⟩))
    (fun os started H enc _ => topGore_lifted os started H enc)
#print axioms topGore_holds
end Go.Proofs.Ytaikohbfhhlgpaa
