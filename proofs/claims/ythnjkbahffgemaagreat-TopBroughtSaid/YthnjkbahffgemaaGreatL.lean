/- For every input, the Go function TopBrought of package ferruletop returns true, and each argument reads afterwards as it read before. No condition. -/
import Derived.Test.YthnjkbahffgemaaGreatG5
import Derived.Test.YthnjkbahffgemaaGreatG8
set_option linter.all false
namespace Go.Proofs.YthnjkbahffgemaaGreat
open Go.Fam Go.CS Go.ChangeShapes Go.WideShapes Go.ChangeAt Go.RowKit
set_option maxRecDepth 100000 in
theorem topBrought_lifted (os : Os) (started : os.Started) (H : Type) (enc : TypeId × Value → H) :
    ReturnsInHanded {} Tryz.checked os 3 .any (Rows.topBroughtSpec.pre6 enc Tryz.prog Tryz.f3 Rows.topBroughtRow.domain false) (Rows.topBroughtSpec.post enc Tryz.prog Tryz.f3 false true false false) := by
  refine returnsInHanded_of_change (C := Tryz.checked) own started (by kernel_rfl) Tryz.func3
    (ChangeSpec.witness6 (enc := enc) (C := Tryz.checked) false ⟨#[], #[.slice none 0 0, .int .i64 0, .int .i64 0], []⟩ 8 (by kernel_rfl) (by kernel_rfl) (by kernel_rfl) (by kernel_rfl)) ?_
  intro W base args ds gs before hval hW _ _
  exact bridge (enc := enc) (ts := [22, 3, 3]) laid (by kernel_rfl) (fun W => (rdA_cons aInts (rdA_cons aInt (rdA_cons aInt rdA_nil)))) (by kernel_rfl) rfl
    (fun ds h => match ds, h with | [_, _, _], _ => rfl) (tb := 4) (by kernel_rfl) (by kernel_rfl) (fun a h => Go.CS.P3 a.1 a.2.1 a.2.2.1) hval hW
theorem topBrought_holds : Rows.TopBroughtSaid :=
  OpenClaim.holds_of_wide 3 Tryz.f3 rfl rfl rfl rfl rfl rfl rfl ⟨rfl, rfl, rfl, rfl, rfl⟩ rfl rfl rfl rfl rfl (by kernel_rfl) Tryz.func3 (by kernel_rfl)
    (of_decide_eq_true (by kernel_rfl)) (by unfold Func.isWrapper; first | (rw [if_pos (by decide +kernel)]; kernel_rfl) | (rw [if_neg (by decide +kernel)]; exact ⟨rfl, rfl⟩))
    (fun os started H enc _ => topBrought_lifted os started H enc)
#print axioms topBrought_holds
end Go.Proofs.YthnjkbahffgemaaGreat
