/- For every input, the Go function TopFilled of package ferruletop returns true, and each argument reads afterwards as it read before. No condition. -/
import Derived.Test.YtjimcmcffjibmaaGreatG6
import Derived.Test.YtjimcmcffjibmaaGreatG9
import Derived.Test.YtjimcmcffjibmaaGreatRows
set_option linter.all false
set_option maxHeartbeats 4000000
namespace Go.Proofs.YtjimcmcffjibmaaGreat
open Go.Fam Go.CS Go.ChangeShapes Go.WideShapes Go.ChangeAt Go.RowKit
set_option maxRecDepth 100000 in
theorem topFilled_lifted (os : Os) (started : os.Started) (H : Type) (enc : TypeId × Value → H) :
    ReturnsInHanded {} Tryz.checked os 3 .any (Rows.topFilledSpec.pre6 enc Tryz.prog Tryz.f3 Rows.topFilledRow.domain false) (Rows.topFilledSpec.post enc Tryz.prog Tryz.f3 false true false false) := by
  refine returnsInHanded_of_change_sized (C := Tryz.checked) own started (by kernel_rfl) Tryz.func3
    (ChangeSpec.witness6 (enc := enc) (C := Tryz.checked) false ⟨#[], #[.agg #[.slice none 0 0, .slice none 0 0, .int .i64 0, .slice none 0 0, .slice none 0 0, .slice none 0 0, .slice none 0 0, .slice none 0 0, .int .i64 0], .slice none 0 0], []⟩ 8 (by kernel_rfl) (by kernel_rfl) (by kernel_rfl) (by kernel_rfl)) ?_
  intro W base args ds gs before hval hW _ hk _
  exact Go.FamR.bridge (enc := enc) (ts := [32, 27]) laid (by kernel_rfl) (fun W => (Go.FamR.rdA_cons aShop (Go.FamR.rdA_cons aInts Go.FamR.rdA_nil))) (by kernel_rfl) rfl
    (fun ds h => match ds, h with | [_, _], _ => rfl) (tb := 4) (by kernel_rfl) (by kernel_rfl) (fun a h => P3u a.1 a.2.1 h.1) hval hW (Go.FamR.wtE_app hk)
theorem topFilled_holds : Rows.TopFilledSaid :=
  OpenClaim.holds_of_wide 3 Tryz.f3 rfl rfl rfl rfl rfl rfl rfl ⟨rfl, rfl, rfl, rfl, rfl⟩ rfl rfl rfl rfl rfl (by kernel_rfl) Tryz.func3 (by kernel_rfl)
    (of_decide_eq_true (by kernel_rfl)) (by unfold Func.isWrapper; first | (rw [if_pos (by decide +kernel)]; kernel_rfl) | (rw [if_neg (by decide +kernel)]; exact ⟨rfl, rfl⟩))
    (fun os started H enc _ => topFilled_lifted os started H enc)
#print axioms topFilled_holds
end Go.Proofs.YtjimcmcffjibmaaGreat
