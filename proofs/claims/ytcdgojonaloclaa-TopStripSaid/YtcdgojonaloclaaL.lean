/- For every input, the Go function TopStrip of package ferruletop returns true, and each argument reads afterwards as it read before. No condition. -/
import Derived.Test.YtcdgojonaloclaaG6
import Derived.Test.YtcdgojonaloclaaP
set_option linter.all false
namespace Go.Proofs.Ytcdgojonaloclaa
open Go.Fam Go.C02 Go.ChangeShapes Go.WideShapes Go.ChangeAt Go.RowKit
set_option maxRecDepth 100000 in
theorem topStrip_lifted (os : Os) (started : os.Started) (H : Type) (enc : TypeId × Value → H) :
    ReturnsInHanded {} Try.checked os 14 .any (Rows.topStripSpec.pre6 enc Try.prog Try.f14 Rows.topStripRow.domain false) (Rows.topStripSpec.post enc Try.prog Try.f14 false true false false) := by
  refine returnsInHanded_of_change (C := Try.checked) own started (by kernel_rfl) Try.func14
    (ChangeSpec.witness6 (enc := enc) (C := Try.checked) false ⟨#[], #[.agg #[.slice none 0 0, .slice none 0 0, .int .i64 0, .slice none 0 0, .slice none 0 0, .int .i64 0, .int .i64 0, .int .i64 0, .int .i64 0, .slice none 0 0, .slice none 0 0], .int .i64 0, .agg #[.int .i64 0, .int .i64 0, .int .i64 0]], []⟩ 8 (by kernel_rfl) (by kernel_rfl) (by kernel_rfl) (by kernel_rfl)) ?_
  intro W base args ds gs before hval hW _ _
  exact bridge (enc := enc) (ts := [28, 3, 52]) laid (by kernel_rfl) (fun W => (Zd3 aFig (Zd3 aInt (Zd3 aStrip Zdn)))) (by kernel_rfl) rfl
    (fun ds h => match ds, h with | [_, _, _], _ => rfl) (tb := 4) (by kernel_rfl) (by kernel_rfl) (fun a h => P14 a.1 a.2.1 a.2.2.1) hval hW
theorem topStrip_holds : Rows.TopStripSaid :=
  OpenClaim.holds_of_wide 14 Try.f14 rfl rfl rfl rfl rfl rfl rfl ⟨rfl, rfl, rfl, rfl, rfl⟩ rfl rfl rfl rfl rfl (by kernel_rfl) Try.func14 (by kernel_rfl)
    (of_decide_eq_true (by kernel_rfl)) (by unfold Func.isWrapper; first | (rw [if_pos (by decide +kernel)]; kernel_rfl) | (rw [if_neg (by decide +kernel)]; exact ⟨rfl, rfl⟩))
    (fun os started H enc _ => topStrip_lifted os started H enc)
#print axioms topStrip_holds
end Go.Proofs.Ytcdgojonaloclaa
