/- For every input, the Go function ClothOrder of package ferrulelaw02 returns true, and each argument reads afterwards as it read before. No condition. -/
import Derived.Test.YtgcinomjcgebhaaG3
import Derived.Test.YtgcinomjcgebhaaG8
set_option linter.all false
namespace Go.Proofs.Ytgcinomjcgebhaa
open Go.Fam Go.C02 Go.ChangeShapes Go.WideShapes Go.ChangeAt Go.RowKit
set_option maxRecDepth 100000 in
theorem clothOrder_lifted (os : Os) (started : os.Started) (H : Type) (enc : TypeId × Value → H) :
    ReturnsInHanded {} Try.checked os 11 .any (Rows.clothOrderSpec.pre6 enc Try.prog Try.f11 Rows.clothOrderRow.domain false) (Rows.clothOrderSpec.post enc Try.prog Try.f11 false true false false) := by
  refine returnsInHanded_of_change (C := Try.checked) own started (by kernel_rfl) Try.func11
    (ChangeSpec.witness6 (enc := enc) (C := Try.checked) false ⟨#[], #[.agg #[.slice none 0 0, .slice none 0 0, .int .i64 0, .slice none 0 0, .slice none 0 0, .int .i64 0], .int .i64 0, .agg #[.int .i64 0, .int .i64 0]], []⟩ 8 (by kernel_rfl) (by kernel_rfl) (by kernel_rfl) (by kernel_rfl)) ?_
  intro W base args ds gs before hval hW _ _
  exact bridge (enc := enc) (ts := [26, 3, 54]) laid (by kernel_rfl) (fun W => (rdA_cons aDome (rdA_cons aInt (rdA_cons aAsk rdA_nil)))) (by kernel_rfl) rfl
    (fun ds h => match ds, h with | [_, _, _], _ => rfl) (tb := 4) (by kernel_rfl) (by kernel_rfl) (fun a h => P11 a.1 a.2.1 a.2.2.1) hval hW
theorem clothOrder_holds : Rows.ClothOrderSaid :=
  OpenClaim.holds_of_wide 11 Try.f11 rfl rfl rfl rfl rfl rfl rfl ⟨rfl, rfl, rfl, rfl, rfl⟩ rfl rfl rfl rfl rfl (by kernel_rfl) Try.func11 (by kernel_rfl)
    (of_decide_eq_true (by kernel_rfl)) (by unfold Func.isWrapper; first | (rw [if_pos (by decide +kernel)]; kernel_rfl) | (rw [if_neg (by decide +kernel)]; exact ⟨rfl, rfl⟩))
    (fun os started H enc _ => clothOrder_lifted os started H enc)
#print axioms clothOrder_holds
end Go.Proofs.Ytgcinomjcgebhaa
