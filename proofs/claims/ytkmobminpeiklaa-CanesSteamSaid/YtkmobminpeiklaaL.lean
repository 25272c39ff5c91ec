/- For every input, the Go function CanesSteam of package ferrulelaw06 returns true, and each argument reads afterwards as it read before. No condition. -/
import Derived.Test.YtkmobminpeiklaaG5
import Derived.Test.YtkmobminpeiklaaG8
set_option linter.all false
namespace Go.Proofs.Ytkmobminpeiklaa
open Go.Fam Go.C06 Go.ChangeShapes Go.WideShapes Go.ChangeAt Go.RowKit
set_option maxRecDepth 100000 in
theorem canesSteam_lifted (os : Os) (started : os.Started) (H : Type) (enc : TypeId × Value → H) :
    ReturnsInHanded {} Try.checked os 14 .any (Rows.canesSteamSpec.pre6 enc Try.prog Try.f14 Rows.canesSteamRow.domain false) (Rows.canesSteamSpec.post enc Try.prog Try.f14 false true false false) := by
  refine returnsInHanded_of_change (C := Try.checked) own started (by kernel_rfl) Try.func14
    (ChangeSpec.witness6 (enc := enc) (C := Try.checked) false ⟨#[], #[.agg #[.int .i64 0, .slice none 0 0], .slice none 0 0], []⟩ 8 (by kernel_rfl) (by kernel_rfl) (by kernel_rfl) (by kernel_rfl)) ?_
  intro W base args ds gs before hval hW _ _
  exact bridge (enc := enc) (ts := [69, 27]) laid (by kernel_rfl) (fun W => (Qy4 aBox (Qy4 aInts Qyt))) (by kernel_rfl) rfl
    (fun ds h => match ds, h with | [_, _], _ => rfl) (tb := 4) (by kernel_rfl) (by kernel_rfl) (fun a h => P14 a.1 a.2.1) hval hW
theorem canesSteam_holds : Rows.CanesSteamSaid :=
  OpenClaim.holds_of_wide 14 Try.f14 rfl rfl rfl rfl rfl rfl rfl ⟨rfl, rfl, rfl, rfl, rfl⟩ rfl rfl rfl rfl rfl (by kernel_rfl) Try.func14 (by kernel_rfl)
    (of_decide_eq_true (by kernel_rfl)) (by unfold Func.isWrapper; first | (rw [if_pos (by decide +kernel)]; kernel_rfl) | (rw [if_neg (by decide +kernel)]; exact ⟨rfl, rfl⟩))
    (fun os started H enc _ => canesSteam_lifted os started H enc)
#print axioms canesSteam_holds
end Go.Proofs.Ytkmobminpeiklaa
