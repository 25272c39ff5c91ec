import Derived.Test.YtgcinomjcgebhaaC02X3
import Derived.Test.YtgcinomjcgebhaaC02V
set_option linter.all false
set_option linter.unusedSimpArgs false
set_option linter.unusedVariables false
namespace Go.C02
open Go.Fam Go.Proofs Go.ChangeAt
variable {H : Type} {enc : TypeId × Value → H} {W : World}
theorem rdIntsL : Rd enc Try.prog W 23 (fun l : List Int => [.sl 1 (l.map eI)]) (fun l => inI l.length) :=
  (rd_slice (el := 3) (es := 1) (by kernel_rfl) (by kernel_rfl) (by decide) rdInt).map id (fun _ => rfl) fun l h => by
    have := h.2
    unfold maxLen at this
    show inI (l.length : Int)
    unfold inI
    omega
theorem aIntsL : RdV enc Try.prog W 23 (fun l : List Int => .sl 1 (l.map eI)) (fun l => inI l.length) := Rd.one (one_slice (el := 3) (by kernel_rfl)) rdIntsL
end Go.C02
