import Derived.Test.YtgcinomjcgebhaaC02T
import Derived.Test.YtgcinomjcgebhaaFamE
import Derived.Test.YtgcinomjcgebhaaFamB
import Derived.Test.YtgcinomjcgebhaaRows
set_option linter.all false
set_option linter.unusedSimpArgs false
set_option linter.unusedVariables false
namespace Go.C02
open Go.Fam Go.Proofs Go.ChangeAt
variable {H : Type} {enc : TypeId × Value → H} {W : World}
theorem uInt : Try.prog.underlying 3 = some (.int .i64) := by kernel_rfl
theorem rdInt : Rd enc Try.prog W 3 eI inI := rd_int uInt
theorem rdInt' : Rd enc Try.prog W 3 eI (fun _ => True) := rdInt.map id (fun _ => rfl) fun _ _ => trivial
theorem rdSpan : Rd enc Try.prog W 34 eSpan (fun _ => True) :=
  (RdP.rd (fs := Try.prog.fieldsOf 34) (n := 2) (ps := [(3, 0), (3, 1)]) (by kernel_rfl) (by kernel_rfl) (by kernel_rfl)
    (rdP_cons (k := 1) (by kernel_rfl) rdInt (rdP_cons (k := 1) (by kernel_rfl) rdInt (rdP_nil (by decide))))).map (fun p => ⟨p.1, p.2.1⟩) (fun _ => rfl) fun _ _ => trivial
theorem rdStrip : Rd enc Try.prog W 52 eStrip (fun _ => True) :=
  (RdP.rd (fs := Try.prog.fieldsOf 52) (n := 3) (ps := [(3, 0), (34, 1)]) (by kernel_rfl) (by kernel_rfl) (by kernel_rfl)
    (rdP_cons (k := 1) (by kernel_rfl) rdInt (rdP_cons (k := 2) (by kernel_rfl) rdSpan (rdP_nil (by decide))))).map (fun p => ⟨p.1, p.2.1⟩) (fun _ => rfl) fun _ _ => trivial
theorem rdStrips : Rd enc Try.prog W 55 (fun l : List Strip => [.sl 3 (l.map eStrip)]) (fun _ => True) :=
  (rd_slice (el := 52) (es := 3) (by kernel_rfl) (by kernel_rfl) (by decide) rdStrip).map id (fun _ => rfl) fun _ _ => trivial
theorem rdInts : Rd enc Try.prog W 23 (fun l : List Int => [.sl 1 (l.map eI)]) (fun l => ∀ x ∈ l, inI x) :=
  (rd_slice (el := 3) (es := 1) (by kernel_rfl) (by kernel_rfl) (by decide) rdInt).map id (fun _ => rfl) fun _ h => h.1
theorem rdSpans : Rd enc Try.prog W 24 (fun l : List Span => [.sl 2 (l.map eSpan)]) (fun _ => True) :=
  (rd_slice (el := 34) (es := 2) (by kernel_rfl) (by kernel_rfl) (by decide) rdSpan).map id (fun _ => rfl) fun _ _ => trivial
theorem rdBolt : Rd enc Try.prog W 57 eBolt (fun _ => True) :=
  (RdP.rd (fs := Try.prog.fieldsOf 57) (n := 4) (ps := [(34, 0), (55, 2), (3, 3)]) (by kernel_rfl) (by kernel_rfl) (by kernel_rfl)
    (rdP_cons (k := 2) (by kernel_rfl) rdSpan (rdP_cons (k := 1) (by kernel_rfl) rdStrips (rdP_cons (k := 1) (by kernel_rfl) rdInt (rdP_nil (by decide)))))).map (fun p => ⟨p.1, p.2.1, p.2.2.1⟩) (fun _ => rfl) fun _ _ => trivial
theorem rdBolts : Rd enc Try.prog W 22 (fun l : List Bolt => [.sl 4 (l.map eBolt)]) (fun _ => True) :=
  (rd_slice (el := 57) (es := 4) (by kernel_rfl) (by kernel_rfl) (by decide) rdBolt).map id (fun _ => rfl) fun _ _ => trivial
theorem rdDome : Rd enc Try.prog W 26 eDome (fun _ => True) :=
  (RdP.rd (fs := Try.prog.fieldsOf 26) (n := 6) (ps := [(22, 0), (23, 1), (3, 2), (24, 3), (23, 4), (3, 5)]) (by kernel_rfl) (by kernel_rfl) (by kernel_rfl)
    (rdP_cons (k := 1) (by kernel_rfl) rdBolts (rdP_cons (k := 1) (by kernel_rfl) rdInts (rdP_cons (k := 1) (by kernel_rfl) rdInt
      (rdP_cons (k := 1) (by kernel_rfl) rdSpans (rdP_cons (k := 1) (by kernel_rfl) rdInts (rdP_cons (k := 1) (by kernel_rfl) rdInt (rdP_nil (by decide))))))))).map
    (fun p => ⟨p.1, p.2.1, p.2.2.1, p.2.2.2.1, p.2.2.2.2.1, p.2.2.2.2.2.1⟩) (fun _ => rfl) fun _ _ => trivial
theorem aDome : RdV enc Try.prog W 26 (fun d => .ag (eDome d)) (fun _ => True) := rdDome.agg (fs := Try.prog.fieldsOf 26) (by kernel_rfl)
theorem aInt : RdV enc Try.prog W 3 (fun n => .i n) inI := Rd.one (one_int uInt) rdInt
theorem aInts : RdV enc Try.prog W 23 (fun l : List Int => .sl 1 (l.map eI)) (fun l => ∀ x ∈ l, inI x) := Rd.one (one_slice (el := 3) (by kernel_rfl)) rdInts
theorem own : ownKnob Try.prog.godebug = none := by kernel_rfl
theorem laid : laidOutB Try.prog = true := by kernel_rfl
end Go.C02
