/-
  No cell of these rows narrows 'for every input' (looked for: loops, veiled, ifaces, maps, wideKeys, modest, calm, conditions, laid).
  DERIVED. THE GIVEN ROWS OF THIS SEAT. 13 by the template 'for every input the law returns true; each argument reads behind the call as it read before'; 0 by the template 'total and deterministic' (their statements: YtcdgojonaloclaaTotals.lean).
  GIVEN WITH THE SEED: the statements are not yours to turn. If you find one false, say at which input.
  Laid BY PROGRAM, IN A SANDBOX (cutbox-rows.mjs): the forced cells as the released guide's own fill.sh prints them over the translation 30a7be2b3daa4e8d… (all of the seat's roots in one cut). By AI agents, Wed Nov 11 2026. No macro, syntax, notation, axiom, sorry.
-/
import Derived.Test.YtcdgojonaloclaaChecked
import GoSem.Claim
import GoSem.ClaimJoined
import GoSem.ClaimMapViews
import Derived.JoinedTies
import Derived.KernelRfl
namespace Go.Proofs.Ytcdgojonaloclaa
/- THE CELL 'sum', in the pinned program and in every row, IS THE sha256 OF THE DUMP (.gsa) THAT YtcdgojonaloclaaProg.lean LOADS. Nothing in Lean hashes anything: it is a label: what it is worth is what the hold of that sum in a sandbox is worth. -/
noncomputable def Try.pinned : Pinned := { name := "ytcdgojonaloclaa", sum := "30a7be2b3daa4e8dc09c4ca0122ec18a5836986eee14eb3b4cfccf5f55dbe31f", checked := Try.checked }
namespace Rows
def none {H : Type} : Left H := { results := [], args := [] }

/-- 'ferrulelaw04.SeamsLess': WHATEVER THE INPUT: true; the input reads as it did. -/
def seamsLessSpec : ChangeSpec := { name := "seamsLess", fn := fun _ => fun
  | [d1, d2] => { results := [.lit (.bool true)], args := [d1, d2] }
  | _ => none }
def seamsLessRow : OpenClaim := { program := "ytcdgojonaloclaa", sum := "30a7be2b3daa4e8dc09c4ca0122ec18a5836986eee14eb3b4cfccf5f55dbe31f", func := "ferrule/ferrulelaw04.SeamsLess", spec := "seamsLess", unfollowed := true, recurses := true, plainKeys := false, apart := false }
def SeamsLessSaid : Prop := seamsLessRow.holds Try.pinned (OpenSpec.ofChange seamsLessSpec)

/-- ITS FALSE NEIGHBOUR: 'it returns false'. Refute it at one input. -/
def seamsLessWrong : ChangeSpec := { name := "seamsLess", fn := fun _ => fun
  | [d1, d2] => { results := [.lit (.bool false)], args := [d1, d2] }
  | _ => none }
def SeamsLessWrongFalsely : Prop := seamsLessRow.holds Try.pinned (OpenSpec.ofChange seamsLessWrong)

/-- 'ferrulelaw04.SeamsNearer': WHATEVER THE INPUT: true; the input reads as it did. -/
def seamsNearerSpec : ChangeSpec := { name := "seamsNearer", fn := fun _ => fun
  | [d1, d2] => { results := [.lit (.bool true)], args := [d1, d2] }
  | _ => none }
def seamsNearerRow : OpenClaim := { program := "ytcdgojonaloclaa", sum := "30a7be2b3daa4e8dc09c4ca0122ec18a5836986eee14eb3b4cfccf5f55dbe31f", func := "ferrule/ferrulelaw04.SeamsNearer", spec := "seamsNearer", unfollowed := true, recurses := true, plainKeys := false, apart := false }
def SeamsNearerSaid : Prop := seamsNearerRow.holds Try.pinned (OpenSpec.ofChange seamsNearerSpec)

/-- ITS FALSE NEIGHBOUR: 'it returns false'. Refute it at one input. -/
def seamsNearerWrong : ChangeSpec := { name := "seamsNearer", fn := fun _ => fun
  | [d1, d2] => { results := [.lit (.bool false)], args := [d1, d2] }
  | _ => none }
def SeamsNearerWrongFalsely : Prop := seamsNearerRow.holds Try.pinned (OpenSpec.ofChange seamsNearerWrong)

/-- 'ferrulelaw04.SeamsSooner': WHATEVER THE INPUT: true; the input reads as it did. -/
def seamsSoonerSpec : ChangeSpec := { name := "seamsSooner", fn := fun _ => fun
  | [d1, d2] => { results := [.lit (.bool true)], args := [d1, d2] }
  | _ => none }
def seamsSoonerRow : OpenClaim := { program := "ytcdgojonaloclaa", sum := "30a7be2b3daa4e8dc09c4ca0122ec18a5836986eee14eb3b4cfccf5f55dbe31f", func := "ferrule/ferrulelaw04.SeamsSooner", spec := "seamsSooner", unfollowed := true, recurses := true, plainKeys := false, apart := false }
def SeamsSoonerSaid : Prop := seamsSoonerRow.holds Try.pinned (OpenSpec.ofChange seamsSoonerSpec)

/-- ITS FALSE NEIGHBOUR: 'it returns false'. Refute it at one input. -/
def seamsSoonerWrong : ChangeSpec := { name := "seamsSooner", fn := fun _ => fun
  | [d1, d2] => { results := [.lit (.bool false)], args := [d1, d2] }
  | _ => none }
def SeamsSoonerWrongFalsely : Prop := seamsSoonerRow.holds Try.pinned (OpenSpec.ofChange seamsSoonerWrong)

/-- 'ferrulelaw04.SeamsQuicker': WHATEVER THE INPUT: true; the input reads as it did. -/
def seamsQuickerSpec : ChangeSpec := { name := "seamsQuicker", fn := fun _ => fun
  | [d1, d2, d3] => { results := [.lit (.bool true)], args := [d1, d2, d3] }
  | _ => none }
def seamsQuickerRow : OpenClaim := { program := "ytcdgojonaloclaa", sum := "30a7be2b3daa4e8dc09c4ca0122ec18a5836986eee14eb3b4cfccf5f55dbe31f", func := "ferrule/ferrulelaw04.SeamsQuicker", spec := "seamsQuicker", unfollowed := true, recurses := true, plainKeys := false, apart := false }
def SeamsQuickerSaid : Prop := seamsQuickerRow.holds Try.pinned (OpenSpec.ofChange seamsQuickerSpec)

/-- ITS FALSE NEIGHBOUR: 'it returns false'. Refute it at one input. -/
def seamsQuickerWrong : ChangeSpec := { name := "seamsQuicker", fn := fun _ => fun
  | [d1, d2, d3] => { results := [.lit (.bool false)], args := [d1, d2, d3] }
  | _ => none }
def SeamsQuickerWrongFalsely : Prop := seamsQuickerRow.holds Try.pinned (OpenSpec.ofChange seamsQuickerWrong)

/-- 'ferrulelaw04.SeamsWaste': WHATEVER THE INPUT: true; the input reads as it did. -/
def seamsWasteSpec : ChangeSpec := { name := "seamsWaste", fn := fun _ => fun
  | [d] => { results := [.lit (.bool true)], args := [d] }
  | _ => none }
def seamsWasteRow : OpenClaim := { program := "ytcdgojonaloclaa", sum := "30a7be2b3daa4e8dc09c4ca0122ec18a5836986eee14eb3b4cfccf5f55dbe31f", func := "ferrule/ferrulelaw04.SeamsWaste", spec := "seamsWaste", unfollowed := true, recurses := true, plainKeys := false, apart := false }
def SeamsWasteSaid : Prop := seamsWasteRow.holds Try.pinned (OpenSpec.ofChange seamsWasteSpec)

/-- ITS FALSE NEIGHBOUR: 'it returns false'. Refute it at one input. -/
def seamsWasteWrong : ChangeSpec := { name := "seamsWaste", fn := fun _ => fun
  | [d] => { results := [.lit (.bool false)], args := [d] }
  | _ => none }
def SeamsWasteWrongFalsely : Prop := seamsWasteRow.holds Try.pinned (OpenSpec.ofChange seamsWasteWrong)

/-- 'ferrulelaw04.SeamsBegin': WHATEVER THE INPUT: true; the input reads as it did. -/
def seamsBeginSpec : ChangeSpec := { name := "seamsBegin", fn := fun _ => fun
  | [d] => { results := [.lit (.bool true)], args := [d] }
  | _ => none }
def seamsBeginRow : OpenClaim := { program := "ytcdgojonaloclaa", sum := "30a7be2b3daa4e8dc09c4ca0122ec18a5836986eee14eb3b4cfccf5f55dbe31f", func := "ferrule/ferrulelaw04.SeamsBegin", spec := "seamsBegin", unfollowed := true, recurses := true, plainKeys := false, apart := false }
def SeamsBeginSaid : Prop := seamsBeginRow.holds Try.pinned (OpenSpec.ofChange seamsBeginSpec)

/-- ITS FALSE NEIGHBOUR: 'it returns false'. Refute it at one input. -/
def seamsBeginWrong : ChangeSpec := { name := "seamsBegin", fn := fun _ => fun
  | [d] => { results := [.lit (.bool false)], args := [d] }
  | _ => none }
def SeamsBeginWrongFalsely : Prop := seamsBeginRow.holds Try.pinned (OpenSpec.ofChange seamsBeginWrong)

/-- 'ferrulelaw04.SeamsSewn': WHATEVER THE INPUT: true; the input reads as it did. -/
def seamsSewnSpec : ChangeSpec := { name := "seamsSewn", fn := fun _ => fun
  | [d] => { results := [.lit (.bool true)], args := [d] }
  | _ => none }
def seamsSewnRow : OpenClaim := { program := "ytcdgojonaloclaa", sum := "30a7be2b3daa4e8dc09c4ca0122ec18a5836986eee14eb3b4cfccf5f55dbe31f", func := "ferrule/ferrulelaw04.SeamsSewn", spec := "seamsSewn", unfollowed := true, recurses := true, plainKeys := false, apart := false }
def SeamsSewnSaid : Prop := seamsSewnRow.holds Try.pinned (OpenSpec.ofChange seamsSewnSpec)

/-- ITS FALSE NEIGHBOUR: 'it returns false'. Refute it at one input. -/
def seamsSewnWrong : ChangeSpec := { name := "seamsSewn", fn := fun _ => fun
  | [d] => { results := [.lit (.bool false)], args := [d] }
  | _ => none }
def SeamsSewnWrongFalsely : Prop := seamsSewnRow.holds Try.pinned (OpenSpec.ofChange seamsSewnWrong)

/-- 'ferrulelaw04.SeamsTrue': WHATEVER THE INPUT: true; the input reads as it did. -/
def seamsTrueSpec : ChangeSpec := { name := "seamsTrue", fn := fun _ => fun
  | [d1, d2, d3] => { results := [.lit (.bool true)], args := [d1, d2, d3] }
  | _ => none }
def seamsTrueRow : OpenClaim := { program := "ytcdgojonaloclaa", sum := "30a7be2b3daa4e8dc09c4ca0122ec18a5836986eee14eb3b4cfccf5f55dbe31f", func := "ferrule/ferrulelaw04.SeamsTrue", spec := "seamsTrue", unfollowed := true, recurses := true, plainKeys := false, apart := false }
def SeamsTrueSaid : Prop := seamsTrueRow.holds Try.pinned (OpenSpec.ofChange seamsTrueSpec)

/-- ITS FALSE NEIGHBOUR: 'it returns false'. Refute it at one input. -/
def seamsTrueWrong : ChangeSpec := { name := "seamsTrue", fn := fun _ => fun
  | [d1, d2, d3] => { results := [.lit (.bool false)], args := [d1, d2, d3] }
  | _ => none }
def SeamsTrueWrongFalsely : Prop := seamsTrueRow.holds Try.pinned (OpenSpec.ofChange seamsTrueWrong)

/-- 'ferrulelaw04.SeamsRing': WHATEVER THE INPUT: true; the input reads as it did. -/
def seamsRingSpec : ChangeSpec := { name := "seamsRing", fn := fun _ => fun
  | [d1, d2, d3] => { results := [.lit (.bool true)], args := [d1, d2, d3] }
  | _ => none }
def seamsRingRow : OpenClaim := { program := "ytcdgojonaloclaa", sum := "30a7be2b3daa4e8dc09c4ca0122ec18a5836986eee14eb3b4cfccf5f55dbe31f", func := "ferrule/ferrulelaw04.SeamsRing", spec := "seamsRing", unfollowed := true, recurses := true, plainKeys := false, apart := false }
def SeamsRingSaid : Prop := seamsRingRow.holds Try.pinned (OpenSpec.ofChange seamsRingSpec)

/-- ITS FALSE NEIGHBOUR: 'it returns false'. Refute it at one input. -/
def seamsRingWrong : ChangeSpec := { name := "seamsRing", fn := fun _ => fun
  | [d1, d2, d3] => { results := [.lit (.bool false)], args := [d1, d2, d3] }
  | _ => none }
def SeamsRingWrongFalsely : Prop := seamsRingRow.holds Try.pinned (OpenSpec.ofChange seamsRingWrong)

/-- 'ferrulelaw04.SeamsMoved': WHATEVER THE INPUT: true; the input reads as it did. -/
def seamsMovedSpec : ChangeSpec := { name := "seamsMoved", fn := fun _ => fun
  | [d1, d2, d3] => { results := [.lit (.bool true)], args := [d1, d2, d3] }
  | _ => none }
def seamsMovedRow : OpenClaim := { program := "ytcdgojonaloclaa", sum := "30a7be2b3daa4e8dc09c4ca0122ec18a5836986eee14eb3b4cfccf5f55dbe31f", func := "ferrule/ferrulelaw04.SeamsMoved", spec := "seamsMoved", unfollowed := true, recurses := true, plainKeys := false, apart := false }
def SeamsMovedSaid : Prop := seamsMovedRow.holds Try.pinned (OpenSpec.ofChange seamsMovedSpec)

/-- ITS FALSE NEIGHBOUR: 'it returns false'. Refute it at one input. -/
def seamsMovedWrong : ChangeSpec := { name := "seamsMoved", fn := fun _ => fun
  | [d1, d2, d3] => { results := [.lit (.bool false)], args := [d1, d2, d3] }
  | _ => none }
def SeamsMovedWrongFalsely : Prop := seamsMovedRow.holds Try.pinned (OpenSpec.ofChange seamsMovedWrong)

/-- 'ferrulelaw04.SeamsMeet': WHATEVER THE INPUT: true; the input reads as it did. -/
def seamsMeetSpec : ChangeSpec := { name := "seamsMeet", fn := fun _ => fun
  | [d1, d2] => { results := [.lit (.bool true)], args := [d1, d2] }
  | _ => none }
def seamsMeetRow : OpenClaim := { program := "ytcdgojonaloclaa", sum := "30a7be2b3daa4e8dc09c4ca0122ec18a5836986eee14eb3b4cfccf5f55dbe31f", func := "ferrule/ferrulelaw04.SeamsMeet", spec := "seamsMeet", unfollowed := true, recurses := true, plainKeys := false, apart := false }
def SeamsMeetSaid : Prop := seamsMeetRow.holds Try.pinned (OpenSpec.ofChange seamsMeetSpec)

/-- ITS FALSE NEIGHBOUR: 'it returns false'. Refute it at one input. -/
def seamsMeetWrong : ChangeSpec := { name := "seamsMeet", fn := fun _ => fun
  | [d1, d2] => { results := [.lit (.bool false)], args := [d1, d2] }
  | _ => none }
def SeamsMeetWrongFalsely : Prop := seamsMeetRow.holds Try.pinned (OpenSpec.ofChange seamsMeetWrong)

/-- 'ferruletop.TopStrip': WHATEVER THE INPUT: true; the input reads as it did. -/
def topStripSpec : ChangeSpec := { name := "topStrip", fn := fun _ => fun
  | [d1, d2, d3] => { results := [.lit (.bool true)], args := [d1, d2, d3] }
  | _ => none }
def topStripRow : OpenClaim := { program := "ytcdgojonaloclaa", sum := "30a7be2b3daa4e8dc09c4ca0122ec18a5836986eee14eb3b4cfccf5f55dbe31f", func := "ferrule/ferruletop.TopStrip", spec := "topStrip", unfollowed := true, recurses := true, plainKeys := false, apart := false }
def TopStripSaid : Prop := topStripRow.holds Try.pinned (OpenSpec.ofChange topStripSpec)

/-- ITS FALSE NEIGHBOUR: 'it returns false'. Refute it at one input. -/
def topStripWrong : ChangeSpec := { name := "topStrip", fn := fun _ => fun
  | [d1, d2, d3] => { results := [.lit (.bool false)], args := [d1, d2, d3] }
  | _ => none }
def TopStripWrongFalsely : Prop := topStripRow.holds Try.pinned (OpenSpec.ofChange topStripWrong)

/-- 'ferruletop.TopCurve': WHATEVER THE INPUT: true; the input reads as it did. -/
def topCurveSpec : ChangeSpec := { name := "topCurve", fn := fun _ => fun
  | [d] => { results := [.lit (.bool true)], args := [d] }
  | _ => none }
def topCurveRow : OpenClaim := { program := "ytcdgojonaloclaa", sum := "30a7be2b3daa4e8dc09c4ca0122ec18a5836986eee14eb3b4cfccf5f55dbe31f", func := "ferrule/ferruletop.TopCurve", spec := "topCurve", unfollowed := true, recurses := true, plainKeys := false, apart := false }
def TopCurveSaid : Prop := topCurveRow.holds Try.pinned (OpenSpec.ofChange topCurveSpec)

/-- ITS FALSE NEIGHBOUR: 'it returns false'. Refute it at one input. -/
def topCurveWrong : ChangeSpec := { name := "topCurve", fn := fun _ => fun
  | [d] => { results := [.lit (.bool false)], args := [d] }
  | _ => none }
def TopCurveWrongFalsely : Prop := topCurveRow.holds Try.pinned (OpenSpec.ofChange topCurveWrong)

/- THE SECOND FORM. 'bulk': how many values and letters a reading holds, each counted each time it is reached (what is shared counts as often as it is met; a slice's spare places count too). A statement '..UptoSaid' is the law's where the arguments, and the package variables that the reading takes, are together of bulk at most 1048576: NARROWER than '..Said'. Prove '..Said' where nothing that the law and all that it calls make is longer than what came in: it says more and counts as full. Else prove '..UptoSaid'. A law counts once. -/
mutual
def uptoBulk {H : Type} : DataW H → Nat
  | .lit (.string bytes) => bytes.length + 1
  | .lit _ => 1
  | .nil => 1
  | .ptr d => uptoBulk d + 1
  | .slice elems spare => uptoBulkAll elems + uptoBulkAll spare + 1
  | .agg parts => uptoBulkAll parts + 1
  | .iface _ d => uptoBulk d + 1
  | .map entries => uptoBulkEntries entries + 1
  | .held _ => 1
def uptoBulkAll {H : Type} : List (DataW H) → Nat
  | [] => 0
  | d :: r => uptoBulk d + uptoBulkAll r
def uptoBulkEntries {H : Type} : List (Lit × DataW H) → Nat
  | [] => 0
  | x :: r => uptoBulkEntry x + uptoBulkEntries r
def uptoBulkEntry {H : Type} : Lit × DataW H → Nat
  | (.string bytes, d) => bytes.length + uptoBulk d + 1
  | (_, d) => uptoBulk d + 1
 end
def uptoSmall : (H : Type) → List (DataW H) → Bool := fun _ ds => decide (uptoBulkAll ds ≤ 1048576)
def OpenSpec.upto (s : _root_.Go.ChangeSpec) : _root_.Go.OpenSpec := { _root_.Go.OpenSpec.ofChange s with cond := some uptoSmall }

/-- 'ferrulelaw04.SeamsLess', WHERE WHAT IT READS IS OF BULK AT MOST 1048576: true; the input reads as it did. -/
def seamsLessUptoRow : OpenClaim := { program := "ytcdgojonaloclaa", sum := "30a7be2b3daa4e8dc09c4ca0122ec18a5836986eee14eb3b4cfccf5f55dbe31f", func := "ferrule/ferrulelaw04.SeamsLess", spec := "seamsLess", unfollowed := true, recurses := true, plainKeys := false, apart := false, narrowed := true }
def SeamsLessUptoSaid : Prop := seamsLessUptoRow.holds Try.pinned (OpenSpec.upto seamsLessSpec)

/-- 'ferrulelaw04.SeamsNearer', WHERE WHAT IT READS IS OF BULK AT MOST 1048576: true; the input reads as it did. -/
def seamsNearerUptoRow : OpenClaim := { program := "ytcdgojonaloclaa", sum := "30a7be2b3daa4e8dc09c4ca0122ec18a5836986eee14eb3b4cfccf5f55dbe31f", func := "ferrule/ferrulelaw04.SeamsNearer", spec := "seamsNearer", unfollowed := true, recurses := true, plainKeys := false, apart := false, narrowed := true }
def SeamsNearerUptoSaid : Prop := seamsNearerUptoRow.holds Try.pinned (OpenSpec.upto seamsNearerSpec)

/-- 'ferrulelaw04.SeamsSooner', WHERE WHAT IT READS IS OF BULK AT MOST 1048576: true; the input reads as it did. -/
def seamsSoonerUptoRow : OpenClaim := { program := "ytcdgojonaloclaa", sum := "30a7be2b3daa4e8dc09c4ca0122ec18a5836986eee14eb3b4cfccf5f55dbe31f", func := "ferrule/ferrulelaw04.SeamsSooner", spec := "seamsSooner", unfollowed := true, recurses := true, plainKeys := false, apart := false, narrowed := true }
def SeamsSoonerUptoSaid : Prop := seamsSoonerUptoRow.holds Try.pinned (OpenSpec.upto seamsSoonerSpec)

/-- 'ferrulelaw04.SeamsQuicker', WHERE WHAT IT READS IS OF BULK AT MOST 1048576: true; the input reads as it did. -/
def seamsQuickerUptoRow : OpenClaim := { program := "ytcdgojonaloclaa", sum := "30a7be2b3daa4e8dc09c4ca0122ec18a5836986eee14eb3b4cfccf5f55dbe31f", func := "ferrule/ferrulelaw04.SeamsQuicker", spec := "seamsQuicker", unfollowed := true, recurses := true, plainKeys := false, apart := false, narrowed := true }
def SeamsQuickerUptoSaid : Prop := seamsQuickerUptoRow.holds Try.pinned (OpenSpec.upto seamsQuickerSpec)

/-- 'ferrulelaw04.SeamsWaste', WHERE WHAT IT READS IS OF BULK AT MOST 1048576: true; the input reads as it did. -/
def seamsWasteUptoRow : OpenClaim := { program := "ytcdgojonaloclaa", sum := "30a7be2b3daa4e8dc09c4ca0122ec18a5836986eee14eb3b4cfccf5f55dbe31f", func := "ferrule/ferrulelaw04.SeamsWaste", spec := "seamsWaste", unfollowed := true, recurses := true, plainKeys := false, apart := false, narrowed := true }
def SeamsWasteUptoSaid : Prop := seamsWasteUptoRow.holds Try.pinned (OpenSpec.upto seamsWasteSpec)

/-- 'ferrulelaw04.SeamsBegin', WHERE WHAT IT READS IS OF BULK AT MOST 1048576: true; the input reads as it did. -/
def seamsBeginUptoRow : OpenClaim := { program := "ytcdgojonaloclaa", sum := "30a7be2b3daa4e8dc09c4ca0122ec18a5836986eee14eb3b4cfccf5f55dbe31f", func := "ferrule/ferrulelaw04.SeamsBegin", spec := "seamsBegin", unfollowed := true, recurses := true, plainKeys := false, apart := false, narrowed := true }
def SeamsBeginUptoSaid : Prop := seamsBeginUptoRow.holds Try.pinned (OpenSpec.upto seamsBeginSpec)

/-- 'ferrulelaw04.SeamsSewn', WHERE WHAT IT READS IS OF BULK AT MOST 1048576: true; the input reads as it did. -/
def seamsSewnUptoRow : OpenClaim := { program := "ytcdgojonaloclaa", sum := "30a7be2b3daa4e8dc09c4ca0122ec18a5836986eee14eb3b4cfccf5f55dbe31f", func := "ferrule/ferrulelaw04.SeamsSewn", spec := "seamsSewn", unfollowed := true, recurses := true, plainKeys := false, apart := false, narrowed := true }
def SeamsSewnUptoSaid : Prop := seamsSewnUptoRow.holds Try.pinned (OpenSpec.upto seamsSewnSpec)

/-- 'ferrulelaw04.SeamsTrue', WHERE WHAT IT READS IS OF BULK AT MOST 1048576: true; the input reads as it did. -/
def seamsTrueUptoRow : OpenClaim := { program := "ytcdgojonaloclaa", sum := "30a7be2b3daa4e8dc09c4ca0122ec18a5836986eee14eb3b4cfccf5f55dbe31f", func := "ferrule/ferrulelaw04.SeamsTrue", spec := "seamsTrue", unfollowed := true, recurses := true, plainKeys := false, apart := false, narrowed := true }
def SeamsTrueUptoSaid : Prop := seamsTrueUptoRow.holds Try.pinned (OpenSpec.upto seamsTrueSpec)

/-- 'ferrulelaw04.SeamsRing', WHERE WHAT IT READS IS OF BULK AT MOST 1048576: true; the input reads as it did. -/
def seamsRingUptoRow : OpenClaim := { program := "ytcdgojonaloclaa", sum := "30a7be2b3daa4e8dc09c4ca0122ec18a5836986eee14eb3b4cfccf5f55dbe31f", func := "ferrule/ferrulelaw04.SeamsRing", spec := "seamsRing", unfollowed := true, recurses := true, plainKeys := false, apart := false, narrowed := true }
def SeamsRingUptoSaid : Prop := seamsRingUptoRow.holds Try.pinned (OpenSpec.upto seamsRingSpec)

/-- 'ferrulelaw04.SeamsMoved', WHERE WHAT IT READS IS OF BULK AT MOST 1048576: true; the input reads as it did. -/
def seamsMovedUptoRow : OpenClaim := { program := "ytcdgojonaloclaa", sum := "30a7be2b3daa4e8dc09c4ca0122ec18a5836986eee14eb3b4cfccf5f55dbe31f", func := "ferrule/ferrulelaw04.SeamsMoved", spec := "seamsMoved", unfollowed := true, recurses := true, plainKeys := false, apart := false, narrowed := true }
def SeamsMovedUptoSaid : Prop := seamsMovedUptoRow.holds Try.pinned (OpenSpec.upto seamsMovedSpec)

/-- 'ferrulelaw04.SeamsMeet', WHERE WHAT IT READS IS OF BULK AT MOST 1048576: true; the input reads as it did. -/
def seamsMeetUptoRow : OpenClaim := { program := "ytcdgojonaloclaa", sum := "30a7be2b3daa4e8dc09c4ca0122ec18a5836986eee14eb3b4cfccf5f55dbe31f", func := "ferrule/ferrulelaw04.SeamsMeet", spec := "seamsMeet", unfollowed := true, recurses := true, plainKeys := false, apart := false, narrowed := true }
def SeamsMeetUptoSaid : Prop := seamsMeetUptoRow.holds Try.pinned (OpenSpec.upto seamsMeetSpec)

/-- 'ferruletop.TopStrip', WHERE WHAT IT READS IS OF BULK AT MOST 1048576: true; the input reads as it did. -/
def topStripUptoRow : OpenClaim := { program := "ytcdgojonaloclaa", sum := "30a7be2b3daa4e8dc09c4ca0122ec18a5836986eee14eb3b4cfccf5f55dbe31f", func := "ferrule/ferruletop.TopStrip", spec := "topStrip", unfollowed := true, recurses := true, plainKeys := false, apart := false, narrowed := true }
def TopStripUptoSaid : Prop := topStripUptoRow.holds Try.pinned (OpenSpec.upto topStripSpec)

/-- 'ferruletop.TopCurve', WHERE WHAT IT READS IS OF BULK AT MOST 1048576: true; the input reads as it did. -/
def topCurveUptoRow : OpenClaim := { program := "ytcdgojonaloclaa", sum := "30a7be2b3daa4e8dc09c4ca0122ec18a5836986eee14eb3b4cfccf5f55dbe31f", func := "ferrule/ferruletop.TopCurve", spec := "topCurve", unfollowed := true, recurses := true, plainKeys := false, apart := false, narrowed := true }
def TopCurveUptoSaid : Prop := topCurveUptoRow.holds Try.pinned (OpenSpec.upto topCurveSpec)

end Rows
end Go.Proofs.Ytcdgojonaloclaa
