/-
  No cell of these rows narrows 'for every input' (looked for: loops, veiled, ifaces, maps, wideKeys, modest, calm, conditions, laid).
  DERIVED. THE GIVEN ROWS OF THIS SEAT. 12 by the template 'for every input the law returns true; each argument reads behind the call as it read before'; 0 by the template 'total and deterministic' (their statements: YtkmobminpeiklaaTotals.lean).
  GIVEN WITH THE SEED: the statements are not yours to turn. If you find one false, say at which input.
  Laid BY PROGRAM, IN A SANDBOX (cutbox-rows.mjs): the forced cells as the released guide's own fill.sh prints them over the translation d38fa3af991c8799… (all of the seat's roots in one cut). By AI agents, Wed Nov 11 2026. No macro, syntax, notation, axiom, sorry.
-/
import Derived.Test.YtkmobminpeiklaaChecked
import GoSem.Claim
import GoSem.ClaimJoined
import GoSem.ClaimMapViews
import Derived.JoinedTies
import Derived.KernelRfl
namespace Go.Proofs.Ytkmobminpeiklaa
/- THE CELL 'sum', in the pinned program and in every row, IS THE sha256 OF THE DUMP (.gsa) THAT YtkmobminpeiklaaProg.lean LOADS. Nothing in Lean hashes anything: it is a label: what it is worth is what the hold of that sum in a sandbox is worth. -/
noncomputable def Try.pinned : Pinned := { name := "ytkmobminpeiklaa", sum := "d38fa3af991c8799e1f8fb612de4fffe9ce3001c5e6f6ef6633fa36d37a635d0", checked := Try.checked }
namespace Rows
def none {H : Type} : Left H := { results := [], args := [] }

/-- 'ferrulelaw06.CanesReached': WHATEVER THE INPUT: true; the input reads as it did. -/
def canesReachedSpec : ChangeSpec := { name := "canesReached", fn := fun _ => fun
  | [d1, d2] => { results := [.lit (.bool true)], args := [d1, d2] }
  | _ => none }
def canesReachedRow : OpenClaim := { program := "ytkmobminpeiklaa", sum := "d38fa3af991c8799e1f8fb612de4fffe9ce3001c5e6f6ef6633fa36d37a635d0", func := "ferrule/ferrulelaw06.CanesReached", spec := "canesReached", unfollowed := true, recurses := true, plainKeys := false, apart := false }
def CanesReachedSaid : Prop := canesReachedRow.holds Try.pinned (OpenSpec.ofChange canesReachedSpec)

/-- ITS FALSE NEIGHBOUR: 'it returns false'. Refute it at one input. -/
def canesReachedWrong : ChangeSpec := { name := "canesReached", fn := fun _ => fun
  | [d1, d2] => { results := [.lit (.bool false)], args := [d1, d2] }
  | _ => none }
def CanesReachedWrongFalsely : Prop := canesReachedRow.holds Try.pinned (OpenSpec.ofChange canesReachedWrong)

/-- 'ferrulelaw06.CanesStronger': WHATEVER THE INPUT: true; the input reads as it did. -/
def canesStrongerSpec : ChangeSpec := { name := "canesStronger", fn := fun _ => fun
  | [d1, d2, d3] => { results := [.lit (.bool true)], args := [d1, d2, d3] }
  | _ => none }
def canesStrongerRow : OpenClaim := { program := "ytkmobminpeiklaa", sum := "d38fa3af991c8799e1f8fb612de4fffe9ce3001c5e6f6ef6633fa36d37a635d0", func := "ferrule/ferrulelaw06.CanesStronger", spec := "canesStronger", unfollowed := true, recurses := true, plainKeys := false, apart := false }
def CanesStrongerSaid : Prop := canesStrongerRow.holds Try.pinned (OpenSpec.ofChange canesStrongerSpec)

/-- ITS FALSE NEIGHBOUR: 'it returns false'. Refute it at one input. -/
def canesStrongerWrong : ChangeSpec := { name := "canesStronger", fn := fun _ => fun
  | [d1, d2, d3] => { results := [.lit (.bool false)], args := [d1, d2, d3] }
  | _ => none }
def CanesStrongerWrongFalsely : Prop := canesStrongerRow.holds Try.pinned (OpenSpec.ofChange canesStrongerWrong)

/-- 'ferrulelaw06.CanesSprings': WHATEVER THE INPUT: true; the input reads as it did. -/
def canesSpringsSpec : ChangeSpec := { name := "canesSprings", fn := fun _ => fun
  | [d] => { results := [.lit (.bool true)], args := [d] }
  | _ => none }
def canesSpringsRow : OpenClaim := { program := "ytkmobminpeiklaa", sum := "d38fa3af991c8799e1f8fb612de4fffe9ce3001c5e6f6ef6633fa36d37a635d0", func := "ferrule/ferrulelaw06.CanesSprings", spec := "canesSprings", unfollowed := true, recurses := true, plainKeys := false, apart := false }
def CanesSpringsSaid : Prop := canesSpringsRow.holds Try.pinned (OpenSpec.ofChange canesSpringsSpec)

/-- ITS FALSE NEIGHBOUR: 'it returns false'. Refute it at one input. -/
def canesSpringsWrong : ChangeSpec := { name := "canesSprings", fn := fun _ => fun
  | [d] => { results := [.lit (.bool false)], args := [d] }
  | _ => none }
def CanesSpringsWrongFalsely : Prop := canesSpringsRow.holds Try.pinned (OpenSpec.ofChange canesSpringsWrong)

/-- 'ferrulelaw06.CanesFewest': WHATEVER THE INPUT: true; the input reads as it did. -/
def canesFewestSpec : ChangeSpec := { name := "canesFewest", fn := fun _ => fun
  | [d1, d2] => { results := [.lit (.bool true)], args := [d1, d2] }
  | _ => none }
def canesFewestRow : OpenClaim := { program := "ytkmobminpeiklaa", sum := "d38fa3af991c8799e1f8fb612de4fffe9ce3001c5e6f6ef6633fa36d37a635d0", func := "ferrule/ferrulelaw06.CanesFewest", spec := "canesFewest", unfollowed := true, recurses := true, plainKeys := false, apart := false }
def CanesFewestSaid : Prop := canesFewestRow.holds Try.pinned (OpenSpec.ofChange canesFewestSpec)

/-- ITS FALSE NEIGHBOUR: 'it returns false'. Refute it at one input. -/
def canesFewestWrong : ChangeSpec := { name := "canesFewest", fn := fun _ => fun
  | [d1, d2] => { results := [.lit (.bool false)], args := [d1, d2] }
  | _ => none }
def CanesFewestWrongFalsely : Prop := canesFewestRow.holds Try.pinned (OpenSpec.ofChange canesFewestWrong)

/-- 'ferrulelaw06.CanesPlay': WHATEVER THE INPUT: true; the input reads as it did. -/
def canesPlaySpec : ChangeSpec := { name := "canesPlay", fn := fun _ => fun
  | [d1, d2, d3] => { results := [.lit (.bool true)], args := [d1, d2, d3] }
  | _ => none }
def canesPlayRow : OpenClaim := { program := "ytkmobminpeiklaa", sum := "d38fa3af991c8799e1f8fb612de4fffe9ce3001c5e6f6ef6633fa36d37a635d0", func := "ferrule/ferrulelaw06.CanesPlay", spec := "canesPlay", unfollowed := true, recurses := true, plainKeys := false, apart := false }
def CanesPlaySaid : Prop := canesPlayRow.holds Try.pinned (OpenSpec.ofChange canesPlaySpec)

/-- ITS FALSE NEIGHBOUR: 'it returns false'. Refute it at one input. -/
def canesPlayWrong : ChangeSpec := { name := "canesPlay", fn := fun _ => fun
  | [d1, d2, d3] => { results := [.lit (.bool false)], args := [d1, d2, d3] }
  | _ => none }
def CanesPlayWrongFalsely : Prop := canesPlayRow.holds Try.pinned (OpenSpec.ofChange canesPlayWrong)

/-- 'ferrulelaw06.CanesBends': WHATEVER THE INPUT: true; the input reads as it did. -/
def canesBendsSpec : ChangeSpec := { name := "canesBends", fn := fun _ => fun
  | [d1, d2] => { results := [.lit (.bool true)], args := [d1, d2] }
  | _ => none }
def canesBendsRow : OpenClaim := { program := "ytkmobminpeiklaa", sum := "d38fa3af991c8799e1f8fb612de4fffe9ce3001c5e6f6ef6633fa36d37a635d0", func := "ferrule/ferrulelaw06.CanesBends", spec := "canesBends", unfollowed := true, recurses := true, plainKeys := false, apart := false }
def CanesBendsSaid : Prop := canesBendsRow.holds Try.pinned (OpenSpec.ofChange canesBendsSpec)

/-- ITS FALSE NEIGHBOUR: 'it returns false'. Refute it at one input. -/
def canesBendsWrong : ChangeSpec := { name := "canesBends", fn := fun _ => fun
  | [d1, d2] => { results := [.lit (.bool false)], args := [d1, d2] }
  | _ => none }
def CanesBendsWrongFalsely : Prop := canesBendsRow.holds Try.pinned (OpenSpec.ofChange canesBendsWrong)

/-- 'ferrulelaw06.CanesTrue': WHATEVER THE INPUT: true; the input reads as it did. -/
def canesTrueSpec : ChangeSpec := { name := "canesTrue", fn := fun _ => fun
  | [d1, d2, d3] => { results := [.lit (.bool true)], args := [d1, d2, d3] }
  | _ => none }
def canesTrueRow : OpenClaim := { program := "ytkmobminpeiklaa", sum := "d38fa3af991c8799e1f8fb612de4fffe9ce3001c5e6f6ef6633fa36d37a635d0", func := "ferrule/ferrulelaw06.CanesTrue", spec := "canesTrue", unfollowed := true, recurses := true, plainKeys := false, apart := false }
def CanesTrueSaid : Prop := canesTrueRow.holds Try.pinned (OpenSpec.ofChange canesTrueSpec)

/-- ITS FALSE NEIGHBOUR: 'it returns false'. Refute it at one input. -/
def canesTrueWrong : ChangeSpec := { name := "canesTrue", fn := fun _ => fun
  | [d1, d2, d3] => { results := [.lit (.bool false)], args := [d1, d2, d3] }
  | _ => none }
def CanesTrueWrongFalsely : Prop := canesTrueRow.holds Try.pinned (OpenSpec.ofChange canesTrueWrong)

/-- 'ferrulelaw06.CanesHelp': WHATEVER THE INPUT: true; the input reads as it did. -/
def canesHelpSpec : ChangeSpec := { name := "canesHelp", fn := fun _ => fun
  | [d1, d2] => { results := [.lit (.bool true)], args := [d1, d2] }
  | _ => none }
def canesHelpRow : OpenClaim := { program := "ytkmobminpeiklaa", sum := "d38fa3af991c8799e1f8fb612de4fffe9ce3001c5e6f6ef6633fa36d37a635d0", func := "ferrule/ferrulelaw06.CanesHelp", spec := "canesHelp", unfollowed := true, recurses := true, plainKeys := false, apart := false }
def CanesHelpSaid : Prop := canesHelpRow.holds Try.pinned (OpenSpec.ofChange canesHelpSpec)

/-- ITS FALSE NEIGHBOUR: 'it returns false'. Refute it at one input. -/
def canesHelpWrong : ChangeSpec := { name := "canesHelp", fn := fun _ => fun
  | [d1, d2] => { results := [.lit (.bool false)], args := [d1, d2] }
  | _ => none }
def CanesHelpWrongFalsely : Prop := canesHelpRow.holds Try.pinned (OpenSpec.ofChange canesHelpWrong)

/-- 'ferrulelaw06.CanesMore': WHATEVER THE INPUT: true; the input reads as it did. -/
def canesMoreSpec : ChangeSpec := { name := "canesMore", fn := fun _ => fun
  | [d1, d2, d3] => { results := [.lit (.bool true)], args := [d1, d2, d3] }
  | _ => none }
def canesMoreRow : OpenClaim := { program := "ytkmobminpeiklaa", sum := "d38fa3af991c8799e1f8fb612de4fffe9ce3001c5e6f6ef6633fa36d37a635d0", func := "ferrule/ferrulelaw06.CanesMore", spec := "canesMore", unfollowed := true, recurses := true, plainKeys := false, apart := false }
def CanesMoreSaid : Prop := canesMoreRow.holds Try.pinned (OpenSpec.ofChange canesMoreSpec)

/-- ITS FALSE NEIGHBOUR: 'it returns false'. Refute it at one input. -/
def canesMoreWrong : ChangeSpec := { name := "canesMore", fn := fun _ => fun
  | [d1, d2, d3] => { results := [.lit (.bool false)], args := [d1, d2, d3] }
  | _ => none }
def CanesMoreWrongFalsely : Prop := canesMoreRow.holds Try.pinned (OpenSpec.ofChange canesMoreWrong)

/-- 'ferrulelaw06.CanesAfter': WHATEVER THE INPUT: true; the input reads as it did. -/
def canesAfterSpec : ChangeSpec := { name := "canesAfter", fn := fun _ => fun
  | [d1, d2, d3] => { results := [.lit (.bool true)], args := [d1, d2, d3] }
  | _ => none }
def canesAfterRow : OpenClaim := { program := "ytkmobminpeiklaa", sum := "d38fa3af991c8799e1f8fb612de4fffe9ce3001c5e6f6ef6633fa36d37a635d0", func := "ferrule/ferrulelaw06.CanesAfter", spec := "canesAfter", unfollowed := true, recurses := true, plainKeys := false, apart := false }
def CanesAfterSaid : Prop := canesAfterRow.holds Try.pinned (OpenSpec.ofChange canesAfterSpec)

/-- ITS FALSE NEIGHBOUR: 'it returns false'. Refute it at one input. -/
def canesAfterWrong : ChangeSpec := { name := "canesAfter", fn := fun _ => fun
  | [d1, d2, d3] => { results := [.lit (.bool false)], args := [d1, d2, d3] }
  | _ => none }
def CanesAfterWrongFalsely : Prop := canesAfterRow.holds Try.pinned (OpenSpec.ofChange canesAfterWrong)

/-- 'ferrulelaw06.CanesBox': WHATEVER THE INPUT: true; the input reads as it did. -/
def canesBoxSpec : ChangeSpec := { name := "canesBox", fn := fun _ => fun
  | [d1, d2, d3] => { results := [.lit (.bool true)], args := [d1, d2, d3] }
  | _ => none }
def canesBoxRow : OpenClaim := { program := "ytkmobminpeiklaa", sum := "d38fa3af991c8799e1f8fb612de4fffe9ce3001c5e6f6ef6633fa36d37a635d0", func := "ferrule/ferrulelaw06.CanesBox", spec := "canesBox", unfollowed := true, recurses := true, plainKeys := false, apart := false }
def CanesBoxSaid : Prop := canesBoxRow.holds Try.pinned (OpenSpec.ofChange canesBoxSpec)

/-- ITS FALSE NEIGHBOUR: 'it returns false'. Refute it at one input. -/
def canesBoxWrong : ChangeSpec := { name := "canesBox", fn := fun _ => fun
  | [d1, d2, d3] => { results := [.lit (.bool false)], args := [d1, d2, d3] }
  | _ => none }
def CanesBoxWrongFalsely : Prop := canesBoxRow.holds Try.pinned (OpenSpec.ofChange canesBoxWrong)

/-- 'ferrulelaw06.CanesSteam': WHATEVER THE INPUT: true; the input reads as it did. -/
def canesSteamSpec : ChangeSpec := { name := "canesSteam", fn := fun _ => fun
  | [d1, d2] => { results := [.lit (.bool true)], args := [d1, d2] }
  | _ => none }
def canesSteamRow : OpenClaim := { program := "ytkmobminpeiklaa", sum := "d38fa3af991c8799e1f8fb612de4fffe9ce3001c5e6f6ef6633fa36d37a635d0", func := "ferrule/ferrulelaw06.CanesSteam", spec := "canesSteam", unfollowed := true, recurses := true, plainKeys := false, apart := false }
def CanesSteamSaid : Prop := canesSteamRow.holds Try.pinned (OpenSpec.ofChange canesSteamSpec)

/-- ITS FALSE NEIGHBOUR: 'it returns false'. Refute it at one input. -/
def canesSteamWrong : ChangeSpec := { name := "canesSteam", fn := fun _ => fun
  | [d1, d2] => { results := [.lit (.bool false)], args := [d1, d2] }
  | _ => none }
def CanesSteamWrongFalsely : Prop := canesSteamRow.holds Try.pinned (OpenSpec.ofChange canesSteamWrong)

/- THE SECOND FORM. 'bulk': how many values and letters a reading holds, each counted each time it is reached (what is shared counts as often as it is met; a slice's spare places count too). A statement '..UptoSaid' is the law's where the arguments, and the package variables that the reading takes, are together of bulk at most 1048576: NARROWER than '..Said'. Prove '..Said' where nothing that the law and all that it calls make is longer than what came in: it says more and counts as full. Else prove '..UptoSaid'. A law counts once. -/
mutual
def uptoBulk {H : Type} : DataW H → Nat
  | .lit (.string bytes) => bytes.length + 1
  | .lit _ => 1
  | .nil => 1
  | .ptr d => uptoBulk d + 1
  | .slice elems spare => uptoBulkAll elems + uptoBulkAll spare + 1
  | .agg parts => uptoBulkAll parts + 1
  | .iface _ d => uptoBulk d + 1
  | .map entries => uptoBulkEntries entries + 1
  | .held _ => 1
def uptoBulkAll {H : Type} : List (DataW H) → Nat
  | [] => 0
  | d :: r => uptoBulk d + uptoBulkAll r
def uptoBulkEntries {H : Type} : List (Lit × DataW H) → Nat
  | [] => 0
  | x :: r => uptoBulkEntry x + uptoBulkEntries r
def uptoBulkEntry {H : Type} : Lit × DataW H → Nat
  | (.string bytes, d) => bytes.length + uptoBulk d + 1
  | (_, d) => uptoBulk d + 1
 end
def uptoSmall : (H : Type) → List (DataW H) → Bool := fun _ ds => decide (uptoBulkAll ds ≤ 1048576)
def OpenSpec.upto (s : _root_.Go.ChangeSpec) : _root_.Go.OpenSpec := { _root_.Go.OpenSpec.ofChange s with cond := some uptoSmall }

/-- 'ferrulelaw06.CanesReached', WHERE WHAT IT READS IS OF BULK AT MOST 1048576: true; the input reads as it did. -/
def canesReachedUptoRow : OpenClaim := { program := "ytkmobminpeiklaa", sum := "d38fa3af991c8799e1f8fb612de4fffe9ce3001c5e6f6ef6633fa36d37a635d0", func := "ferrule/ferrulelaw06.CanesReached", spec := "canesReached", unfollowed := true, recurses := true, plainKeys := false, apart := false, narrowed := true }
def CanesReachedUptoSaid : Prop := canesReachedUptoRow.holds Try.pinned (OpenSpec.upto canesReachedSpec)

/-- 'ferrulelaw06.CanesStronger', WHERE WHAT IT READS IS OF BULK AT MOST 1048576: true; the input reads as it did. -/
def canesStrongerUptoRow : OpenClaim := { program := "ytkmobminpeiklaa", sum := "d38fa3af991c8799e1f8fb612de4fffe9ce3001c5e6f6ef6633fa36d37a635d0", func := "ferrule/ferrulelaw06.CanesStronger", spec := "canesStronger", unfollowed := true, recurses := true, plainKeys := false, apart := false, narrowed := true }
def CanesStrongerUptoSaid : Prop := canesStrongerUptoRow.holds Try.pinned (OpenSpec.upto canesStrongerSpec)

/-- 'ferrulelaw06.CanesSprings', WHERE WHAT IT READS IS OF BULK AT MOST 1048576: true; the input reads as it did. -/
def canesSpringsUptoRow : OpenClaim := { program := "ytkmobminpeiklaa", sum := "d38fa3af991c8799e1f8fb612de4fffe9ce3001c5e6f6ef6633fa36d37a635d0", func := "ferrule/ferrulelaw06.CanesSprings", spec := "canesSprings", unfollowed := true, recurses := true, plainKeys := false, apart := false, narrowed := true }
def CanesSpringsUptoSaid : Prop := canesSpringsUptoRow.holds Try.pinned (OpenSpec.upto canesSpringsSpec)

/-- 'ferrulelaw06.CanesFewest', WHERE WHAT IT READS IS OF BULK AT MOST 1048576: true; the input reads as it did. -/
def canesFewestUptoRow : OpenClaim := { program := "ytkmobminpeiklaa", sum := "d38fa3af991c8799e1f8fb612de4fffe9ce3001c5e6f6ef6633fa36d37a635d0", func := "ferrule/ferrulelaw06.CanesFewest", spec := "canesFewest", unfollowed := true, recurses := true, plainKeys := false, apart := false, narrowed := true }
def CanesFewestUptoSaid : Prop := canesFewestUptoRow.holds Try.pinned (OpenSpec.upto canesFewestSpec)

/-- 'ferrulelaw06.CanesPlay', WHERE WHAT IT READS IS OF BULK AT MOST 1048576: true; the input reads as it did. -/
def canesPlayUptoRow : OpenClaim := { program := "ytkmobminpeiklaa", sum := "d38fa3af991c8799e1f8fb612de4fffe9ce3001c5e6f6ef6633fa36d37a635d0", func := "ferrule/ferrulelaw06.CanesPlay", spec := "canesPlay", unfollowed := true, recurses := true, plainKeys := false, apart := false, narrowed := true }
def CanesPlayUptoSaid : Prop := canesPlayUptoRow.holds Try.pinned (OpenSpec.upto canesPlaySpec)

/-- 'ferrulelaw06.CanesBends', WHERE WHAT IT READS IS OF BULK AT MOST 1048576: true; the input reads as it did. -/
def canesBendsUptoRow : OpenClaim := { program := "ytkmobminpeiklaa", sum := "d38fa3af991c8799e1f8fb612de4fffe9ce3001c5e6f6ef6633fa36d37a635d0", func := "ferrule/ferrulelaw06.CanesBends", spec := "canesBends", unfollowed := true, recurses := true, plainKeys := false, apart := false, narrowed := true }
def CanesBendsUptoSaid : Prop := canesBendsUptoRow.holds Try.pinned (OpenSpec.upto canesBendsSpec)

/-- 'ferrulelaw06.CanesTrue', WHERE WHAT IT READS IS OF BULK AT MOST 1048576: true; the input reads as it did. -/
def canesTrueUptoRow : OpenClaim := { program := "ytkmobminpeiklaa", sum := "d38fa3af991c8799e1f8fb612de4fffe9ce3001c5e6f6ef6633fa36d37a635d0", func := "ferrule/ferrulelaw06.CanesTrue", spec := "canesTrue", unfollowed := true, recurses := true, plainKeys := false, apart := false, narrowed := true }
def CanesTrueUptoSaid : Prop := canesTrueUptoRow.holds Try.pinned (OpenSpec.upto canesTrueSpec)

/-- 'ferrulelaw06.CanesHelp', WHERE WHAT IT READS IS OF BULK AT MOST 1048576: true; the input reads as it did. -/
def canesHelpUptoRow : OpenClaim := { program := "ytkmobminpeiklaa", sum := "d38fa3af991c8799e1f8fb612de4fffe9ce3001c5e6f6ef6633fa36d37a635d0", func := "ferrule/ferrulelaw06.CanesHelp", spec := "canesHelp", unfollowed := true, recurses := true, plainKeys := false, apart := false, narrowed := true }
def CanesHelpUptoSaid : Prop := canesHelpUptoRow.holds Try.pinned (OpenSpec.upto canesHelpSpec)

/-- 'ferrulelaw06.CanesMore', WHERE WHAT IT READS IS OF BULK AT MOST 1048576: true; the input reads as it did. -/
def canesMoreUptoRow : OpenClaim := { program := "ytkmobminpeiklaa", sum := "d38fa3af991c8799e1f8fb612de4fffe9ce3001c5e6f6ef6633fa36d37a635d0", func := "ferrule/ferrulelaw06.CanesMore", spec := "canesMore", unfollowed := true, recurses := true, plainKeys := false, apart := false, narrowed := true }
def CanesMoreUptoSaid : Prop := canesMoreUptoRow.holds Try.pinned (OpenSpec.upto canesMoreSpec)

/-- 'ferrulelaw06.CanesAfter', WHERE WHAT IT READS IS OF BULK AT MOST 1048576: true; the input reads as it did. -/
def canesAfterUptoRow : OpenClaim := { program := "ytkmobminpeiklaa", sum := "d38fa3af991c8799e1f8fb612de4fffe9ce3001c5e6f6ef6633fa36d37a635d0", func := "ferrule/ferrulelaw06.CanesAfter", spec := "canesAfter", unfollowed := true, recurses := true, plainKeys := false, apart := false, narrowed := true }
def CanesAfterUptoSaid : Prop := canesAfterUptoRow.holds Try.pinned (OpenSpec.upto canesAfterSpec)

/-- 'ferrulelaw06.CanesBox', WHERE WHAT IT READS IS OF BULK AT MOST 1048576: true; the input reads as it did. -/
def canesBoxUptoRow : OpenClaim := { program := "ytkmobminpeiklaa", sum := "d38fa3af991c8799e1f8fb612de4fffe9ce3001c5e6f6ef6633fa36d37a635d0", func := "ferrule/ferrulelaw06.CanesBox", spec := "canesBox", unfollowed := true, recurses := true, plainKeys := false, apart := false, narrowed := true }
def CanesBoxUptoSaid : Prop := canesBoxUptoRow.holds Try.pinned (OpenSpec.upto canesBoxSpec)

/-- 'ferrulelaw06.CanesSteam', WHERE WHAT IT READS IS OF BULK AT MOST 1048576: true; the input reads as it did. -/
def canesSteamUptoRow : OpenClaim := { program := "ytkmobminpeiklaa", sum := "d38fa3af991c8799e1f8fb612de4fffe9ce3001c5e6f6ef6633fa36d37a635d0", func := "ferrule/ferrulelaw06.CanesSteam", spec := "canesSteam", unfollowed := true, recurses := true, plainKeys := false, apart := false, narrowed := true }
def CanesSteamUptoSaid : Prop := canesSteamUptoRow.holds Try.pinned (OpenSpec.upto canesSteamSpec)

end Rows
end Go.Proofs.Ytkmobminpeiklaa
