/-
  No cell of these rows narrows 'for every input' (looked for: loops, veiled, ifaces, maps, wideKeys, modest, calm, conditions, laid).
  DERIVED. THE GIVEN ROWS OF THIS SEAT. 6 by the template 'for every input the law returns true; each argument reads behind the call as it read before'; 0 by the template 'total and deterministic' (their statements: YtbejaccdpikfhaaTotals.lean).
  GIVEN WITH THE SEED: the statements are not yours to turn. If you find one false, say at which input.
  Laid BY PROGRAM, IN A SANDBOX (cutbox-rows.mjs): the forced cells as the released guide's own fill.sh prints them over the translation 1378c091012dfbad… (all of the seat's roots in one cut). By AI agents, Wed Nov 11 2026. No macro, syntax, notation, axiom, sorry.
-/
import Derived.Test.YtbejaccdpikfhaaChecked
import GoSem.Claim
import GoSem.ClaimJoined
import GoSem.ClaimMapViews
import Derived.JoinedTies
import Derived.KernelRfl
namespace Go.Proofs.Ytbejaccdpikfhaa
/- THE CELL 'sum', in the pinned program and in every row, IS THE sha256 OF THE DUMP (.gsa) THAT YtbejaccdpikfhaaProg.lean LOADS. Nothing in Lean hashes anything: it is a label: what it is worth is what the hold of that sum in a sandbox is worth. -/
noncomputable def Try.pinned : Pinned := { name := "ytbejaccdpikfhaa", sum := "1378c091012dfbad9b09550eabc59eeecde9078648b9adfd0e819640666fe527", checked := Try.checked }
namespace Rows
def none {H : Type} : Left H := { results := [], args := [] }

/-- 'parlourlaw35.ClockCalls': WHATEVER THE INPUT: true; the input reads as it did. -/
def clockCallsSpec : ChangeSpec := { name := "clockCalls", fn := fun _ => fun
  | [d1, d2, d3, d4, d5, d6] => { results := [.lit (.bool true)], args := [d1, d2, d3, d4, d5, d6] }
  | _ => none }
def clockCallsRow : OpenClaim := { program := "ytbejaccdpikfhaa", sum := "1378c091012dfbad9b09550eabc59eeecde9078648b9adfd0e819640666fe527", func := "parlour/parlourlaw35.ClockCalls", spec := "clockCalls", unfollowed := true, recurses := true, apart := false }
def ClockCallsSaid : Prop := clockCallsRow.holds Try.pinned (OpenSpec.ofChange clockCallsSpec)

/-- ITS FALSE NEIGHBOUR: 'it returns false'. Refute it at one input. -/
def clockCallsWrong : ChangeSpec := { name := "clockCalls", fn := fun _ => fun
  | [d1, d2, d3, d4, d5, d6] => { results := [.lit (.bool false)], args := [d1, d2, d3, d4, d5, d6] }
  | _ => none }
def ClockCallsWrongFalsely : Prop := clockCallsRow.holds Try.pinned (OpenSpec.ofChange clockCallsWrong)

/-- 'parlourlaw35.ClockRuns': WHATEVER THE INPUT: true; the input reads as it did. -/
def clockRunsSpec : ChangeSpec := { name := "clockRuns", fn := fun _ => fun
  | [d1, d2] => { results := [.lit (.bool true)], args := [d1, d2] }
  | _ => none }
def clockRunsRow : OpenClaim := { program := "ytbejaccdpikfhaa", sum := "1378c091012dfbad9b09550eabc59eeecde9078648b9adfd0e819640666fe527", func := "parlour/parlourlaw35.ClockRuns", spec := "clockRuns", unfollowed := true, recurses := true, apart := false }
def ClockRunsSaid : Prop := clockRunsRow.holds Try.pinned (OpenSpec.ofChange clockRunsSpec)

/-- ITS FALSE NEIGHBOUR: 'it returns false'. Refute it at one input. -/
def clockRunsWrong : ChangeSpec := { name := "clockRuns", fn := fun _ => fun
  | [d1, d2] => { results := [.lit (.bool false)], args := [d1, d2] }
  | _ => none }
def ClockRunsWrongFalsely : Prop := clockRunsRow.holds Try.pinned (OpenSpec.ofChange clockRunsWrong)

/-- 'parlourlaw35.ClockKnown': WHATEVER THE INPUT: true; the input reads as it did. -/
def clockKnownSpec : ChangeSpec := { name := "clockKnown", fn := fun _ => fun
  | [] => { results := [.lit (.bool true)], args := [] }
  | _ => none }
def clockKnownRow : OpenClaim := { program := "ytbejaccdpikfhaa", sum := "1378c091012dfbad9b09550eabc59eeecde9078648b9adfd0e819640666fe527", func := "parlour/parlourlaw35.ClockKnown", spec := "clockKnown", unfollowed := true, recurses := true, apart := false }
def ClockKnownSaid : Prop := clockKnownRow.holds Try.pinned (OpenSpec.ofChange clockKnownSpec)

/-- ITS FALSE NEIGHBOUR: 'it returns false'. Refute it at one input. -/
def clockKnownWrong : ChangeSpec := { name := "clockKnown", fn := fun _ => fun
  | [] => { results := [.lit (.bool false)], args := [] }
  | _ => none }
def ClockKnownWrongFalsely : Prop := clockKnownRow.holds Try.pinned (OpenSpec.ofChange clockKnownWrong)

/-- 'parlourlaw35.ClockLooks': WHATEVER THE INPUT: true; the input reads as it did. -/
def clockLooksSpec : ChangeSpec := { name := "clockLooks", fn := fun _ => fun
  | [d1, d2, d3] => { results := [.lit (.bool true)], args := [d1, d2, d3] }
  | _ => none }
def clockLooksRow : OpenClaim := { program := "ytbejaccdpikfhaa", sum := "1378c091012dfbad9b09550eabc59eeecde9078648b9adfd0e819640666fe527", func := "parlour/parlourlaw35.ClockLooks", spec := "clockLooks", unfollowed := true, recurses := true, apart := false }
def ClockLooksSaid : Prop := clockLooksRow.holds Try.pinned (OpenSpec.ofChange clockLooksSpec)

/-- ITS FALSE NEIGHBOUR: 'it returns false'. Refute it at one input. -/
def clockLooksWrong : ChangeSpec := { name := "clockLooks", fn := fun _ => fun
  | [d1, d2, d3] => { results := [.lit (.bool false)], args := [d1, d2, d3] }
  | _ => none }
def ClockLooksWrongFalsely : Prop := clockLooksRow.holds Try.pinned (OpenSpec.ofChange clockLooksWrong)

/-- 'parlourlaw35.ClockTurns': WHATEVER THE INPUT: true; the input reads as it did. -/
def clockTurnsSpec : ChangeSpec := { name := "clockTurns", fn := fun _ => fun
  | [d1, d2, d3] => { results := [.lit (.bool true)], args := [d1, d2, d3] }
  | _ => none }
def clockTurnsRow : OpenClaim := { program := "ytbejaccdpikfhaa", sum := "1378c091012dfbad9b09550eabc59eeecde9078648b9adfd0e819640666fe527", func := "parlour/parlourlaw35.ClockTurns", spec := "clockTurns", unfollowed := true, recurses := true, apart := false }
def ClockTurnsSaid : Prop := clockTurnsRow.holds Try.pinned (OpenSpec.ofChange clockTurnsSpec)

/-- ITS FALSE NEIGHBOUR: 'it returns false'. Refute it at one input. -/
def clockTurnsWrong : ChangeSpec := { name := "clockTurns", fn := fun _ => fun
  | [d1, d2, d3] => { results := [.lit (.bool false)], args := [d1, d2, d3] }
  | _ => none }
def ClockTurnsWrongFalsely : Prop := clockTurnsRow.holds Try.pinned (OpenSpec.ofChange clockTurnsWrong)

/-- 'parlourlaw35.ClockLater': WHATEVER THE INPUT: true; the input reads as it did. -/
def clockLaterSpec : ChangeSpec := { name := "clockLater", fn := fun _ => fun
  | [d1, d2, d3] => { results := [.lit (.bool true)], args := [d1, d2, d3] }
  | _ => none }
def clockLaterRow : OpenClaim := { program := "ytbejaccdpikfhaa", sum := "1378c091012dfbad9b09550eabc59eeecde9078648b9adfd0e819640666fe527", func := "parlour/parlourlaw35.ClockLater", spec := "clockLater", unfollowed := true, recurses := true, apart := false }
def ClockLaterSaid : Prop := clockLaterRow.holds Try.pinned (OpenSpec.ofChange clockLaterSpec)

/-- ITS FALSE NEIGHBOUR: 'it returns false'. Refute it at one input. -/
def clockLaterWrong : ChangeSpec := { name := "clockLater", fn := fun _ => fun
  | [d1, d2, d3] => { results := [.lit (.bool false)], args := [d1, d2, d3] }
  | _ => none }
def ClockLaterWrongFalsely : Prop := clockLaterRow.holds Try.pinned (OpenSpec.ofChange clockLaterWrong)

/- THE SECOND FORM. 'bulk': how many values and letters a reading holds, each counted each time it is reached (what is shared counts as often as it is met; a slice's spare places count too). A statement '..UptoSaid' is the law's where the arguments, and the package variables that the reading takes, are together of bulk at most 1048576: NARROWER than '..Said'. Prove '..Said' where nothing that the law and all that it calls make is longer than what came in: it says more and counts as full. Else prove '..UptoSaid'. A law counts once. -/
mutual
def uptoBulk {H : Type} : DataW H → Nat
  | .lit (.string bytes) => bytes.length + 1
  | .lit _ => 1
  | .nil => 1
  | .ptr d => uptoBulk d + 1
  | .slice elems spare => uptoBulkAll elems + uptoBulkAll spare + 1
  | .agg parts => uptoBulkAll parts + 1
  | .iface _ d => uptoBulk d + 1
  | .map entries => uptoBulkEntries entries + 1
  | .held _ => 1
def uptoBulkAll {H : Type} : List (DataW H) → Nat
  | [] => 0
  | d :: r => uptoBulk d + uptoBulkAll r
def uptoBulkEntries {H : Type} : List (Lit × DataW H) → Nat
  | [] => 0
  | x :: r => uptoBulkEntry x + uptoBulkEntries r
def uptoBulkEntry {H : Type} : Lit × DataW H → Nat
  | (.string bytes, d) => bytes.length + uptoBulk d + 1
  | (_, d) => uptoBulk d + 1
 end
def uptoSmall : (H : Type) → List (DataW H) → Bool := fun _ ds => decide (uptoBulkAll ds ≤ 1048576)
def OpenSpec.upto (s : _root_.Go.ChangeSpec) : _root_.Go.OpenSpec := { _root_.Go.OpenSpec.ofChange s with cond := some uptoSmall }

/-- 'parlourlaw35.ClockCalls', WHERE WHAT IT READS IS OF BULK AT MOST 1048576: true; the input reads as it did. -/
def clockCallsUptoRow : OpenClaim := { program := "ytbejaccdpikfhaa", sum := "1378c091012dfbad9b09550eabc59eeecde9078648b9adfd0e819640666fe527", func := "parlour/parlourlaw35.ClockCalls", spec := "clockCalls", unfollowed := true, recurses := true, apart := false, narrowed := true }
def ClockCallsUptoSaid : Prop := clockCallsUptoRow.holds Try.pinned (OpenSpec.upto clockCallsSpec)

/-- 'parlourlaw35.ClockRuns', WHERE WHAT IT READS IS OF BULK AT MOST 1048576: true; the input reads as it did. -/
def clockRunsUptoRow : OpenClaim := { program := "ytbejaccdpikfhaa", sum := "1378c091012dfbad9b09550eabc59eeecde9078648b9adfd0e819640666fe527", func := "parlour/parlourlaw35.ClockRuns", spec := "clockRuns", unfollowed := true, recurses := true, apart := false, narrowed := true }
def ClockRunsUptoSaid : Prop := clockRunsUptoRow.holds Try.pinned (OpenSpec.upto clockRunsSpec)

/-- 'parlourlaw35.ClockKnown', WHERE WHAT IT READS IS OF BULK AT MOST 1048576: true; the input reads as it did. -/
def clockKnownUptoRow : OpenClaim := { program := "ytbejaccdpikfhaa", sum := "1378c091012dfbad9b09550eabc59eeecde9078648b9adfd0e819640666fe527", func := "parlour/parlourlaw35.ClockKnown", spec := "clockKnown", unfollowed := true, recurses := true, apart := false, narrowed := true }
def ClockKnownUptoSaid : Prop := clockKnownUptoRow.holds Try.pinned (OpenSpec.upto clockKnownSpec)

/-- 'parlourlaw35.ClockLooks', WHERE WHAT IT READS IS OF BULK AT MOST 1048576: true; the input reads as it did. -/
def clockLooksUptoRow : OpenClaim := { program := "ytbejaccdpikfhaa", sum := "1378c091012dfbad9b09550eabc59eeecde9078648b9adfd0e819640666fe527", func := "parlour/parlourlaw35.ClockLooks", spec := "clockLooks", unfollowed := true, recurses := true, apart := false, narrowed := true }
def ClockLooksUptoSaid : Prop := clockLooksUptoRow.holds Try.pinned (OpenSpec.upto clockLooksSpec)

/-- 'parlourlaw35.ClockTurns', WHERE WHAT IT READS IS OF BULK AT MOST 1048576: true; the input reads as it did. -/
def clockTurnsUptoRow : OpenClaim := { program := "ytbejaccdpikfhaa", sum := "1378c091012dfbad9b09550eabc59eeecde9078648b9adfd0e819640666fe527", func := "parlour/parlourlaw35.ClockTurns", spec := "clockTurns", unfollowed := true, recurses := true, apart := false, narrowed := true }
def ClockTurnsUptoSaid : Prop := clockTurnsUptoRow.holds Try.pinned (OpenSpec.upto clockTurnsSpec)

/-- 'parlourlaw35.ClockLater', WHERE WHAT IT READS IS OF BULK AT MOST 1048576: true; the input reads as it did. -/
def clockLaterUptoRow : OpenClaim := { program := "ytbejaccdpikfhaa", sum := "1378c091012dfbad9b09550eabc59eeecde9078648b9adfd0e819640666fe527", func := "parlour/parlourlaw35.ClockLater", spec := "clockLater", unfollowed := true, recurses := true, apart := false, narrowed := true }
def ClockLaterUptoSaid : Prop := clockLaterUptoRow.holds Try.pinned (OpenSpec.upto clockLaterSpec)

end Rows
end Go.Proofs.Ytbejaccdpikfhaa
