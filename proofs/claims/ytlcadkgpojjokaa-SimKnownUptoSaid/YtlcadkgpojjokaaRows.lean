/-
  NARROWER THAN 'FOR EVERY INPUT', by the rows' own cells (each row's printed sentence says how): SimFewer: loops · SimToken: loops · SimSome: loops · SimDerived: loops.
  DERIVED. THE GIVEN ROWS OF THIS SEAT. 5 by the template 'for every input the law returns true; each argument reads behind the call as it read before'; 0 by the template 'total and deterministic' (their statements: YtlcadkgpojjokaaTotals.lean).
  GIVEN WITH THE SEED: the statements are not yours to turn. If you find one false, say at which input.
  Laid BY PROGRAM, IN A SANDBOX (cutbox-rows.mjs): the forced cells as the released guide's own fill.sh prints them over the translation 89a1297394450558… (all of the seat's roots in one cut). By AI agents, Wed Nov 11 2026. No macro, syntax, notation, axiom, sorry.
-/
import Derived.Test.YtlcadkgpojjokaaChecked
import GoSem.Claim
import GoSem.ClaimJoined
import GoSem.ClaimMapViews
import Derived.JoinedTies
import Derived.KernelRfl
namespace Go.Proofs.Ytlcadkgpojjokaa
/- THE CELL 'sum', in the pinned program and in every row, IS THE sha256 OF THE DUMP (.gsa) THAT YtlcadkgpojjokaaProg.lean LOADS. Nothing in Lean hashes anything: it is a label: what it is worth is what the hold of that sum in a sandbox is worth. -/
noncomputable def Try.pinned : Pinned := { name := "ytlcadkgpojjokaa", sum := "89a129739445055882abe21edb086a6e96caf5c1fffa00dc712635a926e97ee1", checked := Try.checked }
namespace Rows
def none {H : Type} : Left H := { results := [], args := [] }

/-- 'colophonlaw23.SimFewer': WHATEVER THE INPUT: true; the input reads as it did. -/
def simFewerSpec : ChangeSpec := { name := "simFewer", fn := fun _ => fun
  | [d1, d2, d3] => { results := [.lit (.bool true)], args := [d1, d2, d3] }
  | _ => none }
def simFewerRow : OpenClaim := { program := "ytlcadkgpojjokaa", sum := "89a129739445055882abe21edb086a6e96caf5c1fffa00dc712635a926e97ee1", func := "colophon/colophonlaw23.SimFewer", spec := "simFewer", unfollowed := true, recurses := true, loops := true, plainKeys := false, apart := false }
def SimFewerSaid : Prop := simFewerRow.holds Try.pinned (OpenSpec.ofChange simFewerSpec)

/-- ITS FALSE NEIGHBOUR: 'it returns false'. Refute it at one input. -/
def simFewerWrong : ChangeSpec := { name := "simFewer", fn := fun _ => fun
  | [d1, d2, d3] => { results := [.lit (.bool false)], args := [d1, d2, d3] }
  | _ => none }
def SimFewerWrongFalsely : Prop := simFewerRow.holds Try.pinned (OpenSpec.ofChange simFewerWrong)

/-- 'colophonlaw23.SimToken': WHATEVER THE INPUT: true; the input reads as it did. -/
def simTokenSpec : ChangeSpec := { name := "simToken", fn := fun _ => fun
  | [d1, d2, d3] => { results := [.lit (.bool true)], args := [d1, d2, d3] }
  | _ => none }
def simTokenRow : OpenClaim := { program := "ytlcadkgpojjokaa", sum := "89a129739445055882abe21edb086a6e96caf5c1fffa00dc712635a926e97ee1", func := "colophon/colophonlaw23.SimToken", spec := "simToken", unfollowed := true, recurses := true, loops := true, plainKeys := false, apart := false }
def SimTokenSaid : Prop := simTokenRow.holds Try.pinned (OpenSpec.ofChange simTokenSpec)

/-- ITS FALSE NEIGHBOUR: 'it returns false'. Refute it at one input. -/
def simTokenWrong : ChangeSpec := { name := "simToken", fn := fun _ => fun
  | [d1, d2, d3] => { results := [.lit (.bool false)], args := [d1, d2, d3] }
  | _ => none }
def SimTokenWrongFalsely : Prop := simTokenRow.holds Try.pinned (OpenSpec.ofChange simTokenWrong)

/-- 'colophonlaw23.SimSome': WHATEVER THE INPUT: true; the input reads as it did. -/
def simSomeSpec : ChangeSpec := { name := "simSome", fn := fun _ => fun
  | [d1, d2, d3] => { results := [.lit (.bool true)], args := [d1, d2, d3] }
  | _ => none }
def simSomeRow : OpenClaim := { program := "ytlcadkgpojjokaa", sum := "89a129739445055882abe21edb086a6e96caf5c1fffa00dc712635a926e97ee1", func := "colophon/colophonlaw23.SimSome", spec := "simSome", unfollowed := true, recurses := true, loops := true, plainKeys := false, apart := false }
def SimSomeSaid : Prop := simSomeRow.holds Try.pinned (OpenSpec.ofChange simSomeSpec)

/-- ITS FALSE NEIGHBOUR: 'it returns false'. Refute it at one input. -/
def simSomeWrong : ChangeSpec := { name := "simSome", fn := fun _ => fun
  | [d1, d2, d3] => { results := [.lit (.bool false)], args := [d1, d2, d3] }
  | _ => none }
def SimSomeWrongFalsely : Prop := simSomeRow.holds Try.pinned (OpenSpec.ofChange simSomeWrong)

/-- 'colophonlaw23.SimDerived': WHATEVER THE INPUT: true; the input reads as it did. -/
def simDerivedSpec : ChangeSpec := { name := "simDerived", fn := fun _ => fun
  | [d1, d2] => { results := [.lit (.bool true)], args := [d1, d2] }
  | _ => none }
def simDerivedRow : OpenClaim := { program := "ytlcadkgpojjokaa", sum := "89a129739445055882abe21edb086a6e96caf5c1fffa00dc712635a926e97ee1", func := "colophon/colophonlaw23.SimDerived", spec := "simDerived", unfollowed := true, recurses := true, loops := true, plainKeys := false, apart := false }
def SimDerivedSaid : Prop := simDerivedRow.holds Try.pinned (OpenSpec.ofChange simDerivedSpec)

/-- ITS FALSE NEIGHBOUR: 'it returns false'. Refute it at one input. -/
def simDerivedWrong : ChangeSpec := { name := "simDerived", fn := fun _ => fun
  | [d1, d2] => { results := [.lit (.bool false)], args := [d1, d2] }
  | _ => none }
def SimDerivedWrongFalsely : Prop := simDerivedRow.holds Try.pinned (OpenSpec.ofChange simDerivedWrong)

/-- 'colophonlaw23.SimKnown': WHATEVER THE INPUT: true; the input reads as it did. -/
def simKnownSpec : ChangeSpec := { name := "simKnown", fn := fun _ => fun
  | [] => { results := [.lit (.bool true)], args := [] }
  | _ => none }
def simKnownRow : OpenClaim := { program := "ytlcadkgpojjokaa", sum := "89a129739445055882abe21edb086a6e96caf5c1fffa00dc712635a926e97ee1", func := "colophon/colophonlaw23.SimKnown", spec := "simKnown", unfollowed := true, recurses := true, plainKeys := false, apart := false }
def SimKnownSaid : Prop := simKnownRow.holds Try.pinned (OpenSpec.ofChange simKnownSpec)

/-- ITS FALSE NEIGHBOUR: 'it returns false'. Refute it at one input. -/
def simKnownWrong : ChangeSpec := { name := "simKnown", fn := fun _ => fun
  | [] => { results := [.lit (.bool false)], args := [] }
  | _ => none }
def SimKnownWrongFalsely : Prop := simKnownRow.holds Try.pinned (OpenSpec.ofChange simKnownWrong)

/- THE SECOND FORM. 'bulk': how many values and letters a reading holds, each counted each time it is reached (what is shared counts as often as it is met; a slice's spare places count too). A statement '..UptoSaid' is the law's where the arguments, and the package variables that the reading takes, are together of bulk at most 1048576: NARROWER than '..Said'. Prove '..Said' where nothing that the law and all that it calls make is longer than what came in: it says more and counts as full. Else prove '..UptoSaid'. A law counts once. -/
mutual
def uptoBulk {H : Type} : DataW H → Nat
  | .lit (.string bytes) => bytes.length + 1
  | .lit _ => 1
  | .nil => 1
  | .ptr d => uptoBulk d + 1
  | .slice elems spare => uptoBulkAll elems + uptoBulkAll spare + 1
  | .agg parts => uptoBulkAll parts + 1
  | .iface _ d => uptoBulk d + 1
  | .map entries => uptoBulkEntries entries + 1
  | .held _ => 1
def uptoBulkAll {H : Type} : List (DataW H) → Nat
  | [] => 0
  | d :: r => uptoBulk d + uptoBulkAll r
def uptoBulkEntries {H : Type} : List (Lit × DataW H) → Nat
  | [] => 0
  | x :: r => uptoBulkEntry x + uptoBulkEntries r
def uptoBulkEntry {H : Type} : Lit × DataW H → Nat
  | (.string bytes, d) => bytes.length + uptoBulk d + 1
  | (_, d) => uptoBulk d + 1
 end
def uptoSmall : (H : Type) → List (DataW H) → Bool := fun _ ds => decide (uptoBulkAll ds ≤ 1048576)
def OpenSpec.upto (s : _root_.Go.ChangeSpec) : _root_.Go.OpenSpec := { _root_.Go.OpenSpec.ofChange s with cond := some uptoSmall }

/-- 'colophonlaw23.SimFewer', WHERE WHAT IT READS IS OF BULK AT MOST 1048576: true; the input reads as it did. -/
def simFewerUptoRow : OpenClaim := { program := "ytlcadkgpojjokaa", sum := "89a129739445055882abe21edb086a6e96caf5c1fffa00dc712635a926e97ee1", func := "colophon/colophonlaw23.SimFewer", spec := "simFewer", unfollowed := true, recurses := true, loops := true, plainKeys := false, apart := false, narrowed := true }
def SimFewerUptoSaid : Prop := simFewerUptoRow.holds Try.pinned (OpenSpec.upto simFewerSpec)

/-- 'colophonlaw23.SimToken', WHERE WHAT IT READS IS OF BULK AT MOST 1048576: true; the input reads as it did. -/
def simTokenUptoRow : OpenClaim := { program := "ytlcadkgpojjokaa", sum := "89a129739445055882abe21edb086a6e96caf5c1fffa00dc712635a926e97ee1", func := "colophon/colophonlaw23.SimToken", spec := "simToken", unfollowed := true, recurses := true, loops := true, plainKeys := false, apart := false, narrowed := true }
def SimTokenUptoSaid : Prop := simTokenUptoRow.holds Try.pinned (OpenSpec.upto simTokenSpec)

/-- 'colophonlaw23.SimSome', WHERE WHAT IT READS IS OF BULK AT MOST 1048576: true; the input reads as it did. -/
def simSomeUptoRow : OpenClaim := { program := "ytlcadkgpojjokaa", sum := "89a129739445055882abe21edb086a6e96caf5c1fffa00dc712635a926e97ee1", func := "colophon/colophonlaw23.SimSome", spec := "simSome", unfollowed := true, recurses := true, loops := true, plainKeys := false, apart := false, narrowed := true }
def SimSomeUptoSaid : Prop := simSomeUptoRow.holds Try.pinned (OpenSpec.upto simSomeSpec)

/-- 'colophonlaw23.SimDerived', WHERE WHAT IT READS IS OF BULK AT MOST 1048576: true; the input reads as it did. -/
def simDerivedUptoRow : OpenClaim := { program := "ytlcadkgpojjokaa", sum := "89a129739445055882abe21edb086a6e96caf5c1fffa00dc712635a926e97ee1", func := "colophon/colophonlaw23.SimDerived", spec := "simDerived", unfollowed := true, recurses := true, loops := true, plainKeys := false, apart := false, narrowed := true }
def SimDerivedUptoSaid : Prop := simDerivedUptoRow.holds Try.pinned (OpenSpec.upto simDerivedSpec)

/-- 'colophonlaw23.SimKnown', WHERE WHAT IT READS IS OF BULK AT MOST 1048576: true; the input reads as it did. -/
def simKnownUptoRow : OpenClaim := { program := "ytlcadkgpojjokaa", sum := "89a129739445055882abe21edb086a6e96caf5c1fffa00dc712635a926e97ee1", func := "colophon/colophonlaw23.SimKnown", spec := "simKnown", unfollowed := true, recurses := true, plainKeys := false, apart := false, narrowed := true }
def SimKnownUptoSaid : Prop := simKnownUptoRow.holds Try.pinned (OpenSpec.upto simKnownSpec)

end Rows
end Go.Proofs.Ytlcadkgpojjokaa
