/-
  NARROWER THAN 'FOR EVERY INPUT', by the rows' own cells (each row's printed sentence says how): NetShort: loops · NetEnds: loops · NetMade: loops · NetShape: loops · NetDerives: loops.
  DERIVED. THE GIVEN ROWS OF THIS SEAT. 6 by the template 'for every input the law returns true; each argument reads behind the call as it read before'; 0 by the template 'total and deterministic' (their statements: YtbppacknigeiaaaTotals.lean).
  GIVEN WITH THE SEED: the statements are not yours to turn. If you find one false, say at which input.
  Laid BY PROGRAM, IN A SANDBOX (cutbox-rows.mjs): the forced cells as the released guide's own fill.sh prints them over the translation 511291a58cf61b1e… (all of the seat's roots in one cut). By AI agents, Wed Nov 11 2026. No macro, syntax, notation, axiom, sorry.
-/
import Derived.Test.YtbppacknigeiaaaChecked
import GoSem.Claim
import GoSem.ClaimJoined
import GoSem.ClaimMapViews
import Derived.JoinedTies
import Derived.KernelRfl
namespace Go.Proofs.Ytbppacknigeiaaa
/- THE CELL 'sum', in the pinned program and in every row, IS THE sha256 OF THE DUMP (.gsa) THAT YtbppacknigeiaaaProg.lean LOADS. Nothing in Lean hashes anything: it is a label: what it is worth is what the hold of that sum in a sandbox is worth. -/
noncomputable def Try.pinned : Pinned := { name := "ytbppacknigeiaaa", sum := "511291a58cf61b1ebe4a464f27d386fa968b0831088fc4d6a27289d1452c4531", checked := Try.checked }
namespace Rows
def none {H : Type} : Left H := { results := [], args := [] }

/-- 'colophonlaw22.NetShort': WHATEVER THE INPUT: true; the input reads as it did. -/
def netShortSpec : ChangeSpec := { name := "netShort", fn := fun _ => fun
  | [d1, d2] => { results := [.lit (.bool true)], args := [d1, d2] }
  | _ => none }
def netShortRow : OpenClaim := { program := "ytbppacknigeiaaa", sum := "511291a58cf61b1ebe4a464f27d386fa968b0831088fc4d6a27289d1452c4531", func := "colophon/colophonlaw22.NetShort", spec := "netShort", unfollowed := true, recurses := true, loops := true, apart := false }
def NetShortSaid : Prop := netShortRow.holds Try.pinned (OpenSpec.ofChange netShortSpec)

/-- ITS FALSE NEIGHBOUR: 'it returns false'. Refute it at one input. -/
def netShortWrong : ChangeSpec := { name := "netShort", fn := fun _ => fun
  | [d1, d2] => { results := [.lit (.bool false)], args := [d1, d2] }
  | _ => none }
def NetShortWrongFalsely : Prop := netShortRow.holds Try.pinned (OpenSpec.ofChange netShortWrong)

/-- 'colophonlaw22.NetEnds': WHATEVER THE INPUT: true; the input reads as it did. -/
def netEndsSpec : ChangeSpec := { name := "netEnds", fn := fun _ => fun
  | [d1, d2] => { results := [.lit (.bool true)], args := [d1, d2] }
  | _ => none }
def netEndsRow : OpenClaim := { program := "ytbppacknigeiaaa", sum := "511291a58cf61b1ebe4a464f27d386fa968b0831088fc4d6a27289d1452c4531", func := "colophon/colophonlaw22.NetEnds", spec := "netEnds", unfollowed := true, recurses := true, loops := true, apart := false }
def NetEndsSaid : Prop := netEndsRow.holds Try.pinned (OpenSpec.ofChange netEndsSpec)

/-- ITS FALSE NEIGHBOUR: 'it returns false'. Refute it at one input. -/
def netEndsWrong : ChangeSpec := { name := "netEnds", fn := fun _ => fun
  | [d1, d2] => { results := [.lit (.bool false)], args := [d1, d2] }
  | _ => none }
def NetEndsWrongFalsely : Prop := netEndsRow.holds Try.pinned (OpenSpec.ofChange netEndsWrong)

/-- 'colophonlaw22.NetMade': WHATEVER THE INPUT: true; the input reads as it did. -/
def netMadeSpec : ChangeSpec := { name := "netMade", fn := fun _ => fun
  | [d1, d2] => { results := [.lit (.bool true)], args := [d1, d2] }
  | _ => none }
def netMadeRow : OpenClaim := { program := "ytbppacknigeiaaa", sum := "511291a58cf61b1ebe4a464f27d386fa968b0831088fc4d6a27289d1452c4531", func := "colophon/colophonlaw22.NetMade", spec := "netMade", unfollowed := true, recurses := true, loops := true, apart := false }
def NetMadeSaid : Prop := netMadeRow.holds Try.pinned (OpenSpec.ofChange netMadeSpec)

/-- ITS FALSE NEIGHBOUR: 'it returns false'. Refute it at one input. -/
def netMadeWrong : ChangeSpec := { name := "netMade", fn := fun _ => fun
  | [d1, d2] => { results := [.lit (.bool false)], args := [d1, d2] }
  | _ => none }
def NetMadeWrongFalsely : Prop := netMadeRow.holds Try.pinned (OpenSpec.ofChange netMadeWrong)

/-- 'colophonlaw22.NetShape': WHATEVER THE INPUT: true; the input reads as it did. -/
def netShapeSpec : ChangeSpec := { name := "netShape", fn := fun _ => fun
  | [d] => { results := [.lit (.bool true)], args := [d] }
  | _ => none }
def netShapeRow : OpenClaim := { program := "ytbppacknigeiaaa", sum := "511291a58cf61b1ebe4a464f27d386fa968b0831088fc4d6a27289d1452c4531", func := "colophon/colophonlaw22.NetShape", spec := "netShape", unfollowed := true, recurses := true, loops := true, apart := false }
def NetShapeSaid : Prop := netShapeRow.holds Try.pinned (OpenSpec.ofChange netShapeSpec)

/-- ITS FALSE NEIGHBOUR: 'it returns false'. Refute it at one input. -/
def netShapeWrong : ChangeSpec := { name := "netShape", fn := fun _ => fun
  | [d] => { results := [.lit (.bool false)], args := [d] }
  | _ => none }
def NetShapeWrongFalsely : Prop := netShapeRow.holds Try.pinned (OpenSpec.ofChange netShapeWrong)

/-- 'colophonlaw22.NetKnown': WHATEVER THE INPUT: true; the input reads as it did. -/
def netKnownSpec : ChangeSpec := { name := "netKnown", fn := fun _ => fun
  | [] => { results := [.lit (.bool true)], args := [] }
  | _ => none }
def netKnownRow : OpenClaim := { program := "ytbppacknigeiaaa", sum := "511291a58cf61b1ebe4a464f27d386fa968b0831088fc4d6a27289d1452c4531", func := "colophon/colophonlaw22.NetKnown", spec := "netKnown", unfollowed := true, recurses := true, apart := false }
def NetKnownSaid : Prop := netKnownRow.holds Try.pinned (OpenSpec.ofChange netKnownSpec)

/-- ITS FALSE NEIGHBOUR: 'it returns false'. Refute it at one input. -/
def netKnownWrong : ChangeSpec := { name := "netKnown", fn := fun _ => fun
  | [] => { results := [.lit (.bool false)], args := [] }
  | _ => none }
def NetKnownWrongFalsely : Prop := netKnownRow.holds Try.pinned (OpenSpec.ofChange netKnownWrong)

/-- 'colophonlaw22.NetDerives': WHATEVER THE INPUT: true; the input reads as it did. -/
def netDerivesSpec : ChangeSpec := { name := "netDerives", fn := fun _ => fun
  | [d1, d2, d3] => { results := [.lit (.bool true)], args := [d1, d2, d3] }
  | _ => none }
def netDerivesRow : OpenClaim := { program := "ytbppacknigeiaaa", sum := "511291a58cf61b1ebe4a464f27d386fa968b0831088fc4d6a27289d1452c4531", func := "colophon/colophonlaw22.NetDerives", spec := "netDerives", unfollowed := true, recurses := true, loops := true, apart := false }
def NetDerivesSaid : Prop := netDerivesRow.holds Try.pinned (OpenSpec.ofChange netDerivesSpec)

/-- ITS FALSE NEIGHBOUR: 'it returns false'. Refute it at one input. -/
def netDerivesWrong : ChangeSpec := { name := "netDerives", fn := fun _ => fun
  | [d1, d2, d3] => { results := [.lit (.bool false)], args := [d1, d2, d3] }
  | _ => none }
def NetDerivesWrongFalsely : Prop := netDerivesRow.holds Try.pinned (OpenSpec.ofChange netDerivesWrong)

/- THE SECOND FORM. 'bulk': how many values and letters a reading holds, each counted each time it is reached (what is shared counts as often as it is met; a slice's spare places count too). A statement '..UptoSaid' is the law's where the arguments, and the package variables that the reading takes, are together of bulk at most 1048576: NARROWER than '..Said'. Prove '..Said' where nothing that the law and all that it calls make is longer than what came in: it says more and counts as full. Else prove '..UptoSaid'. A law counts once. -/
mutual
def uptoBulk {H : Type} : DataW H → Nat
  | .lit (.string bytes) => bytes.length + 1
  | .lit _ => 1
  | .nil => 1
  | .ptr d => uptoBulk d + 1
  | .slice elems spare => uptoBulkAll elems + uptoBulkAll spare + 1
  | .agg parts => uptoBulkAll parts + 1
  | .iface _ d => uptoBulk d + 1
  | .map entries => uptoBulkEntries entries + 1
  | .held _ => 1
def uptoBulkAll {H : Type} : List (DataW H) → Nat
  | [] => 0
  | d :: r => uptoBulk d + uptoBulkAll r
def uptoBulkEntries {H : Type} : List (Lit × DataW H) → Nat
  | [] => 0
  | x :: r => uptoBulkEntry x + uptoBulkEntries r
def uptoBulkEntry {H : Type} : Lit × DataW H → Nat
  | (.string bytes, d) => bytes.length + uptoBulk d + 1
  | (_, d) => uptoBulk d + 1
 end
def uptoSmall : (H : Type) → List (DataW H) → Bool := fun _ ds => decide (uptoBulkAll ds ≤ 1048576)
def OpenSpec.upto (s : _root_.Go.ChangeSpec) : _root_.Go.OpenSpec := { _root_.Go.OpenSpec.ofChange s with cond := some uptoSmall }

/-- 'colophonlaw22.NetShort', WHERE WHAT IT READS IS OF BULK AT MOST 1048576: true; the input reads as it did. -/
def netShortUptoRow : OpenClaim := { program := "ytbppacknigeiaaa", sum := "511291a58cf61b1ebe4a464f27d386fa968b0831088fc4d6a27289d1452c4531", func := "colophon/colophonlaw22.NetShort", spec := "netShort", unfollowed := true, recurses := true, loops := true, apart := false, narrowed := true }
def NetShortUptoSaid : Prop := netShortUptoRow.holds Try.pinned (OpenSpec.upto netShortSpec)

/-- 'colophonlaw22.NetEnds', WHERE WHAT IT READS IS OF BULK AT MOST 1048576: true; the input reads as it did. -/
def netEndsUptoRow : OpenClaim := { program := "ytbppacknigeiaaa", sum := "511291a58cf61b1ebe4a464f27d386fa968b0831088fc4d6a27289d1452c4531", func := "colophon/colophonlaw22.NetEnds", spec := "netEnds", unfollowed := true, recurses := true, loops := true, apart := false, narrowed := true }
def NetEndsUptoSaid : Prop := netEndsUptoRow.holds Try.pinned (OpenSpec.upto netEndsSpec)

/-- 'colophonlaw22.NetMade', WHERE WHAT IT READS IS OF BULK AT MOST 1048576: true; the input reads as it did. -/
def netMadeUptoRow : OpenClaim := { program := "ytbppacknigeiaaa", sum := "511291a58cf61b1ebe4a464f27d386fa968b0831088fc4d6a27289d1452c4531", func := "colophon/colophonlaw22.NetMade", spec := "netMade", unfollowed := true, recurses := true, loops := true, apart := false, narrowed := true }
def NetMadeUptoSaid : Prop := netMadeUptoRow.holds Try.pinned (OpenSpec.upto netMadeSpec)

/-- 'colophonlaw22.NetShape', WHERE WHAT IT READS IS OF BULK AT MOST 1048576: true; the input reads as it did. -/
def netShapeUptoRow : OpenClaim := { program := "ytbppacknigeiaaa", sum := "511291a58cf61b1ebe4a464f27d386fa968b0831088fc4d6a27289d1452c4531", func := "colophon/colophonlaw22.NetShape", spec := "netShape", unfollowed := true, recurses := true, loops := true, apart := false, narrowed := true }
def NetShapeUptoSaid : Prop := netShapeUptoRow.holds Try.pinned (OpenSpec.upto netShapeSpec)

/-- 'colophonlaw22.NetKnown', WHERE WHAT IT READS IS OF BULK AT MOST 1048576: true; the input reads as it did. -/
def netKnownUptoRow : OpenClaim := { program := "ytbppacknigeiaaa", sum := "511291a58cf61b1ebe4a464f27d386fa968b0831088fc4d6a27289d1452c4531", func := "colophon/colophonlaw22.NetKnown", spec := "netKnown", unfollowed := true, recurses := true, apart := false, narrowed := true }
def NetKnownUptoSaid : Prop := netKnownUptoRow.holds Try.pinned (OpenSpec.upto netKnownSpec)

/-- 'colophonlaw22.NetDerives', WHERE WHAT IT READS IS OF BULK AT MOST 1048576: true; the input reads as it did. -/
def netDerivesUptoRow : OpenClaim := { program := "ytbppacknigeiaaa", sum := "511291a58cf61b1ebe4a464f27d386fa968b0831088fc4d6a27289d1452c4531", func := "colophon/colophonlaw22.NetDerives", spec := "netDerives", unfollowed := true, recurses := true, loops := true, apart := false, narrowed := true }
def NetDerivesUptoSaid : Prop := netDerivesUptoRow.holds Try.pinned (OpenSpec.upto netDerivesSpec)

end Rows
end Go.Proofs.Ytbppacknigeiaaa
