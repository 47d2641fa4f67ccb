/-
  NARROWER THAN 'FOR EVERY INPUT', by the rows' own cells (each row's printed sentence says how): TreeCounts: loops · TreeWithin: loops · TreeOther: loops · GrammarSeq: loops · GrammarAlt: loops · GrammarRefused: loops · GrammarCheck: loops · GrammarNothing: loops · TreeDerives: loops.
  DERIVED. THE GIVEN ROWS OF THIS SEAT. 12 by the template 'for every input the law returns true; each argument reads behind the call as it read before'; 0 by the template 'total and deterministic' (their statements: YtahfdfpakikbpaaTotals.lean).
  GIVEN WITH THE SEED: the statements are not yours to turn. If you find one false, say at which input.
  Laid BY PROGRAM, IN A SANDBOX (cutbox-rows.mjs): the forced cells as the released guide's own fill.sh prints them over the translation a0bcadd1ca6e7d0a… (all of the seat's roots in one cut). By AI agents, Wed Nov 11 2026. No macro, syntax, notation, axiom, sorry.
-/
import Derived.Test.YtahfdfpakikbpaaChecked
import GoSem.Claim
import GoSem.ClaimJoined
import GoSem.ClaimMapViews
import Derived.JoinedTies
import Derived.KernelRfl
namespace Go.Proofs.Ytahfdfpakikbpaa
/- THE CELL 'sum', in the pinned program and in every row, IS THE sha256 OF THE DUMP (.gsa) THAT YtahfdfpakikbpaaProg.lean LOADS. Nothing in Lean hashes anything: it is a label: what it is worth is what the hold of that sum in a sandbox is worth. -/
noncomputable def Try.pinned : Pinned := { name := "ytahfdfpakikbpaa", sum := "a0bcadd1ca6e7d0a1b2c42e271cc3e65b1bd32fc1d66c97121288a9cdd2de366", checked := Try.checked }
namespace Rows
def none {H : Type} : Left H := { results := [], args := [] }

/-- 'colophonlaw26.TreeCounts': WHATEVER THE INPUT: true; the input reads as it did. -/
def treeCountsSpec : ChangeSpec := { name := "treeCounts", fn := fun _ => fun
  | [d] => { results := [.lit (.bool true)], args := [d] }
  | _ => none }
def treeCountsRow : OpenClaim := { program := "ytahfdfpakikbpaa", sum := "a0bcadd1ca6e7d0a1b2c42e271cc3e65b1bd32fc1d66c97121288a9cdd2de366", func := "colophon/colophonlaw26.TreeCounts", spec := "treeCounts", unfollowed := true, recurses := true, loops := true, apart := false }
def TreeCountsSaid : Prop := treeCountsRow.holds Try.pinned (OpenSpec.ofChange treeCountsSpec)

/-- ITS FALSE NEIGHBOUR: 'it returns false'. Refute it at one input. -/
def treeCountsWrong : ChangeSpec := { name := "treeCounts", fn := fun _ => fun
  | [d] => { results := [.lit (.bool false)], args := [d] }
  | _ => none }
def TreeCountsWrongFalsely : Prop := treeCountsRow.holds Try.pinned (OpenSpec.ofChange treeCountsWrong)

/-- 'colophonlaw26.TreeWithin': WHATEVER THE INPUT: true; the input reads as it did. -/
def treeWithinSpec : ChangeSpec := { name := "treeWithin", fn := fun _ => fun
  | [d1, d2] => { results := [.lit (.bool true)], args := [d1, d2] }
  | _ => none }
def treeWithinRow : OpenClaim := { program := "ytahfdfpakikbpaa", sum := "a0bcadd1ca6e7d0a1b2c42e271cc3e65b1bd32fc1d66c97121288a9cdd2de366", func := "colophon/colophonlaw26.TreeWithin", spec := "treeWithin", unfollowed := true, recurses := true, loops := true, apart := false }
def TreeWithinSaid : Prop := treeWithinRow.holds Try.pinned (OpenSpec.ofChange treeWithinSpec)

/-- ITS FALSE NEIGHBOUR: 'it returns false'. Refute it at one input. -/
def treeWithinWrong : ChangeSpec := { name := "treeWithin", fn := fun _ => fun
  | [d1, d2] => { results := [.lit (.bool false)], args := [d1, d2] }
  | _ => none }
def TreeWithinWrongFalsely : Prop := treeWithinRow.holds Try.pinned (OpenSpec.ofChange treeWithinWrong)

/-- 'colophonlaw26.TreeOther': WHATEVER THE INPUT: true; the input reads as it did. -/
def treeOtherSpec : ChangeSpec := { name := "treeOther", fn := fun _ => fun
  | [d1, d2, d3] => { results := [.lit (.bool true)], args := [d1, d2, d3] }
  | _ => none }
def treeOtherRow : OpenClaim := { program := "ytahfdfpakikbpaa", sum := "a0bcadd1ca6e7d0a1b2c42e271cc3e65b1bd32fc1d66c97121288a9cdd2de366", func := "colophon/colophonlaw26.TreeOther", spec := "treeOther", unfollowed := true, recurses := true, loops := true, apart := false }
def TreeOtherSaid : Prop := treeOtherRow.holds Try.pinned (OpenSpec.ofChange treeOtherSpec)

/-- ITS FALSE NEIGHBOUR: 'it returns false'. Refute it at one input. -/
def treeOtherWrong : ChangeSpec := { name := "treeOther", fn := fun _ => fun
  | [d1, d2, d3] => { results := [.lit (.bool false)], args := [d1, d2, d3] }
  | _ => none }
def TreeOtherWrongFalsely : Prop := treeOtherRow.holds Try.pinned (OpenSpec.ofChange treeOtherWrong)

/-- 'colophonlaw20.GrammarMini': WHATEVER THE INPUT: true; the input reads as it did. -/
def grammarMiniSpec : ChangeSpec := { name := "grammarMini", fn := fun _ => fun
  | [d1, d2] => { results := [.lit (.bool true)], args := [d1, d2] }
  | _ => none }
def grammarMiniRow : OpenClaim := { program := "ytahfdfpakikbpaa", sum := "a0bcadd1ca6e7d0a1b2c42e271cc3e65b1bd32fc1d66c97121288a9cdd2de366", func := "colophon/colophonlaw20.GrammarMini", spec := "grammarMini", unfollowed := true, recurses := true, apart := false }
def GrammarMiniSaid : Prop := grammarMiniRow.holds Try.pinned (OpenSpec.ofChange grammarMiniSpec)

/-- ITS FALSE NEIGHBOUR: 'it returns false'. Refute it at one input. -/
def grammarMiniWrong : ChangeSpec := { name := "grammarMini", fn := fun _ => fun
  | [d1, d2] => { results := [.lit (.bool false)], args := [d1, d2] }
  | _ => none }
def GrammarMiniWrongFalsely : Prop := grammarMiniRow.holds Try.pinned (OpenSpec.ofChange grammarMiniWrong)

/-- 'colophonlaw20.GrammarSeq': WHATEVER THE INPUT: true; the input reads as it did. -/
def grammarSeqSpec : ChangeSpec := { name := "grammarSeq", fn := fun _ => fun
  | [d1, d2, d3] => { results := [.lit (.bool true)], args := [d1, d2, d3] }
  | _ => none }
def grammarSeqRow : OpenClaim := { program := "ytahfdfpakikbpaa", sum := "a0bcadd1ca6e7d0a1b2c42e271cc3e65b1bd32fc1d66c97121288a9cdd2de366", func := "colophon/colophonlaw20.GrammarSeq", spec := "grammarSeq", unfollowed := true, recurses := true, loops := true, apart := false }
def GrammarSeqSaid : Prop := grammarSeqRow.holds Try.pinned (OpenSpec.ofChange grammarSeqSpec)

/-- ITS FALSE NEIGHBOUR: 'it returns false'. Refute it at one input. -/
def grammarSeqWrong : ChangeSpec := { name := "grammarSeq", fn := fun _ => fun
  | [d1, d2, d3] => { results := [.lit (.bool false)], args := [d1, d2, d3] }
  | _ => none }
def GrammarSeqWrongFalsely : Prop := grammarSeqRow.holds Try.pinned (OpenSpec.ofChange grammarSeqWrong)

/-- 'colophonlaw20.GrammarAlt': WHATEVER THE INPUT: true; the input reads as it did. -/
def grammarAltSpec : ChangeSpec := { name := "grammarAlt", fn := fun _ => fun
  | [d1, d2, d3] => { results := [.lit (.bool true)], args := [d1, d2, d3] }
  | _ => none }
def grammarAltRow : OpenClaim := { program := "ytahfdfpakikbpaa", sum := "a0bcadd1ca6e7d0a1b2c42e271cc3e65b1bd32fc1d66c97121288a9cdd2de366", func := "colophon/colophonlaw20.GrammarAlt", spec := "grammarAlt", unfollowed := true, recurses := true, loops := true, apart := false }
def GrammarAltSaid : Prop := grammarAltRow.holds Try.pinned (OpenSpec.ofChange grammarAltSpec)

/-- ITS FALSE NEIGHBOUR: 'it returns false'. Refute it at one input. -/
def grammarAltWrong : ChangeSpec := { name := "grammarAlt", fn := fun _ => fun
  | [d1, d2, d3] => { results := [.lit (.bool false)], args := [d1, d2, d3] }
  | _ => none }
def GrammarAltWrongFalsely : Prop := grammarAltRow.holds Try.pinned (OpenSpec.ofChange grammarAltWrong)

/-- 'colophonlaw20.GrammarRefused': WHATEVER THE INPUT: true; the input reads as it did. -/
def grammarRefusedSpec : ChangeSpec := { name := "grammarRefused", fn := fun _ => fun
  | [d1, d2, d3] => { results := [.lit (.bool true)], args := [d1, d2, d3] }
  | _ => none }
def grammarRefusedRow : OpenClaim := { program := "ytahfdfpakikbpaa", sum := "a0bcadd1ca6e7d0a1b2c42e271cc3e65b1bd32fc1d66c97121288a9cdd2de366", func := "colophon/colophonlaw20.GrammarRefused", spec := "grammarRefused", unfollowed := true, recurses := true, loops := true, apart := false }
def GrammarRefusedSaid : Prop := grammarRefusedRow.holds Try.pinned (OpenSpec.ofChange grammarRefusedSpec)

/-- ITS FALSE NEIGHBOUR: 'it returns false'. Refute it at one input. -/
def grammarRefusedWrong : ChangeSpec := { name := "grammarRefused", fn := fun _ => fun
  | [d1, d2, d3] => { results := [.lit (.bool false)], args := [d1, d2, d3] }
  | _ => none }
def GrammarRefusedWrongFalsely : Prop := grammarRefusedRow.holds Try.pinned (OpenSpec.ofChange grammarRefusedWrong)

/-- 'colophonlaw20.GrammarKnown': WHATEVER THE INPUT: true; the input reads as it did. -/
def grammarKnownSpec : ChangeSpec := { name := "grammarKnown", fn := fun _ => fun
  | [] => { results := [.lit (.bool true)], args := [] }
  | _ => none }
def grammarKnownRow : OpenClaim := { program := "ytahfdfpakikbpaa", sum := "a0bcadd1ca6e7d0a1b2c42e271cc3e65b1bd32fc1d66c97121288a9cdd2de366", func := "colophon/colophonlaw20.GrammarKnown", spec := "grammarKnown", unfollowed := true, recurses := true, apart := false }
def GrammarKnownSaid : Prop := grammarKnownRow.holds Try.pinned (OpenSpec.ofChange grammarKnownSpec)

/-- ITS FALSE NEIGHBOUR: 'it returns false'. Refute it at one input. -/
def grammarKnownWrong : ChangeSpec := { name := "grammarKnown", fn := fun _ => fun
  | [] => { results := [.lit (.bool false)], args := [] }
  | _ => none }
def GrammarKnownWrongFalsely : Prop := grammarKnownRow.holds Try.pinned (OpenSpec.ofChange grammarKnownWrong)

/-- 'colophonlaw20.GrammarCheck': WHATEVER THE INPUT: true; the input reads as it did. -/
def grammarCheckSpec : ChangeSpec := { name := "grammarCheck", fn := fun _ => fun
  | [d] => { results := [.lit (.bool true)], args := [d] }
  | _ => none }
def grammarCheckRow : OpenClaim := { program := "ytahfdfpakikbpaa", sum := "a0bcadd1ca6e7d0a1b2c42e271cc3e65b1bd32fc1d66c97121288a9cdd2de366", func := "colophon/colophonlaw20.GrammarCheck", spec := "grammarCheck", unfollowed := true, recurses := true, loops := true, apart := false }
def GrammarCheckSaid : Prop := grammarCheckRow.holds Try.pinned (OpenSpec.ofChange grammarCheckSpec)

/-- ITS FALSE NEIGHBOUR: 'it returns false'. Refute it at one input. -/
def grammarCheckWrong : ChangeSpec := { name := "grammarCheck", fn := fun _ => fun
  | [d] => { results := [.lit (.bool false)], args := [d] }
  | _ => none }
def GrammarCheckWrongFalsely : Prop := grammarCheckRow.holds Try.pinned (OpenSpec.ofChange grammarCheckWrong)

/-- 'colophonlaw20.GrammarNothing': WHATEVER THE INPUT: true; the input reads as it did. -/
def grammarNothingSpec : ChangeSpec := { name := "grammarNothing", fn := fun _ => fun
  | [d1, d2] => { results := [.lit (.bool true)], args := [d1, d2] }
  | _ => none }
def grammarNothingRow : OpenClaim := { program := "ytahfdfpakikbpaa", sum := "a0bcadd1ca6e7d0a1b2c42e271cc3e65b1bd32fc1d66c97121288a9cdd2de366", func := "colophon/colophonlaw20.GrammarNothing", spec := "grammarNothing", unfollowed := true, recurses := true, loops := true, apart := false }
def GrammarNothingSaid : Prop := grammarNothingRow.holds Try.pinned (OpenSpec.ofChange grammarNothingSpec)

/-- ITS FALSE NEIGHBOUR: 'it returns false'. Refute it at one input. -/
def grammarNothingWrong : ChangeSpec := { name := "grammarNothing", fn := fun _ => fun
  | [d1, d2] => { results := [.lit (.bool false)], args := [d1, d2] }
  | _ => none }
def GrammarNothingWrongFalsely : Prop := grammarNothingRow.holds Try.pinned (OpenSpec.ofChange grammarNothingWrong)

/-- 'colophonlaw26.TreeKnown': WHATEVER THE INPUT: true; the input reads as it did. -/
def treeKnownSpec : ChangeSpec := { name := "treeKnown", fn := fun _ => fun
  | [] => { results := [.lit (.bool true)], args := [] }
  | _ => none }
def treeKnownRow : OpenClaim := { program := "ytahfdfpakikbpaa", sum := "a0bcadd1ca6e7d0a1b2c42e271cc3e65b1bd32fc1d66c97121288a9cdd2de366", func := "colophon/colophonlaw26.TreeKnown", spec := "treeKnown", unfollowed := true, recurses := true, apart := false }
def TreeKnownSaid : Prop := treeKnownRow.holds Try.pinned (OpenSpec.ofChange treeKnownSpec)

/-- ITS FALSE NEIGHBOUR: 'it returns false'. Refute it at one input. -/
def treeKnownWrong : ChangeSpec := { name := "treeKnown", fn := fun _ => fun
  | [] => { results := [.lit (.bool false)], args := [] }
  | _ => none }
def TreeKnownWrongFalsely : Prop := treeKnownRow.holds Try.pinned (OpenSpec.ofChange treeKnownWrong)

/-- 'colophonlaw26.TreeDerives': WHATEVER THE INPUT: true; the input reads as it did. -/
def treeDerivesSpec : ChangeSpec := { name := "treeDerives", fn := fun _ => fun
  | [d1, d2] => { results := [.lit (.bool true)], args := [d1, d2] }
  | _ => none }
def treeDerivesRow : OpenClaim := { program := "ytahfdfpakikbpaa", sum := "a0bcadd1ca6e7d0a1b2c42e271cc3e65b1bd32fc1d66c97121288a9cdd2de366", func := "colophon/colophonlaw26.TreeDerives", spec := "treeDerives", unfollowed := true, recurses := true, loops := true, apart := false }
def TreeDerivesSaid : Prop := treeDerivesRow.holds Try.pinned (OpenSpec.ofChange treeDerivesSpec)

/-- ITS FALSE NEIGHBOUR: 'it returns false'. Refute it at one input. -/
def treeDerivesWrong : ChangeSpec := { name := "treeDerives", fn := fun _ => fun
  | [d1, d2] => { results := [.lit (.bool false)], args := [d1, d2] }
  | _ => none }
def TreeDerivesWrongFalsely : Prop := treeDerivesRow.holds Try.pinned (OpenSpec.ofChange treeDerivesWrong)

/- THE SECOND FORM. 'bulk': how many values and letters a reading holds, each counted each time it is reached (what is shared counts as often as it is met; a slice's spare places count too). A statement '..UptoSaid' is the law's where the arguments, and the package variables that the reading takes, are together of bulk at most 1048576: NARROWER than '..Said'. Prove '..Said' where nothing that the law and all that it calls make is longer than what came in: it says more and counts as full. Else prove '..UptoSaid'. A law counts once. -/
mutual
def uptoBulk {H : Type} : DataW H → Nat
  | .lit (.string bytes) => bytes.length + 1
  | .lit _ => 1
  | .nil => 1
  | .ptr d => uptoBulk d + 1
  | .slice elems spare => uptoBulkAll elems + uptoBulkAll spare + 1
  | .agg parts => uptoBulkAll parts + 1
  | .iface _ d => uptoBulk d + 1
  | .map entries => uptoBulkEntries entries + 1
  | .held _ => 1
def uptoBulkAll {H : Type} : List (DataW H) → Nat
  | [] => 0
  | d :: r => uptoBulk d + uptoBulkAll r
def uptoBulkEntries {H : Type} : List (Lit × DataW H) → Nat
  | [] => 0
  | x :: r => uptoBulkEntry x + uptoBulkEntries r
def uptoBulkEntry {H : Type} : Lit × DataW H → Nat
  | (.string bytes, d) => bytes.length + uptoBulk d + 1
  | (_, d) => uptoBulk d + 1
 end
def uptoSmall : (H : Type) → List (DataW H) → Bool := fun _ ds => decide (uptoBulkAll ds ≤ 1048576)
def OpenSpec.upto (s : _root_.Go.ChangeSpec) : _root_.Go.OpenSpec := { _root_.Go.OpenSpec.ofChange s with cond := some uptoSmall }

/-- 'colophonlaw26.TreeCounts', WHERE WHAT IT READS IS OF BULK AT MOST 1048576: true; the input reads as it did. -/
def treeCountsUptoRow : OpenClaim := { program := "ytahfdfpakikbpaa", sum := "a0bcadd1ca6e7d0a1b2c42e271cc3e65b1bd32fc1d66c97121288a9cdd2de366", func := "colophon/colophonlaw26.TreeCounts", spec := "treeCounts", unfollowed := true, recurses := true, loops := true, apart := false, narrowed := true }
def TreeCountsUptoSaid : Prop := treeCountsUptoRow.holds Try.pinned (OpenSpec.upto treeCountsSpec)

/-- 'colophonlaw26.TreeWithin', WHERE WHAT IT READS IS OF BULK AT MOST 1048576: true; the input reads as it did. -/
def treeWithinUptoRow : OpenClaim := { program := "ytahfdfpakikbpaa", sum := "a0bcadd1ca6e7d0a1b2c42e271cc3e65b1bd32fc1d66c97121288a9cdd2de366", func := "colophon/colophonlaw26.TreeWithin", spec := "treeWithin", unfollowed := true, recurses := true, loops := true, apart := false, narrowed := true }
def TreeWithinUptoSaid : Prop := treeWithinUptoRow.holds Try.pinned (OpenSpec.upto treeWithinSpec)

/-- 'colophonlaw26.TreeOther', WHERE WHAT IT READS IS OF BULK AT MOST 1048576: true; the input reads as it did. -/
def treeOtherUptoRow : OpenClaim := { program := "ytahfdfpakikbpaa", sum := "a0bcadd1ca6e7d0a1b2c42e271cc3e65b1bd32fc1d66c97121288a9cdd2de366", func := "colophon/colophonlaw26.TreeOther", spec := "treeOther", unfollowed := true, recurses := true, loops := true, apart := false, narrowed := true }
def TreeOtherUptoSaid : Prop := treeOtherUptoRow.holds Try.pinned (OpenSpec.upto treeOtherSpec)

/-- 'colophonlaw20.GrammarMini', WHERE WHAT IT READS IS OF BULK AT MOST 1048576: true; the input reads as it did. -/
def grammarMiniUptoRow : OpenClaim := { program := "ytahfdfpakikbpaa", sum := "a0bcadd1ca6e7d0a1b2c42e271cc3e65b1bd32fc1d66c97121288a9cdd2de366", func := "colophon/colophonlaw20.GrammarMini", spec := "grammarMini", unfollowed := true, recurses := true, apart := false, narrowed := true }
def GrammarMiniUptoSaid : Prop := grammarMiniUptoRow.holds Try.pinned (OpenSpec.upto grammarMiniSpec)

/-- 'colophonlaw20.GrammarSeq', WHERE WHAT IT READS IS OF BULK AT MOST 1048576: true; the input reads as it did. -/
def grammarSeqUptoRow : OpenClaim := { program := "ytahfdfpakikbpaa", sum := "a0bcadd1ca6e7d0a1b2c42e271cc3e65b1bd32fc1d66c97121288a9cdd2de366", func := "colophon/colophonlaw20.GrammarSeq", spec := "grammarSeq", unfollowed := true, recurses := true, loops := true, apart := false, narrowed := true }
def GrammarSeqUptoSaid : Prop := grammarSeqUptoRow.holds Try.pinned (OpenSpec.upto grammarSeqSpec)

/-- 'colophonlaw20.GrammarAlt', WHERE WHAT IT READS IS OF BULK AT MOST 1048576: true; the input reads as it did. -/
def grammarAltUptoRow : OpenClaim := { program := "ytahfdfpakikbpaa", sum := "a0bcadd1ca6e7d0a1b2c42e271cc3e65b1bd32fc1d66c97121288a9cdd2de366", func := "colophon/colophonlaw20.GrammarAlt", spec := "grammarAlt", unfollowed := true, recurses := true, loops := true, apart := false, narrowed := true }
def GrammarAltUptoSaid : Prop := grammarAltUptoRow.holds Try.pinned (OpenSpec.upto grammarAltSpec)

/-- 'colophonlaw20.GrammarRefused', WHERE WHAT IT READS IS OF BULK AT MOST 1048576: true; the input reads as it did. -/
def grammarRefusedUptoRow : OpenClaim := { program := "ytahfdfpakikbpaa", sum := "a0bcadd1ca6e7d0a1b2c42e271cc3e65b1bd32fc1d66c97121288a9cdd2de366", func := "colophon/colophonlaw20.GrammarRefused", spec := "grammarRefused", unfollowed := true, recurses := true, loops := true, apart := false, narrowed := true }
def GrammarRefusedUptoSaid : Prop := grammarRefusedUptoRow.holds Try.pinned (OpenSpec.upto grammarRefusedSpec)

/-- 'colophonlaw20.GrammarKnown', WHERE WHAT IT READS IS OF BULK AT MOST 1048576: true; the input reads as it did. -/
def grammarKnownUptoRow : OpenClaim := { program := "ytahfdfpakikbpaa", sum := "a0bcadd1ca6e7d0a1b2c42e271cc3e65b1bd32fc1d66c97121288a9cdd2de366", func := "colophon/colophonlaw20.GrammarKnown", spec := "grammarKnown", unfollowed := true, recurses := true, apart := false, narrowed := true }
def GrammarKnownUptoSaid : Prop := grammarKnownUptoRow.holds Try.pinned (OpenSpec.upto grammarKnownSpec)

/-- 'colophonlaw20.GrammarCheck', WHERE WHAT IT READS IS OF BULK AT MOST 1048576: true; the input reads as it did. -/
def grammarCheckUptoRow : OpenClaim := { program := "ytahfdfpakikbpaa", sum := "a0bcadd1ca6e7d0a1b2c42e271cc3e65b1bd32fc1d66c97121288a9cdd2de366", func := "colophon/colophonlaw20.GrammarCheck", spec := "grammarCheck", unfollowed := true, recurses := true, loops := true, apart := false, narrowed := true }
def GrammarCheckUptoSaid : Prop := grammarCheckUptoRow.holds Try.pinned (OpenSpec.upto grammarCheckSpec)

/-- 'colophonlaw20.GrammarNothing', WHERE WHAT IT READS IS OF BULK AT MOST 1048576: true; the input reads as it did. -/
def grammarNothingUptoRow : OpenClaim := { program := "ytahfdfpakikbpaa", sum := "a0bcadd1ca6e7d0a1b2c42e271cc3e65b1bd32fc1d66c97121288a9cdd2de366", func := "colophon/colophonlaw20.GrammarNothing", spec := "grammarNothing", unfollowed := true, recurses := true, loops := true, apart := false, narrowed := true }
def GrammarNothingUptoSaid : Prop := grammarNothingUptoRow.holds Try.pinned (OpenSpec.upto grammarNothingSpec)

/-- 'colophonlaw26.TreeKnown', WHERE WHAT IT READS IS OF BULK AT MOST 1048576: true; the input reads as it did. -/
def treeKnownUptoRow : OpenClaim := { program := "ytahfdfpakikbpaa", sum := "a0bcadd1ca6e7d0a1b2c42e271cc3e65b1bd32fc1d66c97121288a9cdd2de366", func := "colophon/colophonlaw26.TreeKnown", spec := "treeKnown", unfollowed := true, recurses := true, apart := false, narrowed := true }
def TreeKnownUptoSaid : Prop := treeKnownUptoRow.holds Try.pinned (OpenSpec.upto treeKnownSpec)

/-- 'colophonlaw26.TreeDerives', WHERE WHAT IT READS IS OF BULK AT MOST 1048576: true; the input reads as it did. -/
def treeDerivesUptoRow : OpenClaim := { program := "ytahfdfpakikbpaa", sum := "a0bcadd1ca6e7d0a1b2c42e271cc3e65b1bd32fc1d66c97121288a9cdd2de366", func := "colophon/colophonlaw26.TreeDerives", spec := "treeDerives", unfollowed := true, recurses := true, loops := true, apart := false, narrowed := true }
def TreeDerivesUptoSaid : Prop := treeDerivesUptoRow.holds Try.pinned (OpenSpec.upto treeDerivesSpec)

end Rows
end Go.Proofs.Ytahfdfpakikbpaa
