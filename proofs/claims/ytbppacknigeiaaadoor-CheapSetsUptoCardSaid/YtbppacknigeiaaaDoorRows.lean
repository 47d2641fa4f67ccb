/-
  NARROWER THAN 'FOR EVERY INPUT', by the rows' own cells (each row's printed sentence says how): CheapSets: loops, laid · CheapShort: loops, laid · CheapBehind: loops, laid · CheapRise: loops, laid · CheapKnown: laid · CheapLeast: loops, laid · CheapBegins: loops, laid.
  DERIVED. THE GIVEN ROWS OF THIS SEAT. 7 by the template 'for every input the law returns true; each argument reads behind the call as it read before'; 0 by the template 'total and deterministic' (their statements: YtbppacknigeiaaaDoorTotals.lean).
  GIVEN WITH THE SEED: the statements are not yours to turn. If you find one false, say at which input.
  Laid BY PROGRAM, IN A SANDBOX (cutbox-rows.mjs): the forced cells as the released guide's own fill.sh prints them over the translation a81fc4aedd433c48… (all of the seat's roots in one cut). By AI agents, Wed Nov 11 2026. No macro, syntax, notation, axiom, sorry.
-/
import Derived.Test.YtbppacknigeiaaaDoorChecked
import GoSem.Claim
import GoSem.ClaimJoined
import GoSem.ClaimMapViews
import Derived.JoinedTies
import Derived.KernelRfl
namespace Go.Proofs.YtbppacknigeiaaaDoor
/- THE CELL 'sum', in the pinned program and in every row, IS THE sha256 OF THE DUMP (.gsa) THAT YtbppacknigeiaaaDoorProg.lean LOADS. Nothing in Lean hashes anything: it is a label: what it is worth is what the hold of that sum in a sandbox is worth. -/
noncomputable def Tryd.pinned : Pinned := { name := "ytbppacknigeiaaadoor", sum := "a81fc4aedd433c4844cf8f02030232755e7f1f86eecf1e680ad40055ce991e4c", checked := Tryd.checked }
namespace Rows
def none {H : Type} : Left H := { results := [], args := [] }

/- WHAT THE LISTED PACKAGE-LEVEL VARIABLES READ AS WHEN THE CALL BEGINS. Each datum BY PROGRAM (the guide's laid-datum.mjs) off the statement by which the dump's own 'gosem.cut.vars' lays the variable. In a bare row this is a premise. The card (YtbppacknigeiaaaDoorCards.lean) ties it to the program's text. -/
def laid_math_bits_deBruijn64tab {H : Type} : DataW H := .agg [.lit (.int .u8 0), .lit (.int .u8 1), .lit (.int .u8 56), .lit (.int .u8 2), .lit (.int .u8 57), .lit (.int .u8 49), .lit (.int .u8 28), .lit (.int .u8 3), .lit (.int .u8 61), .lit (.int .u8 58), .lit (.int .u8 42), .lit (.int .u8 50), .lit (.int .u8 38), .lit (.int .u8 29), .lit (.int .u8 17), .lit (.int .u8 4), .lit (.int .u8 62), .lit (.int .u8 47), .lit (.int .u8 59), .lit (.int .u8 36), .lit (.int .u8 45), .lit (.int .u8 43), .lit (.int .u8 51), .lit (.int .u8 22), .lit (.int .u8 53), .lit (.int .u8 39), .lit (.int .u8 33), .lit (.int .u8 30), .lit (.int .u8 24), .lit (.int .u8 18), .lit (.int .u8 12), .lit (.int .u8 5), .lit (.int .u8 63), .lit (.int .u8 55), .lit (.int .u8 48), .lit (.int .u8 27), .lit (.int .u8 60), .lit (.int .u8 41), .lit (.int .u8 37), .lit (.int .u8 16), .lit (.int .u8 46), .lit (.int .u8 35), .lit (.int .u8 44), .lit (.int .u8 21), .lit (.int .u8 52), .lit (.int .u8 32), .lit (.int .u8 23), .lit (.int .u8 11), .lit (.int .u8 54), .lit (.int .u8 26), .lit (.int .u8 40), .lit (.int .u8 15), .lit (.int .u8 34), .lit (.int .u8 20), .lit (.int .u8 31), .lit (.int .u8 10), .lit (.int .u8 25), .lit (.int .u8 14), .lit (.int .u8 19), .lit (.int .u8 9), .lit (.int .u8 13), .lit (.int .u8 8), .lit (.int .u8 7), .lit (.int .u8 6)]

/-- 'colophonlaw21.CheapSets': WHATEVER THE INPUT: true; the input reads as it did. -/
def cheapSetsSpec : ChangeSpec := { name := "cheapSets", fn := fun _ => fun
  | [d] => { results := [.lit (.bool true)], args := [d] }
  | _ => none }
def cheapSetsRow : OpenClaim := { program := "ytbppacknigeiaaadoor", sum := "a81fc4aedd433c4844cf8f02030232755e7f1f86eecf1e680ad40055ce991e4c", func := "colophon/colophonlaw21.CheapSets", spec := "cheapSets", unfollowed := true, recurses := true, named := ["math/bits.deBruijn64tab"], loops := true, apart := false, laid := [("math/bits.deBruijn64tab", laid_math_bits_deBruijn64tab)] }
def CheapSetsSaid : Prop := cheapSetsRow.holds Tryd.pinned (OpenSpec.ofChange cheapSetsSpec)

/-- ITS FALSE NEIGHBOUR: 'it returns false'. Refute it at one input. -/
def cheapSetsWrong : ChangeSpec := { name := "cheapSets", fn := fun _ => fun
  | [d] => { results := [.lit (.bool false)], args := [d] }
  | _ => none }
def CheapSetsWrongFalsely : Prop := cheapSetsRow.holds Tryd.pinned (OpenSpec.ofChange cheapSetsWrong)

/-- 'colophonlaw21.CheapShort': WHATEVER THE INPUT: true; the input reads as it did. -/
def cheapShortSpec : ChangeSpec := { name := "cheapShort", fn := fun _ => fun
  | [d1, d2] => { results := [.lit (.bool true)], args := [d1, d2] }
  | _ => none }
def cheapShortRow : OpenClaim := { program := "ytbppacknigeiaaadoor", sum := "a81fc4aedd433c4844cf8f02030232755e7f1f86eecf1e680ad40055ce991e4c", func := "colophon/colophonlaw21.CheapShort", spec := "cheapShort", unfollowed := true, recurses := true, named := ["math/bits.deBruijn64tab"], loops := true, apart := false, laid := [("math/bits.deBruijn64tab", laid_math_bits_deBruijn64tab)] }
def CheapShortSaid : Prop := cheapShortRow.holds Tryd.pinned (OpenSpec.ofChange cheapShortSpec)

/-- ITS FALSE NEIGHBOUR: 'it returns false'. Refute it at one input. -/
def cheapShortWrong : ChangeSpec := { name := "cheapShort", fn := fun _ => fun
  | [d1, d2] => { results := [.lit (.bool false)], args := [d1, d2] }
  | _ => none }
def CheapShortWrongFalsely : Prop := cheapShortRow.holds Tryd.pinned (OpenSpec.ofChange cheapShortWrong)

/-- 'colophonlaw21.CheapBehind': WHATEVER THE INPUT: true; the input reads as it did. -/
def cheapBehindSpec : ChangeSpec := { name := "cheapBehind", fn := fun _ => fun
  | [d1, d2] => { results := [.lit (.bool true)], args := [d1, d2] }
  | _ => none }
def cheapBehindRow : OpenClaim := { program := "ytbppacknigeiaaadoor", sum := "a81fc4aedd433c4844cf8f02030232755e7f1f86eecf1e680ad40055ce991e4c", func := "colophon/colophonlaw21.CheapBehind", spec := "cheapBehind", unfollowed := true, recurses := true, named := ["math/bits.deBruijn64tab"], loops := true, apart := false, laid := [("math/bits.deBruijn64tab", laid_math_bits_deBruijn64tab)] }
def CheapBehindSaid : Prop := cheapBehindRow.holds Tryd.pinned (OpenSpec.ofChange cheapBehindSpec)

/-- ITS FALSE NEIGHBOUR: 'it returns false'. Refute it at one input. -/
def cheapBehindWrong : ChangeSpec := { name := "cheapBehind", fn := fun _ => fun
  | [d1, d2] => { results := [.lit (.bool false)], args := [d1, d2] }
  | _ => none }
def CheapBehindWrongFalsely : Prop := cheapBehindRow.holds Tryd.pinned (OpenSpec.ofChange cheapBehindWrong)

/-- 'colophonlaw21.CheapRise': WHATEVER THE INPUT: true; the input reads as it did. -/
def cheapRiseSpec : ChangeSpec := { name := "cheapRise", fn := fun _ => fun
  | [d] => { results := [.lit (.bool true)], args := [d] }
  | _ => none }
def cheapRiseRow : OpenClaim := { program := "ytbppacknigeiaaadoor", sum := "a81fc4aedd433c4844cf8f02030232755e7f1f86eecf1e680ad40055ce991e4c", func := "colophon/colophonlaw21.CheapRise", spec := "cheapRise", unfollowed := true, recurses := true, named := ["math/bits.deBruijn64tab"], loops := true, apart := false, laid := [("math/bits.deBruijn64tab", laid_math_bits_deBruijn64tab)] }
def CheapRiseSaid : Prop := cheapRiseRow.holds Tryd.pinned (OpenSpec.ofChange cheapRiseSpec)

/-- ITS FALSE NEIGHBOUR: 'it returns false'. Refute it at one input. -/
def cheapRiseWrong : ChangeSpec := { name := "cheapRise", fn := fun _ => fun
  | [d] => { results := [.lit (.bool false)], args := [d] }
  | _ => none }
def CheapRiseWrongFalsely : Prop := cheapRiseRow.holds Tryd.pinned (OpenSpec.ofChange cheapRiseWrong)

/-- 'colophonlaw21.CheapKnown': WHATEVER THE INPUT: true; the input reads as it did. -/
def cheapKnownSpec : ChangeSpec := { name := "cheapKnown", fn := fun _ => fun
  | [] => { results := [.lit (.bool true)], args := [] }
  | _ => none }
def cheapKnownRow : OpenClaim := { program := "ytbppacknigeiaaadoor", sum := "a81fc4aedd433c4844cf8f02030232755e7f1f86eecf1e680ad40055ce991e4c", func := "colophon/colophonlaw21.CheapKnown", spec := "cheapKnown", unfollowed := true, recurses := true, named := ["math/bits.deBruijn64tab"], apart := false, laid := [("math/bits.deBruijn64tab", laid_math_bits_deBruijn64tab)] }
def CheapKnownSaid : Prop := cheapKnownRow.holds Tryd.pinned (OpenSpec.ofChange cheapKnownSpec)

/-- ITS FALSE NEIGHBOUR: 'it returns false'. Refute it at one input. -/
def cheapKnownWrong : ChangeSpec := { name := "cheapKnown", fn := fun _ => fun
  | [] => { results := [.lit (.bool false)], args := [] }
  | _ => none }
def CheapKnownWrongFalsely : Prop := cheapKnownRow.holds Tryd.pinned (OpenSpec.ofChange cheapKnownWrong)

/-- 'colophonlaw21.CheapLeast': WHATEVER THE INPUT: true; the input reads as it did. -/
def cheapLeastSpec : ChangeSpec := { name := "cheapLeast", fn := fun _ => fun
  | [d1, d2, d3] => { results := [.lit (.bool true)], args := [d1, d2, d3] }
  | _ => none }
def cheapLeastRow : OpenClaim := { program := "ytbppacknigeiaaadoor", sum := "a81fc4aedd433c4844cf8f02030232755e7f1f86eecf1e680ad40055ce991e4c", func := "colophon/colophonlaw21.CheapLeast", spec := "cheapLeast", unfollowed := true, recurses := true, named := ["math/bits.deBruijn64tab"], loops := true, apart := false, laid := [("math/bits.deBruijn64tab", laid_math_bits_deBruijn64tab)] }
def CheapLeastSaid : Prop := cheapLeastRow.holds Tryd.pinned (OpenSpec.ofChange cheapLeastSpec)

/-- ITS FALSE NEIGHBOUR: 'it returns false'. Refute it at one input. -/
def cheapLeastWrong : ChangeSpec := { name := "cheapLeast", fn := fun _ => fun
  | [d1, d2, d3] => { results := [.lit (.bool false)], args := [d1, d2, d3] }
  | _ => none }
def CheapLeastWrongFalsely : Prop := cheapLeastRow.holds Tryd.pinned (OpenSpec.ofChange cheapLeastWrong)

/-- 'colophonlaw21.CheapBegins': WHATEVER THE INPUT: true; the input reads as it did. -/
def cheapBeginsSpec : ChangeSpec := { name := "cheapBegins", fn := fun _ => fun
  | [d1, d2, d3] => { results := [.lit (.bool true)], args := [d1, d2, d3] }
  | _ => none }
def cheapBeginsRow : OpenClaim := { program := "ytbppacknigeiaaadoor", sum := "a81fc4aedd433c4844cf8f02030232755e7f1f86eecf1e680ad40055ce991e4c", func := "colophon/colophonlaw21.CheapBegins", spec := "cheapBegins", unfollowed := true, recurses := true, named := ["math/bits.deBruijn64tab"], loops := true, apart := false, laid := [("math/bits.deBruijn64tab", laid_math_bits_deBruijn64tab)] }
def CheapBeginsSaid : Prop := cheapBeginsRow.holds Tryd.pinned (OpenSpec.ofChange cheapBeginsSpec)

/-- ITS FALSE NEIGHBOUR: 'it returns false'. Refute it at one input. -/
def cheapBeginsWrong : ChangeSpec := { name := "cheapBegins", fn := fun _ => fun
  | [d1, d2, d3] => { results := [.lit (.bool false)], args := [d1, d2, d3] }
  | _ => none }
def CheapBeginsWrongFalsely : Prop := cheapBeginsRow.holds Tryd.pinned (OpenSpec.ofChange cheapBeginsWrong)

/- THE SECOND FORM. 'bulk': how many values and letters a reading holds, each counted each time it is reached (what is shared counts as often as it is met; a slice's spare places count too). A statement '..UptoSaid' is the law's where the arguments, and the package variables that the reading takes, are together of bulk at most 1048576: NARROWER than '..Said'. Prove '..Said' where nothing that the law and all that it calls make is longer than what came in: it says more and counts as full. Else prove '..UptoSaid'. A law counts once. -/
mutual
def uptoBulk {H : Type} : DataW H → Nat
  | .lit (.string bytes) => bytes.length + 1
  | .lit _ => 1
  | .nil => 1
  | .ptr d => uptoBulk d + 1
  | .slice elems spare => uptoBulkAll elems + uptoBulkAll spare + 1
  | .agg parts => uptoBulkAll parts + 1
  | .iface _ d => uptoBulk d + 1
  | .map entries => uptoBulkEntries entries + 1
  | .held _ => 1
def uptoBulkAll {H : Type} : List (DataW H) → Nat
  | [] => 0
  | d :: r => uptoBulk d + uptoBulkAll r
def uptoBulkEntries {H : Type} : List (Lit × DataW H) → Nat
  | [] => 0
  | x :: r => uptoBulkEntry x + uptoBulkEntries r
def uptoBulkEntry {H : Type} : Lit × DataW H → Nat
  | (.string bytes, d) => bytes.length + uptoBulk d + 1
  | (_, d) => uptoBulk d + 1
 end
def uptoSmall : (H : Type) → List (DataW H) → Bool := fun _ ds => decide (uptoBulkAll ds ≤ 1048576)
def OpenSpec.upto (s : _root_.Go.ChangeSpec) : _root_.Go.OpenSpec := { _root_.Go.OpenSpec.ofChange s with cond := some uptoSmall }

/-- 'colophonlaw21.CheapSets', WHERE WHAT IT READS IS OF BULK AT MOST 1048576: true; the input reads as it did. -/
def cheapSetsUptoRow : OpenClaim := { program := "ytbppacknigeiaaadoor", sum := "a81fc4aedd433c4844cf8f02030232755e7f1f86eecf1e680ad40055ce991e4c", func := "colophon/colophonlaw21.CheapSets", spec := "cheapSets", unfollowed := true, recurses := true, named := ["math/bits.deBruijn64tab"], loops := true, apart := false, laid := [("math/bits.deBruijn64tab", laid_math_bits_deBruijn64tab)], narrowed := true }
def CheapSetsUptoSaid : Prop := cheapSetsUptoRow.holds Tryd.pinned (OpenSpec.upto cheapSetsSpec)

/-- 'colophonlaw21.CheapShort', WHERE WHAT IT READS IS OF BULK AT MOST 1048576: true; the input reads as it did. -/
def cheapShortUptoRow : OpenClaim := { program := "ytbppacknigeiaaadoor", sum := "a81fc4aedd433c4844cf8f02030232755e7f1f86eecf1e680ad40055ce991e4c", func := "colophon/colophonlaw21.CheapShort", spec := "cheapShort", unfollowed := true, recurses := true, named := ["math/bits.deBruijn64tab"], loops := true, apart := false, laid := [("math/bits.deBruijn64tab", laid_math_bits_deBruijn64tab)], narrowed := true }
def CheapShortUptoSaid : Prop := cheapShortUptoRow.holds Tryd.pinned (OpenSpec.upto cheapShortSpec)

/-- 'colophonlaw21.CheapBehind', WHERE WHAT IT READS IS OF BULK AT MOST 1048576: true; the input reads as it did. -/
def cheapBehindUptoRow : OpenClaim := { program := "ytbppacknigeiaaadoor", sum := "a81fc4aedd433c4844cf8f02030232755e7f1f86eecf1e680ad40055ce991e4c", func := "colophon/colophonlaw21.CheapBehind", spec := "cheapBehind", unfollowed := true, recurses := true, named := ["math/bits.deBruijn64tab"], loops := true, apart := false, laid := [("math/bits.deBruijn64tab", laid_math_bits_deBruijn64tab)], narrowed := true }
def CheapBehindUptoSaid : Prop := cheapBehindUptoRow.holds Tryd.pinned (OpenSpec.upto cheapBehindSpec)

/-- 'colophonlaw21.CheapRise', WHERE WHAT IT READS IS OF BULK AT MOST 1048576: true; the input reads as it did. -/
def cheapRiseUptoRow : OpenClaim := { program := "ytbppacknigeiaaadoor", sum := "a81fc4aedd433c4844cf8f02030232755e7f1f86eecf1e680ad40055ce991e4c", func := "colophon/colophonlaw21.CheapRise", spec := "cheapRise", unfollowed := true, recurses := true, named := ["math/bits.deBruijn64tab"], loops := true, apart := false, laid := [("math/bits.deBruijn64tab", laid_math_bits_deBruijn64tab)], narrowed := true }
def CheapRiseUptoSaid : Prop := cheapRiseUptoRow.holds Tryd.pinned (OpenSpec.upto cheapRiseSpec)

/-- 'colophonlaw21.CheapKnown', WHERE WHAT IT READS IS OF BULK AT MOST 1048576: true; the input reads as it did. -/
def cheapKnownUptoRow : OpenClaim := { program := "ytbppacknigeiaaadoor", sum := "a81fc4aedd433c4844cf8f02030232755e7f1f86eecf1e680ad40055ce991e4c", func := "colophon/colophonlaw21.CheapKnown", spec := "cheapKnown", unfollowed := true, recurses := true, named := ["math/bits.deBruijn64tab"], apart := false, laid := [("math/bits.deBruijn64tab", laid_math_bits_deBruijn64tab)], narrowed := true }
def CheapKnownUptoSaid : Prop := cheapKnownUptoRow.holds Tryd.pinned (OpenSpec.upto cheapKnownSpec)

/-- 'colophonlaw21.CheapLeast', WHERE WHAT IT READS IS OF BULK AT MOST 1048576: true; the input reads as it did. -/
def cheapLeastUptoRow : OpenClaim := { program := "ytbppacknigeiaaadoor", sum := "a81fc4aedd433c4844cf8f02030232755e7f1f86eecf1e680ad40055ce991e4c", func := "colophon/colophonlaw21.CheapLeast", spec := "cheapLeast", unfollowed := true, recurses := true, named := ["math/bits.deBruijn64tab"], loops := true, apart := false, laid := [("math/bits.deBruijn64tab", laid_math_bits_deBruijn64tab)], narrowed := true }
def CheapLeastUptoSaid : Prop := cheapLeastUptoRow.holds Tryd.pinned (OpenSpec.upto cheapLeastSpec)

/-- 'colophonlaw21.CheapBegins', WHERE WHAT IT READS IS OF BULK AT MOST 1048576: true; the input reads as it did. -/
def cheapBeginsUptoRow : OpenClaim := { program := "ytbppacknigeiaaadoor", sum := "a81fc4aedd433c4844cf8f02030232755e7f1f86eecf1e680ad40055ce991e4c", func := "colophon/colophonlaw21.CheapBegins", spec := "cheapBegins", unfollowed := true, recurses := true, named := ["math/bits.deBruijn64tab"], loops := true, apart := false, laid := [("math/bits.deBruijn64tab", laid_math_bits_deBruijn64tab)], narrowed := true }
def CheapBeginsUptoSaid : Prop := cheapBeginsUptoRow.holds Tryd.pinned (OpenSpec.upto cheapBeginsSpec)

end Rows
end Go.Proofs.YtbppacknigeiaaaDoor
