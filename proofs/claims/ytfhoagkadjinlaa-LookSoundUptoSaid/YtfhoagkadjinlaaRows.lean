/-
  NARROWER THAN 'FOR EVERY INPUT', by the rows' own cells (each row's printed sentence says how): LookWays: loops · LookFewer: loops · LookFirst: loops · LookSound: loops.
  DERIVED. THE GIVEN ROWS OF THIS SEAT. 4 by the template 'for every input the law returns true; each argument reads behind the call as it read before'; 0 by the template 'total and deterministic' (their statements: YtfhoagkadjinlaaTotals.lean).
  GIVEN WITH THE SEED: the statements are not yours to turn. If you find one false, say at which input.
  Laid BY PROGRAM, IN A SANDBOX (cutbox-rows.mjs): the forced cells as the released guide's own fill.sh prints them over the translation 1075673daa6dcd39… (all of the seat's roots in one cut). By AI agents, Wed Nov 11 2026. No macro, syntax, notation, axiom, sorry.
-/
import Derived.Test.YtfhoagkadjinlaaChecked
import GoSem.Claim
import GoSem.ClaimJoined
import GoSem.ClaimMapViews
import Derived.JoinedTies
import Derived.KernelRfl
namespace Go.Proofs.Ytfhoagkadjinlaa
/- THE CELL 'sum', in the pinned program and in every row, IS THE sha256 OF THE DUMP (.gsa) THAT YtfhoagkadjinlaaProg.lean LOADS. Nothing in Lean hashes anything: it is a label: what it is worth is what the hold of that sum in a sandbox is worth. -/
noncomputable def Try.pinned : Pinned := { name := "ytfhoagkadjinlaa", sum := "1075673daa6dcd39d39f17ac58ad3d74eaf8c0a1617307ff28a32df95750cb3f", checked := Try.checked }
namespace Rows
def none {H : Type} : Left H := { results := [], args := [] }

/-- 'colophonlaw24.LookWays': WHATEVER THE INPUT: true; the input reads as it did. -/
def lookWaysSpec : ChangeSpec := { name := "lookWays", fn := fun _ => fun
  | [d1, d2, d3] => { results := [.lit (.bool true)], args := [d1, d2, d3] }
  | _ => none }
def lookWaysRow : OpenClaim := { program := "ytfhoagkadjinlaa", sum := "1075673daa6dcd39d39f17ac58ad3d74eaf8c0a1617307ff28a32df95750cb3f", func := "colophon/colophonlaw24.LookWays", spec := "lookWays", unfollowed := true, recurses := true, loops := true, plainKeys := false, apart := false }
def LookWaysSaid : Prop := lookWaysRow.holds Try.pinned (OpenSpec.ofChange lookWaysSpec)

/-- ITS FALSE NEIGHBOUR: 'it returns false'. Refute it at one input. -/
def lookWaysWrong : ChangeSpec := { name := "lookWays", fn := fun _ => fun
  | [d1, d2, d3] => { results := [.lit (.bool false)], args := [d1, d2, d3] }
  | _ => none }
def LookWaysWrongFalsely : Prop := lookWaysRow.holds Try.pinned (OpenSpec.ofChange lookWaysWrong)

/-- 'colophonlaw24.LookFewer': WHATEVER THE INPUT: true; the input reads as it did. -/
def lookFewerSpec : ChangeSpec := { name := "lookFewer", fn := fun _ => fun
  | [d1, d2, d3] => { results := [.lit (.bool true)], args := [d1, d2, d3] }
  | _ => none }
def lookFewerRow : OpenClaim := { program := "ytfhoagkadjinlaa", sum := "1075673daa6dcd39d39f17ac58ad3d74eaf8c0a1617307ff28a32df95750cb3f", func := "colophon/colophonlaw24.LookFewer", spec := "lookFewer", unfollowed := true, recurses := true, loops := true, plainKeys := false, apart := false }
def LookFewerSaid : Prop := lookFewerRow.holds Try.pinned (OpenSpec.ofChange lookFewerSpec)

/-- ITS FALSE NEIGHBOUR: 'it returns false'. Refute it at one input. -/
def lookFewerWrong : ChangeSpec := { name := "lookFewer", fn := fun _ => fun
  | [d1, d2, d3] => { results := [.lit (.bool false)], args := [d1, d2, d3] }
  | _ => none }
def LookFewerWrongFalsely : Prop := lookFewerRow.holds Try.pinned (OpenSpec.ofChange lookFewerWrong)

/-- 'colophonlaw24.LookFirst': WHATEVER THE INPUT: true; the input reads as it did. -/
def lookFirstSpec : ChangeSpec := { name := "lookFirst", fn := fun _ => fun
  | [d1, d2, d3] => { results := [.lit (.bool true)], args := [d1, d2, d3] }
  | _ => none }
def lookFirstRow : OpenClaim := { program := "ytfhoagkadjinlaa", sum := "1075673daa6dcd39d39f17ac58ad3d74eaf8c0a1617307ff28a32df95750cb3f", func := "colophon/colophonlaw24.LookFirst", spec := "lookFirst", unfollowed := true, recurses := true, loops := true, plainKeys := false, apart := false }
def LookFirstSaid : Prop := lookFirstRow.holds Try.pinned (OpenSpec.ofChange lookFirstSpec)

/-- ITS FALSE NEIGHBOUR: 'it returns false'. Refute it at one input. -/
def lookFirstWrong : ChangeSpec := { name := "lookFirst", fn := fun _ => fun
  | [d1, d2, d3] => { results := [.lit (.bool false)], args := [d1, d2, d3] }
  | _ => none }
def LookFirstWrongFalsely : Prop := lookFirstRow.holds Try.pinned (OpenSpec.ofChange lookFirstWrong)

/-- 'colophonlaw24.LookSound': WHATEVER THE INPUT: true; the input reads as it did. -/
def lookSoundSpec : ChangeSpec := { name := "lookSound", fn := fun _ => fun
  | [d1, d2, d3] => { results := [.lit (.bool true)], args := [d1, d2, d3] }
  | _ => none }
def lookSoundRow : OpenClaim := { program := "ytfhoagkadjinlaa", sum := "1075673daa6dcd39d39f17ac58ad3d74eaf8c0a1617307ff28a32df95750cb3f", func := "colophon/colophonlaw24.LookSound", spec := "lookSound", unfollowed := true, recurses := true, loops := true, plainKeys := false, apart := false }
def LookSoundSaid : Prop := lookSoundRow.holds Try.pinned (OpenSpec.ofChange lookSoundSpec)

/-- ITS FALSE NEIGHBOUR: 'it returns false'. Refute it at one input. -/
def lookSoundWrong : ChangeSpec := { name := "lookSound", fn := fun _ => fun
  | [d1, d2, d3] => { results := [.lit (.bool false)], args := [d1, d2, d3] }
  | _ => none }
def LookSoundWrongFalsely : Prop := lookSoundRow.holds Try.pinned (OpenSpec.ofChange lookSoundWrong)

/- THE SECOND FORM. 'bulk': how many values and letters a reading holds, each counted each time it is reached (what is shared counts as often as it is met; a slice's spare places count too). A statement '..UptoSaid' is the law's where the arguments, and the package variables that the reading takes, are together of bulk at most 1048576: NARROWER than '..Said'. Prove '..Said' where nothing that the law and all that it calls make is longer than what came in: it says more and counts as full. Else prove '..UptoSaid'. A law counts once. -/
mutual
def uptoBulk {H : Type} : DataW H → Nat
  | .lit (.string bytes) => bytes.length + 1
  | .lit _ => 1
  | .nil => 1
  | .ptr d => uptoBulk d + 1
  | .slice elems spare => uptoBulkAll elems + uptoBulkAll spare + 1
  | .agg parts => uptoBulkAll parts + 1
  | .iface _ d => uptoBulk d + 1
  | .map entries => uptoBulkEntries entries + 1
  | .held _ => 1
def uptoBulkAll {H : Type} : List (DataW H) → Nat
  | [] => 0
  | d :: r => uptoBulk d + uptoBulkAll r
def uptoBulkEntries {H : Type} : List (Lit × DataW H) → Nat
  | [] => 0
  | x :: r => uptoBulkEntry x + uptoBulkEntries r
def uptoBulkEntry {H : Type} : Lit × DataW H → Nat
  | (.string bytes, d) => bytes.length + uptoBulk d + 1
  | (_, d) => uptoBulk d + 1
 end
def uptoSmall : (H : Type) → List (DataW H) → Bool := fun _ ds => decide (uptoBulkAll ds ≤ 1048576)
def OpenSpec.upto (s : _root_.Go.ChangeSpec) : _root_.Go.OpenSpec := { _root_.Go.OpenSpec.ofChange s with cond := some uptoSmall }

/-- 'colophonlaw24.LookWays', WHERE WHAT IT READS IS OF BULK AT MOST 1048576: true; the input reads as it did. -/
def lookWaysUptoRow : OpenClaim := { program := "ytfhoagkadjinlaa", sum := "1075673daa6dcd39d39f17ac58ad3d74eaf8c0a1617307ff28a32df95750cb3f", func := "colophon/colophonlaw24.LookWays", spec := "lookWays", unfollowed := true, recurses := true, loops := true, plainKeys := false, apart := false, narrowed := true }
def LookWaysUptoSaid : Prop := lookWaysUptoRow.holds Try.pinned (OpenSpec.upto lookWaysSpec)

/-- 'colophonlaw24.LookFewer', WHERE WHAT IT READS IS OF BULK AT MOST 1048576: true; the input reads as it did. -/
def lookFewerUptoRow : OpenClaim := { program := "ytfhoagkadjinlaa", sum := "1075673daa6dcd39d39f17ac58ad3d74eaf8c0a1617307ff28a32df95750cb3f", func := "colophon/colophonlaw24.LookFewer", spec := "lookFewer", unfollowed := true, recurses := true, loops := true, plainKeys := false, apart := false, narrowed := true }
def LookFewerUptoSaid : Prop := lookFewerUptoRow.holds Try.pinned (OpenSpec.upto lookFewerSpec)

/-- 'colophonlaw24.LookFirst', WHERE WHAT IT READS IS OF BULK AT MOST 1048576: true; the input reads as it did. -/
def lookFirstUptoRow : OpenClaim := { program := "ytfhoagkadjinlaa", sum := "1075673daa6dcd39d39f17ac58ad3d74eaf8c0a1617307ff28a32df95750cb3f", func := "colophon/colophonlaw24.LookFirst", spec := "lookFirst", unfollowed := true, recurses := true, loops := true, plainKeys := false, apart := false, narrowed := true }
def LookFirstUptoSaid : Prop := lookFirstUptoRow.holds Try.pinned (OpenSpec.upto lookFirstSpec)

/-- 'colophonlaw24.LookSound', WHERE WHAT IT READS IS OF BULK AT MOST 1048576: true; the input reads as it did. -/
def lookSoundUptoRow : OpenClaim := { program := "ytfhoagkadjinlaa", sum := "1075673daa6dcd39d39f17ac58ad3d74eaf8c0a1617307ff28a32df95750cb3f", func := "colophon/colophonlaw24.LookSound", spec := "lookSound", unfollowed := true, recurses := true, loops := true, plainKeys := false, apart := false, narrowed := true }
def LookSoundUptoSaid : Prop := lookSoundUptoRow.holds Try.pinned (OpenSpec.upto lookSoundSpec)

end Rows
end Go.Proofs.Ytfhoagkadjinlaa
