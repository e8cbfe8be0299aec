/-
  No cell of these rows narrows 'for every input' (looked for: loops, veiled, ifaces, maps, wideKeys, modest, calm, conditions, laid).
  DERIVED. THE GIVEN ROWS OF THIS SEAT. 5 by the template 'for every input the law returns true; each argument reads behind the call as it read before'; 0 by the template 'total and deterministic' (their statements: YtpehpidlcdfhcaaTotals.lean).
  GIVEN WITH THE SEED: the statements are not yours to turn. If you find one false, say at which input.
  Laid BY PROGRAM, IN A SANDBOX (cutbox-rows.mjs): the forced cells as the released guide's own fill.sh prints them over the translation 011b13869008c0c8… (all of the seat's roots in one cut). By AI agents, Wed Nov 11 2026. No macro, syntax, notation, axiom, sorry.
-/
import Derived.Test.YtpehpidlcdfhcaaChecked
import GoSem.Claim
import GoSem.ClaimJoined
import GoSem.ClaimMapViews
import Derived.JoinedTies
import Derived.KernelRfl
namespace Go.Proofs.Ytpehpidlcdfhcaa
/- THE CELL 'sum', in the pinned program and in every row, IS THE sha256 OF THE DUMP (.gsa) THAT YtpehpidlcdfhcaaProg.lean LOADS. Nothing in Lean hashes anything: it is a label: what it is worth is what the hold of that sum in a sandbox is worth. -/
noncomputable def Try.pinned : Pinned := { name := "ytpehpidlcdfhcaa", sum := "011b13869008c0c852cb2b79555eda6d7ac909594d631e76644a350b40c592a6", checked := Try.checked }
namespace Rows
def none {H : Type} : Left H := { results := [], args := [] }

/-- 'pneumaticlaw15.RetainTails': WHATEVER THE INPUT: true; the input reads as it did. -/
def retainTailsSpec : ChangeSpec := { name := "retainTails", fn := fun _ => fun
  | [d1, d2, d3] => { results := [.lit (.bool true)], args := [d1, d2, d3] }
  | _ => none }
def retainTailsRow : OpenClaim := { program := "ytpehpidlcdfhcaa", sum := "011b13869008c0c852cb2b79555eda6d7ac909594d631e76644a350b40c592a6", func := "pneumatic/pneumaticlaw15.RetainTails", spec := "retainTails", unfollowed := true, recurses := true, apart := false }
def RetainTailsSaid : Prop := retainTailsRow.holds Try.pinned (OpenSpec.ofChange retainTailsSpec)

/-- ITS FALSE NEIGHBOUR: 'it returns false'. Refute it at one input. -/
def retainTailsWrong : ChangeSpec := { name := "retainTails", fn := fun _ => fun
  | [d1, d2, d3] => { results := [.lit (.bool false)], args := [d1, d2, d3] }
  | _ => none }
def RetainTailsWrongFalsely : Prop := retainTailsRow.holds Try.pinned (OpenSpec.ofChange retainTailsWrong)

/-- 'pneumaticlaw15.RetainLeast': WHATEVER THE INPUT: true; the input reads as it did. -/
def retainLeastSpec : ChangeSpec := { name := "retainLeast", fn := fun _ => fun
  | [d1, d2, d3] => { results := [.lit (.bool true)], args := [d1, d2, d3] }
  | _ => none }
def retainLeastRow : OpenClaim := { program := "ytpehpidlcdfhcaa", sum := "011b13869008c0c852cb2b79555eda6d7ac909594d631e76644a350b40c592a6", func := "pneumatic/pneumaticlaw15.RetainLeast", spec := "retainLeast", unfollowed := true, recurses := true, apart := false }
def RetainLeastSaid : Prop := retainLeastRow.holds Try.pinned (OpenSpec.ofChange retainLeastSpec)

/-- ITS FALSE NEIGHBOUR: 'it returns false'. Refute it at one input. -/
def retainLeastWrong : ChangeSpec := { name := "retainLeast", fn := fun _ => fun
  | [d1, d2, d3] => { results := [.lit (.bool false)], args := [d1, d2, d3] }
  | _ => none }
def RetainLeastWrongFalsely : Prop := retainLeastRow.holds Try.pinned (OpenSpec.ofChange retainLeastWrong)

/-- 'pneumaticlaw15.RetainLater': WHATEVER THE INPUT: true; the input reads as it did. -/
def retainLaterSpec : ChangeSpec := { name := "retainLater", fn := fun _ => fun
  | [d1, d2, d3, d4, d5, d6] => { results := [.lit (.bool true)], args := [d1, d2, d3, d4, d5, d6] }
  | _ => none }
def retainLaterRow : OpenClaim := { program := "ytpehpidlcdfhcaa", sum := "011b13869008c0c852cb2b79555eda6d7ac909594d631e76644a350b40c592a6", func := "pneumatic/pneumaticlaw15.RetainLater", spec := "retainLater", unfollowed := true, recurses := true, apart := false }
def RetainLaterSaid : Prop := retainLaterRow.holds Try.pinned (OpenSpec.ofChange retainLaterSpec)

/-- ITS FALSE NEIGHBOUR: 'it returns false'. Refute it at one input. -/
def retainLaterWrong : ChangeSpec := { name := "retainLater", fn := fun _ => fun
  | [d1, d2, d3, d4, d5, d6] => { results := [.lit (.bool false)], args := [d1, d2, d3, d4, d5, d6] }
  | _ => none }
def RetainLaterWrongFalsely : Prop := retainLaterRow.holds Try.pinned (OpenSpec.ofChange retainLaterWrong)

/-- 'pneumaticlaw15.RetainEach': WHATEVER THE INPUT: true; the input reads as it did. -/
def retainEachSpec : ChangeSpec := { name := "retainEach", fn := fun _ => fun
  | [d1, d2, d3] => { results := [.lit (.bool true)], args := [d1, d2, d3] }
  | _ => none }
def retainEachRow : OpenClaim := { program := "ytpehpidlcdfhcaa", sum := "011b13869008c0c852cb2b79555eda6d7ac909594d631e76644a350b40c592a6", func := "pneumatic/pneumaticlaw15.RetainEach", spec := "retainEach", unfollowed := true, recurses := true, apart := false }
def RetainEachSaid : Prop := retainEachRow.holds Try.pinned (OpenSpec.ofChange retainEachSpec)

/-- ITS FALSE NEIGHBOUR: 'it returns false'. Refute it at one input. -/
def retainEachWrong : ChangeSpec := { name := "retainEach", fn := fun _ => fun
  | [d1, d2, d3] => { results := [.lit (.bool false)], args := [d1, d2, d3] }
  | _ => none }
def RetainEachWrongFalsely : Prop := retainEachRow.holds Try.pinned (OpenSpec.ofChange retainEachWrong)

/-- 'pneumaticlaw15.RetainKnown': WHATEVER THE INPUT: true; the input reads as it did. -/
def retainKnownSpec : ChangeSpec := { name := "retainKnown", fn := fun _ => fun
  | [] => { results := [.lit (.bool true)], args := [] }
  | _ => none }
def retainKnownRow : OpenClaim := { program := "ytpehpidlcdfhcaa", sum := "011b13869008c0c852cb2b79555eda6d7ac909594d631e76644a350b40c592a6", func := "pneumatic/pneumaticlaw15.RetainKnown", spec := "retainKnown", unfollowed := true, recurses := true, apart := false }
def RetainKnownSaid : Prop := retainKnownRow.holds Try.pinned (OpenSpec.ofChange retainKnownSpec)

/-- ITS FALSE NEIGHBOUR: 'it returns false'. Refute it at one input. -/
def retainKnownWrong : ChangeSpec := { name := "retainKnown", fn := fun _ => fun
  | [] => { results := [.lit (.bool false)], args := [] }
  | _ => none }
def RetainKnownWrongFalsely : Prop := retainKnownRow.holds Try.pinned (OpenSpec.ofChange retainKnownWrong)

/- THE SECOND FORM. 'bulk': how many values and letters a reading holds, each counted each time it is reached (what is shared counts as often as it is met; a slice's spare places count too). A statement '..UptoSaid' is the law's where the arguments, and the package variables that the reading takes, are together of bulk at most 1048576: NARROWER than '..Said'. Prove '..Said' where nothing that the law and all that it calls make is longer than what came in: it says more and counts as full. Else prove '..UptoSaid'. A law counts once. -/
mutual
def uptoBulk {H : Type} : DataW H → Nat
  | .lit (.string bytes) => bytes.length + 1
  | .lit _ => 1
  | .nil => 1
  | .ptr d => uptoBulk d + 1
  | .slice elems spare => uptoBulkAll elems + uptoBulkAll spare + 1
  | .agg parts => uptoBulkAll parts + 1
  | .iface _ d => uptoBulk d + 1
  | .map entries => uptoBulkEntries entries + 1
  | .held _ => 1
def uptoBulkAll {H : Type} : List (DataW H) → Nat
  | [] => 0
  | d :: r => uptoBulk d + uptoBulkAll r
def uptoBulkEntries {H : Type} : List (Lit × DataW H) → Nat
  | [] => 0
  | x :: r => uptoBulkEntry x + uptoBulkEntries r
def uptoBulkEntry {H : Type} : Lit × DataW H → Nat
  | (.string bytes, d) => bytes.length + uptoBulk d + 1
  | (_, d) => uptoBulk d + 1
 end
def uptoSmall : (H : Type) → List (DataW H) → Bool := fun _ ds => decide (uptoBulkAll ds ≤ 1048576)
def OpenSpec.upto (s : _root_.Go.ChangeSpec) : _root_.Go.OpenSpec := { _root_.Go.OpenSpec.ofChange s with cond := some uptoSmall }

/-- 'pneumaticlaw15.RetainTails', WHERE WHAT IT READS IS OF BULK AT MOST 1048576: true; the input reads as it did. -/
def retainTailsUptoRow : OpenClaim := { program := "ytpehpidlcdfhcaa", sum := "011b13869008c0c852cb2b79555eda6d7ac909594d631e76644a350b40c592a6", func := "pneumatic/pneumaticlaw15.RetainTails", spec := "retainTails", unfollowed := true, recurses := true, apart := false, narrowed := true }
def RetainTailsUptoSaid : Prop := retainTailsUptoRow.holds Try.pinned (OpenSpec.upto retainTailsSpec)

/-- 'pneumaticlaw15.RetainLeast', WHERE WHAT IT READS IS OF BULK AT MOST 1048576: true; the input reads as it did. -/
def retainLeastUptoRow : OpenClaim := { program := "ytpehpidlcdfhcaa", sum := "011b13869008c0c852cb2b79555eda6d7ac909594d631e76644a350b40c592a6", func := "pneumatic/pneumaticlaw15.RetainLeast", spec := "retainLeast", unfollowed := true, recurses := true, apart := false, narrowed := true }
def RetainLeastUptoSaid : Prop := retainLeastUptoRow.holds Try.pinned (OpenSpec.upto retainLeastSpec)

/-- 'pneumaticlaw15.RetainLater', WHERE WHAT IT READS IS OF BULK AT MOST 1048576: true; the input reads as it did. -/
def retainLaterUptoRow : OpenClaim := { program := "ytpehpidlcdfhcaa", sum := "011b13869008c0c852cb2b79555eda6d7ac909594d631e76644a350b40c592a6", func := "pneumatic/pneumaticlaw15.RetainLater", spec := "retainLater", unfollowed := true, recurses := true, apart := false, narrowed := true }
def RetainLaterUptoSaid : Prop := retainLaterUptoRow.holds Try.pinned (OpenSpec.upto retainLaterSpec)

/-- 'pneumaticlaw15.RetainEach', WHERE WHAT IT READS IS OF BULK AT MOST 1048576: true; the input reads as it did. -/
def retainEachUptoRow : OpenClaim := { program := "ytpehpidlcdfhcaa", sum := "011b13869008c0c852cb2b79555eda6d7ac909594d631e76644a350b40c592a6", func := "pneumatic/pneumaticlaw15.RetainEach", spec := "retainEach", unfollowed := true, recurses := true, apart := false, narrowed := true }
def RetainEachUptoSaid : Prop := retainEachUptoRow.holds Try.pinned (OpenSpec.upto retainEachSpec)

/-- 'pneumaticlaw15.RetainKnown', WHERE WHAT IT READS IS OF BULK AT MOST 1048576: true; the input reads as it did. -/
def retainKnownUptoRow : OpenClaim := { program := "ytpehpidlcdfhcaa", sum := "011b13869008c0c852cb2b79555eda6d7ac909594d631e76644a350b40c592a6", func := "pneumatic/pneumaticlaw15.RetainKnown", spec := "retainKnown", unfollowed := true, recurses := true, apart := false, narrowed := true }
def RetainKnownUptoSaid : Prop := retainKnownUptoRow.holds Try.pinned (OpenSpec.upto retainKnownSpec)

end Rows
end Go.Proofs.Ytpehpidlcdfhcaa
