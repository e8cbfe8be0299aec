/-
  No cell of these rows narrows 'for every input' (looked for: loops, veiled, ifaces, maps, wideKeys, modest, calm, conditions, laid).
  DERIVED. THE GIVEN ROWS OF THIS SEAT. 5 by the template 'for every input the law returns true; each argument reads behind the call as it read before'; 0 by the template 'total and deterministic' (their statements: YtiednihagnehlaaTotals.lean).
  GIVEN WITH THE SEED: the statements are not yours to turn. If you find one false, say at which input.
  Laid BY PROGRAM, IN A SANDBOX (cutbox-rows.mjs): the forced cells as the released guide's own fill.sh prints them over the translation ec67ca02ca400efe… (all of the seat's roots in one cut). By AI agents, Wed Nov 11 2026. No macro, syntax, notation, axiom, sorry.
-/
import Derived.Test.YtiednihagnehlaaChecked
import GoSem.Claim
import GoSem.ClaimJoined
import GoSem.ClaimMapViews
import Derived.JoinedTies
import Derived.KernelRfl
namespace Go.Proofs.Ytiednihagnehlaa
/- THE CELL 'sum', in the pinned program and in every row, IS THE sha256 OF THE DUMP (.gsa) THAT YtiednihagnehlaaProg.lean LOADS. Nothing in Lean hashes anything: it is a label: what it is worth is what the hold of that sum in a sandbox is worth. -/
noncomputable def Try.pinned : Pinned := { name := "ytiednihagnehlaa", sum := "ec67ca02ca400efe4391e7f2d5db09d925d9fcc8e01eac750170414b4f40109e", checked := Try.checked }
namespace Rows
def none {H : Type} : Left H := { results := [], args := [] }

/-- 'pneumaticlaw25.PagesLives': WHATEVER THE INPUT: true; the input reads as it did. -/
def pagesLivesSpec : ChangeSpec := { name := "pagesLives", fn := fun _ => fun
  | [d1, d2, d3] => { results := [.lit (.bool true)], args := [d1, d2, d3] }
  | _ => none }
def pagesLivesRow : OpenClaim := { program := "ytiednihagnehlaa", sum := "ec67ca02ca400efe4391e7f2d5db09d925d9fcc8e01eac750170414b4f40109e", func := "pneumatic/pneumaticlaw25.PagesLives", spec := "pagesLives", unfollowed := true, recurses := true, apart := false }
def PagesLivesSaid : Prop := pagesLivesRow.holds Try.pinned (OpenSpec.ofChange pagesLivesSpec)

/-- ITS FALSE NEIGHBOUR: 'it returns false'. Refute it at one input. -/
def pagesLivesWrong : ChangeSpec := { name := "pagesLives", fn := fun _ => fun
  | [d1, d2, d3] => { results := [.lit (.bool false)], args := [d1, d2, d3] }
  | _ => none }
def PagesLivesWrongFalsely : Prop := pagesLivesRow.holds Try.pinned (OpenSpec.ofChange pagesLivesWrong)

/-- 'pneumaticlaw25.PagesPlays': WHATEVER THE INPUT: true; the input reads as it did. -/
def pagesPlaysSpec : ChangeSpec := { name := "pagesPlays", fn := fun _ => fun
  | [d1, d2] => { results := [.lit (.bool true)], args := [d1, d2] }
  | _ => none }
def pagesPlaysRow : OpenClaim := { program := "ytiednihagnehlaa", sum := "ec67ca02ca400efe4391e7f2d5db09d925d9fcc8e01eac750170414b4f40109e", func := "pneumatic/pneumaticlaw25.PagesPlays", spec := "pagesPlays", unfollowed := true, recurses := true, apart := false }
def PagesPlaysSaid : Prop := pagesPlaysRow.holds Try.pinned (OpenSpec.ofChange pagesPlaysSpec)

/-- ITS FALSE NEIGHBOUR: 'it returns false'. Refute it at one input. -/
def pagesPlaysWrong : ChangeSpec := { name := "pagesPlays", fn := fun _ => fun
  | [d1, d2] => { results := [.lit (.bool false)], args := [d1, d2] }
  | _ => none }
def PagesPlaysWrongFalsely : Prop := pagesPlaysRow.holds Try.pinned (OpenSpec.ofChange pagesPlaysWrong)

/-- 'pneumaticlaw25.PagesKnown': WHATEVER THE INPUT: true; the input reads as it did. -/
def pagesKnownSpec : ChangeSpec := { name := "pagesKnown", fn := fun _ => fun
  | [] => { results := [.lit (.bool true)], args := [] }
  | _ => none }
def pagesKnownRow : OpenClaim := { program := "ytiednihagnehlaa", sum := "ec67ca02ca400efe4391e7f2d5db09d925d9fcc8e01eac750170414b4f40109e", func := "pneumatic/pneumaticlaw25.PagesKnown", spec := "pagesKnown", unfollowed := true, recurses := true, apart := false }
def PagesKnownSaid : Prop := pagesKnownRow.holds Try.pinned (OpenSpec.ofChange pagesKnownSpec)

/-- ITS FALSE NEIGHBOUR: 'it returns false'. Refute it at one input. -/
def pagesKnownWrong : ChangeSpec := { name := "pagesKnown", fn := fun _ => fun
  | [] => { results := [.lit (.bool false)], args := [] }
  | _ => none }
def PagesKnownWrongFalsely : Prop := pagesKnownRow.holds Try.pinned (OpenSpec.ofChange pagesKnownWrong)

/-- 'pneumaticlaw25.PagesApart': WHATEVER THE INPUT: true; the input reads as it did. -/
def pagesApartSpec : ChangeSpec := { name := "pagesApart", fn := fun _ => fun
  | [d] => { results := [.lit (.bool true)], args := [d] }
  | _ => none }
def pagesApartRow : OpenClaim := { program := "ytiednihagnehlaa", sum := "ec67ca02ca400efe4391e7f2d5db09d925d9fcc8e01eac750170414b4f40109e", func := "pneumatic/pneumaticlaw25.PagesApart", spec := "pagesApart", inPlace := ["internal/bytealg.abigen_runtime_cmpstring"], unfollowed := true, recurses := true, apart := false }
def PagesApartSaid : Prop := pagesApartRow.holds Try.pinned (OpenSpec.ofChange pagesApartSpec)

/-- ITS FALSE NEIGHBOUR: 'it returns false'. Refute it at one input. -/
def pagesApartWrong : ChangeSpec := { name := "pagesApart", fn := fun _ => fun
  | [d] => { results := [.lit (.bool false)], args := [d] }
  | _ => none }
def PagesApartWrongFalsely : Prop := pagesApartRow.holds Try.pinned (OpenSpec.ofChange pagesApartWrong)

/-- 'pneumaticlaw25.PagesOrder': WHATEVER THE INPUT: true; the input reads as it did. -/
def pagesOrderSpec : ChangeSpec := { name := "pagesOrder", fn := fun _ => fun
  | [d1, d2, d3] => { results := [.lit (.bool true)], args := [d1, d2, d3] }
  | _ => none }
def pagesOrderRow : OpenClaim := { program := "ytiednihagnehlaa", sum := "ec67ca02ca400efe4391e7f2d5db09d925d9fcc8e01eac750170414b4f40109e", func := "pneumatic/pneumaticlaw25.PagesOrder", spec := "pagesOrder", inPlace := ["internal/bytealg.abigen_runtime_cmpstring"], unfollowed := true, recurses := true, apart := false }
def PagesOrderSaid : Prop := pagesOrderRow.holds Try.pinned (OpenSpec.ofChange pagesOrderSpec)

/-- ITS FALSE NEIGHBOUR: 'it returns false'. Refute it at one input. -/
def pagesOrderWrong : ChangeSpec := { name := "pagesOrder", fn := fun _ => fun
  | [d1, d2, d3] => { results := [.lit (.bool false)], args := [d1, d2, d3] }
  | _ => none }
def PagesOrderWrongFalsely : Prop := pagesOrderRow.holds Try.pinned (OpenSpec.ofChange pagesOrderWrong)

/- THE SECOND FORM. 'bulk': how many values and letters a reading holds, each counted each time it is reached (what is shared counts as often as it is met; a slice's spare places count too). A statement '..UptoSaid' is the law's where the arguments, and the package variables that the reading takes, are together of bulk at most 1048576: NARROWER than '..Said'. Prove '..Said' where nothing that the law and all that it calls make is longer than what came in: it says more and counts as full. Else prove '..UptoSaid'. A law counts once. -/
mutual
def uptoBulk {H : Type} : DataW H → Nat
  | .lit (.string bytes) => bytes.length + 1
  | .lit _ => 1
  | .nil => 1
  | .ptr d => uptoBulk d + 1
  | .slice elems spare => uptoBulkAll elems + uptoBulkAll spare + 1
  | .agg parts => uptoBulkAll parts + 1
  | .iface _ d => uptoBulk d + 1
  | .map entries => uptoBulkEntries entries + 1
  | .held _ => 1
def uptoBulkAll {H : Type} : List (DataW H) → Nat
  | [] => 0
  | d :: r => uptoBulk d + uptoBulkAll r
def uptoBulkEntries {H : Type} : List (Lit × DataW H) → Nat
  | [] => 0
  | x :: r => uptoBulkEntry x + uptoBulkEntries r
def uptoBulkEntry {H : Type} : Lit × DataW H → Nat
  | (.string bytes, d) => bytes.length + uptoBulk d + 1
  | (_, d) => uptoBulk d + 1
 end
def uptoSmall : (H : Type) → List (DataW H) → Bool := fun _ ds => decide (uptoBulkAll ds ≤ 1048576)
def OpenSpec.upto (s : _root_.Go.ChangeSpec) : _root_.Go.OpenSpec := { _root_.Go.OpenSpec.ofChange s with cond := some uptoSmall }

/-- 'pneumaticlaw25.PagesLives', WHERE WHAT IT READS IS OF BULK AT MOST 1048576: true; the input reads as it did. -/
def pagesLivesUptoRow : OpenClaim := { program := "ytiednihagnehlaa", sum := "ec67ca02ca400efe4391e7f2d5db09d925d9fcc8e01eac750170414b4f40109e", func := "pneumatic/pneumaticlaw25.PagesLives", spec := "pagesLives", unfollowed := true, recurses := true, apart := false, narrowed := true }
def PagesLivesUptoSaid : Prop := pagesLivesUptoRow.holds Try.pinned (OpenSpec.upto pagesLivesSpec)

/-- 'pneumaticlaw25.PagesPlays', WHERE WHAT IT READS IS OF BULK AT MOST 1048576: true; the input reads as it did. -/
def pagesPlaysUptoRow : OpenClaim := { program := "ytiednihagnehlaa", sum := "ec67ca02ca400efe4391e7f2d5db09d925d9fcc8e01eac750170414b4f40109e", func := "pneumatic/pneumaticlaw25.PagesPlays", spec := "pagesPlays", unfollowed := true, recurses := true, apart := false, narrowed := true }
def PagesPlaysUptoSaid : Prop := pagesPlaysUptoRow.holds Try.pinned (OpenSpec.upto pagesPlaysSpec)

/-- 'pneumaticlaw25.PagesKnown', WHERE WHAT IT READS IS OF BULK AT MOST 1048576: true; the input reads as it did. -/
def pagesKnownUptoRow : OpenClaim := { program := "ytiednihagnehlaa", sum := "ec67ca02ca400efe4391e7f2d5db09d925d9fcc8e01eac750170414b4f40109e", func := "pneumatic/pneumaticlaw25.PagesKnown", spec := "pagesKnown", unfollowed := true, recurses := true, apart := false, narrowed := true }
def PagesKnownUptoSaid : Prop := pagesKnownUptoRow.holds Try.pinned (OpenSpec.upto pagesKnownSpec)

/-- 'pneumaticlaw25.PagesApart', WHERE WHAT IT READS IS OF BULK AT MOST 1048576: true; the input reads as it did. -/
def pagesApartUptoRow : OpenClaim := { program := "ytiednihagnehlaa", sum := "ec67ca02ca400efe4391e7f2d5db09d925d9fcc8e01eac750170414b4f40109e", func := "pneumatic/pneumaticlaw25.PagesApart", spec := "pagesApart", inPlace := ["internal/bytealg.abigen_runtime_cmpstring"], unfollowed := true, recurses := true, apart := false, narrowed := true }
def PagesApartUptoSaid : Prop := pagesApartUptoRow.holds Try.pinned (OpenSpec.upto pagesApartSpec)

/-- 'pneumaticlaw25.PagesOrder', WHERE WHAT IT READS IS OF BULK AT MOST 1048576: true; the input reads as it did. -/
def pagesOrderUptoRow : OpenClaim := { program := "ytiednihagnehlaa", sum := "ec67ca02ca400efe4391e7f2d5db09d925d9fcc8e01eac750170414b4f40109e", func := "pneumatic/pneumaticlaw25.PagesOrder", spec := "pagesOrder", inPlace := ["internal/bytealg.abigen_runtime_cmpstring"], unfollowed := true, recurses := true, apart := false, narrowed := true }
def PagesOrderUptoSaid : Prop := pagesOrderUptoRow.holds Try.pinned (OpenSpec.upto pagesOrderSpec)

end Rows
end Go.Proofs.Ytiednihagnehlaa
