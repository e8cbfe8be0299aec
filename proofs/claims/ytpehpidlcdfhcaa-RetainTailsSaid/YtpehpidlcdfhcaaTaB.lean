/- DERIVED. RetainTails, from how its arguments read. -/
import Derived.Test.YtpehpidlcdfhcaaTa
import Derived.Test.YtpehpidlcdfhcaaRr
namespace Go.Proofs.Ytpehpidlcdfhcaa
open Go.ChangeShapes Go.WideShapes Go.ChangeAt Go.RowKit

theorem walk_RetainTails {H : Type} (enc : TypeId × Value → H) (W : World) (base : Nat) {v0 v1 v2 : Value} {d0 d1 d2 : DataW H} {p0 p1 p2 : List MemPlace}
    (hv0 : Value.okWide Try.prog W .any base 23 v0) (h0 : DataW.Trod enc Try.prog W 0 (fun _ => true) true 23 v0 d0 p0)
    (hv1 : Value.okWide Try.prog W .any base 24 v1) (h1 : DataW.Trod enc Try.prog W 0 (fun _ => true) true 24 v1 d1 p1)
    (hv2 : Value.okWide Try.prog W .any base 25 v2) (h2 : DataW.Trod enc Try.prog W 0 (fun _ => true) true 25 v2 d2 p2) :
    Calls Try.prog 3 #[v0, v1, v2] W fun e W' => e = .returned (.bool true) ∧ Below W.heap.size W W' := by
  obtain ⟨p, rfl, _⟩ := read_policy hv0 h0
  obtain ⟨now, rfl, hn⟩ := read_u64 hv1 h1
  obtain ⟨l, hi⟩ := read_items hv2 h2
  exact (tails_any p now v2 l W hi hn).mono fun e W' h => ⟨h.1, Old.below h.2⟩
end Go.Proofs.Ytpehpidlcdfhcaa
