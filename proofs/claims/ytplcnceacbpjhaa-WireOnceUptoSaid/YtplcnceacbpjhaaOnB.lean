/- DERIVED. WireOnce, from how its arguments read. -/
import Derived.Test.YtplcnceacbpjhaaOnA
import Derived.Test.YtplcnceacbpjhaaRead
namespace Go.Proofs.Ytplcnceacbpjhaa
open Go.ChangeShapes Go.WideShapes Go.ChangeAt Go.RowKit

theorem walk_WireOnce {H : Type} (enc : TypeId × Value → H) (W : World) (base : Nat) {v0 v1 : Value} {d0 d1 : DataW H} {p0 p1 : List MemPlace}
    (hv0 : Value.okWide Try.prog W .any base 22 v0) (h0 : DataW.Trod enc Try.prog W 0 (fun _ => true) true 22 v0 d0 p0)
    (hv1 : Value.okWide Try.prog W .any base 23 v1) (h1 : DataW.Trod enc Try.prog W 0 (fun _ => true) true 23 v1 d1 p1)
    (hk : Rows.uptoBulkAll [d0, d1] ≤ 1048576) :
    Calls Try.prog 6 #[v0, v1] W fun e W' => e = .returned (.bool true) ∧ Below W.heap.size W W' := by
  obtain ⟨b, hb, hlb⟩ := read_bytes hv0 h0
  obtain ⟨n, rfl, rfl, rfl, wn⟩ := open_int Try.underlying23 hv1 h1
  have hr : 0 ≤ n ∧ n ≤ 18446744073709551615 := by simpa [Lit.wf, IntKind.min, IntKind.max, IntKind.signed, IntKind.bits] using wn
  obtain ⟨m, rfl⟩ := Int.eq_ofNat_of_zero_le hr.1
  simp only [Rows.uptoBulkAll] at hk
  exact (once_any v0 b m W hb (by omega) (by omega)).mono fun e W' h => ⟨h.1, h.2.below⟩
end Go.Proofs.Ytplcnceacbpjhaa
