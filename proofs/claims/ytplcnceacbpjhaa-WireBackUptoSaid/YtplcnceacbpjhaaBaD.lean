/- DERIVED. WireBack, from how its arguments read. -/
import Derived.Test.YtplcnceacbpjhaaBaC
namespace Go.Proofs.Ytplcnceacbpjhaa
open Go.ChangeShapes Go.WideShapes Go.ChangeAt Go.RowKit

theorem walk_WireBack {H : Type} (enc : TypeId × Value → H) (W : World) (base : Nat) {v0 v1 : Value} {d0 d1 : DataW H} {p0 p1 : List MemPlace}
    (hv0 : Value.okWide Try.prog W .any base 56 v0) (h0 : DataW.Trod enc Try.prog W 0 (fun _ => true) true 56 v0 d0 p0)
    (hv1 : Value.okWide Try.prog W .any base 57 v1) (h1 : DataW.Trod enc Try.prog W 0 (fun _ => true) true 57 v1 d1 p1)
    (hk : Rows.uptoBulkAll [d0, d1] ≤ 1048576) :
    Calls Try.prog 5 #[v0, v1] W fun e W' => e = .returned (.bool true) ∧ Below W.heap.size W W' := by
  simp only [Rows.uptoBulkAll] at hk
  obtain ⟨ts, hts⟩ := read_things hv0 h0 (by omega)
  obtain ⟨n, rfl, rfl, rfl, wn⟩ := open_int Try.underlying57 hv1 h1
  have hr : 0 ≤ n ∧ n ≤ 65535 := by simpa [Lit.wf, IntKind.min, IntKind.max, IntKind.signed, IntKind.bits] using wn
  obtain ⟨m, rfl⟩ := Int.eq_ofNat_of_zero_le hr.1
  exact (back_any v0 ts m W hts (by omega)).mono fun e W' h => ⟨h.1, h.2.below⟩
end Go.Proofs.Ytplcnceacbpjhaa
