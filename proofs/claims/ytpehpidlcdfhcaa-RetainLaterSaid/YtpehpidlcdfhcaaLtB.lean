/- DERIVED. RetainLater, from how its arguments read. -/
import Derived.Test.YtpehpidlcdfhcaaLt
import Derived.Test.YtpehpidlcdfhcaaRr
namespace Go.Proofs.Ytpehpidlcdfhcaa
open Go.ChangeShapes Go.WideShapes Go.ChangeAt Go.RowKit

theorem later_any (p q : Pol) (now later : Nat) (lv : Value) (l : List It) (x : It) (w : World) (hi : Items w lv l) (hx : x.fine w) (hn : now < 18446744073709551616) (hl : later < 18446744073709551616) :
    Calls Try.prog 5 #[.agg p.cells, .agg q.cells, .int .u64 now, .int .u64 later, lv, .agg x.cells.toArray] w fun e w' => e = .returned (.bool true) ∧ Old w w' := by
  obtain ⟨ad, c', rfl, h1, h2⟩ := hi.1.len
  have hm : l.length ≤ 9223372036854775807 := by unfold maxLen at h2; omega
  obtain ⟨N, m, hN, hNl, hNm, hml, hmi⟩ : ∃ (N : Nat) (m : List It), N ≤ 60 ∧ N ≤ l.length ∧ min (l.length : Int) 60 = (N : Int) ∧ m.length = N ∧ Items w (.slice ad N c') m := by
    rcases Nat.lt_or_ge 60 l.length with h60 | h60
    · obtain ⟨m, hml, hmi⟩ := sixty hi h60
      exact ⟨60, m, by omega, by omega, by omega, hml, hmi⟩
    · exact ⟨l.length, l, h60, Nat.le_refl _, by omega, rfl, hi⟩
  cases hp : p.ok
  · exact later_no p q now later ad c' l m x w N hN hNl hNm hm h1 hml hmi hx hn hl (.inl hp)
  · cases hq : q.ok
    · exact later_no p q now later ad c' l m x w N hN hNl hNm hm h1 hml hmi hx hn hl (.inr ⟨hp, hq⟩)
    · exact later_yes p q now later ad c' l m x w N hN hNl hNm hm h1 hml hmi hx hn hl hp hq (min now later) (max now later) (by omega) (by omega)

theorem walk_RetainLater {H : Type} (enc : TypeId × Value → H) (W : World) (base : Nat) {v0 v1 v2 v3 v4 v5 : Value} {d0 d1 d2 d3 d4 d5 : DataW H} {p0 p1 p2 p3 p4 p5 : List MemPlace}
    (hv0 : Value.okWide Try.prog W .any base 23 v0) (h0 : DataW.Trod enc Try.prog W 0 (fun _ => true) true 23 v0 d0 p0)
    (hv1 : Value.okWide Try.prog W .any base 23 v1) (h1 : DataW.Trod enc Try.prog W 0 (fun _ => true) true 23 v1 d1 p1)
    (hv2 : Value.okWide Try.prog W .any base 24 v2) (h2 : DataW.Trod enc Try.prog W 0 (fun _ => true) true 24 v2 d2 p2)
    (hv3 : Value.okWide Try.prog W .any base 24 v3) (h3 : DataW.Trod enc Try.prog W 0 (fun _ => true) true 24 v3 d3 p3)
    (hv4 : Value.okWide Try.prog W .any base 25 v4) (h4 : DataW.Trod enc Try.prog W 0 (fun _ => true) true 25 v4 d4 p4)
    (hv5 : Value.okWide Try.prog W .any base 40 v5) (h5 : DataW.Trod enc Try.prog W 0 (fun _ => true) true 40 v5 d5 p5) :
    Calls Try.prog 5 #[v0, v1, v2, v3, v4, v5] W fun e W' => e = .returned (.bool true) ∧ Below W.heap.size W W' := by
  obtain ⟨p, rfl, _⟩ := read_policy hv0 h0
  obtain ⟨q, rfl, _⟩ := read_policy hv1 h1
  obtain ⟨now, rfl, hn⟩ := read_u64 hv2 h2
  obtain ⟨later, rfl, hl⟩ := read_u64 hv3 h3
  obtain ⟨l, hi⟩ := read_items hv4 h4
  obtain ⟨x, rfl, hx⟩ := read_item hv5 h5
  exact (later_any p q now later v4 l x W hi hx hn hl).mono fun e W' h => ⟨h.1, Old.below h.2⟩
end Go.Proofs.Ytpehpidlcdfhcaa
