/- DERIVED. Sameness of items (layer 7). -/
import Derived.Test.YtpehpidlcdfhcaaSm
import Derived.Test.YtpehpidlcdfhcaaRt
namespace Go.Proofs.Ytpehpidlcdfhcaa
open Go.RowKit

def sameI (x y : It) : Bool := (x.n == y.n && x.time == y.time) && sameE x.key x.es y.key y.es
theorem same_item_any (x y : It) (w : World) (hx : x.fine w) (hy : y.fine w) :
    Calls Try.prog 12 #[.agg x.cells.toArray, .agg y.cells.toArray] w fun e w' => e = .returned (.bool (sameI x y)) ∧ Old w w' := by
  have S := fun W (h : Old w W) => same_ev_any x.key y.key x.av y.av x.es y.es W (hx.1.old h) (hy.1.old h)
  obtain ⟨n, t, key, av, es⟩ := x
  obtain ⟨n', t', key', av', es'⟩ := y
  unfold It.cells
  unfold sameI
  simp only at S ⊢
  obtain ⟨p, c, hav, _, _⟩ := hx.1.len
  obtain ⟨p', c', hav', _, _⟩ := hy.1.len
  simp only at hav hav'
  subst hav hav'
  have HS := Lib.hid (S _ (((Keeps.refl (fun _ => False) w).alloc (.cells #[.int .u64 n, .int .u64 t, .string key, .slice p es.length c] 40)).alloc (.cells #[.int .u64 n', .int .u64 t', .string key', .slice p' es'.length c'] 40)))
  clear S hx hy
  by_cases h1 : n = n'
  · have d1 : ((n : Int) == (n' : Int)) = true := by simp [h1]
    by_cases h2 : t = t'
    · have d2 : ((t : Int) == (t' : Int)) = true := by simp [h2]
      have H := Lib.hid (And.intro h1 h2)
      clear h1 h2
      go_enter Try.func12, Try.ntmps12
      go_wp2_with fail
      refine HS.out.mono ?_
      rintro e w1 ⟨rfl, hk⟩
      have K := Lib.hid ((((Keeps.refl _ w).alloc _).alloc _).trans hk)
      clear hk
      go_wp2_with fail
      go_ret
      exact ⟨ret_bool (by simp [H.out.1, H.out.2]), K.out⟩
    · have d2 : ((t : Int) == (t' : Int)) = false := beq_eq_false_iff_ne.2 (by omega)
      have H := Lib.hid h2
      clear h1 h2
      go_enter Try.func12, Try.ntmps12
      go_wp2_with fail
      go_ret
      exact ⟨ret_bool (by simp [H.out]), ((Keeps.refl _ w).alloc _).alloc _⟩
  · have d1 : ((n : Int) == (n' : Int)) = false := beq_eq_false_iff_ne.2 (by omega)
    have H := Lib.hid h1
    clear h1
    go_enter Try.func12, Try.ntmps12
    go_wp2_with fail
    go_ret
    exact ⟨ret_bool (by simp [H.out]), ((Keeps.refl _ w).alloc _).alloc _⟩
end Go.Proofs.Ytpehpidlcdfhcaa
