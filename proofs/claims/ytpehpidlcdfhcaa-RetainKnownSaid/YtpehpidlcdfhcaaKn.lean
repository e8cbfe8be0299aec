/- DERIVED. RetainKnown, walked. -/
import Derived.Test.YtpehpidlcdfhcaaWk
namespace Go.Proofs.Ytpehpidlcdfhcaa
open Go.RowKit

theorem Items.none (w : World) : Items w (.slice none 0 0) [] := ⟨SeesR.nil w, fun x hx => by cases hx⟩

set_option maxRecDepth 100000 in
set_option maxHeartbeats 1000000 in
theorem walk_RetainKnown (w : World) : Calls Try.prog 7 #[] w fun e w' => e = .returned (.bool true) ∧ Below w.heap.size w w' := by
  go_enter Try.func7, Try.ntmps7
  go_wp2_with fail
  refine (at_lit _ _ [0, 0, 0] rfl (by decide) (by decide) 3 rfl).mono ?_
  rintro e w1 ⟨p1, n1, c1, rfl, hi1, hk1⟩
  obtain ⟨b, o, c', he, _, _, hc⟩ := hi1.1.at (by decide)
  simp only [Value.slice.injEq] at he
  obtain ⟨rfl, rfl, rfl⟩ := he
  have q0 := hc 0 (atIt 0 0) rfl 0 _ rfl
  have q1 := hc 0 (atIt 0 0) rfl 1 _ rfl
  have q2 := hc 0 (atIt 0 0) rfl 2 _ rfl
  have q3 := hc 0 (atIt 0 0) rfl 3 _ rfl
  simp only [Nat.zero_mul, Nat.add_zero] at q0 q1 q2 q3
  have C2 := it_size_any (atIt 0 0) w1 (atIt_fine w1 0 0 (by decide) (by decide))
  rw [size_at] at C2
  unfold atIt It.cells at C2
  have HC2 := Lib.hid C2
  have HI := Lib.hid hi1
  have K1 := Lib.hid hk1
  clear hi1 hk1 hc C2
  go_wp2_with fail
  refine HC2.out.mono ?_
  rintro e w2 ⟨rfl, hk2⟩
  have I2 := Lib.hid (HI.out.old hk2)
  have K2 := Lib.hid (K1.out.trans hk2)
  clear hk2 HC2 q0 q1 q2 q3
  have T3 := Lib.hid (tail_lit ⟨0, 36, 0⟩ 0 _ _ w2 1 I2.out (by decide) (by decide) (by decide) (by decide))
  go_wp2_with fail
  refine T3.out.mono ?_
  rintro e w3 ⟨rfl, hk3⟩
  have I3 := Lib.hid (I2.out.old hk3)
  have K3 := Lib.hid (K2.out.trans hk3)
  clear hk3 T3
  have T4 := Lib.hid (tail_lit ⟨0, 35, 0⟩ 0 _ _ w3 2 I3.out (by decide) (by decide) (by decide) (by decide))
  go_wp2_with fail
  refine T4.out.mono ?_
  rintro e w4 ⟨rfl, hk4⟩
  have I4 := Lib.hid (I3.out.old hk4)
  have K4 := Lib.hid (K3.out.trans hk4)
  clear hk4 T4
  have T5 := Lib.hid (tail_lit ⟨5, 0, 0⟩ 5 _ _ w4 0 I4.out (by decide) (by decide) (by decide) (by decide))
  go_wp2_with fail
  refine T5.out.mono ?_
  rintro e w5 ⟨rfl, hk5⟩
  have I5 := Lib.hid (I4.out.old hk5)
  have K5 := Lib.hid (K4.out.trans hk5)
  clear hk5 T5
  have T6 := Lib.hid (tail_lit ⟨5, 0, 0⟩ 6 _ _ w5 3 I5.out (by decide) (by decide) (by decide) (by decide))
  go_wp2_with fail
  refine T6.out.mono ?_
  rintro e w6 ⟨rfl, hk6⟩
  have K6 := Lib.hid (K5.out.trans hk6)
  clear hk6 T6
  go_wp2_with fail
  refine (at_lit _ _ [9, 9] rfl (by decide) (by decide) 2 rfl).mono ?_
  rintro e w7 ⟨p7, n7, c7, rfl, hi7, hk7⟩
  have T7 := Lib.hid (tail_lit ⟨1, 0, 0⟩ 0 _ _ w7 0 hi7 (by decide) (by decide) (by decide) (by decide))
  have K7 := Lib.hid (K6.out.trans hk7)
  clear hi7 hk7
  go_wp2_with fail
  refine T7.out.mono ?_
  rintro e w8 ⟨rfl, hk8⟩
  have K8' := Lib.hid (K7.out.trans hk8)
  clear hk8 T7
  have t9 := low_any ⟨0, 0, 1⟩ 0 _ _ w8 (Items.none w8) (by decide) (by decide) (by decide)
  rw [show lowN ⟨0, 0, 1⟩ 0 [] = 0 from rfl] at t9
  have T9 := Lib.hid t9
  clear t9
  go_wp2_with fail
  refine T9.out.mono ?_
  rintro e w9 ⟨rfl, hk9⟩
  have K9 := Lib.hid (K8'.out.trans hk9)
  clear hk9 T9
  have t10 := pol_any ⟨1099511627776, 1099511627776, 1099511627776⟩ w9
  rw [show Pol.ok _ = true from by decide] at t10
  have T10 := Lib.hid t10
  clear t10
  go_wp2_with fail
  refine T10.out.mono ?_
  rintro e w10 ⟨rfl, hk10⟩
  have K10 := Lib.hid (K9.out.trans hk10)
  clear hk10 T10
  have t11 := pol_any ⟨0, 0, 1099511627777⟩ w10
  rw [show Pol.ok _ = false from by decide] at t11
  have T11 := Lib.hid t11
  clear t11
  go_wp2_with fail
  refine T11.out.mono ?_
  rintro e w11 ⟨rfl, hk11⟩
  have K11 := Lib.hid (K10.out.trans hk11)
  clear hk11 T11
  have t12 := pol_any ⟨0, -1, 0⟩ w11
  rw [show Pol.ok _ = false from by decide] at t12
  have T12 := Lib.hid t12
  clear t12
  go_wp2_with fail
  refine T12.out.mono ?_
  rintro e w12 ⟨rfl, hk12⟩
  have K12 := Lib.hid (K11.out.trans hk12)
  clear hk12 T12
  go_wp2_with fail
  refine (wakes_any _).mono ?_
  rintro e w13 ⟨rfl, hk13⟩
  have K13 := Lib.hid (K12.out.trans hk13)
  clear hk13
  go_wp2_with fail
  go_ret
  exact ⟨rfl, Old.below K13.out⟩
end Go.Proofs.Ytpehpidlcdfhcaa
