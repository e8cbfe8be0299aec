/- DERIVED. MsgApart, walked. · DERIVED. MsgApart, from how its arguments read. · The statement MsgApart: for every input the law returns true, and the arguments read as they did. -/
import Derived.Test.YtpjpimahnnekkaaGreatY41
import Derived.Test.YtpjpimahnnekkaaGreatY42
import Derived.Test.YtpjpimahnnekkaaGreatY27
import Derived.Deep.DeepCutAuto
import Derived.Lib.MinMax
import Derived.Test.YtpjpimahnnekkaaGreatY43
import Derived.Test.YtpjpimahnnekkaaGreatRows
import Derived.ProofKit
import Derived.OpenShut
import Derived.JoinedCond
import Derived.ChangeOld
namespace Go.Proofs.YtpjpimahnnekkaaGreat
open Go.RowKit Go.Great

attribute [-go_sem] loadVar storeVar
theorem apart_ms {m n : PMs} (h : mayM m = true) (hg : GM m) (h' : mayM n = true) (hg' : GM n) {k : Nat} (hk : k = min (mForm m).length (mForm n).length) :
    ((mForm m).take k == (mForm n).take k) = sameM m n := by
  rw [Bool.eq_iff_iff, beq_iff_eq, sameM_iff]
  constructor
  · intro e
    rcases Nat.le_total (mForm m).length (mForm n).length with hl | hl
    · obtain rfl : k = (mForm m).length := by omega
      rw [List.take_length] at e
      exact (mForm_pre h hg h' hg' (t := (mForm n).drop (mForm m).length) ((congrArg (· ++ _) e).trans (List.take_append_drop _ _))).2
    · obtain rfl : k = (mForm n).length := by omega
      rw [List.take_length] at e
      exact (mForm_pre h' hg' h hg (t := (mForm m).drop (mForm n).length) ((congrArg (· ++ _) e.symm).trans (List.take_append_drop _ _))).2.symm
  · rintro rfl; rfl

set_option maxRecDepth 100000 in
set_option maxHeartbeats 1000000 in
theorem mapart_any (m n : Ms) (w : World) (hm : m.fine w) (hn : n.fine w) : Calls Tryz.prog 5 #[.agg m.cells.toArray, .agg n.cells.toArray] w fun e w' => e = .returned (.bool true) ∧ Old w w' := by
  have O1 := Lib.hid (fun W (o : Old w W) => ours_any m W (hm.old o))
  have O2 := Lib.hid (fun W (o : Old w W) => ours_any n W (hn.old o))
  have P1 := Lib.hid (fun W (o : Old w W) => msg_put_any m W (hm.old o))
  have P2 := Lib.hid (fun W (o : Old w W) => msg_put_any n W (hn.old o))
  have CS := fun W (o : Old w W) => msg_same_any m n W (hm.old o) (hn.old o)
  have AP := fun h1 h2 k hk => @apart_ms m.plain n.plain h1 ⟨w, m, hm, rfl⟩ h2 ⟨w, n, hn, rfl⟩ k hk
  generalize sameM m.plain n.plain = cp at CS AP
  have HP := Lib.hid (And.intro CS AP)
  clear CS AP
  obtain ⟨W0, hW0⟩ : ∃ W0, (w.alloc (.cells m.cells.toArray 37)).alloc (.cells n.cells.toArray 37) = W0 := ⟨_, rfl⟩
  have k0 : Old w W0 := by rw [← hW0]; exact ((Keeps.refl _ _).alloc _).alloc _
  obtain ⟨b0, b1⟩ := two_blocks w (.cells m.cells.toArray 37) (.cells n.cells.toArray 37)
  rw [hW0] at b0 b1
  have g0 := load_whole b0 (by simp [Ms.cells]) Tryz.underlying37 (by kernel_rfl)
  have B := Lib.hid (And.intro k0 (And.intro b0 b1))
  clear k0 b0 b1 hm hn
  go_enter Tryz.func5, Tryz.ntmps5
  go_wp2_with fail
  refine (O1.out _ B.out.1).mono ?_
  rintro e w1 ⟨rfl, k1⟩
  have K1 := Lib.hid k1
  clear k1 g0
  go_wp2_with fail
  refine (P1.out _ (B.out.1.trans K1.out)).mono ?_
  rintro e w2 ⟨p2, c2, z2, L2, rfl, k2, ho2, hL2, hz2⟩
  have kk2 := K1.out.trans k2
  have g1 := load_whole ((kk2.block _ (lt_of_heap B.out.2.2) (fun f => f)).trans B.out.2.2) (by simp [Ms.cells]) Tryz.underlying37 (by kernel_rfl)
  have K2 := Lib.hid (And.intro kk2 (And.intro ho2.sees (And.intro hL2 hz2)))
  clear k2 ho2 hL2 hz2 kk2 K1
  go_wp2_with fail
  refine (O2.out _ (B.out.1.trans K2.out.1)).mono ?_
  rintro e w3 ⟨rfl, k3⟩
  have K3 := Lib.hid k3
  clear k3 g1
  go_wp2_with fail
  refine (P2.out _ (B.out.1.trans (K2.out.1.trans K3.out))).mono ?_
  rintro e w4 ⟨p4, c4, z4, L4, rfl, k4, ho4, hL4, hz4⟩
  have kk4 := K3.out.trans k4
  have R := Lib.hid (And.intro (K2.out.1.trans kk4) (And.intro (K2.out.2.1.old kk4) ho4.sees))
  have E2 := Lib.hid (And.intro K2.out.2.2 (And.intro hL4 hz4))
  clear k4 ho4 hL4 hz4 kk4 K3 K2
  obtain ⟨t1, ht1⟩ : ∃ b, mayM m.plain = b := ⟨_, rfl⟩
  obtain ⟨t2, ht2⟩ : ∃ b, mayM n.plain = b := ⟨_, rfl⟩
  have E3 := E2.out
  rw [ht1, ht2] at E3
  obtain ⟨⟨rfl, rfl⟩, rfl, rfl⟩ := E3
  by_cases hb : t1 = true ∧ t2 = true
  case neg =>
    have hc : t1 = false ∨ t2 = false := by cases t1 <;> cases t2 <;> simp at hb ⊢
    clear hb E2 ht1 ht2
    rcases hc with rfl | rfl
    · cases t2
      all_goals
        simp only [if_true, if_false, Bool.false_eq_true, List.length_nil] at R ⊢
        go_wp2_with fail
        refine (mwakes_any _).mono ?_
        rintro e w9 ⟨rfl, k9⟩
        have K9 := Lib.hid k9
        clear k9
        go_wp2_with fail
        go_ret
        exact ⟨rfl, B.out.1.trans (R.out.1.trans K9.out)⟩
    · cases t1
      all_goals
        simp only [if_true, if_false, Bool.false_eq_true, List.length_nil] at R ⊢
        go_wp2_with fail
        refine (mwakes_any _).mono ?_
        rintro e w9 ⟨rfl, k9⟩
        have K9 := Lib.hid k9
        clear k9
        go_wp2_with fail
        go_ret
        exact ⟨rfl, B.out.1.trans (R.out.1.trans K9.out)⟩
  obtain ⟨rfl, rfl⟩ := hb
  simp only [if_true] at R ⊢
  obtain ⟨A1, hA1⟩ : ∃ l, mForm m.plain = l := ⟨_, rfl⟩
  obtain ⟨A2, hA2⟩ : ∃ l, mForm n.plain = l := ⟨_, rfl⟩
  have hb := fun k hk => HP.out.2 ht1 ht2 k hk
  rw [hA1, hA2] at R hb
  rw [hA1, hA2]
  clear E2 hA1 hA2 ht1 ht2
  obtain ⟨k, hk⟩ : ∃ k, k = min A1.length A2.length := ⟨_, rfl⟩
  have hmin : min (A1.length : Int) (A2.length : Int) = (k : Int) := by omega
  obtain ⟨q1, e1, hr1, hs1, _⟩ := R.out.2.1.upto k (by omega) IntKind.i64 (k : Int) rfl
  obtain ⟨q2, e2, hr2, hs2, _⟩ := R.out.2.2.upto k (by omega) IntKind.i64 (k : Int) rfl
  have t1 := fun p : OldOf w4 => (hs1.old p.old).text
  have t2 := fun p : OldOf w4 => (hs2.old p.old).text
  have hb := hb k hk
  have hl1 : A1.length ≤ 9223372036854775807 := by obtain ⟨_, _, _, g1, g2⟩ := R.out.2.1.len; unfold maxLen at g2; omega
  have hl2 : A2.length ≤ 9223372036854775807 := by obtain ⟨_, _, _, g1, g2⟩ := R.out.2.2.len; unfold maxLen at g2; omega
  have gA := fun p : OldOf w4 => load_whole (((R.out.1.trans p.old).block _ (lt_of_heap B.out.2.1) (fun f => f)).trans B.out.2.1) (by simp [Ms.cells]) Tryz.underlying37 (by kernel_rfl)
  have gB := fun p : OldOf w4 => load_whole (((R.out.1.trans p.old).block _ (lt_of_heap B.out.2.2) (fun f => f)).trans B.out.2.2) (by simp [Ms.cells]) Tryz.underlying37 (by kernel_rfl)
  clear hs1 hs2 hk
  have QA := Lib.hid (fun p : OldOf w4 => Calls.quiet_of_old (p := p) (O1.out p.to ((B.out.1.trans R.out.1).trans p.old)))
  have QB := Lib.hid (fun p : OldOf w4 => Calls.quiet_of_old (p := p) (O2.out p.to ((B.out.1.trans R.out.1).trans p.old)))
  have QS := Lib.hid (fun p : OldOf w4 => Calls.quiet_of_old (p := p) (HP.out.1 p.to ((B.out.1.trans R.out.1).trans p.old)))
  have QW := Lib.hid (fun p : OldOf w4 => Calls.quiet_of_old (p := p) (mwakes_any p.to))
  cases cp
  all_goals
    go_wp2_with fail
    refine wp_region_quiet_old (by kernel_rfl) (by kernel_rfl) ?_
    iterate 10 (go_big_quiet_step (fail))
    go_big_quiet_step ((go_at_call 9; exact QA.out _))
    go_big_quiet_step (fail)
    go_big_quiet_step ((go_at_call 9; exact QB.out _))
    go_big_quiet_step ((go_at_call 17; exact QS.out _))
    repeat (go_big_quiet_step ((go_at_call 20; exact QW.out _)))
    refine wpQuiet_nil ?_
    intro _ hpq
    obtain ⟨pq, hpq'⟩ := hpq
    subst hpq'
    go_wp2_with fail
    go_ret
    exact ⟨rfl, B.out.1.trans (R.out.1.trans pq.old)⟩
end Go.Proofs.YtpjpimahnnekkaaGreat

namespace Go.Proofs.YtpjpimahnnekkaaGreat
open Go.ChangeShapes Go.WideShapes Go.ChangeAt Go.RowKit

set_option maxRecDepth 100000 in
theorem walk_MsgApart {H : Type} (enc : TypeId × Value → H) (W : World) (base : Nat) {v0 v1 : Value} {d0 d1 : DataW H} {p0 p1 : List MemPlace}
    (hv0 : Value.okWide Tryz.prog W .any base 37 v0) (h0 : DataW.Trod enc Tryz.prog W 0 (fun _ => true) true 37 v0 d0 p0)
    (hv1 : Value.okWide Tryz.prog W .any base 37 v1) (h1 : DataW.Trod enc Tryz.prog W 0 (fun _ => true) true 37 v1 d1 p1) :
    Calls Tryz.prog 5 #[v0, v1] W fun e W' => e = .returned (.bool true) ∧ Below W.heap.size W W' := by
  obtain ⟨m, rfl, hm⟩ := read_msg hv0 h0
  obtain ⟨n, rfl, hn⟩ := read_msg hv1 h1
  exact (mapart_any m n W hm hn).mono fun e W' h => ⟨h.1, Old.below h.2⟩
end Go.Proofs.YtpjpimahnnekkaaGreat

namespace Go.Proofs.YtpjpimahnnekkaaGreat.msgApart
open Go.ChangeShapes Go.WideShapes Go.ChangeAt Go.RowKit
theorem own : ownKnob Tryz.prog.godebug = none := by kernel_rfl
theorem laidOut : laidOutB Tryz.prog = true := by kernel_rfl

set_option maxRecDepth 100000 in
theorem lifted (os : Os) (started : os.Started) (H : Type) (enc : TypeId × Value → H) :
    ReturnsInHanded {} Tryz.checked os 5 .any (Rows.msgApartSpec.pre6 enc Tryz.prog Tryz.f5 Rows.msgApartRow.domain false) (Rows.msgApartSpec.post enc Tryz.prog Tryz.f5 false true false false) := by
  refine returnsInHanded_of_change (C := Tryz.checked) own started (by kernel_rfl) Tryz.func5
    (ChangeSpec.witness6 (enc := enc) (C := Tryz.checked) false ⟨#[], #[.agg #[.int .i64 0, .int .i64 0, .int .u64 0, .bool false, .slice none 0 0, .int .u64 0, .int .u64 0, .string ⟨#[]⟩, .slice none 0 0, .int .i64 0, .int .u64 0, .int .u64 0, .int .u64 0, .int .u64 0, .int .u64 0, .slice none 0 0, .slice none 0 0, .bool false], .agg #[.int .i64 0, .int .i64 0, .int .u64 0, .bool false, .slice none 0 0, .int .u64 0, .int .u64 0, .string ⟨#[]⟩, .slice none 0 0, .int .i64 0, .int .u64 0, .int .u64 0, .int .u64 0, .int .u64 0, .int .u64 0, .slice none 0 0, .slice none 0 0, .bool false]], []⟩ 8 (by kernel_rfl) (by kernel_rfl) (by kernel_rfl) (by kernel_rfl)) ?_
  intro W base args ds gs before hval0 hW _ _
  have hval : ∀ (j : Nat) t v, Tryz.f5.params[j]? = some t → args[j]? = some v → Value.okWide Tryz.prog W .any base t v := hval0
  have hW' := hW
  obtain ⟨p, q, hA0, hV, rfl, hfz, hnd⟩ := hW
  have hA : DataW.TrodAll enc Tryz.prog W 0 (fun _ => true) true Tryz.f5.params.toList args.toList ds p := hA0
  rw [Tryz.params5] at hA hval
  obtain ⟨v0, vs0, d0, ds0, p0, q0, hargs, rfl, rfl, h0, r0⟩ := trodAll_cons hA
  obtain ⟨v1, vs1, d1, ds1, p1, q1, rfl, rfl, rfl, h1, r1⟩ := trodAll_cons r0
  obtain ⟨rfl, rfl, rfl⟩ := trodAll_nil r1
  obtain rfl : args = #[v0, v1] := by cases args; simp_all
  obtain ⟨rfl, rfl⟩ := trodVars_none hV
  have lt0 : ∀ x ∈ p0, x.block < W.heap.size := by obtain ⟨m, hm⟩ := h0; exact DataW.trod_lt m _ _ _ hm
  have lt1 : ∀ x ∈ p1, x.block < W.heap.size := by obtain ⟨m, hm⟩ := h1; exact DataW.trod_lt m _ _ _ hm
  clear hA0 hval0
  refine (walk_MsgApart enc W base (hval 0 37 v0 rfl rfl) h0 (hval 1 37 v1 rfl rfl) h1).mono fun e W' ⟨he, bel⟩ => ?_
  subst he
  exact ⟨_, rfl, _, _, _, [], _, [], hW', trodAll_mk1 (shut_bool Tryz.underlying4 _), (trodAll_cons_mk (Below.trod laidOut (by kernel_rfl) (of_decide_eq_true (by kernel_rfl)) h0 bel lt0) (trodAll_cons_mk (Below.trod laidOut (by kernel_rfl) (of_decide_eq_true (by kernel_rfl)) h1 bel lt1) trodAll_mk0)), rfl, bel.frame _, fun h => by cases h⟩

theorem proved : Rows.MsgApartSaid :=
  OpenClaim.holds_of_wide 5 Tryz.f5 rfl rfl rfl rfl rfl rfl rfl ⟨rfl, rfl, rfl, rfl, rfl⟩ rfl rfl rfl rfl rfl (by kernel_rfl) Tryz.func5 (by kernel_rfl)
    (of_decide_eq_true (by kernel_rfl)) (by unfold Func.isWrapper; first | (rw [if_pos (by decide +kernel)]; kernel_rfl) | (rw [if_neg (by decide +kernel)]; exact ⟨rfl, rfl⟩))
    (fun os started H enc _ => lifted os started H enc)
end Go.Proofs.YtpjpimahnnekkaaGreat.msgApart
