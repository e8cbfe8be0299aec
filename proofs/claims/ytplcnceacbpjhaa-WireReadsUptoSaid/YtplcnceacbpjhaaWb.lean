/- DERIVED. The contracts of the writers of package wire. -/
import Derived.Test.YtplcnceacbpjhaaWa
import Derived.Test.YtplcnceacbpjhaaForm
namespace Go.Proofs.Ytplcnceacbpjhaa
open Go.RowKit

set_option maxHeartbeats 400000 in
theorem num_any (v : Value) (l : List UInt8) (n : Nat) (w : World) (h : Sees w v l) (hl : l.length ≤ 1000000000) (hn : n < 18446744073709551616) :
    Calls Try.prog 9 #[v, .int .u64 n] w (Gives w (l ++ form n)) := by
  go_enter Try.func9, Try.ntmps9
  go_wp2_with fail
  go_step3
  go_wp2_with (go_at_call 29; refine (clone_any v l w h hl).mono ?_; rintro e w1 ⟨p1, n1, c1, rfl, ho, hk⟩)
  go_step3
  go_wp2_with fail
  go_loopw [1, 5] (fun v1 v5 wr => ∃ m l', v1 = .int .u64 (m : Nat) ∧ m < 18446744073709551616 ∧ Owns wr w.heap.size v5 l' ∧ Old w wr ∧ l' ++ form m = l ++ form n) (fun v1 _ _ => (intOf v1).toNat)
  case atStart => exact ⟨n, l, rfl, hn, ho, hk, rfl⟩
  case round =>
    obtain ⟨m, l', rfl, hm, ho', hk', he⟩ := hrel
    have hlen : l'.length ≤ 1000000010 := by
      have := congrArg List.length he
      simp only [List.length_append] at this
      have := form_le10 hn
      omega
    have H := Lib.hid he
    clear he ho hk
    have ha := and127_u64 hm
    have hs := hk'.size
    by_cases h0 : m < 128
    · have hz : ((m : Int) / 128 == 0) = true := by simp; omega
      go_wp2_with (at_builtin; refine wpList_append_sees rfl _ _ rfl w.heap.size u5 l' rfl (ho'.alloc _) _ [UInt8.ofNat m] rfl (Sees.one _ _ _ ?_) (by simp; omega) (by simp; omega) ?_; rotate_left; intro v' w2 ho2 hg2)
      · rw [Exit.noGoto_ret]
        go_ret
        refine gives rfl ?_ ((hk'.alloc _).grown hg2 (fun k hk hl => by have := ho'.block k hk; omega))
        rw [← H.out, form_lt h0]
        exact ho2
      · exact byte_last h0
    · have hz : ((m : Int) / 128 == 0) = false := by simp; omega
      go_wp2_with (at_builtin; refine wpList_append_sees rfl _ _ rfl w.heap.size u5 l' rfl (ho'.alloc _) _ [UInt8.ofNat (128 + m % 128)] rfl (Sees.one _ _ _ ?_) (by simp; omega) (by simp; omega) ?_; rotate_left; intro v' w2 ho2 hg2)
      · go_roundw
        case rel => exact ⟨m / 128, _, by go_num, by omega, ho2, (hk'.alloc _).grown hg2 (fun k hk hl => by have := ho'.block k hk; omega), by have h1 := form_ge (n := m) (by omega); rw [← H.out, h1]; simp⟩
        case measure => simp [intOf]; omega
      · exact byte_more m
theorem ret_int {k : IntKind} {a b : Int} (h : a = b) : Ending.returned (.int k a) = .returned (.int k b) := by rw [h]
theorem zig_any (z : Int) (w : World) (hz : -9223372036854775808 ≤ z ∧ z ≤ 9223372036854775807) :
    Calls Try.prog 30 #[.int .i64 z] w fun e w' => e = .returned (.int .u64 (zigN z)) ∧ w = w' := by
  go_enter Try.func30, Try.ntmps30
  go_wp2_with fail
  go_ret
  exact ⟨ret_int (zig_bits hz), rfl⟩
theorem zag_any (m : Nat) (w : World) (hm : m < 18446744073709551616) :
    Calls Try.prog 35 #[.int .u64 m] w fun e w' => e = .returned (.int .i64 (zagZ m)) ∧ w = w' := by
  go_enter Try.func35, Try.ntmps35
  go_wp2_with fail
  go_ret
  refine ⟨ret_int ?_, rfl⟩
  have h := zag_bits hm
  rw [IntWalk.i64_left, IntWalk.i64_left] at h
  exact h
theorem unfolded_any (m : Nat) (w : World) (hm : m < 18446744073709551616) :
    Calls Try.prog 36 #[.int .u64 m] w fun e w' => e = .returned (.int .i64 (zagZ m)) ∧ w = w' := by
  by_cases h0 : m % 2 = 0
  · have hd : ((m : Int) % 2 == 0) = true := by simp; omega
    go_enter Try.func36, Try.ntmps36
    go_wp2_with fail
    go_ret
    refine ⟨ret_int ?_, rfl⟩
    unfold zagZ; rw [if_pos h0]; simp
  · have hd : ((m : Int) % 2 == 0) = false := by simp; omega
    go_enter Try.func36, Try.ntmps36
    go_wp2_with fail
    go_ret
    refine ⟨ret_int ?_, rfl⟩
    unfold zagZ; rw [if_neg h0]; simp
theorem folded_any (z : Int) (w : World) (hz : -9223372036854775808 ≤ z ∧ z ≤ 9223372036854775807) :
    Calls Try.prog 32 #[.int .i64 z] w fun e w' => e = .returned (.int .u64 (zigN z)) ∧ w = w' := by
  by_cases h0 : 0 ≤ z
  · go_enter Try.func32, Try.ntmps32
    go_wp2_with fail
    go_ret
    refine ⟨ret_int ?_, rfl⟩
    unfold zigN; rw [if_pos h0]; simp; omega
  · go_enter Try.func32, Try.ntmps32
    go_wp2_with fail
    go_ret
    refine ⟨ret_int ?_, rfl⟩
    unfold zigN; rw [if_neg (by omega)]; simp; omega
theorem int_any (v : Value) (l : List UInt8) (z : Int) (w : World) (h : Sees w v l) (hl : l.length ≤ 1000000000) (hz : -9223372036854775808 ≤ z ∧ z ≤ 9223372036854775807) :
    Calls Try.prog 10 #[v, .int .i64 z] w (Gives w (l ++ form (zigN z))) := by
  go_enter Try.func10, Try.ntmps10
  go_wp2_with (first | (go_at_call 30; refine (zig_any _ _ hz).mono ?_; rintro e w1 ⟨rfl, rfl⟩) | (go_at_call 9; refine (num_any v l _ w h hl (zigN_lt hz)).mono ?_; rintro e w1 ⟨p1, n1, c1, rfl, ho, hk⟩))
  go_ret
  exact gives rfl ho (hk)
theorem bytes_any (v u : Value) (l m : List UInt8) (w : World) (h : Sees w v l) (hu : Sees w u m) (hl : l.length ≤ 1000000000) (hm : m.length ≤ 1000000000) :
    Calls Try.prog 11 #[v, u] w (Gives w (l ++ form m.length ++ m)) := by
  obtain ⟨p, c, rfl, h1, h2, h3, h4⟩ := id hu
  clear h2 h3 h4 h1
  have h10 := form_le10 (n := m.length) (by omega)
  go_enter Try.func11, Try.ntmps11
  go_wp2_with (first | (go_at_call 9; refine (num_any v l _ w h hl (by omega)).mono ?_; rintro e w1 ⟨p1, n1, c1, rfl, ho, hk⟩) |
    (at_builtin; refine wpList_append_sees rfl _ _ rfl w.heap.size (.slice p1 n1 c1) _ rfl ho _ m rfl (hu.old hk) (by simp; omega) hk.size ?_; intro v' w2 ho2 hg2))
  go_ret
  exact gives rfl ho2 (hk.grown hg2 (fun k hk hl => by have := ho.block k hk; omega))
set_option maxRecDepth 100000 in
set_option maxHeartbeats 400000 in
theorem ref_form_any (n : Nat) (w : World) (hn : n < 18446744073709551616) :
    Calls Try.prog 31 #[.int .u64 n] w (Gives w (form n)) := by
  go_enter Try.func31, Try.ntmps31
  go_wp2_with fail
  go_loopw [0, 3] (fun v1 v5 wr => ∃ m l', v1 = .int .u64 (m : Nat) ∧ m < 18446744073709551616 ∧ Owns wr w.heap.size v5 l' ∧ Old w wr ∧ l' ++ form m = form n) (fun v1 _ _ => (intOf v1).toNat)
  case atStart => exact ⟨n, [], rfl, hn, Owns.nil _ _, Keeps.refl _ _, rfl⟩
  case round =>
    obtain ⟨m, l', rfl, hm, ho', hk', he⟩ := hrel
    have hlen : l'.length ≤ 1000000010 := by
      have := congrArg List.length he
      simp only [List.length_append] at this
      have := form_le10 hn
      omega
    have H := Lib.hid he
    clear he
    have hs := hk'.size
    by_cases h0 : m < 128
    · go_wp2_with (at_builtin; refine wpList_append_sees rfl _ _ rfl w.heap.size u3 l' rfl (ho'.alloc _) _ [UInt8.ofNat m] rfl (Sees.one _ _ _ ?_) (by simp; omega) (by simp; omega) ?_; rotate_left; intro v' w2 ho2 hg2)
      · go_ret
        refine gives rfl ?_ ((hk'.alloc _).grown hg2 (fun k hk hl => by have := ho'.block k hk; omega))
        rw [← H.out, form_lt h0]
        exact ho2
      · exact byte_low h0
    · go_wp2_with (at_builtin; refine wpList_append_sees rfl _ _ rfl w.heap.size u3 l' rfl (ho'.alloc _) _ [UInt8.ofNat (128 + m % 128)] rfl (Sees.one _ _ _ ?_) (by simp; omega) (by simp; omega) ?_; rotate_left; intro v' w2 ho2 hg2)
      · go_roundw
        case rel => exact ⟨m / 128, _, by go_num, by omega, ho2, (hk'.alloc _).grown hg2 (fun k hk hl => by have := ho'.block k hk; omega), by have h1 := form_ge (n := m) (by omega); rw [← H.out, h1]; simp⟩
        case measure => simp [intOf]; omega
      · exact byte_high m
theorem ref_num_any (v : Value) (l : List UInt8) (n : Nat) (w : World) (h : Sees w v l) (hl : l.length ≤ 1000000000) (hn : n < 18446744073709551616) :
    Calls Try.prog 13 #[v, .int .u64 n] w (Gives w (l ++ form n)) := by
  have h10 := form_le10 hn
  go_enter Try.func13, Try.ntmps13
  go_wp2_with (first | (go_at_call 8; refine (own_any v l w h hl).mono ?_; rintro e w1 ⟨p1, n1, c1, rfl, ho, hk⟩) |
    (go_at_call 31; refine (ref_form_any n w1 hn).mono ?_; rintro e w2 ⟨p2, n2, c2, rfl, ho2, hk2⟩) |
    (at_builtin; refine wpList_append_sees rfl _ _ rfl w.heap.size (.slice p1 n1 c1) _ rfl (ho.old hk2) _ (form n) rfl ho2.sees (by omega) (Nat.le_trans hk.size hk2.size) ?_; intro v' w3 ho3 hg3))
  go_ret
  exact gives rfl ho3 ((hk.trans hk2).grown hg3 (fun k hk hl => by have := ho.block k hk; omega))
theorem ref_int_any (v : Value) (l : List UInt8) (z : Int) (w : World) (h : Sees w v l) (hl : l.length ≤ 1000000000) (hz : -9223372036854775808 ≤ z ∧ z ≤ 9223372036854775807) :
    Calls Try.prog 14 #[v, .int .i64 z] w (Gives w (l ++ form (zigN z))) := by
  go_enter Try.func14, Try.ntmps14
  go_wp2_with (first | (go_at_call 32; refine (folded_any _ _ hz).mono ?_; rintro e w1 ⟨rfl, rfl⟩) | (go_at_call 13; refine (ref_num_any v l _ w h hl (zigN_lt hz)).mono ?_; rintro e w1 ⟨p1, n1, c1, rfl, ho, hk⟩))
  go_ret
  exact gives rfl ho (hk)
theorem ref_bytes_any (v u : Value) (l m : List UInt8) (w : World) (h : Sees w v l) (hu : Sees w u m) (hl : l.length ≤ 1000000000) (hm : m.length ≤ 1000000000) :
    Calls Try.prog 15 #[v, u] w (Gives w (l ++ form m.length ++ m)) := by
  obtain ⟨p, c, rfl, h1, h2, h3, h4⟩ := id hu
  clear h2 h3 h4 h1
  have h10 := form_le10 (n := m.length) (by omega)
  go_enter Try.func15, Try.ntmps15
  go_wp2_with (first | (go_at_call 13; refine (ref_num_any v l _ w h hl (by omega)).mono ?_; rintro e w1 ⟨p1, n1, c1, rfl, ho, hk⟩) |
    (at_builtin; refine wpList_append_sees rfl _ _ rfl w.heap.size (.slice p1 n1 c1) _ rfl ho _ m rfl (hu.old hk) (by simp; omega) hk.size ?_; intro v' w2 ho2 hg2))
  go_ret
  exact gives rfl ho2 (hk.grown hg2 (fun k hk hl => by have := ho.block k hk; omega))
end Go.Proofs.Ytplcnceacbpjhaa
