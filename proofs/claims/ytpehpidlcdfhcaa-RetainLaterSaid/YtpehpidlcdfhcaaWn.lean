/- DERIVED. The contracts of the writers of package wire. -/
import Derived.Test.YtpehpidlcdfhcaaBase
import Derived.Test.YtpehpidlcdfhcaaForm
namespace Go.Proofs.Ytpehpidlcdfhcaa
open Go.RowKit

/-- a call hands back a slice of its own that reads as l; nothing that was there has turned -/
def Gives (w : World) (l : List UInt8) (e : Ending) (w' : World) : Prop := ∃ p n c, e = .returned (.slice p n c) ∧ Owns w' w.heap.size (.slice p n c) l ∧ Old w w'

theorem gives {w w' : World} {l : List UInt8} {e : Ending} {v : Value} (he : e = .returned v) (ho : Owns w' w.heap.size v l) (hk : Old w w') : Gives w l e w' := by
  obtain ⟨p, c, rfl, _, _⟩ := ho.sees.len
  exact ⟨p, _, c, he, ho, hk⟩

/-- slices.Clone of bytes -/
theorem clone_any (v : Value) (l : List UInt8) (w : World) (h : Sees w v l) (hl : l.length ≤ 1000000000) :
    Calls Try.prog 62 #[v] w (Gives w l) := by
  obtain ⟨p, c, rfl, h1, h2, h3, h4⟩ := id h
  have hnil := eql_nil
  cases p with
  | none =>
    obtain rfl := h3 rfl
    obtain rfl : l = [] := List.eq_nil_of_length_eq_zero (by omega)
    go_enter Try.func62, Try.ntmps62
    go_wp2_with fail
    go_ret
    exact gives rfl (Owns.nil _ _) (Keeps.refl _ _)
  | some ad =>
    clear h3 h4
    go_enter Try.func62, Try.ntmps62
    go_wp2_with (at_builtin; refine wpList_append_sees rfl _ _ rfl w.heap.size (.slice (some ⟨w.heap.size, 0, none⟩) 0 0) [] rfl (Owns.lit w w.heap.size [] (Nat.le_refl _) (Nat.zero_le _)) _ l rfl (h.alloc _) (by simp; omega) (by simp) ?_; intro v' w1 ho hg)
    go_ret
    exact gives rfl ho ( ((Keeps.refl _ _).alloc _).grown hg (fun k hk => by simp [Value.ownBlock] at hk; omega))

set_option maxHeartbeats 400000 in
theorem num_any (v : Value) (l : List UInt8) (n : Nat) (w : World) (h : Sees w v l) (hl : l.length ≤ 1000000000) (hn : n < 18446744073709551616) :
    Calls Try.prog 58 #[v, .int .u64 n] w (Gives w (l ++ form n)) := by
  go_enter Try.func58, Try.ntmps58
  go_wp2_with fail
  go_step3
  go_wp2_with (go_at_call 62; refine (clone_any v l w h hl).mono ?_; rintro e w1 ⟨p1, n1, c1, rfl, ho, hk⟩)
  go_step3
  go_wp2_with fail
  go_loopw [1, 5] (fun v1 v5 wr => ∃ m l', v1 = .int .u64 (m : Nat) ∧ m < 18446744073709551616 ∧ Owns wr w.heap.size v5 l' ∧ Old w wr ∧ l' ++ form m = l ++ form n) (fun v1 _ _ => (intOf v1).toNat)
  case atStart => exact ⟨n, l, rfl, hn, ho, hk, rfl⟩
  case round =>
    obtain ⟨m, l', rfl, hm, ho', hk', he⟩ := hrel
    have hlen : l'.length ≤ 1000000010 := by
      have := congrArg List.length he
      simp only [List.length_append] at this
      have := form_le10 hn
      omega
    have H := Lib.hid he
    clear he ho hk
    have ha := and127_u64 hm
    have hs := hk'.size
    by_cases h0 : m < 128
    · have hz : ((m : Int) / 128 == 0) = true := by simp; omega
      go_wp2_with (at_builtin; refine wpList_append_sees rfl _ _ rfl w.heap.size u5 l' rfl (ho'.alloc _) _ [UInt8.ofNat m] rfl (Sees.one _ _ _ ?_) (by simp; omega) (by simp; omega) ?_; rotate_left; intro v' w2 ho2 hg2)
      · rw [Exit.noGoto_ret]
        go_ret
        refine gives rfl ?_ ((hk'.alloc _).grown hg2 (fun k hk hl => by have := ho'.block k hk; omega))
        rw [← H.out, form_lt h0]
        exact ho2
      · exact byte_last h0
    · have hz : ((m : Int) / 128 == 0) = false := by simp; omega
      go_wp2_with (at_builtin; refine wpList_append_sees rfl _ _ rfl w.heap.size u5 l' rfl (ho'.alloc _) _ [UInt8.ofNat (128 + m % 128)] rfl (Sees.one _ _ _ ?_) (by simp; omega) (by simp; omega) ?_; rotate_left; intro v' w2 ho2 hg2)
      · go_roundw
        case rel => exact ⟨m / 128, _, by go_num, by omega, ho2, (hk'.alloc _).grown hg2 (fun k hk hl => by have := ho'.block k hk; omega), by have h1 := form_ge (n := m) (by omega); rw [← H.out, h1]; simp⟩
        case measure => simp [intOf]; omega
      · exact byte_more m

theorem ret_int {k : IntKind} {a b : Int} (h : a = b) : Ending.returned (.int k a) = .returned (.int k b) := by rw [h]

theorem zig_any (z : Int) (w : World) (hz : -9223372036854775808 ≤ z ∧ z ≤ 9223372036854775807) :
    Calls Try.prog 63 #[.int .i64 z] w fun e w' => e = .returned (.int .u64 (zigN z)) ∧ w = w' := by
  go_enter Try.func63, Try.ntmps63
  go_wp2_with fail
  go_ret
  exact ⟨ret_int (zig_bits hz), rfl⟩

theorem int_any (v : Value) (l : List UInt8) (z : Int) (w : World) (h : Sees w v l) (hl : l.length ≤ 1000000000) (hz : -9223372036854775808 ≤ z ∧ z ≤ 9223372036854775807) :
    Calls Try.prog 59 #[v, .int .i64 z] w (Gives w (l ++ form (zigN z))) := by
  go_enter Try.func59, Try.ntmps59
  go_wp2_with (first | (go_at_call 63; refine (zig_any _ _ hz).mono ?_; rintro e w1 ⟨rfl, rfl⟩) | (go_at_call 58; refine (num_any v l _ w h hl (zigN_lt hz)).mono ?_; rintro e w1 ⟨p1, n1, c1, rfl, ho, hk⟩))
  go_ret
  exact gives rfl ho (hk)

theorem bytes_any (v u : Value) (l m : List UInt8) (w : World) (h : Sees w v l) (hu : Sees w u m) (hl : l.length ≤ 1000000000) (hm : m.length ≤ 1000000000) :
    Calls Try.prog 57 #[v, u] w (Gives w (l ++ form m.length ++ m)) := by
  obtain ⟨p, c, rfl, h1, h2, h3, h4⟩ := id hu
  clear h2 h3 h4 h1
  have h10 := form_le10 (n := m.length) (by omega)
  go_enter Try.func57, Try.ntmps57
  go_wp2_with (first | (go_at_call 58; refine (num_any v l _ w h hl (by omega)).mono ?_; rintro e w1 ⟨p1, n1, c1, rfl, ho, hk⟩) |
    (at_builtin; refine wpList_append_sees rfl _ _ rfl w.heap.size (.slice p1 n1 c1) _ rfl ho _ m rfl (hu.old hk) (by simp; omega) hk.size ?_; intro v' w2 ho2 hg2))
  go_ret
  exact gives rfl ho2 (hk.grown hg2 (fun k hk hl => by have := ho.block k hk; omega))

end Go.Proofs.Ytpehpidlcdfhcaa
