/- DERIVED. '==' on the program's values. -/
import Derived.Test.YtpehpidlcdfhcaaQo
namespace Go.Proofs.Ytpehpidlcdfhcaa
open Go.RowKit

theorem eq_int (d : Nat) (x y : Int) (W : World) : (Op.equalIn (d+1) 3 (.int .i64 x) (.int .i64 y)).run Try.prog W = .ok (x == y) W := by
  unfold Op.equalIn; simp [go_sem]
theorem eq_i64 (d : Nat) (x y : Int) (W : World) : (Op.equalIn (d+1) 2 (.int .i64 x) (.int .i64 y)).run Try.prog W = .ok (x == y) W := by
  unfold Op.equalIn; simp [go_sem]
theorem eq_bool (d : Nat) (x y : Bool) (W : World) : (Op.equalIn (d+1) 4 (.bool x) (.bool y)).run Try.prog W = .ok (x == y) W := by
  unfold Op.equalIn; simp [go_sem]
theorem eq_string (d : Nat) (x y : ByteArray) (W : World) : (Op.equalIn (d+1) 9 (.string x) (.string y)).run Try.prog W = .ok (x == y) W := by
  unfold Op.equalIn; simp [go_sem]

set_option maxHeartbeats 2000000 in
theorem eq_val_in (m : Nat) (F3 : ∀ x y W, (Op.equalIn m 3 (.int .i64 x) (.int .i64 y)).run Try.prog W = .ok (x == y) W) (F2 : ∀ x y W, (Op.equalIn m 2 (.int .i64 x) (.int .i64 y)).run Try.prog W = .ok (x == y) W)
    (F9 : ∀ x y W, (Op.equalIn m 9 (.string x) (.string y)).run Try.prog W = .ok (x == y) W) (F4 : ∀ x y W, (Op.equalIn m 4 (.bool x) (.bool y)).run Try.prog W = .ok (x == y) W)
    (k k' n n' : Int) (s s' : ByteArray) (b b' : Bool) (W : World) :
    (Op.equalIn (m+1) 64 (.agg #[.int .i64 k, .int .i64 n, .string s, .bool b]) (.agg #[.int .i64 k', .int .i64 n', .string s', .bool b'])).run Try.prog W = .ok (k == k' && (n == n' && (s == s' && b == b'))) W := by
  have hst : Try.prog.stoodInHeld 64 = false := by kernel_rfl
  unfold Op.equalIn
  cases h1 : (k == k')
  · simp [go_sem, hst, F3, h1]
  · cases h2 : (n == n')
    · simp [go_sem, hst, F3, F2, h1, h2]
    · cases h3 : (s == s')
      · simp [go_sem, hst, F3, F2, F9, h1, h2, h3]
      · cases h4 : (b == b') <;> simp [go_sem, hst, F3, F2, F9, F4, h1, h2, h3, h4]

theorem eql_val (k k' n n' : Int) (s s' : ByteArray) (b b' : Bool) (W : World) :
    (binOp .eql 64 (.agg #[.int .i64 k, .int .i64 n, .string s, .bool b]) (.agg #[.int .i64 k', .int .i64 n', .string s', .bool b'])).run Try.prog W = .ok (.bool (k == k' && (n == n' && (s == s' && b == b')))) W := by
  have h := eq_val_in 9999 (eq_int 9998) (eq_i64 9998) (eq_string 9998) (eq_bool 9998) k k' n n' s s' b b' W
  simp [binOp, go_sem, Op.equal, Op.maxDepth, h]
end Go.Proofs.Ytpehpidlcdfhcaa
