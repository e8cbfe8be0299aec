/- DERIVED. Values: what may be (layer 1), the program's and the document's answer. -/
import Derived.Test.YtpehpidlcdfhcaaQo
namespace Go.Proofs.Ytpehpidlcdfhcaa
open Go.RowKit

/-- a value as the program holds it -/
structure Val where
  kind : Int
  num : Int
  str : ByteArray
  is : Bool
def Val.cells (v : Val) : Array Value := #[.int .i64 v.kind, .int .i64 v.num, .string v.str, .bool v.is]
/-- may it be? -/
def Val.ok (v : Val) : Bool :=
  if v.kind = 1 then v.str.toList.isEmpty && !v.is
  else if v.kind = 2 then decide (v.str.size ≤ 32) && decide (v.num = 0) && !v.is
  else decide (v.kind = 3) && decide (v.num = 0) && v.str.toList.isEmpty

theorem ref_val_any (v : Val) (w : World) : Calls Try.prog 42 #[.agg v.cells] w fun e w' => e = .returned (.bool v.ok) ∧ Old w w' := by
  obtain ⟨k, n, s, b⟩ := v
  unfold Val.cells Val.ok
  by_cases h1 : k = 1
  · subst h1
    by_cases hs : s.toList.isEmpty = true
    all_goals go_enter Try.func42, Try.ntmps42
    all_goals go_wp2_with fail
    all_goals go_ret
    all_goals refine ⟨?_, (Keeps.refl _ _).alloc _⟩
    all_goals simp_all
  · have t1 : ((k : Int) == 1) = false := by simp; omega
    by_cases h2 : k = 2
    · subst h2
      by_cases hs : s.size ≤ 32
      · have d1 : decide ((s.size : Int) ≤ 32) = true := by simp; omega
        by_cases hn : n = 0
        · subst hn
          go_enter Try.func42, Try.ntmps42
          go_wp2_with fail
          all_goals go_ret
          all_goals refine ⟨?_, (Keeps.refl _ _).alloc _⟩
          all_goals simp_all
        · have d2 : ((n : Int) == 0) = false := by simp; omega
          go_enter Try.func42, Try.ntmps42
          go_wp2_with fail
          all_goals go_ret
          all_goals refine ⟨?_, (Keeps.refl _ _).alloc _⟩
          all_goals simp_all
      · have d1 : decide ((s.size : Int) ≤ 32) = false := by simp; omega
        go_enter Try.func42, Try.ntmps42
        go_wp2_with fail
        all_goals go_ret
        all_goals refine ⟨?_, (Keeps.refl _ _).alloc _⟩
        all_goals simp_all
    · have t2 : ((k : Int) == 2) = false := by simp; omega
      by_cases h3 : k = 3
      · subst h3
        by_cases hn : n = 0
        · subst hn
          go_enter Try.func42, Try.ntmps42
          go_wp2_with fail
          all_goals go_ret
          all_goals refine ⟨?_, (Keeps.refl _ _).alloc _⟩
          all_goals simp_all
        · have d2 : ((n : Int) == 0) = false := by simp; omega
          go_enter Try.func42, Try.ntmps42
          go_wp2_with fail
          all_goals go_ret
          all_goals refine ⟨?_, (Keeps.refl _ _).alloc _⟩
          all_goals simp_all
      · have t3 : ((k : Int) == 3) = false := by simp; omega
        go_enter Try.func42, Try.ntmps42
        go_wp2_with fail
        all_goals go_ret
        all_goals refine ⟨?_, (Keeps.refl _ _).alloc _⟩
        all_goals simp_all

theorem number_any (n : Int) (w : World) : Calls Try.prog 54 #[.int .i64 n] w fun e w' => e = .returned (.agg #[.int .i64 1, .int .i64 n, .string ⟨#[]⟩, .bool false]) ∧ Old w w' := by
  go_enter Try.func54, Try.ntmps54
  go_wp2_with fail
  refine bodyPost_ret (v := .agg #[.int .i64 1, .int .i64 n, .string ⟨#[]⟩, .bool false]) (by simp [results, Try.results54, go_sem]) rfl ?_
  exact ⟨rfl, (Keeps.refl _ _).alloc _⟩
theorem word_any (s : ByteArray) (w : World) : Calls Try.prog 55 #[.string s] w fun e w' => e = .returned (.agg #[.int .i64 2, .int .i64 0, .string s, .bool false]) ∧ Old w w' := by
  go_enter Try.func55, Try.ntmps55
  go_wp2_with fail
  refine bodyPost_ret (v := .agg #[.int .i64 2, .int .i64 0, .string s, .bool false]) (by simp [results, Try.results55, go_sem]) rfl ?_
  exact ⟨rfl, (Keeps.refl _ _).alloc _⟩
theorem truth_any (b : Bool) (w : World) : Calls Try.prog 56 #[.bool b] w fun e w' => e = .returned (.agg #[.int .i64 3, .int .i64 0, .string ⟨#[]⟩, .bool b]) ∧ Old w w' := by
  go_enter Try.func56, Try.ntmps56
  go_wp2_with fail
  refine bodyPost_ret (v := .agg #[.int .i64 3, .int .i64 0, .string ⟨#[]⟩, .bool b]) (by simp [results, Try.results56, go_sem]) rfl ?_
  exact ⟨rfl, (Keeps.refl _ _).alloc _⟩
theorem has_any (v : Val) (w : World) : Calls Try.prog 53 #[.agg v.cells] w fun e w' => e = .returned (if v.kind = 1 then .iface 2 (.int .i64 v.num) else if v.kind = 2 then .iface 9 (.string v.str) else if v.kind = 3 then .iface 4 (.bool v.is) else .nilIface) ∧ Old w w' := by
  obtain ⟨k, n, s, b⟩ := v
  unfold Val.cells
  by_cases h1 : k = 1
  · subst h1
    go_enter Try.func53, Try.ntmps53
    go_wp2_with fail
    go_ret
    exact ⟨by simp, (Keeps.refl _ _).alloc _⟩
  · have t1 : ((k : Int) == 1) = false := by simp; omega
    by_cases h2 : k = 2
    · subst h2
      go_enter Try.func53, Try.ntmps53
      go_wp2_with fail
      go_ret
      exact ⟨by simp, (Keeps.refl _ _).alloc _⟩
    · have t2 : ((k : Int) == 2) = false := by simp; omega
      by_cases h3 : k = 3
      · subst h3
        go_enter Try.func53, Try.ntmps53
        go_wp2_with fail
        go_ret
        exact ⟨by simp, (Keeps.refl _ _).alloc _⟩
      · have t3 : ((k : Int) == 3) = false := by simp; omega
        go_enter Try.func53, Try.ntmps53
        go_wp2_with fail
        go_ret
        exact ⟨by simp [h1, h2, h3], (Keeps.refl _ _).alloc _⟩
end Go.Proofs.Ytpehpidlcdfhcaa
