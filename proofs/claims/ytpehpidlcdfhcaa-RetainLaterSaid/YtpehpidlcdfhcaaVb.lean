/- DERIVED. Values: the program's May. -/
import Derived.Test.YtpehpidlcdfhcaaVa
import Derived.Test.YtpehpidlcdfhcaaEq
import Derived.ChangeKeysEq
namespace Go.Proofs.Ytpehpidlcdfhcaa
open Go.RowKit

theorem empty_eq (s : ByteArray) : (s == (⟨#[]⟩ : ByteArray)) = s.toList.isEmpty := by
  rw [ByteArray.toList_eq]
  obtain ⟨⟨l⟩⟩ := s
  cases l <;> rfl

theorem bytes_self (s : ByteArray) : (s == s) = true := by
  obtain ⟨⟨l⟩⟩ := s
  show (Array.instBEq.beq _ _) = true
  simp

set_option maxRecDepth 100000 in
theorem val_any (v : Val) (w : World) : Calls Try.prog 47 #[.agg v.cells] w fun e w' => e = .returned (.bool v.ok) ∧ Old w w' := by
  obtain ⟨k, n, s, b⟩ := v
  have C := fun w => has_any ⟨k, n, s, b⟩ w
  unfold Val.cells at C ⊢
  unfold Val.ok
  simp only [] at C ⊢
  by_cases h1 : k = 1
  · subst h1
    simp only [if_true] at C
    have CC := Lib.hid C
    clear C
    have ta : ∀ W, (Instr.typeAssert (.iface 2 (.int .i64 n)) 20 2 true).run Try.prog W = .ok (.tuple #[.int .i64 n, .bool true]) W := fun W => rfl
    have te := fun W => eql_val 1 1 n n s ⟨#[]⟩ b false W
    go_enter Try.func47, Try.ntmps47
    go_wp2_with fail
    refine (CC.out _).mono ?_
    rintro e w1 ⟨rfl, hk1⟩
    have m1 : w1.heap[w.heap.size]? = some (.cells #[.int .i64 1, .int .i64 n, .string s, .bool b] 64 (0, 0)) := (hk1.block _ (by simp) (fun f => f)).trans (heap_alloc_new _ _)
    have M := Lib.hid m1
    have K := Lib.hid hk1
    clear hk1 m1
    go_wp2_with fail
    have c0 := OldOf.cell (show w1.cell? ⟨w.heap.size, 0, none⟩ = some (.int .i64 1) from by simp [World.cell?, M.out])
    have c1 := OldOf.cell (show w1.cell? ⟨w.heap.size, 1, none⟩ = some (.int .i64 n) from by simp [World.cell?, M.out])
    have c2 := OldOf.cell (show w1.cell? ⟨w.heap.size, 2, none⟩ = some (.string s) from by simp [World.cell?, M.out])
    have c3 := OldOf.cell (show w1.cell? ⟨w.heap.size, 3, none⟩ = some (.bool b) from by simp [World.cell?, M.out])
    refine wp_region_quiet_old (by kernel_rfl) (by kernel_rfl) ?_
    repeat (go_big_quiet_step ((first | (go_at_call 54; refine Calls.quiet_of_old (number_any _ _)))))
    refine wpQuiet_nil ?_
    intro _ hpq
    obtain ⟨pq, hpq'⟩ := hpq
    subst hpq'
    go_wp2_with fail
    go_ret
    exact ⟨by simp [empty_eq], (((Keeps.refl _ _).alloc _).trans K.out).trans pq.old⟩
  · by_cases h2 : k = 2
    · subst h2
      simp only [h1, if_true, if_false] at C
      have ta_int64 : ∀ W, (Instr.typeAssert (.iface 9 (.string s)) 20 2 true).run Try.prog W = .ok (.tuple #[.int .i64 0, .bool false]) W := fun W => rfl
      have ta_string : ∀ W, (Instr.typeAssert (.iface 9 (.string s)) 20 9 true).run Try.prog W = .ok (.tuple #[.string s, .bool true]) W := fun W => rfl
      have te := fun W => eql_val 2 2 n 0 s s b false W
      rw [bytes_self] at te
      cases hg : (n == 0 && !b)
      · have te' : ∀ W, (binOp .eql 64 (.agg #[.int .i64 2, .int .i64 n, .string s, .bool b]) (.agg #[.int .i64 2, .int .i64 0, .string s, .bool false])).run Try.prog W = .ok (.bool false) W := fun W => by rw [te W]; cases b <;> simp_all
        clear te
        have CC := Lib.hid C
        clear C
        go_enter Try.func47, Try.ntmps47
        go_wp2_with fail
        refine (CC.out _).mono ?_
        rintro e w1 ⟨rfl, hk1⟩
        have m1 : w1.heap[w.heap.size]? = some (.cells #[.int .i64 2, .int .i64 n, .string s, .bool b] 64 (0, 0)) := (hk1.block _ (by simp) (fun f => f)).trans (heap_alloc_new _ _)
        have M := Lib.hid m1
        have K := Lib.hid hk1
        clear hk1 m1
        go_wp2_with fail
        have c0 := OldOf.cell (show w1.cell? ⟨w.heap.size, 0, none⟩ = some (.int .i64 2) from by simp [World.cell?, M.out])
        have c1 := OldOf.cell (show w1.cell? ⟨w.heap.size, 1, none⟩ = some (.int .i64 n) from by simp [World.cell?, M.out])
        have c2 := OldOf.cell (show w1.cell? ⟨w.heap.size, 2, none⟩ = some (.string s) from by simp [World.cell?, M.out])
        have c3 := OldOf.cell (show w1.cell? ⟨w.heap.size, 3, none⟩ = some (.bool b) from by simp [World.cell?, M.out])
        refine wp_region_quiet_old (by kernel_rfl) (by kernel_rfl) ?_
        repeat (go_big_quiet_step ((first | (go_at_call 55; refine Calls.quiet_of_old (word_any _ _)))))
        refine wpQuiet_nil ?_
        intro _ hpq
        obtain ⟨pq, hpq'⟩ := hpq
        subst hpq'
        go_wp2_with fail
        go_ret
        exact ⟨by simp_all [empty_eq] <;> omega, (((Keeps.refl _ _).alloc _).trans K.out).trans pq.old⟩
      · have te' : ∀ W, (binOp .eql 64 (.agg #[.int .i64 2, .int .i64 n, .string s, .bool b]) (.agg #[.int .i64 2, .int .i64 0, .string s, .bool false])).run Try.prog W = .ok (.bool true) W := fun W => by rw [te W]; cases b <;> simp_all
        clear te
        have CC := Lib.hid C
        clear C
        go_enter Try.func47, Try.ntmps47
        go_wp2_with fail
        refine (CC.out _).mono ?_
        rintro e w1 ⟨rfl, hk1⟩
        have m1 : w1.heap[w.heap.size]? = some (.cells #[.int .i64 2, .int .i64 n, .string s, .bool b] 64 (0, 0)) := (hk1.block _ (by simp) (fun f => f)).trans (heap_alloc_new _ _)
        have M := Lib.hid m1
        have K := Lib.hid hk1
        clear hk1 m1
        go_wp2_with fail
        have c0 := OldOf.cell (show w1.cell? ⟨w.heap.size, 0, none⟩ = some (.int .i64 2) from by simp [World.cell?, M.out])
        have c1 := OldOf.cell (show w1.cell? ⟨w.heap.size, 1, none⟩ = some (.int .i64 n) from by simp [World.cell?, M.out])
        have c2 := OldOf.cell (show w1.cell? ⟨w.heap.size, 2, none⟩ = some (.string s) from by simp [World.cell?, M.out])
        have c3 := OldOf.cell (show w1.cell? ⟨w.heap.size, 3, none⟩ = some (.bool b) from by simp [World.cell?, M.out])
        refine wp_region_quiet_old (by kernel_rfl) (by kernel_rfl) ?_
        repeat (go_big_quiet_step ((first | (go_at_call 55; refine Calls.quiet_of_old (word_any _ _)))))
        refine wpQuiet_nil ?_
        intro _ hpq
        obtain ⟨pq, hpq'⟩ := hpq
        subst hpq'
        go_wp2_with fail
        go_ret
        exact ⟨by simp_all [empty_eq] <;> omega, (((Keeps.refl _ _).alloc _).trans K.out).trans pq.old⟩
    · by_cases h3 : k = 3
      · subst h3
        simp only [h1, h2, if_true, if_false] at C
        have ta_int64 : ∀ W, (Instr.typeAssert (.iface 4 (.bool b)) 20 2 true).run Try.prog W = .ok (.tuple #[.int .i64 0, .bool false]) W := fun W => rfl
        have ta_string : ∀ W, (Instr.typeAssert (.iface 4 (.bool b)) 20 9 true).run Try.prog W = .ok (.tuple #[.string ⟨#[]⟩, .bool false]) W := fun W => rfl
        have ta_bool : ∀ W, (Instr.typeAssert (.iface 4 (.bool b)) 20 4 true).run Try.prog W = .ok (.tuple #[.bool b, .bool true]) W := fun W => rfl
        have te := fun W => eql_val 3 3 n 0 s ⟨#[]⟩ b b W
        have CC := Lib.hid C
        clear C
        go_enter Try.func47, Try.ntmps47
        go_wp2_with fail
        refine (CC.out _).mono ?_
        rintro e w1 ⟨rfl, hk1⟩
        have m1 : w1.heap[w.heap.size]? = some (.cells #[.int .i64 3, .int .i64 n, .string s, .bool b] 64 (0, 0)) := (hk1.block _ (by simp) (fun f => f)).trans (heap_alloc_new _ _)
        have M := Lib.hid m1
        have K := Lib.hid hk1
        clear hk1 m1
        go_wp2_with fail
        have c0 := OldOf.cell (show w1.cell? ⟨w.heap.size, 0, none⟩ = some (.int .i64 3) from by simp [World.cell?, M.out])
        have c1 := OldOf.cell (show w1.cell? ⟨w.heap.size, 1, none⟩ = some (.int .i64 n) from by simp [World.cell?, M.out])
        have c2 := OldOf.cell (show w1.cell? ⟨w.heap.size, 2, none⟩ = some (.string s) from by simp [World.cell?, M.out])
        have c3 := OldOf.cell (show w1.cell? ⟨w.heap.size, 3, none⟩ = some (.bool b) from by simp [World.cell?, M.out])
        refine wp_region_quiet_old (by kernel_rfl) (by kernel_rfl) ?_
        repeat (go_big_quiet_step ((first | (go_at_call 56; refine Calls.quiet_of_old (truth_any _ _)))))
        refine wpQuiet_nil ?_
        intro _ hpq
        obtain ⟨pq, hpq'⟩ := hpq
        subst hpq'
        go_wp2_with fail
        go_ret
        exact ⟨by by_cases h : n = 0 <;> simp_all [empty_eq], (((Keeps.refl _ _).alloc _).trans K.out).trans pq.old⟩
      · simp only [h1, h2, h3, if_false] at C
        have ta_int64 : ∀ W, (Instr.typeAssert .nilIface 20 2 true).run Try.prog W = .ok (.tuple #[.int .i64 0, .bool false]) W := fun W => rfl
        have ta_string : ∀ W, (Instr.typeAssert .nilIface 20 9 true).run Try.prog W = .ok (.tuple #[.string ⟨#[]⟩, .bool false]) W := fun W => rfl
        have ta_bool : ∀ W, (Instr.typeAssert .nilIface 20 4 true).run Try.prog W = .ok (.tuple #[.bool false, .bool false]) W := fun W => rfl
        have CC := Lib.hid C
        clear C
        go_enter Try.func47, Try.ntmps47
        go_wp2_with fail
        refine (CC.out _).mono ?_
        rintro e w1 ⟨rfl, hk1⟩
        have m1 : w1.heap[w.heap.size]? = some (.cells #[.int .i64 k, .int .i64 n, .string s, .bool b] 64 (0, 0)) := (hk1.block _ (by simp) (fun f => f)).trans (heap_alloc_new _ _)
        have M := Lib.hid m1
        have K := Lib.hid hk1
        clear hk1 m1
        go_wp2_with fail
        go_ret
        exact ⟨by simp_all, ((Keeps.refl _ _).alloc _).trans K.out⟩
end Go.Proofs.Ytpehpidlcdfhcaa
