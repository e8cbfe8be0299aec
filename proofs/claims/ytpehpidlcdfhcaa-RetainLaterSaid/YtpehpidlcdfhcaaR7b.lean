/- DERIVED. The document's writer of values and events (layer 7). -/
import Derived.Test.YtpehpidlcdfhcaaR7
namespace Go.Proofs.Ytpehpidlcdfhcaa
open Go.RowKit

set_option maxRecDepth 100000 in
theorem ref7_value_any (v0 : Value) (l : List UInt8) (v : Val) (B : Nat) (w : World) (h : Owns w B v0 l) (hl : l.length ≤ 999999000) (hv : v.ok = true) (hz : -9223372036854775808 ≤ v.num ∧ v.num ≤ 9223372036854775807) (hB : B ≤ w.heap.size) :
    Calls Try.prog 45 #[v0, .agg v.cells] w (Gro w B (l ++ valForm v)) := by
  obtain ⟨k, n, s, b⟩ := v
  unfold Val.cells
  simp only at hz ⊢
  have hd : k = 1 ∨ k = 2 ∨ k = 3 := by
    unfold Val.ok at hv
    simp only at hv
    by_cases h1 : k = 1
    · exact .inl h1
    · by_cases h2 : k = 2
      · exact .inr (.inl h2)
      · simp [h1, h2] at hv; exact .inr (.inr hv.1.1)
  generalize hW0 : w.alloc (.cells #[.int .i64 k, .int .i64 n, .string s, .bool b] 64) = W0
  have k0 : Old w W0 := by rw [← hW0]; exact (Keeps.refl _ _).alloc _
  have hb0 : W0.heap[w.heap.size]? = some (.cells #[.int .i64 k, .int .i64 n, .string s, .bool b] 64 (0, 0)) := by rw [← hW0]; exact heap_alloc_new _ _
  have e0 : W0.cell? ⟨w.heap.size, 0, none⟩ = some (.int .i64 k) := by simp [World.cell?, hb0]
  have hf : (form 1).length ≤ 10 ∧ (form 2).length ≤ 10 ∧ (form 3).length ≤ 10 := ⟨form_le10 (by decide), form_le10 (by decide), form_le10 (by decide)⟩
  have hB0 : B ≤ W0.heap.size := Nat.le_trans hB k0.size
  rcases hd with rfl | rfl | rfl
  · have C := Lib.hid (ref7_num_any v0 l 1 B W0 (h.old k0) (by omega) (by decide) hB0)
    have H := Lib.hid (And.intro k0 (And.intro hb0 hB0))
    clear k0 hb0 h hv hB hB0
    by_cases hneg : n < 0
    · obtain ⟨m, rfl⟩ : ∃ m : Nat, n = -(m : Int) - 1 := ⟨(-n - 1).toNat, by omega⟩
      have hm : m ≤ 9223372036854775807 := by omega
      have hzz := Lib.hid hz
      clear hz
      go_enter Try.func45, Try.ntmps45
      go_wp2_with fail
      refine C.out.mono ?_
      rintro e w1 ⟨p1, n1, c1, rfl, ho1, hk1⟩
      have m1 := hk1.block H.out.2.1 (by decide)
      have q0 : w1.cell? ⟨w.heap.size, 0, none⟩ = some (.int .i64 1) := by simp [World.cell?, m1]
      have q1 : w1.cell? ⟨w.heap.size, 1, none⟩ = some (.int .i64 (-(m : Int) - 1)) := by simp [World.cell?, m1]
      have C2' := ref7_num_any _ _ (2 * m + 1) B w1 ho1 (by simp; omega) (by omega) (Nat.le_trans H.out.2.2 hk1.size)
      rw [show ((2 * m + 1 : Nat) : Int) = 2 * (m : Int) + 1 from by omega] at C2'
      have C2 := Lib.hid C2'
      have R := Lib.hid hk1
      clear ho1 hk1 m1 C e0 C2'
      go_wp2_with fail
      refine C2.out.mono ?_
      rintro e w2 ⟨p2, n2, c2, rfl, ho2, hk2⟩
      have R2 := Lib.hid (And.intro ho2 hk2)
      clear ho2 hk2 C2
      go_wp2_with fail
      go_ret
      refine gro rfl ?_ ((K8.old H.out.1).trans (R.out.trans R2.out.2))
      rw [show l ++ valForm ⟨1, -(m : Int) - 1, s, b⟩ = l ++ form 1 ++ form (2 * m + 1) from by
        unfold valForm; rw [if_pos rfl, show zigN (-(m : Int) - 1) = 2 * m + 1 from by unfold zigN; rw [if_neg (by omega)]; omega]; simp]
      exact R2.out.1
    · obtain ⟨m, rfl⟩ : ∃ m : Nat, n = (m : Int) := ⟨n.toNat, by omega⟩
      have hm : m ≤ 9223372036854775807 := by omega
      have hzz := Lib.hid hz
      clear hz hneg
      go_enter Try.func45, Try.ntmps45
      go_wp2_with fail
      refine C.out.mono ?_
      rintro e w1 ⟨p1, n1, c1, rfl, ho1, hk1⟩
      have m1 := hk1.block H.out.2.1 (by decide)
      have q0 : w1.cell? ⟨w.heap.size, 0, none⟩ = some (.int .i64 1) := by simp [World.cell?, m1]
      have q1 : w1.cell? ⟨w.heap.size, 1, none⟩ = some (.int .i64 (m : Int)) := by simp [World.cell?, m1]
      have C2' := ref7_num_any _ _ (2 * m) B w1 ho1 (by simp; omega) (by omega) (Nat.le_trans H.out.2.2 hk1.size)
      rw [show ((2 * m : Nat) : Int) = 2 * (m : Int) from by omega] at C2'
      have C2 := Lib.hid C2'
      have R := Lib.hid hk1
      clear ho1 hk1 m1 C e0 C2'
      go_wp2_with fail
      refine C2.out.mono ?_
      rintro e w2 ⟨p2, n2, c2, rfl, ho2, hk2⟩
      have R2 := Lib.hid (And.intro ho2 hk2)
      clear ho2 hk2 C2
      go_wp2_with fail
      go_ret
      refine gro rfl ?_ ((K8.old H.out.1).trans (R.out.trans R2.out.2))
      rw [show l ++ valForm ⟨1, (m : Int), s, b⟩ = l ++ form 1 ++ form (2 * m) from by
        unfold valForm; rw [if_pos rfl, show zigN (m : Int) = 2 * m from by unfold zigN; rw [if_pos (by omega)]; omega]; simp]
      exact R2.out.1
  · have hs : s.size ≤ 1000000000 := by
      have : s.size ≤ 32 := by simp [Val.ok] at hv; exact hv.1.1
      omega
    have C := Lib.hid (ref7_num_any v0 l 2 B W0 (h.old k0) (by omega) (by decide) hB0)
    have H := Lib.hid (And.intro k0 (And.intro hb0 hB0))
    clear k0 hb0 h hv hB hB0
    go_enter Try.func45, Try.ntmps45
    go_wp2_with fail
    refine C.out.mono ?_
    rintro e w1 ⟨p1, n1, c1, rfl, ho1, hk1⟩
    have m1 := hk1.block H.out.2.1 (by decide)
    have q0 : w1.cell? ⟨w.heap.size, 0, none⟩ = some (.int .i64 2) := by simp [World.cell?, m1]
    have q1 : w1.cell? ⟨w.heap.size, 2, none⟩ = some (.string s) := by simp [World.cell?, m1]
    have C2 := Lib.hid (ref7_text_any _ _ s B w1 ho1 (by simp; omega) hs (Nat.le_trans H.out.2.2 hk1.size))
    have R := Lib.hid hk1
    clear ho1 hk1 m1 C e0
    go_wp2_with fail
    refine C2.out.mono ?_
    rintro e w2 ⟨p2, n2, c2, rfl, ho2, hk2⟩
    have R2 := Lib.hid (And.intro ho2 hk2)
    clear ho2 hk2 C2
    go_wp2_with fail
    go_ret
    refine gro rfl ?_ ((K8.old H.out.1).trans (R.out.trans R2.out.2))
    rw [show l ++ valForm ⟨2, n, s, b⟩ = l ++ form 2 ++ form s.size ++ s.toList from by simp [valForm]]
    exact R2.out.1
  · have C := Lib.hid (ref7_num_any v0 l 3 B W0 (h.old k0) (by omega) (by decide) hB0)
    have H := Lib.hid (And.intro k0 (And.intro hb0 hB0))
    clear k0 hb0 h hv hB hB0
    cases b
    · go_enter Try.func45, Try.ntmps45
      go_wp2_with fail
      refine C.out.mono ?_
      rintro e w1 ⟨p1, n1, c1, rfl, ho1, hk1⟩
      have m1 := hk1.block H.out.2.1 (by decide)
      have q0 : w1.cell? ⟨w.heap.size, 0, none⟩ = some (.int .i64 3) := by simp [World.cell?, m1]
      have q1 : w1.cell? ⟨w.heap.size, 3, none⟩ = some (.bool false) := by simp [World.cell?, m1]
      have C2 := Lib.hid (ref7_num_any _ _ 0 B w1 ho1 (by simp; omega) (by omega) (Nat.le_trans H.out.2.2 hk1.size))
      have R := Lib.hid hk1
      clear ho1 hk1 m1 C e0
      go_wp2_with fail
      refine C2.out.mono ?_
      rintro e w2 ⟨p2, n2, c2, rfl, ho2, hk2⟩
      have R2 := Lib.hid (And.intro ho2 hk2)
      clear ho2 hk2 C2
      go_wp2_with fail
      go_ret
      refine gro rfl ?_ ((K8.old H.out.1).trans (R.out.trans R2.out.2))
      rw [show l ++ valForm ⟨3, n, s, false⟩ = l ++ form 3 ++ form 0 from by simp [valForm]]
      exact R2.out.1
    · go_enter Try.func45, Try.ntmps45
      go_wp2_with fail
      refine C.out.mono ?_
      rintro e w1 ⟨p1, n1, c1, rfl, ho1, hk1⟩
      have m1 := hk1.block H.out.2.1 (by decide)
      have q0 : w1.cell? ⟨w.heap.size, 0, none⟩ = some (.int .i64 3) := by simp [World.cell?, m1]
      have q1 : w1.cell? ⟨w.heap.size, 3, none⟩ = some (.bool true) := by simp [World.cell?, m1]
      have C2 := Lib.hid (ref7_num_any _ _ 1 B w1 ho1 (by simp; omega) (by omega) (Nat.le_trans H.out.2.2 hk1.size))
      have R := Lib.hid hk1
      clear ho1 hk1 m1 C e0
      go_wp2_with fail
      refine C2.out.mono ?_
      rintro e w2 ⟨p2, n2, c2, rfl, ho2, hk2⟩
      have R2 := Lib.hid (And.intro ho2 hk2)
      clear ho2 hk2 C2
      go_wp2_with fail
      go_ret
      refine gro rfl ?_ ((K8.old H.out.1).trans (R.out.trans R2.out.2))
      rw [show l ++ valForm ⟨3, n, s, true⟩ = l ++ form 3 ++ form 1 from by simp [valForm]]
      exact R2.out.1
end Go.Proofs.Ytpehpidlcdfhcaa
