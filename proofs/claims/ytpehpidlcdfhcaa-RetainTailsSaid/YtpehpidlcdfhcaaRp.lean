/- DERIVED. The document's May, Tail and Low (layer 15). -/
import Derived.Test.YtpehpidlcdfhcaaAl
import Derived.Test.YtpehpidlcdfhcaaLe
import Derived.Test.YtpehpidlcdfhcaaPl
namespace Go.Proofs.Ytpehpidlcdfhcaa
open Go.RowKit

set_option maxRecDepth 100000 in
theorem ref_pol_any (p : Pol) (w : World) : Calls Try.prog 16 #[.agg p.cells] w fun e w' => e = .returned (.bool p.ok) ∧ Old w w' := by
  obtain ⟨a, b, c⟩ := p
  unfold Pol.cells Pol.ok limOk
  simp only
  go_enter Try.func16, Try.ntmps16
  go_wp2_with fail
  all_goals go_ret
  all_goals refine ⟨ret_bool ?_, (Keeps.refl _ _).alloc _⟩
  all_goals rw [Bool.eq_iff_iff]
  all_goals simp at *
  all_goals omega

theorem ref_tail_no (p : Pol) (now : Nat) (lv : Value) (l : List It) (w : World) (hi : Items w lv l) (hp : p.ok = false) :
    Calls Try.prog 9 #[.agg p.cells, .int .u64 now, lv] w fun e w' => e = .returned (.tuple #[.int .i64 0, .int .i64 1]) ∧ Old w w' := by
  have M := fun W => ref_pol_any p W
  rw [hp] at M
  obtain ⟨a, b, c⟩ := p
  unfold Pol.cells at M ⊢
  simp only at M ⊢
  have MM := Lib.hid M
  obtain ⟨ad, c', rfl, _, _⟩ := hi.1.len
  clear M hi
  go_enter Try.func9, Try.ntmps9
  go_wp2_with fail
  refine (MM.out _).mono ?_
  rintro e w1 ⟨rfl, hk⟩
  have K := Lib.hid (((Keeps.refl _ w).alloc _).trans hk)
  clear hk
  go_wp2_with fail
  go_ret2
  exact ⟨rfl, K.out⟩

set_option maxRecDepth 100000 in
theorem ref_tail_yes (p : Pol) (now : Nat) (lv : Value) (l : List It) (w : World) (hi : Items w lv l) (hl : l.length ≤ 1000) (hn : now < 18446744073709551616) (hp : p.ok = true) :
    Calls Try.prog 9 #[.agg p.cells, .int .u64 now, lv] w fun e w' => e = .returned (.tuple #[.int .i64 (tailN p now l : Nat), .int .i64 0]) ∧ Old w w' := by
  have M := fun W => ref_pol_any p W
  rw [hp] at M
  have A := fun (lo : Nat) (hlo : lo ≤ l.length) (v : Value) W (h : Old w W) (hs : SeesR w 4 It.cells v (l.drop lo)) => ref_allowed_any p now v (l.drop lo) W (⟨hs.old h, fun x hx => (hi.2 x (List.mem_of_mem_drop hx)).old h⟩) (by simp; omega) hn hp
  have AD := Lib.hid (fun i (h : i ≤ l.length) => allowed_drop hp now l i h)
  have htl := tailN_le p now l
  obtain ⟨t, ht⟩ : ∃ t, tailN p now l = t := ⟨_, rfl⟩
  rw [ht] at htl ⊢
  obtain ⟨a, b, c⟩ := p
  unfold Pol.cells at M A ⊢
  simp only at M A ⊢
  have MM := Lib.hid M
  have HA := Lib.hid A
  have HE := Lib.hid ht
  obtain ⟨ad, c', rfl, _, _⟩ := hi.1.len
  have HI := Lib.hid hi
  obtain ⟨W0, hW0⟩ : ∃ W0, w.alloc (.cells #[.int .i64 a, .int .i64 b, .int .i64 c] 23) = W0 := ⟨_, rfl⟩
  have k0 : Old w W0 := by rw [← hW0]; exact (Keeps.refl _ _).alloc _
  have hb0 : W0.heap[w.heap.size]? = some (.cells #[.int .i64 a, .int .i64 b, .int .i64 c] 23 (0, 0)) := by rw [← hW0]; exact heap_alloc_new _ _
  have q0 : W0.cell? ⟨w.heap.size, 0, none⟩ = some (.int .i64 a) := by simp [World.cell?, hb0]
  have q1 : W0.cell? ⟨w.heap.size, 1, none⟩ = some (.int .i64 b) := by simp [World.cell?, hb0]
  have q2 : W0.cell? ⟨w.heap.size, 2, none⟩ = some (.int .i64 c) := by simp [World.cell?, hb0]
  have K0 := Lib.hid k0
  clear M A hi k0 hb0 ht
  go_enter Try.func9, Try.ntmps9
  go_wp2_with fail
  refine (MM.out _).mono ?_
  rintro e w1 ⟨rfl, hk1⟩
  have r0 := hk1.cell q0 (fun f => f)
  have r1 := hk1.cell q1 (fun f => f)
  have r2 := hk1.cell q2 (fun f => f)
  have K1 := Lib.hid (K0.out.trans hk1)
  clear hk1 q0 q1 q2
  go_wp2_with fail
  go_loopw [8] (fun v8 wr => ∃ k : Nat, k ≤ t ∧ v8 = .int .i64 k ∧ Old w1 wr) (fun v8 _ => t - (intOf v8).toNat)
  case atStart => exact ⟨0, by omega, rfl, Keeps.refl _ _⟩
  case round =>
    obtain ⟨k, hk, rfl, hkw⟩ := hrel
    obtain ⟨p', c2, hsl, hsees, _⟩ := from_items HI.out.1 k (by omega)
    have n0 := OldOf.cell (hkw.cell r0 (fun f => f))
    have n1 := OldOf.cell (hkw.cell r1 (fun f => f))
    have n2 := OldOf.cell (hkw.cell r2 (fun f => f))
    have AA := fun W (h : Old w W) => HA.out k (by omega) _ W h hsees
    rw [AD.out k (by omega), HE.out] at AA
    have i1 : (0 : Int) ≤ (k : Int) := by omega
    have i2 : (k : Int) ≤ (l.length : Int) := by omega
    have KW := Lib.hid hkw
    have HAA := Lib.hid (fun (pq : OldOf wr) => AA pq.to ((K1.out.trans KW.out).trans pq.old))
    clear hkw hsees AA
    by_cases hlt : k < l.length
    · have d0 : decide ((k : Int) < (l.length : Int)) = true := by simp [hlt]
      have d0' : decide (k < l.length) = true := by simp [hlt]
      by_cases htk : t ≤ k
      · have d1 : decide (t ≤ k) = true := by simp [htk]
        rw [d1] at HAA
        have hkt := Lib.hid (show k = t from by omega)
        go_wp2_with fail
        refine wp_region_quiet_old (by kernel_rfl) (by kernel_rfl) ?_
        repeat (go_big_quiet_step (((go_at_call 26; exact Calls.quiet_of_old (HAA.out _)))))
        refine wpQuiet_nil ?_
        intro _ hpq
        obtain ⟨pq, hpq'⟩ := hpq
        subst hpq'
        go_wp2_with fail
        go_ret2
        exact ⟨by rw [← hkt.out]; rfl, (K1.out.trans KW.out).trans pq.old⟩
      · have d1 : decide (t ≤ k) = false := by simp; omega
        rw [d1] at HAA
        go_wp2_with fail
        refine wp_region_quiet_old (by kernel_rfl) (by kernel_rfl) ?_
        repeat (go_big_quiet_step (((go_at_call 26; exact Calls.quiet_of_old (HAA.out _)))))
        refine wpQuiet_nil ?_
        intro _ hpq
        obtain ⟨pq, hpq'⟩ := hpq
        subst hpq'
        go_wp2_with fail
        go_roundw
        case rel => exact ⟨k + 1, by omega, by go_num, KW.out.trans pq.old⟩
        case measure => simp [intOf]; omega
    · have d0 : decide ((k : Int) < (l.length : Int)) = false := by simp; omega
      have d0' : decide (k < l.length) = false := by simp; omega
      have hkt := Lib.hid (show k = t from by omega)
      go_wp2_with fail
      refine wp_region_quiet_old (by kernel_rfl) (by kernel_rfl) ?_
      repeat (go_big_quiet_step ((fail)))
      refine wpQuiet_nil ?_
      intro _ hpq
      obtain ⟨pq, hpq'⟩ := hpq
      subst hpq'
      go_wp2_with fail
      go_ret2
      exact ⟨by rw [← hkt.out]; rfl, (K1.out.trans KW.out).trans pq.old⟩
end Go.Proofs.Ytpehpidlcdfhcaa
