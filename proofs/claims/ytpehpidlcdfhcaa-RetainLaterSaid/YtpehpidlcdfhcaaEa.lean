/- DERIVED. RetainEach, walked. -/
import Derived.Test.YtpehpidlcdfhcaaLe
import Derived.Test.YtpehpidlcdfhcaaPm
namespace Go.Proofs.Ytpehpidlcdfhcaa
open Go.RowKit

/-- retain.Tail, whatever the policy -/
def errR (p : Pol) : Int := if p.ok then 0 else 1
def tailR (p : Pol) (now : Nat) (l : List It) : Nat := if p.ok then tailN p now l else 0
theorem tail_all (p : Pol) (now : Nat) (lv : Value) (l : List It) (w : World) (hi : Items w lv l) (hl : l.length ≤ 1000) (hn : now < 18446744073709551616) :
    Calls Try.prog 8 #[.agg p.cells, .int .u64 now, lv] w fun e w' => e = .returned (.tuple #[.int .i64 (tailR p now l : Nat), .int .i64 (errR p)]) ∧ Old w w' := by
  unfold tailR errR
  cases hp : p.ok
  · exact tail_no_any p now lv l w hi hp
  · exact tail_any p now lv l w hi hl hn hp
theorem wakes_old (w : World) (W : World) (h : Old w W) : Calls Try.prog 17 #[] W fun e w' => e = .returned (.bool true) ∧ Old W w' := wakes_any W

set_option maxRecDepth 100000 in
set_option maxHeartbeats 1000000 in
theorem each_no_le (p : Pol) (now : Nat) (ad : Option Addr) (c' : Nat) (l m : List It) (w : World) (hsz : l.length ≤ 60) (hmx : l.length ≤ 9223372036854775807) (hlc : l.length ≤ c') (hml : m.length = l.length) (hi : Items w (.slice ad l.length c') m) (hn : now < 18446744073709551616) (hp : p.ok = false) :
    Calls Try.prog 6 #[.agg p.cells, .int .u64 now, .slice ad l.length c'] w fun e w' => e = .returned (.bool true) ∧ Old w w' := by
  have T := fun (q : Pol) W (h : Old w W) => tail_all q now _ m W (hi.old h) (by omega) hn
  have T1 := T p
  have T2 := T ⟨p.age, 0, 0⟩
  have T3 := T ⟨0, p.bytes, 0⟩
  have T4 := T ⟨0, 0, p.count⟩
  have T5 := T ⟨0, 0, 0⟩
  clear T
  have e1 : errR p = 1 := by unfold errR; rw [hp]; rfl
  have hb := each_bad hp
  rw [e1] at T1
  have hml' := Lib.hid hml
  clear e1 hp hml
  have hb' : (errR ⟨p.age, 0, 0⟩ = 1) ∨ (errR ⟨p.age, 0, 0⟩ = 0 ∧ errR ⟨0, p.bytes, 0⟩ = 1) ∨ (errR ⟨p.age, 0, 0⟩ = 0 ∧ errR ⟨0, p.bytes, 0⟩ = 0 ∧ errR ⟨0, 0, p.count⟩ = 1) := by
    unfold errR
    cases h1 : (Pol.mk p.age 0 0).ok <;> cases h2 : (Pol.mk 0 p.bytes 0).ok <;> cases h3 : (Pol.mk 0 0 p.count).ok <;> simp_all
  clear hb
  rcases hb' with h | ⟨h, h'⟩ | ⟨h, h', h''⟩
  · rw [h] at T2
    clear h
    obtain ⟨a, b, c⟩ := p
    unfold Pol.cells at T1 T2 T3 T4 T5 ⊢
    simp only at T1 T2 T3 T4 T5 ⊢
    generalize hW0 : w.alloc (.cells #[.int .i64 a, .int .i64 b, .int .i64 c] 23) = W0
    have k0 : Old w W0 := by rw [← hW0]; exact (Keeps.refl _ _).alloc _
    have hb0 : W0.heap[w.heap.size]? = some (.cells #[.int .i64 a, .int .i64 b, .int .i64 c] 23 (0, 0)) := by rw [← hW0]; exact heap_alloc_new _ _
    have r00 : W0.cell? ⟨w.heap.size, 0, none⟩ = some (.int .i64 a) := by simp [World.cell?, hb0]
    have r01 : W0.cell? ⟨w.heap.size, 1, none⟩ = some (.int .i64 b) := by simp [World.cell?, hb0]
    have r02 : W0.cell? ⟨w.heap.size, 2, none⟩ = some (.int .i64 c) := by simp [World.cell?, hb0]
    have H1 := Lib.hid T1
    have H2 := Lib.hid T2
    have H3 := Lib.hid T3
    have H4 := Lib.hid T4
    have H5 := Lib.hid T5
    have K0 := Lib.hid k0
    have WK := Lib.hid (wakes_old w)
    clear T1 T2 T3 T4 T5 hi hb0 k0
    go_enter Try.func6, Try.ntmps6
    go_wp2_with fail
    refine (H1.out _ K0.out).mono ?_
    rintro e w1 ⟨rfl, hk1⟩
    have r10 : w1.cell? ⟨w.heap.size, 0, none⟩ = some (.int .i64 a) := hk1.cell r00 (fun f => f)
    have r11 : w1.cell? ⟨w.heap.size, 1, none⟩ = some (.int .i64 b) := hk1.cell r01 (fun f => f)
    have r12 : w1.cell? ⟨w.heap.size, 2, none⟩ = some (.int .i64 c) := hk1.cell r02 (fun f => f)
    have K1 := Lib.hid (K0.out.trans hk1)
    clear hk1 r00 r01 r02
    go_wp2_with fail
    refine (H2.out _ K1.out).mono ?_
    rintro e w2 ⟨rfl, hk2⟩
    have r20 : w2.cell? ⟨w.heap.size, 0, none⟩ = some (.int .i64 a) := hk2.cell r10 (fun f => f)
    have r21 : w2.cell? ⟨w.heap.size, 1, none⟩ = some (.int .i64 b) := hk2.cell r11 (fun f => f)
    have r22 : w2.cell? ⟨w.heap.size, 2, none⟩ = some (.int .i64 c) := hk2.cell r12 (fun f => f)
    have K2 := Lib.hid (K1.out.trans hk2)
    clear hk2 r10 r11 r12
    go_wp2_with fail
    refine (H3.out _ K2.out).mono ?_
    rintro e w3 ⟨rfl, hk3⟩
    have r30 : w3.cell? ⟨w.heap.size, 0, none⟩ = some (.int .i64 a) := hk3.cell r20 (fun f => f)
    have r31 : w3.cell? ⟨w.heap.size, 1, none⟩ = some (.int .i64 b) := hk3.cell r21 (fun f => f)
    have r32 : w3.cell? ⟨w.heap.size, 2, none⟩ = some (.int .i64 c) := hk3.cell r22 (fun f => f)
    have K3 := Lib.hid (K2.out.trans hk3)
    clear hk3 r20 r21 r22
    go_wp2_with fail
    refine (H4.out _ K3.out).mono ?_
    rintro e w4 ⟨rfl, hk4⟩
    have r40 : w4.cell? ⟨w.heap.size, 0, none⟩ = some (.int .i64 a) := hk4.cell r30 (fun f => f)
    have r41 : w4.cell? ⟨w.heap.size, 1, none⟩ = some (.int .i64 b) := hk4.cell r31 (fun f => f)
    have r42 : w4.cell? ⟨w.heap.size, 2, none⟩ = some (.int .i64 c) := hk4.cell r32 (fun f => f)
    have K4 := Lib.hid (K3.out.trans hk4)
    clear hk4 r30 r31 r32
    go_wp2_with fail
    refine (WK.out _ K4.out).mono ?_
    rintro e w5 ⟨rfl, hk5⟩
    have K5 := Lib.hid (K4.out.trans hk5)
    clear hk5 r40 r41 r42
    go_wp2_with fail
    go_ret
    exact ⟨rfl, K5.out⟩
  · rw [h] at T2
    rw [h'] at T3
    clear h h'
    obtain ⟨a, b, c⟩ := p
    unfold Pol.cells at T1 T2 T3 T4 T5 ⊢
    simp only at T1 T2 T3 T4 T5 ⊢
    generalize hW0 : w.alloc (.cells #[.int .i64 a, .int .i64 b, .int .i64 c] 23) = W0
    have k0 : Old w W0 := by rw [← hW0]; exact (Keeps.refl _ _).alloc _
    have hb0 : W0.heap[w.heap.size]? = some (.cells #[.int .i64 a, .int .i64 b, .int .i64 c] 23 (0, 0)) := by rw [← hW0]; exact heap_alloc_new _ _
    have r00 : W0.cell? ⟨w.heap.size, 0, none⟩ = some (.int .i64 a) := by simp [World.cell?, hb0]
    have r01 : W0.cell? ⟨w.heap.size, 1, none⟩ = some (.int .i64 b) := by simp [World.cell?, hb0]
    have r02 : W0.cell? ⟨w.heap.size, 2, none⟩ = some (.int .i64 c) := by simp [World.cell?, hb0]
    have H1 := Lib.hid T1
    have H2 := Lib.hid T2
    have H3 := Lib.hid T3
    have H4 := Lib.hid T4
    have H5 := Lib.hid T5
    have K0 := Lib.hid k0
    have WK := Lib.hid (wakes_old w)
    clear T1 T2 T3 T4 T5 hi hb0 k0
    go_enter Try.func6, Try.ntmps6
    go_wp2_with fail
    refine (H1.out _ K0.out).mono ?_
    rintro e w1 ⟨rfl, hk1⟩
    have r10 : w1.cell? ⟨w.heap.size, 0, none⟩ = some (.int .i64 a) := hk1.cell r00 (fun f => f)
    have r11 : w1.cell? ⟨w.heap.size, 1, none⟩ = some (.int .i64 b) := hk1.cell r01 (fun f => f)
    have r12 : w1.cell? ⟨w.heap.size, 2, none⟩ = some (.int .i64 c) := hk1.cell r02 (fun f => f)
    have K1 := Lib.hid (K0.out.trans hk1)
    clear hk1 r00 r01 r02
    go_wp2_with fail
    refine (H2.out _ K1.out).mono ?_
    rintro e w2 ⟨rfl, hk2⟩
    have r20 : w2.cell? ⟨w.heap.size, 0, none⟩ = some (.int .i64 a) := hk2.cell r10 (fun f => f)
    have r21 : w2.cell? ⟨w.heap.size, 1, none⟩ = some (.int .i64 b) := hk2.cell r11 (fun f => f)
    have r22 : w2.cell? ⟨w.heap.size, 2, none⟩ = some (.int .i64 c) := hk2.cell r12 (fun f => f)
    have K2 := Lib.hid (K1.out.trans hk2)
    clear hk2 r10 r11 r12
    go_wp2_with fail
    refine (H3.out _ K2.out).mono ?_
    rintro e w3 ⟨rfl, hk3⟩
    have r30 : w3.cell? ⟨w.heap.size, 0, none⟩ = some (.int .i64 a) := hk3.cell r20 (fun f => f)
    have r31 : w3.cell? ⟨w.heap.size, 1, none⟩ = some (.int .i64 b) := hk3.cell r21 (fun f => f)
    have r32 : w3.cell? ⟨w.heap.size, 2, none⟩ = some (.int .i64 c) := hk3.cell r22 (fun f => f)
    have K3 := Lib.hid (K2.out.trans hk3)
    clear hk3 r20 r21 r22
    go_wp2_with fail
    refine (H4.out _ K3.out).mono ?_
    rintro e w4 ⟨rfl, hk4⟩
    have r40 : w4.cell? ⟨w.heap.size, 0, none⟩ = some (.int .i64 a) := hk4.cell r30 (fun f => f)
    have r41 : w4.cell? ⟨w.heap.size, 1, none⟩ = some (.int .i64 b) := hk4.cell r31 (fun f => f)
    have r42 : w4.cell? ⟨w.heap.size, 2, none⟩ = some (.int .i64 c) := hk4.cell r32 (fun f => f)
    have K4 := Lib.hid (K3.out.trans hk4)
    clear hk4 r30 r31 r32
    go_wp2_with fail
    refine (WK.out _ K4.out).mono ?_
    rintro e w5 ⟨rfl, hk5⟩
    have K5 := Lib.hid (K4.out.trans hk5)
    clear hk5 r40 r41 r42
    go_wp2_with fail
    go_ret
    exact ⟨rfl, K5.out⟩
  · rw [h] at T2
    rw [h'] at T3
    rw [h''] at T4
    clear h h' h''
    obtain ⟨a, b, c⟩ := p
    unfold Pol.cells at T1 T2 T3 T4 T5 ⊢
    simp only at T1 T2 T3 T4 T5 ⊢
    generalize hW0 : w.alloc (.cells #[.int .i64 a, .int .i64 b, .int .i64 c] 23) = W0
    have k0 : Old w W0 := by rw [← hW0]; exact (Keeps.refl _ _).alloc _
    have hb0 : W0.heap[w.heap.size]? = some (.cells #[.int .i64 a, .int .i64 b, .int .i64 c] 23 (0, 0)) := by rw [← hW0]; exact heap_alloc_new _ _
    have r00 : W0.cell? ⟨w.heap.size, 0, none⟩ = some (.int .i64 a) := by simp [World.cell?, hb0]
    have r01 : W0.cell? ⟨w.heap.size, 1, none⟩ = some (.int .i64 b) := by simp [World.cell?, hb0]
    have r02 : W0.cell? ⟨w.heap.size, 2, none⟩ = some (.int .i64 c) := by simp [World.cell?, hb0]
    have H1 := Lib.hid T1
    have H2 := Lib.hid T2
    have H3 := Lib.hid T3
    have H4 := Lib.hid T4
    have H5 := Lib.hid T5
    have K0 := Lib.hid k0
    have WK := Lib.hid (wakes_old w)
    clear T1 T2 T3 T4 T5 hi hb0 k0
    go_enter Try.func6, Try.ntmps6
    go_wp2_with fail
    refine (H1.out _ K0.out).mono ?_
    rintro e w1 ⟨rfl, hk1⟩
    have r10 : w1.cell? ⟨w.heap.size, 0, none⟩ = some (.int .i64 a) := hk1.cell r00 (fun f => f)
    have r11 : w1.cell? ⟨w.heap.size, 1, none⟩ = some (.int .i64 b) := hk1.cell r01 (fun f => f)
    have r12 : w1.cell? ⟨w.heap.size, 2, none⟩ = some (.int .i64 c) := hk1.cell r02 (fun f => f)
    have K1 := Lib.hid (K0.out.trans hk1)
    clear hk1 r00 r01 r02
    go_wp2_with fail
    refine (H2.out _ K1.out).mono ?_
    rintro e w2 ⟨rfl, hk2⟩
    have r20 : w2.cell? ⟨w.heap.size, 0, none⟩ = some (.int .i64 a) := hk2.cell r10 (fun f => f)
    have r21 : w2.cell? ⟨w.heap.size, 1, none⟩ = some (.int .i64 b) := hk2.cell r11 (fun f => f)
    have r22 : w2.cell? ⟨w.heap.size, 2, none⟩ = some (.int .i64 c) := hk2.cell r12 (fun f => f)
    have K2 := Lib.hid (K1.out.trans hk2)
    clear hk2 r10 r11 r12
    go_wp2_with fail
    refine (H3.out _ K2.out).mono ?_
    rintro e w3 ⟨rfl, hk3⟩
    have r30 : w3.cell? ⟨w.heap.size, 0, none⟩ = some (.int .i64 a) := hk3.cell r20 (fun f => f)
    have r31 : w3.cell? ⟨w.heap.size, 1, none⟩ = some (.int .i64 b) := hk3.cell r21 (fun f => f)
    have r32 : w3.cell? ⟨w.heap.size, 2, none⟩ = some (.int .i64 c) := hk3.cell r22 (fun f => f)
    have K3 := Lib.hid (K2.out.trans hk3)
    clear hk3 r20 r21 r22
    go_wp2_with fail
    refine (H4.out _ K3.out).mono ?_
    rintro e w4 ⟨rfl, hk4⟩
    have r40 : w4.cell? ⟨w.heap.size, 0, none⟩ = some (.int .i64 a) := hk4.cell r30 (fun f => f)
    have r41 : w4.cell? ⟨w.heap.size, 1, none⟩ = some (.int .i64 b) := hk4.cell r31 (fun f => f)
    have r42 : w4.cell? ⟨w.heap.size, 2, none⟩ = some (.int .i64 c) := hk4.cell r32 (fun f => f)
    have K4 := Lib.hid (K3.out.trans hk4)
    clear hk4 r30 r31 r32
    go_wp2_with fail
    refine (WK.out _ K4.out).mono ?_
    rintro e w5 ⟨rfl, hk5⟩
    have K5 := Lib.hid (K4.out.trans hk5)
    clear hk5 r40 r41 r42
    go_wp2_with fail
    go_ret
    exact ⟨rfl, K5.out⟩

set_option maxRecDepth 100000 in
set_option maxHeartbeats 2000000 in
theorem each_yes_le (p : Pol) (now : Nat) (ad : Option Addr) (c' : Nat) (l m : List It) (w : World) (hsz : l.length ≤ 60) (hmx : l.length ≤ 9223372036854775807) (hlc : l.length ≤ c') (hml : m.length = l.length) (hi : Items w (.slice ad l.length c') m) (hn : now < 18446744073709551616) (hp : p.ok = true) :
    Calls Try.prog 6 #[.agg p.cells, .int .u64 now, .slice ad l.length c'] w fun e w' => e = .returned (.bool true) ∧ Old w w' := by
  have T := fun (q : Pol) W (h : Old w W) => tail_all q now _ m W (hi.old h) (by omega) hn
  have T1 := T p
  have T2 := T ⟨p.age, 0, 0⟩
  have T3 := T ⟨0, p.bytes, 0⟩
  have T4 := T ⟨0, 0, p.count⟩
  have T5 := T ⟨0, 0, 0⟩
  clear T
  obtain ⟨o1, o2, o3, o4⟩ := each_ok hp
  have hmax := each_max hp now m
  have h0 := each_none now m
  have hml' := Lib.hid hml
  unfold tailR errR at T1 T2 T3 T4 T5
  rw [if_pos hp, if_pos hp] at T1
  rw [if_pos o1, if_pos o1] at T2
  rw [if_pos o2, if_pos o2] at T3
  rw [if_pos o3, if_pos o3] at T4
  rw [if_pos o4, if_pos o4, h0] at T5
  generalize tailN p now m = k at *
  generalize tailN ⟨p.age, 0, 0⟩ now m = ka at *
  generalize tailN ⟨0, p.bytes, 0⟩ now m = kb at *
  generalize tailN ⟨0, 0, p.count⟩ now m = kc at *
  clear hp o1 o2 o3 o4 h0 hml
  obtain ⟨a, b, c⟩ := p
  unfold Pol.cells at T1 T2 T3 T4 T5 ⊢
  simp only at T1 T2 T3 T4 T5 ⊢
  generalize hW0 : w.alloc (.cells #[.int .i64 a, .int .i64 b, .int .i64 c] 23) = W0
  have k0 : Old w W0 := by rw [← hW0]; exact (Keeps.refl _ _).alloc _
  have hb0 : W0.heap[w.heap.size]? = some (.cells #[.int .i64 a, .int .i64 b, .int .i64 c] 23 (0, 0)) := by rw [← hW0]; exact heap_alloc_new _ _
  have r00 : W0.cell? ⟨w.heap.size, 0, none⟩ = some (.int .i64 a) := by simp [World.cell?, hb0]
  have r01 : W0.cell? ⟨w.heap.size, 1, none⟩ = some (.int .i64 b) := by simp [World.cell?, hb0]
  have r02 : W0.cell? ⟨w.heap.size, 2, none⟩ = some (.int .i64 c) := by simp [World.cell?, hb0]
  have H1 := Lib.hid T1
  have H2 := Lib.hid T2
  have H3 := Lib.hid T3
  have H4 := Lib.hid T4
  have H5 := Lib.hid T5
  have K0 := Lib.hid k0
  have WK := Lib.hid (wakes_old w)
  clear T1 T2 T3 T4 T5 hi hb0 k0
  have m1 : ka ≤ k := by omega
  have m2 : kb ≤ k := by omega
  have m3 : kc ≤ k := by omega
  have m4 : k ≤ ka ∨ k ≤ kb ∨ k ≤ kc := by omega
  clear hmax
  go_enter Try.func6, Try.ntmps6
  go_wp2_with fail
  refine (H1.out _ K0.out).mono ?_
  rintro e w1 ⟨rfl, hk1⟩
  have r10 : w1.cell? ⟨w.heap.size, 0, none⟩ = some (.int .i64 a) := hk1.cell r00 (fun f => f)
  have r11 : w1.cell? ⟨w.heap.size, 1, none⟩ = some (.int .i64 b) := hk1.cell r01 (fun f => f)
  have r12 : w1.cell? ⟨w.heap.size, 2, none⟩ = some (.int .i64 c) := hk1.cell r02 (fun f => f)
  have K1 := Lib.hid (K0.out.trans hk1)
  clear hk1 r00 r01 r02
  go_wp2_with fail
  refine (H2.out _ K1.out).mono ?_
  rintro e w2 ⟨rfl, hk2⟩
  have r20 : w2.cell? ⟨w.heap.size, 0, none⟩ = some (.int .i64 a) := hk2.cell r10 (fun f => f)
  have r21 : w2.cell? ⟨w.heap.size, 1, none⟩ = some (.int .i64 b) := hk2.cell r11 (fun f => f)
  have r22 : w2.cell? ⟨w.heap.size, 2, none⟩ = some (.int .i64 c) := hk2.cell r12 (fun f => f)
  have K2 := Lib.hid (K1.out.trans hk2)
  clear hk2 r10 r11 r12
  go_wp2_with fail
  refine (H3.out _ K2.out).mono ?_
  rintro e w3 ⟨rfl, hk3⟩
  have r30 : w3.cell? ⟨w.heap.size, 0, none⟩ = some (.int .i64 a) := hk3.cell r20 (fun f => f)
  have r31 : w3.cell? ⟨w.heap.size, 1, none⟩ = some (.int .i64 b) := hk3.cell r21 (fun f => f)
  have r32 : w3.cell? ⟨w.heap.size, 2, none⟩ = some (.int .i64 c) := hk3.cell r22 (fun f => f)
  have K3 := Lib.hid (K2.out.trans hk3)
  clear hk3 r20 r21 r22
  go_wp2_with fail
  refine (H4.out _ K3.out).mono ?_
  rintro e w4 ⟨rfl, hk4⟩
  have r40 : w4.cell? ⟨w.heap.size, 0, none⟩ = some (.int .i64 a) := hk4.cell r30 (fun f => f)
  have r41 : w4.cell? ⟨w.heap.size, 1, none⟩ = some (.int .i64 b) := hk4.cell r31 (fun f => f)
  have r42 : w4.cell? ⟨w.heap.size, 2, none⟩ = some (.int .i64 c) := hk4.cell r32 (fun f => f)
  have K4 := Lib.hid (K3.out.trans hk4)
  clear hk4 r30 r31 r32
  go_wp2_with fail
  refine (H5.out _ K4.out).mono ?_
  rintro e w5 ⟨rfl, hk5⟩
  have K5 := Lib.hid (K4.out.trans hk5)
  clear hk5 r40 r41 r42
  go_wp2_with fail
  all_goals refine (WK.out _ K5.out).mono ?_
  all_goals rintro e w6 ⟨rfl, hk6⟩
  all_goals have K6 := Lib.hid (K5.out.trans hk6)
  all_goals clear hk6
  all_goals go_wp2_with fail
  all_goals go_ret
  all_goals exact ⟨rfl, K6.out⟩

set_option maxRecDepth 100000 in
set_option maxHeartbeats 1000000 in
theorem each_no_gt (p : Pol) (now : Nat) (ad : Option Addr) (c' : Nat) (l m : List It) (w : World) (hsz : 60 < l.length) (hmx : l.length ≤ 9223372036854775807) (hlc : l.length ≤ c') (hml : m.length = 60) (hi : Items w (.slice ad 60 c') m) (hn : now < 18446744073709551616) (hp : p.ok = false) :
    Calls Try.prog 6 #[.agg p.cells, .int .u64 now, .slice ad l.length c'] w fun e w' => e = .returned (.bool true) ∧ Old w w' := by
  have T := fun (q : Pol) W (h : Old w W) => tail_all q now _ m W (hi.old h) (by omega) hn
  have T1 := T p
  have T2 := T ⟨p.age, 0, 0⟩
  have T3 := T ⟨0, p.bytes, 0⟩
  have T4 := T ⟨0, 0, p.count⟩
  have T5 := T ⟨0, 0, 0⟩
  clear T
  have e1 : errR p = 1 := by unfold errR; rw [hp]; rfl
  have hb := each_bad hp
  rw [e1] at T1
  have hml' := Lib.hid hml
  clear e1 hp hml
  have hb' : (errR ⟨p.age, 0, 0⟩ = 1) ∨ (errR ⟨p.age, 0, 0⟩ = 0 ∧ errR ⟨0, p.bytes, 0⟩ = 1) ∨ (errR ⟨p.age, 0, 0⟩ = 0 ∧ errR ⟨0, p.bytes, 0⟩ = 0 ∧ errR ⟨0, 0, p.count⟩ = 1) := by
    unfold errR
    cases h1 : (Pol.mk p.age 0 0).ok <;> cases h2 : (Pol.mk 0 p.bytes 0).ok <;> cases h3 : (Pol.mk 0 0 p.count).ok <;> simp_all
  clear hb
  rcases hb' with h | ⟨h, h'⟩ | ⟨h, h', h''⟩
  · rw [h] at T2
    clear h
    obtain ⟨a, b, c⟩ := p
    unfold Pol.cells at T1 T2 T3 T4 T5 ⊢
    simp only at T1 T2 T3 T4 T5 ⊢
    generalize hW0 : w.alloc (.cells #[.int .i64 a, .int .i64 b, .int .i64 c] 23) = W0
    have k0 : Old w W0 := by rw [← hW0]; exact (Keeps.refl _ _).alloc _
    have hb0 : W0.heap[w.heap.size]? = some (.cells #[.int .i64 a, .int .i64 b, .int .i64 c] 23 (0, 0)) := by rw [← hW0]; exact heap_alloc_new _ _
    have r00 : W0.cell? ⟨w.heap.size, 0, none⟩ = some (.int .i64 a) := by simp [World.cell?, hb0]
    have r01 : W0.cell? ⟨w.heap.size, 1, none⟩ = some (.int .i64 b) := by simp [World.cell?, hb0]
    have r02 : W0.cell? ⟨w.heap.size, 2, none⟩ = some (.int .i64 c) := by simp [World.cell?, hb0]
    have H1 := Lib.hid T1
    have H2 := Lib.hid T2
    have H3 := Lib.hid T3
    have H4 := Lib.hid T4
    have H5 := Lib.hid T5
    have K0 := Lib.hid k0
    have WK := Lib.hid (wakes_old w)
    clear T1 T2 T3 T4 T5 hi hb0 k0
    go_enter Try.func6, Try.ntmps6
    go_wp2_with fail
    refine (H1.out _ K0.out).mono ?_
    rintro e w1 ⟨rfl, hk1⟩
    have r10 : w1.cell? ⟨w.heap.size, 0, none⟩ = some (.int .i64 a) := hk1.cell r00 (fun f => f)
    have r11 : w1.cell? ⟨w.heap.size, 1, none⟩ = some (.int .i64 b) := hk1.cell r01 (fun f => f)
    have r12 : w1.cell? ⟨w.heap.size, 2, none⟩ = some (.int .i64 c) := hk1.cell r02 (fun f => f)
    have K1 := Lib.hid (K0.out.trans hk1)
    clear hk1 r00 r01 r02
    go_wp2_with fail
    refine (H2.out _ K1.out).mono ?_
    rintro e w2 ⟨rfl, hk2⟩
    have r20 : w2.cell? ⟨w.heap.size, 0, none⟩ = some (.int .i64 a) := hk2.cell r10 (fun f => f)
    have r21 : w2.cell? ⟨w.heap.size, 1, none⟩ = some (.int .i64 b) := hk2.cell r11 (fun f => f)
    have r22 : w2.cell? ⟨w.heap.size, 2, none⟩ = some (.int .i64 c) := hk2.cell r12 (fun f => f)
    have K2 := Lib.hid (K1.out.trans hk2)
    clear hk2 r10 r11 r12
    go_wp2_with fail
    refine (H3.out _ K2.out).mono ?_
    rintro e w3 ⟨rfl, hk3⟩
    have r30 : w3.cell? ⟨w.heap.size, 0, none⟩ = some (.int .i64 a) := hk3.cell r20 (fun f => f)
    have r31 : w3.cell? ⟨w.heap.size, 1, none⟩ = some (.int .i64 b) := hk3.cell r21 (fun f => f)
    have r32 : w3.cell? ⟨w.heap.size, 2, none⟩ = some (.int .i64 c) := hk3.cell r22 (fun f => f)
    have K3 := Lib.hid (K2.out.trans hk3)
    clear hk3 r20 r21 r22
    go_wp2_with fail
    refine (H4.out _ K3.out).mono ?_
    rintro e w4 ⟨rfl, hk4⟩
    have r40 : w4.cell? ⟨w.heap.size, 0, none⟩ = some (.int .i64 a) := hk4.cell r30 (fun f => f)
    have r41 : w4.cell? ⟨w.heap.size, 1, none⟩ = some (.int .i64 b) := hk4.cell r31 (fun f => f)
    have r42 : w4.cell? ⟨w.heap.size, 2, none⟩ = some (.int .i64 c) := hk4.cell r32 (fun f => f)
    have K4 := Lib.hid (K3.out.trans hk4)
    clear hk4 r30 r31 r32
    go_wp2_with fail
    refine (WK.out _ K4.out).mono ?_
    rintro e w5 ⟨rfl, hk5⟩
    have K5 := Lib.hid (K4.out.trans hk5)
    clear hk5 r40 r41 r42
    go_wp2_with fail
    go_ret
    exact ⟨rfl, K5.out⟩
  · rw [h] at T2
    rw [h'] at T3
    clear h h'
    obtain ⟨a, b, c⟩ := p
    unfold Pol.cells at T1 T2 T3 T4 T5 ⊢
    simp only at T1 T2 T3 T4 T5 ⊢
    generalize hW0 : w.alloc (.cells #[.int .i64 a, .int .i64 b, .int .i64 c] 23) = W0
    have k0 : Old w W0 := by rw [← hW0]; exact (Keeps.refl _ _).alloc _
    have hb0 : W0.heap[w.heap.size]? = some (.cells #[.int .i64 a, .int .i64 b, .int .i64 c] 23 (0, 0)) := by rw [← hW0]; exact heap_alloc_new _ _
    have r00 : W0.cell? ⟨w.heap.size, 0, none⟩ = some (.int .i64 a) := by simp [World.cell?, hb0]
    have r01 : W0.cell? ⟨w.heap.size, 1, none⟩ = some (.int .i64 b) := by simp [World.cell?, hb0]
    have r02 : W0.cell? ⟨w.heap.size, 2, none⟩ = some (.int .i64 c) := by simp [World.cell?, hb0]
    have H1 := Lib.hid T1
    have H2 := Lib.hid T2
    have H3 := Lib.hid T3
    have H4 := Lib.hid T4
    have H5 := Lib.hid T5
    have K0 := Lib.hid k0
    have WK := Lib.hid (wakes_old w)
    clear T1 T2 T3 T4 T5 hi hb0 k0
    go_enter Try.func6, Try.ntmps6
    go_wp2_with fail
    refine (H1.out _ K0.out).mono ?_
    rintro e w1 ⟨rfl, hk1⟩
    have r10 : w1.cell? ⟨w.heap.size, 0, none⟩ = some (.int .i64 a) := hk1.cell r00 (fun f => f)
    have r11 : w1.cell? ⟨w.heap.size, 1, none⟩ = some (.int .i64 b) := hk1.cell r01 (fun f => f)
    have r12 : w1.cell? ⟨w.heap.size, 2, none⟩ = some (.int .i64 c) := hk1.cell r02 (fun f => f)
    have K1 := Lib.hid (K0.out.trans hk1)
    clear hk1 r00 r01 r02
    go_wp2_with fail
    refine (H2.out _ K1.out).mono ?_
    rintro e w2 ⟨rfl, hk2⟩
    have r20 : w2.cell? ⟨w.heap.size, 0, none⟩ = some (.int .i64 a) := hk2.cell r10 (fun f => f)
    have r21 : w2.cell? ⟨w.heap.size, 1, none⟩ = some (.int .i64 b) := hk2.cell r11 (fun f => f)
    have r22 : w2.cell? ⟨w.heap.size, 2, none⟩ = some (.int .i64 c) := hk2.cell r12 (fun f => f)
    have K2 := Lib.hid (K1.out.trans hk2)
    clear hk2 r10 r11 r12
    go_wp2_with fail
    refine (H3.out _ K2.out).mono ?_
    rintro e w3 ⟨rfl, hk3⟩
    have r30 : w3.cell? ⟨w.heap.size, 0, none⟩ = some (.int .i64 a) := hk3.cell r20 (fun f => f)
    have r31 : w3.cell? ⟨w.heap.size, 1, none⟩ = some (.int .i64 b) := hk3.cell r21 (fun f => f)
    have r32 : w3.cell? ⟨w.heap.size, 2, none⟩ = some (.int .i64 c) := hk3.cell r22 (fun f => f)
    have K3 := Lib.hid (K2.out.trans hk3)
    clear hk3 r20 r21 r22
    go_wp2_with fail
    refine (H4.out _ K3.out).mono ?_
    rintro e w4 ⟨rfl, hk4⟩
    have r40 : w4.cell? ⟨w.heap.size, 0, none⟩ = some (.int .i64 a) := hk4.cell r30 (fun f => f)
    have r41 : w4.cell? ⟨w.heap.size, 1, none⟩ = some (.int .i64 b) := hk4.cell r31 (fun f => f)
    have r42 : w4.cell? ⟨w.heap.size, 2, none⟩ = some (.int .i64 c) := hk4.cell r32 (fun f => f)
    have K4 := Lib.hid (K3.out.trans hk4)
    clear hk4 r30 r31 r32
    go_wp2_with fail
    refine (WK.out _ K4.out).mono ?_
    rintro e w5 ⟨rfl, hk5⟩
    have K5 := Lib.hid (K4.out.trans hk5)
    clear hk5 r40 r41 r42
    go_wp2_with fail
    go_ret
    exact ⟨rfl, K5.out⟩
  · rw [h] at T2
    rw [h'] at T3
    rw [h''] at T4
    clear h h' h''
    obtain ⟨a, b, c⟩ := p
    unfold Pol.cells at T1 T2 T3 T4 T5 ⊢
    simp only at T1 T2 T3 T4 T5 ⊢
    generalize hW0 : w.alloc (.cells #[.int .i64 a, .int .i64 b, .int .i64 c] 23) = W0
    have k0 : Old w W0 := by rw [← hW0]; exact (Keeps.refl _ _).alloc _
    have hb0 : W0.heap[w.heap.size]? = some (.cells #[.int .i64 a, .int .i64 b, .int .i64 c] 23 (0, 0)) := by rw [← hW0]; exact heap_alloc_new _ _
    have r00 : W0.cell? ⟨w.heap.size, 0, none⟩ = some (.int .i64 a) := by simp [World.cell?, hb0]
    have r01 : W0.cell? ⟨w.heap.size, 1, none⟩ = some (.int .i64 b) := by simp [World.cell?, hb0]
    have r02 : W0.cell? ⟨w.heap.size, 2, none⟩ = some (.int .i64 c) := by simp [World.cell?, hb0]
    have H1 := Lib.hid T1
    have H2 := Lib.hid T2
    have H3 := Lib.hid T3
    have H4 := Lib.hid T4
    have H5 := Lib.hid T5
    have K0 := Lib.hid k0
    have WK := Lib.hid (wakes_old w)
    clear T1 T2 T3 T4 T5 hi hb0 k0
    go_enter Try.func6, Try.ntmps6
    go_wp2_with fail
    refine (H1.out _ K0.out).mono ?_
    rintro e w1 ⟨rfl, hk1⟩
    have r10 : w1.cell? ⟨w.heap.size, 0, none⟩ = some (.int .i64 a) := hk1.cell r00 (fun f => f)
    have r11 : w1.cell? ⟨w.heap.size, 1, none⟩ = some (.int .i64 b) := hk1.cell r01 (fun f => f)
    have r12 : w1.cell? ⟨w.heap.size, 2, none⟩ = some (.int .i64 c) := hk1.cell r02 (fun f => f)
    have K1 := Lib.hid (K0.out.trans hk1)
    clear hk1 r00 r01 r02
    go_wp2_with fail
    refine (H2.out _ K1.out).mono ?_
    rintro e w2 ⟨rfl, hk2⟩
    have r20 : w2.cell? ⟨w.heap.size, 0, none⟩ = some (.int .i64 a) := hk2.cell r10 (fun f => f)
    have r21 : w2.cell? ⟨w.heap.size, 1, none⟩ = some (.int .i64 b) := hk2.cell r11 (fun f => f)
    have r22 : w2.cell? ⟨w.heap.size, 2, none⟩ = some (.int .i64 c) := hk2.cell r12 (fun f => f)
    have K2 := Lib.hid (K1.out.trans hk2)
    clear hk2 r10 r11 r12
    go_wp2_with fail
    refine (H3.out _ K2.out).mono ?_
    rintro e w3 ⟨rfl, hk3⟩
    have r30 : w3.cell? ⟨w.heap.size, 0, none⟩ = some (.int .i64 a) := hk3.cell r20 (fun f => f)
    have r31 : w3.cell? ⟨w.heap.size, 1, none⟩ = some (.int .i64 b) := hk3.cell r21 (fun f => f)
    have r32 : w3.cell? ⟨w.heap.size, 2, none⟩ = some (.int .i64 c) := hk3.cell r22 (fun f => f)
    have K3 := Lib.hid (K2.out.trans hk3)
    clear hk3 r20 r21 r22
    go_wp2_with fail
    refine (H4.out _ K3.out).mono ?_
    rintro e w4 ⟨rfl, hk4⟩
    have r40 : w4.cell? ⟨w.heap.size, 0, none⟩ = some (.int .i64 a) := hk4.cell r30 (fun f => f)
    have r41 : w4.cell? ⟨w.heap.size, 1, none⟩ = some (.int .i64 b) := hk4.cell r31 (fun f => f)
    have r42 : w4.cell? ⟨w.heap.size, 2, none⟩ = some (.int .i64 c) := hk4.cell r32 (fun f => f)
    have K4 := Lib.hid (K3.out.trans hk4)
    clear hk4 r30 r31 r32
    go_wp2_with fail
    refine (WK.out _ K4.out).mono ?_
    rintro e w5 ⟨rfl, hk5⟩
    have K5 := Lib.hid (K4.out.trans hk5)
    clear hk5 r40 r41 r42
    go_wp2_with fail
    go_ret
    exact ⟨rfl, K5.out⟩

set_option maxRecDepth 100000 in
set_option maxHeartbeats 2000000 in
theorem each_yes_gt (p : Pol) (now : Nat) (ad : Option Addr) (c' : Nat) (l m : List It) (w : World) (hsz : 60 < l.length) (hmx : l.length ≤ 9223372036854775807) (hlc : l.length ≤ c') (hml : m.length = 60) (hi : Items w (.slice ad 60 c') m) (hn : now < 18446744073709551616) (hp : p.ok = true) :
    Calls Try.prog 6 #[.agg p.cells, .int .u64 now, .slice ad l.length c'] w fun e w' => e = .returned (.bool true) ∧ Old w w' := by
  have T := fun (q : Pol) W (h : Old w W) => tail_all q now _ m W (hi.old h) (by omega) hn
  have T1 := T p
  have T2 := T ⟨p.age, 0, 0⟩
  have T3 := T ⟨0, p.bytes, 0⟩
  have T4 := T ⟨0, 0, p.count⟩
  have T5 := T ⟨0, 0, 0⟩
  clear T
  obtain ⟨o1, o2, o3, o4⟩ := each_ok hp
  have hmax := each_max hp now m
  have h0 := each_none now m
  have hml' := Lib.hid hml
  unfold tailR errR at T1 T2 T3 T4 T5
  rw [if_pos hp, if_pos hp] at T1
  rw [if_pos o1, if_pos o1] at T2
  rw [if_pos o2, if_pos o2] at T3
  rw [if_pos o3, if_pos o3] at T4
  rw [if_pos o4, if_pos o4, h0] at T5
  generalize tailN p now m = k at *
  generalize tailN ⟨p.age, 0, 0⟩ now m = ka at *
  generalize tailN ⟨0, p.bytes, 0⟩ now m = kb at *
  generalize tailN ⟨0, 0, p.count⟩ now m = kc at *
  clear hp o1 o2 o3 o4 h0 hml
  obtain ⟨a, b, c⟩ := p
  unfold Pol.cells at T1 T2 T3 T4 T5 ⊢
  simp only at T1 T2 T3 T4 T5 ⊢
  generalize hW0 : w.alloc (.cells #[.int .i64 a, .int .i64 b, .int .i64 c] 23) = W0
  have k0 : Old w W0 := by rw [← hW0]; exact (Keeps.refl _ _).alloc _
  have hb0 : W0.heap[w.heap.size]? = some (.cells #[.int .i64 a, .int .i64 b, .int .i64 c] 23 (0, 0)) := by rw [← hW0]; exact heap_alloc_new _ _
  have r00 : W0.cell? ⟨w.heap.size, 0, none⟩ = some (.int .i64 a) := by simp [World.cell?, hb0]
  have r01 : W0.cell? ⟨w.heap.size, 1, none⟩ = some (.int .i64 b) := by simp [World.cell?, hb0]
  have r02 : W0.cell? ⟨w.heap.size, 2, none⟩ = some (.int .i64 c) := by simp [World.cell?, hb0]
  have H1 := Lib.hid T1
  have H2 := Lib.hid T2
  have H3 := Lib.hid T3
  have H4 := Lib.hid T4
  have H5 := Lib.hid T5
  have K0 := Lib.hid k0
  have WK := Lib.hid (wakes_old w)
  clear T1 T2 T3 T4 T5 hi hb0 k0
  have m1 : ka ≤ k := by omega
  have m2 : kb ≤ k := by omega
  have m3 : kc ≤ k := by omega
  have m4 : k ≤ ka ∨ k ≤ kb ∨ k ≤ kc := by omega
  clear hmax
  go_enter Try.func6, Try.ntmps6
  go_wp2_with fail
  refine (H1.out _ K0.out).mono ?_
  rintro e w1 ⟨rfl, hk1⟩
  have r10 : w1.cell? ⟨w.heap.size, 0, none⟩ = some (.int .i64 a) := hk1.cell r00 (fun f => f)
  have r11 : w1.cell? ⟨w.heap.size, 1, none⟩ = some (.int .i64 b) := hk1.cell r01 (fun f => f)
  have r12 : w1.cell? ⟨w.heap.size, 2, none⟩ = some (.int .i64 c) := hk1.cell r02 (fun f => f)
  have K1 := Lib.hid (K0.out.trans hk1)
  clear hk1 r00 r01 r02
  go_wp2_with fail
  refine (H2.out _ K1.out).mono ?_
  rintro e w2 ⟨rfl, hk2⟩
  have r20 : w2.cell? ⟨w.heap.size, 0, none⟩ = some (.int .i64 a) := hk2.cell r10 (fun f => f)
  have r21 : w2.cell? ⟨w.heap.size, 1, none⟩ = some (.int .i64 b) := hk2.cell r11 (fun f => f)
  have r22 : w2.cell? ⟨w.heap.size, 2, none⟩ = some (.int .i64 c) := hk2.cell r12 (fun f => f)
  have K2 := Lib.hid (K1.out.trans hk2)
  clear hk2 r10 r11 r12
  go_wp2_with fail
  refine (H3.out _ K2.out).mono ?_
  rintro e w3 ⟨rfl, hk3⟩
  have r30 : w3.cell? ⟨w.heap.size, 0, none⟩ = some (.int .i64 a) := hk3.cell r20 (fun f => f)
  have r31 : w3.cell? ⟨w.heap.size, 1, none⟩ = some (.int .i64 b) := hk3.cell r21 (fun f => f)
  have r32 : w3.cell? ⟨w.heap.size, 2, none⟩ = some (.int .i64 c) := hk3.cell r22 (fun f => f)
  have K3 := Lib.hid (K2.out.trans hk3)
  clear hk3 r20 r21 r22
  go_wp2_with fail
  refine (H4.out _ K3.out).mono ?_
  rintro e w4 ⟨rfl, hk4⟩
  have r40 : w4.cell? ⟨w.heap.size, 0, none⟩ = some (.int .i64 a) := hk4.cell r30 (fun f => f)
  have r41 : w4.cell? ⟨w.heap.size, 1, none⟩ = some (.int .i64 b) := hk4.cell r31 (fun f => f)
  have r42 : w4.cell? ⟨w.heap.size, 2, none⟩ = some (.int .i64 c) := hk4.cell r32 (fun f => f)
  have K4 := Lib.hid (K3.out.trans hk4)
  clear hk4 r30 r31 r32
  go_wp2_with fail
  refine (H5.out _ K4.out).mono ?_
  rintro e w5 ⟨rfl, hk5⟩
  have K5 := Lib.hid (K4.out.trans hk5)
  clear hk5 r40 r41 r42
  go_wp2_with fail
  all_goals refine (WK.out _ K5.out).mono ?_
  all_goals rintro e w6 ⟨rfl, hk6⟩
  all_goals have K6 := Lib.hid (K5.out.trans hk6)
  all_goals clear hk6
  all_goals go_wp2_with fail
  all_goals go_ret
  all_goals exact ⟨rfl, K6.out⟩
end Go.Proofs.Ytpehpidlcdfhcaa
