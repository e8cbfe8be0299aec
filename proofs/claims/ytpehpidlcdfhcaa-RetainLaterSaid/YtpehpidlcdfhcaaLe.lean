/- DERIVED. RetainLeast, walked. -/
import Derived.Test.YtpehpidlcdfhcaaPl
import Derived.Test.YtpehpidlcdfhcaaWk
namespace Go.Proofs.Ytpehpidlcdfhcaa
open Go.RowKit

/-- x[:hi] of items -/
theorem upto_items {w : World} {p : Option Addr} {n c : Nat} {l : List It} (h : SeesR w 4 It.cells (.slice p n c) l) (hi : Nat) (h1 : hi ≤ l.length) :
    ∃ p' c', (∀ W (k : IntKind), (Instr.slice 25 (.slice p n c) none (some (.int k (hi : Int))) none).run Try.prog W = .ok (.slice p' hi c') W) ∧ SeesR w 4 It.cells (.slice p' hi c') (l.take hi) ∧
      ∀ b, (Value.slice p' hi c').ownBlock = some b → (Value.slice p n c).ownBlock = some b := by
  obtain ⟨p0, c0, he, hc, _⟩ := h.len
  simp only [Value.slice.injEq] at he
  obtain ⟨rfl, rfl, rfl⟩ := he
  have hs := h.sliced 0 hi (Nat.zero_le _) h1
  rw [List.drop_zero] at hs
  refine ⟨_, _, fun W k => ?_, hs.1, hs.2⟩
  have hhi : (hi : Int) ≤ (c : Int) := by omega
  simp [go_sem, hhi]
/-- x[lo:] of items -/
theorem from_items {w : World} {p : Option Addr} {n c : Nat} {l : List It} (h : SeesR w 4 It.cells (.slice p n c) l) (lo : Nat) (h1 : lo ≤ l.length) :
    ∃ p' c', (∀ W (k : IntKind), (Instr.slice 25 (.slice p n c) (some (.int k (lo : Int))) none none).run Try.prog W = .ok (.slice p' (l.length - lo) c') W) ∧ SeesR w 4 It.cells (.slice p' (l.length - lo) c') (l.drop lo) ∧
      ∀ b, (Value.slice p' (l.length - lo) c').ownBlock = some b → (Value.slice p n c).ownBlock = some b := by
  obtain ⟨p0, c0, he, hc, _⟩ := h.len
  simp only [Value.slice.injEq] at he
  obtain ⟨rfl, rfl, rfl⟩ := he
  have hs := h.sliced lo l.length h1 (Nat.le_refl _)
  rw [List.take_of_length_le (Nat.le_refl _)] at hs
  refine ⟨_, _, fun W k => ?_, hs.1, hs.2⟩
  have hlo : (lo : Int) ≤ (l.length : Int) := by omega
  simp [go_sem, hlo]

/-- the first sixty -/
theorem sixty {w : World} {ad : Option Addr} {c : Nat} {l : List It} (h : Items w (.slice ad l.length c) l) (hl : 60 < l.length) : ∃ m : List It, m.length = 60 ∧ Items w (.slice ad 60 c) m := by
  refine ⟨l.take 60, by simp; omega, ?_, fun x hx => h.2 x (List.mem_of_mem_take hx)⟩
  have hs := h.1.sliced 0 60 (Nat.zero_le _) (by omega)
  rw [List.drop_zero] at hs
  obtain ⟨p', c', he, h1, h2, h3, h4⟩ := h.1
  simp only [Value.slice.injEq, true_and] at he
  obtain ⟨rfl, rfl⟩ := he
  have hg : Go.sliced ad 0 60 c 4 = .slice ad 60 c := by
    unfold Go.sliced
    cases ad with
    | none => have := h3 rfl; omega
    | some a => simp [Addr.add]
  rw [hg] at hs
  exact hs.1
theorem fits_all {w : World} {lv : Value} {l : List It} (h : Items w lv l) : ∀ x ∈ l, Fits x.es := fun x hx => (h.2 x hx).2.2.1

set_option maxRecDepth 100000 in
set_option maxHeartbeats 1000000 in
theorem least_no_le (p : Pol) (now : Nat) (ad : Option Addr) (c' : Nat) (l m : List It) (w : World) (hsz : l.length ≤ 60) (hmx : l.length ≤ 9223372036854775807) (hlc : l.length ≤ c') (hml : m.length = l.length) (hi : Items w (.slice ad l.length c') m) (hn : now < 18446744073709551616) (hp : p.ok = false) :
    Calls Try.prog 4 #[.agg p.cells, .int .u64 now, .slice ad l.length c'] w fun e w' => e = .returned (.bool true) ∧ Old w w' := by
  have T := fun W (h : Old w W) => tail_no_any p now _ m W (hi.old h) hp
  have L := fun W (h : Old w W) => low_no_any p now _ m W (hi.old h) hp
  have M := fun W => pol_any p W
  rw [hp] at M
  obtain ⟨a, b, c⟩ := p
  unfold Pol.cells at T L M ⊢
  simp only at T L M ⊢
  generalize hW0 : w.alloc (.cells #[.int .i64 a, .int .i64 b, .int .i64 c] 23) = W0
  have k0 : Old w W0 := by rw [← hW0]; exact (Keeps.refl _ _).alloc _
  have hb0 : W0.heap[w.heap.size]? = some (.cells #[.int .i64 a, .int .i64 b, .int .i64 c] 23 (0, 0)) := by rw [← hW0]; exact heap_alloc_new _ _
  have q0 : W0.cell? ⟨w.heap.size, 0, none⟩ = some (.int .i64 a) := by simp [World.cell?, hb0]
  have q1 : W0.cell? ⟨w.heap.size, 1, none⟩ = some (.int .i64 b) := by simp [World.cell?, hb0]
  have q2 : W0.cell? ⟨w.heap.size, 2, none⟩ = some (.int .i64 c) := by simp [World.cell?, hb0]
  have HT := Lib.hid (T W0 k0)
  have HL := Lib.hid L
  have HM := Lib.hid M
  have H := Lib.hid k0
  clear T L M hi hb0 hml k0
  go_enter Try.func4, Try.ntmps4
  go_wp2_with fail
  refine HT.out.mono ?_
  rintro e w1 ⟨rfl, hk1⟩
  have r0 : w1.cell? ⟨w.heap.size, 0, none⟩ = some (.int .i64 a) := hk1.cell q0 (fun f => f)
  have r1 : w1.cell? ⟨w.heap.size, 1, none⟩ = some (.int .i64 b) := hk1.cell q1 (fun f => f)
  have r2 : w1.cell? ⟨w.heap.size, 2, none⟩ = some (.int .i64 c) := hk1.cell q2 (fun f => f)
  have K1 := Lib.hid (H.out.trans hk1)
  clear hk1 q0 q1 q2
  go_wp2_with fail
  refine (HL.out _ K1.out).mono ?_
  rintro e w2 ⟨rfl, hk2⟩
  have s0 : w2.cell? ⟨w.heap.size, 0, none⟩ = some (.int .i64 a) := hk2.cell r0 (fun f => f)
  have s1 : w2.cell? ⟨w.heap.size, 1, none⟩ = some (.int .i64 b) := hk2.cell r1 (fun f => f)
  have s2 : w2.cell? ⟨w.heap.size, 2, none⟩ = some (.int .i64 c) := hk2.cell r2 (fun f => f)
  have K2 := Lib.hid (K1.out.trans hk2)
  clear hk2 r0 r1 r2
  go_wp2_with fail
  refine (HM.out _).mono ?_
  rintro e w3 ⟨rfl, hk3⟩
  have K3 := Lib.hid (K2.out.trans hk3)
  clear hk3 s0 s1 s2
  go_wp2_with fail
  refine (wakes_any _).mono ?_
  rintro e w4 ⟨rfl, hk4⟩
  have K4 := Lib.hid (K3.out.trans hk4)
  clear hk4
  go_wp2_with fail
  go_ret
  exact ⟨rfl, K4.out⟩

set_option maxRecDepth 100000 in
set_option maxHeartbeats 1000000 in
theorem least_yes_le (p : Pol) (now : Nat) (ad : Option Addr) (c' : Nat) (l m : List It) (w : World) (hsz : l.length ≤ 60) (hmx : l.length ≤ 9223372036854775807) (hlc : l.length ≤ c') (hml : m.length = l.length) (hi : Items w (.slice ad l.length c') m) (hn : now < 18446744073709551616) (hp : p.ok = true) :
    Calls Try.prog 4 #[.agg p.cells, .int .u64 now, .slice ad l.length c'] w fun e w' => e = .returned (.bool true) ∧ Old w w' := by
  have T := fun W (h : Old w W) => tail_any p now _ m W (hi.old h) (by omega) hn hp
  have L := fun W (h : Old w W) => low_any p now _ m W (hi.old h) (by omega) hn hp
  have M := fun W => pol_any p W
  rw [hp] at M
  have A := fun (lo : Nat) (hlo : lo ≤ l.length) (v : Value) W (h : Old w W) (hs : SeesR w 4 It.cells v (m.drop lo)) => allowed_any p now v (m.drop lo) W (⟨hs.old h, fun x hx => (hi.2 x (List.mem_of_mem_drop hx)).old h⟩) (by simp; omega) hn hp
  have T2 := fun (v : Value) W (h : Old w W) (hs : SeesR w 4 It.cells v (m.drop (tailN p now m))) => tail_any p now v (m.drop (tailN p now m)) W (⟨hs.old h, fun x hx => (hi.2 x (List.mem_of_mem_drop hx)).old h⟩) (by simp; omega) hn hp
  simp only [tail_again hp] at T2
  have AD := Lib.hid (fun i (h : i ≤ l.length) => allowed_drop hp now m i (by omega))
  have htl : tailN p now m ≤ l.length := by have := tailN_le p now m; omega
  obtain ⟨a, b, c⟩ := p
  unfold Pol.cells at T L M A T2 ⊢
  simp only at T L M A T2 ⊢
  generalize hW0 : w.alloc (.cells #[.int .i64 a, .int .i64 b, .int .i64 c] 23) = W0
  have k0 : Old w W0 := by rw [← hW0]; exact (Keeps.refl _ _).alloc _
  have hb0 : W0.heap[w.heap.size]? = some (.cells #[.int .i64 a, .int .i64 b, .int .i64 c] 23 (0, 0)) := by rw [← hW0]; exact heap_alloc_new _ _
  have q0 : W0.cell? ⟨w.heap.size, 0, none⟩ = some (.int .i64 a) := by simp [World.cell?, hb0]
  have q1 : W0.cell? ⟨w.heap.size, 1, none⟩ = some (.int .i64 b) := by simp [World.cell?, hb0]
  have q2 : W0.cell? ⟨w.heap.size, 2, none⟩ = some (.int .i64 c) := by simp [World.cell?, hb0]
  have HT := Lib.hid (T W0 k0)
  have HL := Lib.hid L
  have HM := Lib.hid M
  have HA := Lib.hid A
  have HT2 := Lib.hid T2
  have H := Lib.hid k0
  have HI := Lib.hid (And.intro hi hml)
  clear T L M A T2 hi hb0 hml k0
  go_enter Try.func4, Try.ntmps4
  go_wp2_with fail
  refine HT.out.mono ?_
  rintro e w1 ⟨rfl, hk1⟩
  have r0 : w1.cell? ⟨w.heap.size, 0, none⟩ = some (.int .i64 a) := hk1.cell q0 (fun f => f)
  have r1 : w1.cell? ⟨w.heap.size, 1, none⟩ = some (.int .i64 b) := hk1.cell q1 (fun f => f)
  have r2 : w1.cell? ⟨w.heap.size, 2, none⟩ = some (.int .i64 c) := hk1.cell q2 (fun f => f)
  have K1 := Lib.hid (H.out.trans hk1)
  clear hk1 q0 q1 q2
  go_wp2_with fail
  refine (HL.out _ K1.out).mono ?_
  rintro e w2 ⟨rfl, hk2⟩
  have s0 : w2.cell? ⟨w.heap.size, 0, none⟩ = some (.int .i64 a) := hk2.cell r0 (fun f => f)
  have s1 : w2.cell? ⟨w.heap.size, 1, none⟩ = some (.int .i64 b) := hk2.cell r1 (fun f => f)
  have s2 : w2.cell? ⟨w.heap.size, 2, none⟩ = some (.int .i64 c) := hk2.cell r2 (fun f => f)
  have K2 := Lib.hid (K1.out.trans hk2)
  clear hk2 r0 r1 r2
  go_wp2_with fail
  refine (HM.out _).mono ?_
  rintro e w3 ⟨rfl, hk3⟩
  have t0 : w3.cell? ⟨w.heap.size, 0, none⟩ = some (.int .i64 a) := hk3.cell s0 (fun f => f)
  have t1 : w3.cell? ⟨w.heap.size, 1, none⟩ = some (.int .i64 b) := hk3.cell s1 (fun f => f)
  have t2 : w3.cell? ⟨w.heap.size, 2, none⟩ = some (.int .i64 c) := hk3.cell s2 (fun f => f)
  have K3 := Lib.hid (K2.out.trans hk3)
  clear hk3 s0 s1 s2
  obtain ⟨t, ht⟩ : ∃ t, tailN ⟨a, b, c⟩ now m = t := ⟨_, rfl⟩
  rw [ht] at htl ⊢
  obtain ⟨lw, hlw⟩ : ∃ t, lowN ⟨a, b, c⟩ now m = t := ⟨_, rfl⟩
  rw [hlw]
  have HE := Lib.hid (And.intro ht hlw)
  clear ht hlw
  go_wp2_with fail
  go_loopw [11] (fun v11 wr => ∃ k : Nat, k ≤ l.length + 1 ∧ v11 = .int .i64 k ∧ Old w3 wr) (fun v11 _ => l.length + 1 - (intOf v11).toNat)
  case atStart => exact ⟨0, by omega, rfl, Keeps.refl _ _⟩
  case round =>
    obtain ⟨k, hk, rfl, hkw⟩ := hrel
    have u0 : wr.cell? ⟨w.heap.size, 0, none⟩ = some (.int .i64 a) := hkw.cell t0 (fun f => f)
    have u1 : wr.cell? ⟨w.heap.size, 1, none⟩ = some (.int .i64 b) := hkw.cell t1 (fun f => f)
    have u2 : wr.cell? ⟨w.heap.size, 2, none⟩ = some (.int .i64 c) := hkw.cell t2 (fun f => f)
    by_cases hlt : k ≤ l.length
    · obtain ⟨p', c2, hsl, hsees, _⟩ := from_items HI.out.1.1 k (by have := HI.out.2; omega)
      rw [HI.out.2] at hsl hsees
      have n0 := OldOf.cell u0
      have n1 := OldOf.cell u1
      have n2 := OldOf.cell u2
      have AA := fun W (h : Old w W) => HA.out k hlt _ W h hsees
      rw [AD.out k hlt, HE.out.1] at AA
      have i1 : (0 : Int) ≤ (k : Int) := by omega
      have i2 : (k : Int) ≤ (l.length : Int) := by omega
      have K := Lib.hid (K3.out.trans hkw)
      have HAA := Lib.hid (fun (pq : OldOf wr) => AA pq.to (K.out.trans pq.old))
      have KW := Lib.hid hkw
      clear hkw u0 u1 u2 hsees AA
      by_cases htk : t ≤ k
      · have d1 : decide (t ≤ k) = true := by simp [htk]
        rw [d1] at HAA
        have d2 : decide ((k : Int) ≥ (t : Int)) = true := by simp [htk]
        go_wp2_with fail
        refine wp_region_quiet_old (by kernel_rfl) (by kernel_rfl) ?_
        repeat (go_big_quiet_step (((go_at_call 18; exact Calls.quiet_of_old (HAA.out _)))))
        refine wpQuiet_nil ?_
        intro _ hpq
        obtain ⟨pq, hpq'⟩ := hpq
        subst hpq'
        go_wp2_with fail
        go_roundw
        case rel => exact ⟨k + 1, by omega, by go_num, KW.out.trans pq.old⟩
        case measure => simp [intOf]; omega
      · have d1 : decide (t ≤ k) = false := by simp; omega
        rw [d1] at HAA
        have d2 : decide ((k : Int) ≥ (t : Int)) = false := by simp; omega
        go_wp2_with fail
        refine wp_region_quiet_old (by kernel_rfl) (by kernel_rfl) ?_
        repeat (go_big_quiet_step (((go_at_call 18; exact Calls.quiet_of_old (HAA.out _)))))
        refine wpQuiet_nil ?_
        intro _ hpq
        obtain ⟨pq, hpq'⟩ := hpq
        subst hpq'
        go_wp2_with fail
        go_roundw
        case rel => exact ⟨k + 1, by omega, by go_num, KW.out.trans pq.old⟩
        case measure => simp [intOf]; omega
    · have hk' : k = l.length + 1 := by omega
      have K := Lib.hid (K3.out.trans hkw)
      obtain ⟨p', c2, hsl, hsees, _⟩ := from_items HI.out.1.1 t (by have := HI.out.2; omega)
      rw [HI.out.2] at hsl hsees
      have n0 := OldOf.cell u0
      have n1 := OldOf.cell u1
      have n2 := OldOf.cell u2
      have AA := fun W (h : Old w W) => HT2.out _ W h (by rw [HE.out.1]; exact hsees)
      have HAA := Lib.hid (fun (pq : OldOf wr) => AA pq.to (K.out.trans pq.old))
      have i1 : (0 : Int) ≤ (t : Int) := by omega
      have i2 : (t : Int) ≤ (l.length : Int) := by omega
      clear hkw u0 u1 u2 hsees AA t0 t1 t2
      go_wp2_with fail
      refine wp_region_quiet_old (by kernel_rfl) (by kernel_rfl) ?_
      repeat (go_big_quiet_step (((go_at_call 8; exact Calls.quiet_of_old (HAA.out _)))))
      refine wpQuiet_nil ?_
      intro _ hpq
      obtain ⟨pq, hpq'⟩ := hpq
      subst hpq'
      have K5 := Lib.hid (K.out.trans pq.old)
      have hlow : lw = lowN ⟨a, b, c⟩ now m := HE.out.2.symm
      unfold lowN at hlow
      rw [HE.out.1, HI.out.2] at hlow
      clear hsl n0 n1 n2
      generalize hWE : pq.to = WE at *
      by_cases hcase : t < l.length
      · obtain ⟨bb, o, c3, he, _, _, hc⟩ := HI.out.1.1.at (by have := HI.out.2; omega)
        simp only [Value.slice.injEq, true_and] at he
        obtain ⟨rfl, hq, rfl⟩ := he
        clear hq
        obtain ⟨x, hx⟩ : ∃ x, m[t]? = some x := ⟨_, List.getElem?_eq_getElem (by have := HI.out.2; omega)⟩
        rw [if_pos hcase, hx] at hlow
        simp only at hlow
        have hce := K5.out.cell (hc t _ hx 0 _ rfl) (fun f => f)
        simp only [Nat.add_zero] at hce
        rw [← hlow] at hce
        have HH := Lib.hid (And.intro hlow hx)
        have d1 : ((l.length : Int) == 0) = false := beq_eq_false_iff_ne.2 (by omega)
        have d2 : ((t : Int) == (l.length : Int)) = false := beq_eq_false_iff_ne.2 (by omega)
        have d3 : decide ((t : Int) < (l.length : Int)) = true := by simp; omega
        clear hc hlow hx
        go_wp2_with fail
        refine (wakes_any _).mono ?_
        rintro e w7 ⟨rfl, hk7⟩
        have K7 := Lib.hid (K5.out.trans hk7)
        clear hk7
        go_wp2_with fail
        go_ret
        exact ⟨rfl, K7.out⟩
      · have htn : t = l.length := by omega
        by_cases h0 : l.length = 0
        · have hlz : lw = 0 := by
            have hm0 : m = [] := List.eq_nil_of_length_eq_zero (by have := HI.out.2; omega)
            rw [if_neg hcase, hm0] at hlow
            simpa using hlow
          have ht0 : t = 0 := by omega
          have HH := Lib.hid (And.intro hlow (And.intro h0 htn))
          subst hlz
          have d1 : ((l.length : Int) == 0) = true := beq_iff_eq.2 (by omega)
          have d2 : ((t : Int) == (l.length : Int)) = true := beq_iff_eq.2 (by omega)
          have d3 : decide ((t : Int) < (l.length : Int)) = false := by simp; omega
          have d4 : decide ((t : Int) > 0) = false := by simp; omega
          have d5 : decide (0 < t) = false := by simp; omega
          have HT0 := Lib.hid ht0
          clear hlow h0 htn ht0
          go_wp2_with fail
          refine (wakes_any _).mono ?_
          rintro e w7 ⟨rfl, hk7⟩
          have K7 := Lib.hid (K5.out.trans hk7)
          clear hk7
          go_wp2_with fail
          go_ret
          exact ⟨rfl, K7.out⟩
        · obtain ⟨bb, o, c3, he, _, _, hc⟩ := HI.out.1.1.at (by have := HI.out.2; omega)
          simp only [Value.slice.injEq, true_and] at he
          obtain ⟨rfl, hq, rfl⟩ := he
          clear hq
          obtain ⟨j, rfl⟩ : ∃ j, t = j + 1 := ⟨t - 1, by omega⟩
          obtain ⟨x, hx⟩ : ∃ x, m[j]? = some x := ⟨_, List.getElem?_eq_getElem (by have := HI.out.2; omega)⟩
          rw [if_neg hcase, show l.length - 1 = j from by omega, hx] at hlow
          simp only at hlow
          have hxn := (HI.out.1.2 _ (List.mem_of_getElem? hx)).2.2.2.1
          have hce := K5.out.cell (hc j _ hx 0 _ rfl) (fun f => f)
          simp only [Nat.add_zero] at hce
          have hwr : IntKind.u64.wrap ((x.n : Int) + 1) = (lw : Int) := by rw [IntKind.wrap_u64, hlow]; omega
          have HH := Lib.hid (And.intro hlow (And.intro hx htn))
          have d1 : ((l.length : Int) == 0) = false := beq_eq_false_iff_ne.2 (by omega)
          have d2 : ((j : Int) + 1 == (l.length : Int)) = true := beq_iff_eq.2 (by omega)
          have d3 : decide ((j : Int) + 1 < (l.length : Int)) = false := by simp; omega
          have d4 : decide ((j : Int) + 1 > 0) = true := by simp <;> omega
          have jb1 : (0 : Int) ≤ (j : Int) := by omega
          have jb2 : (j : Int) < (l.length : Int) := by omega
          clear hc hlow hx htn h0
          go_wp2_with fail
          refine (wakes_any _).mono ?_
          rintro e w7 ⟨rfl, hk7⟩
          have K7 := Lib.hid (K5.out.trans hk7)
          clear hk7
          go_wp2_with fail
          go_ret
          exact ⟨rfl, K7.out⟩

set_option maxRecDepth 100000 in
set_option maxHeartbeats 1000000 in
theorem least_no_gt (p : Pol) (now : Nat) (ad : Option Addr) (c' : Nat) (l m : List It) (w : World) (hsz : 60 < l.length) (hmx : l.length ≤ 9223372036854775807) (hlc : l.length ≤ c') (hml : m.length = 60) (hi : Items w (.slice ad 60 c') m) (hn : now < 18446744073709551616) (hp : p.ok = false) :
    Calls Try.prog 4 #[.agg p.cells, .int .u64 now, .slice ad l.length c'] w fun e w' => e = .returned (.bool true) ∧ Old w w' := by
  have T := fun W (h : Old w W) => tail_no_any p now _ m W (hi.old h) hp
  have L := fun W (h : Old w W) => low_no_any p now _ m W (hi.old h) hp
  have M := fun W => pol_any p W
  rw [hp] at M
  obtain ⟨a, b, c⟩ := p
  unfold Pol.cells at T L M ⊢
  simp only at T L M ⊢
  generalize hW0 : w.alloc (.cells #[.int .i64 a, .int .i64 b, .int .i64 c] 23) = W0
  have k0 : Old w W0 := by rw [← hW0]; exact (Keeps.refl _ _).alloc _
  have hb0 : W0.heap[w.heap.size]? = some (.cells #[.int .i64 a, .int .i64 b, .int .i64 c] 23 (0, 0)) := by rw [← hW0]; exact heap_alloc_new _ _
  have q0 : W0.cell? ⟨w.heap.size, 0, none⟩ = some (.int .i64 a) := by simp [World.cell?, hb0]
  have q1 : W0.cell? ⟨w.heap.size, 1, none⟩ = some (.int .i64 b) := by simp [World.cell?, hb0]
  have q2 : W0.cell? ⟨w.heap.size, 2, none⟩ = some (.int .i64 c) := by simp [World.cell?, hb0]
  have HT := Lib.hid (T W0 k0)
  have HL := Lib.hid L
  have HM := Lib.hid M
  have H := Lib.hid k0
  clear T L M hi hb0 hml k0
  go_enter Try.func4, Try.ntmps4
  go_wp2_with fail
  refine HT.out.mono ?_
  rintro e w1 ⟨rfl, hk1⟩
  have r0 : w1.cell? ⟨w.heap.size, 0, none⟩ = some (.int .i64 a) := hk1.cell q0 (fun f => f)
  have r1 : w1.cell? ⟨w.heap.size, 1, none⟩ = some (.int .i64 b) := hk1.cell q1 (fun f => f)
  have r2 : w1.cell? ⟨w.heap.size, 2, none⟩ = some (.int .i64 c) := hk1.cell q2 (fun f => f)
  have K1 := Lib.hid (H.out.trans hk1)
  clear hk1 q0 q1 q2
  go_wp2_with fail
  refine (HL.out _ K1.out).mono ?_
  rintro e w2 ⟨rfl, hk2⟩
  have s0 : w2.cell? ⟨w.heap.size, 0, none⟩ = some (.int .i64 a) := hk2.cell r0 (fun f => f)
  have s1 : w2.cell? ⟨w.heap.size, 1, none⟩ = some (.int .i64 b) := hk2.cell r1 (fun f => f)
  have s2 : w2.cell? ⟨w.heap.size, 2, none⟩ = some (.int .i64 c) := hk2.cell r2 (fun f => f)
  have K2 := Lib.hid (K1.out.trans hk2)
  clear hk2 r0 r1 r2
  go_wp2_with fail
  refine (HM.out _).mono ?_
  rintro e w3 ⟨rfl, hk3⟩
  have K3 := Lib.hid (K2.out.trans hk3)
  clear hk3 s0 s1 s2
  go_wp2_with fail
  refine (wakes_any _).mono ?_
  rintro e w4 ⟨rfl, hk4⟩
  have K4 := Lib.hid (K3.out.trans hk4)
  clear hk4
  go_wp2_with fail
  go_ret
  exact ⟨rfl, K4.out⟩

set_option maxRecDepth 100000 in
set_option maxHeartbeats 1000000 in
theorem least_yes_gt (p : Pol) (now : Nat) (ad : Option Addr) (c' : Nat) (l m : List It) (w : World) (hsz : 60 < l.length) (hmx : l.length ≤ 9223372036854775807) (hlc : l.length ≤ c') (hml : m.length = 60) (hi : Items w (.slice ad 60 c') m) (hn : now < 18446744073709551616) (hp : p.ok = true) :
    Calls Try.prog 4 #[.agg p.cells, .int .u64 now, .slice ad l.length c'] w fun e w' => e = .returned (.bool true) ∧ Old w w' := by
  have T := fun W (h : Old w W) => tail_any p now _ m W (hi.old h) (by omega) hn hp
  have L := fun W (h : Old w W) => low_any p now _ m W (hi.old h) (by omega) hn hp
  have M := fun W => pol_any p W
  rw [hp] at M
  have A := fun (lo : Nat) (hlo : lo ≤ 60) (v : Value) W (h : Old w W) (hs : SeesR w 4 It.cells v (m.drop lo)) => allowed_any p now v (m.drop lo) W (⟨hs.old h, fun x hx => (hi.2 x (List.mem_of_mem_drop hx)).old h⟩) (by simp; omega) hn hp
  have T2 := fun (v : Value) W (h : Old w W) (hs : SeesR w 4 It.cells v (m.drop (tailN p now m))) => tail_any p now v (m.drop (tailN p now m)) W (⟨hs.old h, fun x hx => (hi.2 x (List.mem_of_mem_drop hx)).old h⟩) (by simp; omega) hn hp
  simp only [tail_again hp] at T2
  have AD := Lib.hid (fun i (h : i ≤ 60) => allowed_drop hp now m i (by omega))
  have htl : tailN p now m ≤ 60 := by have := tailN_le p now m; omega
  obtain ⟨a, b, c⟩ := p
  unfold Pol.cells at T L M A T2 ⊢
  simp only at T L M A T2 ⊢
  generalize hW0 : w.alloc (.cells #[.int .i64 a, .int .i64 b, .int .i64 c] 23) = W0
  have k0 : Old w W0 := by rw [← hW0]; exact (Keeps.refl _ _).alloc _
  have hb0 : W0.heap[w.heap.size]? = some (.cells #[.int .i64 a, .int .i64 b, .int .i64 c] 23 (0, 0)) := by rw [← hW0]; exact heap_alloc_new _ _
  have q0 : W0.cell? ⟨w.heap.size, 0, none⟩ = some (.int .i64 a) := by simp [World.cell?, hb0]
  have q1 : W0.cell? ⟨w.heap.size, 1, none⟩ = some (.int .i64 b) := by simp [World.cell?, hb0]
  have q2 : W0.cell? ⟨w.heap.size, 2, none⟩ = some (.int .i64 c) := by simp [World.cell?, hb0]
  have HT := Lib.hid (T W0 k0)
  have HL := Lib.hid L
  have HM := Lib.hid M
  have HA := Lib.hid A
  have HT2 := Lib.hid T2
  have H := Lib.hid k0
  have HI := Lib.hid (And.intro hi hml)
  clear T L M A T2 hi hb0 hml k0
  go_enter Try.func4, Try.ntmps4
  go_wp2_with fail
  refine HT.out.mono ?_
  rintro e w1 ⟨rfl, hk1⟩
  have r0 : w1.cell? ⟨w.heap.size, 0, none⟩ = some (.int .i64 a) := hk1.cell q0 (fun f => f)
  have r1 : w1.cell? ⟨w.heap.size, 1, none⟩ = some (.int .i64 b) := hk1.cell q1 (fun f => f)
  have r2 : w1.cell? ⟨w.heap.size, 2, none⟩ = some (.int .i64 c) := hk1.cell q2 (fun f => f)
  have K1 := Lib.hid (H.out.trans hk1)
  clear hk1 q0 q1 q2
  go_wp2_with fail
  refine (HL.out _ K1.out).mono ?_
  rintro e w2 ⟨rfl, hk2⟩
  have s0 : w2.cell? ⟨w.heap.size, 0, none⟩ = some (.int .i64 a) := hk2.cell r0 (fun f => f)
  have s1 : w2.cell? ⟨w.heap.size, 1, none⟩ = some (.int .i64 b) := hk2.cell r1 (fun f => f)
  have s2 : w2.cell? ⟨w.heap.size, 2, none⟩ = some (.int .i64 c) := hk2.cell r2 (fun f => f)
  have K2 := Lib.hid (K1.out.trans hk2)
  clear hk2 r0 r1 r2
  go_wp2_with fail
  refine (HM.out _).mono ?_
  rintro e w3 ⟨rfl, hk3⟩
  have t0 : w3.cell? ⟨w.heap.size, 0, none⟩ = some (.int .i64 a) := hk3.cell s0 (fun f => f)
  have t1 : w3.cell? ⟨w.heap.size, 1, none⟩ = some (.int .i64 b) := hk3.cell s1 (fun f => f)
  have t2 : w3.cell? ⟨w.heap.size, 2, none⟩ = some (.int .i64 c) := hk3.cell s2 (fun f => f)
  have K3 := Lib.hid (K2.out.trans hk3)
  clear hk3 s0 s1 s2
  obtain ⟨t, ht⟩ : ∃ t, tailN ⟨a, b, c⟩ now m = t := ⟨_, rfl⟩
  rw [ht] at htl ⊢
  obtain ⟨lw, hlw⟩ : ∃ t, lowN ⟨a, b, c⟩ now m = t := ⟨_, rfl⟩
  rw [hlw]
  have HE := Lib.hid (And.intro ht hlw)
  clear ht hlw
  go_wp2_with fail
  go_loopw [11] (fun v11 wr => ∃ k : Nat, k ≤ 60 + 1 ∧ v11 = .int .i64 k ∧ Old w3 wr) (fun v11 _ => 60 + 1 - (intOf v11).toNat)
  case atStart => exact ⟨0, by omega, rfl, Keeps.refl _ _⟩
  case round =>
    obtain ⟨k, hk, rfl, hkw⟩ := hrel
    have u0 : wr.cell? ⟨w.heap.size, 0, none⟩ = some (.int .i64 a) := hkw.cell t0 (fun f => f)
    have u1 : wr.cell? ⟨w.heap.size, 1, none⟩ = some (.int .i64 b) := hkw.cell t1 (fun f => f)
    have u2 : wr.cell? ⟨w.heap.size, 2, none⟩ = some (.int .i64 c) := hkw.cell t2 (fun f => f)
    by_cases hlt : k ≤ 60
    · obtain ⟨p', c2, hsl, hsees, _⟩ := from_items HI.out.1.1 k (by have := HI.out.2; omega)
      rw [HI.out.2] at hsl hsees
      have n0 := OldOf.cell u0
      have n1 := OldOf.cell u1
      have n2 := OldOf.cell u2
      have AA := fun W (h : Old w W) => HA.out k hlt _ W h hsees
      rw [AD.out k hlt, HE.out.1] at AA
      have i1 : (0 : Int) ≤ (k : Int) := by omega
      have i2 : (k : Int) ≤ (60 : Int) := by omega
      have K := Lib.hid (K3.out.trans hkw)
      have HAA := Lib.hid (fun (pq : OldOf wr) => AA pq.to (K.out.trans pq.old))
      have KW := Lib.hid hkw
      clear hkw u0 u1 u2 hsees AA
      by_cases htk : t ≤ k
      · have d1 : decide (t ≤ k) = true := by simp [htk]
        rw [d1] at HAA
        have d2 : decide ((k : Int) ≥ (t : Int)) = true := by simp [htk]
        go_wp2_with fail
        refine wp_region_quiet_old (by kernel_rfl) (by kernel_rfl) ?_
        repeat (go_big_quiet_step (((go_at_call 18; exact Calls.quiet_of_old (HAA.out _)))))
        refine wpQuiet_nil ?_
        intro _ hpq
        obtain ⟨pq, hpq'⟩ := hpq
        subst hpq'
        go_wp2_with fail
        go_roundw
        case rel => exact ⟨k + 1, by omega, by go_num, KW.out.trans pq.old⟩
        case measure => simp [intOf]; omega
      · have d1 : decide (t ≤ k) = false := by simp; omega
        rw [d1] at HAA
        have d2 : decide ((k : Int) ≥ (t : Int)) = false := by simp; omega
        go_wp2_with fail
        refine wp_region_quiet_old (by kernel_rfl) (by kernel_rfl) ?_
        repeat (go_big_quiet_step (((go_at_call 18; exact Calls.quiet_of_old (HAA.out _)))))
        refine wpQuiet_nil ?_
        intro _ hpq
        obtain ⟨pq, hpq'⟩ := hpq
        subst hpq'
        go_wp2_with fail
        go_roundw
        case rel => exact ⟨k + 1, by omega, by go_num, KW.out.trans pq.old⟩
        case measure => simp [intOf]; omega
    · have hk' : k = 60 + 1 := by omega
      have K := Lib.hid (K3.out.trans hkw)
      obtain ⟨p', c2, hsl, hsees, _⟩ := from_items HI.out.1.1 t (by have := HI.out.2; omega)
      rw [HI.out.2] at hsl hsees
      have n0 := OldOf.cell u0
      have n1 := OldOf.cell u1
      have n2 := OldOf.cell u2
      have AA := fun W (h : Old w W) => HT2.out _ W h (by rw [HE.out.1]; exact hsees)
      have HAA := Lib.hid (fun (pq : OldOf wr) => AA pq.to (K.out.trans pq.old))
      have i1 : (0 : Int) ≤ (t : Int) := by omega
      have i2 : (t : Int) ≤ (60 : Int) := by omega
      clear hkw u0 u1 u2 hsees AA t0 t1 t2
      go_wp2_with fail
      refine wp_region_quiet_old (by kernel_rfl) (by kernel_rfl) ?_
      repeat (go_big_quiet_step (((go_at_call 8; exact Calls.quiet_of_old (HAA.out _)))))
      refine wpQuiet_nil ?_
      intro _ hpq
      obtain ⟨pq, hpq'⟩ := hpq
      subst hpq'
      have K5 := Lib.hid (K.out.trans pq.old)
      have hlow : lw = lowN ⟨a, b, c⟩ now m := HE.out.2.symm
      unfold lowN at hlow
      rw [HE.out.1, HI.out.2] at hlow
      clear hsl n0 n1 n2
      generalize hWE : pq.to = WE at *
      by_cases hcase : t < 60
      · obtain ⟨bb, o, c3, he, _, _, hc⟩ := HI.out.1.1.at (by have := HI.out.2; omega)
        simp only [Value.slice.injEq, true_and] at he
        obtain ⟨rfl, hq, rfl⟩ := he
        clear hq
        obtain ⟨x, hx⟩ : ∃ x, m[t]? = some x := ⟨_, List.getElem?_eq_getElem (by have := HI.out.2; omega)⟩
        rw [if_pos hcase, hx] at hlow
        simp only at hlow
        have hce := K5.out.cell (hc t _ hx 0 _ rfl) (fun f => f)
        simp only [Nat.add_zero] at hce
        rw [← hlow] at hce
        have HH := Lib.hid (And.intro hlow hx)
        have d1 : ((60 : Int) == 0) = false := beq_eq_false_iff_ne.2 (by omega)
        have d2 : ((t : Int) == (60 : Int)) = false := beq_eq_false_iff_ne.2 (by omega)
        have d3 : decide ((t : Int) < (60 : Int)) = true := by simp; omega
        clear hc hlow hx
        go_wp2_with fail
        refine (wakes_any _).mono ?_
        rintro e w7 ⟨rfl, hk7⟩
        have K7 := Lib.hid (K5.out.trans hk7)
        clear hk7
        go_wp2_with fail
        go_ret
        exact ⟨rfl, K7.out⟩
      · have htn : t = 60 := by omega
        by_cases h0 : 60 = 0
        · have hlz : lw = 0 := by
            have hm0 : m = [] := List.eq_nil_of_length_eq_zero (by have := HI.out.2; omega)
            rw [if_neg hcase, hm0] at hlow
            simpa using hlow
          have ht0 : t = 0 := by omega
          have HH := Lib.hid (And.intro hlow (And.intro h0 htn))
          subst hlz
          have d1 : ((60 : Int) == 0) = true := beq_iff_eq.2 (by omega)
          have d2 : ((t : Int) == (60 : Int)) = true := beq_iff_eq.2 (by omega)
          have d3 : decide ((t : Int) < (60 : Int)) = false := by simp; omega
          have d4 : decide ((t : Int) > 0) = false := by simp; omega
          have d5 : decide (0 < t) = false := by simp; omega
          have HT0 := Lib.hid ht0
          clear hlow h0 htn ht0
          go_wp2_with fail
          refine (wakes_any _).mono ?_
          rintro e w7 ⟨rfl, hk7⟩
          have K7 := Lib.hid (K5.out.trans hk7)
          clear hk7
          go_wp2_with fail
          go_ret
          exact ⟨rfl, K7.out⟩
        · obtain ⟨bb, o, c3, he, _, _, hc⟩ := HI.out.1.1.at (by have := HI.out.2; omega)
          simp only [Value.slice.injEq, true_and] at he
          obtain ⟨rfl, hq, rfl⟩ := he
          clear hq
          obtain ⟨j, rfl⟩ : ∃ j, t = j + 1 := ⟨t - 1, by omega⟩
          obtain ⟨x, hx⟩ : ∃ x, m[j]? = some x := ⟨_, List.getElem?_eq_getElem (by have := HI.out.2; omega)⟩
          rw [if_neg hcase, show 60 - 1 = j from by omega, hx] at hlow
          simp only at hlow
          have hxn := (HI.out.1.2 _ (List.mem_of_getElem? hx)).2.2.2.1
          have hce := K5.out.cell (hc j _ hx 0 _ rfl) (fun f => f)
          simp only [Nat.add_zero] at hce
          have hwr : IntKind.u64.wrap ((x.n : Int) + 1) = (lw : Int) := by rw [IntKind.wrap_u64, hlow]; omega
          have HH := Lib.hid (And.intro hlow (And.intro hx htn))
          have d1 : ((60 : Int) == 0) = false := beq_eq_false_iff_ne.2 (by omega)
          have d2 : ((j : Int) + 1 == (60 : Int)) = true := beq_iff_eq.2 (by omega)
          have d3 : decide ((j : Int) + 1 < (60 : Int)) = false := by simp; omega
          have d4 : decide ((j : Int) + 1 > 0) = true := by simp <;> omega
          have jb1 : (0 : Int) ≤ (j : Int) := by omega
          have jb2 : (j : Int) < (60 : Int) := by omega
          clear hc hlow hx htn h0
          go_wp2_with fail
          refine (wakes_any _).mono ?_
          rintro e w7 ⟨rfl, hk7⟩
          have K7 := Lib.hid (K5.out.trans hk7)
          clear hk7
          go_wp2_with fail
          go_ret
          exact ⟨rfl, K7.out⟩
end Go.Proofs.Ytpehpidlcdfhcaa
