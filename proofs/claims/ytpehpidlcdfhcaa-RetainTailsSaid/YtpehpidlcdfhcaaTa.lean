/- DERIVED. RetainTails, walked. -/
import Derived.Test.YtpehpidlcdfhcaaEa
import Derived.Test.YtpehpidlcdfhcaaSi
import Derived.Test.YtpehpidlcdfhcaaRl
import Derived.Test.YtpehpidlcdfhcaaWk
namespace Go.Proofs.Ytpehpidlcdfhcaa
open Go.RowKit

def lowR (p : Pol) (now : Nat) (l : List It) : Nat := if p.ok then lowN p now l else 0
theorem low_all (p : Pol) (now : Nat) (lv : Value) (l : List It) (w : World) (hi : Items w lv l) (hl : l.length ≤ 1000) (hn : now < 18446744073709551616) :
    Calls Try.prog 10 #[.agg p.cells, .int .u64 now, lv] w fun e w' => e = .returned (.tuple #[.int .u64 (lowR p now l : Nat), .int .i64 (errR p)]) ∧ Old w w' := by
  unfold lowR errR
  cases hp : p.ok
  · exact low_no_any p now lv l w hi hp
  · exact low_any p now lv l w hi hl hn hp
theorem ref_low_all (p : Pol) (now : Nat) (lv : Value) (l : List It) (w : World) (hi : Items w lv l) (hl : l.length ≤ 1000) (hn : now < 18446744073709551616) :
    Calls Try.prog 11 #[.agg p.cells, .int .u64 now, lv] w fun e w' => e = .returned (.tuple #[.int .u64 (lowR p now l : Nat), .int .i64 (errR p)]) ∧ Old w w' := by
  unfold lowR errR
  cases hp : p.ok
  · exact ref_low_no p now lv l w hi hp
  · exact ref_low_yes p now lv l w hi hl hn hp
theorem ref_tail_all (p : Pol) (now : Nat) (lv : Value) (l : List It) (w : World) (hi : Items w lv l) (hl : l.length ≤ 1000) (hn : now < 18446744073709551616) :
    Calls Try.prog 9 #[.agg p.cells, .int .u64 now, lv] w fun e w' => e = .returned (.tuple #[.int .i64 (tailR p now l : Nat), .int .i64 (errR p)]) ∧ Old w w' := by
  unfold tailR errR
  cases hp : p.ok
  · exact ref_tail_no p now lv l w hi hp
  · exact ref_tail_yes p now lv l w hi hl hn hp
theorem eqAt_self (a : At) : eqAt a a = true := by unfold eqAt; rw [bytes_self, bytes_self]; simp
theorem sameE_self (k : ByteArray) (l : List At) : sameE k l k l = true := by
  unfold sameE
  rw [sameL_true rfl (fun i hi => by unfold sameAt; rw [List.getElem?_eq_getElem hi]; exact eqAt_self _)]
  simp
theorem sameI_self (x : It) : sameI x x = true := by unfold sameI; rw [sameE_self]; simp
theorem ones_of {w : World} {v : Value} {l : List It} (h : Items w v l) : ∀ x ∈ l, ∀ c ∈ x.cells, c.oneCell' = true := by
  intro x hx u hu
  obtain ⟨p, c, he, _⟩ := (h.2 x hx).1.len
  unfold It.cells at hu
  rw [he] at hu
  simp at hu
  rcases hu with rfl | rfl | rfl | rfl <;> rfl
/-- the first hundred -/
theorem hundred {w : World} {ad : Option Addr} {c : Nat} {l : List It} (h : Items w (.slice ad l.length c) l) (hl : 100 < l.length) : ∃ m : List It, m.length = 100 ∧ Items w (.slice ad 100 c) m := by
  refine ⟨l.take 100, by simp; omega, ?_, fun x hx => h.2 x (List.mem_of_mem_take hx)⟩
  have hs := h.1.sliced 0 100 (Nat.zero_le _) (by omega)
  rw [List.drop_zero] at hs
  obtain ⟨p', c', he, h1, h2, h3, h4⟩ := h.1
  simp only [Value.slice.injEq, true_and] at he
  obtain ⟨rfl, rfl⟩ := he
  have hg : Go.sliced ad 0 100 c 4 = .slice ad 100 c := by
    unfold Go.sliced
    cases ad with
    | none => have := h3 rfl; omega
    | some a => simp [Addr.add]
  rw [hg] at hs
  exact hs.1

set_option maxRecDepth 100000 in
set_option maxHeartbeats 2000000 in
theorem tails_le (p : Pol) (now : Nat) (ad : Option Addr) (c' : Nat) (l m : List It) (w : World) (hsz : l.length ≤ 100) (hmx : l.length ≤ 9223372036854775807) (hlc : l.length ≤ c') (hml : m.length = l.length) (hi : Items w (.slice ad l.length c') m) (hn : now < 18446744073709551616) :
    Calls Try.prog 3 #[.agg p.cells, .int .u64 now, .slice ad l.length c'] w fun e w' => e = .returned (.bool true) ∧ Old w w' := by
  have T2 := fun W (h : Old w W) => ref_tail_all p now _ m W (hi.old h) (by omega) hn
  have L2 := fun W (h : Old w W) => ref_low_all p now _ m W (hi.old h) (by omega) hn
  have T1 := fun v W (h : Items W v m) => tail_all p now v m W h (by omega) hn
  have L1 := fun v W (h : Items W v m) => low_all p now v m W h (by omega) hn
  have M1 := fun W => pol_any p W
  have M2 := fun W => ref_pol_any p W
  obtain ⟨t, ht⟩ : ∃ t, tailR p now m = t := ⟨_, rfl⟩
  obtain ⟨lw, hlw⟩ : ∃ t, lowR p now m = t := ⟨_, rfl⟩
  obtain ⟨er, her⟩ : ∃ t, errR p = t := ⟨_, rfl⟩
  obtain ⟨ok, hok⟩ : ∃ t, p.ok = t := ⟨_, rfl⟩
  rw [ht, her] at T1 T2
  rw [hlw, her] at L1 L2
  rw [hok] at M1 M2
  clear ht hlw her hok
  obtain ⟨a, b, c⟩ := p
  unfold Pol.cells at T1 T2 L1 L2 M1 M2 ⊢
  simp only at T1 T2 L1 L2 M1 M2 ⊢
  obtain ⟨W0, hW0⟩ : ∃ W0, w.alloc (.cells #[.int .i64 a, .int .i64 b, .int .i64 c] 23) = W0 := ⟨_, rfl⟩
  have k0 : Old w W0 := by rw [← hW0]; exact (Keeps.refl _ _).alloc _
  have hb0 : W0.heap[w.heap.size]? = some (.cells #[.int .i64 a, .int .i64 b, .int .i64 c] 23 (0, 0)) := by rw [← hW0]; exact heap_alloc_new _ _
  have q0 : W0.cell? ⟨w.heap.size, 0, none⟩ = some (.int .i64 a) := by simp [World.cell?, hb0]
  have q1 : W0.cell? ⟨w.heap.size, 1, none⟩ = some (.int .i64 b) := by simp [World.cell?, hb0]
  have q2 : W0.cell? ⟨w.heap.size, 2, none⟩ = some (.int .i64 c) := by simp [World.cell?, hb0]
  have HT1 := Lib.hid T1
  have HL1 := Lib.hid L1
  have HT2 := Lib.hid T2
  have HL2 := Lib.hid L2
  have HM1 := Lib.hid M1
  have HM2 := Lib.hid M2
  have KK := Lib.hid k0
  have HI := Lib.hid (And.intro hi hml)
  have SO := Lib.hid (hi.old k0)
  have HON := Lib.hid (ones_of hi)
  have hmb : m.length ≤ 100 := by omega
  clear T1 L1 T2 L2 M1 M2 hi hb0 hml k0
  go_enter Try.func3, Try.ntmps3
  go_wp2_with (at_builtin; refine wpList_append_rows (P := Try.prog) rfl _ _ 25 rfl W0.heap.size 40 4 56 It.cells _ Try.underlying25 Try.infoItem rfl (by decide) (.slice none 0 0) [] rfl (OwnsR.nil _ _) _ m rfl SO.out.1 (fun _ _ => rfl) HON.out (by unfold maxLen; simp; omega) (by simp; omega) (Nat.le_refl _) ?_; intro v1 w1 ho1 hg1 _; have hk1 : Old W0 w1 := (Keeps.refl (fun _ => False) W0).grown hg1 (fun k hk => (by simp [Value.ownBlock] at hk)); have r10 := hk1.cell q0 (fun f => f); have r11 := hk1.cell q1 (fun f => f); have r12 := hk1.cell q2 (fun f => f))
  rw [List.nil_append] at ho1
  have I1 := Lib.hid (show Items w1 v1 m from ⟨ho1.sees (fun _ => rfl) (by decide), fun x hx => (SO.out.2 x hx).old hk1⟩)
  obtain ⟨p1, c1, he1, _, _⟩ := I1.out.1.len
  rw [HI.out.2] at he1
  subst he1
  have K1 := Lib.hid (KK.out.trans hk1)
  have J1 := Lib.hid (Keeps.refl (fun _ => False) w1)
  clear hk1 ho1 hg1 q0 q1 q2
  have Q1 := Lib.hid (fun W (h : Old w1 W) => HT1.out _ W (I1.out.old h))
  have Q2 := Lib.hid (fun W (h : Old w1 W) => HL1.out _ W (I1.out.old h))
  go_wp2_with fail
  refine (Q1.out _ J1.out).mono ?_
  rintro e w2 ⟨rfl, hk2⟩
  have r20 : w2.cell? ⟨w.heap.size, 0, none⟩ = some (.int .i64 a) := hk2.cell r10 (fun f => f)
  have r21 : w2.cell? ⟨w.heap.size, 1, none⟩ = some (.int .i64 b) := hk2.cell r11 (fun f => f)
  have r22 : w2.cell? ⟨w.heap.size, 2, none⟩ = some (.int .i64 c) := hk2.cell r12 (fun f => f)
  have K2 := Lib.hid (K1.out.trans hk2)
  have J2 := Lib.hid (J1.out.trans hk2)
  clear hk2 r10 r11 r12
  go_wp2_with fail
  refine (HT2.out _ K2.out).mono ?_
  rintro e w3 ⟨rfl, hk3⟩
  have r30 : w3.cell? ⟨w.heap.size, 0, none⟩ = some (.int .i64 a) := hk3.cell r20 (fun f => f)
  have r31 : w3.cell? ⟨w.heap.size, 1, none⟩ = some (.int .i64 b) := hk3.cell r21 (fun f => f)
  have r32 : w3.cell? ⟨w.heap.size, 2, none⟩ = some (.int .i64 c) := hk3.cell r22 (fun f => f)
  have K3 := Lib.hid (K2.out.trans hk3)
  have J3 := Lib.hid (J2.out.trans hk3)
  clear hk3 r20 r21 r22
  go_wp2_with fail
  refine (Q2.out _ J3.out).mono ?_
  rintro e w4 ⟨rfl, hk4⟩
  have r40 : w4.cell? ⟨w.heap.size, 0, none⟩ = some (.int .i64 a) := hk4.cell r30 (fun f => f)
  have r41 : w4.cell? ⟨w.heap.size, 1, none⟩ = some (.int .i64 b) := hk4.cell r31 (fun f => f)
  have r42 : w4.cell? ⟨w.heap.size, 2, none⟩ = some (.int .i64 c) := hk4.cell r32 (fun f => f)
  have K4 := Lib.hid (K3.out.trans hk4)
  have J4 := Lib.hid (J3.out.trans hk4)
  clear hk4 r30 r31 r32
  go_wp2_with fail
  refine (HL2.out _ K4.out).mono ?_
  rintro e w5 ⟨rfl, hk5⟩
  have r50 : w5.cell? ⟨w.heap.size, 0, none⟩ = some (.int .i64 a) := hk5.cell r40 (fun f => f)
  have r51 : w5.cell? ⟨w.heap.size, 1, none⟩ = some (.int .i64 b) := hk5.cell r41 (fun f => f)
  have r52 : w5.cell? ⟨w.heap.size, 2, none⟩ = some (.int .i64 c) := hk5.cell r42 (fun f => f)
  have K5 := Lib.hid (K4.out.trans hk5)
  have J5 := Lib.hid (J4.out.trans hk5)
  clear hk5 r40 r41 r42
  go_wp2_with fail
  go_loopw [16] (fun v16 wr => ∃ i : Nat, i ≤ l.length ∧ v16 = .int .i64 i ∧ Old w5 wr) (fun v16 _ => l.length - (intOf v16).toNat)
  case atStart => exact ⟨0, by omega, rfl, Keeps.refl _ _⟩
  case round =>
    obtain ⟨i, hi, rfl, hkw⟩ := hrel
    by_cases hlt : i < l.length
    · obtain ⟨bb, o, cc, he, _, _, hc⟩ := HI.out.1.1.at (by have := HI.out.2; omega)
      obtain ⟨bb', o', cc', he', _, _, hc'⟩ := I1.out.1.at (by have := HI.out.2; omega)
      simp only [Value.slice.injEq, true_and] at he he'
      obtain ⟨rfl, hq, rfl⟩ := he
      obtain ⟨rfl, hq', rfl⟩ := he'
      clear hq hq'
      obtain ⟨x, hx⟩ : ∃ x, m[i]? = some x := ⟨_, List.getElem?_eq_getElem (by have := HI.out.2; omega)⟩
      have cx := fun j u (hu : x.cells[j]? = some u) => OldOf.cell ((K5.out.trans hkw).cell (hc i x hx j u hu) (fun f => f))
      have cy := fun j u (hu : x.cells[j]? = some u) => OldOf.cell ((J5.out.trans hkw).cell (hc' i x hx j u hu) (fun f => f))
      have x0 := cx 0 _ rfl
      have x1 := cx 1 _ rfl
      have x2 := cx 2 _ rfl
      have x3 := cx 3 _ rfl
      have y0 := cy 0 _ rfl
      have y1 := cy 1 _ rfl
      have y2 := cy 2 _ rfl
      have y3 := cy 3 _ rfl
      simp only [Nat.add_zero] at x0 y0
      have hf := HI.out.1.2 x (List.mem_of_getElem? hx)
      have KW := Lib.hid (K5.out.trans hkw)
      have KJ := Lib.hid hkw
      have SS := fun (pq : OldOf wr) => same_item_any x x pq.to (hf.old (KW.out.trans pq.old)) (hf.old (KW.out.trans pq.old))
      have ZZ := fun (pq : OldOf wr) => it_size_any x pq.to (hf.old (KW.out.trans pq.old))
      have RZ := fun (pq : OldOf wr) => ref_it_size_any x pq.to (hf.old (KW.out.trans pq.old))
      rw [sameI_self] at SS
      have hsz' := it_size_le hf.2.2.1
      generalize x.size = sz at ZZ RZ hsz'
      obtain ⟨xn, xt, xk, xa, xe⟩ := x
      unfold It.cells at SS ZZ RZ
      simp only at SS ZZ RZ x0 x1 x2 x3 y0 y1 y2 y3
      have HS := Lib.hid SS
      have HZ := Lib.hid ZZ
      have HR := Lib.hid RZ
      have i1 : (0 : Int) ≤ (i : Int) := by omega
      have i2 : (i : Int) < (l.length : Int) := by omega
      clear hx cx cy hc hc' hf hkw SS ZZ RZ
      go_wp2_with fail
      refine wp_region_quiet_old (by kernel_rfl) (by kernel_rfl) ?_
      repeat (go_big_quiet_step ((first | (go_at_call 12; exact Calls.quiet_of_old (HS.out _)) | (go_at_call 13; exact Calls.quiet_of_old (HZ.out _)) | (go_at_call 14; exact Calls.quiet_of_old (HR.out _)))))
      refine wpQuiet_nil ?_
      intro _ hpq
      obtain ⟨pq, hpq'⟩ := hpq
      subst hpq'
      go_wp2_with fail
      go_roundw
      case rel => exact ⟨i + 1, by omega, by go_num, KJ.out.trans pq.old⟩
      case measure => simp [intOf]; omega
    · have n0 := OldOf.cell (hkw.cell r50 (fun f => f))
      have n1 := OldOf.cell (hkw.cell r51 (fun f => f))
      have n2 := OldOf.cell (hkw.cell r52 (fun f => f))
      have KW := Lib.hid (K5.out.trans hkw)
      have WW := Lib.hid (fun W => wakes_any W)
      clear hkw r50 r51 r52
      go_wp2_with fail
      refine wp_region_quiet_old (by kernel_rfl) (by kernel_rfl) ?_
      repeat (go_big_quiet_step ((first | (go_at_call 15; exact Calls.quiet_of_old (HM1.out _)) | (go_at_call 16; exact Calls.quiet_of_old (HM2.out _)) | (go_at_call 17; exact Calls.quiet_of_old (WW.out _)))))
      refine wpQuiet_nil ?_
      intro _ hpq
      obtain ⟨pq, hpq'⟩ := hpq
      subst hpq'
      go_wp2_with fail
      go_ret
      exact ⟨ret_bool (by simp), KW.out.trans pq.old⟩

set_option maxRecDepth 100000 in
set_option maxHeartbeats 2000000 in
theorem tails_gt (p : Pol) (now : Nat) (ad : Option Addr) (c' : Nat) (l m : List It) (w : World) (hsz : 100 < l.length) (hmx : l.length ≤ 9223372036854775807) (hlc : l.length ≤ c') (hml : m.length = 100) (hi : Items w (.slice ad 100 c') m) (hn : now < 18446744073709551616) :
    Calls Try.prog 3 #[.agg p.cells, .int .u64 now, .slice ad l.length c'] w fun e w' => e = .returned (.bool true) ∧ Old w w' := by
  have T2 := fun W (h : Old w W) => ref_tail_all p now _ m W (hi.old h) (by omega) hn
  have L2 := fun W (h : Old w W) => ref_low_all p now _ m W (hi.old h) (by omega) hn
  have T1 := fun v W (h : Items W v m) => tail_all p now v m W h (by omega) hn
  have L1 := fun v W (h : Items W v m) => low_all p now v m W h (by omega) hn
  have M1 := fun W => pol_any p W
  have M2 := fun W => ref_pol_any p W
  obtain ⟨t, ht⟩ : ∃ t, tailR p now m = t := ⟨_, rfl⟩
  obtain ⟨lw, hlw⟩ : ∃ t, lowR p now m = t := ⟨_, rfl⟩
  obtain ⟨er, her⟩ : ∃ t, errR p = t := ⟨_, rfl⟩
  obtain ⟨ok, hok⟩ : ∃ t, p.ok = t := ⟨_, rfl⟩
  rw [ht, her] at T1 T2
  rw [hlw, her] at L1 L2
  rw [hok] at M1 M2
  clear ht hlw her hok
  obtain ⟨a, b, c⟩ := p
  unfold Pol.cells at T1 T2 L1 L2 M1 M2 ⊢
  simp only at T1 T2 L1 L2 M1 M2 ⊢
  obtain ⟨W0, hW0⟩ : ∃ W0, w.alloc (.cells #[.int .i64 a, .int .i64 b, .int .i64 c] 23) = W0 := ⟨_, rfl⟩
  have k0 : Old w W0 := by rw [← hW0]; exact (Keeps.refl _ _).alloc _
  have hb0 : W0.heap[w.heap.size]? = some (.cells #[.int .i64 a, .int .i64 b, .int .i64 c] 23 (0, 0)) := by rw [← hW0]; exact heap_alloc_new _ _
  have q0 : W0.cell? ⟨w.heap.size, 0, none⟩ = some (.int .i64 a) := by simp [World.cell?, hb0]
  have q1 : W0.cell? ⟨w.heap.size, 1, none⟩ = some (.int .i64 b) := by simp [World.cell?, hb0]
  have q2 : W0.cell? ⟨w.heap.size, 2, none⟩ = some (.int .i64 c) := by simp [World.cell?, hb0]
  have HT1 := Lib.hid T1
  have HL1 := Lib.hid L1
  have HT2 := Lib.hid T2
  have HL2 := Lib.hid L2
  have HM1 := Lib.hid M1
  have HM2 := Lib.hid M2
  have KK := Lib.hid k0
  have HI := Lib.hid (And.intro hi hml)
  have SO := Lib.hid (hi.old k0)
  have HON := Lib.hid (ones_of hi)
  have hmb : m.length ≤ 100 := by omega
  clear T1 L1 T2 L2 M1 M2 hi hb0 hml k0
  go_enter Try.func3, Try.ntmps3
  go_wp2_with (at_builtin; refine wpList_append_rows (P := Try.prog) rfl _ _ 25 rfl W0.heap.size 40 4 56 It.cells _ Try.underlying25 Try.infoItem rfl (by decide) (.slice none 0 0) [] rfl (OwnsR.nil _ _) _ m rfl SO.out.1 (fun _ _ => rfl) HON.out (by unfold maxLen; simp; omega) (by simp; omega) (Nat.le_refl _) ?_; intro v1 w1 ho1 hg1 _; have hk1 : Old W0 w1 := (Keeps.refl (fun _ => False) W0).grown hg1 (fun k hk => (by simp [Value.ownBlock] at hk)); have r10 := hk1.cell q0 (fun f => f); have r11 := hk1.cell q1 (fun f => f); have r12 := hk1.cell q2 (fun f => f))
  rw [List.nil_append] at ho1
  have I1 := Lib.hid (show Items w1 v1 m from ⟨ho1.sees (fun _ => rfl) (by decide), fun x hx => (SO.out.2 x hx).old hk1⟩)
  obtain ⟨p1, c1, he1, _, _⟩ := I1.out.1.len
  rw [HI.out.2] at he1
  subst he1
  have K1 := Lib.hid (KK.out.trans hk1)
  have J1 := Lib.hid (Keeps.refl (fun _ => False) w1)
  clear hk1 ho1 hg1 q0 q1 q2
  have Q1 := Lib.hid (fun W (h : Old w1 W) => HT1.out _ W (I1.out.old h))
  have Q2 := Lib.hid (fun W (h : Old w1 W) => HL1.out _ W (I1.out.old h))
  go_wp2_with fail
  refine (Q1.out _ J1.out).mono ?_
  rintro e w2 ⟨rfl, hk2⟩
  have r20 : w2.cell? ⟨w.heap.size, 0, none⟩ = some (.int .i64 a) := hk2.cell r10 (fun f => f)
  have r21 : w2.cell? ⟨w.heap.size, 1, none⟩ = some (.int .i64 b) := hk2.cell r11 (fun f => f)
  have r22 : w2.cell? ⟨w.heap.size, 2, none⟩ = some (.int .i64 c) := hk2.cell r12 (fun f => f)
  have K2 := Lib.hid (K1.out.trans hk2)
  have J2 := Lib.hid (J1.out.trans hk2)
  clear hk2 r10 r11 r12
  go_wp2_with fail
  refine (HT2.out _ K2.out).mono ?_
  rintro e w3 ⟨rfl, hk3⟩
  have r30 : w3.cell? ⟨w.heap.size, 0, none⟩ = some (.int .i64 a) := hk3.cell r20 (fun f => f)
  have r31 : w3.cell? ⟨w.heap.size, 1, none⟩ = some (.int .i64 b) := hk3.cell r21 (fun f => f)
  have r32 : w3.cell? ⟨w.heap.size, 2, none⟩ = some (.int .i64 c) := hk3.cell r22 (fun f => f)
  have K3 := Lib.hid (K2.out.trans hk3)
  have J3 := Lib.hid (J2.out.trans hk3)
  clear hk3 r20 r21 r22
  go_wp2_with fail
  refine (Q2.out _ J3.out).mono ?_
  rintro e w4 ⟨rfl, hk4⟩
  have r40 : w4.cell? ⟨w.heap.size, 0, none⟩ = some (.int .i64 a) := hk4.cell r30 (fun f => f)
  have r41 : w4.cell? ⟨w.heap.size, 1, none⟩ = some (.int .i64 b) := hk4.cell r31 (fun f => f)
  have r42 : w4.cell? ⟨w.heap.size, 2, none⟩ = some (.int .i64 c) := hk4.cell r32 (fun f => f)
  have K4 := Lib.hid (K3.out.trans hk4)
  have J4 := Lib.hid (J3.out.trans hk4)
  clear hk4 r30 r31 r32
  go_wp2_with fail
  refine (HL2.out _ K4.out).mono ?_
  rintro e w5 ⟨rfl, hk5⟩
  have r50 : w5.cell? ⟨w.heap.size, 0, none⟩ = some (.int .i64 a) := hk5.cell r40 (fun f => f)
  have r51 : w5.cell? ⟨w.heap.size, 1, none⟩ = some (.int .i64 b) := hk5.cell r41 (fun f => f)
  have r52 : w5.cell? ⟨w.heap.size, 2, none⟩ = some (.int .i64 c) := hk5.cell r42 (fun f => f)
  have K5 := Lib.hid (K4.out.trans hk5)
  have J5 := Lib.hid (J4.out.trans hk5)
  clear hk5 r40 r41 r42
  go_wp2_with fail
  go_loopw [16] (fun v16 wr => ∃ i : Nat, i ≤ 100 ∧ v16 = .int .i64 i ∧ Old w5 wr) (fun v16 _ => 100 - (intOf v16).toNat)
  case atStart => exact ⟨0, by omega, rfl, Keeps.refl _ _⟩
  case round =>
    obtain ⟨i, hi, rfl, hkw⟩ := hrel
    by_cases hlt : i < 100
    · obtain ⟨bb, o, cc, he, _, _, hc⟩ := HI.out.1.1.at (by have := HI.out.2; omega)
      obtain ⟨bb', o', cc', he', _, _, hc'⟩ := I1.out.1.at (by have := HI.out.2; omega)
      simp only [Value.slice.injEq, true_and] at he he'
      obtain ⟨rfl, hq, rfl⟩ := he
      obtain ⟨rfl, hq', rfl⟩ := he'
      clear hq hq'
      obtain ⟨x, hx⟩ : ∃ x, m[i]? = some x := ⟨_, List.getElem?_eq_getElem (by have := HI.out.2; omega)⟩
      have cx := fun j u (hu : x.cells[j]? = some u) => OldOf.cell ((K5.out.trans hkw).cell (hc i x hx j u hu) (fun f => f))
      have cy := fun j u (hu : x.cells[j]? = some u) => OldOf.cell ((J5.out.trans hkw).cell (hc' i x hx j u hu) (fun f => f))
      have x0 := cx 0 _ rfl
      have x1 := cx 1 _ rfl
      have x2 := cx 2 _ rfl
      have x3 := cx 3 _ rfl
      have y0 := cy 0 _ rfl
      have y1 := cy 1 _ rfl
      have y2 := cy 2 _ rfl
      have y3 := cy 3 _ rfl
      simp only [Nat.add_zero] at x0 y0
      have hf := HI.out.1.2 x (List.mem_of_getElem? hx)
      have KW := Lib.hid (K5.out.trans hkw)
      have KJ := Lib.hid hkw
      have SS := fun (pq : OldOf wr) => same_item_any x x pq.to (hf.old (KW.out.trans pq.old)) (hf.old (KW.out.trans pq.old))
      have ZZ := fun (pq : OldOf wr) => it_size_any x pq.to (hf.old (KW.out.trans pq.old))
      have RZ := fun (pq : OldOf wr) => ref_it_size_any x pq.to (hf.old (KW.out.trans pq.old))
      rw [sameI_self] at SS
      have hsz' := it_size_le hf.2.2.1
      generalize x.size = sz at ZZ RZ hsz'
      obtain ⟨xn, xt, xk, xa, xe⟩ := x
      unfold It.cells at SS ZZ RZ
      simp only at SS ZZ RZ x0 x1 x2 x3 y0 y1 y2 y3
      have HS := Lib.hid SS
      have HZ := Lib.hid ZZ
      have HR := Lib.hid RZ
      have i1 : (0 : Int) ≤ (i : Int) := by omega
      have i2 : (i : Int) < (100 : Int) := by omega
      clear hx cx cy hc hc' hf hkw SS ZZ RZ
      go_wp2_with fail
      refine wp_region_quiet_old (by kernel_rfl) (by kernel_rfl) ?_
      repeat (go_big_quiet_step ((first | (go_at_call 12; exact Calls.quiet_of_old (HS.out _)) | (go_at_call 13; exact Calls.quiet_of_old (HZ.out _)) | (go_at_call 14; exact Calls.quiet_of_old (HR.out _)))))
      refine wpQuiet_nil ?_
      intro _ hpq
      obtain ⟨pq, hpq'⟩ := hpq
      subst hpq'
      go_wp2_with fail
      go_roundw
      case rel => exact ⟨i + 1, by omega, by go_num, KJ.out.trans pq.old⟩
      case measure => simp [intOf]; omega
    · have n0 := OldOf.cell (hkw.cell r50 (fun f => f))
      have n1 := OldOf.cell (hkw.cell r51 (fun f => f))
      have n2 := OldOf.cell (hkw.cell r52 (fun f => f))
      have KW := Lib.hid (K5.out.trans hkw)
      have WW := Lib.hid (fun W => wakes_any W)
      clear hkw r50 r51 r52
      go_wp2_with fail
      refine wp_region_quiet_old (by kernel_rfl) (by kernel_rfl) ?_
      repeat (go_big_quiet_step ((first | (go_at_call 15; exact Calls.quiet_of_old (HM1.out _)) | (go_at_call 16; exact Calls.quiet_of_old (HM2.out _)) | (go_at_call 17; exact Calls.quiet_of_old (WW.out _)))))
      refine wpQuiet_nil ?_
      intro _ hpq
      obtain ⟨pq, hpq'⟩ := hpq
      subst hpq'
      go_wp2_with fail
      go_ret
      exact ⟨ret_bool (by simp), KW.out.trans pq.old⟩

theorem tails_any (p : Pol) (now : Nat) (lv : Value) (l : List It) (w : World) (hi : Items w lv l) (hn : now < 18446744073709551616) :
    Calls Try.prog 3 #[.agg p.cells, .int .u64 now, lv] w fun e w' => e = .returned (.bool true) ∧ Old w w' := by
  obtain ⟨ad, c', rfl, h1, h2⟩ := hi.1.len
  have hm : l.length ≤ 9223372036854775807 := by unfold maxLen at h2; omega
  rcases Nat.lt_or_ge 100 l.length with h60 | h60
  · obtain ⟨m, hml, hmi⟩ := hundred hi h60
    exact tails_gt p now ad c' l m w h60 hm h1 hml hmi hn
  · exact tails_le p now ad c' l l w h60 hm h1 rfl hi hn
end Go.Proofs.Ytpehpidlcdfhcaa
