/- DERIVED. Sorting of numbers without sign: the breaking of patterns. Written by gen_brk.py. -/
import Derived.Test.YtehmlaplodjenaaGreatZTopDual27
import Derived.Test.YtehmlaplodjenaaGreatZTopDual16
import Derived.Deep.DeepCutAuto
import Derived.IntWalk
import Derived.BigQuiet
set_option maxRecDepth 100000
set_option maxHeartbeats 8000000
namespace Go.Proofs.YtehmlaplodjenaaGreat
section
open Go.RowKit
def Rnd (W : World) (rb : Nat) : Prop := ∃ s : Int, W.heap[rb]? = some (.cells #[.int .u64 s] 208 (0, 0))
theorem Rnd.old {W W' : World} {rb : Nat} (h : Rnd W rb) (k : Old W W') : Rnd W' rb := by
 obtain ⟨s, hs⟩ := h
 exact ⟨s, (k.block _ (lt_of_heap hs) (fun f => f)).trans hs⟩
theorem Rnd.keeps {S : Nat → Prop} {W W' : World} {rb : Nat} (h : Rnd W rb) (k : Keeps S W W') (hS : ¬ S rb) : Rnd W' rb := by
 obtain ⟨s, hs⟩ := h
 exact ⟨s, (k.block _ (lt_of_heap hs) hS).trans hs⟩
theorem Rnd.ne {W : World} {rb B g n cap : Nat} {L : List Nat} (h : Rnd W rb) (ho : OwnsU W B (.slice (some ⟨g, 0, none⟩) n cap) L) : g ≠ rb := by
 obtain ⟨s, hs⟩ := h
 intro e
 exact ho.neE hs (by decide) (by simp [Value.ownBlock, e])
theorem Rnd.set {W : World} {rb : Nat} (h : Rnd W rb) (z : Int) : Rnd (W.setCell ⟨rb, 0, none⟩ (.int .u64 z)) rb := by
 obtain ⟨s, hs⟩ := h
 exact ⟨z, by have := heap_setCell_same W rb 0 _ _ (.int .u64 z) hs; simpa using this⟩
theorem and_le (z : Int) (m : Nat) (hm : m < 9223372036854775808) : ∃ o : Nat, o ≤ m ∧ bits .and .u64 z (m : Int) = (o : Int) := by
 have h2 : (BitVec.ofInt 64 (m : Int)).toNat = m := by
  rw [BitVec.ofInt_natCast, BitVec.toNat_ofNat]; exact Nat.mod_eq_of_lt (by omega)
 have hle : (BitVec.ofInt 64 z).toNat &&& m ≤ m := Nat.and_le_right
 refine ⟨(BitVec.ofInt 64 z).toNat &&& m, hle, ?_⟩
 show IntKind.u64.wrap ((BitVec.ofInt 64 z &&& BitVec.ofInt 64 (m : Int)).toNat : Int) = _
 rw [BitVec.toNat_and, h2, IntKind.wrap_u64]
 omega
theorem next_u64 (rb : Nat) (w : World) (h : Rnd w rb) :
  Calls Tryz.prog 166 #[.pointer (some ⟨rb, 0, none⟩)] w fun e w' => ∃ r : Int, e = .returned (.int .u64 r) ∧ Rnd w' rb ∧ Keeps (fun k => k = rb) w w' := by
 have H := Lib.hid h
 clear h
 go_enter Tryz.func166, Tryz.ntmps166
 obtain ⟨s0, hs0⟩ := H.out
 have HS0 := Lib.hid hs0
 clear hs0
 go_upto_region 1 with fail
 have rd0 : Old w w.drew := (Keeps.refl _ _).drew
 refine wp_region_g (S := fun V => Old w V) (M := List.range 9) (by kernel_rfl) ?_
 refine tkG (i := 0) (v := ?vn00) ?yn00 rd0 ?rn00
 case yn00 => (intro W hSw; go_simp; try with_reducible rfl)
 try simp only [Act.put, List.setIfInBounds_toArray, List.set_cons_zero, List.set_cons_succ]
 refine tkG (i := 1) (v := ?vn01) ?yn01 rd0 ?rn01
 case yn01 => (intro W hSw; have q1 := blk1 ((hSw.block _ (lt_of_heap HS0.out) (fun f => f)).trans HS0.out); go_simp; try with_reducible rfl)
 try simp only [Act.put, List.setIfInBounds_toArray, List.set_cons_zero, List.set_cons_succ]
 refine tkG (i := 2) (v := ?vn02) ?yn02 rd0 ?rn02
 case yn02 => (intro W hSw; have q1 := blk1 ((hSw.block _ (lt_of_heap HS0.out) (fun f => f)).trans HS0.out); go_simp; try with_reducible rfl)
 try simp only [Act.put, List.setIfInBounds_toArray, List.set_cons_zero, List.set_cons_succ]
 refine tkG (i := 3) (v := ?vn03) ?yn03 rd0 ?rn03
 case yn03 => (intro W hSw; go_simp; try with_reducible rfl)
 try simp only [Act.put, List.setIfInBounds_toArray, List.set_cons_zero, List.set_cons_succ]
 refine tkG (i := 4) (v := ?vn04) ?yn04 rd0 ?rn04
 case yn04 => (intro W hSw; have q1 := blk1 ((hSw.block _ (lt_of_heap HS0.out) (fun f => f)).trans HS0.out); go_simp; try with_reducible rfl)
 try simp only [Act.put, List.setIfInBounds_toArray, List.set_cons_zero, List.set_cons_succ]
 refine tkG (i := 5) (v := ?vn05) ?yn05 rd0 ?rn05
 case yn05 => (intro W hSw; have q1 := blk1 ((hSw.block _ (lt_of_heap HS0.out) (fun f => f)).trans HS0.out); go_simp; try with_reducible rfl)
 try simp only [Act.put, List.setIfInBounds_toArray, List.set_cons_zero, List.set_cons_succ]
 refine tkG (i := 6) (v := ?vn06) ?yn06 rd0 ?rn06
 case yn06 => (intro W hSw; go_simp; try with_reducible rfl)
 try simp only [Act.put, List.setIfInBounds_toArray, List.set_cons_zero, List.set_cons_succ]
 refine tkG (i := 7) (v := ?vn07) ?yn07 rd0 ?rn07
 case yn07 => (intro W hSw; go_simp; try with_reducible rfl)
 try simp only [Act.put, List.setIfInBounds_toArray, List.set_cons_zero, List.set_cons_succ]
 refine tkG (i := 8) (v := ?vn08) ?yn08 rd0 ?rn08
 case yn08 => (intro W hSw; have q1 := blk1 ((hSw.block _ (lt_of_heap HS0.out) (fun f => f)).trans HS0.out); go_simp; try with_reducible rfl)
 try simp only [Act.put, List.setIfInBounds_toArray, List.set_cons_zero, List.set_cons_succ]
 have c0 := blk1 HS0.out
 refine wpAnyG_onlyL (i := 9) (o := _) (by kernel_rfl) rfl (fun K hK => ?_)
 go_simp
 refine hK.out _ _ (fun h => absurd h (by decide)) ?_
 clear hK K
 try simp only [Act.put, List.setIfInBounds_toArray, List.set_cons_zero, List.set_cons_succ]
 refine wpAnyG_done (by kernel_rfl) ?_ _
 go_simp
 clear c0
 obtain ⟨V1, hV⟩ : ∃ V, (w.setCell ⟨rb, 0, none⟩ (.int .u64 (bits .xor .u64 s0 (IntKind.u64.wrap (s0 * 8192))))).drew = V := ⟨_, rfl⟩
 rw [hV]
 have HV1 := Lib.hid (show Rnd V1 rb ∧ Keeps (fun k => k = rb) w V1 from by
  rw [← hV]
  exact ⟨(Rnd.set ⟨_, HS0.out⟩ _).old (Keeps.refl _ _).drew, (keepV _ _ _ _).drew⟩)
 clear hV
 obtain ⟨s1, hs1⟩ := HV1.out.1
 have HS1 := Lib.hid hs1
 clear hs1
 go_upto_region 2 with fail
 have rd1 : Old V1 V1.drew := (Keeps.refl _ _).drew
 refine wp_region_g (S := fun V => Old V1 V) (M := List.range 9) (by kernel_rfl) ?_
 refine tkG (i := 0) (v := ?vn10) ?yn10 rd1 ?rn10
 case yn10 => (intro W hSw; go_simp; try with_reducible rfl)
 try simp only [Act.put, List.setIfInBounds_toArray, List.set_cons_zero, List.set_cons_succ]
 refine tkG (i := 1) (v := ?vn11) ?yn11 rd1 ?rn11
 case yn11 => (intro W hSw; have q1 := blk1 ((hSw.block _ (lt_of_heap HS1.out) (fun f => f)).trans HS1.out); go_simp; try with_reducible rfl)
 try simp only [Act.put, List.setIfInBounds_toArray, List.set_cons_zero, List.set_cons_succ]
 refine tkG (i := 2) (v := ?vn12) ?yn12 rd1 ?rn12
 case yn12 => (intro W hSw; have q1 := blk1 ((hSw.block _ (lt_of_heap HS1.out) (fun f => f)).trans HS1.out); go_simp; try with_reducible rfl)
 try simp only [Act.put, List.setIfInBounds_toArray, List.set_cons_zero, List.set_cons_succ]
 refine tkG (i := 3) (v := ?vn13) ?yn13 rd1 ?rn13
 case yn13 => (intro W hSw; go_simp; try with_reducible rfl)
 try simp only [Act.put, List.setIfInBounds_toArray, List.set_cons_zero, List.set_cons_succ]
 refine tkG (i := 4) (v := ?vn14) ?yn14 rd1 ?rn14
 case yn14 => (intro W hSw; have q1 := blk1 ((hSw.block _ (lt_of_heap HS1.out) (fun f => f)).trans HS1.out); go_simp; try with_reducible rfl)
 try simp only [Act.put, List.setIfInBounds_toArray, List.set_cons_zero, List.set_cons_succ]
 refine tkG (i := 5) (v := ?vn15) ?yn15 rd1 ?rn15
 case yn15 => (intro W hSw; have q1 := blk1 ((hSw.block _ (lt_of_heap HS1.out) (fun f => f)).trans HS1.out); go_simp; try with_reducible rfl)
 try simp only [Act.put, List.setIfInBounds_toArray, List.set_cons_zero, List.set_cons_succ]
 refine tkG (i := 6) (v := ?vn16) ?yn16 rd1 ?rn16
 case yn16 => (intro W hSw; go_simp; try with_reducible rfl)
 try simp only [Act.put, List.setIfInBounds_toArray, List.set_cons_zero, List.set_cons_succ]
 refine tkG (i := 7) (v := ?vn17) ?yn17 rd1 ?rn17
 case yn17 => (intro W hSw; go_simp; try with_reducible rfl)
 try simp only [Act.put, List.setIfInBounds_toArray, List.set_cons_zero, List.set_cons_succ]
 refine tkG (i := 8) (v := ?vn18) ?yn18 rd1 ?rn18
 case yn18 => (intro W hSw; have q1 := blk1 ((hSw.block _ (lt_of_heap HS1.out) (fun f => f)).trans HS1.out); go_simp; try with_reducible rfl)
 try simp only [Act.put, List.setIfInBounds_toArray, List.set_cons_zero, List.set_cons_succ]
 have c1 := blk1 HS1.out
 refine wpAnyG_onlyL (i := 9) (o := _) (by kernel_rfl) rfl (fun K hK => ?_)
 go_simp
 refine hK.out _ _ (fun h => absurd h (by decide)) ?_
 clear hK K
 try simp only [Act.put, List.setIfInBounds_toArray, List.set_cons_zero, List.set_cons_succ]
 refine wpAnyG_done (by kernel_rfl) ?_ _
 go_simp
 clear c1
 obtain ⟨V2, hV⟩ : ∃ V, (V1.setCell ⟨rb, 0, none⟩ (.int .u64 (bits .xor .u64 s1 (s1 / 128)))).drew = V := ⟨_, rfl⟩
 rw [hV]
 have HV2 := Lib.hid (show Rnd V2 rb ∧ Keeps (fun k => k = rb) w V2 from by
  rw [← hV]
  exact ⟨(Rnd.set ⟨_, HS1.out⟩ _).old (Keeps.refl _ _).drew, (HV1.out.2.trans (keepV _ _ _ _)).drew⟩)
 clear hV
 obtain ⟨s2, hs2⟩ := HV2.out.1
 have HS2 := Lib.hid hs2
 clear hs2
 go_upto_region 3 with fail
 have rd2 : Old V2 V2.drew := (Keeps.refl _ _).drew
 refine wp_region_g (S := fun V => Old V2 V) (M := List.range 9) (by kernel_rfl) ?_
 refine tkG (i := 0) (v := ?vn20) ?yn20 rd2 ?rn20
 case yn20 => (intro W hSw; go_simp; try with_reducible rfl)
 try simp only [Act.put, List.setIfInBounds_toArray, List.set_cons_zero, List.set_cons_succ]
 refine tkG (i := 1) (v := ?vn21) ?yn21 rd2 ?rn21
 case yn21 => (intro W hSw; have q1 := blk1 ((hSw.block _ (lt_of_heap HS2.out) (fun f => f)).trans HS2.out); go_simp; try with_reducible rfl)
 try simp only [Act.put, List.setIfInBounds_toArray, List.set_cons_zero, List.set_cons_succ]
 refine tkG (i := 2) (v := ?vn22) ?yn22 rd2 ?rn22
 case yn22 => (intro W hSw; have q1 := blk1 ((hSw.block _ (lt_of_heap HS2.out) (fun f => f)).trans HS2.out); go_simp; try with_reducible rfl)
 try simp only [Act.put, List.setIfInBounds_toArray, List.set_cons_zero, List.set_cons_succ]
 refine tkG (i := 3) (v := ?vn23) ?yn23 rd2 ?rn23
 case yn23 => (intro W hSw; go_simp; try with_reducible rfl)
 try simp only [Act.put, List.setIfInBounds_toArray, List.set_cons_zero, List.set_cons_succ]
 refine tkG (i := 4) (v := ?vn24) ?yn24 rd2 ?rn24
 case yn24 => (intro W hSw; have q1 := blk1 ((hSw.block _ (lt_of_heap HS2.out) (fun f => f)).trans HS2.out); go_simp; try with_reducible rfl)
 try simp only [Act.put, List.setIfInBounds_toArray, List.set_cons_zero, List.set_cons_succ]
 refine tkG (i := 5) (v := ?vn25) ?yn25 rd2 ?rn25
 case yn25 => (intro W hSw; have q1 := blk1 ((hSw.block _ (lt_of_heap HS2.out) (fun f => f)).trans HS2.out); go_simp; try with_reducible rfl)
 try simp only [Act.put, List.setIfInBounds_toArray, List.set_cons_zero, List.set_cons_succ]
 refine tkG (i := 6) (v := ?vn26) ?yn26 rd2 ?rn26
 case yn26 => (intro W hSw; go_simp; try with_reducible rfl)
 try simp only [Act.put, List.setIfInBounds_toArray, List.set_cons_zero, List.set_cons_succ]
 refine tkG (i := 7) (v := ?vn27) ?yn27 rd2 ?rn27
 case yn27 => (intro W hSw; go_simp; try with_reducible rfl)
 try simp only [Act.put, List.setIfInBounds_toArray, List.set_cons_zero, List.set_cons_succ]
 refine tkG (i := 8) (v := ?vn28) ?yn28 rd2 ?rn28
 case yn28 => (intro W hSw; have q1 := blk1 ((hSw.block _ (lt_of_heap HS2.out) (fun f => f)).trans HS2.out); go_simp; try with_reducible rfl)
 try simp only [Act.put, List.setIfInBounds_toArray, List.set_cons_zero, List.set_cons_succ]
 have c2 := blk1 HS2.out
 refine wpAnyG_onlyL (i := 9) (o := _) (by kernel_rfl) rfl (fun K hK => ?_)
 go_simp
 refine hK.out _ _ (fun h => absurd h (by decide)) ?_
 clear hK K
 try simp only [Act.put, List.setIfInBounds_toArray, List.set_cons_zero, List.set_cons_succ]
 refine wpAnyG_done (by kernel_rfl) ?_ _
 go_simp
 clear c2
 obtain ⟨V3, hV⟩ : ∃ V, (V2.setCell ⟨rb, 0, none⟩ (.int .u64 (bits .xor .u64 s2 (IntKind.u64.wrap (s2 * 131072))))).drew = V := ⟨_, rfl⟩
 rw [hV]
 have HV3 := Lib.hid (show Rnd V3 rb ∧ Keeps (fun k => k = rb) w V3 from by
  rw [← hV]
  exact ⟨(Rnd.set ⟨_, HS2.out⟩ _).old (Keeps.refl _ _).drew, (HV2.out.2.trans (keepV _ _ _ _)).drew⟩)
 clear hV
 obtain ⟨s3, hs3⟩ := HV3.out.1
 have q3 := (blk1 hs3).1
 have p3 := (blk1 hs3).2
 clear hs3
 go_wp2_with fail
 go_ret
 exact ⟨s3, rfl, HV3.out.1, HV3.out.2⟩
theorem bl_cases : ∀ d, d < 50 → 8 ≤ d → (Lib.bitLen d = 4 ∧ 8 ≤ d) ∨ (Lib.bitLen d = 5 ∧ 16 ≤ d) ∨ (Lib.bitLen d = 6 ∧ 32 ≤ d) := by decide
theorem npow_u64 (d : Nat) (h8 : 8 ≤ d) (h50 : d < 50) (w : World) : Calls Tryz.prog 165 #[.int .i64 d] w fun e w' => ∃ m : Nat, e = .returned (.int .u64 m) ∧ 1 ≤ m ∧ m ≤ 2 * d ∧ w' = w := by
 have CB := Lib.hid (fun W => sh_bits_Len (d : Int) W (by omega) (by omega))
 have wu : IntKind.u64.wrap (d : Int) = (d : Int) := IntWalk.u64_in _ (by omega)
 rw [Int.toNat_natCast] at CB
 rcases bl_cases d h50 h8 with ⟨hb, hd⟩ | ⟨hb, hd⟩ | ⟨hb, hd⟩
 ·rw [hb] at CB
  clear hb
  go_enter Tryz.func165, Tryz.ntmps165
  go_wp2_with fail
  refine (CB.out _).mono ?_
  rintro e w1 ⟨rfl, rfl⟩
  go_wp2_with fail
  go_ret
  exact ⟨16, rfl, by omega, by omega, rfl⟩
 ·rw [hb] at CB
  clear hb
  go_enter Tryz.func165, Tryz.ntmps165
  go_wp2_with fail
  refine (CB.out _).mono ?_
  rintro e w1 ⟨rfl, rfl⟩
  go_wp2_with fail
  go_ret
  exact ⟨32, rfl, by omega, by omega, rfl⟩
 ·rw [hb] at CB
  clear hb
  go_enter Tryz.func165, Tryz.ntmps165
  go_wp2_with fail
  refine (CB.out _).mono ?_
  rintro e w1 ⟨rfl, rfl⟩
  go_wp2_with fail
  go_ret
  exact ⟨64, rfl, by omega, by omega, rfl⟩
theorem break_u64 (a b : Nat) (g n cap B : Nat) (L : List Nat) (w : World) (h : OwnsU w B (.slice (some ⟨g, 0, none⟩) n cap) L) (hab : a + 12 < b) (hb : b < a + 50) (hbn : b ≤ n) (hn6 : n ≤ 1000000) :
  Calls Tryz.prog 113 #[.slice (some ⟨g, 0, none⟩) n cap, .int .i64 a, .int .i64 b] w fun e w' => e = .returned (.tuple #[]) ∧ SrtP B g n cap L w w' := by
 have HL := Lib.hid h.len_of
 obtain ⟨d, hd⟩ : ∃ d, b - a = d := ⟨_, rfl⟩
 obtain ⟨q, hq⟩ : ∃ q, d / 4 = q := ⟨_, rfl⟩
 have w1 : IntKind.i64.wrap ((b : Int) - (a : Int)) = (d : Int) := by rw [IntWalk.i64_in _ (by omega)]; omega
 have w2 : Int.tdiv (d : Int) 4 = (q : Int) := by rw [Int.tdiv_eq_ediv_of_nonneg (by omega)]; omega
 have w3 : IntKind.i64.wrap (q : Int) = (q : Int) := IntWalk.i64_in _ (by omega)
 have wud : IntKind.u64.wrap (d : Int) = (d : Int) := IntWalk.u64_in _ (by omega)
 obtain ⟨q2, hq2⟩ : ∃ q2, q * 2 = q2 := ⟨_, rfl⟩
 obtain ⟨j, hj⟩ : ∃ j, a + q2 = j := ⟨_, rfl⟩
 obtain ⟨i0, hi0⟩ : ∃ i0, i0 + 1 = j := ⟨j - 1, by omega⟩
 obtain ⟨j1, hj1⟩ : ∃ j1, j + 1 = j1 := ⟨_, rfl⟩
 have w5 : IntKind.i64.wrap ((q : Int) * 2) = (q2 : Int) := by rw [IntWalk.i64_in _ (by omega)]; omega
 have w6 : IntKind.i64.wrap ((a : Int) + (q2 : Int)) = (j : Int) := by rw [IntWalk.i64_in _ (by omega)]; omega
 have w7 : IntKind.i64.wrap ((j : Int) - 1) = (i0 : Int) := by rw [IntWalk.i64_in _ (by omega)]; omega
 have w8 : IntKind.i64.wrap ((j : Int) + 1) = (j1 : Int) := by rw [IntWalk.i64_in _ (by omega)]; omega
 have hg1 : (8 : Int) ≤ (d : Int) := by omega
 have hg3 : (d : Int) ≥ 8 := by omega
 have hjb : j1 < b := by omega
 have hij1 : i0 ≤ j1 := by omega
 have had : a + d = b := by omega
 have hd8 : 8 ≤ d := by omega
 have hd50 : d < 50 := by omega
 obtain ⟨rb, hrb⟩ : ∃ rb, w.heap.size = rb := ⟨_, rfl⟩
 obtain ⟨W1, hW1⟩ : ∃ W1, (w.alloc (.cells #[.int .u64 0] 208)).setCell ⟨rb, 0, none⟩ (.int .u64 d) = W1 := ⟨_, rfl⟩
 have k1 : Old w W1 := by
  rw [← hW1]
  exact ((Keeps.refl (fun _ => False) w).alloc _).then (keepV _ _ _ _) (fun i hi e => by omega)
 have r1 : Rnd W1 rb := by
  rw [← hW1]
  exact Rnd.set ⟨0, by rw [← hrb]; exact heap_alloc_new _ _⟩ _
 have H := Lib.hid (And.intro (show SrtP B g n cap L w W1 from (SrtP.refl h).old k1) (And.intro r1 (Nat.le_of_eq hrb)))
 have NP := Lib.hid (fun W => npow_u64 d hd8 hd50 W)
 clear hi0 hj1 hj hq2 hq hd k1 r1 h
 go_enter Tryz.func113, Tryz.ntmps113
 go_upto_region 3 with fail
 clear hW1 hrb
 go_wp2_with fail
 refine (NP.out _).mono ?_
 rintro e w2 ⟨m, rfl, hm1, hm2, rfl⟩
 obtain ⟨m1, hm3⟩ : ∃ m1, m1 + 1 = m := ⟨m - 1, by omega⟩
 have wm : IntKind.u64.wrap ((m : Int) - 1) = (m1 : Int) := by rw [IntWalk.u64_in _ (by omega)]; omega
 have hm4 : m1 < 2 * d := by omega
 clear hm1 hm2 hm3
 go_wp2_with fail
 go_loopw [9] (fun v9 wr => ∃ i : Nat, i0 ≤ i ∧ i ≤ j1 + 1 ∧ v9 = .int .i64 i ∧ Rnd wr rb ∧ SrtP B g n cap L w wr) (fun v9 _ => j1 + 2 - (intOf v9).toNat)
 case atStart => exact ⟨i0, Nat.le_refl _, by omega, rfl, H.out.2.1, H.out.1⟩
 case round =>
  obtain ⟨wx, hwx⟩ : ∃ wx : World, wx = wr := ⟨_, rfl⟩
  subst hwx
  obtain ⟨i, hi1, hi2, rfl, hr, hs⟩ := hrel
  by_cases hij : i ≤ j1
  ·have hle : (i : Int) ≤ (j1 : Int) := by omega
   have NX := Lib.hid (next_u64 rb wx hr)
   have Q := Lib.hid (And.intro hr hs)
   clear hr hs
   go_wp2_with fail
   refine NX.out.mono ?_
   rintro e w3 ⟨r, rfl, hr3, k3⟩
   obtain ⟨o, hom, hand⟩ := and_le r m1 (by omega)
   have wo : IntKind.i64.wrap (o : Int) = (o : Int) := IntWalk.i64_in _ (by omega)
   have hs : SrtP B g n cap L w w3 := by
    obtain ⟨M, hp, ho, hk⟩ := Q.out.2
    refine ⟨M, hp, ho.keeps k3 (fun b hb e => ?_), hk.then k3 (fun i hi e => absurd (show i = rb from e) (by have := H.out.2.2; omega))⟩
    have hg : g = b := by simpa [Value.ownBlock] using hb
    exact Q.out.1.ne ho (hg.trans e)
   clear k3
   by_cases hod : d ≤ o
   ·have hge : (o : Int) ≥ (d : Int) := by omega
    obtain ⟨o1, ho1⟩ : ∃ o1, o1 + d = o := ⟨o - d, by omega⟩
    have wo1 : IntKind.i64.wrap ((o : Int) - (d : Int)) = (o1 : Int) := by rw [IntWalk.i64_in _ (by omega)]; omega
    obtain ⟨o2, ho2⟩ : ∃ o2, a + o1 = o2 := ⟨_, rfl⟩
    have wo2 : IntKind.i64.wrap ((a : Int) + (o1 : Int)) = (o2 : Int) := by rw [IntWalk.i64_in _ (by omega)]; omega
    have hin : i < n := by omega
    have ho2n : o2 < n := by omega
    obtain ⟨M, hp, ho, hk⟩ := hs
    have hML : M.length = n := hp.length_eq.trans HL.out.symm
    have hpn : i < n := by omega
    have hqn : o2 < n := by omega
    obtain ⟨x, hx⟩ : ∃ x, M[i]? = some x := ⟨_, List.getElem?_eq_getElem (by omega)⟩
    obtain ⟨y, hy⟩ : ∃ y, M[o2]? = some y := ⟨_, List.getElem?_eq_getElem (by omega)⟩
    obtain ⟨⟨fp1, fp2⟩, ⟨z, fq1, fq2⟩, hsw⟩ := swap_u64 hp ho hk hx hy
    have HP := Lib.hid (fun W (hW : Old w3 W) => OwnsU.cell (ho.old hW) hx)
    have HQ := Lib.hid (fun W (hW : Old w3 W) => OwnsU.cell (ho.old hW) hy)
    have Ssa := Lib.hid (hsw.old ((Keeps.refl (fun _ => False) _).drew))
    have RNsa := Lib.hid (Rnd.old (Rnd.keeps hr3 ((keepV w3 g i (.int .u64 (y : Int))).trans (keepV _ g o2 (.int .u64 (x : Int)))) (fun e => hr3.ne ho (show g = rb from Eq.symm e))) ((Keeps.refl (fun _ => False) _).drew))
    clear hp ho hk hx hy hML hsw
    go_upto_region 10 with fail
    have rtsa : True := trivial
    refine wp_region_g (S := fun _ => True) (M := List.range 20) (by kernel_rfl) ?_
    refine tkG (i := 0) (v := ?vsa0) ?ysa0 rtsa ?rsa0
    case ysa0 => (intro W hSw; go_simp; try with_reducible rfl)
    try simp only [Act.put, List.setIfInBounds_toArray, List.set_cons_zero, List.set_cons_succ]
    refine tkG (i := 1) (v := ?vsa1) ?ysa1 rtsa ?rsa1
    case ysa1 => (intro W hSw; go_simp; try with_reducible rfl)
    try simp only [Act.put, List.setIfInBounds_toArray, List.set_cons_zero, List.set_cons_succ]
    refine tkG (i := 2) (v := ?vsa2) ?ysa2 rtsa ?rsa2
    case ysa2 => (intro W hSw; go_simp; try with_reducible rfl)
    try simp only [Act.put, List.setIfInBounds_toArray, List.set_cons_zero, List.set_cons_succ]
    refine tkG (i := 3) (v := ?vsa3) ?ysa3 rtsa ?rsa3
    case ysa3 => (intro W hSw; go_simp; try with_reducible rfl)
    try simp only [Act.put, List.setIfInBounds_toArray, List.set_cons_zero, List.set_cons_succ]
    refine tkG (i := 4) (v := ?vsa4) ?ysa4 rtsa ?rsa4
    case ysa4 => (intro W hSw; go_simp; try with_reducible rfl)
    try simp only [Act.put, List.setIfInBounds_toArray, List.set_cons_zero, List.set_cons_succ]
    refine tkG (i := 5) (v := ?vsa5) ?ysa5 rtsa ?rsa5
    case ysa5 => (intro W hSw; go_simp; try with_reducible rfl)
    try simp only [Act.put, List.setIfInBounds_toArray, List.set_cons_zero, List.set_cons_succ]
    refine tkG (i := 6) (v := ?vsa6) ?ysa6 rtsa ?rsa6
    case ysa6 => (intro W hSw; go_simp; try with_reducible rfl)
    try simp only [Act.put, List.setIfInBounds_toArray, List.set_cons_zero, List.set_cons_succ]
    refine tkG (i := 7) (v := ?vsa7) ?ysa7 rtsa ?rsa7
    case ysa7 => (intro W hSw; go_simp; try with_reducible rfl)
    try simp only [Act.put, List.setIfInBounds_toArray, List.set_cons_zero, List.set_cons_succ]
    refine tkG (i := 8) (v := ?vsa8) ?ysa8 rtsa ?rsa8
    case ysa8 => (intro W hSw; go_simp; try with_reducible rfl)
    try simp only [Act.put, List.setIfInBounds_toArray, List.set_cons_zero, List.set_cons_succ]
    refine tkG (i := 9) (v := ?vsa9) ?ysa9 rtsa ?rsa9
    case ysa9 => (intro W hSw; go_simp; try with_reducible rfl)
    try simp only [Act.put, List.setIfInBounds_toArray, List.set_cons_zero, List.set_cons_succ]
    refine tkG (i := 10) (v := ?vsa10) ?ysa10 rtsa ?rsa10
    case ysa10 => (intro W hSw; go_simp; try with_reducible rfl)
    try simp only [Act.put, List.setIfInBounds_toArray, List.set_cons_zero, List.set_cons_succ]
    refine tkG (i := 12) (v := ?vsa12) ?ysa12 rtsa ?rsa12
    case ysa12 => (intro W hSw; go_simp; try with_reducible rfl)
    try simp only [Act.put, List.setIfInBounds_toArray, List.set_cons_zero, List.set_cons_succ]
    refine tkG (i := 13) (v := ?vsa13) ?ysa13 rtsa ?rsa13
    case ysa13 => (intro W hSw; go_simp; try with_reducible rfl)
    try simp only [Act.put, List.setIfInBounds_toArray, List.set_cons_zero, List.set_cons_succ]
    refine tkG (i := 14) (v := ?vsa14) ?ysa14 rtsa ?rsa14
    case ysa14 => (intro W hSw; go_simp; try with_reducible rfl)
    try simp only [Act.put, List.setIfInBounds_toArray, List.set_cons_zero, List.set_cons_succ]
    refine wpAnyG_true (fun V => Old w3 V) [0, 1, 2, 3, 4, 5, 6, 7, 8, 9, 10, 11, 12, 13, 14, 15, 16] _ _ _ _ ?_
    have r8sa : Old w3 w3.drew := (Keeps.refl _ _).drew
    refine tkG (i := 11) (v := ?vsa11) ?ysa11 r8sa ?rsa11
    case ysa11 => (intro W hSw; have q1 := (HQ.out _ hSw).1; go_simp; try with_reducible rfl)
    try simp only [Act.put, List.setIfInBounds_toArray, List.set_cons_zero, List.set_cons_succ]
    refine tkG (i := 15) (v := ?vsa15) ?ysa15 r8sa ?rsa15
    case ysa15 => (intro W hSw; have q1 := (HP.out _ hSw).1; go_simp; try with_reducible rfl)
    try simp only [Act.put, List.setIfInBounds_toArray, List.set_cons_zero, List.set_cons_succ]
    refine tkG (i := 16) (v := ?vsa16) ?ysa16 r8sa ?rsa16
    case ysa16 => (intro W hSw; go_simp; try with_reducible rfl)
    try simp only [Act.put, List.setIfInBounds_toArray, List.set_cons_zero, List.set_cons_succ]
    refine wpAnyG_onlyL (i := 17) (o := _) (by kernel_rfl) rfl (fun K hK => ?_)
    go_simp
    refine hK.out _ _ (fun h => absurd h (by decide)) ?_
    clear hK K
    try simp only [Act.put, List.setIfInBounds_toArray, List.set_cons_zero, List.set_cons_succ]
    refine wpAnyG_onlyL (i := 18) (o := _) (by kernel_rfl) rfl (fun K hK => ?_)
    go_simp
    refine hK.out _ _ (fun h => absurd h (by decide)) ?_
    clear hK K
    try simp only [Act.put, List.setIfInBounds_toArray, List.set_cons_zero, List.set_cons_succ]
    refine wpAnyG_onlyL (i := 19) (o := _) (by kernel_rfl) rfl (fun K hK => ?_)
    go_simp
    refine hK.out _ _ (fun h => absurd h (by decide)) ?_
    clear hK K
    try simp only [Act.put, List.setIfInBounds_toArray, List.set_cons_zero, List.set_cons_succ]
    refine wpAnyG_done (by kernel_rfl) ?_ _
    go_simp
    clear fp1 fp2 fq1 fq2 HP HQ
    go_wp2_with fail
    go_roundw
    case rel => exact ⟨i + 1, by omega, by omega, by go_num, RNsa.out, Ssa.out⟩
    case measure => simp [intOf]; omega
   ·have hge : ¬ (o : Int) ≥ (d : Int) := by omega
    obtain ⟨o1, ho1⟩ : ∃ o1, o1 = o := ⟨_, rfl⟩
    subst ho1
    obtain ⟨o2, ho2⟩ : ∃ o2, a + o1 = o2 := ⟨_, rfl⟩
    have wo2 : IntKind.i64.wrap ((a : Int) + (o1 : Int)) = (o2 : Int) := by rw [IntWalk.i64_in _ (by omega)]; omega
    have hin : i < n := by omega
    have ho2n : o2 < n := by omega
    obtain ⟨M, hp, ho, hk⟩ := hs
    have hML : M.length = n := hp.length_eq.trans HL.out.symm
    have hpn : i < n := by omega
    have hqn : o2 < n := by omega
    obtain ⟨x, hx⟩ : ∃ x, M[i]? = some x := ⟨_, List.getElem?_eq_getElem (by omega)⟩
    obtain ⟨y, hy⟩ : ∃ y, M[o2]? = some y := ⟨_, List.getElem?_eq_getElem (by omega)⟩
    obtain ⟨⟨fp1, fp2⟩, ⟨z, fq1, fq2⟩, hsw⟩ := swap_u64 hp ho hk hx hy
    have HP := Lib.hid (fun W (hW : Old w3 W) => OwnsU.cell (ho.old hW) hx)
    have HQ := Lib.hid (fun W (hW : Old w3 W) => OwnsU.cell (ho.old hW) hy)
    have Ssb := Lib.hid (hsw.old ((Keeps.refl (fun _ => False) _).drew))
    have RNsb := Lib.hid (Rnd.old (Rnd.keeps hr3 ((keepV w3 g i (.int .u64 (y : Int))).trans (keepV _ g o2 (.int .u64 (x : Int)))) (fun e => hr3.ne ho (show g = rb from Eq.symm e))) ((Keeps.refl (fun _ => False) _).drew))
    clear hp ho hk hx hy hML hsw
    go_upto_region 10 with fail
    have rtsb : True := trivial
    refine wp_region_g (S := fun _ => True) (M := List.range 20) (by kernel_rfl) ?_
    refine tkG (i := 0) (v := ?vsb0) ?ysb0 rtsb ?rsb0
    case ysb0 => (intro W hSw; go_simp; try with_reducible rfl)
    try simp only [Act.put, List.setIfInBounds_toArray, List.set_cons_zero, List.set_cons_succ]
    refine tkG (i := 1) (v := ?vsb1) ?ysb1 rtsb ?rsb1
    case ysb1 => (intro W hSw; go_simp; try with_reducible rfl)
    try simp only [Act.put, List.setIfInBounds_toArray, List.set_cons_zero, List.set_cons_succ]
    refine tkG (i := 2) (v := ?vsb2) ?ysb2 rtsb ?rsb2
    case ysb2 => (intro W hSw; go_simp; try with_reducible rfl)
    try simp only [Act.put, List.setIfInBounds_toArray, List.set_cons_zero, List.set_cons_succ]
    refine tkG (i := 3) (v := ?vsb3) ?ysb3 rtsb ?rsb3
    case ysb3 => (intro W hSw; go_simp; try with_reducible rfl)
    try simp only [Act.put, List.setIfInBounds_toArray, List.set_cons_zero, List.set_cons_succ]
    refine tkG (i := 4) (v := ?vsb4) ?ysb4 rtsb ?rsb4
    case ysb4 => (intro W hSw; go_simp; try with_reducible rfl)
    try simp only [Act.put, List.setIfInBounds_toArray, List.set_cons_zero, List.set_cons_succ]
    refine tkG (i := 5) (v := ?vsb5) ?ysb5 rtsb ?rsb5
    case ysb5 => (intro W hSw; go_simp; try with_reducible rfl)
    try simp only [Act.put, List.setIfInBounds_toArray, List.set_cons_zero, List.set_cons_succ]
    refine tkG (i := 6) (v := ?vsb6) ?ysb6 rtsb ?rsb6
    case ysb6 => (intro W hSw; go_simp; try with_reducible rfl)
    try simp only [Act.put, List.setIfInBounds_toArray, List.set_cons_zero, List.set_cons_succ]
    refine tkG (i := 7) (v := ?vsb7) ?ysb7 rtsb ?rsb7
    case ysb7 => (intro W hSw; go_simp; try with_reducible rfl)
    try simp only [Act.put, List.setIfInBounds_toArray, List.set_cons_zero, List.set_cons_succ]
    refine tkG (i := 8) (v := ?vsb8) ?ysb8 rtsb ?rsb8
    case ysb8 => (intro W hSw; go_simp; try with_reducible rfl)
    try simp only [Act.put, List.setIfInBounds_toArray, List.set_cons_zero, List.set_cons_succ]
    refine tkG (i := 9) (v := ?vsb9) ?ysb9 rtsb ?rsb9
    case ysb9 => (intro W hSw; go_simp; try with_reducible rfl)
    try simp only [Act.put, List.setIfInBounds_toArray, List.set_cons_zero, List.set_cons_succ]
    refine tkG (i := 10) (v := ?vsb10) ?ysb10 rtsb ?rsb10
    case ysb10 => (intro W hSw; go_simp; try with_reducible rfl)
    try simp only [Act.put, List.setIfInBounds_toArray, List.set_cons_zero, List.set_cons_succ]
    refine tkG (i := 12) (v := ?vsb12) ?ysb12 rtsb ?rsb12
    case ysb12 => (intro W hSw; go_simp; try with_reducible rfl)
    try simp only [Act.put, List.setIfInBounds_toArray, List.set_cons_zero, List.set_cons_succ]
    refine tkG (i := 13) (v := ?vsb13) ?ysb13 rtsb ?rsb13
    case ysb13 => (intro W hSw; go_simp; try with_reducible rfl)
    try simp only [Act.put, List.setIfInBounds_toArray, List.set_cons_zero, List.set_cons_succ]
    refine tkG (i := 14) (v := ?vsb14) ?ysb14 rtsb ?rsb14
    case ysb14 => (intro W hSw; go_simp; try with_reducible rfl)
    try simp only [Act.put, List.setIfInBounds_toArray, List.set_cons_zero, List.set_cons_succ]
    refine wpAnyG_true (fun V => Old w3 V) [0, 1, 2, 3, 4, 5, 6, 7, 8, 9, 10, 11, 12, 13, 14, 15, 16] _ _ _ _ ?_
    have r8sb : Old w3 w3.drew := (Keeps.refl _ _).drew
    refine tkG (i := 11) (v := ?vsb11) ?ysb11 r8sb ?rsb11
    case ysb11 => (intro W hSw; have q1 := (HQ.out _ hSw).1; go_simp; try with_reducible rfl)
    try simp only [Act.put, List.setIfInBounds_toArray, List.set_cons_zero, List.set_cons_succ]
    refine tkG (i := 15) (v := ?vsb15) ?ysb15 r8sb ?rsb15
    case ysb15 => (intro W hSw; have q1 := (HP.out _ hSw).1; go_simp; try with_reducible rfl)
    try simp only [Act.put, List.setIfInBounds_toArray, List.set_cons_zero, List.set_cons_succ]
    refine tkG (i := 16) (v := ?vsb16) ?ysb16 r8sb ?rsb16
    case ysb16 => (intro W hSw; go_simp; try with_reducible rfl)
    try simp only [Act.put, List.setIfInBounds_toArray, List.set_cons_zero, List.set_cons_succ]
    refine wpAnyG_onlyL (i := 17) (o := _) (by kernel_rfl) rfl (fun K hK => ?_)
    go_simp
    refine hK.out _ _ (fun h => absurd h (by decide)) ?_
    clear hK K
    try simp only [Act.put, List.setIfInBounds_toArray, List.set_cons_zero, List.set_cons_succ]
    refine wpAnyG_onlyL (i := 18) (o := _) (by kernel_rfl) rfl (fun K hK => ?_)
    go_simp
    refine hK.out _ _ (fun h => absurd h (by decide)) ?_
    clear hK K
    try simp only [Act.put, List.setIfInBounds_toArray, List.set_cons_zero, List.set_cons_succ]
    refine wpAnyG_onlyL (i := 19) (o := _) (by kernel_rfl) rfl (fun K hK => ?_)
    go_simp
    refine hK.out _ _ (fun h => absurd h (by decide)) ?_
    clear hK K
    try simp only [Act.put, List.setIfInBounds_toArray, List.set_cons_zero, List.set_cons_succ]
    refine wpAnyG_done (by kernel_rfl) ?_ _
    go_simp
    clear fp1 fp2 fq1 fq2 HP HQ
    go_wp2_with fail
    go_roundw
    case rel => exact ⟨i + 1, by omega, by omega, by go_num, RNsb.out, Ssb.out⟩
    case measure => simp [intOf]; omega
  ·have hnle : ¬ (i : Int) ≤ (j1 : Int) := by omega
   have K1 := Lib.hid hs
   clear hs hr
   go_wp2_with fail
   first | exact bodyPost_ret (v := .tuple #[]) (by simp [results, go_sem]) rfl ⟨rfl, K1.out⟩ | (refine bodyPost_end (results_none rfl _ _ _) rfl ?_; exact ⟨rfl, K1.out⟩)
end
end Go.Proofs.YtehmlaplodjenaaGreat
