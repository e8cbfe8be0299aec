/- DERIVED. Chapter 21: forms are short; with a byte more, or of a part of one, nothing is told. · DERIVED. MsgKnown, walked. (gen_kx.py wrote it) · DERIVED. MsgKnown, in the lift's words. · The statement MsgKnown: for every input the law returns true, and the arguments read as they did. -/
import Derived.Test.YtpjpimahnnekkaaGreatY41
import Derived.Test.YtpjpimahnnekkaaGreatY42
import Derived.Test.YtpjpimahnnekkaaGreatY27
import Derived.Deep.DeepCutAuto
import Derived.Test.YtpjpimahnnekkaaGreatY43
import Derived.Test.YtpjpimahnnekkaaGreatRows
import Derived.ProofKit
import Derived.OpenShut
import Derived.JoinedCond
import Derived.ChangeOld
namespace Go.Proofs.YtpjpimahnnekkaaGreat
open Go.RowKit

theorem mForm_le {m : Ms} {w : World} (h : m.fine w) (hok : mayM m.plain = true) : (mForm m.plain).length ≤ 1000000 := by
  have hr : ∀ p ∈ partsL m.plain.kind, (0 ≤ p ∧ p ≤ 7) ∧ rightM m.plain p = true := fun p hp => ⟨(parts_mem hp).2, (mayM_parts hok).2 p hp⟩
  have hL := parts_len m.plain.kind
  have h1 := flat_le h _ hr
  have h2 : (form m.plain.kind.toNat).length ≤ 10 := form_le10 (by have := h.2.2.2.1.1; unfold I64 at this; have e : m.plain.kind = m.kind := rfl; rw [e]; omega)
  unfold mForm
  simp only [List.length_append]
  have : 5000 * (partsL m.plain.kind).length ≤ 5000 * 4 := Nat.mul_le_mul_left _ hL
  omega
theorem mtake_more {m y : PMs} {c : UInt8} (h : mayM m = true) (hg : GM m) (hy : GM y) (e : takeM (mForm m ++ [c]) = some y) : False := by
  obtain ⟨h1, h2⟩ := takeM_some e
  have := (mForm_pre h hg h1 hy (t := [c]) h2.symm).1
  cases this
theorem mtake_less {m y : PMs} {k : Nat} (hk : k < (mForm m).length) (h : mayM m = true) (hg : GM m) (hy : GM y) (e : takeM ((mForm m).take k) = some y) : False := by
  obtain ⟨h1, h2⟩ := takeM_some e
  have := (mForm_pre h1 hy h hg (t := (mForm m).drop k) (by rw [h2]; exact List.take_append_drop _ _)).1
  have h3 := congrArg List.length this
  simp at h3
  omega
theorem mForm_pos (m : PMs) : 0 < (mForm m).length := by
  unfold mForm
  have := form_length_pos m.kind.toNat
  simp only [List.length_append]
  omega
end Go.Proofs.YtpjpimahnnekkaaGreat

namespace Go.Proofs.YtpjpimahnnekkaaGreat
open Go.RowKit Go.Great

attribute [-go_sem] loadVar storeVar
abbrev rowT : Ms := { zeroMs with kind := 5, pub := 255, tb := 63, tl := 1099511627776, tc := 1099511627776, frm := 1099511627777 }
abbrev rowN (v : Value) : Ms := { zeroMs with kind := 2, pv := v }
theorem rowT_fine (w : World) : rowT.fine w := ⟨(zero_fine w).1, (zero_fine w).2.1, (zero_fine w).2.2.1, by unfold I64; decide, by unfold U64; decide⟩
theorem rowT_ok : mayM rowT.plain = true := by decide +kernel
theorem rowN_plain (v : Value) : (rowN v).plain = (rowN (.slice none 0 0)).plain := rfl
theorem rowN_ok (v : Value) : mayM (rowN v).plain = true := by
  rw [rowN_plain v]
  decide +kernel
theorem rowN_fine {w : World} {v : Value} (h : Cons w v []) : (rowN v).fine w := ⟨⟨h, fun h0 => by simp [zeroMs] at h0⟩, (zero_fine w).2.1, (zero_fine w).2.2.1, by show (I64 2 ∧ I64 0 ∧ I64 0); unfold I64; decide, by show (U64 0 ∧ U64 0 ∧ U64 0 ∧ U64 0); unfold U64; decide⟩
theorem rowT_take : takeM (mForm rowT.plain) = some rowT.plain := takeM_form rowT_ok ⟨default, rowT, rowT_fine _, rfl⟩

theorem bad0 : takeM [] = none := Option.isNone_iff_eq_none.1 (by decide +kernel)
theorem bad1 : takeM [0] = none := Option.isNone_iff_eq_none.1 (by decide +kernel)
theorem bad2 : takeM [7] = none := Option.isNone_iff_eq_none.1 (by decide +kernel)
theorem bad3 : takeM [1] = none := Option.isNone_iff_eq_none.1 (by decide +kernel)
theorem bad4 : takeM [1, 5, 0, 0] = none := Option.isNone_iff_eq_none.1 (by decide +kernel)
theorem bad5 : takeM [1, 128, 2, 1, 0] = none := Option.isNone_iff_eq_none.1 (by decide +kernel)
theorem bad6 : takeM [1, 5, 2, 0, 0] = none := Option.isNone_iff_eq_none.1 (by decide +kernel)
theorem bad7 : takeM [2, 0] = none := Option.isNone_iff_eq_none.1 (by decide +kernel)
theorem bad8 : takeM [5, 64, 1, 9, 7, 1, 0, 4] = none := Option.isNone_iff_eq_none.1 (by decide +kernel)

set_option maxRecDepth 100000 in
set_option maxHeartbeats 1000000 in
theorem mknown_any (w : World) : Calls Tryz.prog 7 #[] w fun e w' => e = .returned (.bool true) ∧ Old w w' := by
  obtain ⟨Y1, hY1⟩ : ∃ W, w.alloc (.cells #[.int .u8 0] 5) = W := ⟨_, rfl⟩
  have oY1 : Old w Y1 := by rw [← hY1]; exact (Keeps.refl _ _).alloc _
  have zY1 : Y1.heap.size = w.heap.size + 1 := by rw [← hY1]; simp
  have sY1 : Sees Y1 (.slice (some ⟨w.heap.size, 0, none⟩) 1 1) [0] := by rw [← hY1]; exact Sees.new w [0] (0, 0) (by unfold maxLen; simp)
  obtain ⟨Y2, hY2⟩ : ∃ W, Y1.alloc (.cells #[.int .u8 7] 5) = W := ⟨_, rfl⟩
  have oY2 : Old Y1 Y2 := by rw [← hY2]; exact (Keeps.refl _ _).alloc _
  have zY2 : Y2.heap.size = w.heap.size + 1 + 1 := by rw [← hY2]; simp [zY1]
  have sY2 : Sees Y2 (.slice (some ⟨w.heap.size + 1, 0, none⟩) 1 1) [7] := by rw [← zY1]; rw [← hY2]; exact Sees.new Y1 [7] (0, 0) (by unfold maxLen; simp)
  obtain ⟨Y3, hY3⟩ : ∃ W, Y2.alloc (.cells #[.int .u8 1] 5) = W := ⟨_, rfl⟩
  have oY3 : Old Y2 Y3 := by rw [← hY3]; exact (Keeps.refl _ _).alloc _
  have zY3 : Y3.heap.size = w.heap.size + 1 + 1 + 1 := by rw [← hY3]; simp [zY2]
  have sY3 : Sees Y3 (.slice (some ⟨w.heap.size + 1 + 1, 0, none⟩) 1 1) [1] := by rw [← zY2]; rw [← hY3]; exact Sees.new Y2 [1] (0, 0) (by unfold maxLen; simp)
  obtain ⟨Y4, hY4⟩ : ∃ W, Y3.alloc (.cells #[.int .u8 1, .int .u8 5, .int .u8 0, .int .u8 0] 5) = W := ⟨_, rfl⟩
  have oY4 : Old Y3 Y4 := by rw [← hY4]; exact (Keeps.refl _ _).alloc _
  have zY4 : Y4.heap.size = w.heap.size + 1 + 1 + 1 + 1 := by rw [← hY4]; simp [zY3]
  have sY4 : Sees Y4 (.slice (some ⟨w.heap.size + 1 + 1 + 1, 0, none⟩) 4 4) [1, 5, 0, 0] := by rw [← zY3]; rw [← hY4]; exact Sees.new Y3 [1, 5, 0, 0] (0, 0) (by unfold maxLen; simp)
  obtain ⟨Y5, hY5⟩ : ∃ W, Y4.alloc (.cells #[.int .u8 1, .int .u8 128, .int .u8 2, .int .u8 1, .int .u8 0] 5) = W := ⟨_, rfl⟩
  have oY5 : Old Y4 Y5 := by rw [← hY5]; exact (Keeps.refl _ _).alloc _
  have zY5 : Y5.heap.size = w.heap.size + 1 + 1 + 1 + 1 + 1 := by rw [← hY5]; simp [zY4]
  have sY5 : Sees Y5 (.slice (some ⟨w.heap.size + 1 + 1 + 1 + 1, 0, none⟩) 5 5) [1, 128, 2, 1, 0] := by rw [← zY4]; rw [← hY5]; exact Sees.new Y4 [1, 128, 2, 1, 0] (0, 0) (by unfold maxLen; simp)
  obtain ⟨Y6, hY6⟩ : ∃ W, Y5.alloc (.cells #[.int .u8 1, .int .u8 5, .int .u8 2, .int .u8 0, .int .u8 0] 5) = W := ⟨_, rfl⟩
  have oY6 : Old Y5 Y6 := by rw [← hY6]; exact (Keeps.refl _ _).alloc _
  have zY6 : Y6.heap.size = w.heap.size + 1 + 1 + 1 + 1 + 1 + 1 := by rw [← hY6]; simp [zY5]
  have sY6 : Sees Y6 (.slice (some ⟨w.heap.size + 1 + 1 + 1 + 1 + 1, 0, none⟩) 5 5) [1, 5, 2, 0, 0] := by rw [← zY5]; rw [← hY6]; exact Sees.new Y5 [1, 5, 2, 0, 0] (0, 0) (by unfold maxLen; simp)
  obtain ⟨Y7, hY7⟩ : ∃ W, Y6.alloc (.cells #[.int .u8 2, .int .u8 0] 5) = W := ⟨_, rfl⟩
  have oY7 : Old Y6 Y7 := by rw [← hY7]; exact (Keeps.refl _ _).alloc _
  have zY7 : Y7.heap.size = w.heap.size + 1 + 1 + 1 + 1 + 1 + 1 + 1 := by rw [← hY7]; simp [zY6]
  have sY7 : Sees Y7 (.slice (some ⟨w.heap.size + 1 + 1 + 1 + 1 + 1 + 1, 0, none⟩) 2 2) [2, 0] := by rw [← zY6]; rw [← hY7]; exact Sees.new Y6 [2, 0] (0, 0) (by unfold maxLen; simp)
  obtain ⟨Y8, hY8⟩ : ∃ W, Y7.alloc (.cells #[.int .u8 5, .int .u8 64, .int .u8 1, .int .u8 9, .int .u8 7, .int .u8 1, .int .u8 0, .int .u8 4] 5) = W := ⟨_, rfl⟩
  have oY8 : Old Y7 Y8 := by rw [← hY8]; exact (Keeps.refl _ _).alloc _
  have zY8 : Y8.heap.size = w.heap.size + 1 + 1 + 1 + 1 + 1 + 1 + 1 + 1 := by rw [← hY8]; simp [zY7]
  have sY8 : Sees Y8 (.slice (some ⟨w.heap.size + 1 + 1 + 1 + 1 + 1 + 1 + 1, 0, none⟩) 8 8) [5, 64, 1, 9, 7, 1, 0, 4] := by rw [← zY7]; rw [← hY8]; exact Sees.new Y7 [5, 64, 1, 9, 7, 1, 0, 4] (0, 0) (by unfold maxLen; simp)
  obtain ⟨Ya, hYa⟩ : ∃ W, Y8.alloc (.cells #[.slice none 0 0, .slice none 0 0, .slice none 0 0, .slice none 0 0, .slice none 0 0, .slice none 0 0, .slice none 0 0, .slice none 0 0, .slice none 0 0] 73) = W := ⟨_, rfl⟩
  have oYa : Old Y8 Ya := by rw [← hYa]; exact (Keeps.refl _ _).alloc _
  have bYa : Ya.heap[Y8.heap.size]? = some (.cells #[.slice none 0 0, .slice none 0 0, .slice none 0 0, .slice none 0 0, .slice none 0 0, .slice none 0 0, .slice none 0 0, .slice none 0 0, .slice none 0 0] 73 (0, 0)) := by rw [← hYa]; exact heap_alloc_new _ _
  obtain ⟨L, hL⟩ : ∃ L : Array Value, #[.slice none 0 0, .slice (some ⟨w.heap.size, 0, none⟩) 1 1, .slice (some ⟨w.heap.size + 1, 0, none⟩) 1 1, .slice (some ⟨w.heap.size + 1 + 1, 0, none⟩) 1 1, .slice (some ⟨w.heap.size + 1 + 1 + 1, 0, none⟩) 4 4, .slice (some ⟨w.heap.size + 1 + 1 + 1 + 1, 0, none⟩) 5 5, .slice (some ⟨w.heap.size + 1 + 1 + 1 + 1 + 1, 0, none⟩) 5 5, .slice (some ⟨w.heap.size + 1 + 1 + 1 + 1 + 1 + 1, 0, none⟩) 2 2, .slice (some ⟨w.heap.size + 1 + 1 + 1 + 1 + 1 + 1 + 1, 0, none⟩) 8 8] = L := ⟨_, rfl⟩
  obtain ⟨Wz, hst, bz, kz⟩ := store_cells bYa (ty := 73) #[.slice none 0 0, .slice (some ⟨w.heap.size, 0, none⟩) 1 1, .slice (some ⟨w.heap.size + 1, 0, none⟩) 1 1, .slice (some ⟨w.heap.size + 1 + 1, 0, none⟩) 1 1, .slice (some ⟨w.heap.size + 1 + 1 + 1, 0, none⟩) 4 4, .slice (some ⟨w.heap.size + 1 + 1 + 1 + 1, 0, none⟩) 5 5, .slice (some ⟨w.heap.size + 1 + 1 + 1 + 1 + 1, 0, none⟩) 5 5, .slice (some ⟨w.heap.size + 1 + 1 + 1 + 1 + 1 + 1, 0, none⟩) 2 2, .slice (some ⟨w.heap.size + 1 + 1 + 1 + 1 + 1 + 1 + 1, 0, none⟩) 8 8] (by simp) (by kernel_rfl) (by simp [Value.oneCell']) (putRange_whole (by simp))
  have oz : Old Y8 Wz := oYa.then kz (fun i hi e => by omega)
  have q7 : Old Y7 Wz := oY8.trans oz
  have q6 : Old Y6 Wz := oY7.trans q7
  have q5 : Old Y5 Wz := oY6.trans q6
  have q4 : Old Y4 Wz := oY5.trans q5
  have q3 : Old Y3 Wz := oY4.trans q4
  have q2 : Old Y2 Wz := oY3.trans q3
  have q1 : Old Y1 Wz := oY2.trans q2
  have q0 : Old w Wz := oY1.trans q1
  have all : ∀ x ∈ L.toList, ∃ p n c b, x = .slice p n c ∧ Sees Wz x b ∧ takeM b = none ∧ b.length ≤ 1000000000 := by
    rw [← hL]
    intro x hx
    simp only [List.mem_cons, List.not_mem_nil, or_false] at hx
    rcases hx with rfl | rfl | rfl | rfl | rfl | rfl | rfl | rfl | rfl
    · exact ⟨_, _, _, [], rfl, Sees.nil _, bad0, by simp⟩
    · exact ⟨_, _, _, _, rfl, sY1.old q1, bad1, by simp⟩
    · exact ⟨_, _, _, _, rfl, sY2.old q2, bad2, by simp⟩
    · exact ⟨_, _, _, _, rfl, sY3.old q3, bad3, by simp⟩
    · exact ⟨_, _, _, _, rfl, sY4.old q4, bad4, by simp⟩
    · exact ⟨_, _, _, _, rfl, sY5.old q5, bad5, by simp⟩
    · exact ⟨_, _, _, _, rfl, sY6.old q6, bad6, by simp⟩
    · exact ⟨_, _, _, _, rfl, sY7.old q7, bad7, by simp⟩
    · exact ⟨_, _, _, _, rfl, sY8.old oz, bad8, by simp⟩
  have hsz : L.size = 9 := by rw [← hL]; rfl
  rw [hL] at bz hst
  have T := Lib.hid (And.intro all (And.intro hsz (And.intro bz q0)))
  rw [zY8] at hst
  clear all hsz bz q0 oY1 sY1 oY2 sY2 oY3 sY3 oY4 sY4 oY5 sY5 oY6 sY6 oY7 sY7 oY8 sY8 q1 q2 q3 q4 q5 q6 q7 oz oYa bYa kz
  go_enter Tryz.func7, Tryz.ntmps7
  go_wp2_with fail
  try rw [hL]
  clear hst hYa hL hY1 hY2 hY3 hY4 hY5 hY6 hY7 hY8 zY1 zY2 zY3 zY4 zY5 zY6 zY7
  rw [zY8] at T
  clear zY8
  go_loopw [2] (fun v2 wr => ∃ i : Nat, i ≤ 9 ∧ v2 = .int .i64 i ∧ Old Wz wr) (fun v2 _ => 9 - (intOf v2).toNat)
  case atStart => exact ⟨0, by omega, rfl, Keeps.refl _ _⟩
  case round =>
    obtain ⟨i, hi, rfl, hk⟩ := hrel
    by_cases hlt : i < 9
    · obtain ⟨x, hx⟩ : ∃ x, L[i]? = some x := ⟨_, Array.getElem?_eq_getElem (by have := T.out.2.1; omega)⟩
      obtain ⟨p, n, c, b, rfl, hs, ht, hbl⟩ := T.out.1 x (by simpa using List.mem_of_getElem? (l := L.toList) (i := i) (by simpa using hx))
      have c0 : wr.cell? ⟨w.heap.size + 1 + 1 + 1 + 1 + 1 + 1 + 1 + 1, i, none⟩ = some (.slice p n c) := by
        have h0 := (hk.block _ (lt_of_heap T.out.2.2.1) (fun f => f)).trans T.out.2.2.1
        simp [World.cell?, h0, hx]
      have C := msg_take_any _ b wr (hs.old hk) hbl
      have HC := Lib.hid C
      have HK := Lib.hid hk
      have HT := Lib.hid ht
      have i1 : (0 : Int) ≤ (i : Int) := by omega
      have i2 : (i : Int) < 9 := by omega
      have lS : ∀ a W, (loadVar 38 a).run Tryz.prog W = (load a).run Tryz.prog W := fun _ _ => by kernel_rfl
      clear C hs ht hx hk hbl
      go_wp2_with fail
      refine HC.out.mono ?_
      rintro e w7 ⟨m7, z7, rfl, k7, ho7, hres7⟩
      rw [HT.out] at hres7
      obtain ⟨rfl, rfl⟩ : m7 = zeroMs ∧ z7 = 5 := by
        rcases hres7 with ⟨h1, _⟩ | ⟨_, h1, h2⟩
        · cases h1
        · exact ⟨h1, h2⟩
      obtain ⟨Wc, hWc⟩ : ∃ W, w7.alloc (.cells zeroMs.cells.toArray 44) = W := ⟨_, rfl⟩
      have bc : MAt Wc w7.heap.size zeroMs := by rw [← hWc]; exact heap_alloc_new _ _
      have oc : Old w7 Wc := by rw [← hWc]; exact (Keeps.refl _ _).alloc _
      obtain ⟨W7, hst7, b7, kb7⟩ := store_msg bc zeroMs ho7.one
      have o7 : Old w7 W7 := oc.then kb7 (fun i hi e => by omega)
      change w7.alloc (.cells #[.int .i64 0, .int .i64 0, .int .u64 0, .bool false, .slice none 0 0, .int .u64 0, .int .u64 0, .string ⟨#[]⟩, .slice none 0 0, .int .i64 0, .int .u64 0, .int .u64 0, .int .u64 0, .int .u64 0, .int .u64 0, .slice none 0 0, .slice none 0 0, .bool false] 44) = Wc at hWc
      have K7 := Lib.hid (HK.out.trans (k7.trans o7))
      clear hres7 bc oc kb7 o7 b7 k7 ho7 HC HK HT
      go_wp2_with fail
      go_roundw
      case rel => exact ⟨i + 1, by omega, by go_num, K7.out⟩
      case measure => simp [intOf]; omega
    · have HK := Lib.hid (T.out.2.2.2.trans hk)
      clear hk T
      obtain ⟨Wa, hWa⟩ : ∃ W, wr.alloc (.cells zeroMs.cells.toArray 44) = W := ⟨_, rfl⟩
      have ba : MAt Wa wr.heap.size zeroMs := by rw [← hWa]; exact heap_alloc_new _ _
      have oa : Old wr Wa := by rw [← hWa]; exact (Keeps.refl _ _).alloc _
      obtain ⟨W2, hst, b2, kb⟩ := store_msg ba rowT (by simp [Ms.cells, zeroMs, Value.oneCell'])
      have o2 : Old wr W2 := oa.then kb (fun i hi e => by omega)
      change (storeVar 44 ⟨wr.heap.size, 0, none⟩ (.agg #[.int .i64 5, .int .i64 255, .int .u64 0, .bool false, .slice none 0 0, .int .u64 0, .int .u64 0, .string ⟨#[]⟩, .slice none 0 0, .int .i64 63, .int .u64 1099511627776, .int .u64 1099511627776, .int .u64 1099511627777, .int .u64 0, .int .u64 0, .slice none 0 0, .slice none 0 0, .bool false])).run Tryz.prog Wa = .ok () W2 at hst
      have g2 := load_msg b2 rfl
      change wr.alloc (.cells #[.int .i64 0, .int .i64 0, .int .u64 0, .bool false, .slice none 0 0, .int .u64 0, .int .u64 0, .string ⟨#[]⟩, .slice none 0 0, .int .i64 0, .int .u64 0, .int .u64 0, .int .u64 0, .int .u64 0, .int .u64 0, .slice none 0 0, .slice none 0 0, .bool false] 44) = Wa at hWa
      have C1 := msg_put_any rowT W2 (rowT_fine W2)
      rw [rowT_ok] at C1
      obtain ⟨F, hF⟩ : ∃ F, mForm rowT.plain = F := ⟨_, rfl⟩
      have hFl := mForm_le (rowT_fine W2) rowT_ok
      have hFt := rowT_take
      rw [hF] at C1 hFl hFt
      have H1 := Lib.hid C1
      have HF := Lib.hid (And.intro hFl hFt)
      have K2 := Lib.hid (And.intro (HK.out.trans o2) b2)
      have hFm : F.length ≤ 9223372036854775807 := by omega
      clear C1 hF hFl hFt ba oa kb o2 b2
      go_wp2_with fail
      refine H1.out.mono ?_
      rintro e w3 ⟨p3, c3, z3, L3, rfl, k3, ho3, hL3, hz3⟩
      simp only [if_true] at hL3 hz3
      subst hL3 hz3
      have C3 := Lib.hid (msg_take_any _ L3 w3 ho3.sees (by have := HF.out.1; omega))
      have K3 := Lib.hid k3
      clear k3 ho3 H1 g2 hst hWa
      go_wp2_with fail
      refine C3.out.mono ?_
      rintro e w5 ⟨m5, z5, rfl, k5, ho5, hres5⟩
      rw [HF.out.2] at hres5
      obtain ⟨hm5, rfl⟩ : m5.plain = rowT.plain ∧ z5 = 0 := by
        rcases hres5 with ⟨h1, h2⟩ | ⟨h1, _⟩
        · exact ⟨(Option.some.inj h1).symm, h2⟩
        · cases h1
      obtain ⟨Wb, hWb⟩ : ∃ W, w5.alloc (.cells zeroMs.cells.toArray 44) = W := ⟨_, rfl⟩
      have bb : MAt Wb w5.heap.size zeroMs := by rw [← hWb]; exact heap_alloc_new _ _
      have ob : Old w5 Wb := by rw [← hWb]; exact (Keeps.refl _ _).alloc _
      obtain ⟨W5, hst5, b5, kb5⟩ := store_msg bb m5 ho5.one
      have o5 : Old w5 W5 := ob.then kb5 (fun i hi e => by omega)
      change w5.alloc (.cells #[.int .i64 0, .int .i64 0, .int .u64 0, .bool false, .slice none 0 0, .int .u64 0, .int .u64 0, .string ⟨#[]⟩, .slice none 0 0, .int .i64 0, .int .u64 0, .int .u64 0, .int .u64 0, .int .u64 0, .int .u64 0, .slice none 0 0, .slice none 0 0, .bool false] 44) = Wb at hWb
      have K5 := Lib.hid (And.intro (K3.out.trans (k5.trans o5)) (And.intro ((ho5.old o5).fine) (And.intro b5 hm5)))
      clear hres5 bb ob kb5 o5 k5 ho5 hm5 C3 b5
      obtain ⟨X1, hX1⟩ : ∃ W, W5.alloc (.cells #[] 72) = W := ⟨_, rfl⟩
      have oX1 : Old W5 X1 := by rw [← hX1]; exact (Keeps.refl _ _).alloc _
      have sX1 : SeesR X1 7 Con.cells (.slice (some ⟨W5.heap.size, 0, none⟩) 0 0) [] := by rw [← hX1]; exact SeesR.new (k := 7) (enc := Con.cells) W5 _ (0, 0) [] _ (by simp) (fun _ => rfl) (by unfold maxLen; simp)
      have zX1 : X1.heap.size = W5.heap.size + 1 := by rw [← hX1]; simp
      obtain ⟨X2, hX2⟩ : ∃ W, X1.alloc (.cells zeroMs.cells.toArray 44) = W := ⟨_, rfl⟩
      have bX2 : MAt X2 X1.heap.size zeroMs := by rw [← hX2]; exact heap_alloc_new _ _
      have oX2 : Old X1 X2 := by rw [← hX2]; exact (Keeps.refl _ _).alloc _
      obtain ⟨W6, hst6, b6, kb6⟩ := store_msg bX2 (rowN (.slice (some ⟨W5.heap.size, 0, none⟩) 0 0)) (by simp [Ms.cells, zeroMs, Value.oneCell'])
      have o6 : Old X1 W6 := oX2.then kb6 (fun i hi e => by omega)
      have c6 : Cons W6 (.slice (some ⟨W5.heap.size, 0, none⟩) 0 0) [] := ⟨sX1.old o6, fun x hx => (by cases hx)⟩
      change X1.alloc (.cells #[.int .i64 0, .int .i64 0, .int .u64 0, .bool false, .slice none 0 0, .int .u64 0, .int .u64 0, .string ⟨#[]⟩, .slice none 0 0, .int .i64 0, .int .u64 0, .int .u64 0, .int .u64 0, .int .u64 0, .int .u64 0, .slice none 0 0, .slice none 0 0, .bool false] 44) = X2 at hX2
      change (storeVar 44 ⟨X1.heap.size, 0, none⟩ (.agg #[.int .i64 2, .int .i64 0, .int .u64 0, .bool false, .slice (some ⟨W5.heap.size, 0, none⟩) 0 0, .int .u64 0, .int .u64 0, .string ⟨#[]⟩, .slice none 0 0, .int .i64 0, .int .u64 0, .int .u64 0, .int .u64 0, .int .u64 0, .int .u64 0, .slice none 0 0, .slice none 0 0, .bool false])).run Tryz.prog X2 = .ok () W6 at hst6
      have o56 : Old W5 W6 := oX1.trans o6
      have g5 := load_msg ((o56.block _ (lt_of_heap K5.out.2.2.1) (fun f => f)).trans K5.out.2.2.1) rfl
      have k26 := K5.out.1.trans o56
      have g2 := load_msg ((k26.block _ (lt_of_heap K2.out.2) (fun f => f)).trans K2.out.2) rfl
      have g6 := load_msg b6 rfl
      rw [zX1] at hst6 g6
      have C6 := msg_same_any m5 rowT W6 (K5.out.2.1.old o56) (rowT_fine W6)
      rw [K5.out.2.2.2, (sameM_iff _ _).2 rfl] at C6
      have H6 := Lib.hid C6
      have N6 := Lib.hid (And.intro (rowN_fine c6) (K2.out.1.trans k26))
      have b6' := Lib.hid (zX1 ▸ b6)
      clear oX1 sX1 bX2 oX2 kb6 o6 c6 o56 k26 b6 C6 K5 K2
      go_wp2_with fail
      refine H6.out.mono ?_
      rintro e w7 ⟨rfl, k7⟩
      have C7 := msg_may_any _ w7 (N6.out.1.old k7)
      rw [rowN_ok] at C7
      have H7 := Lib.hid C7
      have g7 := load_msg ((k7.block _ (lt_of_heap b6'.out) (fun f => f)).trans b6'.out) rfl
      have K7 := Lib.hid k7
      clear k7 C7 g5 g2 g6 H6 zX1 hX1 hX2 hst6
      go_wp2_with fail
      refine H7.out.mono ?_
      rintro e w8 ⟨rfl, k8⟩
      have K8 := Lib.hid (K7.out.trans k8)
      have C8 := msg_same_any _ (rowN (.slice none 0 0)) w8 (N6.out.1.old K8.out) (rowN_fine ⟨SeesR.nil _, fun x hx => (by cases hx)⟩)
      rw [rowN_plain, (sameM_iff _ _).2 rfl] at C8
      have H8 := Lib.hid C8
      have g8 := load_msg ((K8.out.block _ (lt_of_heap b6'.out) (fun f => f)).trans b6'.out) rfl
      have CH1 := Lib.hid (fun W => home_any (-1) W ⟨by decide, by decide⟩)
      have CH2 := Lib.hid (fun W => home_any 0 W ⟨by decide, by decide⟩)
      have CH3 := Lib.hid (fun W => home_any 255 W ⟨by decide, by decide⟩)
      have e1 : homeZ (-1) = -1 := by decide
      have e2 : homeZ 0 = 0 := by decide
      have e3 : homeZ 255 = 63 := by decide
      rw [e1] at CH1
      rw [e2] at CH2
      rw [e3] at CH3
      clear k8 C8 g7 K7 H7 e1 e2 e3
      go_wp2_with fail
      refine H8.out.mono ?_
      rintro e w9 ⟨rfl, k9⟩
      have K9 := Lib.hid (N6.out.2.trans (K8.out.trans k9))
      clear k9 g8 H8
      go_wp2_with fail
      refine (CH1.out _).mono ?_
      rintro e wa ⟨rfl, rfl⟩
      go_wp2_with fail
      refine (CH2.out _).mono ?_
      rintro e wa ⟨rfl, rfl⟩
      go_wp2_with fail
      refine (CH3.out _).mono ?_
      rintro e wa ⟨rfl, rfl⟩
      go_wp2_with fail
      refine (mwakes_any _).mono ?_
      rintro e wa ⟨rfl, ka⟩
      have KA := Lib.hid (K9.out.trans ka)
      clear ka
      go_wp2_with fail
      go_ret
      exact ⟨rfl, KA.out⟩
end Go.Proofs.YtpjpimahnnekkaaGreat

namespace Go.Proofs.YtpjpimahnnekkaaGreat
open Go.ChangeShapes Go.WideShapes Go.ChangeAt Go.RowKit

theorem walk_MsgKnown (W : World) : Calls Tryz.prog 7 #[] W fun e W' => e = .returned (.bool true) ∧ Below W.heap.size W W' :=
  (mknown_any W).mono fun _e _W' h => ⟨h.1, Old.below h.2⟩
end Go.Proofs.YtpjpimahnnekkaaGreat

namespace Go.Proofs.YtpjpimahnnekkaaGreat.msgKnown
open Go.ChangeShapes Go.WideShapes Go.ChangeAt Go.RowKit
theorem own : ownKnob Tryz.prog.godebug = none := by kernel_rfl
theorem laidOut : laidOutB Tryz.prog = true := by kernel_rfl

set_option maxRecDepth 100000 in
theorem lifted (os : Os) (started : os.Started) (H : Type) (enc : TypeId × Value → H) :
    ReturnsInHanded {} Tryz.checked os 7 .any (Rows.msgKnownSpec.pre6 enc Tryz.prog Tryz.f7 Rows.msgKnownRow.domain false) (Rows.msgKnownSpec.post enc Tryz.prog Tryz.f7 false true false false) := by
  refine returnsInHanded_of_change (C := Tryz.checked) own started (by kernel_rfl) Tryz.func7
    (ChangeSpec.witness6 (enc := enc) (C := Tryz.checked) false ⟨#[], #[], []⟩ 8 (by kernel_rfl) (by kernel_rfl) (by kernel_rfl) (by kernel_rfl)) ?_
  intro W base args ds gs before hval0 hW _ _
  have hval : ∀ (j : Nat) t v, Tryz.f7.params[j]? = some t → args[j]? = some v → Value.okWide Tryz.prog W .any base t v := hval0
  have hW' := hW
  obtain ⟨p, q, hA0, hV, rfl, hfz, hnd⟩ := hW
  have hA : DataW.TrodAll enc Tryz.prog W 0 (fun _ => true) true Tryz.f7.params.toList args.toList ds p := hA0
  rw [Tryz.params7] at hA hval
  obtain ⟨rfl, rfl, rfl⟩ := trodAll_none hA
  obtain ⟨rfl, rfl⟩ := trodVars_none hV
  clear hA0 hval0
  refine (walk_MsgKnown W).mono fun e W' ⟨he, bel⟩ => ?_
  subst he
  exact ⟨_, rfl, _, _, _, [], _, [], hW', trodAll_mk1 (shut_bool Tryz.underlying4 _), trodAll_mk0, rfl, bel.frame _, fun h => by cases h⟩

theorem proved : Rows.MsgKnownSaid :=
  OpenClaim.holds_of_wide 7 Tryz.f7 rfl rfl rfl rfl rfl rfl rfl ⟨rfl, rfl, rfl, rfl, rfl⟩ rfl rfl rfl rfl rfl (by kernel_rfl) Tryz.func7 (by kernel_rfl)
    (of_decide_eq_true (by kernel_rfl)) (by unfold Func.isWrapper; first | (rw [if_pos (by decide +kernel)]; kernel_rfl) | (rw [if_neg (by decide +kernel)]; exact ⟨rfl, rfl⟩))
    (fun os started H enc _ => lifted os started H enc)
end Go.Proofs.YtpjpimahnnekkaaGreat.msgKnown
