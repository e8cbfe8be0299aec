/- DERIVED. The chapter's rows (layer 7). · DERIVED. Bytes appended, as one step of a region that draws. · DERIVED. How arguments read: bytes; and what the bound on their bulk gives. -/
import Derived.Test.YtlpbbcjmmhabfaaY21
import Derived.Test.YtlpbbcjmmhabfaaRows
import Derived.Test.YtlpbbcjmmhabfaaY01
import Derived.ProofKit
import Derived.OpenShut
namespace Go.Proofs.Ytlpbbcjmmhabfaa
open Go.RowKit

abbrev wForm : List UInt8 := [1, 107, 3, 1, 97, 1, 1, 1, 98, 2, 1, 120, 1, 99, 3, 1]
theorem small_ok : evOk ⟨#[107]⟩ smallL = true := by decide +kernel
theorem small_form : evForm ⟨#[107]⟩ smallL = wForm := by
  have z : zigN (-1) = 1 := by decide
  simp [evForm, smallL, atForm, valForm, form_lt, ByteArray.size, z]
theorem small_fits : Fits smallL := by
  intro a ha
  simp [smallL] at ha
  rcases ha with rfl | rfl | rfl <;> simp [ByteArray.size]
theorem take_small : takeE wForm = some (⟨#[107]⟩, smallL) := by
  have h := pEvent_fwd [] small_ok small_fits
  rw [small_form, List.append_nil] at h
  unfold takeE
  rw [h]
  simp [small_ok]
theorem take_more : takeE (wForm ++ [0]) = none := by
  have h := pEvent_fwd [0] small_ok small_fits
  rw [small_form] at h
  unfold takeE
  rw [h]
  simp
theorem take_less : takeE [1, 107, 3, 1, 97] = none := Option.isNone_iff_eq_none.1 (by decide +kernel)
theorem take_odd : takeE [129, 0, 107, 0] = none := Option.isNone_iff_eq_none.1 (by decide +kernel)
abbrev hasA (v : Value) : Con := ⟨⟨#[97]⟩, 1, noVal, v, []⟩
theorem hasA_ok (v : Value) : predOk [hasA v] = true := by
  have h1 : conOk (hasA v) = conOk (hasA .nilIface) := rfl
  have h2 : conOk (hasA .nilIface) = true := by decide +kernel
  have h := h1.trans h2
  simp [predOk, h]
theorem hasA_form (v : Value) : predForm ([hasA v].map Con.plain) = [1, 1, 97, 1] := by
  simp [predForm, conForm, Con.plain, form_lt, ByteArray.size]
abbrev pg35 : Pg := ⟨3, 5, .slice none 0 0, [], .slice none 0 0, [], true⟩
theorem pg35_ok : pgOk pg35.plain = true := by decide +kernel
theorem pg35_form : pageForm pg35.plain = [3, 5, 0, 0, 1] := by
  simp [pageForm, Pg.plain, form_lt]
theorem pg35_fine (w : World) : pg35.fine w := ⟨⟨SeesR.nil w, fun _ h => (by cases h), SeesR.nil w⟩, fun _ h => (by cases h), ⟨by decide, by decide⟩, fun h => (by cases h), fun h => (by cases h)⟩
theorem same_small : sameE ⟨#[107]⟩ smallL ⟨#[107]⟩ smallL = true := by decide +kernel
theorem size_small : evSize ⟨#[107]⟩ smallL = 16 := by unfold evSize; rw [small_ok, small_form]; rfl

set_option maxRecDepth 100000 in
set_option maxHeartbeats 8000000 in
theorem wakes_any (w : World) : Calls Try.prog 18 #[] w fun e w' => e = .returned (.bool true) ∧ Old w w' := by
  have CS := Lib.hid (fun W => small_any W)
  go_enter Try.func18, Try.ntmps18
  go_wp2_with fail
  refine (CS.out _).mono ?_
  rintro e w1 ⟨p1, n1, c1, rfl, hs1, hl1, k1⟩
  have CP := Lib.hid (put_event_any ⟨#[107]⟩ _ smallL w1 hs1 (fun _ => hl1) small_ok small_fits)
  have K1 := Lib.hid k1
  clear hs1 hl1 k1
  go_wp2_with fail
  refine CP.out.mono ?_
  rintro e w2 ⟨pa, na, ca, rfl, hoa, k2⟩
  rw [small_form] at hoa
  have KA := Lib.hid (And.intro hoa.sees (K1.out.trans k2))
  have hcon : Cons (w2.alloc (.cells #[.string ⟨#[97]⟩, .int .i64 1, .int .i64 0, .int .i64 0, .string ⟨#[]⟩, .bool false, .slice none 0 0] 105)) (.slice (some ⟨w2.heap.size, 0, none⟩) 1 1) [hasA (.slice none 0 0)] :=
    ⟨SeesR.new (k := 7) (enc := Con.cells) w2 _ (0, 0) [hasA (.slice none 0 0)] _ (by simp [Con.cells]) (fun _ => rfl) (by unfold maxLen; simp), fun x hx => by
      obtain rfl : x = hasA (.slice none 0 0) := by simpa using hx
      exact ⟨SeesR.nil _, ⟨by simp [ByteArray.size], by simp, by simp⟩, fun _ h => (by cases h), fun h => (by cases h)⟩⟩
  have CQ := Lib.hid (put_pred_any _ _ _ hcon (fun _ k hk => by simp [Value.ownBlock] at hk; subst hk; simp) (hasA_ok _))
  have o3 := Lib.hid (show Old w2 (w2.alloc (.cells #[.string ⟨#[97]⟩, .int .i64 1, .int .i64 0, .int .i64 0, .string ⟨#[]⟩, .bool false, .slice none 0 0] 105)) from (Keeps.refl _ _).alloc _)
  clear hoa k2 hcon CP
  go_wp2_with fail
  refine CQ.out.mono ?_
  rintro e w3 ⟨pb, nb, cb, rfl, hob, k3⟩
  rw [hasA_form] at hob
  have KB := Lib.hid (And.intro hob.sees (o3.out.trans k3))
  have CG := Lib.hid (put_page_any pg35 w3 (pg35_fine w3) pg35_ok)
  unfold Pg.cells at CG
  clear hob k3 CQ
  go_wp2_with fail
  refine CG.out.mono ?_
  rintro e w4 ⟨pc, nc, cc, rfl, hoc, k4⟩
  rw [pg35_form] at hoc
  have KC := Lib.hid (And.intro hoc.sees k4)
  clear hoc k4 CG
  obtain ⟨q5, d5, w5, hrun5, s5, k5, _⟩ := conv_str w4 ⟨#[1, 107, 3, 1, 97, 1, 1, 1, 98, 2, 1, 120, 1, 99, 3, 1]⟩ (by unfold maxLen; simp [ByteArray.size])
  have e5 : (⟨#[1, 107, 3, 1, 97, 1, 1, 1, 98, 2, 1, 120, 1, 99, 3, 1]⟩ : ByteArray).toList = wForm := by rw [ByteArray.toList_eq]
  rw [e5] at s5
  have CT := Lib.hid (take_event_any _ _ w5 s5 (by simp))
  rw [take_small] at CT
  have K5 := Lib.hid k5
  clear s5 k5 e5
  go_wp2_with fail
  refine CT.out.mono ?_
  rintro e w6 ⟨k6, p6, n6, c6, rfl, ho6⟩
  obtain ⟨W6, hW6⟩ : ∃ W6, w6.alloc (.cells #[.string ⟨#[107]⟩, .slice p6 n6 c6] 24) = W6 := ⟨_, rfl⟩
  have o6 : Old w6 W6 := by rw [← hW6]; exact (Keeps.refl _ _).alloc _
  have b6 : W6.heap[w6.heap.size]? = some (.cells #[.string ⟨#[107]⟩, .slice p6 n6 c6] 24 (0, 0)) := by rw [← hW6]; exact heap_alloc_new _ _
  have K6 := Lib.hid (And.intro (k6.trans o6) (And.intro b6 (SeesR.old (ho6.sees (fun _ => rfl) (by decide)) o6)))
  clear k6 o6 b6 ho6 CT hrun5
  obtain ⟨q7, d7, w7, hrun7, s7, k7, _⟩ := conv_str W6 ((⟨#[1, 107, 3, 1, 97, 1, 1, 1, 98, 2, 1, 120, 1, 99, 3, 1]⟩ : ByteArray) ++ (⟨#[0]⟩ : ByteArray)) (by unfold maxLen; simp [ByteArray.size])
  have e7 : ((⟨#[1, 107, 3, 1, 97, 1, 1, 1, 98, 2, 1, 120, 1, 99, 3, 1]⟩ : ByteArray) ++ (⟨#[0]⟩ : ByteArray)).toList = wForm ++ [0] := by decide +kernel
  rw [e7] at s7
  have CT7 := Lib.hid (take_event_any _ _ w7 s7 (by simp))
  rw [take_more] at CT7
  have K7 := Lib.hid k7
  clear s7 k7 e7
  go_wp2_with fail
  refine CT7.out.mono ?_
  rintro e w8 ⟨k8, rfl⟩
  have K8 := Lib.hid (K7.out.trans (k8.alloc (.cells #[.string ⟨#[]⟩, .slice none 0 0] 24)))
  clear k8 CT7 hrun7
  go_wp2_with fail
  obtain ⟨q9, d9, w9, hrun9, s9, k9, _⟩ := conv_str (w8.alloc (.cells #[.string ⟨#[]⟩, .slice none 0 0] 24)) ((⟨#[1, 107, 3, 1, 97, 1, 1, 1, 98, 2, 1, 120, 1, 99, 3, 1]⟩ : ByteArray).extract 0 5) (by unfold maxLen; simp [ByteArray.size])
  have e9 : ((⟨#[1, 107, 3, 1, 97, 1, 1, 1, 98, 2, 1, 120, 1, 99, 3, 1]⟩ : ByteArray).extract 0 5).toList = [1, 107, 3, 1, 97] := by decide +kernel
  rw [e9] at s9
  have CT9 := Lib.hid (take_event_any _ _ w9 s9 (by simp))
  rw [take_less] at CT9
  have K9 := Lib.hid k9
  clear s9 k9 e9
  rw [hrun9]
  go_wp2_with fail
  refine CT9.out.mono ?_
  rintro e w10 ⟨k10, rfl⟩
  have K10 := Lib.hid (K9.out.trans (k10.alloc (.cells #[.string ⟨#[]⟩, .slice none 0 0] 24)))
  have hz10 : (w10.alloc (.cells #[.string ⟨#[]⟩, .slice none 0 0] 24)).heap.size = w10.heap.size + 1 := by simp
  have kc := conv_const (w10.alloc (.cells #[.string ⟨#[]⟩, .slice none 0 0] 24)) #[.int .u8 129, .int .u8 0, .int .u8 107, .int .u8 0] 4 4
  rw [hz10] at kc
  have KC1 := Lib.hid kc
  clear kc
  have s11 : Sees ((w10.alloc (.cells #[.string ⟨#[]⟩, .slice none 0 0] 24)).alloc (.cells #[.int .u8 129, .int .u8 0, .int .u8 107, .int .u8 0] 5 (4, 5))) (.slice (some ⟨w10.heap.size + 1, 0, none⟩) 4 4) [129, 0, 107, 0] := by rw [← hz10]; exact Sees.new (w10.alloc (.cells #[.string ⟨#[]⟩, .slice none 0 0] 24)) [129, 0, 107, 0] (4, 5) (by unfold maxLen; simp)
  have CT11 := Lib.hid (take_event_any _ _ _ s11 (by simp))
  rw [take_odd] at CT11
  have K11 := Lib.hid (show Old (w10.alloc (.cells #[.string ⟨#[]⟩, .slice none 0 0] 24)) _ from (Keeps.refl _ _).alloc (.cells #[.int .u8 129, .int .u8 0, .int .u8 107, .int .u8 0] 5 (4, 5)))
  clear k10 CT9 hrun9 s11 hz10
  go_wp2_with fail
  rw [KC1.out]
  go_wp2_with fail
  refine CT11.out.mono ?_
  rintro e w12 ⟨k12, rfl⟩
  have K12 := Lib.hid (K11.out.trans (k12.alloc (.cells #[.string ⟨#[]⟩, .slice none 0 0] 24)))
  clear k12 CT11
  -- REGION 9
  have z12 : Old (w10.alloc (.cells #[.string ⟨#[]⟩, .slice none 0 0] 24)) (w12.alloc (.cells #[.string ⟨#[]⟩, .slice none 0 0] 24)) := K12.out
  have z10 : Old (w8.alloc (.cells #[.string ⟨#[]⟩, .slice none 0 0] 24)) (w12.alloc (.cells #[.string ⟨#[]⟩, .slice none 0 0] 24)) := K10.out.trans z12
  have z6 : Old W6 (w12.alloc (.cells #[.string ⟨#[]⟩, .slice none 0 0] 24)) := K8.out.trans z10
  have z4 : Old w4 (w12.alloc (.cells #[.string ⟨#[]⟩, .slice none 0 0] 24)) := (K5.out.trans K6.out.1).trans z6
  have z3 : Old w3 (w12.alloc (.cells #[.string ⟨#[]⟩, .slice none 0 0] 24)) := KC.out.2.trans z4
  have z2 : Old w2 (w12.alloc (.cells #[.string ⟨#[]⟩, .slice none 0 0] 24)) := KB.out.2.trans z3
  have zw : Old w (w12.alloc (.cells #[.string ⟨#[]⟩, .slice none 0 0] 24)) := KA.out.2.trans z2
  have sa := KA.out.1.old z2
  have sb := KB.out.1.old z3
  have sc := KC.out.1.old z4
  have b8 := (z6.block _ (lt_of_heap K6.out.2.1) (fun f => f)).trans K6.out.2.1
  have se := SeesR.old K6.out.2.2 z6
  have h12 := Lib.hid (And.intro zw (And.intro sa (And.intro sb (And.intro sc (And.intro b8 se)))))
  clear z12 z10 z6 z4 z3 z2 zw sa sb sc b8 se KA KB KC K5 K6 K7 K8 K9 K10 K11 K12 KC1 o3 K1
  go_wp2_with fail
  obtain ⟨X, hX⟩ : ∃ X, w12.alloc (.cells #[.string ⟨#[]⟩, .slice none 0 0] 24) = X := ⟨_, rfl⟩
  rw [hX] at h12 ⊢
  clear hX
  have SM := Lib.hid (fun W => small_any W)
  refine wp_region_g (S := fun W' => Old X W') (M := List.range 55) (by kernel_rfl) ?_
  have hS : Old X X.drew := (Keeps.refl _ _).drew
  refine wpAnyG_takeL (i := 0) (oi := _) (v := ?va0) rfl (by kernel_rfl) (by kernel_rfl) (by kernel_rfl) (by kernel_rfl) (fun _ _ _ h => h) (Or.inl ⟨by rfl, ?ya0⟩) hS ?ra0
  case ya0 => (intro W hSw; go_simp; try with_reducible rfl)
  try simp only [Act.put, List.setIfInBounds_toArray, List.set_cons_zero, List.set_cons_succ]
  refine wpAnyG_takeL (i := 1) (oi := _) (v := ?va1) rfl (by kernel_rfl) (by kernel_rfl) (by kernel_rfl) (by kernel_rfl) (fun _ _ _ h => h) (Or.inl ⟨by rfl, ?ya1⟩) hS ?ra1
  case ya1 => (intro W hSw; go_simp; try with_reducible rfl)
  try simp only [Act.put, List.setIfInBounds_toArray, List.set_cons_zero, List.set_cons_succ]
  refine wpAnyG_takeL (i := 2) (oi := _) (v := ?va2) rfl (by kernel_rfl) (by kernel_rfl) (by kernel_rfl) (by kernel_rfl) (fun _ _ _ h => h) (Or.inl ⟨by rfl, ?ya2⟩) hS ?ra2
  case ya2 => (intro W hSw; go_simp; try with_reducible rfl)
  try simp only [Act.put, List.setIfInBounds_toArray, List.set_cons_zero, List.set_cons_succ]
  refine wpAnyG_takeL (i := 3) (oi := _) (v := ?va3) rfl (by kernel_rfl) (by kernel_rfl) (by kernel_rfl) (by kernel_rfl) (fun _ _ _ h => h) (Or.inl ⟨by rfl, ?ya3⟩) hS ?ra3
  case ya3 => (intro W hSw; go_simp; try with_reducible rfl)
  try simp only [Act.put, List.setIfInBounds_toArray, List.set_cons_zero, List.set_cons_succ]
  refine wpAnyG_takeL (i := 4) (oi := _) (v := ?va4) rfl (by kernel_rfl) (by kernel_rfl) (by kernel_rfl) (by kernel_rfl) (fun _ _ _ h => h) (Or.inl ⟨by rfl, ?ya4⟩) hS ?ra4
  case ya4 => (intro W hSw; have tt := (h12.out.2.1.old hSw).text; go_simp; try with_reducible rfl)
  try simp only [Act.put, List.setIfInBounds_toArray, List.set_cons_zero, List.set_cons_succ]
  refine wpAnyG_takeL (i := 5) (oi := _) (v := ?va5) rfl (by kernel_rfl) (by kernel_rfl) (by kernel_rfl) (by kernel_rfl) (fun _ _ _ h => h) (Or.inl ⟨by rfl, ?ya5⟩) hS ?ra5
  case ya5 => (intro W hSw; go_simp; try with_reducible rfl)
  try simp only [Act.put, List.setIfInBounds_toArray, List.set_cons_zero, List.set_cons_succ]
  refine wpAnyG_takeL (i := 6) (oi := _) (v := ?va6) rfl (by kernel_rfl) (by kernel_rfl) (by kernel_rfl) (by kernel_rfl) (fun _ _ _ h => h) (Or.inl ⟨by rfl, ?ya6⟩) hS ?ra6
  case ya6 => (intro W hSw; have bs := bytes_self; go_simp; try with_reducible rfl)
  try simp only [Act.put, List.setIfInBounds_toArray, List.set_cons_zero, List.set_cons_succ]
  refine wpAnyG_takeL (i := 7) (oi := _) (v := ?va7) rfl (by kernel_rfl) (by kernel_rfl) (by kernel_rfl) (by kernel_rfl) (fun _ _ _ h => h) (Or.inl ⟨by rfl, ?ya7⟩) hS ?ra7
  case ya7 => (intro W hSw; go_simp; try with_reducible rfl)
  try simp only [Act.put, List.setIfInBounds_toArray, List.set_cons_zero, List.set_cons_succ]
  refine wpAnyG_takeL (i := 8) (oi := _) (v := ?va8) rfl (by kernel_rfl) (by kernel_rfl) (by kernel_rfl) (by kernel_rfl) (fun _ _ _ h => h) (Or.inl ⟨by rfl, ?ya8⟩) hS ?ra8
  case ya8 => (intro W hSw; go_simp; try with_reducible rfl)
  try simp only [Act.put, List.setIfInBounds_toArray, List.set_cons_zero, List.set_cons_succ]
  refine wpAnyG_takeL (i := 9) (oi := _) (v := ?va9) rfl (by kernel_rfl) (by kernel_rfl) (by kernel_rfl) (by kernel_rfl) (fun _ _ _ h => h) (Or.inl ⟨by rfl, ?ya9⟩) hS ?ra9
  case ya9 => (intro W hSw; go_simp; try with_reducible rfl)
  try simp only [Act.put, List.setIfInBounds_toArray, List.set_cons_zero, List.set_cons_succ]
  refine wpAnyG_takeL (i := 10) (oi := _) (v := ?va10) rfl (by kernel_rfl) (by kernel_rfl) (by kernel_rfl) (by kernel_rfl) (fun _ _ _ h => h) (Or.inl ⟨by rfl, ?ya10⟩) hS ?ra10
  case ya10 => (intro W hSw; go_simp; try with_reducible rfl)
  try simp only [Act.put, List.setIfInBounds_toArray, List.set_cons_zero, List.set_cons_succ]
  refine wpAnyG_takeL (i := 11) (oi := _) (v := ?va11) rfl (by kernel_rfl) (by kernel_rfl) (by kernel_rfl) (by kernel_rfl) (fun _ _ _ h => h) (Or.inl ⟨by rfl, ?ya11⟩) hS ?ra11
  case ya11 => (intro W hSw; go_simp; try with_reducible rfl)
  try simp only [Act.put, List.setIfInBounds_toArray, List.set_cons_zero, List.set_cons_succ]
  refine wpAnyG_takeL (i := 12) (oi := _) (v := ?va12) rfl (by kernel_rfl) (by kernel_rfl) (by kernel_rfl) (by kernel_rfl) (fun _ _ _ h => h) (Or.inl ⟨by rfl, ?ya12⟩) hS ?ra12
  case ya12 => (intro W hSw; go_simp; try with_reducible rfl)
  try simp only [Act.put, List.setIfInBounds_toArray, List.set_cons_zero, List.set_cons_succ]
  refine wpAnyG_takeL (i := 13) (oi := _) (v := ?va13) rfl (by kernel_rfl) (by kernel_rfl) (by kernel_rfl) (by kernel_rfl) (fun _ _ _ h => h) (Or.inl ⟨by rfl, ?ya13⟩) hS ?ra13
  case ya13 => (intro W hSw; go_simp; try with_reducible rfl)
  try simp only [Act.put, List.setIfInBounds_toArray, List.set_cons_zero, List.set_cons_succ]
  refine wpAnyG_takeL (i := 14) (oi := _) (v := ?va14) rfl (by kernel_rfl) (by kernel_rfl) (by kernel_rfl) (by kernel_rfl) (fun _ _ _ h => h) (Or.inl ⟨by rfl, ?ya14⟩) hS ?ra14
  case ya14 => (intro W hSw; have tt := (h12.out.2.2.1.old hSw).text; go_simp; try with_reducible rfl)
  try simp only [Act.put, List.setIfInBounds_toArray, List.set_cons_zero, List.set_cons_succ]
  refine wpAnyG_takeL (i := 15) (oi := _) (v := ?va15) rfl (by kernel_rfl) (by kernel_rfl) (by kernel_rfl) (by kernel_rfl) (fun _ _ _ h => h) (Or.inl ⟨by rfl, ?ya15⟩) hS ?ra15
  case ya15 => (intro W hSw; have bs := bytes_self; go_simp; try with_reducible rfl)
  try simp only [Act.put, List.setIfInBounds_toArray, List.set_cons_zero, List.set_cons_succ]
  refine wpAnyG_takeL (i := 16) (oi := _) (v := ?va16) rfl (by kernel_rfl) (by kernel_rfl) (by kernel_rfl) (by kernel_rfl) (fun _ _ _ h => h) (Or.inl ⟨by rfl, ?ya16⟩) hS ?ra16
  case ya16 => (intro W hSw; go_simp; try with_reducible rfl)
  try simp only [Act.put, List.setIfInBounds_toArray, List.set_cons_zero, List.set_cons_succ]
  refine wpAnyG_takeL (i := 17) (oi := _) (v := ?va17) rfl (by kernel_rfl) (by kernel_rfl) (by kernel_rfl) (by kernel_rfl) (fun _ _ _ h => h) (Or.inl ⟨by rfl, ?ya17⟩) hS ?ra17
  case ya17 => (intro W hSw; go_simp; try with_reducible rfl)
  try simp only [Act.put, List.setIfInBounds_toArray, List.set_cons_zero, List.set_cons_succ]
  refine wpAnyG_takeL (i := 18) (oi := _) (v := ?va18) rfl (by kernel_rfl) (by kernel_rfl) (by kernel_rfl) (by kernel_rfl) (fun _ _ _ h => h) (Or.inl ⟨by rfl, ?ya18⟩) hS ?ra18
  case ya18 => (intro W hSw; go_simp; try with_reducible rfl)
  try simp only [Act.put, List.setIfInBounds_toArray, List.set_cons_zero, List.set_cons_succ]
  refine wpAnyG_takeL (i := 19) (oi := _) (v := ?va19) rfl (by kernel_rfl) (by kernel_rfl) (by kernel_rfl) (by kernel_rfl) (fun _ _ _ h => h) (Or.inl ⟨by rfl, ?ya19⟩) hS ?ra19
  case ya19 => (intro W hSw; go_simp; try with_reducible rfl)
  try simp only [Act.put, List.setIfInBounds_toArray, List.set_cons_zero, List.set_cons_succ]
  refine wpAnyG_takeL (i := 20) (oi := _) (v := ?va20) rfl (by kernel_rfl) (by kernel_rfl) (by kernel_rfl) (by kernel_rfl) (fun _ _ _ h => h) (Or.inl ⟨by rfl, ?ya20⟩) hS ?ra20
  case ya20 => (intro W hSw; go_simp; try with_reducible rfl)
  try simp only [Act.put, List.setIfInBounds_toArray, List.set_cons_zero, List.set_cons_succ]
  refine wpAnyG_takeL (i := 21) (oi := _) (v := ?va21) rfl (by kernel_rfl) (by kernel_rfl) (by kernel_rfl) (by kernel_rfl) (fun _ _ _ h => h) (Or.inl ⟨by rfl, ?ya21⟩) hS ?ra21
  case ya21 => (intro W hSw; go_simp; try with_reducible rfl)
  try simp only [Act.put, List.setIfInBounds_toArray, List.set_cons_zero, List.set_cons_succ]
  refine wpAnyG_takeL (i := 22) (oi := _) (v := ?va22) rfl (by kernel_rfl) (by kernel_rfl) (by kernel_rfl) (by kernel_rfl) (fun _ _ _ h => h) (Or.inl ⟨by rfl, ?ya22⟩) hS ?ra22
  case ya22 => (intro W hSw; go_simp; try with_reducible rfl)
  try simp only [Act.put, List.setIfInBounds_toArray, List.set_cons_zero, List.set_cons_succ]
  refine wpAnyG_takeL (i := 23) (oi := _) (v := ?va23) rfl (by kernel_rfl) (by kernel_rfl) (by kernel_rfl) (by kernel_rfl) (fun _ _ _ h => h) (Or.inl ⟨by rfl, ?ya23⟩) hS ?ra23
  case ya23 => (intro W hSw; have tt := (h12.out.2.2.2.1.old hSw).text; go_simp; try with_reducible rfl)
  try simp only [Act.put, List.setIfInBounds_toArray, List.set_cons_zero, List.set_cons_succ]
  refine wpAnyG_takeL (i := 24) (oi := _) (v := ?va24) rfl (by kernel_rfl) (by kernel_rfl) (by kernel_rfl) (by kernel_rfl) (fun _ _ _ h => h) (Or.inl ⟨by rfl, ?ya24⟩) hS ?ra24
  case ya24 => (intro W hSw; have bs := bytes_self; go_simp; try with_reducible rfl)
  try simp only [Act.put, List.setIfInBounds_toArray, List.set_cons_zero, List.set_cons_succ]
  refine wpAnyG_takeL (i := 25) (oi := _) (v := ?va25) rfl (by kernel_rfl) (by kernel_rfl) (by kernel_rfl) (by kernel_rfl) (fun _ _ _ h => h) (Or.inl ⟨by rfl, ?ya25⟩) hS ?ra25
  case ya25 => (intro W hSw; go_simp; try with_reducible rfl)
  try simp only [Act.put, List.setIfInBounds_toArray, List.set_cons_zero, List.set_cons_succ]
  refine wpAnyG_takeL (i := 26) (oi := _) (v := ?va26) rfl (by kernel_rfl) (by kernel_rfl) (by kernel_rfl) (by kernel_rfl) (fun _ _ _ h => h) (Or.inl ⟨by rfl, ?ya26⟩) hS ?ra26
  case ya26 => (intro W hSw; go_simp; try with_reducible rfl)
  try simp only [Act.put, List.setIfInBounds_toArray, List.set_cons_zero, List.set_cons_succ]
  refine wpAnyG_takeL (i := 27) (oi := _) (v := ?va27) rfl (by kernel_rfl) (by kernel_rfl) (by kernel_rfl) (by kernel_rfl) (fun _ _ _ h => h) (Or.inl ⟨by rfl, ?ya27⟩) hS ?ra27
  case ya27 => (intro W hSw; go_simp; try with_reducible rfl)
  try simp only [Act.put, List.setIfInBounds_toArray, List.set_cons_zero, List.set_cons_succ]
  refine wpAnyG_takeL (i := 28) (oi := _) (v := ?va28) rfl (by kernel_rfl) (by kernel_rfl) (by kernel_rfl) (by kernel_rfl) (fun _ _ _ h => h) (Or.inl ⟨by rfl, ?ya28⟩) hS ?ra28
  case ya28 => (intro W hSw; go_simp; try with_reducible rfl)
  try simp only [Act.put, List.setIfInBounds_toArray, List.set_cons_zero, List.set_cons_succ]
  refine wpAnyG_takeL (i := 29) (oi := _) (v := ?va29) rfl (by kernel_rfl) (by kernel_rfl) (by kernel_rfl) (by kernel_rfl) (fun _ _ _ h => h) (Or.inl ⟨by rfl, ?ya29⟩) hS ?ra29
  case ya29 => (intro W hSw; go_simp; try with_reducible rfl)
  try simp only [Act.put, List.setIfInBounds_toArray, List.set_cons_zero, List.set_cons_succ]
  refine wpAnyG_takeL (i := 30) (oi := _) (v := ?va30) rfl (by kernel_rfl) (by kernel_rfl) (by kernel_rfl) (by kernel_rfl) (fun _ _ _ h => h) (Or.inl ⟨by rfl, ?ya30⟩) hS ?ra30
  case ya30 => (intro W hSw; go_simp; try with_reducible rfl)
  try simp only [Act.put, List.setIfInBounds_toArray, List.set_cons_zero, List.set_cons_succ]
  refine wpAnyG_takeL (i := 31) (oi := _) (v := ?va31) rfl (by kernel_rfl) (by kernel_rfl) (by kernel_rfl) (by kernel_rfl) (fun _ _ _ h => h) (Or.inl ⟨by rfl, ?ya31⟩) hS ?ra31
  case ya31 => (intro W hSw; have tt := blk2 ((hSw.block _ (lt_of_heap h12.out.2.2.2.2.1) (fun f => f)).trans h12.out.2.2.2.2.1); go_simp; try with_reducible rfl)
  try simp only [Act.put, List.setIfInBounds_toArray, List.set_cons_zero, List.set_cons_succ]
  refine wpAnyG_onlyL (i := 32) (o := _) (by kernel_rfl) rfl (fun K hK => ?_)
  go_simp
  refine (SM.out _).mono ?_
  rintro e x1 ⟨pr, nr, cr, rfl, hsr, hlr, kr⟩
  have hS1 : Old X x1 := hS.trans kr
  have CSame := Lib.hid (same_ev_any ⟨#[107]⟩ ⟨#[107]⟩ _ _ smallL smallL x1 (SeesR.old h12.out.2.2.2.2.2 hS1) hsr)
  rw [same_small] at CSame
  clear hsr hlr kr
  go_wp2_with fail
  refine hK.out _ _ (fun _ => hS1) ?_
  clear hK K
  try simp only [Act.put, List.setIfInBounds_toArray, List.set_cons_zero, List.set_cons_succ]
  refine wpAnyG_onlyL (i := 33) (o := _) (by kernel_rfl) rfl (fun K hK => ?_)
  go_simp
  refine CSame.out.mono ?_
  rintro e x2 ⟨rfl, kr⟩
  have hS2 : Old X x2 := hS1.trans kr
  clear kr CSame
  go_wp2_with fail
  refine hK.out _ _ (fun _ => hS2) ?_
  clear hK K
  try simp only [Act.put, List.setIfInBounds_toArray, List.set_cons_zero, List.set_cons_succ]
  refine wpAnyG_takeL (i := 34) (oi := _) (v := ?vb34) rfl (by kernel_rfl) (by kernel_rfl) (by kernel_rfl) (by kernel_rfl) (fun _ _ _ h => h) (Or.inl ⟨by rfl, ?yb34⟩) hS2 ?rb34
  case yb34 => (intro W hSw; go_simp; try with_reducible rfl)
  try simp only [Act.put, List.setIfInBounds_toArray, List.set_cons_zero, List.set_cons_succ]
  refine wpAnyG_takeL (i := 35) (oi := _) (v := ?vb35) rfl (by kernel_rfl) (by kernel_rfl) (by kernel_rfl) (by kernel_rfl) (fun _ _ _ h => h) (Or.inl ⟨by rfl, ?yb35⟩) hS2 ?rb35
  case yb35 => (intro W hSw; go_simp; try with_reducible rfl)
  try simp only [Act.put, List.setIfInBounds_toArray, List.set_cons_zero, List.set_cons_succ]
  refine wpAnyG_takeL (i := 36) (oi := _) (v := ?vb36) rfl (by kernel_rfl) (by kernel_rfl) (by kernel_rfl) (by kernel_rfl) (fun _ _ _ h => h) (Or.inl ⟨by rfl, ?yb36⟩) hS2 ?rb36
  case yb36 => (intro W hSw; go_simp; try with_reducible rfl)
  try simp only [Act.put, List.setIfInBounds_toArray, List.set_cons_zero, List.set_cons_succ]
  refine wpAnyG_takeL (i := 37) (oi := _) (v := ?vb37) rfl (by kernel_rfl) (by kernel_rfl) (by kernel_rfl) (by kernel_rfl) (fun _ _ _ h => h) (Or.inl ⟨by rfl, ?yb37⟩) hS2 ?rb37
  case yb37 => (intro W hSw; go_simp; try with_reducible rfl)
  try simp only [Act.put, List.setIfInBounds_toArray, List.set_cons_zero, List.set_cons_succ]
  refine wpAnyG_takeL (i := 38) (oi := _) (v := ?vb38) rfl (by kernel_rfl) (by kernel_rfl) (by kernel_rfl) (by kernel_rfl) (fun _ _ _ h => h) (Or.inl ⟨by rfl, ?yb38⟩) hS2 ?rb38
  case yb38 => (intro W hSw; go_simp; try with_reducible rfl)
  try simp only [Act.put, List.setIfInBounds_toArray, List.set_cons_zero, List.set_cons_succ]
  refine wpAnyG_takeL (i := 39) (oi := _) (v := ?vb39) rfl (by kernel_rfl) (by kernel_rfl) (by kernel_rfl) (by kernel_rfl) (fun _ _ _ h => h) (Or.inl ⟨by rfl, ?yb39⟩) hS2 ?rb39
  case yb39 => (intro W hSw; go_simp; try with_reducible rfl)
  try simp only [Act.put, List.setIfInBounds_toArray, List.set_cons_zero, List.set_cons_succ]
  refine wpAnyG_takeL (i := 40) (oi := _) (v := ?vb40) rfl (by kernel_rfl) (by kernel_rfl) (by kernel_rfl) (by kernel_rfl) (fun _ _ _ h => h) (Or.inl ⟨by rfl, ?yb40⟩) hS2 ?rb40
  case yb40 => (intro W hSw; go_simp; try with_reducible rfl)
  try simp only [Act.put, List.setIfInBounds_toArray, List.set_cons_zero, List.set_cons_succ]
  refine wpAnyG_takeL (i := 41) (oi := _) (v := ?vb41) rfl (by kernel_rfl) (by kernel_rfl) (by kernel_rfl) (by kernel_rfl) (fun _ _ _ h => h) (Or.inl ⟨by rfl, ?yb41⟩) hS2 ?rb41
  case yb41 => (intro W hSw; go_simp; try with_reducible rfl)
  try simp only [Act.put, List.setIfInBounds_toArray, List.set_cons_zero, List.set_cons_succ]
  refine wpAnyG_takeL (i := 42) (oi := _) (v := ?vb42) rfl (by kernel_rfl) (by kernel_rfl) (by kernel_rfl) (by kernel_rfl) (fun _ _ _ h => h) (Or.inl ⟨by rfl, ?yb42⟩) hS2 ?rb42
  case yb42 => (intro W hSw; go_simp; try with_reducible rfl)
  try simp only [Act.put, List.setIfInBounds_toArray, List.set_cons_zero, List.set_cons_succ]
  refine wpAnyG_takeL (i := 43) (oi := _) (v := ?vb43) rfl (by kernel_rfl) (by kernel_rfl) (by kernel_rfl) (by kernel_rfl) (fun _ _ _ h => h) (Or.inl ⟨by rfl, ?yb43⟩) hS2 ?rb43
  case yb43 => (intro W hSw; go_simp; try with_reducible rfl)
  try simp only [Act.put, List.setIfInBounds_toArray, List.set_cons_zero, List.set_cons_succ]
  refine wpAnyG_takeL (i := 44) (oi := _) (v := ?vb44) rfl (by kernel_rfl) (by kernel_rfl) (by kernel_rfl) (by kernel_rfl) (fun _ _ _ h => h) (Or.inl ⟨by rfl, ?yb44⟩) hS2 ?rb44
  case yb44 => (intro W hSw; go_simp; try with_reducible rfl)
  try simp only [Act.put, List.setIfInBounds_toArray, List.set_cons_zero, List.set_cons_succ]
  refine wpAnyG_takeL (i := 45) (oi := _) (v := ?vb45) rfl (by kernel_rfl) (by kernel_rfl) (by kernel_rfl) (by kernel_rfl) (fun _ _ _ h => h) (Or.inl ⟨by rfl, ?yb45⟩) hS2 ?rb45
  case yb45 => (intro W hSw; go_simp; try with_reducible rfl)
  try simp only [Act.put, List.setIfInBounds_toArray, List.set_cons_zero, List.set_cons_succ]
  refine wpAnyG_takeL (i := 46) (oi := _) (v := ?vb46) rfl (by kernel_rfl) (by kernel_rfl) (by kernel_rfl) (by kernel_rfl) (fun _ _ _ h => h) (Or.inl ⟨by rfl, ?yb46⟩) hS2 ?rb46
  case yb46 => (intro W hSw; go_simp; try with_reducible rfl)
  try simp only [Act.put, List.setIfInBounds_toArray, List.set_cons_zero, List.set_cons_succ]
  refine wpAnyG_takeL (i := 47) (oi := _) (v := ?vb47) rfl (by kernel_rfl) (by kernel_rfl) (by kernel_rfl) (by kernel_rfl) (fun _ _ _ h => h) (Or.inl ⟨by rfl, ?yb47⟩) hS2 ?rb47
  case yb47 => (intro W hSw; go_simp; try with_reducible rfl)
  try simp only [Act.put, List.setIfInBounds_toArray, List.set_cons_zero, List.set_cons_succ]
  refine wpAnyG_takeL (i := 50) (oi := _) (v := ?vc50) rfl (by kernel_rfl) (by kernel_rfl) (by kernel_rfl) (by kernel_rfl) (fun _ _ _ h => h) (Or.inl ⟨by rfl, ?yc50⟩) hS2 ?rc50
  case yc50 => (intro W hSw; go_simp; try with_reducible rfl)
  try simp only [Act.put, List.setIfInBounds_toArray, List.set_cons_zero, List.set_cons_succ]
  refine wpAnyG_takeL (i := 51) (oi := _) (v := ?vc51) rfl (by kernel_rfl) (by kernel_rfl) (by kernel_rfl) (by kernel_rfl) (fun _ _ _ h => h) (Or.inl ⟨by rfl, ?yc51⟩) hS2 ?rc51
  case yc51 => (intro W hSw; go_simp; try with_reducible rfl)
  try simp only [Act.put, List.setIfInBounds_toArray, List.set_cons_zero, List.set_cons_succ]
  refine wpAnyG_onlyL (i := 48) (o := _) (by kernel_rfl) rfl (fun K hK => ?_)
  go_simp
  refine (SM.out _).mono ?_
  rintro e x3 ⟨pt, nt, ct, rfl, hst, hlt, kr⟩
  have hS3 : Old X x3 := hS2.trans kr
  have CSize := Lib.hid (size_any ⟨#[107]⟩ _ smallL x3 hst (fun _ => hlt) small_fits)
  rw [size_small] at CSize
  clear hst hlt kr
  go_wp2_with fail
  refine hK.out _ _ (fun _ => hS3) ?_
  clear hK K
  try simp only [Act.put, List.setIfInBounds_toArray, List.set_cons_zero, List.set_cons_succ]
  refine wpAnyG_onlyL (i := 49) (o := _) (by kernel_rfl) rfl (fun K hK => ?_)
  go_simp
  refine CSize.out.mono ?_
  rintro e x4 ⟨rfl, kr⟩
  have hS4 : Old X x4 := hS3.trans kr
  clear kr CSize
  go_wp2_with fail
  refine hK.out _ _ (fun _ => hS4) ?_
  clear hK K
  try simp only [Act.put, List.setIfInBounds_toArray, List.set_cons_zero, List.set_cons_succ]
  refine wpAnyG_takeL (i := 52) (oi := _) (v := ?vd52) rfl (by kernel_rfl) (by kernel_rfl) (by kernel_rfl) (by kernel_rfl) (fun _ _ _ h => h) (Or.inl ⟨by rfl, ?yd52⟩) hS4 ?rd52
  case yd52 => (intro W hSw; go_simp; try with_reducible rfl)
  try simp only [Act.put, List.setIfInBounds_toArray, List.set_cons_zero, List.set_cons_succ]
  refine wpAnyG_takeL (i := 53) (oi := _) (v := ?vd53) rfl (by kernel_rfl) (by kernel_rfl) (by kernel_rfl) (by kernel_rfl) (fun _ _ _ h => h) (Or.inl ⟨by rfl, ?yd53⟩) hS4 ?rd53
  case yd53 => (intro W hSw; go_simp; try with_reducible rfl)
  try simp only [Act.put, List.setIfInBounds_toArray, List.set_cons_zero, List.set_cons_succ]
  refine wpAnyG_takeL (i := 54) (oi := _) (v := ?vd54) rfl (by kernel_rfl) (by kernel_rfl) (by kernel_rfl) (by kernel_rfl) (fun _ _ _ h => h) (Or.inl ⟨by rfl, ?yd54⟩) hS4 ?rd54
  case yd54 => (intro W hSw; go_simp; try with_reducible rfl)
  try simp only [Act.put, List.setIfInBounds_toArray, List.set_cons_zero]
  refine wpAnyG_done (by kernel_rfl) ?_ _
  go_simp
  go_wp2_with fail
  go_ret
  exact ⟨rfl, h12.out.1.trans hS4⟩
end Go.Proofs.Ytlpbbcjmmhabfaa

namespace Go.Proofs.Ytlpbbcjmmhabfaa
open Go.RowKit

theorem flat_u8 (l : List UInt8) : l.flatMap (fun b => [u8 b]) = l.map u8 := by induction l <;> simp_all
theorem ownsR_u8 {w : World} {B : Nat} {v : Value} {l : List UInt8} : OwnsR w B 5 1 (fun b => [u8 b]) v l ↔ Owns w B v l := by unfold OwnsR Owns; rw [flat_u8]
theorem seesR_u8 {w : World} {v : Value} {l : List UInt8} (h : Sees w v l) : SeesR w 1 (fun b => [u8 b]) v l := by
  obtain ⟨p, c, h1, h2, h3, h4, h5⟩ := h
  refine ⟨p, c, h1, h2, h3, h4, fun a ha => ⟨(h5 a ha).1, fun j x hx i u hu => ?_⟩⟩
  cases i with
  | zero => simp only [List.getElem?_cons_zero, Option.some.injEq] at hu; subst hu; simpa using (h5 a ha).2 j x hx
  | succ i => simp at hu
theorem step_append_bytes {w : World} {ops : Array Oper} {o : Oper} {a : Act} {K : Act → World → Prop} {Q : Exit → Act → World → Prop} {G : Prop} (hgd : o.guard = none) (s x : Operand)
    (ho : o.op = .call { callee := .builtin .append, args := #[s, x], argTypes := #[25, 25] })
    (B : Nat) (v : Value) (l : List UInt8) (hs : a.eval s = v) (hown : Owns w B v l) (u : Value) (m : List UInt8) (hx : a.eval x = u) (hu : Sees w u m)
    (hlen : l.length + m.length ≤ 1000000000) (hB : B ≤ w.heap.size)
    (h : ∀ v' w', Owns w' B v' (l ++ m) → w.grownBy w' v.ownBlock → K (a.put o.dst v') w') :
    if Region.wanted o (yielded ops a.tmps) = true then Oper.wp Try.prog o a w K Q else G :=
  step_append_rows (P := Try.prog) hgd s x 25 ho B 5 1 1 (fun b => [u8 b]) _ Try.underlying25 Try.infoU8 rfl (by decide) v l hs (ownsR_u8.2 hown) u m hx (seesR_u8 hu) (fun _ _ => rfl)
    (fun y _ c hc => by simp at hc; subst hc; rfl) (by unfold maxLen; omega) (by omega) hB (fun v' w' h1 h2 _ => h v' w' (ownsR_u8.1 h1) h2)
end Go.Proofs.Ytlpbbcjmmhabfaa

namespace Go.Proofs.Ytlpbbcjmmhabfaa
open Go.ChangeShapes Go.WideShapes Go.ChangeAt Go.RowKit

theorem one_le_bulk {H : Type} (d : DataW H) : 1 ≤ Rows.uptoBulk d := by
  cases d with
  | lit l => cases l <;> simp [Rows.uptoBulk]
  | nil => simp [Rows.uptoBulk]
  | ptr d => simp [Rows.uptoBulk]
  | slice elems spare => simp [Rows.uptoBulk]
  | agg parts => simp [Rows.uptoBulk]
  | iface t d => simp [Rows.uptoBulk]
  | map entries => simp [Rows.uptoBulk]
  | held h => simp [Rows.uptoBulk]
theorem part_bulk {H : Type} {d : DataW H} {l : List (DataW H)} (h : d ∈ l) : Rows.uptoBulk d ≤ Rows.uptoBulkAll l := by
  induction l with
  | nil => cases h
  | cons x r ih =>
    simp only [Rows.uptoBulkAll]
    cases List.mem_cons.1 h with
    | inl e => subst e; omega
    | inr e => have := ih e; omega
theorem length_bulk {H : Type} (l : List (DataW H)) : l.length ≤ Rows.uptoBulkAll l := by
  induction l with
  | nil => simp [Rows.uptoBulkAll]
  | cons x r ih => have := one_le_bulk x; simp only [Rows.uptoBulkAll, List.length_cons]; omega
theorem elems_bulk {H : Type} (elems spare : List (DataW H)) : Rows.uptoBulkAll elems + 1 ≤ Rows.uptoBulk (.slice elems spare) := by
  simp only [Rows.uptoBulk]; omega

/-- a []byte among what came in, at whatever depth -/
theorem trod_bytes {H : Type} {enc : TypeId × Value → H} {W : World} {fuel : Nat} {cs : List Value} {x : DataW H × List MemPlace} (hf : DataW.trod enc Try.prog W 0 (fun _ => true) true fuel 25 cs = some x) :
    ∃ (v : Value) (l : List UInt8), cs = [v] ∧ Sees W v l ∧ l.length < Rows.uptoBulk x.1 := by
  rcases open_ints Try.underlying25 Try.underlying5 (by kernel_rfl) hf with ⟨hcs, hx⟩ | ⟨a, len, cap, zs, hcs, _, hl, hm, hz, hx, hcell, hwz⟩
  · exact ⟨_, [], hcs, Sees.nil W, one_le_bulk x.1⟩
  · subst hx
    have hz' : zs.length = cap := by simpa using hz
    have hlen : ((zs.take len).map fun z => UInt8.ofNat z.toNat).length = len := by simp; omega
    refine ⟨_, (zs.take len).map fun z => UInt8.ofNat z.toNat, hcs, ⟨some a, cap, by rw [hlen], by rw [hlen]; exact hl, hm, fun h => (by cases h), fun a' ha => ?_⟩, ?_⟩
    · cases ha
      refine ⟨fun hc => ?_, fun j b hj => ?_⟩
      · have := hcell 0 (by omega)
        have hs := World.cell?_spot this
        simpa [Addr.add] using hs
      · rw [List.getElem?_map, Option.map_eq_some_iff] at hj
        obtain ⟨z, hz1, rfl⟩ := hj
        rw [List.getElem?_take] at hz1
        split at hz1
        · have hjl := (List.getElem?_eq_some_iff.1 hz1).1
          rw [hcell j hjl]
          have hzz : zs.getD j 0 = z := by simp [List.getD, hz1]
          have hw := hwz z (List.mem_of_getElem? hz1)
          have hr : 0 ≤ z ∧ z ≤ 255 := by simpa [Lit.wf, IntKind.min, IntKind.max, IntKind.signed, IntKind.bits] using hw
          rw [hzz]
          unfold u8
          rw [UInt8.toNat_ofNat']
          congr 2
          omega
        · cases hz1
    · rw [hlen]
      have h1 := elems_bulk (lits (H := H) .u8 (zs.take len)) (lits .u8 (zs.drop len))
      have h2 := length_bulk (lits (H := H) .u8 (zs.take len))
      have h3 : (lits (H := H) .u8 (zs.take len)).length = len := by simp [lits]; omega
      simp only at h1 ⊢
      omega
set_option maxRecDepth 100000 in
theorem read_bytes {H : Type} {enc : TypeId × Value → H} {W : World} {base : Nat} {v : Value} {d : DataW H} {p : List MemPlace} (hv : Value.okWide Try.prog W .any base 25 v)
    (h : DataW.Trod enc Try.prog W 0 (fun _ => true) true 25 v d p) : ∃ l : List UInt8, Sees W v l ∧ l.length < Rows.uptoBulk d := by
  obtain ⟨a, len, cap, rfl⟩ := okWide_slice Try.underlying25 hv
  obtain ⟨fuel, hf⟩ := h
  obtain ⟨v, l, hc, hs, hl⟩ := trod_bytes hf
  simp only [Value.cells, List.cons.injEq, and_true] at hc
  subst hc
  exact ⟨l, hs, hl⟩
end Go.Proofs.Ytlpbbcjmmhabfaa
