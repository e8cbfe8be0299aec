/- DERIVED. The contract of the statements' awake test (layer 3). -/
import Derived.Test.YtplcnceacbpjhaaRq
namespace Go.Proofs.Ytplcnceacbpjhaa
open Go.RowKit

theorem Rd.keeps {w w' : World} {B rb bb : Nat} {l : List UInt8} {S : Nat → Prop} (h : Rd w B rb bb l) (hk : Keeps S w w') (hS : ∀ k, k < w.heap.size → (k = rb ∨ k = bb) → ¬ S k) : Rd w' B rb bb l := by
  obtain ⟨h0, v, h1, h2, h3, h4, h5⟩ := h
  have hrb := lt_of_block h1
  exact ⟨Nat.le_trans h0 hk.size, v, (hk.block rb hrb (hS rb hrb (.inl rfl))).trans h1, h2.keeps hk (fun k hk' => hS k (Nat.lt_of_lt_of_le (h4 k hk').2 h0) (.inr (h4 k hk').1)), h3, h4, h5⟩

set_option maxRecDepth 100000 in
set_option maxHeartbeats 4000000 in
theorem awake_any (w : World) : Calls Try.prog 16 #[] w fun e w' => e = .returned (.bool true) ∧ Old w w' := by
  have c1 := num_any (.slice none 0 0) [] 300 w (Sees.nil w) (by simp) (by decide)
  rw [form_300] at c1
  simp only [List.nil_append] at c1
  have C1 := Lib.hid c1
  clear c1
  have kc := conv_const
  go_enter Try.func16, Try.ntmps16
  go_wp2_with fail
  refine C1.out.mono ?_
  rintro e w1 ⟨p1, n1, c1, rfl, ho1, hk1⟩
  have c2 := int_any _ _ (-65) w1 ho1.sees (by simp) (by decide)
  rw [show zigN (-65) = 129 from by decide, form_129] at c2
  have C2 := Lib.hid c2
  have H1 := Lib.hid (And.intro ho1 hk1)
  clear c2 ho1 hk1
  go_wp2_with fail
  refine C2.out.mono ?_
  rintro e w2 ⟨p2, n2, c2, rfl, ho2, hk2⟩
  have sab : Sees (w2.alloc (.cells #[.int .u8 97, .int .u8 98] 5 (2, 3))) (.slice (some ⟨w2.heap.size, 0, none⟩) 2 2) [97, 98] := Sees.new w2 [97, 98] (2, 3) (by unfold maxLen; simp)
  have c3 := bytes_any _ _ _ _ _ (ho2.sees.alloc (.cells #[.int .u8 97, .int .u8 98] 5 (2, 3))) sab (by simp) (by simp)
  rw [show ([97, 98] : List UInt8).length = 2 from rfl, form_2] at c3
  simp only [List.cons_append, List.nil_append] at c3
  have C3 := Lib.hid c3
  have H2 := Lib.hid hk2
  clear c3 ho2 hk2 sab
  go_wp2_with fail
  refine C3.out.mono ?_
  rintro e w3 ⟨p3, n3, c3, rfl, ho3, hk3⟩
  have k3 : Old w w3 := ((H1.out.2.trans H2.out).alloc _).trans hk3
  have S3 := Lib.hid k3.size
  have c4 := new_any _ _ w3 ho3.sees (by simp)
  have C4 := Lib.hid c4
  have H3 := Lib.hid (And.intro k3 ho3)
  clear c4 k3 ho3 hk3 C1 C2 C3 H1 H2
  go_wp2_with fail
  refine C4.out.mono ?_
  rintro e w4 ⟨rb, bb, rfl, hr4, hrb, hbb, hk4⟩
  have k4 := H3.out.1.trans hk4
  have c5 := rnum_any _ rb bb _ 300 w4 hr4 (by decide)
  unfold NumPost at c5
  rw [show readNum [172, 2, 129, 1, 2, 97, 98] 300 = (300, 0, [129, 1, 2, 97, 98]) from by decide] at c5
  have s3 := H3.out.2.sees.old hk4
  have hb3 := H3.out.2.block
  have C5 := Lib.hid c5
  have H4 := Lib.hid (And.intro k4 (And.intro s3 (And.intro hrb (And.intro hbb (And.intro hk4.size hb3)))))
  clear c5 k4 s3 hrb hbb hk4 hr4 H3 C4 hb3
  go_wp2_with fail
  refine C5.out.mono ?_
  rintro e w5 ⟨rfl, hr5, hk5⟩
  have c6 := rint_any _ rb bb _ w5 hr5
  rw [show readInt [129, 1, 2, 97, 98] = (-65, 0, [2, 97, 98]) from by decide] at c6
  have C6 := Lib.hid c6
  have H5 := Lib.hid hk5
  clear c6 hr5 hk5 C5
  go_wp2_with fail
  refine C6.out.mono ?_
  rintro e w6 ⟨rfl, hr6, hk6⟩
  have c7 := rbytes_any _ rb bb _ 2 w6 hr6 (by decide)
  have C7 := Lib.hid c7
  have H6 := Lib.hid hk6
  clear c7 hr6 hk6 C6
  go_wp2_with fail
  refine C7.out.mono ?_
  rintro e w7 ⟨p7, n7, c7, he7, ho7, hr7, hk7⟩
  rw [show readBytes [2, 97, 98] 2 = ([97, 98], 0, []) from by decide] at he7 ho7 hr7
  subst he7
  have k7 : Keeps (fun k => k = rb) w4 w7 := (H5.out.trans H6.out).trans hk7
  have H7 := Lib.hid (And.intro ho7 (And.intro hr7 k7))
  clear ho7 hr7 hk7 k7 C7 H5 H6
  have h0 : Sees (w7.alloc (.cells #[.int .u8 128, .int .u8 0] 5)) (.slice (some ⟨w7.heap.size, 0, none⟩) 2 2) [128, 0] := Sees.new w7 [128, 0] (0, 0) (by unfold maxLen; simp)
  have c8 := new_any _ _ _ h0 (by simp)
  have C8 := Lib.hid c8
  clear c8 h0
  go_wp2_with fail
  refine C8.out.mono ?_
  rintro e w8 ⟨rb2, bb2, rfl, hr8, hrb8, hbb8, hk8⟩
  have c9 := rnum_any _ rb2 bb2 _ 9 w8 hr8 (by decide)
  unfold NumPost at c9
  rw [show readNum [128, 0] 9 = (0, 5, [128, 0]) from by decide] at c9
  have C9 := Lib.hid c9
  have H8 := Lib.hid (And.intro hrb8 hk8)
  clear c9 hr8 hrb8 hbb8 hk8 C8
  go_wp2_with fail
  refine C9.out.mono ?_
  rintro e w9 ⟨rfl, hr9, hk9⟩
  have k9 : Keeps (fun k => k = rb2) w7 w9 := ((((Keeps.refl _ w7).alloc _).then H8.out.2 (fun _ _ f => f.elim)).trans hk9)
  have H9 := Lib.hid k9
  have hrb2 := H8.out.1
  have HS := Lib.hid hrb2
  clear hr9 hk9 k9 C9 H8 hrb2
  go_wp2_with fail
  have hz7 := H7.out.2.2.size
  have hz9 := H9.out.size
  have hs4 := H4.out.2.2.2.2.1
  have hr2 : w7.heap.size < rb2 := by have := HS.out; simp at this; omega
  have s9 : Sees w9 (.slice p3 n3 c3) [172, 2, 129, 1, 2, 97, 98] := by
    refine (H4.out.2.1.keeps H7.out.2.2 ?_).keeps H9.out ?_
    · intro k hk; have := (H4.out.2.2.2.2.2 k hk).2; have := H4.out.2.2.1; show ¬ k = rb; omega
    · intro k hk; have := (H4.out.2.2.2.2.2 k hk).2; show ¬ k = rb2; omega
  have hb7 := H7.out.1.block
  have t9 : Sees w9 (.slice p7 n7 c7) [97, 98] := by
    refine H7.out.1.sees.keeps H9.out ?_
    intro k hk; have := (hb7 k hk).2; show ¬ k = rb2; omega
  have hr9 : Rd w9 w4.heap.size rb bb [] := H7.out.2.1.keeps H9.out (fun k hk _ => by show ¬ k = rb2; omega)
  have hq : Sees (w9.alloc (.cells #[.int .u8 172, .int .u8 2, .int .u8 129, .int .u8 1, .int .u8 2, .int .u8 97, .int .u8 98] 5)) (.slice (some ⟨w9.heap.size, 0, none⟩) 7 7) [172, 2, 129, 1, 2, 97, 98] := Sees.new w9 [172, 2, 129, 1, 2, 97, 98] (0, 0) (by unfold maxLen; simp)
  have c10 := equal_any _ _ _ _ _ (s9.alloc _) hq
  rw [show (([172, 2, 129, 1, 2, 97, 98] : List UInt8) == [172, 2, 129, 1, 2, 97, 98]) = true from by decide] at c10
  have hk : Old w w9 := by
    refine (H4.out.1.then H7.out.2.2 (fun k hk he => ?_)).then H9.out (fun k hk he => ?_)
    · have hk' : k = rb := he
      have := H4.out.2.2.1; have := S3.out; omega
    · have hk' : k = rb2 := he
      have := H4.out.1.size; omega
  have htx := (t9.alloc (.cells #[.int .u8 172, .int .u8 2, .int .u8 129, .int .u8 1, .int .u8 2, .int .u8 97, .int .u8 98] 5)).text
  have C10 := Lib.hid c10
  have C11 := Lib.hid (end_any _ _ _ _ _ (hr9.keeps ((Keeps.refl (fun _ => False) w9).alloc (.cells #[.int .u8 172, .int .u8 2, .int .u8 129, .int .u8 1, .int .u8 2, .int .u8 97, .int .u8 98] 5)) (fun _ _ _ f => f)))
  have HK := Lib.hid hk
  clear c10 hk hr9 hq t9 s9 hr2 hz7 hz9 hs4 hb7
  refine C10.out.mono ?_
  rintro e w10 ⟨rfl, rfl⟩
  go_wp2_with fail
  refine C11.out.mono ?_
  rintro e w11 ⟨rfl, rfl⟩
  go_wp2_with fail
  go_ret
  exact ⟨rfl, HK.out.alloc _⟩
end Go.Proofs.Ytplcnceacbpjhaa
