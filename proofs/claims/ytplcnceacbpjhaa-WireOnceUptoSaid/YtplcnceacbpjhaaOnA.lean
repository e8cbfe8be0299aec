/- DERIVED. The walk of WireOnce. -/
import Derived.Test.YtplcnceacbpjhaaAw
import Derived.Test.YtplcnceacbpjhaaFormB
namespace Go.Proofs.Ytplcnceacbpjhaa
open Go.RowKit

theorem Sees.shape {w : World} {v : Value} {l : List UInt8} (h : Sees w v l) : ∃ p c, v = .slice p l.length c := by
  obtain ⟨p, c, h0, _, _⟩ := h.len; exact ⟨p, c, h0⟩
/-- what went ahead of what is left -/
theorem ahead {l f r : List UInt8} (h : l = f ++ r) : l.take (l.length - r.length) = f := by
  subst h; simp

/-- the plain facts of WireOnce: n, e, s: what Num(most) tells and leaves; m, f, t: what Num of the greatest does -/
structure OnceFacts (b : List UInt8) (most n e m f : Nat) (s t : List UInt8) : Prop where
  s_le : s.length ≤ b.length
  t_le : t.length ≤ b.length
  n_ok : e = 0 → b = form n ++ s ∧ n ≤ most ∧ n < 18446744073709551616 ∧ m = n ∧ f = 0
  m_ok : f = 0 → b = form m ++ t ∧ m < 18446744073709551616
  long : e = 3 ↔ f = 0 ∧ most < m
  m_lt : m < 18446744073709551616
  n_lt : n < 18446744073709551616
theorem once_facts (b : List UInt8) (most : Nat) (hm : most < 18446744073709551616) : ∃ n e m f s t, readNum b most = (n, e, s) ∧ readNum b 18446744073709551615 = (m, f, t) ∧ OnceFacts b most n e m f s t := by
  obtain ⟨n, e, s, h1⟩ : ∃ n e s, readNum b most = (n, e, s) := ⟨_, _, _, rfl⟩
  obtain ⟨m, f, t, h2⟩ : ∃ n e s, readNum b 18446744073709551615 = (n, e, s) := ⟨_, _, _, rfl⟩
  have r1 := readNum_rest b most
  have r2 := readNum_rest b 18446744073709551615
  have l1 := readNum_le b most
  have l2 := readNum_le b 18446744073709551615
  have hi := read_long_iff b most
  have hsame := read_ok_same b most
  rw [h1] at r1 l1 hi hsame
  rw [h2] at r2 l2 hi hsame
  refine ⟨n, e, m, f, s, t, h1, h2, ⟨r1, r2, fun h => ?_, fun h => ?_, hi, ?_, ?_⟩⟩
  · have hh := hsame h
    simp only [Prod.mk.injEq] at hh
    obtain ⟨rfl, rfl, rfl⟩ := hh
    subst h
    have := read_form h1
    exact ⟨this.1, this.2.1, this.2.2, rfl, rfl⟩
  · subst h
    have := read_form h2
    exact ⟨this.1, this.2.2⟩
  · simp only at l2; omega
  · simp only at l1; omega
theorem once_int {b : List UInt8} {m f : Nat} {t : List UInt8} (h : readNum b 18446744073709551615 = (m, f, t)) : readInt b = (if f = 0 then zagZ m else 0, f, t) := by
  unfold readInt; rw [h]
theorem once_bytes (b : List UInt8) : ∃ x g u, readBytes b 9223372036854775807 = (x, g, u) ∧ u.length ≤ b.length ∧ (g = 0 → b = form x.length ++ x ++ u) ∧ x.length ≤ b.length := by
  obtain ⟨n, e, r, h1⟩ : ∃ n e s, readNum b 9223372036854775807 = (n, e, s) := ⟨_, _, _, rfl⟩
  have hl := readNum_rest b 9223372036854775807
  rw [h1] at hl
  simp only at hl
  have hb : readBytes b 9223372036854775807 = if e ≠ 0 then ([], e, b) else if r.length < n then ([], 4, b) else (r.take n, 0, r.drop n) := by
    unfold readBytes
    rw [if_neg (by decide), show (9223372036854775807 : Int).toNat = 9223372036854775807 from rfl, h1]
  by_cases he : e = 0
  · subst he
    have hf := (read_form h1).1
    by_cases hn : r.length < n
    · exact ⟨_, _, _, by rw [hb, if_neg (by simp), if_pos hn], Nat.le_refl _, fun h => by simp at h, by simp⟩
    · refine ⟨_, _, _, by rw [hb, if_neg (by simp), if_neg hn], by simp; omega, fun _ => ?_, by simp; omega⟩
      simp only [List.length_take, List.append_assoc, List.take_append_drop]
      rw [Nat.min_eq_left (by omega)]
      exact hf
  · exact ⟨_, _, _, by rw [hb, if_pos he], Nat.le_refl _, fun h => absurd h he, by simp⟩

set_option maxRecDepth 100000 in
set_option maxHeartbeats 4000000 in
theorem once_any (vb : Value) (b : List UInt8) (most : Nat) (w : World) (hb : Sees w vb b) (hm : most < 18446744073709551616) (hlb : b.length ≤ 100000000) :
    Calls Try.prog 6 #[vb, .int .u64 most] w fun e w' => e = .returned (.bool true) ∧ Old w w' := by
  obtain ⟨p0, c0, rfl⟩ := hb.shape
  obtain ⟨n, er, m, f, s, t, hr1, hr2, hF⟩ := once_facts b most hm
  obtain ⟨x, g, u, hr3, hu, hx, hxl⟩ := once_bytes b
  have FF := Lib.hid (And.intro hF (And.intro hu (And.intro hx hxl)))
  have RR := Lib.hid (And.intro hr1 (And.intro hr2 hr3))
  have HM := Lib.hid (And.intro hm hb)
  have C1 := Lib.hid (new_any _ b w hb (by omega))
  have hns : ∀ (W : World), Sees W (.slice none 0 0) [] := Sees.nil
  have ecase : ((er : Int) == 0) = true ∧ ((er : Int) == 3) = false ∧ ¬ most < n ∨ ((er : Int) == 0) = false ∧ ((er : Int) == 3) = true ∨ ((er : Int) == 0) = false ∧ ((er : Int) == 3) = false := by
    have := hF.n_ok
    simp only [beq_iff_eq, beq_eq_false_iff_ne]
    by_cases h0 : er = 0
    · have := this h0; omega
    · omega
  have hsl := hF.s_le
  have htl := hF.t_le
  clear hF hu hx hr1 hr2 hr3 hm hb
  rcases ecase with ⟨t0, t3, tn⟩ | ⟨t0, t3⟩ | ⟨t0, t3⟩
  · have tf : ((f : Int) == 0) = true := by have := (FF.out.1.n_ok (by simpa using t0)); simp; omega
    have tf' : f = 0 := by simpa using tf
    subst tf'
    have hmn : m = n := (FF.out.1.n_ok (by simpa using t0)).2.2.2.1
    subst hmn
    go_enter Try.func6, Try.ntmps6
    go_wp2_with fail
    refine C1.out.mono ?_
    rintro e w1 ⟨rb, bb, rfl, hr4, hrb, hbb, hk1⟩
    have c2 := rnum_any _ rb bb _ most w1 hr4 HM.out.1
    unfold NumPost at c2
    rw [RR.out.1] at c2
    have C2 := Lib.hid c2
    have H1 := Lib.hid (And.intro hk1 hrb)
    clear c2 hr4 hrb hbb hk1
    go_wp2_with fail
    refine C2.out.mono ?_
    rintro e w2 ⟨rfl, hr5, hk2⟩
    have K2 := Lib.hid (H1.out.1.then hk2 (fun k hk he => by have := H1.out.2; have e : k = rb := he; omega))
    have C3 := Lib.hid (num_any _ [] m w2 (hns w2) (by simp) FF.out.1.n_lt)
    have H2 := Lib.hid hr5
    clear hr5 hk2 C2
    go_wp2_with fail
    refine C3.out.mono ?_
    rintro e w3 ⟨p3, n3, c3, rfl, ho3, hk3⟩
    have L3 := Lib.hid (left_any _ _ _ _ w3 (H2.out.keeps hk3 (fun _ _ _ f => f)))
    obtain ⟨p4, c4, hs4, s4, _⟩ := (HM.out.2.old (K2.out.trans hk3)).upto (b.length - s.length) (by omega) .i64 ((b.length : Int) - (s.length : Int)) (by omega)
    rw [ahead (FF.out.1.n_ok (by simpa using t0)).1] at s4
    have E4 := equal_any _ _ _ _ w3 ho3.sees s4
    rw [List.nil_append, beq_self_eq_true] at E4
    have HE4 := Lib.hid E4
    have K3 := Lib.hid (K2.out.trans hk3)
    clear C3 ho3 hk3 s4 E4 H2
    go_wp2_with fail
    refine L3.out.mono ?_
    rintro e w4 ⟨rfl, rfl⟩
    go_wp2_with fail
    refine HE4.out.mono ?_
    rintro e w5 ⟨rfl, rfl⟩
    clear HE4 L3 hs4
    have C5 := Lib.hid (new_any _ b w3 (HM.out.2.old K3.out) (by omega))
    go_wp2_with fail
    refine C5.out.mono ?_
    rintro e w6 ⟨rb2, bb2, rfl, hr6, hrb6, hbb6, hk6⟩
    have c7 := rnum_any _ rb2 bb2 _ 18446744073709551615 w6 hr6 (by decide)
    unfold NumPost at c7
    rw [RR.out.2.1] at c7
    have C7 := Lib.hid c7
    have H6 := Lib.hid (And.intro (K3.out.trans hk6) (And.intro hrb6 (And.intro K3.out.size hk6.size)))
    clear c7 hr6 hrb6 hbb6 hk6 C5
    go_wp2_with fail
    refine C7.out.mono ?_
    rintro e w7 ⟨rfl, hr7, hk7⟩
    have K7 := Lib.hid (H6.out.1.then hk7 (fun k hk he => by have := H6.out.2.1; have := H6.out.2.2.1; have e : k = rb2 := he; omega))
    clear hr7 hk7 C7 H6 K3 K2 H1
    have C8 := Lib.hid (new_any _ b w7 (HM.out.2.old K7.out) (by omega))
    go_wp2_with fail
    refine C8.out.mono ?_
    rintro e w8 ⟨rb3, bb3, rfl, hr8, hrb8, hbb8, hk8⟩
    have c9 := rint_any _ rb3 bb3 _ w8 hr8
    rw [once_int RR.out.2.1] at c9
    simp only at c9
    have C9 := Lib.hid c9
    have H8 := Lib.hid (And.intro (K7.out.trans hk8) (And.intro hrb8 (And.intro K7.out.size hk8.size)))
    clear c9 hr8 hrb8 hbb8 hk8 C8
    go_wp2_with fail
    refine C9.out.mono ?_
    rintro e w9 ⟨rfl, hr9, hk9⟩
    have K9 := Lib.hid (H8.out.1.then hk9 (fun k hk he => by have := H8.out.2.1; have := H8.out.2.2.1; have e : k = rb3 := he; omega))
    have H9 := Lib.hid hr9
    clear hr9 hk9 C9 H8 K7
    have C10 := Lib.hid (int_any _ [] (zagZ m) w9 (hns w9) (by simp) (zagZ_range FF.out.1.m_lt))
    go_wp2_with fail
    refine C10.out.mono ?_
    rintro e w10 ⟨p10, n10, c10, rfl, ho10, hk10⟩
    have L10 := Lib.hid (left_any _ _ _ _ w10 (H9.out.keeps hk10 (fun _ _ _ f => f)))
    obtain ⟨p11, c11, hs11, s11, _⟩ := (HM.out.2.old (K9.out.trans hk10)).upto (b.length - t.length) (by omega) .i64 ((b.length : Int) - (t.length : Int)) (by omega)
    rw [ahead (FF.out.1.m_ok rfl).1] at s11
    have E11 := equal_any _ _ _ _ w10 ho10.sees s11
    rw [zig_zag, List.nil_append, beq_self_eq_true] at E11
    have HE11 := Lib.hid E11
    have K10 := Lib.hid (K9.out.trans hk10)
    clear C10 ho10 hk10 s11 E11 H9 K9
    go_wp2_with fail
    refine L10.out.mono ?_
    rintro e w11 ⟨rfl, rfl⟩
    go_wp2_with fail
    refine HE11.out.mono ?_
    rintro e w12 ⟨rfl, rfl⟩
    clear HE11 L10 hs11
    have C12 := Lib.hid (new_any _ b w10 (HM.out.2.old K10.out) (by omega))
    go_wp2_with fail
    refine C12.out.mono ?_
    rintro e w13 ⟨rb4, bb4, rfl, hr13, hrb13, hbb13, hk13⟩
    have c14 := rbytes_any _ rb4 bb4 _ 9223372036854775807 w13 hr13 (by decide)
    unfold BytesPost at c14
    rw [RR.out.2.2] at c14
    have C14 := Lib.hid c14
    have H13 := Lib.hid (And.intro (K10.out.trans hk13) (And.intro hrb13 (And.intro K10.out.size hk13.size)))
    clear c14 hr13 hrb13 hbb13 hk13 C12
    go_wp2_with fail
    refine C14.out.mono ?_
    rintro e w14 ⟨p14, n14, c14, rfl, ho14, hr14, hk14⟩
    have K14 := Lib.hid (H13.out.1.then hk14 (fun k hk he => by have := H13.out.2.1; have := H13.out.2.2.1; have e : k = rb4 := he; omega))
    have H14 := Lib.hid (And.intro ho14 hr14)
    clear ho14 hr14 hk14 C14 H13 K10
    by_cases tg0 : g = 0
    · have tg : ((g : Int) != 0) = false := by simp; omega
      have TG := Lib.hid tg0
      clear tg0
      go_wp2_with fail
      refine (awake_any w14).mono ?_
      rintro e w15 ⟨rfl, hk15⟩
      have C16 := Lib.hid (bytes_any _ _ [] x w15 (hns w15) (H14.out.1.sees.old hk15) (by simp) (by have := FF.out.2.2.2; omega))
      have K15 := Lib.hid (K14.out.trans hk15)
      have R15 := Lib.hid (H14.out.2.keeps hk15 (fun _ _ _ f => f))
      clear hk15
      go_wp2_with fail
      refine C16.out.mono ?_
      rintro e w16 ⟨p16, n16, c16, rfl, ho16, hk16⟩
      have L16 := Lib.hid (left_any _ _ _ _ w16 (R15.out.keeps hk16 (fun _ _ _ f => f)))
      have hul := FF.out.2.1
      obtain ⟨p17, c17, hs17, s17, _⟩ := (HM.out.2.old (K15.out.trans hk16)).upto (b.length - u.length) (by omega) .i64 ((b.length : Int) - (u.length : Int)) (by omega)
      rw [ahead (FF.out.2.2.1 TG.out)] at s17
      have E17 := equal_any _ _ _ _ w16 ho16.sees s17
      rw [List.nil_append, beq_self_eq_true] at E17
      have HE17 := Lib.hid E17
      have K16 := Lib.hid (K15.out.trans hk16)
      clear C16 ho16 hk16 s17 E17 R15 K15
      go_wp2_with fail
      refine L16.out.mono ?_
      rintro e w17 ⟨rfl, rfl⟩
      go_wp2_with fail
      refine HE17.out.mono ?_
      rintro e w18 ⟨rfl, rfl⟩
      go_wp2_with fail
      go_ret
      exact ⟨rfl, K16.out⟩
    · have tg : ((g : Int) != 0) = true := by simp; omega
      clear tg0
      go_wp2_with fail
      refine (awake_any w14).mono ?_
      rintro e w15 ⟨rfl, hk15⟩
      have K15 := Lib.hid (K14.out.trans hk15)
      clear hk15
      go_wp2_with fail
      go_ret
      exact ⟨rfl, K15.out⟩
  · have tl := FF.out.1.long.1 (by simp at t3; omega)
    have tf' : f = 0 := tl.1
    subst tf'
    have tmm := tl.2
    have tf : (((0 : Nat) : Int) == 0) = true := by simp
    clear tl
    go_enter Try.func6, Try.ntmps6
    go_wp2_with fail
    refine C1.out.mono ?_
    rintro e w1 ⟨rb, bb, rfl, hr4, hrb, hbb, hk1⟩
    have c2 := rnum_any _ rb bb _ most w1 hr4 HM.out.1
    unfold NumPost at c2
    rw [RR.out.1] at c2
    have C2 := Lib.hid c2
    have H1 := Lib.hid (And.intro hk1 hrb)
    clear c2 hr4 hrb hbb hk1
    go_wp2_with fail
    refine C2.out.mono ?_
    rintro e w2 ⟨rfl, hr5, hk2⟩
    have K2 := Lib.hid (H1.out.1.then hk2 (fun k hk he => by have := H1.out.2; have e : k = rb := he; omega))
    clear hr5 hk2 C2
    have C5 := Lib.hid (new_any _ b w2 (HM.out.2.old K2.out) (by omega))
    have K3 := Lib.hid K2.out
    go_wp2_with fail
    refine C5.out.mono ?_
    rintro e w6 ⟨rb2, bb2, rfl, hr6, hrb6, hbb6, hk6⟩
    have c7 := rnum_any _ rb2 bb2 _ 18446744073709551615 w6 hr6 (by decide)
    unfold NumPost at c7
    rw [RR.out.2.1] at c7
    have C7 := Lib.hid c7
    have H6 := Lib.hid (And.intro (K3.out.trans hk6) (And.intro hrb6 (And.intro K3.out.size hk6.size)))
    clear c7 hr6 hrb6 hbb6 hk6 C5
    go_wp2_with fail
    refine C7.out.mono ?_
    rintro e w7 ⟨rfl, hr7, hk7⟩
    have K7 := Lib.hid (H6.out.1.then hk7 (fun k hk he => by have := H6.out.2.1; have := H6.out.2.2.1; have e : k = rb2 := he; omega))
    clear hr7 hk7 C7 H6 K3 K2 H1
    have C8 := Lib.hid (new_any _ b w7 (HM.out.2.old K7.out) (by omega))
    go_wp2_with fail
    refine C8.out.mono ?_
    rintro e w8 ⟨rb3, bb3, rfl, hr8, hrb8, hbb8, hk8⟩
    have c9 := rint_any _ rb3 bb3 _ w8 hr8
    rw [once_int RR.out.2.1] at c9
    simp only at c9
    have C9 := Lib.hid c9
    have H8 := Lib.hid (And.intro (K7.out.trans hk8) (And.intro hrb8 (And.intro K7.out.size hk8.size)))
    clear c9 hr8 hrb8 hbb8 hk8 C8
    go_wp2_with fail
    refine C9.out.mono ?_
    rintro e w9 ⟨rfl, hr9, hk9⟩
    have K9 := Lib.hid (H8.out.1.then hk9 (fun k hk he => by have := H8.out.2.1; have := H8.out.2.2.1; have e : k = rb3 := he; omega))
    have H9 := Lib.hid hr9
    clear hr9 hk9 C9 H8 K7
    have C10 := Lib.hid (int_any _ [] (zagZ m) w9 (hns w9) (by simp) (zagZ_range FF.out.1.m_lt))
    go_wp2_with fail
    refine C10.out.mono ?_
    rintro e w10 ⟨p10, n10, c10, rfl, ho10, hk10⟩
    have L10 := Lib.hid (left_any _ _ _ _ w10 (H9.out.keeps hk10 (fun _ _ _ f => f)))
    obtain ⟨p11, c11, hs11, s11, _⟩ := (HM.out.2.old (K9.out.trans hk10)).upto (b.length - t.length) (by omega) .i64 ((b.length : Int) - (t.length : Int)) (by omega)
    rw [ahead (FF.out.1.m_ok rfl).1] at s11
    have E11 := equal_any _ _ _ _ w10 ho10.sees s11
    rw [zig_zag, List.nil_append, beq_self_eq_true] at E11
    have HE11 := Lib.hid E11
    have K10 := Lib.hid (K9.out.trans hk10)
    clear C10 ho10 hk10 s11 E11 H9 K9
    go_wp2_with fail
    refine L10.out.mono ?_
    rintro e w11 ⟨rfl, rfl⟩
    go_wp2_with fail
    refine HE11.out.mono ?_
    rintro e w12 ⟨rfl, rfl⟩
    clear HE11 L10 hs11
    have C12 := Lib.hid (new_any _ b w10 (HM.out.2.old K10.out) (by omega))
    go_wp2_with fail
    refine C12.out.mono ?_
    rintro e w13 ⟨rb4, bb4, rfl, hr13, hrb13, hbb13, hk13⟩
    have c14 := rbytes_any _ rb4 bb4 _ 9223372036854775807 w13 hr13 (by decide)
    unfold BytesPost at c14
    rw [RR.out.2.2] at c14
    have C14 := Lib.hid c14
    have H13 := Lib.hid (And.intro (K10.out.trans hk13) (And.intro hrb13 (And.intro K10.out.size hk13.size)))
    clear c14 hr13 hrb13 hbb13 hk13 C12
    go_wp2_with fail
    refine C14.out.mono ?_
    rintro e w14 ⟨p14, n14, c14, rfl, ho14, hr14, hk14⟩
    have K14 := Lib.hid (H13.out.1.then hk14 (fun k hk he => by have := H13.out.2.1; have := H13.out.2.2.1; have e : k = rb4 := he; omega))
    have H14 := Lib.hid (And.intro ho14 hr14)
    clear ho14 hr14 hk14 C14 H13 K10
    by_cases tg0 : g = 0
    · have tg : ((g : Int) != 0) = false := by simp; omega
      have TG := Lib.hid tg0
      clear tg0
      go_wp2_with fail
      refine (awake_any w14).mono ?_
      rintro e w15 ⟨rfl, hk15⟩
      have C16 := Lib.hid (bytes_any _ _ [] x w15 (hns w15) (H14.out.1.sees.old hk15) (by simp) (by have := FF.out.2.2.2; omega))
      have K15 := Lib.hid (K14.out.trans hk15)
      have R15 := Lib.hid (H14.out.2.keeps hk15 (fun _ _ _ f => f))
      clear hk15
      go_wp2_with fail
      refine C16.out.mono ?_
      rintro e w16 ⟨p16, n16, c16, rfl, ho16, hk16⟩
      have L16 := Lib.hid (left_any _ _ _ _ w16 (R15.out.keeps hk16 (fun _ _ _ f => f)))
      have hul := FF.out.2.1
      obtain ⟨p17, c17, hs17, s17, _⟩ := (HM.out.2.old (K15.out.trans hk16)).upto (b.length - u.length) (by omega) .i64 ((b.length : Int) - (u.length : Int)) (by omega)
      rw [ahead (FF.out.2.2.1 TG.out)] at s17
      have E17 := equal_any _ _ _ _ w16 ho16.sees s17
      rw [List.nil_append, beq_self_eq_true] at E17
      have HE17 := Lib.hid E17
      have K16 := Lib.hid (K15.out.trans hk16)
      clear C16 ho16 hk16 s17 E17 R15 K15
      go_wp2_with fail
      refine L16.out.mono ?_
      rintro e w17 ⟨rfl, rfl⟩
      go_wp2_with fail
      refine HE17.out.mono ?_
      rintro e w18 ⟨rfl, rfl⟩
      go_wp2_with fail
      go_ret
      exact ⟨rfl, K16.out⟩
    · have tg : ((g : Int) != 0) = true := by simp; omega
      clear tg0
      go_wp2_with fail
      refine (awake_any w14).mono ?_
      rintro e w15 ⟨rfl, hk15⟩
      have K15 := Lib.hid (K14.out.trans hk15)
      clear hk15
      go_wp2_with fail
      go_ret
      exact ⟨rfl, K15.out⟩
  · by_cases tf' : f = 0
    · subst tf'
      have tf : (((0 : Nat) : Int) == 0) = true := by simp
      have tmm : ¬ most < m := fun h => by have := FF.out.1.long.2 ⟨rfl, h⟩; simp at t3; omega
      go_enter Try.func6, Try.ntmps6
      go_wp2_with fail
      refine C1.out.mono ?_
      rintro e w1 ⟨rb, bb, rfl, hr4, hrb, hbb, hk1⟩
      have c2 := rnum_any _ rb bb _ most w1 hr4 HM.out.1
      unfold NumPost at c2
      rw [RR.out.1] at c2
      have C2 := Lib.hid c2
      have H1 := Lib.hid (And.intro hk1 hrb)
      clear c2 hr4 hrb hbb hk1
      go_wp2_with fail
      refine C2.out.mono ?_
      rintro e w2 ⟨rfl, hr5, hk2⟩
      have K2 := Lib.hid (H1.out.1.then hk2 (fun k hk he => by have := H1.out.2; have e : k = rb := he; omega))
      clear hr5 hk2 C2
      have C5 := Lib.hid (new_any _ b w2 (HM.out.2.old K2.out) (by omega))
      have K3 := Lib.hid K2.out
      go_wp2_with fail
      refine C5.out.mono ?_
      rintro e w6 ⟨rb2, bb2, rfl, hr6, hrb6, hbb6, hk6⟩
      have c7 := rnum_any _ rb2 bb2 _ 18446744073709551615 w6 hr6 (by decide)
      unfold NumPost at c7
      rw [RR.out.2.1] at c7
      have C7 := Lib.hid c7
      have H6 := Lib.hid (And.intro (K3.out.trans hk6) (And.intro hrb6 (And.intro K3.out.size hk6.size)))
      clear c7 hr6 hrb6 hbb6 hk6 C5
      go_wp2_with fail
      refine C7.out.mono ?_
      rintro e w7 ⟨rfl, hr7, hk7⟩
      have K7 := Lib.hid (H6.out.1.then hk7 (fun k hk he => by have := H6.out.2.1; have := H6.out.2.2.1; have e : k = rb2 := he; omega))
      clear hr7 hk7 C7 H6 K3 K2 H1
      have C8 := Lib.hid (new_any _ b w7 (HM.out.2.old K7.out) (by omega))
      go_wp2_with fail
      refine C8.out.mono ?_
      rintro e w8 ⟨rb3, bb3, rfl, hr8, hrb8, hbb8, hk8⟩
      have c9 := rint_any _ rb3 bb3 _ w8 hr8
      rw [once_int RR.out.2.1] at c9
      simp only at c9
      have C9 := Lib.hid c9
      have H8 := Lib.hid (And.intro (K7.out.trans hk8) (And.intro hrb8 (And.intro K7.out.size hk8.size)))
      clear c9 hr8 hrb8 hbb8 hk8 C8
      go_wp2_with fail
      refine C9.out.mono ?_
      rintro e w9 ⟨rfl, hr9, hk9⟩
      have K9 := Lib.hid (H8.out.1.then hk9 (fun k hk he => by have := H8.out.2.1; have := H8.out.2.2.1; have e : k = rb3 := he; omega))
      have H9 := Lib.hid hr9
      clear hr9 hk9 C9 H8 K7
      have C10 := Lib.hid (int_any _ [] (zagZ m) w9 (hns w9) (by simp) (zagZ_range FF.out.1.m_lt))
      go_wp2_with fail
      refine C10.out.mono ?_
      rintro e w10 ⟨p10, n10, c10, rfl, ho10, hk10⟩
      have L10 := Lib.hid (left_any _ _ _ _ w10 (H9.out.keeps hk10 (fun _ _ _ f => f)))
      obtain ⟨p11, c11, hs11, s11, _⟩ := (HM.out.2.old (K9.out.trans hk10)).upto (b.length - t.length) (by omega) .i64 ((b.length : Int) - (t.length : Int)) (by omega)
      rw [ahead (FF.out.1.m_ok rfl).1] at s11
      have E11 := equal_any _ _ _ _ w10 ho10.sees s11
      rw [zig_zag, List.nil_append, beq_self_eq_true] at E11
      have HE11 := Lib.hid E11
      have K10 := Lib.hid (K9.out.trans hk10)
      clear C10 ho10 hk10 s11 E11 H9 K9
      go_wp2_with fail
      refine L10.out.mono ?_
      rintro e w11 ⟨rfl, rfl⟩
      go_wp2_with fail
      refine HE11.out.mono ?_
      rintro e w12 ⟨rfl, rfl⟩
      clear HE11 L10 hs11
      have C12 := Lib.hid (new_any _ b w10 (HM.out.2.old K10.out) (by omega))
      go_wp2_with fail
      refine C12.out.mono ?_
      rintro e w13 ⟨rb4, bb4, rfl, hr13, hrb13, hbb13, hk13⟩
      have c14 := rbytes_any _ rb4 bb4 _ 9223372036854775807 w13 hr13 (by decide)
      unfold BytesPost at c14
      rw [RR.out.2.2] at c14
      have C14 := Lib.hid c14
      have H13 := Lib.hid (And.intro (K10.out.trans hk13) (And.intro hrb13 (And.intro K10.out.size hk13.size)))
      clear c14 hr13 hrb13 hbb13 hk13 C12
      go_wp2_with fail
      refine C14.out.mono ?_
      rintro e w14 ⟨p14, n14, c14, rfl, ho14, hr14, hk14⟩
      have K14 := Lib.hid (H13.out.1.then hk14 (fun k hk he => by have := H13.out.2.1; have := H13.out.2.2.1; have e : k = rb4 := he; omega))
      have H14 := Lib.hid (And.intro ho14 hr14)
      clear ho14 hr14 hk14 C14 H13 K10
      by_cases tg0 : g = 0
      · have tg : ((g : Int) != 0) = false := by simp; omega
        have TG := Lib.hid tg0
        clear tg0
        go_wp2_with fail
        refine (awake_any w14).mono ?_
        rintro e w15 ⟨rfl, hk15⟩
        have C16 := Lib.hid (bytes_any _ _ [] x w15 (hns w15) (H14.out.1.sees.old hk15) (by simp) (by have := FF.out.2.2.2; omega))
        have K15 := Lib.hid (K14.out.trans hk15)
        have R15 := Lib.hid (H14.out.2.keeps hk15 (fun _ _ _ f => f))
        clear hk15
        go_wp2_with fail
        refine C16.out.mono ?_
        rintro e w16 ⟨p16, n16, c16, rfl, ho16, hk16⟩
        have L16 := Lib.hid (left_any _ _ _ _ w16 (R15.out.keeps hk16 (fun _ _ _ f => f)))
        have hul := FF.out.2.1
        obtain ⟨p17, c17, hs17, s17, _⟩ := (HM.out.2.old (K15.out.trans hk16)).upto (b.length - u.length) (by omega) .i64 ((b.length : Int) - (u.length : Int)) (by omega)
        rw [ahead (FF.out.2.2.1 TG.out)] at s17
        have E17 := equal_any _ _ _ _ w16 ho16.sees s17
        rw [List.nil_append, beq_self_eq_true] at E17
        have HE17 := Lib.hid E17
        have K16 := Lib.hid (K15.out.trans hk16)
        clear C16 ho16 hk16 s17 E17 R15 K15
        go_wp2_with fail
        refine L16.out.mono ?_
        rintro e w17 ⟨rfl, rfl⟩
        go_wp2_with fail
        refine HE17.out.mono ?_
        rintro e w18 ⟨rfl, rfl⟩
        go_wp2_with fail
        go_ret
        exact ⟨rfl, K16.out⟩
      · have tg : ((g : Int) != 0) = true := by simp; omega
        clear tg0
        go_wp2_with fail
        refine (awake_any w14).mono ?_
        rintro e w15 ⟨rfl, hk15⟩
        have K15 := Lib.hid (K14.out.trans hk15)
        clear hk15
        go_wp2_with fail
        go_ret
        exact ⟨rfl, K15.out⟩
    · have tf : ((f : Int) == 0) = false := by simp; omega
      go_enter Try.func6, Try.ntmps6
      go_wp2_with fail
      refine C1.out.mono ?_
      rintro e w1 ⟨rb, bb, rfl, hr4, hrb, hbb, hk1⟩
      have c2 := rnum_any _ rb bb _ most w1 hr4 HM.out.1
      unfold NumPost at c2
      rw [RR.out.1] at c2
      have C2 := Lib.hid c2
      have H1 := Lib.hid (And.intro hk1 hrb)
      clear c2 hr4 hrb hbb hk1
      go_wp2_with fail
      refine C2.out.mono ?_
      rintro e w2 ⟨rfl, hr5, hk2⟩
      have K2 := Lib.hid (H1.out.1.then hk2 (fun k hk he => by have := H1.out.2; have e : k = rb := he; omega))
      clear hr5 hk2 C2
      have C5 := Lib.hid (new_any _ b w2 (HM.out.2.old K2.out) (by omega))
      have K3 := Lib.hid K2.out
      go_wp2_with fail
      refine C5.out.mono ?_
      rintro e w6 ⟨rb2, bb2, rfl, hr6, hrb6, hbb6, hk6⟩
      have c7 := rnum_any _ rb2 bb2 _ 18446744073709551615 w6 hr6 (by decide)
      unfold NumPost at c7
      rw [RR.out.2.1] at c7
      have C7 := Lib.hid c7
      have H6 := Lib.hid (And.intro (K3.out.trans hk6) (And.intro hrb6 (And.intro K3.out.size hk6.size)))
      clear c7 hr6 hrb6 hbb6 hk6 C5
      go_wp2_with fail
      refine C7.out.mono ?_
      rintro e w7 ⟨rfl, hr7, hk7⟩
      have K7 := Lib.hid (H6.out.1.then hk7 (fun k hk he => by have := H6.out.2.1; have := H6.out.2.2.1; have e : k = rb2 := he; omega))
      clear hr7 hk7 C7 H6 K3 K2 H1
      have C8 := Lib.hid (new_any _ b w7 (HM.out.2.old K7.out) (by omega))
      go_wp2_with fail
      refine C8.out.mono ?_
      rintro e w8 ⟨rb3, bb3, rfl, hr8, hrb8, hbb8, hk8⟩
      have c9 := rint_any _ rb3 bb3 _ w8 hr8
      rw [once_int RR.out.2.1] at c9
      simp only [if_neg tf'] at c9
      have C9 := Lib.hid c9
      have H8 := Lib.hid (And.intro (K7.out.trans hk8) (And.intro hrb8 (And.intro K7.out.size hk8.size)))
      clear c9 hr8 hrb8 hbb8 hk8 C8
      go_wp2_with fail
      refine C9.out.mono ?_
      rintro e w9 ⟨rfl, hr9, hk9⟩
      have K9 := Lib.hid (H8.out.1.then hk9 (fun k hk he => by have := H8.out.2.1; have := H8.out.2.2.1; have e : k = rb3 := he; omega))
      have H9 := Lib.hid hr9
      clear hr9 hk9 C9 H8 K7
      have C12 := Lib.hid (new_any _ b w9 (HM.out.2.old K9.out) (by omega))
      have K10 := Lib.hid K9.out
      clear K9 H9
      go_wp2_with fail
      refine C12.out.mono ?_
      rintro e w13 ⟨rb4, bb4, rfl, hr13, hrb13, hbb13, hk13⟩
      have c14 := rbytes_any _ rb4 bb4 _ 9223372036854775807 w13 hr13 (by decide)
      unfold BytesPost at c14
      rw [RR.out.2.2] at c14
      have C14 := Lib.hid c14
      have H13 := Lib.hid (And.intro (K10.out.trans hk13) (And.intro hrb13 (And.intro K10.out.size hk13.size)))
      clear c14 hr13 hrb13 hbb13 hk13 C12
      go_wp2_with fail
      refine C14.out.mono ?_
      rintro e w14 ⟨p14, n14, c14, rfl, ho14, hr14, hk14⟩
      have K14 := Lib.hid (H13.out.1.then hk14 (fun k hk he => by have := H13.out.2.1; have := H13.out.2.2.1; have e : k = rb4 := he; omega))
      have H14 := Lib.hid (And.intro ho14 hr14)
      clear ho14 hr14 hk14 C14 H13 K10
      by_cases tg0 : g = 0
      · have tg : ((g : Int) != 0) = false := by simp; omega
        have TG := Lib.hid tg0
        clear tg0
        go_wp2_with fail
        refine (awake_any w14).mono ?_
        rintro e w15 ⟨rfl, hk15⟩
        have C16 := Lib.hid (bytes_any _ _ [] x w15 (hns w15) (H14.out.1.sees.old hk15) (by simp) (by have := FF.out.2.2.2; omega))
        have K15 := Lib.hid (K14.out.trans hk15)
        have R15 := Lib.hid (H14.out.2.keeps hk15 (fun _ _ _ f => f))
        clear hk15
        go_wp2_with fail
        refine C16.out.mono ?_
        rintro e w16 ⟨p16, n16, c16, rfl, ho16, hk16⟩
        have L16 := Lib.hid (left_any _ _ _ _ w16 (R15.out.keeps hk16 (fun _ _ _ f => f)))
        have hul := FF.out.2.1
        obtain ⟨p17, c17, hs17, s17, _⟩ := (HM.out.2.old (K15.out.trans hk16)).upto (b.length - u.length) (by omega) .i64 ((b.length : Int) - (u.length : Int)) (by omega)
        rw [ahead (FF.out.2.2.1 TG.out)] at s17
        have E17 := equal_any _ _ _ _ w16 ho16.sees s17
        rw [List.nil_append, beq_self_eq_true] at E17
        have HE17 := Lib.hid E17
        have K16 := Lib.hid (K15.out.trans hk16)
        clear C16 ho16 hk16 s17 E17 R15 K15
        go_wp2_with fail
        refine L16.out.mono ?_
        rintro e w17 ⟨rfl, rfl⟩
        go_wp2_with fail
        refine HE17.out.mono ?_
        rintro e w18 ⟨rfl, rfl⟩
        go_wp2_with fail
        go_ret
        exact ⟨rfl, K16.out⟩
      · have tg : ((g : Int) != 0) = true := by simp; omega
        clear tg0
        go_wp2_with fail
        refine (awake_any w14).mono ?_
        rintro e w15 ⟨rfl, hk15⟩
        have K15 := Lib.hid (K14.out.trans hk15)
        clear hk15
        go_wp2_with fail
        go_ret
        exact ⟨rfl, K15.out⟩
end Go.Proofs.Ytplcnceacbpjhaa
