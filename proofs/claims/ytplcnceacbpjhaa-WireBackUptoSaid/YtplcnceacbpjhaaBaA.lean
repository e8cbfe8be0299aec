/- DERIVED. WireBack: a thing laid, a thing read. -/
import Derived.Test.YtplcnceacbpjhaaAw
import Derived.Test.YtplcnceacbpjhaaFormB
namespace Go.Proofs.Ytplcnceacbpjhaa
open Go.RowKit

/-- a thing as it came in: what it is, its number, its bytes (the slice, what it reads as) -/
structure Thing where
  what : Int
  n : Nat
  v : Value
  b : List UInt8
/-- its form -/
def Thing.enc (t : Thing) : List UInt8 := if t.what = 0 then form t.n else if t.what = 1 then form (zigN (wrap64 t.n)) else form t.b.length ++ t.b
/-- as a value -/
def Thing.val (t : Thing) : Value := .agg #[.int .i64 t.what, .int .u64 t.n, t.v]
def Thing.ok (W : World) (t : Thing) : Prop := Sees W t.v t.b ∧ t.b.length ≤ 100000000 ∧ t.n < 18446744073709551616
/-- it is read: is it the thing? the error; what is left -/
def Thing.rd (t : Thing) (l : List UInt8) : Bool × Nat × List UInt8 :=
  if t.what = 0 then ((readNum l 18446744073709551615).1 == t.n, (readNum l 18446744073709551615).2)
  else if t.what = 1 then ((readInt l).1 == wrap64 t.n, (readInt l).2)
  else ((readBytes l 9223372036854775807).1 == t.b, (readBytes l 9223372036854775807).2)

theorem wrap64_two (n : Int) : -9223372036854775808 ≤ wrap64 n ∧ wrap64 n ≤ 9223372036854775807 := by unfold wrap64; omega
theorem enc_length (t : Thing) (W : World) (h : t.ok W) : t.enc.length ≤ t.b.length + 10 := by
  unfold Thing.enc
  split
  · have := form_le10 h.2.2; omega
  · split
    · have := form_le10 (zigN_lt (wrap64_two t.n)); omega
    · have := form_le10 (n := t.b.length) (by have := h.2.1; omega); simp; omega

set_option maxRecDepth 100000 in
set_option maxHeartbeats 1000000 in
theorem lay_any (v : Value) (l : List UInt8) (t : Thing) (w : World) (h : Sees w v l) (hl : l.length ≤ 1000000000) (ht : t.ok w) :
    Calls Try.prog 26 #[v, t.val] w (Gives w (l ++ t.enc)) := by
  obtain ⟨what, n, tv, b⟩ := t
  obtain ⟨h1, h2, h3⟩ := ht
  simp only at h1 h2 h3
  obtain ⟨p, c, rfl, _, _⟩ := Sees.len h1
  unfold Thing.val
  simp only
  by_cases h0 : what = 0
  · have he : Thing.enc ⟨what, n, .slice p b.length c, b⟩ = form n := by unfold Thing.enc; rw [if_pos h0]
    rw [he]
    have C := Lib.hid (num_any v l n (w.alloc (.cells #[.int .i64 what, .int .u64 n, .slice p b.length c] 59)) (h.alloc _) hl h3)
    have t0 : (what == 0) = true := by simp [h0]
    clear h h1 he h0 h3
    go_enter Try.func26, Try.ntmps26
    go_wp2_with fail
    refine C.out.mono ?_
    rintro e w1 ⟨p1, n1, c1, rfl, ho, hk⟩
    go_wp2_with fail
    go_ret
    exact gives rfl (ho.mono (by simp)) (((Keeps.refl _ _).alloc _).trans hk)
  · by_cases h1' : what = 1
    · have he : Thing.enc ⟨what, n, .slice p b.length c, b⟩ = form (zigN (wrap64 n)) := by unfold Thing.enc; rw [if_neg h0, if_pos h1']
      rw [he]
      have C := Lib.hid (int_any v l (wrap64 n) (w.alloc (.cells #[.int .i64 what, .int .u64 n, .slice p b.length c] 59)) (h.alloc _) hl (wrap64_two n))
      have t0 : (what == 0) = false := by simp [h0]
      have t1 : (what == 1) = true := by simp [h1']
      clear h h1 he h0 h1' h3
      go_enter Try.func26, Try.ntmps26
      go_wp2_with fail
      refine C.out.mono ?_
      rintro e w1 ⟨p1, n1, c1, rfl, ho, hk⟩
      go_wp2_with fail
      go_ret
      exact gives rfl (ho.mono (by simp)) (((Keeps.refl _ _).alloc _).trans hk)
    · have he : Thing.enc ⟨what, n, .slice p b.length c, b⟩ = form b.length ++ b := by unfold Thing.enc; rw [if_neg h0, if_neg h1']
      rw [he, ← List.append_assoc]
      have C := Lib.hid (bytes_any v _ l b (w.alloc (.cells #[.int .i64 what, .int .u64 n, .slice p b.length c] 59)) (h.alloc _) (h1.alloc _) hl (by omega))
      have t0 : (what == 0) = false := by simp [h0]
      have t1 : (what == 1) = false := by simp [h1']
      clear h h1 he h0 h1' h3
      go_enter Try.func26, Try.ntmps26
      go_wp2_with fail
      refine C.out.mono ?_
      rintro e w1 ⟨p1, n1, c1, rfl, ho, hk⟩
      go_wp2_with fail
      go_ret
      exact gives rfl (ho.mono (by simp)) (((Keeps.refl _ _).alloc _).trans hk)

theorem cast_beq (a b : Nat) : ((a : Int) == (b : Int)) = (a == b) := by
  rw [Bool.eq_iff_iff]; simp; omega

def ReadsPost (w : World) (B rb bb : Nat) (l : List UInt8) (t : Thing) (e : Ending) (w' : World) : Prop :=
  e = .returned (.tuple #[.bool (t.rd l).1, .int .i64 (t.rd l).2.1]) ∧ Rd w' B rb bb (t.rd l).2.2 ∧ Keeps (fun k => k = rb) w w'

set_option maxRecDepth 100000 in
set_option maxHeartbeats 1000000 in
theorem reads_any (B rb bb : Nat) (l : List UInt8) (t : Thing) (w : World) (h : Rd w B rb bb l) (ht : t.ok w) (hsee : ∀ w', Keeps (fun k => k = rb) w w' → Sees w' t.v t.b) :
    Calls Try.prog 27 #[.pointer (some ⟨rb, 0, none⟩), t.val] w (ReadsPost w B rb bb l t) := by
  obtain ⟨what, n, tv, b⟩ := t
  obtain ⟨h1, h2, h3⟩ := ht
  simp only at h1 h2 h3 hsee
  obtain ⟨p, c, rfl, _, _⟩ := Sees.len h1
  have hrbl : rb < w.heap.size := by obtain ⟨_, v, hh, _⟩ := h; exact lt_of_block hh
  unfold Thing.val
  simp only
  have hR : Rd (w.alloc (.cells #[.int .i64 what, .int .u64 n, .slice p b.length c] 59)) B rb bb l := h.keeps ((Keeps.refl (fun _ => False) _).alloc _) (fun _ _ _ f => f)
  have hK : ∀ w', Keeps (fun k => k = rb) (w.alloc (.cells #[.int .i64 what, .int .u64 n, .slice p b.length c] 59)) w' → Keeps (fun k => k = rb) w w' := fun w' h => ((Keeps.refl _ _).alloc _).trans h
  by_cases h0 : what = 0
  · have he : ∀ x, Thing.rd ⟨what, n, .slice p b.length c, b⟩ x = ((readNum x 18446744073709551615).1 == n, (readNum x 18446744073709551615).2) := by intro x; unfold Thing.rd; rw [if_pos h0]
    have C := rnum_any B rb bb l 18446744073709551615 _ hR (by decide)
    unfold NumPost at C
    unfold ReadsPost
    rw [he]
    generalize readNum l 18446744073709551615 = q at *
    obtain ⟨q1, q2, q3⟩ := q
    have CC := Lib.hid C
    have HK := Lib.hid hK
    have t0 : (what == 0) = true := by simp [h0]
    have c1 : ∀ w', Keeps (fun k => k = rb) (w.alloc (.cells #[.int .i64 what, .int .u64 n, .slice p b.length c] 59)) w' → w'.cell? ⟨w.heap.size, 1, none⟩ = some (.int .u64 n) := fun w' hk => hk.cell (World.cell?_alloc_at _ _ _ _ rfl) (by show ¬ w.heap.size = rb; omega)
    have HC1 := Lib.hid c1
    clear C hK h h1 he h0 h3 hR c1 hsee
    go_enter Try.func27, Try.ntmps27
    go_wp2_with fail
    refine CC.out.mono ?_
    rintro e w1 ⟨rfl, hr, hk⟩
    have c2 := HC1.out w1 hk
    have F := Lib.hid (And.intro hr (HK.out w1 hk))
    clear hr hk
    go_wp2_with fail
    go_ret2
    exact ⟨by simp [cast_beq], F.out⟩
  · by_cases h1' : what = 1
    · have he : ∀ x, Thing.rd ⟨what, n, .slice p b.length c, b⟩ x = ((readInt x).1 == wrap64 n, (readInt x).2) := by intro x; unfold Thing.rd; rw [if_neg h0, if_pos h1']
      have C := rint_any B rb bb l _ hR
      unfold ReadsPost
      rw [he]
      generalize readInt l = q at *
      obtain ⟨q1, q2, q3⟩ := q
      have CC := Lib.hid C
      have HK := Lib.hid hK
      have t0 : (what == 0) = false := by simp [h0]
      have t1 : (what == 1) = true := by simp [h1']
      have c1 : ∀ w', Keeps (fun k => k = rb) (w.alloc (.cells #[.int .i64 what, .int .u64 n, .slice p b.length c] 59)) w' → w'.cell? ⟨w.heap.size, 1, none⟩ = some (.int .u64 n) := fun w' hk => hk.cell (World.cell?_alloc_at _ _ _ _ rfl) (by show ¬ w.heap.size = rb; omega)
      have HC1 := Lib.hid c1
      clear C hK h h1 he h0 h3 hR c1 h1' hsee
      go_enter Try.func27, Try.ntmps27
      go_wp2_with fail
      refine CC.out.mono ?_
      rintro e w1 ⟨rfl, hr, hk⟩
      have c2 := HC1.out w1 hk
      have F := Lib.hid (And.intro hr (HK.out w1 hk))
      clear hr hk
      go_wp2_with fail
      go_ret2
      exact ⟨by simp, F.out⟩
    · have he : ∀ x, Thing.rd ⟨what, n, .slice p b.length c, b⟩ x = ((readBytes x 9223372036854775807).1 == b, (readBytes x 9223372036854775807).2) := by intro x; unfold Thing.rd; rw [if_neg h0, if_neg h1']
      have C := rbytes_any B rb bb l 9223372036854775807 _ hR (by decide)
      unfold BytesPost at C
      unfold ReadsPost
      rw [he]
      generalize readBytes l 9223372036854775807 = q at *
      obtain ⟨q1, q2, q3⟩ := q
      have CC := Lib.hid C
      have HK := Lib.hid hK
      have H1 := Lib.hid hsee
      have t0 : (what == 0) = false := by simp [h0]
      have t1 : (what == 1) = false := by simp [h1']
      have c1 : ∀ w', Keeps (fun k => k = rb) (w.alloc (.cells #[.int .i64 what, .int .u64 n, .slice p b.length c] 59)) w' → w'.cell? ⟨w.heap.size, 2, none⟩ = some (.slice p b.length c) := fun w' hk => hk.cell (World.cell?_alloc_at _ _ _ _ rfl) (by show ¬ w.heap.size = rb; omega)
      have HC1 := Lib.hid c1
      clear C hK h h1 he h0 h3 hR c1 h1' hsee
      go_enter Try.func27, Try.ntmps27
      go_wp2_with fail
      refine CC.out.mono ?_
      rintro e w1 ⟨p1, n1, c1, rfl, ho, hr, hk⟩
      have c2 := HC1.out w1 hk
      have E := Lib.hid (equal_any _ _ _ _ w1 ho.sees (H1.out w1 (HK.out w1 hk)))
      have F := Lib.hid (And.intro hr (HK.out w1 hk))
      clear hr hk ho
      go_wp2_with fail
      refine E.out.mono ?_
      rintro e w2 ⟨rfl, rfl⟩
      go_wp2_with fail
      go_ret2
      exact ⟨by simp, F.out⟩
end Go.Proofs.Ytplcnceacbpjhaa
