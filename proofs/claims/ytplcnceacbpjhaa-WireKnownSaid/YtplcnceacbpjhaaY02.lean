/- DERIVED. Plain: forms of numbers, and how they are read. No program in sight. · DERIVED. The contracts of the writers of package wire. -/
import Derived.Laws.BitsLemmas
import Derived.Laws.Bits64
import Derived.Test.YtplcnceacbpjhaaY01
import Derived.Defers
namespace Go.Proofs.Ytplcnceacbpjhaa

/-- a number's form -/
def form (n : Nat) : List UInt8 := if n < 128 then [UInt8.ofNat n] else UInt8.ofNat (128 + n % 128) :: form (n / 128)
termination_by n
decreasing_by omega

theorem form_lt {n : Nat} (h : n < 128) : form n = [UInt8.ofNat n] := by rw [form, if_pos h]
theorem form_ge {n : Nat} (h : 128 ≤ n) : form n = UInt8.ofNat (128 + n % 128) :: form (n / 128) := by rw [form, if_neg (by omega)]

theorem form_length_pos (n : Nat) : 1 ≤ (form n).length := by
  rcases Nat.lt_or_ge n 128 with h | h
  · rw [form_lt h]; simp
  · rw [form_ge h]; simp
theorem form_length_le (k : Nat) : ∀ n, n < 128 ^ (k + 1) → (form n).length ≤ k + 1 := by
  induction k with
  | zero => intro n h; rw [form_lt (by simpa using h)]; simp
  | succ k ih =>
    intro n h
    rcases Nat.lt_or_ge n 128 with h' | h'
    · rw [form_lt h']; simp
    · rw [form_ge h']
      have := ih (n / 128) (by rw [Nat.div_lt_iff_lt_mul (by decide)]; rw [Nat.pow_succ] at h; omega)
      simp; omega
theorem form_le10 {n : Nat} (h : n < 18446744073709551616) : (form n).length ≤ 10 := form_length_le 9 n (Nat.lt_of_lt_of_le h (by decide))

theorem and127_u64 {x : Nat} (h : x < 18446744073709551616) : bits .and .u64 (x : Int) 127 = ((x % 128 : Nat) : Int) := by
  exact bits_mask .u64 64 (by decide) (fun n h0 h1 => by rw [IntKind.wrap_u64]; omega) 7 (by decide) (x : Int) (by omega) (by omega)
theorem and127_u8 {x : Nat} (h : x < 256) : bits .and .u8 (x : Int) 127 = ((x % 128 : Nat) : Int) := by
  exact bits_mask .u8 8 (by decide) wraps_u8 7 (by decide) (x : Int) (by omega) (by omega)
theorem or128_u8 {x : Nat} (h : x < 128) : bits .or .u8 (x : Int) 128 = ((x + 128 : Nat) : Int) := by
  revert x; decide +kernel
theorem byte_last {m : Nat} (h : m < 128) : (m : Int) % 128 = ((UInt8.ofNat m).toNat : Int) := by
  rw [UInt8.toNat_ofNat']; omega
theorem byte_more (m : Nat) : bits .or .u8 ((m : Int) % 128) 128 = ((UInt8.ofNat (128 + m % 128)).toNat : Int) := by
  have h := or128_u8 (x := m % 128) (by omega)
  rw [UInt8.toNat_ofNat']
  rw [show ((m : Int) % 128) = ((m % 128 : Nat) : Int) from by omega, h]
  omega

/-- a signed number as one that is not -/
def zigN (z : Int) : Nat := if 0 ≤ z then (2 * z).toNat else (-2 * z - 1).toNat
/-- and back -/
def zagZ (m : Nat) : Int := if m % 2 = 0 then (m / 2 : Nat) else -((m / 2 : Nat) : Int) - 1
theorem zigN_lt {z : Int} (hz : -9223372036854775808 ≤ z ∧ z ≤ 9223372036854775807) : zigN z < 18446744073709551616 := by unfold zigN; split <;> omega
theorem zagZ_range {m : Nat} (hm : m < 18446744073709551616) : -9223372036854775808 ≤ zagZ m ∧ zagZ m ≤ 9223372036854775807 := by unfold zagZ; split <;> omega
theorem zag_zig (z : Int) : zagZ (zigN z) = z := by
  unfold zigN
  split
  · unfold zagZ; rw [if_pos (by omega)]; omega
  · unfold zagZ; rw [if_neg (by omega)]; omega
theorem zig_zag (m : Nat) : zigN (zagZ m) = m := by
  unfold zagZ
  split
  · unfold zigN; rw [if_pos (by omega)]; omega
  · unfold zigN; rw [if_neg (by omega)]; omega
theorem xor_ones (a : Nat) (ha : a < 18446744073709551616) : a ^^^ 18446744073709551615 = 18446744073709551615 - a := by
  have h : ((BitVec.ofNat 64 a) ^^^ BitVec.allOnes 64).toNat = 18446744073709551615 - a := by
    rw [BitVec.xor_allOnes, BitVec.toNat_not, BitVec.toNat_ofNat, Nat.mod_eq_of_lt (by omega)]
  rw [BitVec.toNat_xor, BitVec.toNat_ofNat, Nat.mod_eq_of_lt (by omega)] at h
  exact h
theorem zig_bits {z : Int} (hz : -9223372036854775808 ≤ z ∧ z ≤ 9223372036854775807) :
    bits .xor .u64 (IntKind.u64.wrap (IntKind.u64.wrap z * 2)) (IntKind.u64.wrap (z / 9223372036854775808)) = (zigN z : Int) := by
  simp only [IntKind.wrap_u64]
  unfold zigN
  split
  · rename_i h0
    have e1 : (z % 18446744073709551616 * 2) % 18446744073709551616 = ((2 * z).toNat : Int) := by omega
    have e2 : (z / 9223372036854775808) % 18446744073709551616 = ((0 : Nat) : Int) := by omega
    rw [e1, e2, bits_xor_u64_nat _ _ (by omega) (by omega), Nat.xor_zero]
  · rename_i h0
    have e1 : (z % 18446744073709551616 * 2) % 18446744073709551616 = ((2 * z + 18446744073709551616).toNat : Int) := by omega
    have e2 : (z / 9223372036854775808) % 18446744073709551616 = ((18446744073709551615 : Nat) : Int) := by omega
    rw [e1, e2, bits_xor_u64_nat _ _ (by omega) (by omega), xor_ones _ (by omega)]
    omega
theorem and1_u64 {x : Nat} (h : x < 18446744073709551616) : bits .and .u64 (x : Int) 1 = ((x % 2 : Nat) : Int) := by
  exact bits_mask .u64 64 (by decide) (fun n h0 h1 => by rw [IntKind.wrap_u64]; omega) 1 (by decide) (x : Int) (by omega) (by omega)
theorem xor_i64_zero {a : Nat} (h : a < 9223372036854775808) : bits .xor .i64 (a : Int) 0 = (a : Int) := by
  show IntKind.i64.wrap ((BitVec.ofInt 64 (a : Int) ^^^ BitVec.ofInt 64 0).toNat : Int) = _
  rw [BitVec.toNat_xor, BitVec.ofInt_natCast, BitVec.toNat_ofNat, Nat.mod_eq_of_lt (by omega)]
  simp [IntKind.wrap_i64]
  omega
theorem xor_i64_neg {a : Nat} (h : a < 9223372036854775808) : bits .xor .i64 (a : Int) (-1) = -(a : Int) - 1 := by
  show IntKind.i64.wrap ((BitVec.ofInt 64 (a : Int) ^^^ BitVec.ofInt 64 (-1)).toNat : Int) = _
  rw [BitVec.toNat_xor, BitVec.ofInt_natCast, BitVec.toNat_ofNat, Nat.mod_eq_of_lt (by omega)]
  rw [show (BitVec.ofInt 64 (-1)).toNat = 18446744073709551615 from by decide, xor_ones _ (by omega), IntKind.wrap_i64]
  omega
theorem zag_bits {m : Nat} (hm : m < 18446744073709551616) : bits .xor .i64 ((m : Int) / 2) (IntKind.i64.wrap (-IntKind.i64.wrap (bits .and .u64 (m : Int) 1))) = zagZ m := by
  rw [and1_u64 hm, show (m : Int) / 2 = ((m / 2 : Nat) : Int) from by omega]
  unfold zagZ
  split
  · rename_i h
    rw [h, show IntKind.i64.wrap (-IntKind.i64.wrap ((0 : Nat) : Int)) = 0 from by decide, xor_i64_zero (by omega)]
  · rename_i h
    rw [show m % 2 = 1 from by omega, show IntKind.i64.wrap (-IntKind.i64.wrap ((1 : Nat) : Int)) = -1 from by decide, xor_i64_neg (by omega)]
theorem byte_low {m : Nat} (h : m < 128) : (m : Int) = ((UInt8.ofNat m).toNat : Int) := by
  rw [UInt8.toNat_ofNat']; omega
theorem byte_high (m : Nat) : 128 + (m : Int) % 128 = ((UInt8.ofNat (128 + m % 128)).toNat : Int) := by
  rw [UInt8.toNat_ofNat']; omega

/-- groups of seven bits, from the i-th on: (the number, the error, what is left) -/
def scan : Nat → Nat → List UInt8 → Nat × Nat × List UInt8
  | _, _, [] => (0, 4, [])
  | i, acc, c :: r =>
    if (i = 9 ∧ 1 < c.toNat) ∨ (0 < i ∧ c.toNat = 0) then (0, 5, [])
    else if c.toNat < 128 then (acc + c.toNat % 128 * 128 ^ i, 0, r) else scan (i + 1) (acc + c.toNat % 128 * 128 ^ i) r
/-- a number is read: (the number, the error, what is left) -/
def readNum (l : List UInt8) (most : Nat) : Nat × Nat × List UInt8 :=
  if (scan 0 0 l).2.1 ≠ 0 then (0, (scan 0 0 l).2.1, l) else if most < (scan 0 0 l).1 then (0, 3, l) else ((scan 0 0 l).1, 0, (scan 0 0 l).2.2)

theorem or_group {acc c i : Nat} (hi : i ≤ 9) (ha : acc < 128 ^ i) (hc : c < 128) (h9 : i = 9 → c ≤ 1) : bits .or .u64 (acc : Int) (IntKind.u64.wrap ((c : Int) * 2 ^ min (7 * (i : Int)).toNat 64)) = ((acc + c * 128 ^ i : Nat) : Int) := by
  have e1 : min (7 * (i : Int)).toNat 64 = 7 * i := by omega
  have e2 : ((c : Int) * 2 ^ (7 * i)) = ((c * 128 ^ i : Nat) : Int) := by
    rw [Int.natCast_mul, Int.natCast_pow, show ((128 : Nat) : Int) = 2 ^ 7 from rfl, ← Int.pow_mul]
  have hp : 128 ^ i = 2 ^ (7 * i) := by rw [Nat.pow_mul]
  have hlt : acc + c * 128 ^ i < 18446744073709551616 := by
    rcases Nat.lt_or_ge i 9 with h | h
    · have h1 : acc + c * 128 ^ i < 128 ^ (i + 1) := by
        have : c * 128 ^ i ≤ 127 * 128 ^ i := Nat.mul_le_mul_right _ (by omega)
        rw [Nat.pow_succ]; omega
      exact Nat.lt_of_lt_of_le h1 (Nat.le_trans (Nat.pow_le_pow_right (by decide) (show i + 1 ≤ 9 by omega)) (by decide))
    · obtain rfl : i = 9 := by omega
      have := h9 rfl
      have : c * 128 ^ 9 ≤ 1 * 128 ^ 9 := Nat.mul_le_mul_right _ (by omega)
      have h3 : (128 : Nat) ^ 9 = 9223372036854775808 := by decide
      omega
  rw [e1, e2]
  rw [show IntKind.u64.wrap ((c * 128 ^ i : Nat) : Int) = ((c * 128 ^ i : Nat) : Int) from by rw [IntKind.wrap_u64]; omega]
  rw [(bits_nat .u64 64 (by decide) (fun n h0 h1 => by rw [IntKind.wrap_u64]; omega) acc (c * 128 ^ i) (by omega) (by omega)).2]
  rw [hp] at ha ⊢
  rw [Nat.or_comm, Nat.mul_comm c, ← Nat.two_pow_add_eq_or_of_lt ha c]
  omega
theorem or_group' {acc c i : Nat} (hi : i ≤ 9) (ha : acc < 128 ^ i) (h9 : i = 9 → c ≤ 1) : bits .or .u64 (acc : Int) (IntKind.u64.wrap ((c : Int) % 128 * 2 ^ (7 * i))) = ((acc + c % 128 * 128 ^ i : Nat) : Int) := by
  have h := or_group (c := c % 128) hi ha (by omega) (fun h => by have := h9 h; omega)
  rw [show min (7 * (i : Int)).toNat 64 = 7 * i from by omega] at h
  rw [← h]
  rfl
theorem acc_lt {acc c i : Nat} (ha : acc < 128 ^ i) : acc + c % 128 * 128 ^ i < 128 ^ (i + 1) := by
  have : c % 128 * 128 ^ i ≤ 127 * 128 ^ i := Nat.mul_le_mul_right _ (by omega)
  rw [Nat.pow_succ]; omega
theorem scan_bad {i acc : Nat} {c : UInt8} {r : List UInt8} (h : (i = 9 ∧ 1 < c.toNat) ∨ (0 < i ∧ c.toNat = 0)) : scan i acc (c :: r) = (0, 5, []) := by rw [scan, if_pos h]
theorem scan_last {i acc : Nat} {c : UInt8} {r : List UInt8} (h : ¬ ((i = 9 ∧ 1 < c.toNat) ∨ (0 < i ∧ c.toNat = 0))) (hc : c.toNat < 128) : scan i acc (c :: r) = (acc + c.toNat % 128 * 128 ^ i, 0, r) := by rw [scan, if_neg h, if_pos hc]
theorem scan_more {i acc : Nat} {c : UInt8} {r : List UInt8} (h : ¬ ((i = 9 ∧ 1 < c.toNat) ∨ (0 < i ∧ c.toNat = 0))) (hc : ¬ c.toNat < 128) : scan i acc (c :: r) = scan (i + 1) (acc + c.toNat % 128 * 128 ^ i) r := by rw [scan, if_neg h, if_neg hc]
theorem read_bad {l : List UInt8} {most e : Nat} {n : Nat} {r : List UInt8} (h : scan 0 0 l = (n, e, r)) (he : e ≠ 0) : readNum l most = (0, e, l) := by
  unfold readNum; rw [h]; simp [he]
theorem read_long {l : List UInt8} {most n : Nat} {r : List UInt8} (h : scan 0 0 l = (n, 0, r)) (hn : most < n) : readNum l most = (0, 3, l) := by
  unfold readNum; rw [h]; simp [hn]
theorem read_ok {l : List UInt8} {most n : Nat} {r : List UInt8} (h : scan 0 0 l = (n, 0, r)) (hn : ¬ most < n) : readNum l most = (n, 0, r) := by
  unfold readNum; rw [h]; simp [hn]

/-- a signed number is read -/
def readInt (l : List UInt8) : Int × Nat × List UInt8 := (if (readNum l 18446744073709551615).2.1 = 0 then zagZ (readNum l 18446744073709551615).1 else 0, (readNum l 18446744073709551615).2)
/-- a string of bytes is read -/
def readBytes (l : List UInt8) (most : Int) : List UInt8 × Nat × List UInt8 :=
  if most < 0 then ([], 1, l)
  else if (readNum l most.toNat).2.1 ≠ 0 then ([], (readNum l most.toNat).2.1, l)
  else if (readNum l most.toNat).2.2.length < (readNum l most.toNat).1 then ([], 4, l)
  else ((readNum l most.toNat).2.2.take (readNum l most.toNat).1, 0, (readNum l most.toNat).2.2.drop (readNum l most.toNat).1)
theorem readNum_err (l : List UInt8) (most : Nat) : (readNum l most).2.1 < 6 := by
  have key : ∀ l i acc, (scan i acc l).2.1 < 6 := by
    intro l
    induction l with
    | nil => intro i acc; simp [scan]
    | cons c r ih => intro i acc; rw [scan]; split; · simp
                     split; · simp
                     exact ih _ _
  unfold readNum
  split
  · exact key _ _ _
  · split <;> simp
theorem readNum_le (l : List UInt8) (most : Nat) : (readNum l most).1 ≤ most := by
  unfold readNum
  split
  · simp
  · split
    · simp
    · simp; omega
theorem readNum_bad {l : List UInt8} {most : Nat} (h : (readNum l most).2.1 ≠ 0) : (readNum l most).1 = 0 ∧ (readNum l most).2.2 = l := by
  unfold readNum at h ⊢
  split
  · simp
  · rename_i h1
    rw [if_neg h1] at h
    split
    · simp
    · rename_i h2; rw [if_neg h2] at h; exact absurd rfl h
theorem scan_rest : ∀ l i acc, (scan i acc l).2.2.length ≤ l.length := by
  intro l
  induction l with
  | nil => intro i acc; simp [scan]
  | cons c r ih =>
    intro i acc; rw [scan]; split
    · simp
    · split
      · simp
      · have := ih (i + 1) (acc + c.toNat % 128 * 128 ^ i); simp; omega
theorem readNum_rest (l : List UInt8) (most : Nat) : (readNum l most).2.2.length ≤ l.length := by
  unfold readNum
  split
  · exact Nat.le_refl _
  · split
    · exact Nat.le_refl _
    · exact scan_rest l 0 0

/-- how many bytes of 128 and more stand first -/
def lead : List UInt8 → Nat
  | [] => 0
  | c :: r => if 128 ≤ c.toNat then lead r + 1 else 0
/-- groups of seven bits, the lowest first, as a number -/
def lev : List UInt8 → Nat
  | [] => 0
  | c :: r => c.toNat % 128 + 128 * lev r
theorem lead_le : ∀ l, lead l ≤ l.length
  | [] => Nat.le_refl _
  | c :: r => by have := lead_le r; unfold lead; split <;> simp <;> omega
theorem lead_at : ∀ (l : List UInt8) (k : Nat), k < lead l → ∃ c, l[k]? = some c ∧ 128 ≤ c.toNat
  | [], k, h => by simp [lead] at h
  | c :: r, k, h => by
    unfold lead at h
    split at h
    · cases k with
      | zero => exact ⟨c, by simp, by assumption⟩
      | succ k => simpa using lead_at r k (by omega)
    · omega
theorem lead_end : ∀ (l : List UInt8), lead l < l.length → ∃ c, l[lead l]? = some c ∧ c.toNat < 128
  | [], h => by simp at h
  | c :: r, h => by
    unfold lead at h ⊢
    split
    · rename_i hc
      rw [if_pos hc] at h
      obtain ⟨d, h1, h2⟩ := lead_end r (by simp at h; omega)
      exact ⟨d, by simpa using h1, h2⟩
    · exact ⟨c, by simp, by omega⟩
theorem lev_lt : ∀ l, lev l < 128 ^ l.length
  | [] => by simp [lev]
  | c :: r => by
    have := lev_lt r
    simp only [lev, List.length_cons, Nat.pow_succ]
    omega
theorem lev_drop (l : List UInt8) (i : Nat) : lev (l.drop i) ≤ lev l := by
  induction l generalizing i with
  | nil => simp [lev]
  | cons c r ih =>
    cases i with
    | zero => exact Nat.le_refl _
    | succ i => simp only [List.drop_succ_cons, lev]; have := ih i; omega
theorem lev_step (l : List UInt8) (i : Nat) (c : UInt8) (h : l[i]? = some c) : lev (l.drop i) = c.toNat % 128 + 128 * lev (l.drop (i + 1)) := by
  have hi := (List.getElem?_eq_some_iff.1 h).1
  have hc := (List.getElem?_eq_some_iff.1 h).2
  rw [List.drop_eq_getElem_cons hi, hc, lev]
/-- the scan, by the number of bytes that stand first -/
theorem scan_lead : ∀ (l : List UInt8) (i acc : Nat), i ≤ 9 →
    ((10 ≤ i + lead l → (scan i acc l).2.1 = 5) ∧ (i + lead l < 10 → lead l = l.length → (scan i acc l).2.1 = 4) ∧
     (i + lead l < 10 → ∀ c, l[lead l]? = some c → ((i + lead l = 9 ∧ 1 < c.toNat) ∨ (0 < i + lead l ∧ c.toNat = 0)) → (scan i acc l).2.1 = 5) ∧
     (i + lead l < 10 → ∀ c, l[lead l]? = some c → ¬ ((i + lead l = 9 ∧ 1 < c.toNat) ∨ (0 < i + lead l ∧ c.toNat = 0)) → scan i acc l = (acc + 128 ^ i * lev (l.take (lead l + 1)), 0, l.drop (lead l + 1)))) := by
  intro l
  induction l with
  | nil =>
    intro i acc hi
    refine ⟨fun h => by simp [lead] at h; omega, fun _ _ => by simp [scan], fun _ c h => by simp at h, fun _ c h => by simp at h⟩
  | cons c r ih =>
    intro i acc hi
    by_cases hc : 128 ≤ c.toNat
    · have hl : lead (c :: r) = lead r + 1 := by rw [lead, if_pos hc]
      by_cases h9 : i = 9
      · have hb : scan i acc (c :: r) = (0, 5, []) := scan_bad (.inl ⟨h9, by omega⟩)
        refine ⟨fun _ => by rw [hb], fun h => by omega, fun h => by omega, fun h => by omega⟩
      · have hg : ¬ ((i = 9 ∧ 1 < c.toNat) ∨ (0 < i ∧ c.toNat = 0)) := by omega
        have hs := scan_more (acc := acc) (r := r) hg (by omega)
        obtain ⟨h1, h2, h3, h4⟩ := ih (i + 1) (acc + c.toNat % 128 * 128 ^ i) (by omega)
        rw [hs, hl]
        refine ⟨fun h => h1 (by omega), fun h e => h2 (by omega) (by simp at e; omega), fun h d hd hbad => h3 (by omega) d (by simpa using hd) (by omega), fun h d hd hgood => ?_⟩
        rw [h4 (by omega) d (by simpa using hd) (by omega)]
        simp only [List.take_succ_cons, List.drop_succ_cons, lev, Prod.mk.injEq, and_true]
        rw [Nat.pow_succ, Nat.mul_add, Nat.mul_comm (c.toNat % 128), Nat.mul_assoc]
        omega
    · have hl : lead (c :: r) = 0 := by rw [lead, if_neg hc]
      rw [hl]
      refine ⟨fun h => by omega, fun _ e => by simp at e, fun _ d hd hbad => ?_, fun _ d hd hgood => ?_⟩
      · obtain rfl : c = d := by simpa using hd
        rw [scan_bad (by simpa using hbad)]
      · obtain rfl : c = d := by simpa using hd
        rw [scan_last (by simpa using hgood) (by omega)]
        simp [lev, Nat.mul_comm]
theorem lev_fits (l : List UInt8) (n : Nat) (hn : n < 10) (c : UInt8) (h : l[n]? = some c) (h9 : n = 9 → c.toNat ≤ 1) : lev (l.take (n + 1)) < 18446744073709551616 := by
  rcases Nat.lt_or_ge n 9 with h' | h'
  · have h1 := lev_lt (l.take (n + 1))
    have h2 : (l.take (n + 1)).length ≤ 9 := by simp; omega
    exact Nat.lt_of_lt_of_le h1 (Nat.le_trans (Nat.pow_le_pow_right (by decide) h2) (by decide))
  · obtain rfl : n = 9 := by omega
    have hh := h9 rfl
    have key : ∀ (m : Nat) (l : List UInt8), l[m]? = some c → lev (l.take (m + 1)) < 2 * 128 ^ m := by
      intro m
      induction m with
      | zero =>
        intro l hl
        cases l with
        | nil => simp at hl
        | cons d r =>
          obtain rfl : d = c := by simpa using hl
          simp [lev]; omega
      | succ m ih =>
        intro l hl
        cases l with
        | nil => simp at hl
        | cons d r =>
          have := ih r (by simpa using hl)
          simp only [List.take_succ_cons, lev, Nat.pow_succ]
          omega
    exact key 9 l h
theorem read_many {l : List UInt8} {most : Nat} (h : 10 ≤ lead l) : readNum l most = (0, 5, l) := by
  have h1 := (scan_lead l 0 0 (by omega)).1 (by omega)
  have := read_bad (l := l) (most := most) (e := 5) (n := (scan 0 0 l).1) (r := (scan 0 0 l).2.2) (by rw [← h1]) (by decide)
  exact this
theorem read_short {l : List UInt8} {most : Nat} (h : lead l < 10) (he : lead l = l.length) : readNum l most = (0, 4, l) := by
  have h1 := (scan_lead l 0 0 (by omega)).2.1 (by omega) he
  exact read_bad (l := l) (most := most) (e := 4) (n := (scan 0 0 l).1) (r := (scan 0 0 l).2.2) (by rw [← h1]) (by decide)
theorem read_none {l : List UInt8} {most : Nat} (h : lead l < 10) {c : UInt8} (hc : l[lead l]? = some c) (hb : (lead l = 9 ∧ 1 < c.toNat) ∨ (0 < lead l ∧ c.toNat = 0)) : readNum l most = (0, 5, l) := by
  have h1 := (scan_lead l 0 0 (by omega)).2.2.1 (by omega) c hc (by simpa using hb)
  exact read_bad (l := l) (most := most) (e := 5) (n := (scan 0 0 l).1) (r := (scan 0 0 l).2.2) (by rw [← h1]) (by decide)
theorem read_good {l : List UInt8} {most : Nat} (h : lead l < 10) {c : UInt8} (hc : l[lead l]? = some c) (hb : ¬ ((lead l = 9 ∧ 1 < c.toNat) ∨ (0 < lead l ∧ c.toNat = 0))) :
    readNum l most = if most < lev (l.take (lead l + 1)) then (0, 3, l) else (lev (l.take (lead l + 1)), 0, l.drop (lead l + 1)) := by
  have h1 := (scan_lead l 0 0 (by omega)).2.2.2 (by omega) c hc (by simpa using hb)
  simp only [Nat.pow_zero, Nat.one_mul, Nat.zero_add] at h1
  split
  · rename_i h2; exact read_long h1 h2
  · rename_i h2; exact read_ok h1 h2
theorem form_300 : form 300 = [172, 2] := by rw [form_ge (by decide), form_lt (by decide)]; decide
theorem form_129 : form 129 = [129, 1] := by rw [form_ge (by decide), form_lt (by decide)]; decide
theorem form_2 : form 2 = [2] := by rw [form_lt (by decide)]; decide
end Go.Proofs.Ytplcnceacbpjhaa

namespace Go.Proofs.Ytplcnceacbpjhaa
open Go.RowKit

set_option maxHeartbeats 400000 in
theorem num_any (v : Value) (l : List UInt8) (n : Nat) (w : World) (h : Sees w v l) (hl : l.length ≤ 1000000000) (hn : n < 18446744073709551616) :
  Calls Try.prog 9 #[v, .int .u64 n] w (Gives w (l ++ form n)) := by
 go_enter Try.func9, Try.ntmps9
 go_wp2_with fail
 go_step3
 go_wp2_with (go_at_call 29; refine (clone_any v l w h hl).mono ?_; rintro e w1 ⟨p1, n1, c1, rfl, ho, hk⟩)
 go_step3
 go_wp2_with fail
 go_loopw [1, 5] (fun v1 v5 wr => ∃ m l', v1 = .int .u64 (m : Nat) ∧ m < 18446744073709551616 ∧ Owns wr w.heap.size v5 l' ∧ Old w wr ∧ l' ++ form m = l ++ form n) (fun v1 _ _ => (intOf v1).toNat)
 case atStart => exact ⟨n, l, rfl, hn, ho, hk, rfl⟩
 case round =>
  obtain ⟨m, l', rfl, hm, ho', hk', he⟩ := hrel
  have hlen : l'.length ≤ 1000000010 := by
   have := congrArg List.length he
   simp only [List.length_append] at this
   have := form_le10 hn
   omega
  have H := Lib.hid he
  clear he ho hk
  have ha := and127_u64 hm
  have hs := hk'.size
  by_cases h0 : m < 128
  ·have hz : ((m : Int) / 128 == 0) = true := by simp; omega
   go_wp2_with (at_builtin; refine wpList_append_sees rfl _ _ rfl w.heap.size u5 l' rfl (ho'.alloc _) _ [UInt8.ofNat m] rfl (Sees.one _ _ _ ?_) (by simp; omega) (by simp; omega) ?_; rotate_left; intro v' w2 ho2 hg2)
   ·rw [Exit.noGoto_ret]
    go_ret
    refine gives rfl ?_ ((hk'.alloc _).grown hg2 (fun k hk hl => by have := ho'.block k hk; omega))
    rw [← H.out, form_lt h0]
    exact ho2
   ·exact byte_last h0
  ·have hz : ((m : Int) / 128 == 0) = false := by simp; omega
   go_wp2_with (at_builtin; refine wpList_append_sees rfl _ _ rfl w.heap.size u5 l' rfl (ho'.alloc _) _ [UInt8.ofNat (128 + m % 128)] rfl (Sees.one _ _ _ ?_) (by simp; omega) (by simp; omega) ?_; rotate_left; intro v' w2 ho2 hg2)
   ·go_roundw
    case rel => exact ⟨m / 128, _, by go_num, by omega, ho2, (hk'.alloc _).grown hg2 (fun k hk hl => by have := ho'.block k hk; omega), by have h1 := form_ge (n := m) (by omega); rw [← H.out, h1]; simp⟩
    case measure => simp [intOf]; omega
   ·exact byte_more m
theorem ret_int {k : IntKind} {a b : Int} (h : a = b) : Ending.returned (.int k a) = .returned (.int k b) := by rw [h]
theorem zig_any (z : Int) (w : World) (hz : -9223372036854775808 ≤ z ∧ z ≤ 9223372036854775807) :
  Calls Try.prog 30 #[.int .i64 z] w fun e w' => e = .returned (.int .u64 (zigN z)) ∧ w = w' := by
 go_enter Try.func30, Try.ntmps30
 go_wp2_with fail
 go_ret
 exact ⟨ret_int (zig_bits hz), rfl⟩
theorem zag_any (m : Nat) (w : World) (hm : m < 18446744073709551616) :
  Calls Try.prog 35 #[.int .u64 m] w fun e w' => e = .returned (.int .i64 (zagZ m)) ∧ w = w' := by
 go_enter Try.func35, Try.ntmps35
 go_wp2_with fail
 go_ret
 refine ⟨ret_int ?_, rfl⟩
 have h := zag_bits hm
 rw [IntWalk.i64_left, IntWalk.i64_left] at h
 exact h
theorem unfolded_any (m : Nat) (w : World) (hm : m < 18446744073709551616) :
  Calls Try.prog 36 #[.int .u64 m] w fun e w' => e = .returned (.int .i64 (zagZ m)) ∧ w = w' := by
 by_cases h0 : m % 2 = 0
 ·have hd : ((m : Int) % 2 == 0) = true := by simp; omega
  go_enter Try.func36, Try.ntmps36
  go_wp2_with fail
  go_ret
  refine ⟨ret_int ?_, rfl⟩
  unfold zagZ; rw [if_pos h0]; simp
 ·have hd : ((m : Int) % 2 == 0) = false := by simp; omega
  go_enter Try.func36, Try.ntmps36
  go_wp2_with fail
  go_ret
  refine ⟨ret_int ?_, rfl⟩
  unfold zagZ; rw [if_neg h0]; simp
theorem folded_any (z : Int) (w : World) (hz : -9223372036854775808 ≤ z ∧ z ≤ 9223372036854775807) :
  Calls Try.prog 32 #[.int .i64 z] w fun e w' => e = .returned (.int .u64 (zigN z)) ∧ w = w' := by
 by_cases h0 : 0 ≤ z
 ·go_enter Try.func32, Try.ntmps32
  go_wp2_with fail
  go_ret
  refine ⟨ret_int ?_, rfl⟩
  unfold zigN; rw [if_pos h0]; simp; omega
 ·go_enter Try.func32, Try.ntmps32
  go_wp2_with fail
  go_ret
  refine ⟨ret_int ?_, rfl⟩
  unfold zigN; rw [if_neg (by omega)]; simp; omega
theorem int_any (v : Value) (l : List UInt8) (z : Int) (w : World) (h : Sees w v l) (hl : l.length ≤ 1000000000) (hz : -9223372036854775808 ≤ z ∧ z ≤ 9223372036854775807) :
  Calls Try.prog 10 #[v, .int .i64 z] w (Gives w (l ++ form (zigN z))) := by
 go_enter Try.func10, Try.ntmps10
 go_wp2_with (first | (go_at_call 30; refine (zig_any _ _ hz).mono ?_; rintro e w1 ⟨rfl, rfl⟩) | (go_at_call 9; refine (num_any v l _ w h hl (zigN_lt hz)).mono ?_; rintro e w1 ⟨p1, n1, c1, rfl, ho, hk⟩))
 go_ret
 exact gives rfl ho (hk)
theorem bytes_any (v u : Value) (l m : List UInt8) (w : World) (h : Sees w v l) (hu : Sees w u m) (hl : l.length ≤ 1000000000) (hm : m.length ≤ 1000000000) :
  Calls Try.prog 11 #[v, u] w (Gives w (l ++ form m.length ++ m)) := by
 obtain ⟨p, c, rfl, h1, h2, h3, h4⟩ := id hu
 clear h2 h3 h4 h1
 have h10 := form_le10 (n := m.length) (by omega)
 go_enter Try.func11, Try.ntmps11
 go_wp2_with (first | (go_at_call 9; refine (num_any v l _ w h hl (by omega)).mono ?_; rintro e w1 ⟨p1, n1, c1, rfl, ho, hk⟩) |
  (at_builtin; refine wpList_append_sees rfl _ _ rfl w.heap.size (.slice p1 n1 c1) _ rfl ho _ m rfl (hu.old hk) (by simp; omega) hk.size ?_; intro v' w2 ho2 hg2))
 go_ret
 exact gives rfl ho2 (hk.grown hg2 (fun k hk hl => by have := ho.block k hk; omega))
set_option maxRecDepth 100000 in
set_option maxHeartbeats 400000 in
theorem ref_form_any (n : Nat) (w : World) (hn : n < 18446744073709551616) :
  Calls Try.prog 31 #[.int .u64 n] w (Gives w (form n)) := by
 go_enter Try.func31, Try.ntmps31
 go_wp2_with fail
 go_loopw [0, 3] (fun v1 v5 wr => ∃ m l', v1 = .int .u64 (m : Nat) ∧ m < 18446744073709551616 ∧ Owns wr w.heap.size v5 l' ∧ Old w wr ∧ l' ++ form m = form n) (fun v1 _ _ => (intOf v1).toNat)
 case atStart => exact ⟨n, [], rfl, hn, Owns.nil _ _, Keeps.refl _ _, rfl⟩
 case round =>
  obtain ⟨m, l', rfl, hm, ho', hk', he⟩ := hrel
  have hlen : l'.length ≤ 1000000010 := by
   have := congrArg List.length he
   simp only [List.length_append] at this
   have := form_le10 hn
   omega
  have H := Lib.hid he
  clear he
  have hs := hk'.size
  by_cases h0 : m < 128
  ·go_wp2_with (at_builtin; refine wpList_append_sees rfl _ _ rfl w.heap.size u3 l' rfl (ho'.alloc _) _ [UInt8.ofNat m] rfl (Sees.one _ _ _ ?_) (by simp; omega) (by simp; omega) ?_; rotate_left; intro v' w2 ho2 hg2)
   ·go_ret
    refine gives rfl ?_ ((hk'.alloc _).grown hg2 (fun k hk hl => by have := ho'.block k hk; omega))
    rw [← H.out, form_lt h0]
    exact ho2
   ·exact byte_low h0
  ·go_wp2_with (at_builtin; refine wpList_append_sees rfl _ _ rfl w.heap.size u3 l' rfl (ho'.alloc _) _ [UInt8.ofNat (128 + m % 128)] rfl (Sees.one _ _ _ ?_) (by simp; omega) (by simp; omega) ?_; rotate_left; intro v' w2 ho2 hg2)
   ·go_roundw
    case rel => exact ⟨m / 128, _, by go_num, by omega, ho2, (hk'.alloc _).grown hg2 (fun k hk hl => by have := ho'.block k hk; omega), by have h1 := form_ge (n := m) (by omega); rw [← H.out, h1]; simp⟩
    case measure => simp [intOf]; omega
   ·exact byte_high m
theorem ref_num_any (v : Value) (l : List UInt8) (n : Nat) (w : World) (h : Sees w v l) (hl : l.length ≤ 1000000000) (hn : n < 18446744073709551616) :
  Calls Try.prog 13 #[v, .int .u64 n] w (Gives w (l ++ form n)) := by
 have h10 := form_le10 hn
 go_enter Try.func13, Try.ntmps13
 go_wp2_with (first | (go_at_call 8; refine (own_any v l w h hl).mono ?_; rintro e w1 ⟨p1, n1, c1, rfl, ho, hk⟩) |
  (go_at_call 31; refine (ref_form_any n w1 hn).mono ?_; rintro e w2 ⟨p2, n2, c2, rfl, ho2, hk2⟩) |
  (at_builtin; refine wpList_append_sees rfl _ _ rfl w.heap.size (.slice p1 n1 c1) _ rfl (ho.old hk2) _ (form n) rfl ho2.sees (by omega) (Nat.le_trans hk.size hk2.size) ?_; intro v' w3 ho3 hg3))
 go_ret
 exact gives rfl ho3 ((hk.trans hk2).grown hg3 (fun k hk hl => by have := ho.block k hk; omega))
theorem ref_int_any (v : Value) (l : List UInt8) (z : Int) (w : World) (h : Sees w v l) (hl : l.length ≤ 1000000000) (hz : -9223372036854775808 ≤ z ∧ z ≤ 9223372036854775807) :
  Calls Try.prog 14 #[v, .int .i64 z] w (Gives w (l ++ form (zigN z))) := by
 go_enter Try.func14, Try.ntmps14
 go_wp2_with (first | (go_at_call 32; refine (folded_any _ _ hz).mono ?_; rintro e w1 ⟨rfl, rfl⟩) | (go_at_call 13; refine (ref_num_any v l _ w h hl (zigN_lt hz)).mono ?_; rintro e w1 ⟨p1, n1, c1, rfl, ho, hk⟩))
 go_ret
 exact gives rfl ho (hk)
theorem ref_bytes_any (v u : Value) (l m : List UInt8) (w : World) (h : Sees w v l) (hu : Sees w u m) (hl : l.length ≤ 1000000000) (hm : m.length ≤ 1000000000) :
  Calls Try.prog 15 #[v, u] w (Gives w (l ++ form m.length ++ m)) := by
 obtain ⟨p, c, rfl, h1, h2, h3, h4⟩ := id hu
 clear h2 h3 h4 h1
 have h10 := form_le10 (n := m.length) (by omega)
 go_enter Try.func15, Try.ntmps15
 go_wp2_with (first | (go_at_call 13; refine (ref_num_any v l _ w h hl (by omega)).mono ?_; rintro e w1 ⟨p1, n1, c1, rfl, ho, hk⟩) |
  (at_builtin; refine wpList_append_sees rfl _ _ rfl w.heap.size (.slice p1 n1 c1) _ rfl ho _ m rfl (hu.old hk) (by simp; omega) hk.size ?_; intro v' w2 ho2 hg2))
 go_ret
 exact gives rfl ho2 (hk.grown hg2 (fun k hk hl => by have := ho.block k hk; omega))
end Go.Proofs.Ytplcnceacbpjhaa

namespace Go.Proofs.Ytplcnceacbpjhaa
open Go.RowKit
/-- a reader of package wire at block rb; its bytes lie in block bb -/
def Rd (w : World) (B rb bb : Nat) (l : List UInt8) : Prop := B ≤ w.heap.size ∧
 ∃ v, w.heap[rb]? = some (.cells #[v, .bool true] 69 (0, 0)) ∧ Sees w v l ∧ l.length ≤ 1000000000 ∧ (∀ k, v.ownBlock = some k → k = bb ∧ k < B) ∧ bb ≠ rb

theorem new_any (v : Value) (l : List UInt8) (w : World) (h : Sees w v l) (hl : l.length ≤ 1000000000) :
  Calls Try.prog 17 #[v] w fun e w' => ∃ rb bb, e = .returned (.pointer (some ⟨rb, 0, none⟩)) ∧ Rd w' w'.heap.size rb bb l ∧ w.heap.size ≤ rb ∧ w.heap.size ≤ bb ∧ Old w w' := by
 go_enter Try.func17, Try.ntmps17
 go_wp2_with (go_at_call 33; refine (bytes_clone_any v l w h hl).mono ?_; rintro e w1 ⟨p1, n1, c1, rfl, ho, hk⟩)
 go_ret
 have hb : ∀ k, (Value.slice p1 n1 c1).ownBlock = some k → w.heap.size ≤ k ∧ k < w1.heap.size := ho.block
 by_cases hp : p1 = none
 ·subst hp
  exact ⟨_, w1.heap.size + 1, rfl, ⟨Nat.le_refl _, _, heap_alloc_new _ _, ho.sees.alloc _, hl, fun k hk => by simp [Value.ownBlock] at hk, by omega⟩, hk.size, by have := hk.size; omega, hk.alloc _⟩
 ·obtain ⟨a, rfl⟩ := Option.ne_none_iff_exists'.1 hp
  have h2 := hb a.block rfl
  exact ⟨_, a.block, rfl, ⟨Nat.le_refl _, _, heap_alloc_new _ _, ho.sees.alloc _, hl, fun k hk => by simp [Value.ownBlock] at hk; subst hk; exact ⟨rfl, by simp; omega⟩, by omega⟩, hk.size, h2.1, hk.alloc _⟩

theorem Rd.cells {w : World} {B rb bb : Nat} {l : List UInt8} (h : Rd w B rb bb l) : ∃ p c, w.cell? ⟨rb, 0, none⟩ = some (.slice p l.length c) ∧ w.cell? ⟨rb, 1, none⟩ = some (.bool true) ∧ w.frozen? ⟨rb, 0, none⟩ = false ∧ Sees w (.slice p l.length c) l ∧ l.length ≤ 1000000000 ∧ (∀ k, (Value.slice p l.length c).ownBlock = some k → k = bb ∧ k < B) ∧ bb ≠ rb := by
 obtain ⟨_, v, h1, h2, h3, h4, h5⟩ := h
 obtain ⟨p, c, rfl, _, _⟩ := h2.len
 exact ⟨p, c, by simp [World.cell?, h1], by simp [World.cell?, h1], by simp [World.frozen?, h1], h2, h3, h4, h5⟩

theorem left_any (B rb bb : Nat) (l : List UInt8) (w : World) (h : Rd w B rb bb l) :
  Calls Try.prog 24 #[.pointer (some ⟨rb, 0, none⟩)] w fun e w' => e = .returned (.int .i64 l.length) ∧ w = w' := by
 obtain ⟨p, c, h1, h2, h3, h4, h5, h6, h7⟩ := h.cells
 go_enter Try.func24, Try.ntmps24
 go_wp2_with fail
 go_ret
 exact ⟨rfl, rfl⟩

theorem end_any (B rb bb : Nat) (l : List UInt8) (w : World) (h : Rd w B rb bb l) :
  Calls Try.prog 25 #[.pointer (some ⟨rb, 0, none⟩)] w fun e w' => e = .returned (.int .i64 (if l = [] then 0 else 3)) ∧ w = w' := by
 obtain ⟨p, c, h1, h2, h3, h4, h5, h6, h7⟩ := h.cells
 by_cases h0 : l = []
 ·subst h0
  go_enter Try.func25, Try.ntmps25
  go_wp2_with fail
  go_ret
  exact ⟨rfl, rfl⟩
 ·have hp : 0 < l.length := List.length_pos_iff.2 h0
  go_enter Try.func25, Try.ntmps25
  go_wp2_with fail
  go_ret
  exact ⟨rfl, rfl⟩

/-- the deferred step: behind an error the old bytes are put back -/
theorem keep_ok (rp v : Value) (eb : Nat) (u : FrameMode) (w : World) (he : w.cell? ⟨eb, 0, none⟩ = some (.int .i64 0)) :
  CallsD Try.prog 34 #[rp, v, .pointer (some ⟨eb, 0, none⟩)] u w fun e u' w' => u' = u ∧ (e = .returned (.tuple #[]) ∧ w' = w) := by
 go_enter_d Try.func34, Try.ntmps34
 go_wp2_with fail
 go_end0
 exact ⟨rfl, rfl⟩
theorem keep_bad (rb : Nat) (v : Value) (eb : Nat) (n : Int) (hn : (n != 0) = true) (u : FrameMode) (w : World) (he : w.cell? ⟨eb, 0, none⟩ = some (.int .i64 n)) (old : Value) (hr : w.cell? ⟨rb, 0, none⟩ = some old) (hf : w.frozen? ⟨rb, 0, none⟩ = false)
  (p : Option Addr) (m c : Nat) (hv : v = .slice p m c) :
  CallsD Try.prog 34 #[.pointer (some ⟨rb, 0, none⟩), v, .pointer (some ⟨eb, 0, none⟩)] u w fun e u' w' => u' = u ∧ (e = .returned (.tuple #[]) ∧ w' = w.setCell ⟨rb, 0, none⟩ v) := by
 subst hv
 go_enter_d Try.func34, Try.ntmps34
 go_wp2_with fail
 go_end0
 exact ⟨rfl, rfl⟩
end Go.Proofs.Ytplcnceacbpjhaa
