/- DERIVED. How arguments read: bytes; and what the bound on their bulk gives. · DERIVED. Plain: forms of numbers, and how they are read. No program in sight. · DERIVED. Plain: what is laid is read again; what is read, laid, is what went; beginnings. -/
import Derived.Test.YtllnlimbfoingaaRows
import Derived.Test.YtllnlimbfoingaaY01
import Derived.ProofKit
import Derived.OpenShut
import Derived.Laws.BitsLemmas
import Derived.Laws.Bits64
namespace Go.Proofs.Ytllnlimbfoingaa
open Go.ChangeShapes Go.WideShapes Go.ChangeAt Go.RowKit

theorem one_le_bulk {H : Type} (d : DataW H) : 1 ≤ Rows.uptoBulk d := by
 cases d with
 | lit l => cases l <;> simp [Rows.uptoBulk]
 | nil => simp [Rows.uptoBulk]
 | ptr d => simp [Rows.uptoBulk]
 | slice elems spare => simp [Rows.uptoBulk]
 | agg parts => simp [Rows.uptoBulk]
 | iface t d => simp [Rows.uptoBulk]
 | map entries => simp [Rows.uptoBulk]
 | held h => simp [Rows.uptoBulk]
theorem part_bulk {H : Type} {d : DataW H} {l : List (DataW H)} (h : d ∈ l) : Rows.uptoBulk d ≤ Rows.uptoBulkAll l := by
 induction l with
 | nil => cases h
 | cons x r ih =>
  simp only [Rows.uptoBulkAll]
  cases List.mem_cons.1 h with
  | inl e => subst e; omega
  | inr e => have := ih e; omega
theorem length_bulk {H : Type} (l : List (DataW H)) : l.length ≤ Rows.uptoBulkAll l := by
 induction l with
 | nil => simp [Rows.uptoBulkAll]
 | cons x r ih => have := one_le_bulk x; simp only [Rows.uptoBulkAll, List.length_cons]; omega
theorem elems_bulk {H : Type} (elems spare : List (DataW H)) : Rows.uptoBulkAll elems + 1 ≤ Rows.uptoBulk (.slice elems spare) := by
 simp only [Rows.uptoBulk]; omega

/-- a []byte among what came in, at whatever depth -/
theorem trod_bytes {H : Type} {enc : TypeId × Value → H} {W : World} {fuel : Nat} {cs : List Value} {x : DataW H × List MemPlace} (hf : DataW.trod enc Try.prog W 0 (fun _ => true) true fuel 32 cs = some x) :
  ∃ (v : Value) (l : List UInt8), cs = [v] ∧ Sees W v l ∧ l.length < Rows.uptoBulk x.1 := by
 rcases open_ints Try.underlying32 Try.underlying5 (by kernel_rfl) hf with ⟨hcs, hx⟩ | ⟨a, len, cap, zs, hcs, _, hl, hm, hz, hx, hcell, hwz⟩
 ·exact ⟨_, [], hcs, Sees.nil W, one_le_bulk x.1⟩
 ·subst hx
  have hz' : zs.length = cap := by simpa using hz
  have hlen : ((zs.take len).map fun z => UInt8.ofNat z.toNat).length = len := by simp; omega
  refine ⟨_, (zs.take len).map fun z => UInt8.ofNat z.toNat, hcs, ⟨some a, cap, by rw [hlen], by rw [hlen]; exact hl, hm, fun h => (by cases h), fun a' ha => ?_⟩, ?_⟩
  ·cases ha
   refine ⟨fun hc => ?_, fun j b hj => ?_⟩
   ·have := hcell 0 (by omega)
    have hs := World.cell?_spot this
    simpa [Addr.add] using hs
   ·rw [List.getElem?_map, Option.map_eq_some_iff] at hj
    obtain ⟨z, hz1, rfl⟩ := hj
    rw [List.getElem?_take] at hz1
    split at hz1
    ·have hjl := (List.getElem?_eq_some_iff.1 hz1).1
     rw [hcell j hjl]
     have hzz : zs.getD j 0 = z := by simp [List.getD, hz1]
     have hw := hwz z (List.mem_of_getElem? hz1)
     have hr : 0 ≤ z ∧ z ≤ 255 := by simpa [Lit.wf, IntKind.min, IntKind.max, IntKind.signed, IntKind.bits] using hw
     rw [hzz]
     unfold u8
     rw [UInt8.toNat_ofNat']
     congr 2
     omega
    ·cases hz1
  ·rw [hlen]
   have h1 := elems_bulk (lits (H := H) .u8 (zs.take len)) (lits .u8 (zs.drop len))
   have h2 := length_bulk (lits (H := H) .u8 (zs.take len))
   have h3 : (lits (H := H) .u8 (zs.take len)).length = len := by simp [lits]; omega
   simp only at h1 ⊢
   omega
set_option maxRecDepth 100000 in
theorem read_bytes {H : Type} {enc : TypeId × Value → H} {W : World} {base : Nat} {v : Value} {d : DataW H} {p : List MemPlace} (hv : Value.okWide Try.prog W .any base 32 v)
  (h : DataW.Trod enc Try.prog W 0 (fun _ => true) true 32 v d p) : ∃ l : List UInt8, Sees W v l ∧ l.length < Rows.uptoBulk d := by
 obtain ⟨a, len, cap, rfl⟩ := okWide_slice Try.underlying32 hv
 obtain ⟨fuel, hf⟩ := h
 obtain ⟨v, l, hc, hs, hl⟩ := trod_bytes hf
 simp only [Value.cells, List.cons.injEq, and_true] at hc
 subst hc
 exact ⟨l, hs, hl⟩
end Go.Proofs.Ytllnlimbfoingaa

namespace Go.Proofs.Ytllnlimbfoingaa

/-- a number's form -/
def form (n : Nat) : List UInt8 := if n < 128 then [UInt8.ofNat n] else UInt8.ofNat (128 + n % 128) :: form (n / 128)
termination_by n
decreasing_by omega

theorem form_lt {n : Nat} (h : n < 128) : form n = [UInt8.ofNat n] := by rw [form, if_pos h]
theorem form_ge {n : Nat} (h : 128 ≤ n) : form n = UInt8.ofNat (128 + n % 128) :: form (n / 128) := by rw [form, if_neg (by omega)]

theorem form_length_pos (n : Nat) : 1 ≤ (form n).length := by
  rcases Nat.lt_or_ge n 128 with h | h
  · rw [form_lt h]; simp
  · rw [form_ge h]; simp
theorem form_length_le (k : Nat) : ∀ n, n < 128 ^ (k + 1) → (form n).length ≤ k + 1 := by
  induction k with
  | zero => intro n h; rw [form_lt (by simpa using h)]; simp
  | succ k ih =>
    intro n h
    rcases Nat.lt_or_ge n 128 with h' | h'
    · rw [form_lt h']; simp
    · rw [form_ge h']
      have := ih (n / 128) (by rw [Nat.div_lt_iff_lt_mul (by decide)]; rw [Nat.pow_succ] at h; omega)
      simp; omega
theorem form_le10 {n : Nat} (h : n < 18446744073709551616) : (form n).length ≤ 10 := form_length_le 9 n (Nat.lt_of_lt_of_le h (by decide))

theorem and127_u64 {x : Nat} (h : x < 18446744073709551616) : bits .and .u64 (x : Int) 127 = ((x % 128 : Nat) : Int) := by
  exact bits_mask .u64 64 (by decide) (fun n h0 h1 => by rw [IntKind.wrap_u64]; omega) 7 (by decide) (x : Int) (by omega) (by omega)
theorem and127_u8 {x : Nat} (h : x < 256) : bits .and .u8 (x : Int) 127 = ((x % 128 : Nat) : Int) := by
  exact bits_mask .u8 8 (by decide) wraps_u8 7 (by decide) (x : Int) (by omega) (by omega)
theorem or128_u8 {x : Nat} (h : x < 128) : bits .or .u8 (x : Int) 128 = ((x + 128 : Nat) : Int) := by
  revert x; decide +kernel
theorem byte_last {m : Nat} (h : m < 128) : (m : Int) % 128 = ((UInt8.ofNat m).toNat : Int) := by
  rw [UInt8.toNat_ofNat']; omega
theorem byte_more (m : Nat) : bits .or .u8 ((m : Int) % 128) 128 = ((UInt8.ofNat (128 + m % 128)).toNat : Int) := by
  have h := or128_u8 (x := m % 128) (by omega)
  rw [UInt8.toNat_ofNat']
  rw [show ((m : Int) % 128) = ((m % 128 : Nat) : Int) from by omega, h]
  omega

/-- a signed number as one that is not -/
def zigN (z : Int) : Nat := if 0 ≤ z then (2 * z).toNat else (-2 * z - 1).toNat
/-- and back -/
def zagZ (m : Nat) : Int := if m % 2 = 0 then (m / 2 : Nat) else -((m / 2 : Nat) : Int) - 1
theorem zigN_lt {z : Int} (hz : -9223372036854775808 ≤ z ∧ z ≤ 9223372036854775807) : zigN z < 18446744073709551616 := by unfold zigN; split <;> omega
theorem zagZ_range {m : Nat} (hm : m < 18446744073709551616) : -9223372036854775808 ≤ zagZ m ∧ zagZ m ≤ 9223372036854775807 := by unfold zagZ; split <;> omega
theorem zag_zig (z : Int) : zagZ (zigN z) = z := by
  unfold zigN
  split
  · unfold zagZ; rw [if_pos (by omega)]; omega
  · unfold zagZ; rw [if_neg (by omega)]; omega
theorem zig_zag (m : Nat) : zigN (zagZ m) = m := by
  unfold zagZ
  split
  · unfold zigN; rw [if_pos (by omega)]; omega
  · unfold zigN; rw [if_neg (by omega)]; omega
theorem xor_ones (a : Nat) (ha : a < 18446744073709551616) : a ^^^ 18446744073709551615 = 18446744073709551615 - a := by
  have h : ((BitVec.ofNat 64 a) ^^^ BitVec.allOnes 64).toNat = 18446744073709551615 - a := by
    rw [BitVec.xor_allOnes, BitVec.toNat_not, BitVec.toNat_ofNat, Nat.mod_eq_of_lt (by omega)]
  rw [BitVec.toNat_xor, BitVec.toNat_ofNat, Nat.mod_eq_of_lt (by omega)] at h
  exact h
theorem zig_bits {z : Int} (hz : -9223372036854775808 ≤ z ∧ z ≤ 9223372036854775807) :
    bits .xor .u64 (IntKind.u64.wrap (IntKind.u64.wrap z * 2)) (IntKind.u64.wrap (z / 9223372036854775808)) = (zigN z : Int) := by
  simp only [IntKind.wrap_u64]
  unfold zigN
  split
  · rename_i h0
    have e1 : (z % 18446744073709551616 * 2) % 18446744073709551616 = ((2 * z).toNat : Int) := by omega
    have e2 : (z / 9223372036854775808) % 18446744073709551616 = ((0 : Nat) : Int) := by omega
    rw [e1, e2, bits_xor_u64_nat _ _ (by omega) (by omega), Nat.xor_zero]
  · rename_i h0
    have e1 : (z % 18446744073709551616 * 2) % 18446744073709551616 = ((2 * z + 18446744073709551616).toNat : Int) := by omega
    have e2 : (z / 9223372036854775808) % 18446744073709551616 = ((18446744073709551615 : Nat) : Int) := by omega
    rw [e1, e2, bits_xor_u64_nat _ _ (by omega) (by omega), xor_ones _ (by omega)]
    omega
theorem and1_u64 {x : Nat} (h : x < 18446744073709551616) : bits .and .u64 (x : Int) 1 = ((x % 2 : Nat) : Int) := by
  exact bits_mask .u64 64 (by decide) (fun n h0 h1 => by rw [IntKind.wrap_u64]; omega) 1 (by decide) (x : Int) (by omega) (by omega)
theorem xor_i64_zero {a : Nat} (h : a < 9223372036854775808) : bits .xor .i64 (a : Int) 0 = (a : Int) := by
  show IntKind.i64.wrap ((BitVec.ofInt 64 (a : Int) ^^^ BitVec.ofInt 64 0).toNat : Int) = _
  rw [BitVec.toNat_xor, BitVec.ofInt_natCast, BitVec.toNat_ofNat, Nat.mod_eq_of_lt (by omega)]
  simp [IntKind.wrap_i64]
  omega
theorem xor_i64_neg {a : Nat} (h : a < 9223372036854775808) : bits .xor .i64 (a : Int) (-1) = -(a : Int) - 1 := by
  show IntKind.i64.wrap ((BitVec.ofInt 64 (a : Int) ^^^ BitVec.ofInt 64 (-1)).toNat : Int) = _
  rw [BitVec.toNat_xor, BitVec.ofInt_natCast, BitVec.toNat_ofNat, Nat.mod_eq_of_lt (by omega)]
  rw [show (BitVec.ofInt 64 (-1)).toNat = 18446744073709551615 from by decide, xor_ones _ (by omega), IntKind.wrap_i64]
  omega
theorem zag_bits {m : Nat} (hm : m < 18446744073709551616) : bits .xor .i64 ((m : Int) / 2) (IntKind.i64.wrap (-IntKind.i64.wrap (bits .and .u64 (m : Int) 1))) = zagZ m := by
  rw [and1_u64 hm, show (m : Int) / 2 = ((m / 2 : Nat) : Int) from by omega]
  unfold zagZ
  split
  · rename_i h
    rw [h, show IntKind.i64.wrap (-IntKind.i64.wrap ((0 : Nat) : Int)) = 0 from by decide, xor_i64_zero (by omega)]
  · rename_i h
    rw [show m % 2 = 1 from by omega, show IntKind.i64.wrap (-IntKind.i64.wrap ((1 : Nat) : Int)) = -1 from by decide, xor_i64_neg (by omega)]
theorem byte_low {m : Nat} (h : m < 128) : (m : Int) = ((UInt8.ofNat m).toNat : Int) := by
  rw [UInt8.toNat_ofNat']; omega
theorem byte_high (m : Nat) : 128 + (m : Int) % 128 = ((UInt8.ofNat (128 + m % 128)).toNat : Int) := by
  rw [UInt8.toNat_ofNat']; omega

/-- groups of seven bits, from the i-th on: (the number, the error, what is left) -/
def scan : Nat → Nat → List UInt8 → Nat × Nat × List UInt8
  | _, _, [] => (0, 4, [])
  | i, acc, c :: r =>
    if (i = 9 ∧ 1 < c.toNat) ∨ (0 < i ∧ c.toNat = 0) then (0, 5, [])
    else if c.toNat < 128 then (acc + c.toNat % 128 * 128 ^ i, 0, r) else scan (i + 1) (acc + c.toNat % 128 * 128 ^ i) r
/-- a number is read: (the number, the error, what is left) -/
def readNum (l : List UInt8) (most : Nat) : Nat × Nat × List UInt8 :=
  if (scan 0 0 l).2.1 ≠ 0 then (0, (scan 0 0 l).2.1, l) else if most < (scan 0 0 l).1 then (0, 3, l) else ((scan 0 0 l).1, 0, (scan 0 0 l).2.2)

theorem or_group {acc c i : Nat} (hi : i ≤ 9) (ha : acc < 128 ^ i) (hc : c < 128) (h9 : i = 9 → c ≤ 1) : bits .or .u64 (acc : Int) (IntKind.u64.wrap ((c : Int) * 2 ^ min (7 * (i : Int)).toNat 64)) = ((acc + c * 128 ^ i : Nat) : Int) := by
  have e1 : min (7 * (i : Int)).toNat 64 = 7 * i := by omega
  have e2 : ((c : Int) * 2 ^ (7 * i)) = ((c * 128 ^ i : Nat) : Int) := by
    rw [Int.natCast_mul, Int.natCast_pow, show ((128 : Nat) : Int) = 2 ^ 7 from rfl, ← Int.pow_mul]
  have hp : 128 ^ i = 2 ^ (7 * i) := by rw [Nat.pow_mul]
  have hlt : acc + c * 128 ^ i < 18446744073709551616 := by
    rcases Nat.lt_or_ge i 9 with h | h
    · have h1 : acc + c * 128 ^ i < 128 ^ (i + 1) := by
        have : c * 128 ^ i ≤ 127 * 128 ^ i := Nat.mul_le_mul_right _ (by omega)
        rw [Nat.pow_succ]; omega
      exact Nat.lt_of_lt_of_le h1 (Nat.le_trans (Nat.pow_le_pow_right (by decide) (show i + 1 ≤ 9 by omega)) (by decide))
    · obtain rfl : i = 9 := by omega
      have := h9 rfl
      have : c * 128 ^ 9 ≤ 1 * 128 ^ 9 := Nat.mul_le_mul_right _ (by omega)
      have h3 : (128 : Nat) ^ 9 = 9223372036854775808 := by decide
      omega
  rw [e1, e2]
  rw [show IntKind.u64.wrap ((c * 128 ^ i : Nat) : Int) = ((c * 128 ^ i : Nat) : Int) from by rw [IntKind.wrap_u64]; omega]
  rw [(bits_nat .u64 64 (by decide) (fun n h0 h1 => by rw [IntKind.wrap_u64]; omega) acc (c * 128 ^ i) (by omega) (by omega)).2]
  rw [hp] at ha ⊢
  rw [Nat.or_comm, Nat.mul_comm c, ← Nat.two_pow_add_eq_or_of_lt ha c]
  omega
theorem or_group' {acc c i : Nat} (hi : i ≤ 9) (ha : acc < 128 ^ i) (h9 : i = 9 → c ≤ 1) : bits .or .u64 (acc : Int) (IntKind.u64.wrap ((c : Int) % 128 * 2 ^ (7 * i))) = ((acc + c % 128 * 128 ^ i : Nat) : Int) := by
  have h := or_group (c := c % 128) hi ha (by omega) (fun h => by have := h9 h; omega)
  rw [show min (7 * (i : Int)).toNat 64 = 7 * i from by omega] at h
  rw [← h]
  rfl
theorem acc_lt {acc c i : Nat} (ha : acc < 128 ^ i) : acc + c % 128 * 128 ^ i < 128 ^ (i + 1) := by
  have : c % 128 * 128 ^ i ≤ 127 * 128 ^ i := Nat.mul_le_mul_right _ (by omega)
  rw [Nat.pow_succ]; omega
theorem scan_bad {i acc : Nat} {c : UInt8} {r : List UInt8} (h : (i = 9 ∧ 1 < c.toNat) ∨ (0 < i ∧ c.toNat = 0)) : scan i acc (c :: r) = (0, 5, []) := by rw [scan, if_pos h]
theorem scan_last {i acc : Nat} {c : UInt8} {r : List UInt8} (h : ¬ ((i = 9 ∧ 1 < c.toNat) ∨ (0 < i ∧ c.toNat = 0))) (hc : c.toNat < 128) : scan i acc (c :: r) = (acc + c.toNat % 128 * 128 ^ i, 0, r) := by rw [scan, if_neg h, if_pos hc]
theorem scan_more {i acc : Nat} {c : UInt8} {r : List UInt8} (h : ¬ ((i = 9 ∧ 1 < c.toNat) ∨ (0 < i ∧ c.toNat = 0))) (hc : ¬ c.toNat < 128) : scan i acc (c :: r) = scan (i + 1) (acc + c.toNat % 128 * 128 ^ i) r := by rw [scan, if_neg h, if_neg hc]
theorem read_bad {l : List UInt8} {most e : Nat} {n : Nat} {r : List UInt8} (h : scan 0 0 l = (n, e, r)) (he : e ≠ 0) : readNum l most = (0, e, l) := by
  unfold readNum; rw [h]; simp [he]
theorem read_long {l : List UInt8} {most n : Nat} {r : List UInt8} (h : scan 0 0 l = (n, 0, r)) (hn : most < n) : readNum l most = (0, 3, l) := by
  unfold readNum; rw [h]; simp [hn]
theorem read_ok {l : List UInt8} {most n : Nat} {r : List UInt8} (h : scan 0 0 l = (n, 0, r)) (hn : ¬ most < n) : readNum l most = (n, 0, r) := by
  unfold readNum; rw [h]; simp [hn]

/-- a signed number is read -/
def readInt (l : List UInt8) : Int × Nat × List UInt8 := (if (readNum l 18446744073709551615).2.1 = 0 then zagZ (readNum l 18446744073709551615).1 else 0, (readNum l 18446744073709551615).2)
/-- a string of bytes is read -/
def readBytes (l : List UInt8) (most : Int) : List UInt8 × Nat × List UInt8 :=
  if most < 0 then ([], 1, l)
  else if (readNum l most.toNat).2.1 ≠ 0 then ([], (readNum l most.toNat).2.1, l)
  else if (readNum l most.toNat).2.2.length < (readNum l most.toNat).1 then ([], 4, l)
  else ((readNum l most.toNat).2.2.take (readNum l most.toNat).1, 0, (readNum l most.toNat).2.2.drop (readNum l most.toNat).1)
theorem readNum_err (l : List UInt8) (most : Nat) : (readNum l most).2.1 < 6 := by
  have key : ∀ l i acc, (scan i acc l).2.1 < 6 := by
    intro l
    induction l with
    | nil => intro i acc; simp [scan]
    | cons c r ih => intro i acc; rw [scan]; split; · simp
                     split; · simp
                     exact ih _ _
  unfold readNum
  split
  · exact key _ _ _
  · split <;> simp
theorem readNum_le (l : List UInt8) (most : Nat) : (readNum l most).1 ≤ most := by
  unfold readNum
  split
  · simp
  · split
    · simp
    · simp; omega
theorem readNum_bad {l : List UInt8} {most : Nat} (h : (readNum l most).2.1 ≠ 0) : (readNum l most).1 = 0 ∧ (readNum l most).2.2 = l := by
  unfold readNum at h ⊢
  split
  · simp
  · rename_i h1
    rw [if_neg h1] at h
    split
    · simp
    · rename_i h2; rw [if_neg h2] at h; exact absurd rfl h
theorem scan_rest : ∀ l i acc, (scan i acc l).2.2.length ≤ l.length := by
  intro l
  induction l with
  | nil => intro i acc; simp [scan]
  | cons c r ih =>
    intro i acc; rw [scan]; split
    · simp
    · split
      · simp
      · have := ih (i + 1) (acc + c.toNat % 128 * 128 ^ i); simp; omega
theorem readNum_rest (l : List UInt8) (most : Nat) : (readNum l most).2.2.length ≤ l.length := by
  unfold readNum
  split
  · exact Nat.le_refl _
  · split
    · exact Nat.le_refl _
    · exact scan_rest l 0 0

/-- how many bytes of 128 and more stand first -/
def lead : List UInt8 → Nat
  | [] => 0
  | c :: r => if 128 ≤ c.toNat then lead r + 1 else 0
/-- groups of seven bits, the lowest first, as a number -/
def lev : List UInt8 → Nat
  | [] => 0
  | c :: r => c.toNat % 128 + 128 * lev r
theorem lead_le : ∀ l, lead l ≤ l.length
  | [] => Nat.le_refl _
  | c :: r => by have := lead_le r; unfold lead; split <;> simp <;> omega
theorem lead_at : ∀ (l : List UInt8) (k : Nat), k < lead l → ∃ c, l[k]? = some c ∧ 128 ≤ c.toNat
  | [], k, h => by simp [lead] at h
  | c :: r, k, h => by
    unfold lead at h
    split at h
    · cases k with
      | zero => exact ⟨c, by simp, by assumption⟩
      | succ k => simpa using lead_at r k (by omega)
    · omega
theorem lead_end : ∀ (l : List UInt8), lead l < l.length → ∃ c, l[lead l]? = some c ∧ c.toNat < 128
  | [], h => by simp at h
  | c :: r, h => by
    unfold lead at h ⊢
    split
    · rename_i hc
      rw [if_pos hc] at h
      obtain ⟨d, h1, h2⟩ := lead_end r (by simp at h; omega)
      exact ⟨d, by simpa using h1, h2⟩
    · exact ⟨c, by simp, by omega⟩
theorem lev_lt : ∀ l, lev l < 128 ^ l.length
  | [] => by simp [lev]
  | c :: r => by
    have := lev_lt r
    simp only [lev, List.length_cons, Nat.pow_succ]
    omega
theorem lev_drop (l : List UInt8) (i : Nat) : lev (l.drop i) ≤ lev l := by
  induction l generalizing i with
  | nil => simp [lev]
  | cons c r ih =>
    cases i with
    | zero => exact Nat.le_refl _
    | succ i => simp only [List.drop_succ_cons, lev]; have := ih i; omega
theorem lev_step (l : List UInt8) (i : Nat) (c : UInt8) (h : l[i]? = some c) : lev (l.drop i) = c.toNat % 128 + 128 * lev (l.drop (i + 1)) := by
  have hi := (List.getElem?_eq_some_iff.1 h).1
  have hc := (List.getElem?_eq_some_iff.1 h).2
  rw [List.drop_eq_getElem_cons hi, hc, lev]
/-- the scan, by the number of bytes that stand first -/
theorem scan_lead : ∀ (l : List UInt8) (i acc : Nat), i ≤ 9 →
    ((10 ≤ i + lead l → (scan i acc l).2.1 = 5) ∧ (i + lead l < 10 → lead l = l.length → (scan i acc l).2.1 = 4) ∧
     (i + lead l < 10 → ∀ c, l[lead l]? = some c → ((i + lead l = 9 ∧ 1 < c.toNat) ∨ (0 < i + lead l ∧ c.toNat = 0)) → (scan i acc l).2.1 = 5) ∧
     (i + lead l < 10 → ∀ c, l[lead l]? = some c → ¬ ((i + lead l = 9 ∧ 1 < c.toNat) ∨ (0 < i + lead l ∧ c.toNat = 0)) → scan i acc l = (acc + 128 ^ i * lev (l.take (lead l + 1)), 0, l.drop (lead l + 1)))) := by
  intro l
  induction l with
  | nil =>
    intro i acc hi
    refine ⟨fun h => by simp [lead] at h; omega, fun _ _ => by simp [scan], fun _ c h => by simp at h, fun _ c h => by simp at h⟩
  | cons c r ih =>
    intro i acc hi
    by_cases hc : 128 ≤ c.toNat
    · have hl : lead (c :: r) = lead r + 1 := by rw [lead, if_pos hc]
      by_cases h9 : i = 9
      · have hb : scan i acc (c :: r) = (0, 5, []) := scan_bad (.inl ⟨h9, by omega⟩)
        refine ⟨fun _ => by rw [hb], fun h => by omega, fun h => by omega, fun h => by omega⟩
      · have hg : ¬ ((i = 9 ∧ 1 < c.toNat) ∨ (0 < i ∧ c.toNat = 0)) := by omega
        have hs := scan_more (acc := acc) (r := r) hg (by omega)
        obtain ⟨h1, h2, h3, h4⟩ := ih (i + 1) (acc + c.toNat % 128 * 128 ^ i) (by omega)
        rw [hs, hl]
        refine ⟨fun h => h1 (by omega), fun h e => h2 (by omega) (by simp at e; omega), fun h d hd hbad => h3 (by omega) d (by simpa using hd) (by omega), fun h d hd hgood => ?_⟩
        rw [h4 (by omega) d (by simpa using hd) (by omega)]
        simp only [List.take_succ_cons, List.drop_succ_cons, lev, Prod.mk.injEq, and_true]
        rw [Nat.pow_succ, Nat.mul_add, Nat.mul_comm (c.toNat % 128), Nat.mul_assoc]
        omega
    · have hl : lead (c :: r) = 0 := by rw [lead, if_neg hc]
      rw [hl]
      refine ⟨fun h => by omega, fun _ e => by simp at e, fun _ d hd hbad => ?_, fun _ d hd hgood => ?_⟩
      · obtain rfl : c = d := by simpa using hd
        rw [scan_bad (by simpa using hbad)]
      · obtain rfl : c = d := by simpa using hd
        rw [scan_last (by simpa using hgood) (by omega)]
        simp [lev, Nat.mul_comm]
theorem lev_fits (l : List UInt8) (n : Nat) (hn : n < 10) (c : UInt8) (h : l[n]? = some c) (h9 : n = 9 → c.toNat ≤ 1) : lev (l.take (n + 1)) < 18446744073709551616 := by
  rcases Nat.lt_or_ge n 9 with h' | h'
  · have h1 := lev_lt (l.take (n + 1))
    have h2 : (l.take (n + 1)).length ≤ 9 := by simp; omega
    exact Nat.lt_of_lt_of_le h1 (Nat.le_trans (Nat.pow_le_pow_right (by decide) h2) (by decide))
  · obtain rfl : n = 9 := by omega
    have hh := h9 rfl
    have key : ∀ (m : Nat) (l : List UInt8), l[m]? = some c → lev (l.take (m + 1)) < 2 * 128 ^ m := by
      intro m
      induction m with
      | zero =>
        intro l hl
        cases l with
        | nil => simp at hl
        | cons d r =>
          obtain rfl : d = c := by simpa using hl
          simp [lev]; omega
      | succ m ih =>
        intro l hl
        cases l with
        | nil => simp at hl
        | cons d r =>
          have := ih r (by simpa using hl)
          simp only [List.take_succ_cons, lev, Nat.pow_succ]
          omega
    exact key 9 l h
theorem read_many {l : List UInt8} {most : Nat} (h : 10 ≤ lead l) : readNum l most = (0, 5, l) := by
  have h1 := (scan_lead l 0 0 (by omega)).1 (by omega)
  have := read_bad (l := l) (most := most) (e := 5) (n := (scan 0 0 l).1) (r := (scan 0 0 l).2.2) (by rw [← h1]) (by decide)
  exact this
theorem read_short {l : List UInt8} {most : Nat} (h : lead l < 10) (he : lead l = l.length) : readNum l most = (0, 4, l) := by
  have h1 := (scan_lead l 0 0 (by omega)).2.1 (by omega) he
  exact read_bad (l := l) (most := most) (e := 4) (n := (scan 0 0 l).1) (r := (scan 0 0 l).2.2) (by rw [← h1]) (by decide)
theorem read_none {l : List UInt8} {most : Nat} (h : lead l < 10) {c : UInt8} (hc : l[lead l]? = some c) (hb : (lead l = 9 ∧ 1 < c.toNat) ∨ (0 < lead l ∧ c.toNat = 0)) : readNum l most = (0, 5, l) := by
  have h1 := (scan_lead l 0 0 (by omega)).2.2.1 (by omega) c hc (by simpa using hb)
  exact read_bad (l := l) (most := most) (e := 5) (n := (scan 0 0 l).1) (r := (scan 0 0 l).2.2) (by rw [← h1]) (by decide)
theorem read_good {l : List UInt8} {most : Nat} (h : lead l < 10) {c : UInt8} (hc : l[lead l]? = some c) (hb : ¬ ((lead l = 9 ∧ 1 < c.toNat) ∨ (0 < lead l ∧ c.toNat = 0))) :
    readNum l most = if most < lev (l.take (lead l + 1)) then (0, 3, l) else (lev (l.take (lead l + 1)), 0, l.drop (lead l + 1)) := by
  have h1 := (scan_lead l 0 0 (by omega)).2.2.2 (by omega) c hc (by simpa using hb)
  simp only [Nat.pow_zero, Nat.one_mul, Nat.zero_add] at h1
  split
  · rename_i h2; exact read_long h1 h2
  · rename_i h2; exact read_ok h1 h2
theorem form_300 : form 300 = [172, 2] := by rw [form_ge (by decide), form_lt (by decide)]; decide
theorem form_129 : form 129 = [129, 1] := by rw [form_ge (by decide), form_lt (by decide)]; decide
theorem form_2 : form 2 = [2] := by rw [form_lt (by decide)]; decide
end Go.Proofs.Ytllnlimbfoingaa

namespace Go.Proofs.Ytllnlimbfoingaa

/-- groups that could not be shorter are the form of their number -/
theorem form_lev : ∀ (xs : List UInt8) (c : UInt8), (∀ x ∈ xs, 128 ≤ x.toNat) → c.toNat < 128 → (xs ≠ [] → c.toNat ≠ 0) → form (lev (xs ++ [c])) = xs ++ [c] ∧ (c.toNat ≠ 0 → 1 ≤ lev (xs ++ [c]))
 | [], c, _, hc, _ => by
  have e : lev ([] ++ [c]) = c.toNat := by simp [lev]; omega
  rw [e]
  exact ⟨by rw [form_lt hc]; simp, fun h => by omega⟩
 | x :: xs, c, hx, hc, h0 => by
  have hx0 : 128 ≤ x.toNat := hx x (by simp)
  have hxl := x.toNat_lt
  have hc0 : c.toNat ≠ 0 := h0 (by simp)
  obtain ⟨ih, ih1⟩ := form_lev xs c (fun y hy => hx y (by simp [hy])) hc (fun _ => hc0)
  have h1 := ih1 hc0
  have e : lev (x :: xs ++ [c]) = x.toNat % 128 + 128 * lev (xs ++ [c]) := by simp [lev]
  rw [e]
  refine ⟨?_, fun _ => by omega⟩
  rw [form_ge (by omega), show (x.toNat % 128 + 128 * lev (xs ++ [c])) / 128 = lev (xs ++ [c]) from by omega, ih]
  simp only [List.cons_append, List.cons.injEq, and_true]
  rw [show 128 + (x.toNat % 128 + 128 * lev (xs ++ [c])) % 128 = x.toNat from by omega]
  simp
theorem lead_all : ∀ (l : List UInt8), ∀ x ∈ l.take (lead l), 128 ≤ x.toNat
 | [], x, h => by simp at h
 | c :: r, x, h => by
  unfold lead at h
  split at h
  ·rename_i hc
   simp only [List.take_succ_cons, List.mem_cons] at h
   rcases h with rfl | h
   ·exact hc
   ·exact lead_all r x h
  ·simp at h
/-- what is read, laid again, is what went -/
theorem read_form {l r : List UInt8} {most n : Nat} (h : readNum l most = (n, 0, r)) : l = form n ++ r ∧ n ≤ most ∧ n < 18446744073709551616 := by
 have hll := lead_le l
 rcases Nat.lt_or_ge (lead l) 10 with h10 | h10
 ·rcases Nat.lt_or_ge (lead l) l.length with hlt | hge
  ·obtain ⟨c, hc, hc1⟩ := lead_end l hlt
   by_cases hb : (lead l = 9 ∧ 1 < c.toNat) ∨ (0 < lead l ∧ c.toNat = 0)
   ·rw [read_none h10 hc hb] at h; simp at h
   ·rw [read_good h10 hc hb] at h
    split at h
    ·simp at h
    ·rename_i hm
     simp only [Prod.mk.injEq, true_and] at h
     obtain ⟨rfl, rfl⟩ := h
     have ht : l.take (lead l + 1) = l.take (lead l) ++ [c] := by
      have hg := (List.getElem?_eq_some_iff.1 hc).2
      rw [List.take_succ_eq_append_getElem hlt, hg]
     have hf := (form_lev (l.take (lead l)) c (lead_all l) hc1 (fun hne => by
      have : 0 < lead l := by
       rcases Nat.eq_zero_or_pos (lead l) with h0 | h0
       ·rw [h0] at hne; simp at hne
       ·exact h0
      omega)).1
     refine ⟨?_, by omega, lev_fits l (lead l) h10 c hc (by omega)⟩
     rw [ht, hf, ← ht, List.take_append_drop]
  ·rw [read_short h10 (by omega)] at h; simp at h
 ·rw [read_many h10] at h; simp at h
theorem lead_form (n : Nat) : ∀ r, lead (form n ++ r) + 1 = (form n).length := by
 induction n using Nat.strongRecOn with
 | ind n ih =>
  intro r
  rcases Nat.lt_or_ge n 128 with h | h
  ·rw [form_lt h]
   have : (UInt8.ofNat n).toNat = n := by rw [UInt8.toNat_ofNat']; omega
   simp only [List.cons_append, List.nil_append, List.length_cons, List.length_nil]
   rw [lead, if_neg (by omega)]
  ·rw [form_ge h]
   have : (UInt8.ofNat (128 + n % 128)).toNat = 128 + n % 128 := by rw [UInt8.toNat_ofNat']; omega
   simp only [List.cons_append, List.length_cons]
   rw [lead, if_pos (by omega), ih (n / 128) (by omega) r]
theorem lev_form (n : Nat) : lev (form n) = n := by
 induction n using Nat.strongRecOn with
 | ind n ih =>
  rcases Nat.lt_or_ge n 128 with h | h
  ·rw [form_lt h]
   have : (UInt8.ofNat n).toNat = n := by rw [UInt8.toNat_ofNat']; omega
   simp only [lev]; omega
  ·rw [form_ge h]
   have : (UInt8.ofNat (128 + n % 128)).toNat = 128 + n % 128 := by rw [UInt8.toNat_ofNat']; omega
   simp only [lev]
   rw [ih (n / 128) (by omega)]
   omega
/-- the last byte of a form -/
theorem form_last (n : Nat) : ∃ xs c, form n = xs ++ [c] ∧ c.toNat < 128 ∧ (∀ x ∈ xs, 128 ≤ x.toNat) ∧ (xs ≠ [] → c.toNat ≠ 0) ∧ n = lev xs + 128 ^ xs.length * c.toNat := by
 induction n using Nat.strongRecOn with
 | ind n ih =>
  rcases Nat.lt_or_ge n 128 with h | h
  ·have : (UInt8.ofNat n).toNat = n := by rw [UInt8.toNat_ofNat']; omega
   exact ⟨[], UInt8.ofNat n, by rw [form_lt h]; rfl, by omega, by simp, by simp, by simp [lev]; omega⟩
  ·obtain ⟨xs, c, h1, h2, h3, h4, h5⟩ := ih (n / 128) (by omega)
   have hb : (UInt8.ofNat (128 + n % 128)).toNat = 128 + n % 128 := by rw [UInt8.toNat_ofNat']; omega
   refine ⟨UInt8.ofNat (128 + n % 128) :: xs, c, by rw [form_ge h, h1]; rfl, h2, ?_, ?_, ?_⟩
   ·intro x hx
    rcases List.mem_cons.1 hx with rfl | hx
    ·omega
    ·exact h3 x hx
   ·intro _ hc
    by_cases hxs : xs = []
    ·subst hxs
     simp [lev] at h5
     omega
    ·exact h4 hxs hc
   ·simp only [lev, List.length_cons, Nat.pow_succ]
    have : n = n % 128 + 128 * (n / 128) := by omega
    rw [hb]
    have e : 128 ^ xs.length * 128 * c.toNat = 128 * (128 ^ xs.length * c.toNat) := by rw [Nat.mul_comm (128 ^ xs.length) 128, Nat.mul_assoc]
    rw [e]
    omega
/-- what was laid is read -/
theorem form_read (n : Nat) (r : List UInt8) (most : Nat) (hn : n < 18446744073709551616) : readNum (form n ++ r) most = if most < n then (0, 3, form n ++ r) else (n, 0, r) := by
 obtain ⟨xs, c, h1, h2, h3, h4, h5⟩ := form_last n
 have hl := lead_form n r
 have hl10 := form_le10 hn
 have hlen : (form n).length = xs.length + 1 := by rw [h1]; simp
 have hlead : lead (form n ++ r) = xs.length := by omega
 have hc : (form n ++ r)[lead (form n ++ r)]? = some c := by rw [hlead, h1]; simp
 have hb : ¬ ((lead (form n ++ r) = 9 ∧ 1 < c.toNat) ∨ (0 < lead (form n ++ r) ∧ c.toNat = 0)) := by
  rw [hlead]
  intro h
  rcases h with ⟨h9, hc1⟩ | ⟨h0, hc0⟩
  ·rw [h9] at h5
   have : (128 : Nat) ^ 9 = 9223372036854775808 := by decide
   have : 2 * 128 ^ 9 ≤ 128 ^ 9 * c.toNat := by rw [Nat.mul_comm 2]; exact Nat.mul_le_mul_left _ hc1
   omega
  ·exact h4 (fun h => by rw [h] at h0; simp at h0) hc0
 have hr := read_good (most := most) (by omega) hc hb
 have ht : (form n ++ r).take (lead (form n ++ r) + 1) = form n := by rw [hl]; simp
 have hd : (form n ++ r).drop (lead (form n ++ r) + 1) = r := by rw [hl]; simp
 rw [ht, hd, lev_form] at hr
 exact hr
/-- a beginning of a form that is not all of it -/
theorem form_short (n : Nat) (hn : n < 18446744073709551616) (k : Nat) (hk : k < (form n).length) (most : Nat) : readNum ((form n).take k) most = (0, 4, (form n).take k) := by
 obtain ⟨xs, c, h1, h2, h3, h4, h5⟩ := form_last n
 have hl10 := form_le10 hn
 have hlen : (form n).length = xs.length + 1 := by rw [h1]; simp
 have ht : (form n).take k = xs.take k := by rw [h1, List.take_append_of_le_length (by omega)]
 have hall : ∀ (ys : List UInt8), (∀ x ∈ ys, 128 ≤ x.toNat) → lead ys = ys.length := by
  intro ys
  induction ys with
  | nil => intro _; rfl
  | cons y ys ih => intro h; rw [lead, if_pos (h y (by simp)), ih (fun x hx => h x (by simp [hx]))]; rfl
 have hle := hall (xs.take k) (fun x hx => h3 x (List.mem_of_mem_take hx))
 rw [ht]
 have hlt : (xs.take k).length ≤ xs.length := by simp; omega
 exact read_short (by omega) hle
theorem read_max (l : List UInt8) (most : Nat) : readNum l 18446744073709551615 = if (readNum l most).2.1 = 3 then (lev (l.take (lead l + 1)), 0, l.drop (lead l + 1)) else readNum l most := by
 have hll := lead_le l
 rcases Nat.lt_or_ge (lead l) 10 with h10 | h10
 ·rcases Nat.lt_or_ge (lead l) l.length with hlt | hge
  ·obtain ⟨c, hc, hc1⟩ := lead_end l hlt
   by_cases hb : (lead l = 9 ∧ 1 < c.toNat) ∨ (0 < lead l ∧ c.toNat = 0)
   ·rw [read_none h10 hc hb, read_none h10 hc hb]; simp
   ·have hf := lev_fits l (lead l) h10 c hc (by omega)
    rw [read_good h10 hc hb, read_good h10 hc hb, if_neg (by omega)]
    split <;> simp
  ·rw [read_short h10 (by omega), read_short h10 (by omega)]; simp
 ·rw [read_many h10, read_many h10]; simp
/-- ErrLong is told just where the number is above most -/
theorem read_long_iff (l : List UInt8) (most : Nat) : ((readNum l most).2.1 = 3) ↔ ((readNum l 18446744073709551615).2.1 = 0 ∧ most < (readNum l 18446744073709551615).1) := by
 have hll := lead_le l
 rcases Nat.lt_or_ge (lead l) 10 with h10 | h10
 ·rcases Nat.lt_or_ge (lead l) l.length with hlt | hge
  ·obtain ⟨c, hc, hc1⟩ := lead_end l hlt
   by_cases hb : (lead l = 9 ∧ 1 < c.toNat) ∨ (0 < lead l ∧ c.toNat = 0)
   ·rw [read_none h10 hc hb, read_none h10 hc hb]; simp
   ·have hf := lev_fits l (lead l) h10 c hc (by omega)
    have hm : ¬ 18446744073709551615 < lev (l.take (lead l + 1)) := by omega
    rw [read_good h10 hc hb, read_good h10 hc hb]
    simp only [if_neg hm]
    split
    ·rename_i h; simp; exact h
    ·rename_i h; simp; omega
  ·rw [read_short h10 (by omega), read_short h10 (by omega)]; simp
 ·rw [read_many h10, read_many h10]; simp
theorem read_ok_same (l : List UInt8) (most : Nat) (h : (readNum l most).2.1 = 0) : readNum l 18446744073709551615 = readNum l most := by
 rw [read_max l most, if_neg (by omega)]
end Go.Proofs.Ytllnlimbfoingaa
