/- DERIVED. Plain: what is laid is read again; what is read, laid, is what went; beginnings. -/
import Derived.Test.YtplcnceacbpjhaaForm
namespace Go.Proofs.Ytplcnceacbpjhaa

/-- groups that could not be shorter are the form of their number -/
theorem form_lev : ∀ (xs : List UInt8) (c : UInt8), (∀ x ∈ xs, 128 ≤ x.toNat) → c.toNat < 128 → (xs ≠ [] → c.toNat ≠ 0) → form (lev (xs ++ [c])) = xs ++ [c] ∧ (c.toNat ≠ 0 → 1 ≤ lev (xs ++ [c]))
  | [], c, _, hc, _ => by
    have e : lev ([] ++ [c]) = c.toNat := by simp [lev]; omega
    rw [e]
    exact ⟨by rw [form_lt hc]; simp, fun h => by omega⟩
  | x :: xs, c, hx, hc, h0 => by
    have hx0 : 128 ≤ x.toNat := hx x (by simp)
    have hxl := x.toNat_lt
    have hc0 : c.toNat ≠ 0 := h0 (by simp)
    obtain ⟨ih, ih1⟩ := form_lev xs c (fun y hy => hx y (by simp [hy])) hc (fun _ => hc0)
    have h1 := ih1 hc0
    have e : lev (x :: xs ++ [c]) = x.toNat % 128 + 128 * lev (xs ++ [c]) := by simp [lev]
    rw [e]
    refine ⟨?_, fun _ => by omega⟩
    rw [form_ge (by omega), show (x.toNat % 128 + 128 * lev (xs ++ [c])) / 128 = lev (xs ++ [c]) from by omega, ih]
    simp only [List.cons_append, List.cons.injEq, and_true]
    rw [show 128 + (x.toNat % 128 + 128 * lev (xs ++ [c])) % 128 = x.toNat from by omega]
    simp
theorem lead_all : ∀ (l : List UInt8), ∀ x ∈ l.take (lead l), 128 ≤ x.toNat
  | [], x, h => by simp at h
  | c :: r, x, h => by
    unfold lead at h
    split at h
    · rename_i hc
      simp only [List.take_succ_cons, List.mem_cons] at h
      rcases h with rfl | h
      · exact hc
      · exact lead_all r x h
    · simp at h
/-- what is read, laid again, is what went -/
theorem read_form {l r : List UInt8} {most n : Nat} (h : readNum l most = (n, 0, r)) : l = form n ++ r ∧ n ≤ most ∧ n < 18446744073709551616 := by
  have hll := lead_le l
  rcases Nat.lt_or_ge (lead l) 10 with h10 | h10
  · rcases Nat.lt_or_ge (lead l) l.length with hlt | hge
    · obtain ⟨c, hc, hc1⟩ := lead_end l hlt
      by_cases hb : (lead l = 9 ∧ 1 < c.toNat) ∨ (0 < lead l ∧ c.toNat = 0)
      · rw [read_none h10 hc hb] at h; simp at h
      · rw [read_good h10 hc hb] at h
        split at h
        · simp at h
        · rename_i hm
          simp only [Prod.mk.injEq, true_and] at h
          obtain ⟨rfl, rfl⟩ := h
          have ht : l.take (lead l + 1) = l.take (lead l) ++ [c] := by
            have hg := (List.getElem?_eq_some_iff.1 hc).2
            rw [List.take_succ_eq_append_getElem hlt, hg]
          have hf := (form_lev (l.take (lead l)) c (lead_all l) hc1 (fun hne => by
            have : 0 < lead l := by
              rcases Nat.eq_zero_or_pos (lead l) with h0 | h0
              · rw [h0] at hne; simp at hne
              · exact h0
            omega)).1
          refine ⟨?_, by omega, lev_fits l (lead l) h10 c hc (by omega)⟩
          rw [ht, hf, ← ht, List.take_append_drop]
    · rw [read_short h10 (by omega)] at h; simp at h
  · rw [read_many h10] at h; simp at h
theorem lead_form (n : Nat) : ∀ r, lead (form n ++ r) + 1 = (form n).length := by
  induction n using Nat.strongRecOn with
  | ind n ih =>
    intro r
    rcases Nat.lt_or_ge n 128 with h | h
    · rw [form_lt h]
      have : (UInt8.ofNat n).toNat = n := by rw [UInt8.toNat_ofNat']; omega
      simp only [List.cons_append, List.nil_append, List.length_cons, List.length_nil]
      rw [lead, if_neg (by omega)]
    · rw [form_ge h]
      have : (UInt8.ofNat (128 + n % 128)).toNat = 128 + n % 128 := by rw [UInt8.toNat_ofNat']; omega
      simp only [List.cons_append, List.length_cons]
      rw [lead, if_pos (by omega), ih (n / 128) (by omega) r]
theorem lev_form (n : Nat) : lev (form n) = n := by
  induction n using Nat.strongRecOn with
  | ind n ih =>
    rcases Nat.lt_or_ge n 128 with h | h
    · rw [form_lt h]
      have : (UInt8.ofNat n).toNat = n := by rw [UInt8.toNat_ofNat']; omega
      simp only [lev]; omega
    · rw [form_ge h]
      have : (UInt8.ofNat (128 + n % 128)).toNat = 128 + n % 128 := by rw [UInt8.toNat_ofNat']; omega
      simp only [lev]
      rw [ih (n / 128) (by omega)]
      omega
/-- the last byte of a form -/
theorem form_last (n : Nat) : ∃ xs c, form n = xs ++ [c] ∧ c.toNat < 128 ∧ (∀ x ∈ xs, 128 ≤ x.toNat) ∧ (xs ≠ [] → c.toNat ≠ 0) ∧ n = lev xs + 128 ^ xs.length * c.toNat := by
  induction n using Nat.strongRecOn with
  | ind n ih =>
    rcases Nat.lt_or_ge n 128 with h | h
    · have : (UInt8.ofNat n).toNat = n := by rw [UInt8.toNat_ofNat']; omega
      exact ⟨[], UInt8.ofNat n, by rw [form_lt h]; rfl, by omega, by simp, by simp, by simp [lev]; omega⟩
    · obtain ⟨xs, c, h1, h2, h3, h4, h5⟩ := ih (n / 128) (by omega)
      have hb : (UInt8.ofNat (128 + n % 128)).toNat = 128 + n % 128 := by rw [UInt8.toNat_ofNat']; omega
      refine ⟨UInt8.ofNat (128 + n % 128) :: xs, c, by rw [form_ge h, h1]; rfl, h2, ?_, ?_, ?_⟩
      · intro x hx
        rcases List.mem_cons.1 hx with rfl | hx
        · omega
        · exact h3 x hx
      · intro _ hc
        by_cases hxs : xs = []
        · subst hxs
          simp [lev] at h5
          omega
        · exact h4 hxs hc
      · simp only [lev, List.length_cons, Nat.pow_succ]
        have : n = n % 128 + 128 * (n / 128) := by omega
        rw [hb]
        have e : 128 ^ xs.length * 128 * c.toNat = 128 * (128 ^ xs.length * c.toNat) := by rw [Nat.mul_comm (128 ^ xs.length) 128, Nat.mul_assoc]
        rw [e]
        omega
/-- what was laid is read -/
theorem form_read (n : Nat) (r : List UInt8) (most : Nat) (hn : n < 18446744073709551616) : readNum (form n ++ r) most = if most < n then (0, 3, form n ++ r) else (n, 0, r) := by
  obtain ⟨xs, c, h1, h2, h3, h4, h5⟩ := form_last n
  have hl := lead_form n r
  have hl10 := form_le10 hn
  have hlen : (form n).length = xs.length + 1 := by rw [h1]; simp
  have hlead : lead (form n ++ r) = xs.length := by omega
  have hc : (form n ++ r)[lead (form n ++ r)]? = some c := by rw [hlead, h1]; simp
  have hb : ¬ ((lead (form n ++ r) = 9 ∧ 1 < c.toNat) ∨ (0 < lead (form n ++ r) ∧ c.toNat = 0)) := by
    rw [hlead]
    intro h
    rcases h with ⟨h9, hc1⟩ | ⟨h0, hc0⟩
    · rw [h9] at h5
      have : (128 : Nat) ^ 9 = 9223372036854775808 := by decide
      have : 2 * 128 ^ 9 ≤ 128 ^ 9 * c.toNat := by rw [Nat.mul_comm 2]; exact Nat.mul_le_mul_left _ hc1
      omega
    · exact h4 (fun h => by rw [h] at h0; simp at h0) hc0
  have hr := read_good (most := most) (by omega) hc hb
  have ht : (form n ++ r).take (lead (form n ++ r) + 1) = form n := by rw [hl]; simp
  have hd : (form n ++ r).drop (lead (form n ++ r) + 1) = r := by rw [hl]; simp
  rw [ht, hd, lev_form] at hr
  exact hr
/-- a beginning of a form that is not all of it -/
theorem form_short (n : Nat) (hn : n < 18446744073709551616) (k : Nat) (hk : k < (form n).length) (most : Nat) : readNum ((form n).take k) most = (0, 4, (form n).take k) := by
  obtain ⟨xs, c, h1, h2, h3, h4, h5⟩ := form_last n
  have hl10 := form_le10 hn
  have hlen : (form n).length = xs.length + 1 := by rw [h1]; simp
  have ht : (form n).take k = xs.take k := by rw [h1, List.take_append_of_le_length (by omega)]
  have hall : ∀ (ys : List UInt8), (∀ x ∈ ys, 128 ≤ x.toNat) → lead ys = ys.length := by
    intro ys
    induction ys with
    | nil => intro _; rfl
    | cons y ys ih => intro h; rw [lead, if_pos (h y (by simp)), ih (fun x hx => h x (by simp [hx]))]; rfl
  have hle := hall (xs.take k) (fun x hx => h3 x (List.mem_of_mem_take hx))
  rw [ht]
  have hlt : (xs.take k).length ≤ xs.length := by simp; omega
  exact read_short (by omega) hle
theorem read_max (l : List UInt8) (most : Nat) : readNum l 18446744073709551615 = if (readNum l most).2.1 = 3 then (lev (l.take (lead l + 1)), 0, l.drop (lead l + 1)) else readNum l most := by
  have hll := lead_le l
  rcases Nat.lt_or_ge (lead l) 10 with h10 | h10
  · rcases Nat.lt_or_ge (lead l) l.length with hlt | hge
    · obtain ⟨c, hc, hc1⟩ := lead_end l hlt
      by_cases hb : (lead l = 9 ∧ 1 < c.toNat) ∨ (0 < lead l ∧ c.toNat = 0)
      · rw [read_none h10 hc hb, read_none h10 hc hb]; simp
      · have hf := lev_fits l (lead l) h10 c hc (by omega)
        rw [read_good h10 hc hb, read_good h10 hc hb, if_neg (by omega)]
        split <;> simp
    · rw [read_short h10 (by omega), read_short h10 (by omega)]; simp
  · rw [read_many h10, read_many h10]; simp
/-- ErrLong is told just where the number is above most -/
theorem read_long_iff (l : List UInt8) (most : Nat) : ((readNum l most).2.1 = 3) ↔ ((readNum l 18446744073709551615).2.1 = 0 ∧ most < (readNum l 18446744073709551615).1) := by
  have hll := lead_le l
  rcases Nat.lt_or_ge (lead l) 10 with h10 | h10
  · rcases Nat.lt_or_ge (lead l) l.length with hlt | hge
    · obtain ⟨c, hc, hc1⟩ := lead_end l hlt
      by_cases hb : (lead l = 9 ∧ 1 < c.toNat) ∨ (0 < lead l ∧ c.toNat = 0)
      · rw [read_none h10 hc hb, read_none h10 hc hb]; simp
      · have hf := lev_fits l (lead l) h10 c hc (by omega)
        have hm : ¬ 18446744073709551615 < lev (l.take (lead l + 1)) := by omega
        rw [read_good h10 hc hb, read_good h10 hc hb]
        simp only [if_neg hm]
        split
        · rename_i h; simp; exact h
        · rename_i h; simp; omega
    · rw [read_short h10 (by omega), read_short h10 (by omega)]; simp
  · rw [read_many h10, read_many h10]; simp
theorem read_ok_same (l : List UInt8) (most : Nat) (h : (readNum l most).2.1 = 0) : readNum l 18446744073709551615 = readNum l most := by
  rw [read_max l most, if_neg (by omega)]
end Go.Proofs.Ytplcnceacbpjhaa
