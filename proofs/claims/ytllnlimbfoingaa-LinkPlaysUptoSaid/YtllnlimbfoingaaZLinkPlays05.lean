/- DERIVED. Plain: what is laid is read again; what is read, laid, is what went; beginnings. · DERIVED. Chapter 20: a packet's bytes, in plain lists: what is laid reads back, what reads was so laid. · DERIVED. The contracts of the writers of package wire. -/
import Derived.Test.YtllnlimbfoingaaZLinkPlays04
import Derived.Test.YtllnlimbfoingaaY08
import Derived.Defers
namespace Go.Proofs.Ytllnlimbfoingaa

/-- groups that could not be shorter are the form of their number -/
theorem form_lev : ∀ (xs : List UInt8) (c : UInt8), (∀ x ∈ xs, 128 ≤ x.toNat) → c.toNat < 128 → (xs ≠ [] → c.toNat ≠ 0) → form (lev (xs ++ [c])) = xs ++ [c] ∧ (c.toNat ≠ 0 → 1 ≤ lev (xs ++ [c]))
 | [], c, _, hc, _ => by
  have e : lev ([] ++ [c]) = c.toNat := by simp [lev]; omega
  rw [e]
  exact ⟨by rw [form_lt hc]; simp, fun h => by omega⟩
 | x :: xs, c, hx, hc, h0 => by
  have hx0 : 128 ≤ x.toNat := hx x (by simp)
  have hxl := x.toNat_lt
  have hc0 : c.toNat ≠ 0 := h0 (by simp)
  obtain ⟨ih, ih1⟩ := form_lev xs c (fun y hy => hx y (by simp [hy])) hc (fun _ => hc0)
  have h1 := ih1 hc0
  have e : lev (x :: xs ++ [c]) = x.toNat % 128 + 128 * lev (xs ++ [c]) := by simp [lev]
  rw [e]
  refine ⟨?_, fun _ => by omega⟩
  rw [form_ge (by omega), show (x.toNat % 128 + 128 * lev (xs ++ [c])) / 128 = lev (xs ++ [c]) from by omega, ih]
  simp only [List.cons_append, List.cons.injEq, and_true]
  rw [show 128 + (x.toNat % 128 + 128 * lev (xs ++ [c])) % 128 = x.toNat from by omega]
  simp
theorem lead_all : ∀ (l : List UInt8), ∀ x ∈ l.take (lead l), 128 ≤ x.toNat
 | [], x, h => by simp at h
 | c :: r, x, h => by
  unfold lead at h
  split at h
  ·rename_i hc
   simp only [List.take_succ_cons, List.mem_cons] at h
   rcases h with rfl | h
   ·exact hc
   ·exact lead_all r x h
  ·simp at h
/-- what is read, laid again, is what went -/
theorem read_form {l r : List UInt8} {most n : Nat} (h : readNum l most = (n, 0, r)) : l = form n ++ r ∧ n ≤ most ∧ n < 18446744073709551616 := by
 have hll := lead_le l
 rcases Nat.lt_or_ge (lead l) 10 with h10 | h10
 ·rcases Nat.lt_or_ge (lead l) l.length with hlt | hge
  ·obtain ⟨c, hc, hc1⟩ := lead_end l hlt
   by_cases hb : (lead l = 9 ∧ 1 < c.toNat) ∨ (0 < lead l ∧ c.toNat = 0)
   ·rw [read_none h10 hc hb] at h; simp at h
   ·rw [read_good h10 hc hb] at h
    split at h
    ·simp at h
    ·rename_i hm
     simp only [Prod.mk.injEq, true_and] at h
     obtain ⟨rfl, rfl⟩ := h
     have ht : l.take (lead l + 1) = l.take (lead l) ++ [c] := by
      have hg := (List.getElem?_eq_some_iff.1 hc).2
      rw [List.take_succ_eq_append_getElem hlt, hg]
     have hf := (form_lev (l.take (lead l)) c (lead_all l) hc1 (fun hne => by
      have : 0 < lead l := by
       rcases Nat.eq_zero_or_pos (lead l) with h0 | h0
       ·rw [h0] at hne; simp at hne
       ·exact h0
      omega)).1
     refine ⟨?_, by omega, lev_fits l (lead l) h10 c hc (by omega)⟩
     rw [ht, hf, ← ht, List.take_append_drop]
  ·rw [read_short h10 (by omega)] at h; simp at h
 ·rw [read_many h10] at h; simp at h
theorem lead_form (n : Nat) : ∀ r, lead (form n ++ r) + 1 = (form n).length := by
 induction n using Nat.strongRecOn with
 | ind n ih =>
  intro r
  rcases Nat.lt_or_ge n 128 with h | h
  ·rw [form_lt h]
   have : (UInt8.ofNat n).toNat = n := by rw [UInt8.toNat_ofNat']; omega
   simp only [List.cons_append, List.nil_append, List.length_cons, List.length_nil]
   rw [lead, if_neg (by omega)]
  ·rw [form_ge h]
   have : (UInt8.ofNat (128 + n % 128)).toNat = 128 + n % 128 := by rw [UInt8.toNat_ofNat']; omega
   simp only [List.cons_append, List.length_cons]
   rw [lead, if_pos (by omega), ih (n / 128) (by omega) r]
theorem lev_form (n : Nat) : lev (form n) = n := by
 induction n using Nat.strongRecOn with
 | ind n ih =>
  rcases Nat.lt_or_ge n 128 with h | h
  ·rw [form_lt h]
   have : (UInt8.ofNat n).toNat = n := by rw [UInt8.toNat_ofNat']; omega
   simp only [lev]; omega
  ·rw [form_ge h]
   have : (UInt8.ofNat (128 + n % 128)).toNat = 128 + n % 128 := by rw [UInt8.toNat_ofNat']; omega
   simp only [lev]
   rw [ih (n / 128) (by omega)]
   omega
/-- the last byte of a form -/
theorem form_last (n : Nat) : ∃ xs c, form n = xs ++ [c] ∧ c.toNat < 128 ∧ (∀ x ∈ xs, 128 ≤ x.toNat) ∧ (xs ≠ [] → c.toNat ≠ 0) ∧ n = lev xs + 128 ^ xs.length * c.toNat := by
 induction n using Nat.strongRecOn with
 | ind n ih =>
  rcases Nat.lt_or_ge n 128 with h | h
  ·have : (UInt8.ofNat n).toNat = n := by rw [UInt8.toNat_ofNat']; omega
   exact ⟨[], UInt8.ofNat n, by rw [form_lt h]; rfl, by omega, by simp, by simp, by simp [lev]; omega⟩
  ·obtain ⟨xs, c, h1, h2, h3, h4, h5⟩ := ih (n / 128) (by omega)
   have hb : (UInt8.ofNat (128 + n % 128)).toNat = 128 + n % 128 := by rw [UInt8.toNat_ofNat']; omega
   refine ⟨UInt8.ofNat (128 + n % 128) :: xs, c, by rw [form_ge h, h1]; rfl, h2, ?_, ?_, ?_⟩
   ·intro x hx
    rcases List.mem_cons.1 hx with rfl | hx
    ·omega
    ·exact h3 x hx
   ·intro _ hc
    by_cases hxs : xs = []
    ·subst hxs
     simp [lev] at h5
     omega
    ·exact h4 hxs hc
   ·simp only [lev, List.length_cons, Nat.pow_succ]
    have : n = n % 128 + 128 * (n / 128) := by omega
    rw [hb]
    have e : 128 ^ xs.length * 128 * c.toNat = 128 * (128 ^ xs.length * c.toNat) := by rw [Nat.mul_comm (128 ^ xs.length) 128, Nat.mul_assoc]
    rw [e]
    omega
/-- what was laid is read -/
theorem form_read (n : Nat) (r : List UInt8) (most : Nat) (hn : n < 18446744073709551616) : readNum (form n ++ r) most = if most < n then (0, 3, form n ++ r) else (n, 0, r) := by
 obtain ⟨xs, c, h1, h2, h3, h4, h5⟩ := form_last n
 have hl := lead_form n r
 have hl10 := form_le10 hn
 have hlen : (form n).length = xs.length + 1 := by rw [h1]; simp
 have hlead : lead (form n ++ r) = xs.length := by omega
 have hc : (form n ++ r)[lead (form n ++ r)]? = some c := by rw [hlead, h1]; simp
 have hb : ¬ ((lead (form n ++ r) = 9 ∧ 1 < c.toNat) ∨ (0 < lead (form n ++ r) ∧ c.toNat = 0)) := by
  rw [hlead]
  intro h
  rcases h with ⟨h9, hc1⟩ | ⟨h0, hc0⟩
  ·rw [h9] at h5
   have : (128 : Nat) ^ 9 = 9223372036854775808 := by decide
   have : 2 * 128 ^ 9 ≤ 128 ^ 9 * c.toNat := by rw [Nat.mul_comm 2]; exact Nat.mul_le_mul_left _ hc1
   omega
  ·exact h4 (fun h => by rw [h] at h0; simp at h0) hc0
 have hr := read_good (most := most) (by omega) hc hb
 have ht : (form n ++ r).take (lead (form n ++ r) + 1) = form n := by rw [hl]; simp
 have hd : (form n ++ r).drop (lead (form n ++ r) + 1) = r := by rw [hl]; simp
 rw [ht, hd, lev_form] at hr
 exact hr
/-- a beginning of a form that is not all of it -/
theorem form_short (n : Nat) (hn : n < 18446744073709551616) (k : Nat) (hk : k < (form n).length) (most : Nat) : readNum ((form n).take k) most = (0, 4, (form n).take k) := by
 obtain ⟨xs, c, h1, h2, h3, h4, h5⟩ := form_last n
 have hl10 := form_le10 hn
 have hlen : (form n).length = xs.length + 1 := by rw [h1]; simp
 have ht : (form n).take k = xs.take k := by rw [h1, List.take_append_of_le_length (by omega)]
 have hall : ∀ (ys : List UInt8), (∀ x ∈ ys, 128 ≤ x.toNat) → lead ys = ys.length := by
  intro ys
  induction ys with
  | nil => intro _; rfl
  | cons y ys ih => intro h; rw [lead, if_pos (h y (by simp)), ih (fun x hx => h x (by simp [hx]))]; rfl
 have hle := hall (xs.take k) (fun x hx => h3 x (List.mem_of_mem_take hx))
 rw [ht]
 have hlt : (xs.take k).length ≤ xs.length := by simp; omega
 exact read_short (by omega) hle
theorem read_max (l : List UInt8) (most : Nat) : readNum l 18446744073709551615 = if (readNum l most).2.1 = 3 then (lev (l.take (lead l + 1)), 0, l.drop (lead l + 1)) else readNum l most := by
 have hll := lead_le l
 rcases Nat.lt_or_ge (lead l) 10 with h10 | h10
 ·rcases Nat.lt_or_ge (lead l) l.length with hlt | hge
  ·obtain ⟨c, hc, hc1⟩ := lead_end l hlt
   by_cases hb : (lead l = 9 ∧ 1 < c.toNat) ∨ (0 < lead l ∧ c.toNat = 0)
   ·rw [read_none h10 hc hb, read_none h10 hc hb]; simp
   ·have hf := lev_fits l (lead l) h10 c hc (by omega)
    rw [read_good h10 hc hb, read_good h10 hc hb, if_neg (by omega)]
    split <;> simp
  ·rw [read_short h10 (by omega), read_short h10 (by omega)]; simp
 ·rw [read_many h10, read_many h10]; simp
/-- ErrLong is told just where the number is above most -/
theorem read_long_iff (l : List UInt8) (most : Nat) : ((readNum l most).2.1 = 3) ↔ ((readNum l 18446744073709551615).2.1 = 0 ∧ most < (readNum l 18446744073709551615).1) := by
 have hll := lead_le l
 rcases Nat.lt_or_ge (lead l) 10 with h10 | h10
 ·rcases Nat.lt_or_ge (lead l) l.length with hlt | hge
  ·obtain ⟨c, hc, hc1⟩ := lead_end l hlt
   by_cases hb : (lead l = 9 ∧ 1 < c.toNat) ∨ (0 < lead l ∧ c.toNat = 0)
   ·rw [read_none h10 hc hb, read_none h10 hc hb]; simp
   ·have hf := lev_fits l (lead l) h10 c hc (by omega)
    have hm : ¬ 18446744073709551615 < lev (l.take (lead l + 1)) := by omega
    rw [read_good h10 hc hb, read_good h10 hc hb]
    simp only [if_neg hm]
    split
    ·rename_i h; simp; exact h
    ·rename_i h; simp; omega
  ·rw [read_short h10 (by omega), read_short h10 (by omega)]; simp
 ·rw [read_many h10, read_many h10]; simp
theorem read_ok_same (l : List UInt8) (most : Nat) (h : (readNum l most).2.1 = 0) : readNum l 18446744073709551615 = readNum l most := by
 rw [read_max l most, if_neg (by omega)]
end Go.Proofs.Ytllnlimbfoingaa

namespace Go.Proofs.Ytllnlimbfoingaa
open Go.RowKit

/-- the bytes of a packet -/
def encP (p : Pk) : List UInt8 := form p.src ++ form p.dst ++ form p.seq ++ form p.ack ++ (form p.data.length ++ p.data)
/-- k numbers in a row -/
def nums : Nat → List UInt8 → Option (List Nat × List UInt8)
 | 0, l => some ([], l)
 | k + 1, l => match nums k l with
  | none => none
  | some (ns, r) => if (readNum r 18446744073709551615).2.1 = 0 then some (ns ++ [(readNum r 18446744073709551615).1], (readNum r 18446744073709551615).2.2) else none
def pk0 : Pk := ⟨0, 0, 0, 0, []⟩
def parR (a b c d : Nat) (r : List UInt8) : Pk × Nat := if (readBytes r 9223372036854775807).2.1 = 0 ∧ (readBytes r 9223372036854775807).2.2 = [] then (⟨a, b, c, d, (readBytes r 9223372036854775807).1⟩, 0) else (pk0, 5)
def parP (l : List UInt8) : Pk × Nat :=
 match nums 4 l with
 | some ([a, b, c, d], r) => parR a b c d r
 | _ => (pk0, 5)
/-- the reference reads on behind an error -/
def parQ (l : List UInt8) : Pk × Nat :=
 let a := readNum l 18446744073709551615
 let b := readNum a.2.2 18446744073709551615
 let c := readNum b.2.2 18446744073709551615
 let d := readNum c.2.2 18446744073709551615
 let x := readBytes d.2.2 9223372036854775807
 if a.2.1 ≠ 0 ∨ b.2.1 ≠ 0 ∨ c.2.1 ≠ 0 ∨ d.2.1 ≠ 0 ∨ x.2.1 ≠ 0 ∨ x.2.2 ≠ [] then (pk0, 5) else (⟨a.1, b.1, c.1, d.1, x.1⟩, 0)
def Pk.small (p : Pk) : Prop := p.src < 18446744073709551616 ∧ p.dst < 18446744073709551616 ∧ p.seq < 18446744073709551616 ∧ p.ack < 18446744073709551616
theorem parQ_eq (l : List UInt8) : parQ l = parP l := by
 unfold parQ parP
 simp only [nums, List.nil_append]
 by_cases h1 : (readNum l 18446744073709551615).2.1 = 0
 ·by_cases h2 : (readNum (readNum l 18446744073709551615).2.2 18446744073709551615).2.1 = 0
  ·by_cases h3 : (readNum (readNum (readNum l 18446744073709551615).2.2 18446744073709551615).2.2 18446744073709551615).2.1 = 0
   ·by_cases h4 : (readNum (readNum (readNum (readNum l 18446744073709551615).2.2 18446744073709551615).2.2 18446744073709551615).2.2 18446744073709551615).2.1 = 0
    ·simp only [h1, h2, h3, h4, if_true, List.nil_append, List.cons_append, ne_eq, not_true_eq_false, false_or, parR]
     by_cases h5 : (readBytes (readNum (readNum (readNum (readNum l 18446744073709551615).2.2 18446744073709551615).2.2 18446744073709551615).2.2 18446744073709551615).2.2 9223372036854775807).2.1 = 0
     ·by_cases h6 : (readBytes (readNum (readNum (readNum (readNum l 18446744073709551615).2.2 18446744073709551615).2.2 18446744073709551615).2.2 18446744073709551615).2.2 9223372036854775807).2.2 = []
      ·rw [if_neg (by simp [h5, h6]), if_pos ⟨h5, h6⟩]
      ·rw [if_pos (Or.inr h6), if_neg (fun h => h6 h.2)]
     ·rw [if_pos (Or.inl h5), if_neg (fun h => h5 h.1)]
    ·simp [h1, h2, h3, h4]
   ·simp [h1, h2, h3]
  ·simp [h1, h2]
 ·simp [h1]
theorem nums_form {k : Nat} {l : List UInt8} {ns : List Nat} {r : List UInt8} (h : nums k l = some (ns, r)) : l = (ns.map form).flatten ++ r ∧ ns.length = k ∧ ∀ n ∈ ns, n < 18446744073709551616 := by
 induction k generalizing ns r with
 | zero =>
  simp only [nums, Option.some.injEq, Prod.mk.injEq] at h
  obtain ⟨rfl, rfl⟩ := h
  simp
 | succ k ih =>
  simp only [nums] at h
  split at h
  ·cases h
  ·rename_i ns' r' h'
   split at h
   ·rename_i h0
    simp only [Option.some.injEq, Prod.mk.injEq] at h
    obtain ⟨rfl, rfl⟩ := h
    obtain ⟨e1, e2, e3⟩ := ih h'
    have hr : readNum r' 18446744073709551615 = ((readNum r' 18446744073709551615).1, 0, (readNum r' 18446744073709551615).2.2) := by
     conv => lhs; rw [show readNum r' 18446744073709551615 = ((readNum r' 18446744073709551615).1, (readNum r' 18446744073709551615).2.1, (readNum r' 18446744073709551615).2.2) from rfl, h0]
    have hf := read_form hr
    refine ⟨?_, by simp [e2], ?_⟩
    ·rw [List.map_append, List.flatten_append, List.append_assoc]
     conv => lhs; rw [e1, hf.1]
     simp
    ·intro n hn
     rcases List.mem_append.1 hn with hn | hn
     ·exact e3 n hn
     ·simp only [List.mem_singleton] at hn
      subst hn
      exact hf.2.2
   ·cases h
theorem rb_form (r : List UInt8) : ∃ x g u, readBytes r 9223372036854775807 = (x, g, u) ∧ (g = 0 → r = form x.length ++ x ++ u) := by
 obtain ⟨n, e, t, h1⟩ : ∃ n e s, readNum r 9223372036854775807 = (n, e, s) := ⟨_, _, _, rfl⟩
 have hb : readBytes r 9223372036854775807 = if e ≠ 0 then ([], e, r) else if t.length < n then ([], 4, r) else (t.take n, 0, t.drop n) := by
  unfold readBytes
  rw [if_neg (by decide), show (9223372036854775807 : Int).toNat = 9223372036854775807 from rfl, h1]
 by_cases he : e = 0
 ·subst he
  have hf := (read_form h1).1
  by_cases hn : t.length < n
  ·exact ⟨_, _, _, by rw [hb, if_neg (by simp), if_pos hn], fun h => by simp at h⟩
  ·refine ⟨_, _, _, by rw [hb, if_neg (by simp), if_neg hn], fun _ => ?_⟩
   simp only [List.length_take, List.append_assoc, List.take_append_drop]
   rw [Nat.min_eq_left (by omega)]
   exact hf
 ·exact ⟨_, _, _, by rw [hb, if_pos he], fun h => absurd h he⟩
theorem enc_par {l : List UInt8} (h : (parP l).2 = 0) : encP (parP l).1 = l ∧ (parP l).1.small := by
 unfold parP at h ⊢
 split at h
 ·rename_i a b c d r hn
  obtain ⟨x, g, u, hr, hx⟩ := rb_form r
  unfold parR at h ⊢
  rw [hr] at h ⊢
  by_cases hg : g = 0 ∧ u = []
  ·obtain ⟨rfl, rfl⟩ := hg
   obtain ⟨e1, _, e3⟩ := nums_form hn
   rw [if_pos ⟨rfl, rfl⟩]
   refine ⟨?_, e3 a (by simp), e3 b (by simp), e3 c (by simp), e3 d (by simp)⟩
   rw [e1, hx rfl]
   simp [encP]
  ·rw [if_neg hg] at h
   exact absurd h (by decide)
 ·exact absurd h (by decide)
theorem nums_enc (p : Pk) (hp : p.small) : nums 4 (encP p) = some ([p.src, p.dst, p.seq, p.ack], form p.data.length ++ p.data) := by
 obtain ⟨h1, h2, h3, h4⟩ := hp
 simp only [nums, encP, List.append_assoc, form_read _ _ _ h1, form_read _ _ _ h2, form_read _ _ _ h3, form_read _ _ _ h4, if_neg (show ¬ 18446744073709551615 < p.src by omega), if_neg (show ¬ 18446744073709551615 < p.dst by omega), if_neg (show ¬ 18446744073709551615 < p.seq by omega), if_neg (show ¬ 18446744073709551615 < p.ack by omega), if_true, List.nil_append, List.cons_append]
theorem par_enc (p : Pk) (hp : p.small) (hd : p.data.length ≤ 1000000000) : parP (encP p) = (p, 0) := by
 have hb : readBytes (form p.data.length ++ p.data) 9223372036854775807 = (p.data, 0, []) := by
  have hf : readNum (form p.data.length ++ p.data) 9223372036854775807 = (p.data.length, 0, p.data) := by rw [form_read _ _ _ (by omega), if_neg (by omega)]
  unfold readBytes
  rw [if_neg (by decide), show (9223372036854775807 : Int).toNat = 9223372036854775807 from rfl, hf]
  simp
 unfold parP parR
 rw [nums_enc p hp]
 simp only [hb, and_self, if_true]
end Go.Proofs.Ytllnlimbfoingaa

namespace Go.Proofs.Ytllnlimbfoingaa
open Go.RowKit

set_option maxHeartbeats 400000 in
theorem num_any (v : Value) (l : List UInt8) (n : Nat) (w : World) (h : Sees w v l) (hl : l.length ≤ 1000000000) (hn : n < 18446744073709551616) :
  Calls Try.prog 42 #[v, .int .u64 n] w (Gives w (l ++ form n)) := by
 go_enter Try.func42, Try.ntmps42
 go_wp2_with fail
 go_step3
 go_wp2_with (go_at_call 54; refine (clone_any v l w h hl).mono ?_; rintro e w1 ⟨p1, n1, c1, rfl, ho, hk⟩)
 go_step3
 go_wp2_with fail
 go_loopw [1, 5] (fun v1 v5 wr => ∃ m l', v1 = .int .u64 (m : Nat) ∧ m < 18446744073709551616 ∧ Owns wr w.heap.size v5 l' ∧ Old w wr ∧ l' ++ form m = l ++ form n) (fun v1 _ _ => (intOf v1).toNat)
 case atStart => exact ⟨n, l, rfl, hn, ho, hk, rfl⟩
 case round =>
  obtain ⟨m, l', rfl, hm, ho', hk', he⟩ := hrel
  have hlen : l'.length ≤ 1000000010 := by
   have := congrArg List.length he
   simp only [List.length_append] at this
   have := form_le10 hn
   omega
  have H := Lib.hid he
  clear he ho hk
  have ha := and127_u64 hm
  have hs := hk'.size
  by_cases h0 : m < 128
  ·have hz : ((m : Int) / 128 == 0) = true := by simp; omega
   go_wp2_with (at_builtin; refine wpList_append_sees rfl _ _ rfl w.heap.size u5 l' rfl (ho'.alloc _) _ [UInt8.ofNat m] rfl (Sees.one _ _ _ ?_) (by simp; omega) (by simp; omega) ?_; rotate_left; intro v' w2 ho2 hg2)
   ·rw [Exit.noGoto_ret]
    go_ret
    refine gives rfl ?_ ((hk'.alloc _).grown hg2 (fun k hk hl => by have := ho'.block k hk; omega))
    rw [← H.out, form_lt h0]
    exact ho2
   ·exact byte_last h0
  ·have hz : ((m : Int) / 128 == 0) = false := by simp; omega
   go_wp2_with (at_builtin; refine wpList_append_sees rfl _ _ rfl w.heap.size u5 l' rfl (ho'.alloc _) _ [UInt8.ofNat (128 + m % 128)] rfl (Sees.one _ _ _ ?_) (by simp; omega) (by simp; omega) ?_; rotate_left; intro v' w2 ho2 hg2)
   ·go_roundw
    case rel => exact ⟨m / 128, _, by go_num, by omega, ho2, (hk'.alloc _).grown hg2 (fun k hk hl => by have := ho'.block k hk; omega), by have h1 := form_ge (n := m) (by omega); rw [← H.out, h1]; simp⟩
    case measure => simp [intOf]; omega
   ·exact byte_more m
theorem ret_int {k : IntKind} {a b : Int} (h : a = b) : Ending.returned (.int k a) = .returned (.int k b) := by rw [h]
theorem bytes_any (v u : Value) (l m : List UInt8) (w : World) (h : Sees w v l) (hu : Sees w u m) (hl : l.length ≤ 1000000000) (hm : m.length ≤ 1000000000) :
  Calls Try.prog 43 #[v, u] w (Gives w (l ++ form m.length ++ m)) := by
 obtain ⟨p, c, rfl, h1, h2, h3, h4⟩ := id hu
 clear h2 h3 h4 h1
 have h10 := form_le10 (n := m.length) (by omega)
 go_enter Try.func43, Try.ntmps43
 go_wp2_with (first | (go_at_call 42; refine (num_any v l _ w h hl (by omega)).mono ?_; rintro e w1 ⟨p1, n1, c1, rfl, ho, hk⟩) |
  (at_builtin; refine wpList_append_sees rfl _ _ rfl w.heap.size (.slice p1 n1 c1) _ rfl ho _ m rfl (hu.old hk) (by simp; omega) hk.size ?_; intro v' w2 ho2 hg2))
 go_ret
 exact gives rfl ho2 (hk.grown hg2 (fun k hk hl => by have := ho.block k hk; omega))
set_option maxRecDepth 100000 in
set_option maxHeartbeats 400000 in
theorem ref_form_any (n : Nat) (w : World) (hn : n < 18446744073709551616) :
  Calls Try.prog 56 #[.int .u64 n] w (Gives w (form n)) := by
 go_enter Try.func56, Try.ntmps56
 go_wp2_with fail
 go_loopw [0, 3] (fun v1 v5 wr => ∃ m l', v1 = .int .u64 (m : Nat) ∧ m < 18446744073709551616 ∧ Owns wr w.heap.size v5 l' ∧ Old w wr ∧ l' ++ form m = form n) (fun v1 _ _ => (intOf v1).toNat)
 case atStart => exact ⟨n, [], rfl, hn, Owns.nil _ _, Keeps.refl _ _, rfl⟩
 case round =>
  obtain ⟨m, l', rfl, hm, ho', hk', he⟩ := hrel
  have hlen : l'.length ≤ 1000000010 := by
   have := congrArg List.length he
   simp only [List.length_append] at this
   have := form_le10 hn
   omega
  have H := Lib.hid he
  clear he
  have hs := hk'.size
  by_cases h0 : m < 128
  ·go_wp2_with (at_builtin; refine wpList_append_sees rfl _ _ rfl w.heap.size u3 l' rfl (ho'.alloc _) _ [UInt8.ofNat m] rfl (Sees.one _ _ _ ?_) (by simp; omega) (by simp; omega) ?_; rotate_left; intro v' w2 ho2 hg2)
   ·go_ret
    refine gives rfl ?_ ((hk'.alloc _).grown hg2 (fun k hk hl => by have := ho'.block k hk; omega))
    rw [← H.out, form_lt h0]
    exact ho2
   ·exact byte_low h0
  ·go_wp2_with (at_builtin; refine wpList_append_sees rfl _ _ rfl w.heap.size u3 l' rfl (ho'.alloc _) _ [UInt8.ofNat (128 + m % 128)] rfl (Sees.one _ _ _ ?_) (by simp; omega) (by simp; omega) ?_; rotate_left; intro v' w2 ho2 hg2)
   ·go_roundw
    case rel => exact ⟨m / 128, _, by go_num, by omega, ho2, (hk'.alloc _).grown hg2 (fun k hk hl => by have := ho'.block k hk; omega), by have h1 := form_ge (n := m) (by omega); rw [← H.out, h1]; simp⟩
    case measure => simp [intOf]; omega
   ·exact byte_high m
theorem ref_num_any (v : Value) (l : List UInt8) (n : Nat) (w : World) (h : Sees w v l) (hl : l.length ≤ 1000000000) (hn : n < 18446744073709551616) :
  Calls Try.prog 50 #[v, .int .u64 n] w (Gives w (l ++ form n)) := by
 have h10 := form_le10 hn
 go_enter Try.func50, Try.ntmps50
 go_wp2_with (first | (go_at_call 35; refine (own_any v l w h hl).mono ?_; rintro e w1 ⟨p1, n1, c1, rfl, ho, hk⟩) |
  (go_at_call 56; refine (ref_form_any n w1 hn).mono ?_; rintro e w2 ⟨p2, n2, c2, rfl, ho2, hk2⟩) |
  (at_builtin; refine wpList_append_sees rfl _ _ rfl w.heap.size (.slice p1 n1 c1) _ rfl (ho.old hk2) _ (form n) rfl ho2.sees (by omega) (Nat.le_trans hk.size hk2.size) ?_; intro v' w3 ho3 hg3))
 go_ret
 exact gives rfl ho3 ((hk.trans hk2).grown hg3 (fun k hk hl => by have := ho.block k hk; omega))
theorem ref_bytes_any (v u : Value) (l m : List UInt8) (w : World) (h : Sees w v l) (hu : Sees w u m) (hl : l.length ≤ 1000000000) (hm : m.length ≤ 1000000000) :
  Calls Try.prog 51 #[v, u] w (Gives w (l ++ form m.length ++ m)) := by
 obtain ⟨p, c, rfl, h1, h2, h3, h4⟩ := id hu
 clear h2 h3 h4 h1
 have h10 := form_le10 (n := m.length) (by omega)
 go_enter Try.func51, Try.ntmps51
 go_wp2_with (first | (go_at_call 50; refine (ref_num_any v l _ w h hl (by omega)).mono ?_; rintro e w1 ⟨p1, n1, c1, rfl, ho, hk⟩) |
  (at_builtin; refine wpList_append_sees rfl _ _ rfl w.heap.size (.slice p1 n1 c1) _ rfl ho _ m rfl (hu.old hk) (by simp; omega) hk.size ?_; intro v' w2 ho2 hg2))
 go_ret
 exact gives rfl ho2 (hk.grown hg2 (fun k hk hl => by have := ho.block k hk; omega))
end Go.Proofs.Ytllnlimbfoingaa

namespace Go.Proofs.Ytllnlimbfoingaa
open Go.RowKit
/-- a reader of package wire at block rb; its bytes lie in block bb -/
def Rd (w : World) (B rb bb : Nat) (l : List UInt8) : Prop := B ≤ w.heap.size ∧
 ∃ v, w.heap[rb]? = some (.cells #[v, .bool true] 117 (0, 0)) ∧ Sees w v l ∧ l.length ≤ 1000000000 ∧ (∀ k, v.ownBlock = some k → k = bb ∧ k < B) ∧ bb ≠ rb

theorem new_any (v : Value) (l : List UInt8) (w : World) (h : Sees w v l) (hl : l.length ≤ 1000000000) :
  Calls Try.prog 44 #[v] w fun e w' => ∃ rb bb, e = .returned (.pointer (some ⟨rb, 0, none⟩)) ∧ Rd w' w'.heap.size rb bb l ∧ w.heap.size ≤ rb ∧ w.heap.size ≤ bb ∧ Old w w' := by
 go_enter Try.func44, Try.ntmps44
 go_wp2_with (go_at_call 37; refine (bytes_clone_any v l w h hl).mono ?_; rintro e w1 ⟨p1, n1, c1, rfl, ho, hk⟩)
 go_ret
 have hb : ∀ k, (Value.slice p1 n1 c1).ownBlock = some k → w.heap.size ≤ k ∧ k < w1.heap.size := ho.block
 by_cases hp : p1 = none
 ·subst hp
  exact ⟨_, w1.heap.size + 1, rfl, ⟨Nat.le_refl _, _, heap_alloc_new _ _, ho.sees.alloc _, hl, fun k hk => by simp [Value.ownBlock] at hk, by omega⟩, hk.size, by have := hk.size; omega, hk.alloc _⟩
 ·obtain ⟨a, rfl⟩ := Option.ne_none_iff_exists'.1 hp
  have h2 := hb a.block rfl
  exact ⟨_, a.block, rfl, ⟨Nat.le_refl _, _, heap_alloc_new _ _, ho.sees.alloc _, hl, fun k hk => by simp [Value.ownBlock] at hk; subst hk; exact ⟨rfl, by simp; omega⟩, by omega⟩, hk.size, h2.1, hk.alloc _⟩

theorem Rd.cells {w : World} {B rb bb : Nat} {l : List UInt8} (h : Rd w B rb bb l) : ∃ p c, w.cell? ⟨rb, 0, none⟩ = some (.slice p l.length c) ∧ w.cell? ⟨rb, 1, none⟩ = some (.bool true) ∧ w.frozen? ⟨rb, 0, none⟩ = false ∧ Sees w (.slice p l.length c) l ∧ l.length ≤ 1000000000 ∧ (∀ k, (Value.slice p l.length c).ownBlock = some k → k = bb ∧ k < B) ∧ bb ≠ rb := by
 obtain ⟨_, v, h1, h2, h3, h4, h5⟩ := h
 obtain ⟨p, c, rfl, _, _⟩ := h2.len
 exact ⟨p, c, by simp [World.cell?, h1], by simp [World.cell?, h1], by simp [World.frozen?, h1], h2, h3, h4, h5⟩

theorem end_any (B rb bb : Nat) (l : List UInt8) (w : World) (h : Rd w B rb bb l) :
  Calls Try.prog 47 #[.pointer (some ⟨rb, 0, none⟩)] w fun e w' => e = .returned (.int .i64 (if l = [] then 0 else 3)) ∧ w = w' := by
 obtain ⟨p, c, h1, h2, h3, h4, h5, h6, h7⟩ := h.cells
 by_cases h0 : l = []
 ·subst h0
  go_enter Try.func47, Try.ntmps47
  go_wp2_with fail
  go_ret
  exact ⟨rfl, rfl⟩
 ·have hp : 0 < l.length := List.length_pos_iff.2 h0
  go_enter Try.func47, Try.ntmps47
  go_wp2_with fail
  go_ret
  exact ⟨rfl, rfl⟩

/-- the deferred step: behind an error the old bytes are put back -/
theorem keep_ok (rp v : Value) (eb : Nat) (u : FrameMode) (w : World) (he : w.cell? ⟨eb, 0, none⟩ = some (.int .i64 0)) :
  CallsD Try.prog 55 #[rp, v, .pointer (some ⟨eb, 0, none⟩)] u w fun e u' w' => u' = u ∧ (e = .returned (.tuple #[]) ∧ w' = w) := by
 go_enter_d Try.func55, Try.ntmps55
 go_wp2_with fail
 go_end0
 exact ⟨rfl, rfl⟩
theorem keep_bad (rb : Nat) (v : Value) (eb : Nat) (n : Int) (hn : (n != 0) = true) (u : FrameMode) (w : World) (he : w.cell? ⟨eb, 0, none⟩ = some (.int .i64 n)) (old : Value) (hr : w.cell? ⟨rb, 0, none⟩ = some old) (hf : w.frozen? ⟨rb, 0, none⟩ = false)
  (p : Option Addr) (m c : Nat) (hv : v = .slice p m c) :
  CallsD Try.prog 55 #[.pointer (some ⟨rb, 0, none⟩), v, .pointer (some ⟨eb, 0, none⟩)] u w fun e u' w' => u' = u ∧ (e = .returned (.tuple #[]) ∧ w' = w.setCell ⟨rb, 0, none⟩ v) := by
 subst hv
 go_enter_d Try.func55, Try.ntmps55
 go_wp2_with fail
 go_end0
 exact ⟨rfl, rfl⟩
end Go.Proofs.Ytllnlimbfoingaa
