/- DERIVED. Plain: which tail stays. -/
import Derived.Test.YtpehpidlcdfhcaaAl
namespace Go.Proofs.Ytpehpidlcdfhcaa
open Go.RowKit

theorem tailFrom_iff (p : Pol) (now : Nat) (l : List It) (i : Nat) : ∀ k, tailFrom p now l k ≤ i ↔ ∀ j, i ≤ j → j < k → badAt p now l j = false
  | 0 => by simp [tailFrom]
  | k + 1 => by
    rw [tailFrom]
    split
    · rename_i hb
      constructor
      · intro h j h1 h2; omega
      · intro h
        rcases Nat.lt_or_ge k i with h' | h'
        · omega
        · have := h k h' (by omega); rw [this] at hb; cases hb
    · rename_i hb
      rw [tailFrom_iff p now l i k]
      constructor
      · intro h j h1 h2
        rcases Nat.lt_or_ge j k with h' | h'
        · exact h j h1 h'
        · obtain rfl : j = k := by omega
          simpa using hb
      · intro h j h1 h2; exact h j h1 (by omega)
theorem sumFrom_mono {l : List It} : ∀ {i j : Nat}, i ≤ j → sumFrom l j ≤ sumFrom l i := by
  intro i j h
  induction h with
  | refl => exact Nat.le_refl _
  | @step m _ ih =>
    show sumFrom l (m + 1) ≤ sumFrom l i
    rcases Nat.lt_or_ge m l.length with h' | h'
    · have := sumFrom_succ (List.getElem?_eq_getElem h' : l[m]? = some l[m]); omega
    · have e : sumFrom l (m + 1) = 0 := by unfold sumFrom; rw [List.drop_of_length_le (show l.length ≤ m + 1 from by omega)]; rfl
      rw [e]; exact Nat.zero_le _
theorem sumN_drop (l : List It) (i : Nat) : sumN (l.drop i) = sumFrom l i := rfl

theorem allowedB_iff (p : Pol) (now : Nat) (l : List It) : allowedB p now l = true ↔ (∀ x ∈ l, bad1 p now x = false) ∧ (p.count = 0 ∨ (l.length : Int) ≤ p.count) ∧ (p.bytes = 0 ∨ (sumN l : Int) ≤ p.bytes) := by
  unfold allowedB; simp
/-- THE STAGE's LAW: a tail is allowed from its place on -/
theorem allowed_drop {p : Pol} (hp : p.ok = true) (now : Nat) (l : List It) (i : Nat) (hi : i ≤ l.length) : allowedB p now (l.drop i) = decide (tailN p now l ≤ i) := by
  obtain ⟨⟨a0, a1⟩, ⟨b0, b1⟩, c0, c1⟩ := pol_parts hp
  rw [Bool.eq_iff_iff, decide_eq_true_eq, tailN, tailFrom_iff]
  rw [allowedB_iff, sumN_drop, List.length_drop]
  constructor
  · rintro ⟨h1, h2, h3⟩ j hj hjl
    have hx : l[j]? = some l[j] := List.getElem?_eq_getElem hjl
    have hm : l[j] ∈ l.drop i := by
      rw [List.mem_iff_getElem?]
      exact ⟨j - i, by rw [List.getElem?_drop, show i + (j - i) = j from by omega, hx]⟩
    have hs := sumFrom_mono (l := l) hj
    unfold badAt
    rw [hx]
    simp only [h1 _ hm, Bool.false_or]
    unfold bad2 bad3
    simp
    omega
  · intro h
    refine ⟨fun x hx => ?_, ?_, ?_⟩
    · obtain ⟨j, hj⟩ := List.mem_iff_getElem?.1 hx
      rw [List.getElem?_drop] at hj
      have hjl := (List.getElem?_eq_some_iff.1 hj).1
      have := h (i + j) (by omega) hjl
      unfold badAt at this
      rw [hj] at this
      simp at this
      exact this.1
    · rcases Nat.lt_or_ge i l.length with h' | h'
      · have := h i (Nat.le_refl _) h'
        unfold badAt bad3 at this
        rw [List.getElem?_eq_getElem h'] at this
        simp at this
        omega
      · right; omega
    · rcases Nat.lt_or_ge i l.length with h' | h'
      · have := h i (Nat.le_refl _) h'
        unfold badAt bad2 at this
        rw [List.getElem?_eq_getElem h'] at this
        simp at this
        omega
      · right
        have e : sumFrom l i = 0 := by unfold sumFrom; rw [List.drop_of_length_le h']; rfl
        rw [e]; omega
theorem tail_again {p : Pol} (hp : p.ok = true) (now : Nat) (l : List It) : tailN p now (l.drop (tailN p now l)) = 0 := by
  have h := allowed_drop hp now l (tailN p now l) (tailN_le p now l)
  simp only [Nat.le_refl, decide_true] at h
  have h2 := allowed_drop hp now (l.drop (tailN p now l)) 0 (Nat.zero_le _)
  rw [List.drop_zero, h] at h2
  have := of_decide_eq_true h2.symm
  omega
end Go.Proofs.Ytpehpidlcdfhcaa
