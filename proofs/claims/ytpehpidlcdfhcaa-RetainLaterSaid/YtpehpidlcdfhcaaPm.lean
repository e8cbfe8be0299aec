/- DERIVED. Plain: what a policy asks for holds by itself; time, a stricter policy, a further item only take away. -/
import Derived.Test.YtpehpidlcdfhcaaPl
namespace Go.Proofs.Ytpehpidlcdfhcaa
open Go.RowKit

theorem tailN_iff (p : Pol) (now : Nat) (l : List It) (i : Nat) : tailN p now l ≤ i ↔ ∀ j, i ≤ j → j < l.length → badAt p now l j = false := tailFrom_iff p now l i l.length
theorem eq_of_le_iff {a b : Nat} (h : ∀ i, a ≤ i ↔ b ≤ i) : a = b := by
  have h1 := (h a).1 (Nat.le_refl _)
  have h2 := (h b).2 (Nat.le_refl _)
  omega
theorem limOk0 : limOk 0 = true := by decide
theorem each_bad {p : Pol} (h : p.ok = false) : ((Pol.mk p.age 0 0).ok && ((Pol.mk 0 p.bytes 0).ok && (Pol.mk 0 0 p.count).ok)) = false := by
  unfold Pol.ok at *
  simp only [limOk0, Bool.true_and, Bool.and_true]
  exact h
theorem each_ok {p : Pol} (h : p.ok = true) : (Pol.mk p.age 0 0).ok = true ∧ (Pol.mk 0 p.bytes 0).ok = true ∧ (Pol.mk 0 0 p.count).ok = true ∧ (Pol.mk 0 0 0).ok = true := by
  unfold Pol.ok at *
  simp only [limOk0, Bool.true_and, Bool.and_true]
  simp only [Bool.and_eq_true] at h
  exact ⟨h.1, h.2.1, h.2.2, trivial⟩
theorem bad_parts (p : Pol) (now : Nat) (l : List It) (j : Nat) : badAt p now l j = (badAt ⟨p.age, 0, 0⟩ now l j || (badAt ⟨0, p.bytes, 0⟩ now l j || badAt ⟨0, 0, p.count⟩ now l j)) := by
  unfold badAt
  cases l[j]? with
  | none => rfl
  | some x => simp [bad1, bad2, bad3]
theorem each_max {p : Pol} (_ : p.ok = true) (now : Nat) (l : List It) : tailN p now l = max (tailN ⟨p.age, 0, 0⟩ now l) (max (tailN ⟨0, p.bytes, 0⟩ now l) (tailN ⟨0, 0, p.count⟩ now l)) := by
  refine eq_of_le_iff fun i => ?_
  rw [Nat.max_le, Nat.max_le, tailN_iff, tailN_iff, tailN_iff, tailN_iff]
  simp only [bad_parts p, Bool.or_eq_false_iff]
  constructor
  · intro h; exact ⟨fun j a b => (h j a b).1, fun j a b => (h j a b).2.1, fun j a b => (h j a b).2.2⟩
  · rintro ⟨h1, h2, h3⟩ j a b; exact ⟨h1 j a b, h2 j a b, h3 j a b⟩
theorem each_none (now : Nat) (l : List It) : tailN ⟨0, 0, 0⟩ now l = 0 := by
  have : tailN ⟨0, 0, 0⟩ now l ≤ 0 := by
    rw [tailN_iff]
    intro j _ _
    unfold badAt
    cases l[j]? with
    | none => rfl
    | some x => simp [bad1, bad2, bad3]
  omega
theorem age_mono {t a b : Nat} (h : a ≤ b) : ageN t a ≤ ageN t b := by unfold ageN; split <;> split <;> omega
theorem later_time (p : Pol) {a b : Nat} (h : a ≤ b) (l : List It) : tailN p a l ≤ tailN p b l := by
  rw [tailN_iff]
  intro j h1 h2
  have := (tailN_iff p b l _).1 (Nat.le_refl _) j h1 h2
  unfold badAt at *
  cases hx : l[j]? with
  | none => rfl
  | some x =>
    rw [hx] at this
    simp only [Bool.or_eq_false_iff] at this ⊢
    refine ⟨?_, this.2⟩
    have h1 := this.1
    have hm := age_mono (t := x.time) h
    unfold bad1 at *
    simp at h1 ⊢
    omega
/-- the stricter one of two limits -/
def strictZ (q s : Int) : Int := if 0 < q ∧ (s = 0 ∨ q < s) then q else s
def strictP (q p : Pol) : Pol := ⟨strictZ q.age p.age, strictZ q.bytes p.bytes, strictZ q.count p.count⟩
theorem strict_ok {p q : Pol} (hp : p.ok = true) (hq : q.ok = true) : (strictP q p).ok = true := by
  have h1 := pol_parts hp
  have h2 := pol_parts hq
  unfold strictP strictZ Pol.ok limOk
  simp
  refine ⟨?_, ?_, ?_⟩ <;> split <;> omega
theorem strict_bad {q s : Int} (hq : 0 ≤ q) (hs : 0 ≤ s) (z : Int) : (0 < strictZ q s ∧ strictZ q s < z) ↔ (0 < q ∧ q < z) ∨ (0 < s ∧ s < z) := by
  unfold strictZ; split <;> omega
theorem bad1_iff (p : Pol) (now : Nat) (x : It) : bad1 p now x = true ↔ (0 < p.age ∧ p.age < (ageN x.time now : Int)) := by unfold bad1; simp
theorem bad2_iff (p : Pol) (y : Nat) : bad2 p y = true ↔ (0 < p.bytes ∧ p.bytes < (y : Int)) := by unfold bad2; simp
theorem bad3_iff (p : Pol) (c : Nat) : bad3 p c = true ↔ (0 < p.count ∧ p.count < (c : Int)) := by unfold bad3; simp
theorem later_strict {p q : Pol} (hp : p.ok = true) (hq : q.ok = true) (now : Nat) (l : List It) : tailN (strictP q p) now l = max (tailN p now l) (tailN q now l) := by
  obtain ⟨⟨a0, _⟩, ⟨b0, _⟩, c0, _⟩ := pol_parts hp
  obtain ⟨⟨a1, _⟩, ⟨b1, _⟩, c1, _⟩ := pol_parts hq
  have hbad : ∀ j, badAt (strictP q p) now l j = (badAt p now l j || badAt q now l j) := by
    intro j
    unfold badAt
    cases l[j]? with
    | none => rfl
    | some x =>
      have e1 := strict_bad a1 a0 (ageN x.time now : Int)
      have e2 := strict_bad b1 b0 (sumFrom l j : Int)
      have e3 := strict_bad c1 c0 ((l.length - j : Nat) : Int)
      rw [Bool.eq_iff_iff]
      simp only [Bool.or_eq_true, bad1_iff, bad2_iff, bad3_iff]
      unfold strictP
      simp only
      rw [e1, e2, e3]
      constructor
      · rintro ((h | h) | (h | h) | (h | h)) <;> simp [h]
      · rintro ((h | h | h) | (h | h | h)) <;> simp [h]
  refine eq_of_le_iff fun i => ?_
  rw [Nat.max_le, tailN_iff, tailN_iff, tailN_iff]
  simp only [hbad, Bool.or_eq_false_iff]
  constructor
  · intro h; exact ⟨fun j a b => (h j a b).1, fun j a b => (h j a b).2⟩
  · rintro ⟨h1, h2⟩ j a b; exact ⟨h1 j a b, h2 j a b⟩
theorem sumFrom_snoc (l : List It) (x : It) {j : Nat} (hj : j ≤ l.length) : sumFrom l j ≤ sumFrom (l ++ [x]) j := by
  unfold sumFrom
  rw [List.drop_append_of_le_length hj]
  simp
theorem later_more (p : Pol) (now : Nat) (l : List It) (x : It) : tailN p now l ≤ tailN p now (l ++ [x]) := by
  rw [tailN_iff]
  intro j h1 h2
  have h3 := (tailN_iff p now (l ++ [x]) _).1 (Nat.le_refl _) j h1 (by simp; omega)
  have hs := sumFrom_snoc l x (j := j) (by omega)
  have hx : (l ++ [x])[j]? = l[j]? := List.getElem?_append_left h2
  unfold badAt at *
  rw [hx] at h3
  cases hy : l[j]? with
  | none => rfl
  | some y =>
    rw [hy] at h3
    simp only [Bool.or_eq_false_iff] at h3 ⊢
    obtain ⟨g1, g2, g3⟩ := h3
    refine ⟨g1, ?_, ?_⟩
    · unfold bad2 at *; simp at g2 ⊢; omega
    · unfold bad3 at *; simp at g3 ⊢; omega
end Go.Proofs.Ytpehpidlcdfhcaa
