/- DERIVED. Slices whose elements take several cells: how they read. -/
import Derived.Test.YtpehpidlcdfhcaaQo
namespace Go.Proofs.Ytpehpidlcdfhcaa
open Go.RowKit

/-- the slice value v reads as the things l, each of k cells -/
def SeesR {α : Type} (w : World) (k : Nat) (enc : α → List Value) (v : Value) (l : List α) : Prop :=
  ∃ p c, v = .slice p l.length c ∧ l.length ≤ c ∧ c ≤ maxLen ∧ (p = none → c = 0) ∧
    ∀ a, p = some a → (0 < c → a.spot = none) ∧ ∀ j x, l[j]? = some x → ∀ i u, (enc x)[i]? = some u → w.cell? (a.add (j * k + i)) = some u

variable {α : Type} {w w' : World} {k : Nat} {enc : α → List Value} {v : Value} {l : List α}

theorem block_add (a : Addr) (j : Nat) : (a.add j).block = a.block := by unfold Addr.add; split <;> rfl
theorem SeesR.nil (w : World) : SeesR w k enc (.slice none 0 0) [] := ⟨none, 0, rfl, Nat.le_refl _, Nat.zero_le _, fun _ => rfl, fun _ h => by cases h⟩
theorem SeesR.keeps {S : Nat → Prop} (h : SeesR w k enc v l) (hk : Keeps S w w') (hS : ∀ b, v.ownBlock = some b → ¬ S b) : SeesR w' k enc v l := by
  obtain ⟨p, c, rfl, h1, h2, h3, h4⟩ := h
  refine ⟨p, c, rfl, h1, h2, h3, fun a ha => ⟨(h4 a ha).1, fun j x hj i u hu => ?_⟩⟩
  refine hk.cell ((h4 a ha).2 j x hj i u hu) ?_
  rw [block_add]
  exact hS _ (by subst ha; rfl)
theorem SeesR.old (h : SeesR w k enc v l) (hk : Old w w') : SeesR w' k enc v l := h.keeps hk (fun _ _ f => f)
theorem SeesR.alloc (h : SeesR w k enc v l) (o : Obj) : SeesR (w.alloc o) k enc v l := h.old ((Keeps.refl _ _).alloc o)
theorem SeesR.drew (h : SeesR w k enc v l) : SeesR w.drew k enc v l := h
theorem SeesR.len (h : SeesR w k enc v l) : ∃ p c, v = .slice p l.length c ∧ l.length ≤ c ∧ c ≤ maxLen := by
  obtain ⟨p, c, h0, h1, h2, _⟩ := h; exact ⟨p, c, h0, h1, h2⟩
/-- the cells of a slice that is not empty -/
theorem SeesR.at (h : SeesR w k enc v l) (hl : 0 < l.length) : ∃ b o c, v = .slice (some ⟨b, o, none⟩) l.length c ∧ l.length ≤ c ∧ c ≤ maxLen ∧
    ∀ j x, l[j]? = some x → ∀ i u, (enc x)[i]? = some u → w.cell? ⟨b, o + j * k + i, none⟩ = some u := by
  obtain ⟨p, c, rfl, h1, h2, h3, h4⟩ := h
  cases p with
  | none => have := h3 rfl; omega
  | some a =>
    obtain ⟨b, o, s⟩ := a
    obtain ⟨hs, hc⟩ := h4 _ rfl
    obtain rfl : s = none := hs (by omega)
    refine ⟨b, o, c, rfl, h1, h2, fun j x hj i u hu => ?_⟩
    have := hc j x hj i u hu
    rwa [show (⟨b, o, none⟩ : Addr).add (j * k + i) = ⟨b, o + j * k + i, none⟩ from by unfold Addr.add; split <;> simp_all <;> omega] at this
theorem SeesR.at0 (h : SeesR w k enc v l) (hl : l.length = 0) : l = [] ∧ ∃ p c, v = .slice p 0 c := by
  obtain ⟨p, c, rfl, _⟩ := h.len
  exact ⟨List.eq_nil_of_length_eq_zero hl, p, c, by rw [hl]⟩

/-- x[lo:hi] -/
theorem SeesR.sliced {p : Option Addr} {c : Nat} (h : SeesR w k enc (.slice p l.length c) l) (lo hi : Nat) (h1 : lo ≤ hi) (h2 : hi ≤ l.length) :
    SeesR w k enc (Go.sliced p lo hi c k) ((l.take hi).drop lo) ∧ ∀ b, (Go.sliced p lo hi c k).ownBlock = some b → (Value.slice p l.length c).ownBlock = some b := by
  obtain ⟨p', c', he, hc1, hc2, hc3, hc4⟩ := h
  simp only [Value.slice.injEq, true_and] at he
  obtain ⟨rfl, rfl⟩ := he
  have hlen : ((l.take hi).drop lo).length = hi - lo := by simp; omega
  unfold Go.sliced
  refine ⟨⟨_, c - lo, by rw [hlen], by rw [hlen]; omega, by omega, ?_, ?_⟩, ?_⟩
  · intro hn
    split at hn
    · have := hc3 hn; omega
    · cases p with
      | none => have := hc3 rfl; omega
      | some a => simp at hn
  · intro a ha
    split at ha
    · rename_i e
      subst ha
      refine ⟨fun h => by omega, fun j x hj => ?_⟩
      have hz : ((l.take hi).drop lo).length = 0 := by rw [hlen]; omega
      rw [List.length_eq_zero_iff.1 hz] at hj
      cases hj
    · cases p with
      | none => simp at ha
      | some a' =>
        simp only [Option.map_some, Option.some.injEq] at ha
        subst ha
        obtain ⟨hs, hc⟩ := hc4 a' rfl
        obtain ⟨b', o', s'⟩ := a'
        rename_i hcl
        obtain rfl : s' = none := hs (by omega)
        refine ⟨fun _ => by unfold Addr.add; split <;> rfl, fun j x hj i u hu => ?_⟩
        have hj' : l[lo + j]? = some x := by
          rw [List.getElem?_drop, List.getElem?_take] at hj
          split at hj
          · exact hj
          · cases hj
        have := hc (lo + j) x hj' i u hu
        rw [← this]
        congr 1
        have e : (lo + j) * k + i = lo * k + (j * k + i) := by rw [Nat.add_mul]; omega
        rw [e]
        unfold Addr.add
        split <;> split <;> split <;> simp_all <;> omega
  · intro b hb
    simp only [Value.ownBlock] at hb ⊢
    split at hb
    · rename_i a _ _ heq
      simp only [Value.slice.injEq] at heq
      obtain ⟨heq, _, _⟩ := heq
      split at heq
      · subst heq; exact hb
      · cases p with
        | none => simp at heq
        | some a' =>
          simp only [Option.map_some, Option.some.injEq] at heq
          subst heq
          simp only [Option.some.injEq] at hb ⊢
          rw [← hb]
          unfold Addr.add
          split <;> rfl
    · cases hb

theorem flat_at (hk : ∀ x, (enc x).length = k) : ∀ (l : List α) (j : Nat) (x : α), l[j]? = some x → ∀ i, i < k → (l.flatMap enc)[j * k + i]? = (enc x)[i]?
  | [], j, x, h => by simp at h
  | y :: r, 0, x, h => by
    intro i hi
    simp only [List.getElem?_cons_zero, Option.some.injEq] at h
    subst h
    rw [List.flatMap_cons, Nat.zero_mul, Nat.zero_add, List.getElem?_append_left (by rw [hk]; exact hi)]
  | y :: r, j + 1, x, h => by
    intro i hi
    simp only [List.getElem?_cons_succ] at h
    have ih := flat_at hk r j x h i hi
    rw [List.flatMap_cons, List.getElem?_append_right (by rw [hk, Nat.succ_mul]; omega), hk]
    rw [show (j + 1) * k + i - k = j * k + i from by rw [Nat.succ_mul]; omega]
    exact ih
theorem flat_at' {k : Nat} {enc : α → List Value} {l : List α} (hk : ∀ x ∈ l, (enc x).length = k) : ∀ (j : Nat) (x : α), l[j]? = some x → ∀ i, i < k → (l.flatMap enc)[j * k + i]? = (enc x)[i]? := by
  induction l with
  | nil => intro j x h; simp at h
  | cons y r ih =>
    intro j x h i hi
    rw [List.flatMap_cons]
    rcases j with _ | j
    · simp only [List.getElem?_cons_zero, Option.some.injEq] at h
      subst h
      rw [Nat.zero_mul, Nat.zero_add, List.getElem?_append_left (by rw [hk y (by simp)]; exact hi)]
    · simp only [List.getElem?_cons_succ] at h
      rw [List.getElem?_append_right (by rw [hk y (by simp), Nat.succ_mul]; omega), hk y (by simp), show (j + 1) * k + i - k = j * k + i from by rw [Nat.succ_mul]; omega]
      exact ih (fun z hz => hk z (by simp [hz])) j x h i hi
/-- a new block of rows -/
theorem SeesR.new (w : World) (t : TypeId) (fr : Nat × Nat) (l : List α) (cs : Array Value) (hcs : cs.toList = l.flatMap enc) (hk : ∀ x, (enc x).length = k) (hm : l.length ≤ maxLen) :
    SeesR (w.alloc (.cells cs t fr)) k enc (.slice (some ⟨w.heap.size, 0, none⟩) l.length l.length) l := by
  refine ⟨_, _, rfl, Nat.le_refl _, hm, fun h => (by cases h), fun a ha => ?_⟩
  cases ha
  refine ⟨fun _ => rfl, fun j x hj i u hu => ?_⟩
  have hi : i < k := by rw [← hk x]; exact (List.getElem?_eq_some_iff.1 hu).1
  rw [show (⟨w.heap.size, 0, none⟩ : Addr).add (j * k + i) = ⟨w.heap.size, j * k + i, none⟩ from by unfold Addr.add; split <;> simp_all]
  rw [World.cell?_alloc_mark]
  rw [← Array.getElem?_toList, hcs, flat_at hk l j x hj i hi]
  exact hu
end Go.Proofs.Ytpehpidlcdfhcaa
