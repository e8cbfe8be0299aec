/- DERIVED. Chapter 25, plain: brokers do not stand in each other's way. -/
import Derived.Test.YtiednihagnehlaaY24
namespace Go.Proofs.Ytiednihagnehlaa

def ofB (b : Int) (x : Int × PMs) : Bool := x.2.tb == b
/-- the queue of both, and that of broker b alone -/
theorem ap_any {b : Int} {l c : Nat} (P : List (Int × PMs)) : (P.filter (ofB b)).any (staleP b l c) = P.any (staleP b l c) := by
 rw [Bool.eq_iff_iff, List.any_eq_true, List.any_eq_true]
 constructor
 ·rintro ⟨x, hx, h⟩
  exact ⟨x, (List.mem_filter.1 hx).1, h⟩
 ·rintro ⟨x, hx, h⟩
  refine ⟨x, List.mem_filter.2 ⟨hx, ?_⟩, h⟩
  unfold staleP at h
  unfold ofB
  simp only [Bool.and_eq_true] at h
  exact h.1
theorem ap_comm {b d : Int} {l : Nat} (P : List (Int × PMs)) : (P.filter (ofB d)).filter (fun y => !dropP b l y) = (P.filter fun y => !dropP b l y).filter (ofB d) := by
 rw [List.filter_filter, List.filter_filter]
 apply List.filter_congr
 intro x _
 exact Bool.and_comm _ _
theorem ap_other {b d : Int} {l : Nat} (hd : d ≠ b) (P : List (Int × PMs)) : (P.filter fun y => !dropP b l y).filter (ofB d) = P.filter (ofB d) := by
 rw [List.filter_filter]
 apply List.filter_congr
 intro x _
 unfold ofB dropP
 by_cases h : x.2.tb = d
 ·have h2 : ¬ x.2.tb = b := fun e => hd (h.symm.trans e)
  simp [h, hd]
 ·simp [h]
/-- both queues take a query of broker b -/
theorem ap_add {b d : Int} {l c : Nat} {P : List (Int × PMs)} {k : Int} (hl : P.length < 200) (hd : d ≠ b) :
  (addP 200 P (k, pAsk b l c)).1 = (addP 200 (P.filter (ofB b)) (k, pAsk b l c)).1 ∧
  (addP 200 (P.filter (ofB b)) (k, pAsk b l c)).2 = (addP 200 P (k, pAsk b l c)).2.filter (ofB b) ∧
  P.filter (ofB d) = (addP 200 P (k, pAsk b l c)).2.filter (ofB d) ∧ (addP 200 P (k, pAsk b l c)).2.length ≤ P.length + 1 := by
 have h1 : (P.filter fun y => !dropP b l y).length ≤ P.length := List.length_filter_le _ _
 have h2 : ((P.filter fun y => !dropP b l y).filter (ofB b)).length ≤ (P.filter fun y => !dropP b l y).length := List.length_filter_le _ _
 have d1 : decide (200 ≤ (P.filter fun y => !dropP b l y).length) = false := by simp; omega
 have d2 : decide (200 ≤ ((P.filter fun y => !dropP b l y).filter (ofB b)).length) = false := decide_eq_false (by omega)
 rw [addP_ask, addP_ask, ap_any, ap_comm]
 cases hm : (decide (0 ≤ b) && (decide (b < 64) && (numOk l && numOk c)))
 ·exact ⟨rfl, rfl, rfl, by simp⟩
 cases hs : P.any (staleP b l c)
 case true => exact ⟨rfl, rfl, rfl, by simp⟩
 rw [if_pos rfl, if_neg (by simp), if_neg (by rw [d1]; simp), if_pos rfl, if_neg (by simp), if_neg (by rw [d2]; simp)]
 have e1 : ofB b (k, pAsk b l c) = true := by unfold ofB; exact beq_self_eq_true b
 have e2 : ofB d (k, pAsk b l c) = false := by unfold ofB; exact beq_eq_false_iff_ne.2 (fun e => hd e.symm)
 refine ⟨rfl, ?_, ?_, by simp; omega⟩
 ·simp only [List.filter_append, List.filter_cons, List.filter_nil, e1]
  rfl
 ·simp only [List.filter_append, List.filter_cons, List.filter_nil, e2]
  simp [ap_other hd]
/-- of two brokers alone -/
theorem ap_len (P : List (Int × PMs)) (h : ∀ x ∈ P, x.2.tb = 0 ∨ x.2.tb = 1) : P.length = (P.filter (ofB 0)).length + (P.filter (ofB 1)).length := by
 induction P with
 | nil => rfl
 | cons x r ih =>
  have := ih (fun y hy => h y (List.mem_cons_of_mem _ hy))
  rcases h x (List.mem_cons_self ..) with e | e
  ·have e0 : ofB 0 x = true := by unfold ofB; simp [e]
   have e1 : ofB 1 x = false := by unfold ofB; simp [e]
   simp only [List.filter_cons, e0, e1, List.length_cons]
   simp
   omega
  ·have e0 : ofB 0 x = false := by unfold ofB; simp [e]
   have e1 : ofB 1 x = true := by unfold ofB; simp [e]
   simp only [List.filter_cons, e0, e1, List.length_cons]
   simp
   omega
theorem ap_mem {b : Int} {l c : Nat} {P : List (Int × PMs)} {k : Int} (hb : b = 0 ∨ b = 1) (h : ∀ x ∈ P, x.2.tb = 0 ∨ x.2.tb = 1) : ∀ x ∈ (addP 200 P (k, pAsk b l c)).2, x.2.tb = 0 ∨ x.2.tb = 1 := by
 rw [addP_ask]
 intro x hx
 split at hx
 ·split at hx
  ·exact h x hx
  ·split at hx
   ·exact h x (List.mem_filter.1 hx).1
   ·rcases List.mem_append.1 hx with hx | hx
    ·exact h x (List.mem_filter.1 hx).1
    ·obtain rfl : x = (k, pAsk b l c) := by simpa using hx
     exact hb
 ·exact h x hx
end Go.Proofs.Ytiednihagnehlaa
