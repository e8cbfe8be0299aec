/- DERIVED. Contracts of the small functions on byte slices. No project text. -/
import Derived.Test.YtplcnceacbpjhaaBase
namespace Go.Proofs.Ytplcnceacbpjhaa
open Go.RowKit

/-- a call hands back a slice of its own that reads as l; nothing that was there has turned -/
def Gives (w : World) (l : List UInt8) (e : Ending) (w' : World) : Prop := ∃ p n c, e = .returned (.slice p n c) ∧ Owns w' w.heap.size (.slice p n c) l ∧ Old w w'
theorem gives {w w' : World} {l : List UInt8} {e : Ending} {v : Value} (he : e = .returned v) (ho : Owns w' w.heap.size v l) (hk : Old w w') : Gives w l e w' := by
  obtain ⟨p, c, rfl, _, _⟩ := ho.sees.len
  exact ⟨p, _, c, he, ho, hk⟩

theorem own_any (v : Value) (l : List UInt8) (w : World) (h : Sees w v l) (hl : l.length ≤ 1000000000) :
    Calls Try.prog 8 #[v] w (Gives w l) := by
  go_enter Try.func8, Try.ntmps8
  go_wp2_with (at_builtin; refine wpList_append_sees rfl _ _ rfl w.heap.size (.slice none 0 0) [] rfl (Owns.nil _ _) _ l rfl h (by simp; omega) (Nat.le_refl _) ?_; intro v' w1 ho hg)
  go_ret
  exact gives rfl ho ( (Keeps.refl _ _).grown hg (fun k hk => by simp [Value.ownBlock] at hk))

/-- slices.Clone of bytes -/
theorem clone_any (v : Value) (l : List UInt8) (w : World) (h : Sees w v l) (hl : l.length ≤ 1000000000) :
    Calls Try.prog 29 #[v] w (Gives w l) := by
  obtain ⟨p, c, rfl, h1, h2, h3, h4⟩ := id h
  have hnil := eql_nil
  cases p with
  | none =>
    obtain rfl := h3 rfl
    obtain rfl : l = [] := List.eq_nil_of_length_eq_zero (by omega)
    go_enter Try.func29, Try.ntmps29
    go_wp2_with fail
    go_ret
    exact gives rfl (Owns.nil _ _) (Keeps.refl _ _)
  | some ad =>
    clear h3 h4
    go_enter Try.func29, Try.ntmps29
    go_wp2_with (at_builtin; refine wpList_append_sees rfl _ _ rfl w.heap.size (.slice (some ⟨w.heap.size, 0, none⟩) 0 0) [] rfl (Owns.lit w w.heap.size [] (Nat.le_refl _) (Nat.zero_le _)) _ l rfl (h.alloc _) (by simp; omega) (by simp) ?_; intro v' w1 ho hg)
    go_ret
    exact gives rfl ho ( ((Keeps.refl _ _).alloc _).grown hg (fun k hk => by simp [Value.ownBlock] at hk; omega))

theorem bytes_clone_any (v : Value) (l : List UInt8) (w : World) (h : Sees w v l) (hl : l.length ≤ 1000000000) :
    Calls Try.prog 33 #[v] w (Gives w l) := by
  obtain ⟨p, c, rfl, h1, h2, h3, h4⟩ := id h
  have hnil := eql_nil
  cases p with
  | none =>
    obtain rfl := h3 rfl
    obtain rfl : l = [] := List.eq_nil_of_length_eq_zero (by omega)
    go_enter Try.func33, Try.ntmps33
    go_wp2_with fail
    go_ret
    exact gives rfl (Owns.nil _ _) (Keeps.refl _ _)
  | some ad =>
    clear h3 h4
    go_enter Try.func33, Try.ntmps33
    go_wp2_with (at_builtin; refine wpList_append_sees rfl _ _ rfl w.heap.size (.slice (some ⟨w.heap.size, 0, none⟩) 0 0) [] rfl (Owns.lit w w.heap.size [] (Nat.le_refl _) (Nat.zero_le _)) _ l rfl (h.alloc _) (by simp; omega) (by simp) ?_; intro v' w1 ho hg)
    go_ret
    exact gives rfl ho ( ((Keeps.refl _ _).alloc _).grown hg (fun k hk => by simp [Value.ownBlock] at hk; omega))

theorem equal_any (v u : Value) (l m : List UInt8) (w : World) (h : Sees w v l) (hu : Sees w u m) :
    Calls Try.prog 12 #[v, u] w fun e w' => e = .returned (.bool (l == m)) ∧ w = w' := by
  have g1 := h.text
  have g2 := hu.text
  clear h hu
  go_enter Try.func12, Try.ntmps12
  go_wp2_with fail
  go_ret
  exact ⟨rfl, rfl⟩
end Go.Proofs.Ytplcnceacbpjhaa
