import Derived.Test.YtplcnceacbpjhaaWb
import Derived.Defers
namespace Go.Proofs.Ytplcnceacbpjhaa
open Go.RowKit
/-- a reader of package wire at block rb; its bytes lie in block bb -/
def Rd (w : World) (B rb bb : Nat) (l : List UInt8) : Prop := B ≤ w.heap.size ∧
  ∃ v, w.heap[rb]? = some (.cells #[v, .bool true] 69 (0, 0)) ∧ Sees w v l ∧ l.length ≤ 1000000000 ∧ (∀ k, v.ownBlock = some k → k = bb ∧ k < B) ∧ bb ≠ rb

theorem new_any (v : Value) (l : List UInt8) (w : World) (h : Sees w v l) (hl : l.length ≤ 1000000000) :
    Calls Try.prog 17 #[v] w fun e w' => ∃ rb bb, e = .returned (.pointer (some ⟨rb, 0, none⟩)) ∧ Rd w' w'.heap.size rb bb l ∧ w.heap.size ≤ rb ∧ w.heap.size ≤ bb ∧ Old w w' := by
  go_enter Try.func17, Try.ntmps17
  go_wp2_with (go_at_call 33; refine (bytes_clone_any v l w h hl).mono ?_; rintro e w1 ⟨p1, n1, c1, rfl, ho, hk⟩)
  go_ret
  have hb : ∀ k, (Value.slice p1 n1 c1).ownBlock = some k → w.heap.size ≤ k ∧ k < w1.heap.size := ho.block
  by_cases hp : p1 = none
  · subst hp
    exact ⟨_, w1.heap.size + 1, rfl, ⟨Nat.le_refl _, _, heap_alloc_new _ _, ho.sees.alloc _, hl, fun k hk => by simp [Value.ownBlock] at hk, by omega⟩, hk.size, by have := hk.size; omega, hk.alloc _⟩
  · obtain ⟨a, rfl⟩ := Option.ne_none_iff_exists'.1 hp
    have h2 := hb a.block rfl
    exact ⟨_, a.block, rfl, ⟨Nat.le_refl _, _, heap_alloc_new _ _, ho.sees.alloc _, hl, fun k hk => by simp [Value.ownBlock] at hk; subst hk; exact ⟨rfl, by simp; omega⟩, by omega⟩, hk.size, h2.1, hk.alloc _⟩

theorem Rd.cells {w : World} {B rb bb : Nat} {l : List UInt8} (h : Rd w B rb bb l) : ∃ p c, w.cell? ⟨rb, 0, none⟩ = some (.slice p l.length c) ∧ w.cell? ⟨rb, 1, none⟩ = some (.bool true) ∧ w.frozen? ⟨rb, 0, none⟩ = false ∧ Sees w (.slice p l.length c) l ∧ l.length ≤ 1000000000 ∧ (∀ k, (Value.slice p l.length c).ownBlock = some k → k = bb ∧ k < B) ∧ bb ≠ rb := by
  obtain ⟨_, v, h1, h2, h3, h4, h5⟩ := h
  obtain ⟨p, c, rfl, _, _⟩ := h2.len
  exact ⟨p, c, by simp [World.cell?, h1], by simp [World.cell?, h1], by simp [World.frozen?, h1], h2, h3, h4, h5⟩

theorem left_any (B rb bb : Nat) (l : List UInt8) (w : World) (h : Rd w B rb bb l) :
    Calls Try.prog 24 #[.pointer (some ⟨rb, 0, none⟩)] w fun e w' => e = .returned (.int .i64 l.length) ∧ w = w' := by
  obtain ⟨p, c, h1, h2, h3, h4, h5, h6, h7⟩ := h.cells
  go_enter Try.func24, Try.ntmps24
  go_wp2_with fail
  go_ret
  exact ⟨rfl, rfl⟩

theorem end_any (B rb bb : Nat) (l : List UInt8) (w : World) (h : Rd w B rb bb l) :
    Calls Try.prog 25 #[.pointer (some ⟨rb, 0, none⟩)] w fun e w' => e = .returned (.int .i64 (if l = [] then 0 else 3)) ∧ w = w' := by
  obtain ⟨p, c, h1, h2, h3, h4, h5, h6, h7⟩ := h.cells
  by_cases h0 : l = []
  · subst h0
    go_enter Try.func25, Try.ntmps25
    go_wp2_with fail
    go_ret
    exact ⟨rfl, rfl⟩
  · have hp : 0 < l.length := List.length_pos_iff.2 h0
    go_enter Try.func25, Try.ntmps25
    go_wp2_with fail
    go_ret
    exact ⟨rfl, rfl⟩

/-- the deferred step: behind an error the old bytes are put back -/
theorem keep_ok (rp v : Value) (eb : Nat) (u : FrameMode) (w : World) (he : w.cell? ⟨eb, 0, none⟩ = some (.int .i64 0)) :
    CallsD Try.prog 34 #[rp, v, .pointer (some ⟨eb, 0, none⟩)] u w fun e u' w' => u' = u ∧ (e = .returned (.tuple #[]) ∧ w' = w) := by
  go_enter_d Try.func34, Try.ntmps34
  go_wp2_with fail
  go_end0
  exact ⟨rfl, rfl⟩
theorem keep_bad (rb : Nat) (v : Value) (eb : Nat) (n : Int) (hn : (n != 0) = true) (u : FrameMode) (w : World) (he : w.cell? ⟨eb, 0, none⟩ = some (.int .i64 n)) (old : Value) (hr : w.cell? ⟨rb, 0, none⟩ = some old) (hf : w.frozen? ⟨rb, 0, none⟩ = false)
    (p : Option Addr) (m c : Nat) (hv : v = .slice p m c) :
    CallsD Try.prog 34 #[.pointer (some ⟨rb, 0, none⟩), v, .pointer (some ⟨eb, 0, none⟩)] u w fun e u' w' => u' = u ∧ (e = .returned (.tuple #[]) ∧ w' = w.setCell ⟨rb, 0, none⟩ v) := by
  subst hv
  go_enter_d Try.func34, Try.ntmps34
  go_wp2_with fail
  go_end0
  exact ⟨rfl, rfl⟩
end Go.Proofs.Ytplcnceacbpjhaa
