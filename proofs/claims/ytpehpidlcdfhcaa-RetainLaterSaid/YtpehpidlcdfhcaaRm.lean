/- DERIVED. retain.May: what policies may be. -/
import Derived.Test.YtpehpidlcdfhcaaSt
import Derived.Test.YtpehpidlcdfhcaaNa
namespace Go.Proofs.Ytpehpidlcdfhcaa
open Go.RowKit

def limOk (z : Int) : Bool := decide (0 ≤ z) && decide (z ≤ 1099511627776)
abbrev SeesI (w : World) (v : Value) (l : List Int) : Prop := SeesR w 1 (fun z => [Value.int .i64 z]) v l

theorem may1_any (z : Int) (w : World) : Calls Try.prog 30 #[.int .i64 z] w fun e w' => e = .returned (.bool (!limOk z)) ∧ w = w' := by
  by_cases h : z < 0
  · have d : decide (z < 0) = true := by simp [h]
    go_enter Try.func30, Try.ntmps30
    go_wp2_with fail
    go_ret
    exact ⟨ret_bool (by unfold limOk; simp; omega), rfl⟩
  · have d : decide (z < 0) = false := by simp; omega
    go_enter Try.func30, Try.ntmps30
    go_wp2_with fail
    go_ret
    exact ⟨ret_bool (by unfold limOk; rw [Bool.eq_iff_iff]; simp; omega), rfl⟩

theorem index_i_any (v : Value) (l : List Int) (w : World) (h : SeesI w v l) :
    Calls Try.prog 36 #[v, .func (.func 30) #[] #[]] w (Found w (!(l.all limOk))) := by
  by_cases hl : 0 < l.length
  · obtain ⟨b, o, c, rfl, h1, h2, hc⟩ := h.at hl
    have hm : l.length ≤ 9223372036854775807 := by unfold maxLen at h2; omega
    have HC := Lib.hid hc
    clear h1 h2 h hc hl
    go_enter Try.func36, Try.ntmps36
    go_wp2_with fail
    go_loop [8] (fun v8 => ∃ k : Nat, k ≤ l.length ∧ v8 = .int .i64 k ∧ (l.take k).all limOk = true) (fun v8 => l.length - (intOf v8).toNat)
    case atStart => exact ⟨0, by omega, rfl, by simp⟩
    case round =>
      obtain ⟨k, hk, rfl, hr⟩ := hrel
      have HR := Lib.hid hr
      clear hr
      by_cases hlt : k < l.length
      · have hx : l[k]? = some l[k] := List.getElem?_eq_getElem hlt
        have hcell := HC.out k _ hx 0 _ rfl
        simp only [Nat.mul_one, Nat.add_zero] at hcell
        have HX := Lib.hid hx
        clear hx
        cases hg : limOk l[k]
        · have N := may1_any l[k] w
          rw [hg] at N
          have HN := Lib.hid N
          have HG := Lib.hid hg
          clear N hg
          go_wp2_with (refine (HN.out).mono ?_; rintro e w' ⟨rfl, rfl⟩)
          go_ret
          exact ⟨⟨k, rfl, by rw [all_false_of HX.out HG.out]; simp⟩, rfl⟩
        · have N := may1_any l[k] w
          rw [hg] at N
          have HN := Lib.hid N
          have HG := Lib.hid hg
          clear N hg
          go_wp2_with (refine (HN.out).mono ?_; rintro e w' ⟨rfl, rfl⟩)
          go_round
          case rel => exact ⟨k + 1, by omega, by go_num, by rw [all_take_succ HX.out, HR.out, HG.out]; rfl⟩
          case measure => simp [intOf]; omega
      · go_wp2_with fail
        go_ret
        refine ⟨⟨-1, rfl, ?_⟩, rfl⟩
        have := HR.out
        rw [List.take_of_length_le (by omega)] at this
        rw [this]
        rfl
  · obtain ⟨rfl, p, c, rfl⟩ := h.at0 (by omega)
    clear h hl
    go_enter Try.func36, Try.ntmps36
    go_wp2_with fail
    go_loop [8] (fun v8 => v8 = .int .i64 0) (fun v8 => 0)
    case atStart => rfl
    case round =>
      obtain rfl := hrel
      go_wp2_with fail
      go_ret
      exact ⟨⟨-1, rfl, rfl⟩, rfl⟩

theorem contains_i_any (v : Value) (l : List Int) (w : World) (h : SeesI w v l) :
    Calls Try.prog 31 #[v, .func (.func 30) #[] #[]] w fun e w' => e = .returned (.bool (!(l.all limOk))) ∧ w = w' := by
  obtain ⟨p, c, rfl, h1, h2⟩ := h.len
  have C := Lib.hid (index_i_any _ l w h)
  clear h h1 h2
  go_enter Try.func31, Try.ntmps31
  go_wp2_with fail
  refine C.out.mono ?_
  rintro e w' ⟨⟨i, rfl, hi⟩, rfl⟩
  have HI := Lib.hid hi
  clear hi
  go_wp2_with fail
  go_ret
  exact ⟨ret_bool HI.out, rfl⟩

/-- a policy -/
structure Pol where
  age : Int
  bytes : Int
  count : Int
def Pol.cells (p : Pol) : Array Value := #[.int .i64 p.age, .int .i64 p.bytes, .int .i64 p.count]
def Pol.ok (p : Pol) : Bool := limOk p.age && (limOk p.bytes && limOk p.count)

theorem SeesI.three (w : World) (a b c : Int) : SeesI (w.alloc (.cells #[.int .i64 a, .int .i64 b, .int .i64 c] 3)) (.slice (some ⟨w.heap.size, 0, none⟩) 3 3) [a, b, c] :=
  SeesR.new w _ (0, 0) [a, b, c] _ rfl (fun _ => rfl) (by unfold maxLen; simp)

theorem pol_any (p : Pol) (w : World) : Calls Try.prog 15 #[.agg p.cells] w fun e w' => e = .returned (.bool p.ok) ∧ Old w w' := by
  obtain ⟨a, b, c⟩ := p
  unfold Pol.cells
  simp only
  generalize hW0 : w.alloc (.cells #[.int .i64 a, .int .i64 b, .int .i64 c] 23) = W0
  have k0 : Old w W0 := by rw [← hW0]; exact (Keeps.refl _ _).alloc _
  have hb0 : W0.heap[w.heap.size]? = some (.cells #[.int .i64 a, .int .i64 b, .int .i64 c] 23 (0, 0)) := by rw [← hW0]; exact heap_alloc_new _ _
  have q0 : W0.cell? ⟨w.heap.size, 0, none⟩ = some (.int .i64 a) := by simp [World.cell?, hb0]
  have q1 : W0.cell? ⟨w.heap.size, 1, none⟩ = some (.int .i64 b) := by simp [World.cell?, hb0]
  have q2 : W0.cell? ⟨w.heap.size, 2, none⟩ = some (.int .i64 c) := by simp [World.cell?, hb0]
  have C := Lib.hid (contains_i_any _ _ _ (SeesI.three W0 a b c))
  have H := Lib.hid k0
  clear k0 hb0
  go_enter Try.func15, Try.ntmps15
  go_wp2_with fail
  refine C.out.mono ?_
  rintro e w1 ⟨rfl, rfl⟩
  go_wp2_with fail
  go_ret
  exact ⟨ret_bool (by simp [Pol.ok]), H.out.alloc _⟩
end Go.Proofs.Ytpehpidlcdfhcaa
