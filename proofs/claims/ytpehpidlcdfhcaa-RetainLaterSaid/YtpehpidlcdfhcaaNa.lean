/- DERIVED. Names: what may be one (layer 2), the program's and the document's answer. -/
import Derived.Test.YtpehpidlcdfhcaaQo
namespace Go.Proofs.Ytpehpidlcdfhcaa
open Go.RowKit

/-- a byte of a name -/
def goodB (c : Nat) : Bool := (decide (97 ≤ c) && decide (c ≤ 122)) || (decide (48 ≤ c) && decide (c ≤ 57)) || c == 45 || c == 46 || c == 95

theorem ret_bool {a b : Bool} (h : a = b) : Ending.returned (.bool a) = .returned (.bool b) := by rw [h]

theorem name1_any (c : Nat) (w : World) : Calls Try.prog 51 #[.int .u8 (c : Int)] w fun e w' => e = .returned (.bool (!goodB c)) ∧ w = w' := by
  go_enter Try.func51, Try.ntmps51
  go_wp2_with fail
  all_goals go_ret
  all_goals refine ⟨ret_bool ?_, rfl⟩
  all_goals unfold goodB
  all_goals rw [Bool.eq_iff_iff]
  all_goals simp
  all_goals omega

/-- an index was found, or not -/
def Found (w : World) (ok : Bool) (e : Ending) (w' : World) : Prop := (∃ i : Int, e = .returned (.int .i64 i) ∧ decide (0 ≤ i) = ok) ∧ w = w'

theorem all_take_succ {α : Type} {f : α → Bool} {l : List α} {k : Nat} {x : α} (hx : l[k]? = some x) : (l.take (k + 1)).all f = ((l.take k).all f && f x) := by
  rw [List.take_add_one, hx]; simp

theorem all_false_of {α : Type} {f : α → Bool} {l : List α} {k : Nat} {x : α} (hx : l[k]? = some x) (h : f x = false) : l.all f = false := by
  rw [List.all_eq_false]; exact ⟨x, List.mem_of_getElem? hx, by simp [h]⟩

theorem index1_any (v : Value) (l : List UInt8) (w : World) (h : Sees w v l) :
    Calls Try.prog 61 #[v, .func (.func 51) #[] #[]] w (Found w (!(l.all fun c => goodB c.toNat))) := by
  by_cases hl : 0 < l.length
  · obtain ⟨b, o, c, rfl, h1, h2, hc⟩ := h.at hl
    have hm : l.length ≤ 9223372036854775807 := by unfold maxLen at h2; omega
    have HC := Lib.hid hc
    clear h1 h2 h hc hl
    go_enter Try.func61, Try.ntmps61
    go_wp2_with fail
    go_loop [8] (fun v8 => ∃ k : Nat, k ≤ l.length ∧ v8 = .int .i64 k ∧ (l.take k).all (fun c => goodB c.toNat) = true) (fun v8 => l.length - (intOf v8).toNat)
    case atStart => exact ⟨0, by omega, rfl, by simp⟩
    case round =>
      obtain ⟨k, hk, rfl, hr⟩ := hrel
      have HR := Lib.hid hr
      clear hr
      by_cases hlt : k < l.length
      · have hx : l[k]? = some l[k] := List.getElem?_eq_getElem hlt
        have hcell := HC.out k _ hx
        unfold u8 at hcell
        have HX := Lib.hid hx
        clear hx
        cases hg : goodB (l[k].toNat)
        · have N := name1_any l[k].toNat w
          rw [hg] at N
          have HN := Lib.hid N
          have HG := Lib.hid hg
          clear N hg
          go_wp2_with (refine (HN.out).mono ?_; rintro e w' ⟨rfl, rfl⟩)
          go_ret
          exact ⟨⟨k, rfl, by rw [all_false_of HX.out HG.out]; simp⟩, rfl⟩
        · have N := name1_any l[k].toNat w
          rw [hg] at N
          have HN := Lib.hid N
          have HG := Lib.hid hg
          clear N hg
          go_wp2_with (refine (HN.out).mono ?_; rintro e w' ⟨rfl, rfl⟩)
          go_round
          case rel => exact ⟨k + 1, by omega, by go_num, by rw [all_take_succ HX.out, HR.out, HG.out]; rfl⟩
          case measure => simp [intOf]; omega
      · go_wp2_with fail
        go_ret
        refine ⟨⟨-1, rfl, ?_⟩, rfl⟩
        have := HR.out
        rw [List.take_of_length_le (by omega)] at this
        rw [this]
        rfl
  · obtain ⟨p, c, rfl, h1, h2⟩ := h.len
    have h0 : l.length = 0 := by omega
    have : l = [] := List.eq_nil_of_length_eq_zero h0
    subst this
    clear h h1 h2 hl h0
    go_enter Try.func61, Try.ntmps61
    go_wp2_with fail
    go_loop [8] (fun v8 => v8 = .int .i64 0) (fun v8 => 0)
    case atStart => rfl
    case round =>
      obtain rfl := hrel
      go_wp2_with fail
      go_ret
      exact ⟨⟨-1, rfl, rfl⟩, rfl⟩

theorem contains1_any (v : Value) (l : List UInt8) (w : World) (h : Sees w v l) :
    Calls Try.prog 52 #[v, .func (.func 51) #[] #[]] w fun e w' => e = .returned (.bool (!(l.all fun c => goodB c.toNat))) ∧ w = w' := by
  obtain ⟨p, c, rfl, h1, h2⟩ := h.len
  have C := Lib.hid (index1_any _ l w h)
  clear h h1 h2
  go_enter Try.func52, Try.ntmps52
  go_wp2_with fail
  refine C.out.mono ?_
  rintro e w' ⟨⟨i, rfl, hi⟩, rfl⟩
  have HI := Lib.hid hi
  clear hi
  go_wp2_with fail
  go_ret
  exact ⟨ret_bool HI.out, rfl⟩

/-- may it be a name? -/
def nameOk (l : List UInt8) : Bool := decide (1 ≤ l.length) && decide (l.length ≤ 16) && l.all fun c => goodB c.toNat

set_option maxRecDepth 100000 in
theorem name_any (s : ByteArray) (w : World) : Calls Try.prog 46 #[.string s] w fun e w' => e = .returned (.bool (nameOk s.toList)) ∧ Old w w' := by
  have hsz : s.toList.length = s.size := by rw [ByteArray.toList_eq]; simp
  by_cases h0 : 1 ≤ s.size
  · have t1 : s.toList.isEmpty = false := by cases h : s.toList with | nil => rw [h] at hsz; simp at hsz; omega | cons => rfl
    have t1' : (!s.toList.isEmpty) = true := by rw [t1]; rfl
    by_cases h1 : s.size ≤ 16
    · have d1 : decide ((s.size : Int) ≤ 16) = true := by simp; omega
      obtain ⟨p, c, w1, hconv, hsee, hk, _⟩ := conv_str w s (by unfold maxLen; omega)
      have C := Lib.hid (contains1_any _ _ w1 hsee)
      have HK := Lib.hid hk
      have HS := Lib.hid hsz
      clear hsz hsee hk
      go_enter Try.func46, Try.ntmps46
      go_wp2_with fail
      refine C.out.mono ?_
      rintro e w' ⟨rfl, rfl⟩
      go_wp2_with fail
      go_ret
      refine ⟨ret_bool ?_, HK.out⟩
      simp [nameOk, HS.out, h1, h0]
    · have d1 : decide ((s.size : Int) ≤ 16) = false := by simp; omega
      have HS := Lib.hid hsz
      clear hsz
      go_enter Try.func46, Try.ntmps46
      go_wp2_with fail
      go_ret
      refine ⟨ret_bool ?_, Keeps.refl _ _⟩
      simp [nameOk, HS.out, h1]
  · have t1 : s.toList = [] := List.eq_nil_of_length_eq_zero (by omega)
    clear h0 hsz
    have t2 : s.toList.isEmpty = true := by rw [t1]; rfl
    have H := Lib.hid t1
    clear t1
    go_enter Try.func46, Try.ntmps46
    go_wp2_with fail
    go_ret
    exact ⟨ret_bool (by rw [H.out]; rfl), Keeps.refl _ _⟩
end Go.Proofs.Ytpehpidlcdfhcaa
