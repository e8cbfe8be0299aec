/- DERIVED. retain.Low. -/
import Derived.Test.YtpehpidlcdfhcaaTm
namespace Go.Proofs.Ytpehpidlcdfhcaa
open Go.RowKit

theorem tailFrom_le (p : Pol) (now : Nat) (l : List It) : ∀ k, tailFrom p now l k ≤ k
  | 0 => Nat.le_refl _
  | k + 1 => by
    rw [tailFrom]
    split
    · exact Nat.le_refl _
    · have := tailFrom_le p now l k; omega
theorem tailN_le (p : Pol) (now : Nat) (l : List It) : tailN p now l ≤ l.length := tailFrom_le p now l _

/-- the number from which on all stays -/
def lowN (p : Pol) (now : Nat) (l : List It) : Nat :=
  if tailN p now l < l.length then (match l[tailN p now l]? with | some x => x.n | none => 0)
  else match l[l.length - 1]? with | some x => (x.n + 1) % 18446744073709551616 | none => 0

theorem low_no_any (p : Pol) (now : Nat) (lv : Value) (l : List It) (w : World) (hi : Items w lv l) (hp : p.ok = false) :
    Calls Try.prog 10 #[.agg p.cells, .int .u64 now, lv] w fun e w' => e = .returned (.tuple #[.int .u64 0, .int .i64 1]) ∧ Old w w' := by
  have M := fun W (h : Old w W) => tail_no_any p now lv l W (hi.old h) hp
  obtain ⟨a, b, c⟩ := p
  unfold Pol.cells at M ⊢
  simp only at M ⊢
  have MM := Lib.hid (M _ ((Keeps.refl _ _).alloc (.cells #[.int .i64 a, .int .i64 b, .int .i64 c] 23)))
  obtain ⟨ad, c', rfl, _, _⟩ := hi.1.len
  clear M hi
  go_enter Try.func10, Try.ntmps10
  go_wp2_with fail
  refine MM.out.mono ?_
  rintro e w1 ⟨rfl, hk⟩
  have K := Lib.hid (((Keeps.refl _ _).alloc _).trans hk)
  clear hk
  go_wp2_with fail
  go_ret2
  exact ⟨rfl, K.out⟩

theorem low_any (p : Pol) (now : Nat) (lv : Value) (l : List It) (w : World) (hi : Items w lv l) (hl : l.length ≤ 1000) (hn : now < 18446744073709551616) (hp : p.ok = true) :
    Calls Try.prog 10 #[.agg p.cells, .int .u64 now, lv] w fun e w' => e = .returned (.tuple #[.int .u64 (lowN p now l : Nat), .int .i64 0]) ∧ Old w w' := by
  have M := fun W (h : Old w W) => tail_any p now lv l W (hi.old h) hl hn hp
  have hle := tailN_le p now l
  by_cases h0 : 0 < l.length
  · obtain ⟨b, o, c', rfl, _, _, hcell⟩ := hi.1.at h0
    have hcc : ∀ j x, l[j]? = some x → w.cell? ⟨b, o + j * 4, none⟩ = some (.int .u64 x.n) ∧ x.n < 18446744073709551616 := fun j x hj => ⟨by simpa using hcell j x hj 0 _ rfl, (hi.2 x (List.mem_of_getElem? hj)).2.2.2.1⟩
    have hzz : ((l.length : Int) == 0) = false := beq_eq_false_iff_ne.2 (by omega)
    by_cases ht : tailN p now l < l.length
    · have hx : l[tailN p now l]? = some l[tailN p now l] := List.getElem?_eq_getElem ht
      have hlow : lowN p now l = l[tailN p now l].n := by unfold lowN; rw [if_pos ht, hx]
      generalize l[tailN p now l] = x at hx hlow
      have hte : ((tailN p now l : Int) == (l.length : Int)) = false := beq_eq_false_iff_ne.2 (by omega)
      obtain ⟨hc, hxn⟩ := hcc _ x hx
      generalize tailN p now l = t at *
      obtain ⟨a, b', c⟩ := p
      unfold Pol.cells at M ⊢
      simp only at M ⊢
      have MM := Lib.hid (M _ ((Keeps.refl _ _).alloc (.cells #[.int .i64 a, .int .i64 b', .int .i64 c] 23)))
      have HL := Lib.hid hlow
      have HC := Lib.hid hc
      clear M hi hcell hcc hx hlow hc
      go_enter Try.func10, Try.ntmps10
      go_wp2_with fail
      refine MM.out.mono ?_
      rintro e w1 ⟨rfl, hk⟩
      have K := Lib.hid (((Keeps.refl _ _).alloc _).trans hk)
      have q := K.out.cell HC.out (fun f => f)
      clear hk
      go_wp2_with fail
      go_ret2
      exact ⟨by rw [HL.out]; rfl, K.out⟩
    · have ht' : tailN p now l = l.length := by omega
      obtain ⟨m, hm⟩ : ∃ m, l.length = m + 1 := ⟨l.length - 1, by omega⟩
      have hx : l[m]? = some l[m] := List.getElem?_eq_getElem (by omega)
      have hlow : lowN p now l = (l[m].n + 1) % 18446744073709551616 := by unfold lowN; rw [if_neg ht, show l.length - 1 = m from by omega, hx]
      generalize l[m] = x at hx hlow
      obtain ⟨hc, hxn⟩ := hcc _ x hx
      rw [ht', hm] at M
      rw [hm]
      rw [hm] at hl hzz
      obtain ⟨a, b', c⟩ := p
      unfold Pol.cells at M ⊢
      simp only at M ⊢
      have MM := Lib.hid (M _ ((Keeps.refl _ _).alloc (.cells #[.int .i64 a, .int .i64 b', .int .i64 c] 23)))
      have HL := Lib.hid hlow
      have HC := Lib.hid hc
      clear M hi hcell hcc hx hlow hc ht' hm hle ht h0
      go_enter Try.func10, Try.ntmps10
      go_wp2_with fail
      refine MM.out.mono ?_
      rintro e w1 ⟨rfl, hk⟩
      have K := Lib.hid (((Keeps.refl _ _).alloc _).trans hk)
      have q := K.out.cell HC.out (fun f => f)
      clear hk
      go_wp2_with fail
      go_ret2
      refine ⟨?_, K.out⟩
      rw [HL.out]
      simp [IntKind.wrap_u64]
  · obtain ⟨rfl, ad, c', rfl⟩ := hi.1.at0 (by omega)
    obtain ⟨a, b, c⟩ := p
    unfold Pol.cells at M ⊢
    simp only at M ⊢
    have MM := Lib.hid (M _ ((Keeps.refl _ _).alloc (.cells #[.int .i64 a, .int .i64 b, .int .i64 c] 23)))
    clear M hi h0 hl hle
    go_enter Try.func10, Try.ntmps10
    go_wp2_with fail
    refine MM.out.mono ?_
    rintro e w1 ⟨rfl, hk⟩
    have K := Lib.hid (((Keeps.refl _ _).alloc _).trans hk)
    clear hk
    go_wp2_with fail
    go_ret2
    exact ⟨rfl, K.out⟩
end Go.Proofs.Ytpehpidlcdfhcaa
