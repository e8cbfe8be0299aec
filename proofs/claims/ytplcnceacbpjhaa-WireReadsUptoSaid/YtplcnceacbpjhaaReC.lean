/- DERIVED. WireReads, from how its arguments read. -/
import Derived.Test.YtplcnceacbpjhaaReB
import Derived.Test.YtplcnceacbpjhaaRead
import Derived.Deep.Slices
import Derived.Deep.Strs
namespace Go.Proofs.Ytplcnceacbpjhaa
open Go.ChangeShapes Go.WideShapes Go.ChangeAt Go.RowKit Go.Deep

theorem cells_three {W : World} {base : Nat} {a : Addr} {cs : List Value} (h : W.cells? base a 3 = some cs) : ∃ x y z, cs = [x, y, z] ∧ W.cell? a = some x ∧ W.cell? (a.add 1) = some y ∧ W.cell? (a.add 2) = some z := by
  unfold World.cells? at h
  split at h
  · have e : List.range 3 = [0, 1, 2] := rfl
    rw [e] at h
    simp only [List.mapM_cons, List.mapM_nil, Option.bind_eq_bind, Option.pure_def, Option.bind_eq_some_iff, Option.some.injEq] at h
    obtain ⟨x, hx, r, ⟨y, hy, r2, ⟨z, hz, r3, h3, h4⟩, h5⟩, h6⟩ := h
    refine ⟨x, y, z, by rw [← h6, ← h5, ← h4, ← h3], ?_, hy, hz⟩
    simpa [Addr.add] using hx
  · cases h

theorem list_exists {α : Type} {P : Nat → α → Prop} (n : Nat) (h : ∀ i, i < n → ∃ x, P i x) : ∃ l : List α, l.length = n ∧ ∀ i x, l[i]? = some x → P i x := by
  induction n with
  | zero => exact ⟨[], rfl, fun i x hx => by simp at hx⟩
  | succ n ih =>
    obtain ⟨l, hl, hp⟩ := ih (fun i hi => h i (by omega))
    obtain ⟨x, hx⟩ := h n (by omega)
    refine ⟨l ++ [x], by simp [hl], fun i y hy => ?_⟩
    rcases Nat.lt_or_ge i n with hi | hi
    · rw [List.getElem?_append_left (by omega)] at hy
      exact hp i y hy
    · rw [List.getElem?_append_right (by omega)] at hy
      have : i - l.length = 0 := by
        rcases Nat.eq_zero_or_pos (i - l.length) with h | h
        · exact h
        · rw [List.getElem?_eq_none (by simp; omega)] at hy; cases hy
      rw [this] at hy
      simp only [List.getElem?_cons_zero, Option.some.injEq] at hy
      subst hy
      rw [show i = n from by omega]
      exact hx

theorem read_call {H : Type} {enc : TypeId × Value → H} {W : World} {fuel : Nat} {cs : List Value} {D : DataW H} {ps : List MemPlace} {x y z : Value} (hcs : cs = [x, y, z])
    (h : DataW.trod enc Try.prog W 0 (fun _ => true) true fuel 39 cs = some (D, ps)) :
    ∃ t : RCall, x = .int .i64 t.what ∧ y = .int .i64 t.lim ∧ z = .int .u64 t.most ∧ t.most < 18446744073709551616 ∧ t.lim ≤ 9223372036854775807 := by
  subst hcs
  obtain ⟨y0, y1, y2, n, he, hl, h0, h1, h2⟩ := trod_struct3 Try.underlying39 h
  have k3 : Try.prog.cellsOf 3 = 1 := by kernel_rfl
  have k23 : Try.prog.cellsOf 23 = 1 := by kernel_rfl
  simp only [k3, k23, List.drop_zero, List.drop_succ_cons, List.take_succ_cons, List.take_zero] at h0 h1 h2
  obtain ⟨w1, e1, hx, wx⟩ := DataW.trod_int Try.underlying3 h0
  obtain ⟨w2, e2, hy, wy⟩ := DataW.trod_int Try.underlying3 h1
  obtain ⟨w3, e3, hz, wz⟩ := DataW.trod_int Try.underlying23 h2
  simp only [List.cons.injEq, and_true] at e1 e2 e3
  subst e1 e2 e3
  have hr : 0 ≤ w3 ∧ w3 ≤ 18446744073709551615 := by simpa [Lit.wf, IntKind.min, IntKind.max, IntKind.signed, IntKind.bits] using wz
  have hr2 : -9223372036854775808 ≤ w2 ∧ w2 ≤ 9223372036854775807 := by simpa [Lit.wf, IntKind.min, IntKind.max, IntKind.signed, IntKind.bits] using wy
  obtain ⟨m, rfl⟩ := Int.eq_ofNat_of_zero_le hr.1
  exact ⟨⟨w1, w2, m⟩, rfl, rfl, rfl, by simp only; omega, hr2.2⟩

theorem read_calls {H : Type} {enc : TypeId × Value → H} {W : World} {base : Nat} {v : Value} {d : DataW H} {p : List MemPlace} (hv : Value.okWide Try.prog W .any base 32 v)
    (h : DataW.Trod enc Try.prog W 0 (fun _ => true) true 32 v d p) : ∃ ts, SeesCalls W v ts := by
  obtain ⟨a, len, cap, rfl⟩ := okWide_slice Try.underlying32 hv
  obtain ⟨fuel, hf⟩ := h
  rcases open_slice Try.underlying32 hf with ⟨hcs, hx⟩ | ⟨x, l, c, m, n, D, Pl, hcs, _, hl, hm, hmm, hx, hel⟩
  · simp [Value.cells] at hcs
    obtain ⟨rfl, rfl, rfl⟩ := hcs
    exact ⟨[], none, 0, rfl, Nat.le_refl _, Nat.zero_le _, by simp, by simp⟩
  · simp [Value.cells] at hcs
    obtain ⟨rfl, rfl, rfl⟩ := hcs
    simp only [Prod.mk.injEq] at hx
    obtain ⟨rfl, _⟩ := hx
    have k3 : Try.prog.cellsOf 39 = 3 := by kernel_rfl
    have hmc : m = cap := by simpa using hmm
    have hone : ∀ i, i < len → ∃ t : RCall, (t.most < 18446744073709551616 ∧ t.lim ≤ 9223372036854775807) ∧
        (W.cell? (x.add (i * 3)) = some (.int .i64 t.what) ∧ W.cell? ((x.add (i * 3)).add 1) = some (.int .i64 t.lim) ∧ W.cell? ((x.add (i * 3)).add 2) = some (.int .u64 t.most)) := by
      intro i hi
      obtain ⟨cs', h1, h2⟩ := hel i (by omega)
      rw [k3] at h1
      obtain ⟨c1, c2, c3, e, e1, e2, e3⟩ := cells_three h1
      obtain ⟨t, t1, t2, t3, t4, t5⟩ := read_call e h2
      exact ⟨t, ⟨t4, t5⟩, by rw [e1, t1], by rw [e2, t2], by rw [e3, t3]⟩
    obtain ⟨ts, hlen, hts⟩ := list_exists len hone
    refine ⟨ts, some x, cap, by rw [hlen], by omega, hm, ?_, ?_⟩
    · intro t ht
      obtain ⟨i, hi⟩ := List.mem_iff_getElem?.1 ht
      have hil := (List.getElem?_eq_some_iff.1 hi).1
      exact (hts i t hi).1
    · intro hne
      obtain ⟨b, o, s⟩ := x
      have h0 : 0 < ts.length := List.length_pos_iff.2 hne
      obtain ⟨_, q1, _, _⟩ := hts 0 ts[0] (by simp)
      have hs : s = none := by simpa [Addr.add] using World.cell?_spot q1
      subst hs
      refine ⟨b, o, rfl, fun i t hi => ?_⟩
      obtain ⟨_, q1, q2, q3⟩ := hts i t hi
      have e1 : (⟨b, o, none⟩ : Addr).add (i * 3) = ⟨b, o + i * 3, none⟩ := by unfold Addr.add; split <;> simp_all
      have e2 : ∀ k, (⟨b, o + i * 3, none⟩ : Addr).add k = ⟨b, o + i * 3 + k, none⟩ := by intro k; unfold Addr.add; split <;> simp_all
      rw [e1] at q1 q2 q3
      rw [e2] at q2 q3
      exact ⟨q1, q2, q3⟩

theorem walk_WireReads {H : Type} (enc : TypeId × Value → H) (W : World) (base : Nat) {v0 v1 : Value} {d0 d1 : DataW H} {p0 p1 : List MemPlace}
    (hv0 : Value.okWide Try.prog W .any base 22 v0) (h0 : DataW.Trod enc Try.prog W 0 (fun _ => true) true 22 v0 d0 p0)
    (hv1 : Value.okWide Try.prog W .any base 32 v1) (h1 : DataW.Trod enc Try.prog W 0 (fun _ => true) true 32 v1 d1 p1)
    (hk : Rows.uptoBulkAll [d0, d1] ≤ 1048576) :
    Calls Try.prog 4 #[v0, v1] W fun e W' => e = .returned (.bool true) ∧ Below W.heap.size W W' := by
  simp only [Rows.uptoBulkAll] at hk
  obtain ⟨b, hb, hlb⟩ := read_bytes hv0 h0
  obtain ⟨cs, hcs⟩ := read_calls hv1 h1
  exact (reads_any v0 v1 b cs W hb (by omega) hcs).mono fun e W' h => ⟨h.1, h.2.below⟩
end Go.Proofs.Ytplcnceacbpjhaa
