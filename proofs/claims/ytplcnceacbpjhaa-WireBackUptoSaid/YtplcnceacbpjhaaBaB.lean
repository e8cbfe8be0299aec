/- DERIVED. WireBack: the plain law; how the things read. -/
import Derived.Test.YtplcnceacbpjhaaBaA
import Derived.Test.YtplcnceacbpjhaaRead
import Derived.Deep.Slices
import Derived.Deep.Strs
namespace Go.Proofs.Ytplcnceacbpjhaa
open Go.ChangeShapes Go.WideShapes Go.ChangeAt Go.RowKit Go.Deep

theorem bytes_read (b r : List UInt8) (hb : b.length ≤ 100000000) : readBytes (form b.length ++ b ++ r) 9223372036854775807 = (b, 0, r) := by
  have h := form_read b.length (b ++ r) 9223372036854775807 (by omega)
  rw [if_neg (by omega), ← List.append_assoc] at h
  unfold readBytes
  rw [if_neg (by decide), show (9223372036854775807 : Int).toNat = 9223372036854775807 from rfl, h]
  simp only
  rw [if_neg (by simp), if_neg (by simp)]
  simp
theorem bytes_short (b : List UInt8) (hb : b.length ≤ 100000000) (k : Nat) (hk : k < (form b.length ++ b).length) : ∃ x, readBytes ((form b.length ++ b).take k) 9223372036854775807 = (x, 4, (form b.length ++ b).take k) := by
  unfold readBytes
  rw [if_neg (by decide), show (9223372036854775807 : Int).toNat = 9223372036854775807 from rfl]
  rcases Nat.lt_or_ge k (form b.length).length with h | h
  · rw [List.take_append_of_le_length (by omega), form_short b.length (by omega) k h]
    exact ⟨[], by simp⟩
  · have ht : (form b.length ++ b).take k = form b.length ++ b.take (k - (form b.length).length) := by
      rw [List.take_append, List.take_of_length_le h]
    have hr := form_read b.length (b.take (k - (form b.length).length)) 9223372036854775807 (by omega)
    rw [if_neg (by omega)] at hr
    rw [ht, hr]
    simp only [List.length_append] at hk
    simp only
    rw [if_neg (by simp), if_pos (by simp; omega)]
    exact ⟨[], rfl⟩
theorem rd_enc (t : Thing) (W : World) (ht : t.ok W) (r : List UInt8) : t.rd (t.enc ++ r) = (true, 0, r) := by
  unfold Thing.rd Thing.enc
  by_cases h0 : t.what = 0
  · rw [if_pos h0, if_pos h0, form_read _ _ _ ht.2.2, if_neg (by have := ht.2.2; omega)]
    simp
  · rw [if_neg h0, if_neg h0]
    by_cases h1 : t.what = 1
    · rw [if_pos h1, if_pos h1]
      have hz := zigN_lt (wrap64_two t.n)
      have h := form_read (zigN (wrap64 t.n)) r 18446744073709551615 hz
      rw [if_neg (by omega)] at h
      unfold readInt
      rw [h]
      simp [zag_zig]
    · rw [if_neg h1, if_neg h1, bytes_read _ _ ht.2.1]
      simp
theorem rd_short (t : Thing) (W : World) (ht : t.ok W) (k : Nat) (hk : k < t.enc.length) : ∃ ok, t.rd (t.enc.take k) = (ok, 4, t.enc.take k) := by
  unfold Thing.rd
  unfold Thing.enc at hk ⊢
  by_cases h0 : t.what = 0
  · rw [if_pos h0] at hk ⊢
    rw [if_pos h0, form_short _ ht.2.2 k hk]
    exact ⟨_, rfl⟩
  · rw [if_neg h0] at hk ⊢
    rw [if_neg h0]
    by_cases h1 : t.what = 1
    · rw [if_pos h1] at hk ⊢
      rw [if_pos h1]
      have hz := zigN_lt (wrap64_two t.n)
      unfold readInt
      rw [form_short _ hz k hk]
      exact ⟨_, rfl⟩
    · rw [if_neg h1] at hk ⊢
      rw [if_neg h1]
      obtain ⟨x, hx⟩ := bytes_short t.b ht.2.1 k hk
      rw [hx]
      exact ⟨_, rfl⟩
/-- all forms, one behind the other -/
def encs (ts : List Thing) : List UInt8 := (ts.map Thing.enc).flatten
theorem encs_cons (t : Thing) (ts : List Thing) : encs (t :: ts) = t.enc ++ encs ts := by simp [encs]
theorem encs_snoc (ts : List Thing) (k : Nat) (t : Thing) (h : ts[k]? = some t) : encs (ts.take (k + 1)) = encs (ts.take k) ++ t.enc := by
  have hk := (List.getElem?_eq_some_iff.1 h).1
  have ht := (List.getElem?_eq_some_iff.1 h).2
  rw [List.take_succ_eq_append_getElem hk, ht]
  simp [encs]
theorem encs_drop (ts : List Thing) (k : Nat) (t : Thing) (h : ts[k]? = some t) : encs (ts.drop k) = t.enc ++ encs (ts.drop (k + 1)) := by
  have hk := (List.getElem?_eq_some_iff.1 h).1
  have ht := (List.getElem?_eq_some_iff.1 h).2
  rw [List.drop_eq_getElem_cons hk, ht, encs_cons]
theorem encs_length (ts : List Thing) (W : World) (h : ∀ t ∈ ts, t.ok W ∧ t.b.length ≤ 1048576) : (encs ts).length ≤ ts.length * 1048586 := by
  induction ts with
  | nil => simp [encs]
  | cons t ts ih =>
    rw [encs_cons, List.length_append, List.length_cons]
    have h1 := h t (by simp)
    have := enc_length t W h1.1
    have := ih (fun x hx => h x (by simp [hx]))
    have := h1.2
    omega

/-- a slice of things -/
def SeesThings (W : World) (v : Value) (ts : List Thing) : Prop :=
  ∃ p c, v = .slice p ts.length c ∧ ts.length ≤ c ∧ c ≤ maxLen ∧ (∀ t ∈ ts, t.ok W ∧ t.b.length ≤ 1048576) ∧
    (ts ≠ [] → ∃ b o, p = some ⟨b, o, none⟩ ∧ ∀ i t, ts[i]? = some t → W.cell? ⟨b, o + i * 3, none⟩ = some (.int .i64 t.what) ∧ W.cell? ⟨b, o + i * 3 + 1, none⟩ = some (.int .u64 t.n) ∧ W.cell? ⟨b, o + i * 3 + 2, none⟩ = some t.v)

theorem cells_three {W : World} {base : Nat} {a : Addr} {cs : List Value} (h : W.cells? base a 3 = some cs) : ∃ x y z, cs = [x, y, z] ∧ W.cell? a = some x ∧ W.cell? (a.add 1) = some y ∧ W.cell? (a.add 2) = some z := by
  unfold World.cells? at h
  split at h
  · have e : List.range 3 = [0, 1, 2] := rfl
    rw [e] at h
    simp only [List.mapM_cons, List.mapM_nil, Option.bind_eq_bind, Option.pure_def, Option.bind_eq_some_iff, Option.some.injEq] at h
    obtain ⟨x, hx, r, ⟨y, hy, r2, ⟨z, hz, r3, h3, h4⟩, h5⟩, h6⟩ := h
    refine ⟨x, y, z, by rw [← h6, ← h5, ← h4, ← h3], ?_, hy, hz⟩
    simpa [Addr.add] using hx
  · cases h

theorem read_thing {H : Type} {enc : TypeId × Value → H} {W : World} {fuel : Nat} {cs : List Value} {D : DataW H} {ps : List MemPlace} {x y z : Value} (hcs : cs = [x, y, z])
    (h : DataW.trod enc Try.prog W 0 (fun _ => true) true fuel 59 cs = some (D, ps)) :
    ∃ t : Thing, x = .int .i64 t.what ∧ y = .int .u64 t.n ∧ z = t.v ∧ t.n < 18446744073709551616 ∧ Sees W t.v t.b ∧ t.b.length < Rows.uptoBulk D := by
  subst hcs
  obtain ⟨y0, y1, y2, n, he, hl, h0, h1, h2⟩ := trod_struct3 Try.underlying59 h
  simp only [Prod.mk.injEq] at he
  obtain ⟨rfl, _⟩ := he
  have k3 : Try.prog.cellsOf 3 = 1 := by kernel_rfl
  have k23 : Try.prog.cellsOf 23 = 1 := by kernel_rfl
  have k22 : Try.prog.cellsOf 22 = 1 := by kernel_rfl
  simp only [k3, k23, k22, List.drop_zero, List.drop_succ_cons, List.take_succ_cons, List.take_zero] at h0 h1 h2
  obtain ⟨w1, e1, hx, wx⟩ := DataW.trod_int Try.underlying3 h0
  obtain ⟨w2, e2, hy, wy⟩ := DataW.trod_int Try.underlying23 h1
  obtain ⟨v, l, e3, hs, hl⟩ := trod_bytes h2
  simp only [List.cons.injEq, and_true] at e1 e2 e3
  subst e1 e2 e3
  have hr : 0 ≤ w2 ∧ w2 ≤ 18446744073709551615 := by simpa [Lit.wf, IntKind.min, IntKind.max, IntKind.signed, IntKind.bits] using wy
  obtain ⟨m, rfl⟩ := Int.eq_ofNat_of_zero_le hr.1
  refine ⟨⟨w1, m, z, l⟩, rfl, rfl, rfl, by simp only; omega, hs, ?_⟩
  simp only [Rows.uptoBulk, Rows.uptoBulkAll]
  omega

theorem list_exists {α : Type} {P : Nat → α → Prop} (n : Nat) (h : ∀ i, i < n → ∃ x, P i x) : ∃ l : List α, l.length = n ∧ ∀ i x, l[i]? = some x → P i x := by
  induction n with
  | zero => exact ⟨[], rfl, fun i x hx => by simp at hx⟩
  | succ n ih =>
    obtain ⟨l, hl, hp⟩ := ih (fun i hi => h i (by omega))
    obtain ⟨x, hx⟩ := h n (by omega)
    refine ⟨l ++ [x], by simp [hl], fun i y hy => ?_⟩
    rcases Nat.lt_or_ge i n with hi | hi
    · rw [List.getElem?_append_left (by omega)] at hy
      exact hp i y hy
    · rw [List.getElem?_append_right (by omega)] at hy
      have : i - l.length = 0 := by
        rcases Nat.eq_zero_or_pos (i - l.length) with h | h
        · exact h
        · rw [List.getElem?_eq_none (by simp; omega)] at hy; cases hy
      rw [this] at hy
      simp only [List.getElem?_cons_zero, Option.some.injEq] at hy
      subst hy
      rw [show i = n from by omega]
      exact hx

theorem read_things {H : Type} {enc : TypeId × Value → H} {W : World} {base : Nat} {v : Value} {d : DataW H} {p : List MemPlace} (hv : Value.okWide Try.prog W .any base 56 v)
    (h : DataW.Trod enc Try.prog W 0 (fun _ => true) true 56 v d p) (hbig : Rows.uptoBulk d ≤ 1048576) : ∃ ts, SeesThings W v ts := by
  obtain ⟨a, len, cap, rfl⟩ := okWide_slice Try.underlying56 hv
  obtain ⟨fuel, hf⟩ := h
  rcases open_slice Try.underlying56 hf with ⟨hcs, hx⟩ | ⟨x, l, c, m, n, D, Pl, hcs, _, hl, hm, hmm, hx, hel⟩
  · simp [Value.cells] at hcs
    obtain ⟨rfl, rfl, rfl⟩ := hcs
    exact ⟨[], none, 0, rfl, Nat.le_refl _, Nat.zero_le _, by simp, by simp⟩
  · simp [Value.cells] at hcs
    obtain ⟨rfl, rfl, rfl⟩ := hcs
    simp only [Prod.mk.injEq] at hx
    obtain ⟨rfl, _⟩ := hx
    have k3 : Try.prog.cellsOf 59 = 3 := by kernel_rfl
    have hmc : m = cap := by simpa using hmm
    have hone : ∀ i, i < len → ∃ t : Thing, (t.n < 18446744073709551616 ∧ Sees W t.v t.b ∧ t.b.length < Rows.uptoBulk (D i)) ∧
        (W.cell? (x.add (i * 3)) = some (.int .i64 t.what) ∧ W.cell? ((x.add (i * 3)).add 1) = some (.int .u64 t.n) ∧ W.cell? ((x.add (i * 3)).add 2) = some t.v) := by
      intro i hi
      obtain ⟨cs', h1, h2⟩ := hel i (by omega)
      rw [k3] at h1
      obtain ⟨c1, c2, c3, e, e1, e2, e3⟩ := cells_three h1
      obtain ⟨t, t1, t2, t3, t4, t5, t6⟩ := read_thing e h2
      exact ⟨t, ⟨t4, t5, t6⟩, by rw [e1, t1], by rw [e2, t2], by rw [e3, t3]⟩
    obtain ⟨ts, hlen, hts⟩ := list_exists len hone
    have hD : ∀ i, i < len → Rows.uptoBulk (D i) ≤ 1048576 := by
      intro i hi
      have h1 := part_bulk (d := D i) (l := (List.range len).map D) (List.mem_map.2 ⟨i, by simpa using hi, rfl⟩)
      have h2 := elems_bulk ((List.range len).map D) ((List.range (m - len)).map fun j => D (len + j))
      omega
    refine ⟨ts, some x, cap, by rw [hlen], by omega, hm, ?_, ?_⟩
    · intro t ht
      obtain ⟨i, hi⟩ := List.mem_iff_getElem?.1 ht
      have hil := (List.getElem?_eq_some_iff.1 hi).1
      obtain ⟨⟨a1, a2, a3⟩, _⟩ := hts i t hi
      have := hD i (by omega)
      exact ⟨⟨a2, by omega, a1⟩, by omega⟩
    · intro hne
      obtain ⟨b, o, s⟩ := x
      have h0 : 0 < ts.length := List.length_pos_iff.2 hne
      obtain ⟨_, q1, _, _⟩ := hts 0 ts[0] (by simp)
      have hs : s = none := by simpa [Addr.add] using World.cell?_spot q1
      subst hs
      refine ⟨b, o, rfl, fun i t hi => ?_⟩
      obtain ⟨_, q1, q2, q3⟩ := hts i t hi
      have e1 : (⟨b, o, none⟩ : Addr).add (i * 3) = ⟨b, o + i * 3, none⟩ := by unfold Addr.add; split <;> simp_all
      have e2 : ∀ k, (⟨b, o + i * 3, none⟩ : Addr).add k = ⟨b, o + i * 3 + k, none⟩ := by intro k; unfold Addr.add; split <;> simp_all
      rw [e1] at q1 q2 q3
      rw [e2] at q2 q3
      exact ⟨q1, q2, q3⟩
end Go.Proofs.Ytplcnceacbpjhaa
