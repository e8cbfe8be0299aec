/- DERIVED. How arguments read: bytes; and what the bound on their bulk gives. -/
import Derived.Test.YtplcnceacbpjhaaRows
import Derived.Test.YtplcnceacbpjhaaBase
import Derived.ProofKit
import Derived.OpenShut
namespace Go.Proofs.Ytplcnceacbpjhaa
open Go.ChangeShapes Go.WideShapes Go.ChangeAt Go.RowKit

theorem one_le_bulk {H : Type} (d : DataW H) : 1 ≤ Rows.uptoBulk d := by
  cases d with
  | lit l => cases l <;> simp [Rows.uptoBulk]
  | nil => simp [Rows.uptoBulk]
  | ptr d => simp [Rows.uptoBulk]
  | slice elems spare => simp [Rows.uptoBulk]
  | agg parts => simp [Rows.uptoBulk]
  | iface t d => simp [Rows.uptoBulk]
  | map entries => simp [Rows.uptoBulk]
  | held h => simp [Rows.uptoBulk]
theorem part_bulk {H : Type} {d : DataW H} {l : List (DataW H)} (h : d ∈ l) : Rows.uptoBulk d ≤ Rows.uptoBulkAll l := by
  induction l with
  | nil => cases h
  | cons x r ih =>
    simp only [Rows.uptoBulkAll]
    cases List.mem_cons.1 h with
    | inl e => subst e; omega
    | inr e => have := ih e; omega
theorem length_bulk {H : Type} (l : List (DataW H)) : l.length ≤ Rows.uptoBulkAll l := by
  induction l with
  | nil => simp [Rows.uptoBulkAll]
  | cons x r ih => have := one_le_bulk x; simp only [Rows.uptoBulkAll, List.length_cons]; omega
theorem elems_bulk {H : Type} (elems spare : List (DataW H)) : Rows.uptoBulkAll elems + 1 ≤ Rows.uptoBulk (.slice elems spare) := by
  simp only [Rows.uptoBulk]; omega

/-- a []byte among what came in, at whatever depth -/
theorem trod_bytes {H : Type} {enc : TypeId × Value → H} {W : World} {fuel : Nat} {cs : List Value} {x : DataW H × List MemPlace} (hf : DataW.trod enc Try.prog W 0 (fun _ => true) true fuel 22 cs = some x) :
    ∃ (v : Value) (l : List UInt8), cs = [v] ∧ Sees W v l ∧ l.length < Rows.uptoBulk x.1 := by
  rcases open_ints Try.underlying22 Try.underlying5 (by kernel_rfl) hf with ⟨hcs, hx⟩ | ⟨a, len, cap, zs, hcs, _, hl, hm, hz, hx, hcell, hwz⟩
  · exact ⟨_, [], hcs, Sees.nil W, one_le_bulk x.1⟩
  · subst hx
    have hz' : zs.length = cap := by simpa using hz
    have hlen : ((zs.take len).map fun z => UInt8.ofNat z.toNat).length = len := by simp; omega
    refine ⟨_, (zs.take len).map fun z => UInt8.ofNat z.toNat, hcs, ⟨some a, cap, by rw [hlen], by rw [hlen]; exact hl, hm, fun h => (by cases h), fun a' ha => ?_⟩, ?_⟩
    · cases ha
      refine ⟨fun hc => ?_, fun j b hj => ?_⟩
      · have := hcell 0 (by omega)
        have hs := World.cell?_spot this
        simpa [Addr.add] using hs
      · rw [List.getElem?_map, Option.map_eq_some_iff] at hj
        obtain ⟨z, hz1, rfl⟩ := hj
        rw [List.getElem?_take] at hz1
        split at hz1
        · have hjl := (List.getElem?_eq_some_iff.1 hz1).1
          rw [hcell j hjl]
          have hzz : zs.getD j 0 = z := by simp [List.getD, hz1]
          have hw := hwz z (List.mem_of_getElem? hz1)
          have hr : 0 ≤ z ∧ z ≤ 255 := by simpa [Lit.wf, IntKind.min, IntKind.max, IntKind.signed, IntKind.bits] using hw
          rw [hzz]
          unfold u8
          rw [UInt8.toNat_ofNat']
          congr 2
          omega
        · cases hz1
    · rw [hlen]
      have h1 := elems_bulk (lits (H := H) .u8 (zs.take len)) (lits .u8 (zs.drop len))
      have h2 := length_bulk (lits (H := H) .u8 (zs.take len))
      have h3 : (lits (H := H) .u8 (zs.take len)).length = len := by simp [lits]; omega
      simp only at h1 ⊢
      omega
/-- a []byte that came in -/
theorem read_bytes {H : Type} {enc : TypeId × Value → H} {W : World} {base : Nat} {v : Value} {d : DataW H} {p : List MemPlace} (hv : Value.okWide Try.prog W .any base 22 v)
    (h : DataW.Trod enc Try.prog W 0 (fun _ => true) true 22 v d p) : ∃ l : List UInt8, Sees W v l ∧ l.length < Rows.uptoBulk d := by
  obtain ⟨a, len, cap, rfl⟩ := okWide_slice Try.underlying22 hv
  obtain ⟨fuel, hf⟩ := h
  obtain ⟨v, l, hc, hs, hl⟩ := trod_bytes hf
  simp only [Value.cells, List.cons.injEq, and_true] at hc
  subst hc
  exact ⟨l, hs, hl⟩
end Go.Proofs.Ytplcnceacbpjhaa
