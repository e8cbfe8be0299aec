/- DERIVED. CodecKnown: its plain facts. -/
import Derived.Test.YtlpbbcjmmhabfaaY25
import Derived.Test.YtlpbbcjmmhabfaaY22
namespace Go.Proofs.Ytlpbbcjmmhabfaa
open Go.RowKit

def kName (i : Nat) : ByteArray := ⟨#[97, 98, 99, 100, 101, 102, 103, 104, 105, 106, 107, 108, 109, 110, 111, UInt8.ofNat (97 + i)]⟩
def kAt (i : Nat) : At := ⟨kName i, ⟨2, 0, ⟨Array.replicate 32 0⟩, false⟩⟩
def kAts (i : Nat) : List At := (List.range i).map kAt
def kKey : ByteArray := ⟨#[48, 49, 50, 51, 52, 53, 54, 55, 56, 57, 97, 98, 99, 100, 101, 102]⟩
theorem kAt_len (i : Nat) : (atForm (kAt i)).length = 51 := by
  simp [atForm, kAt, kName, valForm, form_lt, ByteArray.size, size_toList]
theorem kAts_ok : evOk kKey (kAts 8) = true := by decide +kernel
theorem kAts_fits : Fits (kAts 8) := by
  intro a ha
  obtain ⟨i, _, rfl⟩ := List.mem_map.1 ha
  simp [kAt, kName, ByteArray.size]
theorem kAts_size : evSize kKey (kAts 8) = 426 := by
  unfold evSize
  rw [if_pos kAts_ok]
  simp only [evForm, List.length_append, List.length_flatMap, kAts, List.map_map, Function.comp_def, kAt_len, size_toList]
  simp [kKey, ByteArray.size, form_lt]
  decide
theorem key17_size : evSize ⟨#[48, 49, 50, 51, 52, 53, 54, 55, 56, 57, 97, 98, 99, 100, 101, 102, 103]⟩ [] = 0 := by
  unfold evSize; rw [if_neg (by decide)]
def kMin : At := ⟨⟨#[97]⟩, ⟨1, -9223372036854775808, ⟨#[]⟩, false⟩⟩
theorem kMin_ok : evOk ⟨#[]⟩ [kMin] = true := by decide +kernel
theorem kMin_fits : Fits [kMin] := by intro a ha; simp at ha; subst ha; simp [kMin, ByteArray.size]
theorem kP7 : takeP [7] = none := by decide +kernel
theorem kP4 : takeP [1, 1, 97, 0] = none := by decide +kernel
theorem kP0 : takeP [0] = some [] := by
  have h : (takeP [0]).map List.length = some 0 := by decide +kernel
  cases hx : takeP [0] with
  | none => rw [hx] at h; cases h
  | some x => rw [hx] at h; simp at h; rw [h]
theorem kG : takeG [1, 1, 0, 0, 2] = none := by decide +kernel
theorem Sees.marked (w : World) (l : List UInt8) (fr : Nat × Nat) (hm : l.length ≤ maxLen) : Sees (w.alloc (.cells (l.map u8).toArray 5 fr)) (.slice (some ⟨w.heap.size, 0, none⟩) l.length l.length) l := by
  refine ⟨_, _, rfl, Nat.le_refl _, hm, fun h => (by cases h), fun a ha => ?_⟩
  cases ha
  refine ⟨fun _ => rfl, fun j b hj => ?_⟩
  rw [show (⟨w.heap.size, 0, none⟩ : Addr).add j = ⟨w.heap.size, j, none⟩ from by unfold Addr.add; split <;> simp_all]
  rw [World.cell?_alloc_mark]
  simp [hj]
def kIt (n : Nat) : It := ⟨n, 0, ⟨#[]⟩, .slice none 0 0, []⟩
theorem kIt_fine (W : World) (n : Nat) (h : n < 18446744073709551616) : (kIt n).fine W := ⟨SeesR.nil W, fun h => by simp [kIt] at h, fun _ h => (by cases h), h, (by show (0 : Nat) < 18446744073709551616; decide)⟩
def kPg (fr en : Nat) (iv : Value) (ns : List Nat) (gv : Value) (gs : List PGap) : Pg := ⟨fr, en, iv, ns.map kIt, gv, gs, false⟩
def kFull (iv gv : Value) : Pg := kPg 1 10 iv [1, 3, 8, 9] gv [(2, 2), (4, 5), (6, 7)]
theorem kPg_fine {W : World} (fr en : Nat) (iv : Value) (ns : List Nat) (gv : Value) (gs : List PGap) (hi : SeesR W 4 It.cells iv (ns.map kIt)) (hg : SeesR W 2 gapL gv gs) (hn : ∀ n ∈ ns, n < 18446744073709551616) (hgs : ∀ g ∈ gs, g.1 < 18446744073709551616 ∧ g.2 < 18446744073709551616)
    (hfr : fr < 18446744073709551616) (hen : en < 18446744073709551616) (hib : ∀ b, iv.ownBlock = some b → b < W.heap.size) (hgb : ∀ b, gv.ownBlock = some b → b < W.heap.size) : (kPg fr en iv ns gv gs).fine W :=
  ⟨⟨hi, fun y hy => by obtain ⟨n, h1, rfl⟩ := List.mem_map.1 hy; exact kIt_fine W n (hn n h1), hg⟩, hgs, ⟨hfr, hen⟩, fun _ => hib, fun _ => hgb⟩
theorem kFull_ok (iv gv : Value) : pgOk (kFull iv gv).plain = true := by
  show pgOk ⟨1, 10, ([1, 3, 8, 9].map kIt).map It.plain, [(2, 2), (4, 5), (6, 7)], false⟩ = true
  decide +kernel
end Go.Proofs.Ytlpbbcjmmhabfaa
