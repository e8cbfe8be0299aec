/- DERIVED. Rows of the call's own whose elements hold slices of their own. Plain forms of constraints, items, gaps. -/
import Derived.Test.YtlpbbcjmmhabfaaY08
import Derived.Test.YtlpbbcjmmhabfaaY09
namespace Go.Proofs.Ytlpbbcjmmhabfaa
open Go.RowKit

section
variable {α : Type} {w w' : World} {B : Nat} {E : TypeId} {k : Nat} {enc : α → List Value} {nv : α → Value} {fine : α → World → Prop} {v : Value} {l : List α}
/-- rows of the call's own (from block B on), each with a slice of its own that is fine -/
def OwnN (w : World) (B : Nat) (E : TypeId) (k : Nat) (enc : α → List Value) (nv : α → Value) (fine : α → World → Prop) (v : Value) (l : List α) : Prop :=
  OwnsR w B E k enc v l ∧ ∀ x ∈ l, fine x w ∧ ∀ b, (nv x).ownBlock = some b → B ≤ b ∧ b < w.heap.size ∧ v.ownBlock ≠ some b
theorem OwnN.nil (w : World) (B : Nat) : OwnN w B E k enc nv fine (.slice none 0 0) [] := ⟨OwnsR.nil w B, fun _ h => by cases h⟩
/-- what fine says hangs on the slice's block alone -/
def FineK (nv : α → Value) (fine : α → World → Prop) : Prop := ∀ (S : Nat → Prop) (x : α) (w w' : World), fine x w → Keeps S w w' → (∀ b, (nv x).ownBlock = some b → ¬ S b) → fine x w'
theorem OwnN.keeps {S : Nat → Prop} (hf : FineK nv fine) (h : OwnN w B E k enc nv fine v l) (hk : Keeps S w w') (hS : ∀ b, B ≤ b → b < w.heap.size → ¬ S b) : OwnN w' B E k enc nv fine v l :=
  ⟨h.1.keeps hk (fun b hb => hS b (h.1.block b hb).1 (h.1.block b hb).2), fun x hx =>
    ⟨hf S x w w' (h.2 x hx).1 hk (fun b hb => hS b ((h.2 x hx).2 b hb).1 ((h.2 x hx).2 b hb).2.1), fun b hb =>
      ⟨((h.2 x hx).2 b hb).1, Nat.lt_of_lt_of_le ((h.2 x hx).2 b hb).2.1 hk.size, ((h.2 x hx).2 b hb).2.2⟩⟩⟩
/-- an element more, behind an append -/
theorem OwnN.snoc {v' : Value} {y : α} (hf : FineK nv fine) (h : OwnN w B E k enc nv fine v l) (hy : fine y w) (hb : ∀ b, (nv y).ownBlock = some b → B ≤ b ∧ b < w.heap.size ∧ v.ownBlock ≠ some b)
    (ho : OwnsR w' B E k enc v' (l ++ [y])) (hg : w.grownBy w' v.ownBlock) (hv : v'.ownBlock = v.ownBlock ∨ v'.ownBlock = some w.heap.size) : OwnN w' B E k enc nv fine v' (l ++ [y]) := by
  have hk : Keeps (fun b => v.ownBlock = some b) w w' := (Keeps.refl _ w).grown hg (fun b hb _ => hb)
  have key : ∀ x, fine x w → (∀ b, (nv x).ownBlock = some b → B ≤ b ∧ b < w.heap.size ∧ v.ownBlock ≠ some b) → fine x w' ∧ ∀ b, (nv x).ownBlock = some b → B ≤ b ∧ b < w'.heap.size ∧ v'.ownBlock ≠ some b := by
    intro x hx hxb
    refine ⟨hf _ x w w' hx hk (fun b hb e => (hxb b hb).2.2 e), fun b hb => ⟨(hxb b hb).1, Nat.lt_of_lt_of_le (hxb b hb).2.1 hk.size, fun e => ?_⟩⟩
    rcases hv with hv | hv
    · exact (hxb b hb).2.2 (hv ▸ e)
    · rw [hv] at e
      have : b = w.heap.size := by simpa using e.symm
      have := (hxb b hb).2.1
      omega
  refine ⟨ho, fun x hx => ?_⟩
  rcases List.mem_append.1 hx with hx | hx
  · exact key x (h.2 x hx).1 (h.2 x hx).2
  · obtain rfl : x = y := by simpa using hx
    exact key x hy hb
end

/-- a constraint, without where its set lies -/
structure PCon where
  name : ByteArray
  op : Int
  val : Val
  set : List Val
def Con.plain (c : Con) : PCon := ⟨c.name, c.op, c.val, c.set⟩
abbrev noVal : Val := ⟨0, 0, ⟨#[]⟩, false⟩
def pCon (l : List UInt8) : Option (PCon × List UInt8) := (pText 16 l).bind fun x => (pNum 9 x.2).bind fun y =>
  if y.1 = 1 then some (⟨x.1, 1, noVal, []⟩, y.2)
  else if y.1 = 9 then (pList 6 pVal y.2).map fun z => (⟨x.1, 9, noVal, z.1⟩, z.2)
  else (pVal y.2).map fun z => (⟨x.1, y.1, z.1, []⟩, z.2)
abbrev OwnsV (w : World) (B : Nat) (v : Value) (l : List Val) : Prop := OwnsR w B 78 4 valL v l
theorem Try.infoVal : (Try.prog.info? 78).map (fun i => (i.zero, i.size, i.bytes)) = some (some (.agg #[.int .i64 0, .int .i64 0, .string ⟨#[]⟩, .bool false]), 4, 40) := by kernel_rfl
theorem Try.infoCon : (Try.prog.info? 105).map (fun i => (i.zero, i.size, i.bytes)) = some (some (.agg #[.string ⟨#[]⟩, .int .i64 0, .int .i64 0, .int .i64 0, .string ⟨#[]⟩, .bool false, .slice none 0 0]), 7, 88) := by kernel_rfl
theorem blk7 {w : World} {b : Nat} {t : TypeId} {a0 a1 a2 a3 a4 a5 a6 : Value} (h : w.heap[b]? = some (.cells #[a0, a1, a2, a3, a4, a5, a6] t (0, 0))) :
    (w.cell? ⟨b, 0, none⟩ = some a0 ∧ w.cell? ⟨b, 1, none⟩ = some a1 ∧ w.cell? ⟨b, 2, none⟩ = some a2 ∧ w.cell? ⟨b, 3, none⟩ = some a3 ∧ w.cell? ⟨b, 4, none⟩ = some a4 ∧ w.cell? ⟨b, 5, none⟩ = some a5 ∧ w.cell? ⟨b, 6, none⟩ = some a6) ∧
    (w.frozen? ⟨b, 0, none⟩ = false ∧ w.frozen? ⟨b, 1, none⟩ = false ∧ w.frozen? ⟨b, 2, none⟩ = false ∧ w.frozen? ⟨b, 3, none⟩ = false ∧ w.frozen? ⟨b, 4, none⟩ = false ∧ w.frozen? ⟨b, 5, none⟩ = false ∧ w.frozen? ⟨b, 6, none⟩ = false) := by simp [World.cell?, World.frozen?, h]
end Go.Proofs.Ytlpbbcjmmhabfaa
