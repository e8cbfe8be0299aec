/- DERIVED. Words for byte slices, worlds that keep what was there, and laws for the walk over them. No project text. · DERIVED. A region that draws its order, whose own operations only read, whose callees read and MAKE memory: one walk, over the class of the worlds in which all that was is as it was. · DERIVED. Slices whose elements take several cells: how they read. · DERIVED. A region that draws its order: loads are taken first where nobody but operations that wait for them writes their cells. Plain theorems over any program. -/
import Derived.Test.YtiednihagnehlaaProg
import Derived.WalkKit
import Derived.WalkLawsBesides
import Derived.WalkSpells
import Derived.Lib.Hide
import Derived.Laws.AppendOwnNone
import Derived.Lib.SliceRun
import Derived.Lib.SlBytesConst
import Derived.Lib.ConvBytes
import Derived.BigQuiet
import Derived.Deep.RegionHeld3
namespace Go.Proofs.Ytiednihagnehlaa
open Go.RowKit

/-- a byte as a cell's value -/
def u8 (b : UInt8) : Value := .int .u8 (b.toNat : Int)

/-- blocks outside S that were there are as they were; the streams are as they were -/
structure Keeps (S : Nat → Prop) (w w' : World) : Prop where
 os : w'.os = w.os
 tape : w'.tape = w.tape
 output : w'.output = w.output
 size : w.heap.size ≤ w'.heap.size
 block : ∀ k, k < w.heap.size → ¬ S k → w'.heap[k]? = w.heap[k]?

theorem Keeps.refl (S : Nat → Prop) (w : World) : Keeps S w w := ⟨rfl, rfl, rfl, Nat.le_refl _, fun _ _ _ => rfl⟩
theorem Keeps.trans {S : Nat → Prop} {a b c : World} (h : Keeps S a b) (k : Keeps S b c) : Keeps S a c :=
 ⟨k.os.trans h.os, k.tape.trans h.tape, k.output.trans h.output, Nat.le_trans h.size k.size,
  fun i hi hs => (k.block i (Nat.lt_of_lt_of_le hi h.size) hs).trans (h.block i hi hs)⟩
/-- what the second step may touch is allowed, or was not there at first -/
theorem Keeps.then {S T : Nat → Prop} {a b c : World} (h : Keeps S a b) (k : Keeps T b c) (hT : ∀ i, i < a.heap.size → T i → S i) : Keeps S a c :=
 ⟨k.os.trans h.os, k.tape.trans h.tape, k.output.trans h.output, Nat.le_trans h.size k.size,
  fun i hi hs => (k.block i (Nat.lt_of_lt_of_le hi h.size) (fun t => hs (hT i hi t))).trans (h.block i hi hs)⟩
theorem Keeps.weaken {S T : Nat → Prop} {a b : World} (h : Keeps S a b) (hT : ∀ i, i < a.heap.size → S i → T i) : Keeps T a b :=
 ⟨h.os, h.tape, h.output, h.size, fun i hi hs => h.block i hi (fun t => hs (hT i hi t))⟩
theorem Keeps.below {B : Nat} {a b : World} (h : Keeps (fun k => B ≤ k) a b) (hB : B ≤ a.heap.size) : Below B a b :=
 ⟨h.os, h.tape, h.output, h.size, fun k hk => h.block k (Nat.lt_of_lt_of_le hk hB) (by omega)⟩
theorem Keeps.of_below {B : Nat} {a b : World} (h : Below B a b) : Keeps (fun k => B ≤ k) a b :=
 ⟨h.os, h.tape, h.output, h.size, fun k _ hs => h.block k (by omega)⟩
/-- nothing that was there has turned -/
abbrev Old (w w' : World) : Prop := Keeps (fun _ => False) w w'
theorem Old.below {a b : World} (h : Old a b) : Below a.heap.size a b := ⟨h.os, h.tape, h.output, h.size, fun k hk => h.block k hk (fun f => f)⟩
theorem Old.of_below {B : Nat} {a b : World} (h : Below B a b) (hB : a.heap.size ≤ B) : Old a b := ⟨h.os, h.tape, h.output, h.size, fun k hk _ => h.block k (by omega)⟩
theorem Keeps.alloc {S : Nat → Prop} {a w : World} (h : Keeps S a w) (o : Obj) : Keeps S a (w.alloc o) :=
 h.trans ⟨rfl, rfl, rfl, by simp, fun k hk _ => Below.heap_alloc _ _ _ hk⟩
theorem Keeps.drew {S : Nat → Prop} {a w : World} (h : Keeps S a w) : Keeps S a w.drew := ⟨h.os, h.tape, h.output, h.size, h.block⟩
theorem Keeps.setCell {S : Nat → Prop} {a w : World} (h : Keeps S a w) {p : Addr} (hp : p.block < a.heap.size → S p.block) (u : Value) : Keeps S a (w.setCell p u) :=
 ⟨h.os, h.tape, h.output, by simpa [World.setCell] using h.size, fun k hk hs =>
  (Below.heap_setCell _ _ _ _ (fun e => hs (by subst e; exact hp hk))).trans (h.block k hk hs)⟩
theorem Keeps.grown {S : Nat → Prop} {a w w' : World} {row : Option Nat} (h : Keeps S a w) (hg : w.grownBy w' row) (hr : ∀ k, row = some k → k < a.heap.size → S k) : Keeps S a w' :=
 h.then (T := fun k => some k = row) ⟨hg.os, hg.tape, hg.output, hg.size, fun k hk hne => hg.block k hk hne⟩ (fun i hi e => hr i e.symm hi)
theorem Keeps.cell {S : Nat → Prop} {w w' : World} (h : Keeps S w w') {p : Addr} {v : Value} (hv : w.cell? p = some v) (hs : ¬ S p.block) : w'.cell? p = some v := by
 have hlt := World.block_lt_of_cell? w p hv
 exact (World.cell?_of_block (w := w) (h.block p.block hlt hs)).trans hv
theorem Keeps.frozen {S : Nat → Prop} {w w' : World} (h : Keeps S w w') {p : Addr} (hlt : p.block < w.heap.size) (hs : ¬ S p.block) : w'.frozen? p = w.frozen? p :=
 World.frozen?_of_block (w := w) (h.block p.block hlt hs)
theorem ownsRow_keeps {S : Nat → Prop} {w w' : World} {base : Nat} {e : TypeId} {size : Nat} {v : Value} {n : Nat} {xs : List Value} (h : w.ownsRow base e size v n xs) (hk : Keeps S w w')
  (hS : ∀ k, v.ownBlock = some k → ¬ S k) : w'.ownsRow base e size v n xs := by
 refine ⟨h.1, ?_⟩
 rcases h.2 with hn | ⟨g, cap, cur, rfl, hb, hgg, rest⟩
 ·exact .inl hn
 ·refine .inr ⟨g, cap, cur, rfl, hb, ?_, rest⟩
  rw [hk.block g (Array.getElem?_eq_some_iff.1 hgg).1 (hS g rfl)]
  exact hgg
theorem ownsRow_mono {w : World} {base base' : Nat} {e : TypeId} {size : Nat} {v : Value} {n : Nat} {xs : List Value} (h : w.ownsRow base e size v n xs) (hb : base' ≤ base) : w.ownsRow base' e size v n xs := by
 refine ⟨h.1, ?_⟩
 rcases h.2 with hn | ⟨g, cap, cur, rfl, hb', rest⟩
 ·exact .inl hn
 ·exact .inr ⟨g, cap, cur, rfl, by omega, rest⟩

/-- the slice value v reads as the bytes l -/
def Sees (w : World) (v : Value) (l : List UInt8) : Prop :=
 ∃ p c, v = .slice p l.length c ∧ l.length ≤ c ∧ c ≤ maxLen ∧ (p = none → c = 0) ∧
  ∀ a, p = some a → (0 < c → a.spot = none) ∧ ∀ j b, l[j]? = some b → w.cell? (a.add j) = some (u8 b)

theorem Sees.nil (w : World) : Sees w (.slice none 0 0) [] := ⟨none, 0, rfl, Nat.le_refl _, Nat.zero_le _, fun _ => rfl, fun _ h => by cases h⟩
theorem Sees.keeps {S : Nat → Prop} {w w' : World} {v : Value} {l : List UInt8} (h : Sees w v l) (hk : Keeps S w w') (hS : ∀ k, v.ownBlock = some k → ¬ S k) : Sees w' v l := by
 obtain ⟨p, c, rfl, h1, h2, h3, h4⟩ := h
 refine ⟨p, c, rfl, h1, h2, h3, fun a ha => ⟨(h4 a ha).1, fun j b hj => ?_⟩⟩
 refine hk.cell ((h4 a ha).2 j b hj) ?_
 have : (a.add j).block = a.block := by unfold Addr.add; split <;> rfl
 rw [this]
 exact hS _ (by subst ha; rfl)
theorem Sees.old {w w' : World} {v : Value} {l : List UInt8} (h : Sees w v l) (hk : Old w w') : Sees w' v l := h.keeps hk (fun _ _ f => f)
theorem Sees.alloc {w : World} {v : Value} {l : List UInt8} (h : Sees w v l) (o : Obj) : Sees (w.alloc o) v l := h.old ((Keeps.refl _ _).alloc o)
theorem Sees.drew {w : World} {v : Value} {l : List UInt8} (h : Sees w v l) : Sees w.drew v l := h

/-- v is a slice of bytes of the call's own (from block B on): the bytes l -/
def Owns (w : World) (B : Nat) (v : Value) (l : List UInt8) : Prop := w.ownsRow B 5 1 v l.length (l.map u8)

theorem Owns.sees {w : World} {B : Nat} {v : Value} {l : List UInt8} (h : Owns w B v l) : Sees w v l := by
 obtain ⟨h1, h2⟩ := h
 rcases h2 with ⟨rfl, h0⟩ | ⟨g, cap, cur, rfl, hb, hgg, hn, hm, hs, ht⟩
 ·exact ⟨none, 0, by rw [h0], by omega, Nat.zero_le _, fun _ => rfl, fun _ h => by cases h⟩
 ·refine ⟨_, cap, rfl, hn, hm, fun h => (by cases h), fun a ha => ?_⟩
  cases ha
  refine ⟨fun _ => rfl, fun j b hj => ?_⟩
  rw [show (⟨g, 0, none⟩ : Addr).add j = ⟨g, j, none⟩ from by unfold Addr.add; split <;> simp_all]
  rw [cell_of_row w g j cur _ (0, 0) hgg]
  have hj' : (l.map u8)[j]? = some (u8 b) := by simp [hj]
  rw [← ht, List.getElem?_take] at hj'
  split at hj'
  ·simpa using hj'
  ·cases hj'
theorem Owns.mono {w : World} {B B' : Nat} {v : Value} {l : List UInt8} (h : Owns w B v l) (hb : B' ≤ B) : Owns w B' v l := ownsRow_mono h hb
theorem Owns.keeps {S : Nat → Prop} {w w' : World} {B : Nat} {v : Value} {l : List UInt8} (h : Owns w B v l) (hk : Keeps S w w') (hS : ∀ k, v.ownBlock = some k → ¬ S k) : Owns w' B v l := ownsRow_keeps h hk hS
theorem Owns.old {w w' : World} {B : Nat} {v : Value} {l : List UInt8} (h : Owns w B v l) (hk : Old w w') : Owns w' B v l := h.keeps hk (fun _ _ f => f)
theorem Owns.nil (w : World) (B : Nat) : Owns w B (.slice none 0 0) [] := World.ownsRow_nil w B _ 1
theorem Owns.block {w : World} {B : Nat} {v : Value} {l : List UInt8} (h : Owns w B v l) : ∀ k, v.ownBlock = some k → B ≤ k ∧ k < w.heap.size := h.lt
theorem Owns.le_max {w : World} {B : Nat} {v : Value} {l : List UInt8} (h : Owns w B v l) : l.length ≤ maxLen := by
 obtain ⟨p, c, _, h1, h2, _⟩ := h.sees; omega

theorem oneCell_u8 (l : List UInt8) : ∀ u ∈ l.map u8, u.oneCell' = true := by
 intro u hu; obtain ⟨b, _, rfl⟩ := List.mem_map.1 hu; rfl

theorem Try.infoU8 : (Try.prog.info? 5).map (fun i => (i.zero, i.size, i.bytes)) = some (some (.int .u8 0), 1, 1) := by kernel_rfl

/-- append(own.., seen..) -/
theorem wpList_append_sees {w : World} {ops : Array Oper} {rest : List Oper} {o : Oper} {a : Act} {Q : Exit → Act → World → Prop} (hgd : o.guard = none) (s x : Operand)
  (ho : o.op = .call { callee := .builtin .append, args := #[s, x], argTypes := #[146, 146] })
  (B : Nat) (v : Value) (l : List UInt8) (hs : a.eval s = v) (hown : Owns w B v l) (u : Value) (m : List UInt8) (hx : a.eval x = u) (hu : Sees w u m)
  (hlen : l.length + m.length ≤ 1152921504606) (hB : B ≤ w.heap.size)
  (h : ∀ v' w', Owns w' B v' (l ++ m) → w.grownBy w' v.ownBlock → wpList Try.prog ops Q rest (a.put o.dst v') w') : wpList Try.prog ops Q (o :: rest) a w := by
 obtain ⟨p, c, rfl, h1, h2, h3, h4⟩ := hu
 cases p with
 | none =>
  obtain rfl := h3 rfl
  obtain rfl : m = [] := List.eq_nil_of_length_eq_zero (by omega)
  obtain ⟨i0, hi, hz0, hz1, hz2⟩ := info_parts Try.infoU8
  exact wpList_append_own_none hgd s x 146 ho B 5 i0 1 Try.underlying146 hi v l.length (l.map u8) hs hown hx (h v w (by simpa using hown) (World.grownBy.refl _ _))
 | some ad =>
  obtain ⟨i0, hi, hz0, hz1, hz2⟩ := info_parts Try.infoU8
  refine wpList_append_own w hgd s x 146 ho B 5 i0 (.int .u8 0) 1 1 Try.underlying146 hi hz0 hz1 hz2 rfl (by decide) v l.length (l.map u8) hs hown
   ad m.length c (m.map u8) hx (by simp) ?_ (oneCell_u8 m) (by unfold maxLen; omega) (by omega) hB ?_
  ·intro j z hz
   rw [List.getElem?_map, Option.map_eq_some_iff] at hz
   obtain ⟨b, hb, rfl⟩ := hz
   exact (h4 ad rfl).2 j b hb
  ·intro v' w' ho' hg' _
   exact h v' w' (by unfold Owns; simpa using ho') hg'

/-- string(b) -/
theorem Sees.text {w : World} {v : Value} {l : List UInt8} (h : Sees w v l) : (convert 146 9 v).run Try.prog w = .ok (.string ⟨l.toArray⟩) w := by
 obtain ⟨p, c, rfl, h1, h2, h3, h4⟩ := h
 cases p with
 | none =>
  obtain rfl := h3 rfl
  obtain rfl : l = [] := List.eq_nil_of_length_eq_zero (by omega)
  exact run_convert_bytes_nil _ _ _ Try.underlying146 Try.underlying5 0 0 _ Try.underlying9
 | some ad =>
  refine run_convert_bytes_back w _ _ _ ad c l Try.underlying146 Try.underlying5 Try.underlying9 ?_
  intro j hj
  exact (h4 ad rfl).2 j l[j] (by simp [hj])

/-- b == nil -/
theorem eql_nil (w : World) (a : Option Addr) (n c : Nat) : (binOp .eql 146 (.slice a n c) (.slice none 0 0)).run Try.prog w = .ok (.bool a.isNone) w :=
 Lib.run_eql_slice_nil w _ _ a n c 0 0 Try.underlying146

/-- []byte{..}: a new row -/
theorem Owns.lit (w : World) (B : Nat) (l : List UInt8) (hb : B ≤ w.heap.size) (hm : l.length ≤ maxLen) :
  Owns (w.alloc (.cells (l.map u8).toArray 5)) B (.slice (some ⟨w.heap.size, 0, none⟩) l.length l.length) l := by
 have h := World.ownsRow_lit (base := B) (e := 5) (size := 1) w (l.map u8).toArray l.length hb hm (by simp)
 simpa [Owns] using h

/-- a new block of one byte -/
theorem Sees.one (w : World) (z : Int) (b : UInt8) (hz : z = (b.toNat : Int)) : Sees (w.alloc (.cells #[.int .u8 z] 5)) (.slice (some ⟨w.heap.size, 0, none⟩) 1 1) [b] := by
 have h := (Owns.lit w 0 [b] (Nat.zero_le _) (by unfold maxLen; simp)).sees
 simpa [u8, hz] using h
theorem Owns.alloc {w : World} {B : Nat} {v : Value} {l : List UInt8} (h : Owns w B v l) (o : Obj) : Owns (w.alloc o) B v l := h.old ((Keeps.refl _ _).alloc o)


theorem Sees.len {w : World} {v : Value} {l : List UInt8} (h : Sees w v l) : ∃ p c, v = .slice p l.length c ∧ l.length ≤ c ∧ c ≤ maxLen := by
 obtain ⟨p, c, h0, h1, h2, _⟩ := h; exact ⟨p, c, h0, h1, h2⟩
/-- a cell of a slice that is not empty -/
theorem Sees.at {w : World} {v : Value} {l : List UInt8} (h : Sees w v l) (hl : 0 < l.length) : ∃ b o c, v = .slice (some ⟨b, o, none⟩) l.length c ∧ l.length ≤ c ∧ c ≤ maxLen ∧ ∀ j x, l[j]? = some x → w.cell? ⟨b, o + j, none⟩ = some (u8 x) := by
 obtain ⟨p, c, rfl, h1, h2, h3, h4⟩ := h
 cases p with
 | none => have := h3 rfl; omega
 | some a =>
  obtain ⟨b, o, s⟩ := a
  obtain ⟨hs, hc⟩ := h4 _ rfl
  obtain rfl : s = none := hs (by omega)
  refine ⟨b, o, c, rfl, h1, h2, fun j x hj => ?_⟩
  have := hc j x hj
  rwa [show (⟨b, o, none⟩ : Addr).add j = ⟨b, o + j, none⟩ from by unfold Addr.add; split <;> simp_all] at this

/-- x[lo:hi] -/
theorem Sees.sliced {w : World} {p : Option Addr} {c : Nat} {l : List UInt8} (h : Sees w (.slice p l.length c) l) (lo hi : Nat) (h1 : lo ≤ hi) (h2 : hi ≤ l.length) :
  Sees w (Go.sliced p lo hi c 1) ((l.take hi).drop lo) ∧ ∀ b, (Go.sliced p lo hi c 1).ownBlock = some b → (Value.slice p l.length c).ownBlock = some b := by
 obtain ⟨p', c', he, hc1, hc2, hc3, hc4⟩ := h
 simp only [Value.slice.injEq, true_and] at he
 obtain ⟨rfl, rfl⟩ := he
 have hlen : ((l.take hi).drop lo).length = hi - lo := by simp; omega
 unfold Go.sliced
 refine ⟨⟨_, c - lo, by rw [hlen], by rw [hlen]; omega, by omega, ?_, ?_⟩, ?_⟩
 ·intro hn
  split at hn
  ·have := hc3 hn; omega
  ·cases p with
   | none => have := hc3 rfl; omega
   | some a => simp at hn
 ·intro a ha
  split at ha
  ·rename_i e
   subst ha
   refine ⟨fun h => by omega, fun j b hj => ?_⟩
   have hz : ((l.take hi).drop lo).length = 0 := by rw [hlen]; omega
   rw [List.length_eq_zero_iff.1 hz] at hj
   cases hj
  ·cases p with
   | none => simp at ha
   | some a' =>
    simp only [Option.map_some, Option.some.injEq] at ha
    subst ha
    obtain ⟨hs, hc⟩ := hc4 a' rfl
    obtain ⟨b', o', s'⟩ := a'
    rename_i hcl
    obtain rfl : s' = none := hs (by omega)
    refine ⟨fun _ => by unfold Addr.add; split <;> rfl, fun j b hj => ?_⟩
    have hj' : l[lo + j]? = some b := by
     rw [List.getElem?_drop, List.getElem?_take] at hj
     split at hj
     ·exact hj
     ·cases hj
    have := hc (lo + j) b hj'
    rw [← this]
    congr 1
    unfold Addr.add
    simp only [Nat.mul_one]
    split <;> split <;> split <;> simp_all <;> omega
 ·intro b hb
  simp only [Value.ownBlock] at hb ⊢
  split at hb
  ·rename_i a _ _ heq
   simp only [Value.slice.injEq] at heq
   obtain ⟨heq, _, _⟩ := heq
   split at heq
   ·subst heq; exact hb
   ·cases p with
    | none => simp at heq
    | some a' =>
     simp only [Option.map_some, Option.some.injEq] at heq
     subst heq
     simp only [Option.some.injEq] at hb ⊢
     rw [← hb]
     unfold Addr.add
     split <;> rfl
  ·cases hb


/-- x[lo:], as an equation on the run -/
theorem Sees.from {w : World} {p : Option Addr} {n c : Nat} {l : List UInt8} (h : Sees w (.slice p n c) l) (lo : Nat) (h1 : lo ≤ l.length) (k : IntKind) (x : Int) (hx : x = (lo : Int)) :
  ∃ p' c', (∀ W, (Instr.slice 146 (.slice p n c) (some (.int k x)) none none).run Try.prog W = .ok (.slice p' (l.length - lo) c') W) ∧ Sees w (.slice p' (l.length - lo) c') (l.drop lo) ∧
   ∀ b, (Value.slice p' (l.length - lo) c').ownBlock = some b → (Value.slice p n c).ownBlock = some b := by
 obtain ⟨p0, c0, he, _, _⟩ := h.len
 simp only [Value.slice.injEq] at he
 obtain ⟨rfl, rfl, rfl⟩ := he
 have hs := h.sliced lo l.length h1 (Nat.le_refl _)
 rw [List.take_of_length_le (Nat.le_refl _)] at hs
 refine ⟨_, _, fun W => ?_, hs.1, hs.2⟩
 subst hx
 have hlo : (lo : Int) ≤ (l.length : Int) := by omega
 simp [go_sem, hlo]
/-- x[:hi] -/
theorem Sees.upto {w : World} {p : Option Addr} {n c : Nat} {l : List UInt8} (h : Sees w (.slice p n c) l) (hi : Nat) (h1 : hi ≤ l.length) (k : IntKind) (x : Int) (hx : x = (hi : Int)) :
  ∃ p' c', (∀ W, (Instr.slice 146 (.slice p n c) none (some (.int k x)) none).run Try.prog W = .ok (.slice p' hi c') W) ∧ Sees w (.slice p' hi c') (l.take hi) ∧
   ∀ b, (Value.slice p' hi c').ownBlock = some b → (Value.slice p n c).ownBlock = some b := by
 obtain ⟨p0, c0, he, hc, _⟩ := h.len
 simp only [Value.slice.injEq] at he
 obtain ⟨rfl, rfl, rfl⟩ := he
 have hs := h.sliced 0 hi (Nat.zero_le _) h1
 rw [List.drop_zero] at hs
 refine ⟨_, _, fun W => ?_, hs.1, hs.2⟩
 subst hx
 have hhi : (hi : Int) ≤ (c : Int) := by omega
 simp [go_sem, hhi]


/-- a cell that may be written, behind a step that keeps its block -/
theorem Keeps.cf {S : Nat → Prop} {w w' : World} (h : Keeps S w w') {p : Addr} {v : Value} (hv : w.cell? p = some v ∧ w.frozen? p = false) (hs : ¬ S p.block) : w'.cell? p = some v ∧ w'.frozen? p = false :=
 ⟨h.cell hv.1 hs, (h.frozen (World.block_lt_of_cell? w p hv.1) hs).trans hv.2⟩


/-- a new block of bytes, marked or not -/
theorem Sees.new (w : World) (l : List UInt8) (fr : Nat × Nat) (hm : l.length ≤ maxLen) : Sees (w.alloc (.cells (l.map u8).toArray 5 fr)) (.slice (some ⟨w.heap.size, 0, none⟩) l.length l.length) l := by
 refine ⟨_, _, rfl, Nat.le_refl _, hm, fun h => (by cases h), fun a ha => ?_⟩
 cases ha
 refine ⟨fun _ => rfl, fun j b hj => ?_⟩
 rw [show (⟨w.heap.size, 0, none⟩ : Addr).add j = ⟨w.heap.size, j, none⟩ from by unfold Addr.add; split <;> simp_all]
 rw [World.cell?_alloc_mark]
 simp [hj]
/-- []byte("..") of a constant -/
theorem conv_const (w : World) (C : Array Value) (n c : Nat) : (convert 146 146 (.slice (some ⟨w.heap.size, 0, none⟩) n c)).run Try.prog (w.alloc (.cells C 5)) = .ok (.slice (some ⟨w.heap.size, 0, none⟩) n c) (w.alloc (.cells C 5 (C.size, C.size + 1))) :=
 Lib.run_convert_bytes_const (P := Try.prog) w 146 5 C n c Try.underlying146 Try.underlying5

/-- []byte(s) -/
theorem conv_str (w : World) (s : ByteArray) (hs : s.size ≤ maxLen) : ∃ p c w', (convert 9 146 (.string s)).run Try.prog w = .ok (.slice p s.size c) w' ∧ Sees w' (.slice p s.size c) s.toList ∧ Old w w' ∧
  (∀ b, (Value.slice p s.size c).ownBlock = some b → w.heap.size ≤ b) := by
 have hsz : s.toList.length = s.size := by rw [ByteArray.toList_eq]; simp
 have hc : s.size ≤ grownCap w s.size 0 5 := grownCap_ge _ _ _ _
 refine ⟨_, _, _, Lib.run_convert_string_bytes w 9 146 5 s Try.underlying9 Try.underlying146 Try.underlying5, ?_, ?_, ?_⟩
 ·refine ⟨_, _, by rw [hsz], by rw [hsz]; exact hc, grownCap_le_maxLen w _ _ _ hs, fun h => (by cases h), fun a ha => ?_⟩
  cases ha
  refine ⟨fun _ => rfl, fun j b hj => ?_⟩
  have hjl : j < s.size := by rw [← hsz]; exact (List.getElem?_eq_some_iff.1 hj).1
  rw [show (⟨w.heap.size, 0, none⟩ : Addr).add j = ⟨w.heap.size, j, none⟩ from by unfold Addr.add; split <;> simp_all]
  rw [Lib.bytesWorld_cell w _ s j hjl]
  have : s.data.toList.getD j 0 = b := by
   rw [ByteArray.toList_eq] at hj
   simp [List.getD, hj]
  rw [this]; rfl
 ·refine ⟨rfl, rfl, rfl, ?_, fun k hk _ => Lib.bytesWorld_at_old w _ s k hk⟩
  rw [Lib.bytesWorld_size]; omega
 ·intro b hb
  simp [Value.ownBlock] at hb
  omega

end Go.Proofs.Ytiednihagnehlaa

namespace Go.Proofs.Ytiednihagnehlaa
open Go.RowKit

/-- a world in which all old memory is as it was -/
structure OldOf (w : World) where
 to : World
 old : Old w to

instance (w : World) : Nonempty (OldOf w) := ⟨⟨w, Keeps.refl _ _⟩⟩

theorem wp_region_quiet_old {P : Program} {id : Nat} {Q : Exit → Act → World → Prop} {a : Act} {w : World} {l : List Oper} (hm : P.follows .mixedOrders = true) (hB : Region.lexB .any l.toArray = true)
  (h : wpQuiet P l.toArray (fun w' => ∃ p : OldOf w, w' = p.to) (fun a' => ∀ w', (∃ p : OldOf w, w' = p.to) → Q .normal a' w') l a) : (Code.region id l.toArray true).wp P Q a w :=
 wp_region_quiet (C := fun w' => ∃ p : OldOf w, w' = p.to) hm hB ⟨⟨w.drew, (Keeps.refl _ _).drew⟩, rfl⟩ (by simpa using h)
theorem Calls.quiet_of_old {P : Program} {f : FuncId} {args : Array Value} {w : World} {p : OldOf w} {v : Value}
  (h : Calls P f args p.to fun e w' => e = .returned v ∧ Old p.to w') : Calls P f args p.to fun e w'' => e = .returned v ∧ ∃ q : OldOf w, w'' = q.to :=
 h.mono fun _ w'' ⟨he, hm⟩ => ⟨he, ⟨w'', p.old.trans hm⟩, rfl⟩
theorem OldOf.cell {w : World} {a : Addr} {v : Value} (h : w.cell? a = some v) : ∀ p : OldOf w, p.to.cell? a = some v := fun p => p.old.cell h (fun f => f)
end Go.Proofs.Ytiednihagnehlaa

namespace Go.Proofs.Ytiednihagnehlaa
open Go.RowKit

/-- the slice value v reads as the things l, each of k cells -/
def SeesR {α : Type} (w : World) (k : Nat) (enc : α → List Value) (v : Value) (l : List α) : Prop :=
 ∃ p c, v = .slice p l.length c ∧ l.length ≤ c ∧ c ≤ maxLen ∧ (p = none → c = 0) ∧
  ∀ a, p = some a → (0 < c → a.spot = none) ∧ ∀ j x, l[j]? = some x → ∀ i u, (enc x)[i]? = some u → w.cell? (a.add (j * k + i)) = some u

variable {α : Type} {w w' : World} {k : Nat} {enc : α → List Value} {v : Value} {l : List α}

theorem block_add (a : Addr) (j : Nat) : (a.add j).block = a.block := by unfold Addr.add; split <;> rfl
theorem SeesR.nil (w : World) : SeesR w k enc (.slice none 0 0) [] := ⟨none, 0, rfl, Nat.le_refl _, Nat.zero_le _, fun _ => rfl, fun _ h => by cases h⟩
theorem SeesR.keeps {S : Nat → Prop} (h : SeesR w k enc v l) (hk : Keeps S w w') (hS : ∀ b, v.ownBlock = some b → ¬ S b) : SeesR w' k enc v l := by
 obtain ⟨p, c, rfl, h1, h2, h3, h4⟩ := h
 refine ⟨p, c, rfl, h1, h2, h3, fun a ha => ⟨(h4 a ha).1, fun j x hj i u hu => ?_⟩⟩
 refine hk.cell ((h4 a ha).2 j x hj i u hu) ?_
 rw [block_add]
 exact hS _ (by subst ha; rfl)
theorem SeesR.old (h : SeesR w k enc v l) (hk : Old w w') : SeesR w' k enc v l := h.keeps hk (fun _ _ f => f)
theorem SeesR.alloc (h : SeesR w k enc v l) (o : Obj) : SeesR (w.alloc o) k enc v l := h.old ((Keeps.refl _ _).alloc o)
theorem SeesR.drew (h : SeesR w k enc v l) : SeesR w.drew k enc v l := h
theorem SeesR.len (h : SeesR w k enc v l) : ∃ p c, v = .slice p l.length c ∧ l.length ≤ c ∧ c ≤ maxLen := by
 obtain ⟨p, c, h0, h1, h2, _⟩ := h; exact ⟨p, c, h0, h1, h2⟩
/-- the cells of a slice that is not empty -/
theorem SeesR.at (h : SeesR w k enc v l) (hl : 0 < l.length) : ∃ b o c, v = .slice (some ⟨b, o, none⟩) l.length c ∧ l.length ≤ c ∧ c ≤ maxLen ∧
  ∀ j x, l[j]? = some x → ∀ i u, (enc x)[i]? = some u → w.cell? ⟨b, o + j * k + i, none⟩ = some u := by
 obtain ⟨p, c, rfl, h1, h2, h3, h4⟩ := h
 cases p with
 | none => have := h3 rfl; omega
 | some a =>
  obtain ⟨b, o, s⟩ := a
  obtain ⟨hs, hc⟩ := h4 _ rfl
  obtain rfl : s = none := hs (by omega)
  refine ⟨b, o, c, rfl, h1, h2, fun j x hj i u hu => ?_⟩
  have := hc j x hj i u hu
  rwa [show (⟨b, o, none⟩ : Addr).add (j * k + i) = ⟨b, o + j * k + i, none⟩ from by unfold Addr.add; split <;> simp_all <;> omega] at this
theorem SeesR.at0 (h : SeesR w k enc v l) (hl : l.length = 0) : l = [] ∧ ∃ p c, v = .slice p 0 c := by
 obtain ⟨p, c, rfl, _⟩ := h.len
 exact ⟨List.eq_nil_of_length_eq_zero hl, p, c, by rw [hl]⟩

/-- x[lo:hi] -/
theorem SeesR.sliced {p : Option Addr} {c : Nat} (h : SeesR w k enc (.slice p l.length c) l) (lo hi : Nat) (h1 : lo ≤ hi) (h2 : hi ≤ l.length) :
  SeesR w k enc (Go.sliced p lo hi c k) ((l.take hi).drop lo) ∧ ∀ b, (Go.sliced p lo hi c k).ownBlock = some b → (Value.slice p l.length c).ownBlock = some b := by
 obtain ⟨p', c', he, hc1, hc2, hc3, hc4⟩ := h
 simp only [Value.slice.injEq, true_and] at he
 obtain ⟨rfl, rfl⟩ := he
 have hlen : ((l.take hi).drop lo).length = hi - lo := by simp; omega
 unfold Go.sliced
 refine ⟨⟨_, c - lo, by rw [hlen], by rw [hlen]; omega, by omega, ?_, ?_⟩, ?_⟩
 ·intro hn
  split at hn
  ·have := hc3 hn; omega
  ·cases p with
   | none => have := hc3 rfl; omega
   | some a => simp at hn
 ·intro a ha
  split at ha
  ·rename_i e
   subst ha
   refine ⟨fun h => by omega, fun j x hj => ?_⟩
   have hz : ((l.take hi).drop lo).length = 0 := by rw [hlen]; omega
   rw [List.length_eq_zero_iff.1 hz] at hj
   cases hj
  ·cases p with
   | none => simp at ha
   | some a' =>
    simp only [Option.map_some, Option.some.injEq] at ha
    subst ha
    obtain ⟨hs, hc⟩ := hc4 a' rfl
    obtain ⟨b', o', s'⟩ := a'
    rename_i hcl
    obtain rfl : s' = none := hs (by omega)
    refine ⟨fun _ => by unfold Addr.add; split <;> rfl, fun j x hj i u hu => ?_⟩
    have hj' : l[lo + j]? = some x := by
     rw [List.getElem?_drop, List.getElem?_take] at hj
     split at hj
     ·exact hj
     ·cases hj
    have := hc (lo + j) x hj' i u hu
    rw [← this]
    congr 1
    have e : (lo + j) * k + i = lo * k + (j * k + i) := by rw [Nat.add_mul]; omega
    rw [e]
    unfold Addr.add
    split <;> split <;> split <;> simp_all <;> omega
 ·intro b hb
  simp only [Value.ownBlock] at hb ⊢
  split at hb
  ·rename_i a _ _ heq
   simp only [Value.slice.injEq] at heq
   obtain ⟨heq, _, _⟩ := heq
   split at heq
   ·subst heq; exact hb
   ·cases p with
    | none => simp at heq
    | some a' =>
     simp only [Option.map_some, Option.some.injEq] at heq
     subst heq
     simp only [Option.some.injEq] at hb ⊢
     rw [← hb]
     unfold Addr.add
     split <;> rfl
  ·cases hb

theorem flat_at (hk : ∀ x, (enc x).length = k) : ∀ (l : List α) (j : Nat) (x : α), l[j]? = some x → ∀ i, i < k → (l.flatMap enc)[j * k + i]? = (enc x)[i]?
 | [], j, x, h => by simp at h
 | y :: r, 0, x, h => by
  intro i hi
  simp only [List.getElem?_cons_zero, Option.some.injEq] at h
  subst h
  rw [List.flatMap_cons, Nat.zero_mul, Nat.zero_add, List.getElem?_append_left (by rw [hk]; exact hi)]
 | y :: r, j + 1, x, h => by
  intro i hi
  simp only [List.getElem?_cons_succ] at h
  have ih := flat_at hk r j x h i hi
  rw [List.flatMap_cons, List.getElem?_append_right (by rw [hk, Nat.succ_mul]; omega), hk]
  rw [show (j + 1) * k + i - k = j * k + i from by rw [Nat.succ_mul]; omega]
  exact ih
theorem flat_at' {k : Nat} {enc : α → List Value} {l : List α} (hk : ∀ x ∈ l, (enc x).length = k) : ∀ (j : Nat) (x : α), l[j]? = some x → ∀ i, i < k → (l.flatMap enc)[j * k + i]? = (enc x)[i]? := by
 induction l with
 | nil => intro j x h; simp at h
 | cons y r ih =>
  intro j x h i hi
  rw [List.flatMap_cons]
  rcases j with _ | j
  ·simp only [List.getElem?_cons_zero, Option.some.injEq] at h
   subst h
   rw [Nat.zero_mul, Nat.zero_add, List.getElem?_append_left (by rw [hk y (by simp)]; exact hi)]
  ·simp only [List.getElem?_cons_succ] at h
   rw [List.getElem?_append_right (by rw [hk y (by simp), Nat.succ_mul]; omega), hk y (by simp), show (j + 1) * k + i - k = j * k + i from by rw [Nat.succ_mul]; omega]
   exact ih (fun z hz => hk z (by simp [hz])) j x h i hi
/-- a new block of rows -/
theorem SeesR.new (w : World) (t : TypeId) (fr : Nat × Nat) (l : List α) (cs : Array Value) (hcs : cs.toList = l.flatMap enc) (hk : ∀ x, (enc x).length = k) (hm : l.length ≤ maxLen) :
  SeesR (w.alloc (.cells cs t fr)) k enc (.slice (some ⟨w.heap.size, 0, none⟩) l.length l.length) l := by
 refine ⟨_, _, rfl, Nat.le_refl _, hm, fun h => (by cases h), fun a ha => ?_⟩
 cases ha
 refine ⟨fun _ => rfl, fun j x hj i u hu => ?_⟩
 have hi : i < k := by rw [← hk x]; exact (List.getElem?_eq_some_iff.1 hu).1
 rw [show (⟨w.heap.size, 0, none⟩ : Addr).add (j * k + i) = ⟨w.heap.size, j * k + i, none⟩ from by unfold Addr.add; split <;> simp_all]
 rw [World.cell?_alloc_mark]
 rw [← Array.getElem?_toList, hcs, flat_at hk l j x hj i hi]
 exact hu
end Go.Proofs.Ytiednihagnehlaa

namespace Go.Proofs.Ytiednihagnehlaa
open Go.RowKit

section
variable {P : Program} {ops : Array Oper} {Q : Exit → Act → World → Prop} {md : Region.Mode} {S : World → Prop} {M : List Nat}

/-- whatever order is picked from here on; behind every operation of M the condition S holds -/
def wpAnyG (P : Program) (md : Region.Mode) (ops : Array Oper) (Q : Exit → Act → World → Prop) (S : World → Prop) (M : List Nat) : Nat → Array Bool → Act → World → Prop
 | 0, listed, a, w => Region.ready md ops listed = [] ∧ Q .normal a w
 | fuel + 1, listed, a, w =>
  (Region.ready md ops listed = [] → Q .normal a w) ∧
  ∀ i ∈ Region.ready md ops listed, wpOp P ops Q i (fun a' w' => (M.contains i = true → S w') ∧ wpAnyG P md ops Q S M fuel (listed.setIfInBounds i true) a' w') a w
theorem wpAny_of_g : ∀ (fuel : Nat) (listed : Array Bool) (a : Act) (w : World), wpAnyG P md ops Q S M fuel listed a w → wpAny P md ops Q fuel listed a w
 | 0, _, _, _, h => h
 | fuel + 1, _, _, _, h => ⟨h.1, fun i hi => wpOp_mono (fun a' w' h' => wpAny_of_g fuel _ a' w' h'.2) (h.2 i hi)⟩

/-- those that are not in M wait for i -/
def othersWait (md : Region.Mode) (ops : Array Oper) (M : List Nat) (i : Nat) : Bool :=
 (List.range ops.size).all fun j => M.contains j || (j == i || match ops[j]? with | some o => o.after.any (fun e => Region.binds md e && e.on == i) | none => true)
theorem othersWait_spec {i j : Nat} {o : Oper} (h : othersWait md ops M i = true) (ho : ops[j]? = some o) (hj : M.contains j = false) (hne : j ≠ i) : ∃ e ∈ o.after, Region.binds md e = true ∧ e.on = i := by
 unfold othersWait at h
 rw [List.all_eq_true] at h
 have := h j (by rw [List.mem_range]; exact (Array.getElem?_eq_some_iff.1 ho).1)
 rw [hj, ho] at this
 have hb : (j == i) = false := by simp [hne]
 rw [hb] at this
 simp only [Bool.false_or] at this
 obtain ⟨e, he, hb⟩ := Array.any_eq_true'.1 this
 simp only [Bool.and_eq_true, beq_iff_eq] at hb
 exact ⟨e, he, hb.1, hb.2⟩

theorem wpAnyG_first {i : Nat} {oi : Oper} {v : Value} (hi : ops[i]? = some oi) (hsel : ∀ (j : Nat) (o : Oper) cs b, ops[j]? = some o → o.op ≠ .select cs b)
  (hM : othersWait md ops M i = true)
  (hQ : ∀ c a w, Q (.panic c) (a.put oi.dst v) w → Q (.panic c) a w) :
  ∀ (fuel : Nat) (listed : Array Bool) (a : Act) (w : World),
   (∀ j oj, ops[j]? = some oj → j ≠ i → listed.getD j true = false → (∀ e ∈ oj.after, Region.binds md e = true → e.on ≠ i) → oi.apart ops oj = true) →
   i ∈ Region.ready md ops listed → YieldsIf P ops S oi v a → S w →
   wpAnyG P md ops Q S M fuel (listed.setIfInBounds i true) (a.put oi.dst v) w → wpAnyG P md ops Q S M (fuel + 1) listed a w := by
 intro fuel
 induction fuel with
 | zero =>
  intro listed a w _ hr hy hS H
  refine ⟨fun h => (by rw [h] at hr; cases hr), fun j hj => ?_⟩
  by_cases hji : j = i
  ·subst hji; exact hy.wpOp hi hS ⟨fun _ => hS, H⟩
  ·have := ready_mono hj hji
   rw [H.1] at this
   cases this
 | succ fuel ih =>
  intro listed a w hfree hr hy hS H
  refine ⟨fun h => (by rw [h] at hr; cases hr), fun j hj => ?_⟩
  by_cases hji : j = i
  ·subst hji; exact hy.wpOp hi hS ⟨fun _ => hS, H⟩
  ·have h1 := H.2 j (ready_mono hj hji)
   obtain ⟨hjun, oj, hoj, hall⟩ := mem_ready.1 hj
   have hnot : ∀ e ∈ oj.after, Region.binds md e = true → e.on ≠ i := fun e he hb heq => by
    have h1 := hall e he hb
    have h0 := (mem_ready.1 hr).1
    rw [heq] at h1
    rcases Nat.lt_or_ge i listed.size with h' | h'
    ·simp [h'] at h0 h1; rw [h0] at h1; cases h1
    ·simp [Array.getElem?_eq_none h'] at h1
   have hjM : M.contains j = true := by
    cases hc : M.contains j with
    | true => rfl
    | false =>
     obtain ⟨e, he, hb, hon⟩ := othersWait_spec hM hoj hc hji
     exact absurd hon (hnot e he hb)
   have h2 := wpOp_putIf hoj (hfree j oj hoj hji hjun hnot) (fun cs b => hsel i oi cs b hi) (fun cs b => hsel j oj cs b hoj) hQ hy h1
   have hfree' : ∀ k ok, ops[k]? = some ok → k ≠ i → (listed.setIfInBounds j true).getD k true = false →
     (∀ e ∈ ok.after, Region.binds md e = true → e.on ≠ i) → oi.apart ops ok = true := fun k ok hk hki hun hno => by
    refine hfree k ok hk hki ?_ hno
    by_cases hjk : j = k
    ·subst hjk; exact hjun
    ·rw [getD_set_ne true hjk] at hun; exact hun
   refine wpOp_mono (fun a' w' h3 => ⟨h3.2.1, ih (listed.setIfInBounds j true) a' w' hfree' (ready_mono hr (Ne.symm hji)) h3.1 (h3.2.1 hjM) ?_⟩) h2
   rw [Array.setIfInBounds_comm _ _ hji]
   exact h3.2.2

theorem wpAnyG_take {i : Nat} {oi : Oper} {v : Value} {fuel : Nat} {listed : Array Bool} {a : Act} {w : World} (hi : ops[i]? = some oi)
  (hs : Region.noSelect ops = true) (hf : Region.free md ops listed i = true) (hr : (Region.ready md ops listed).contains i = true) (hM : othersWait md ops M i = true)
  (hQ : ∀ c a w, Q (.panic c) (a.put oi.dst v) w → Q (.panic c) a w) (hy : YieldsIf P ops S oi v a) (hS : S w)
  (h : wpAnyG P md ops Q S M fuel (listed.setIfInBounds i true) (a.put oi.dst v) w) : wpAnyG P md ops Q S M (fuel + 1) listed a w :=
 wpAnyG_first hi (Region.noSelect_spec hs) hM hQ fuel listed a w (Region.free_spec hi hf) (by simpa using hr) hy hS h
theorem wpAnyG_done {listed : Array Bool} {a : Act} {w : World} (hr : Region.ready md ops listed = []) (h : Q .normal a w) :
  ∀ fuel, wpAnyG P md ops Q S M fuel listed a w
 | 0 => ⟨hr, h⟩
 | _ + 1 => ⟨fun _ => h, by rw [hr]; simp⟩
theorem wp_region_g {id : Nat} {a : Act} {w : World} (hm : P.follows .mixedOrders = true) (h : wpAnyG P .any ops Q S M ops.size (Array.replicate ops.size false) a w.drew) : (Code.region id ops true).wp P Q a w :=
 wp_region_any hm (wpAny_of_g _ _ _ _ h)
def AllReadyG (P : Program) (md : Region.Mode) (ops : Array Oper) (Q : Exit → Act → World → Prop) (S : World → Prop) (M : List Nat) (fuel : Nat) (listed : Array Bool) (a : Act) (w : World) (rs : List Nat) : Prop :=
 ∀ i ∈ rs, wpOp P ops Q i (fun a' w' => (M.contains i = true → S w') ∧ wpAnyG P md ops Q S M fuel (listed.setIfInBounds i true) a' w') a w
theorem AllReadyG.nil {fuel : Nat} {listed : Array Bool} {a : Act} {w : World} : AllReadyG P md ops Q S M fuel listed a w [] := fun _ h => by cases h
theorem wpAnyG_ready {rs : List Nat} {fuel : Nat} {listed : Array Bool} {a : Act} {w : World} (hr : Region.ready md ops listed = rs) (hne : rs ≠ [])
  (h : AllReadyG P md ops Q S M fuel listed a w rs) : wpAnyG P md ops Q S M (fuel + 1) listed a w :=
 ⟨fun h0 => absurd (hr ▸ h0) hne, hr ▸ h⟩
theorem AllReadyG.cons {fuel : Nat} {listed : Array Bool} {a : Act} {w : World} {i : Nat} {o : Oper} {rs : List Nat} (ho : ops[i]? = some o)
  (h : ∀ K' : Act → World → Prop, Shut (∀ a w, (M.contains i = true → S w) → wpAnyG P md ops Q S M fuel (listed.setIfInBounds i true) a w → K' a w) → if Region.wanted o (yielded ops a.tmps) = true then Oper.wp P o a w K' Q else K' (a.put o.dst undef) w)
  (hs : AllReadyG P md ops Q S M fuel listed a w rs) : AllReadyG P md ops Q S M fuel listed a w (i :: rs) := fun j hj => by
 rcases List.mem_cons.1 hj with rfl | hj
 ·exact wpOp_step ho (fun K' hK => h K' (fun a w hS hW => hK a w ⟨hS, hW⟩))
 ·exact hs j hj
/-- one operation alone may come up -/
theorem wpAnyG_only {fuel : Nat} {listed : Array Bool} {a : Act} {w : World} {i : Nat} {o : Oper} (hr : Region.ready md ops listed = [i]) (ho : ops[i]? = some o)
  (h : ∀ K' : Act → World → Prop, Shut (∀ a w, (M.contains i = true → S w) → wpAnyG P md ops Q S M fuel (listed.setIfInBounds i true) a w → K' a w) → if Region.wanted o (yielded ops a.tmps) = true then Oper.wp P o a w K' Q else K' (a.put o.dst undef) w) :
  wpAnyG P md ops Q S M (fuel + 1) listed a w := wpAnyG_ready hr (by simp) (AllReadyG.cons ho h AllReadyG.nil)
theorem wpAnyG_takeL {i : Nat} {oi : Oper} {v : Value} {fuel : Nat} {listed : Array Bool} {a : Act} {w : World} (hi : ops.toList[i]? = some oi)
  (hs : Region.noSelect ops = true) (hf : Region.free md ops listed i = true) (hr : (Region.ready md ops listed).contains i = true) (hM : othersWait md ops M i = true)
  (hQ : ∀ c a w, Q (.panic c) (a.put oi.dst v) w → Q (.panic c) a w) (hy : YieldsIf P ops S oi v a) (hS : S w)
  (h : wpAnyG P md ops Q S M fuel (listed.setIfInBounds i true) (a.put oi.dst v) w) : wpAnyG P md ops Q S M (fuel + 1) listed a w :=
 wpAnyG_take (by simpa using hi) hs hf hr hM hQ hy hS h
theorem wpAnyG_onlyL {fuel : Nat} {listed : Array Bool} {a : Act} {w : World} {i : Nat} {o : Oper} (hr : Region.ready md ops listed = [i]) (ho : ops.toList[i]? = some o)
  (h : ∀ K' : Act → World → Prop, Shut (∀ a w, (M.contains i = true → S w) → wpAnyG P md ops Q S M fuel (listed.setIfInBounds i true) a w → K' a w) → if Region.wanted o (yielded ops a.tmps) = true then Oper.wp P o a w K' Q else K' (a.put o.dst undef) w) :
  wpAnyG P md ops Q S M (fuel + 1) listed a w := wpAnyG_only hr (by simpa using ho) h
end
end Go.Proofs.Ytiednihagnehlaa
