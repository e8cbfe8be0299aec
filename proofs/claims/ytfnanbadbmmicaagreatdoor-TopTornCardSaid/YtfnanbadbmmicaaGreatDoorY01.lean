/- DERIVED. Words for byte slices, worlds that keep what was there, and laws for the walk over them. No project text. · DERIVED. Plain: forms of numbers, and how they are read. No program in sight. -/
import Derived.Test.YtfnanbadbmmicaaGreatDoorProg
import Derived.WalkKit
import Derived.WalkLawsBesides
import Derived.WalkSpells
import Derived.Lib.Hide
import Derived.Laws.AppendOwnNone
import Derived.Lib.SliceRun
import Derived.Lib.SlBytesConst
import Derived.Lib.ConvBytes
import Derived.Laws.BitsLemmas
import Derived.Laws.Bits64
namespace Go.Proofs.YtfnanbadbmmicaaGreatDoor
open Go.RowKit

/-- a byte as a cell's value -/
def u8 (b : UInt8) : Value := .int .u8 (b.toNat : Int)

/-- blocks outside S that were there are as they were; the streams are as they were -/
structure Keeps (S : Nat → Prop) (w w' : World) : Prop where
 os : w'.os = w.os
 tape : w'.tape = w.tape
 output : w'.output = w.output
 size : w.heap.size ≤ w'.heap.size
 block : ∀ k, k < w.heap.size → ¬ S k → w'.heap[k]? = w.heap[k]?

theorem Keeps.refl (S : Nat → Prop) (w : World) : Keeps S w w := ⟨rfl, rfl, rfl, Nat.le_refl _, fun _ _ _ => rfl⟩
theorem Keeps.trans {S : Nat → Prop} {a b c : World} (h : Keeps S a b) (k : Keeps S b c) : Keeps S a c :=
 ⟨k.os.trans h.os, k.tape.trans h.tape, k.output.trans h.output, Nat.le_trans h.size k.size,
  fun i hi hs => (k.block i (Nat.lt_of_lt_of_le hi h.size) hs).trans (h.block i hi hs)⟩
/-- what the second step may touch is allowed, or was not there at first -/
theorem Keeps.then {S T : Nat → Prop} {a b c : World} (h : Keeps S a b) (k : Keeps T b c) (hT : ∀ i, i < a.heap.size → T i → S i) : Keeps S a c :=
 ⟨k.os.trans h.os, k.tape.trans h.tape, k.output.trans h.output, Nat.le_trans h.size k.size,
  fun i hi hs => (k.block i (Nat.lt_of_lt_of_le hi h.size) (fun t => hs (hT i hi t))).trans (h.block i hi hs)⟩
theorem Keeps.weaken {S T : Nat → Prop} {a b : World} (h : Keeps S a b) (hT : ∀ i, i < a.heap.size → S i → T i) : Keeps T a b :=
 ⟨h.os, h.tape, h.output, h.size, fun i hi hs => h.block i hi (fun t => hs (hT i hi t))⟩
theorem Keeps.below {B : Nat} {a b : World} (h : Keeps (fun k => B ≤ k) a b) (hB : B ≤ a.heap.size) : Below B a b :=
 ⟨h.os, h.tape, h.output, h.size, fun k hk => h.block k (Nat.lt_of_lt_of_le hk hB) (by omega)⟩
theorem Keeps.of_below {B : Nat} {a b : World} (h : Below B a b) : Keeps (fun k => B ≤ k) a b :=
 ⟨h.os, h.tape, h.output, h.size, fun k _ hs => h.block k (by omega)⟩
/-- nothing that was there has turned -/
abbrev Old (w w' : World) : Prop := Keeps (fun _ => False) w w'
theorem Old.below {a b : World} (h : Old a b) : Below a.heap.size a b := ⟨h.os, h.tape, h.output, h.size, fun k hk => h.block k hk (fun f => f)⟩
theorem Old.of_below {B : Nat} {a b : World} (h : Below B a b) (hB : a.heap.size ≤ B) : Old a b := ⟨h.os, h.tape, h.output, h.size, fun k hk _ => h.block k (by omega)⟩
theorem Keeps.alloc {S : Nat → Prop} {a w : World} (h : Keeps S a w) (o : Obj) : Keeps S a (w.alloc o) :=
 h.trans ⟨rfl, rfl, rfl, by simp, fun k hk _ => Below.heap_alloc _ _ _ hk⟩
theorem Keeps.drew {S : Nat → Prop} {a w : World} (h : Keeps S a w) : Keeps S a w.drew := ⟨h.os, h.tape, h.output, h.size, h.block⟩
theorem Keeps.setCell {S : Nat → Prop} {a w : World} (h : Keeps S a w) {p : Addr} (hp : p.block < a.heap.size → S p.block) (u : Value) : Keeps S a (w.setCell p u) :=
 ⟨h.os, h.tape, h.output, by simpa [World.setCell] using h.size, fun k hk hs =>
  (Below.heap_setCell _ _ _ _ (fun e => hs (by subst e; exact hp hk))).trans (h.block k hk hs)⟩
theorem Keeps.grown {S : Nat → Prop} {a w w' : World} {row : Option Nat} (h : Keeps S a w) (hg : w.grownBy w' row) (hr : ∀ k, row = some k → k < a.heap.size → S k) : Keeps S a w' :=
 h.then (T := fun k => some k = row) ⟨hg.os, hg.tape, hg.output, hg.size, fun k hk hne => hg.block k hk hne⟩ (fun i hi e => hr i e.symm hi)
theorem Keeps.cell {S : Nat → Prop} {w w' : World} (h : Keeps S w w') {p : Addr} {v : Value} (hv : w.cell? p = some v) (hs : ¬ S p.block) : w'.cell? p = some v := by
 have hlt := World.block_lt_of_cell? w p hv
 exact (World.cell?_of_block (w := w) (h.block p.block hlt hs)).trans hv
theorem Keeps.frozen {S : Nat → Prop} {w w' : World} (h : Keeps S w w') {p : Addr} (hlt : p.block < w.heap.size) (hs : ¬ S p.block) : w'.frozen? p = w.frozen? p :=
 World.frozen?_of_block (w := w) (h.block p.block hlt hs)
theorem ownsRow_keeps {S : Nat → Prop} {w w' : World} {base : Nat} {e : TypeId} {size : Nat} {v : Value} {n : Nat} {xs : List Value} (h : w.ownsRow base e size v n xs) (hk : Keeps S w w')
  (hS : ∀ k, v.ownBlock = some k → ¬ S k) : w'.ownsRow base e size v n xs := by
 refine ⟨h.1, ?_⟩
 rcases h.2 with hn | ⟨g, cap, cur, rfl, hb, hgg, rest⟩
 ·exact .inl hn
 ·refine .inr ⟨g, cap, cur, rfl, hb, ?_, rest⟩
  rw [hk.block g (Array.getElem?_eq_some_iff.1 hgg).1 (hS g rfl)]
  exact hgg
theorem ownsRow_mono {w : World} {base base' : Nat} {e : TypeId} {size : Nat} {v : Value} {n : Nat} {xs : List Value} (h : w.ownsRow base e size v n xs) (hb : base' ≤ base) : w.ownsRow base' e size v n xs := by
 refine ⟨h.1, ?_⟩
 rcases h.2 with hn | ⟨g, cap, cur, rfl, hb', rest⟩
 ·exact .inl hn
 ·exact .inr ⟨g, cap, cur, rfl, by omega, rest⟩

/-- the slice value v reads as the bytes l -/
def Sees (w : World) (v : Value) (l : List UInt8) : Prop :=
 ∃ p c, v = .slice p l.length c ∧ l.length ≤ c ∧ c ≤ maxLen ∧ (p = none → c = 0) ∧
  ∀ a, p = some a → (0 < c → a.spot = none) ∧ ∀ j b, l[j]? = some b → w.cell? (a.add j) = some (u8 b)

theorem Sees.nil (w : World) : Sees w (.slice none 0 0) [] := ⟨none, 0, rfl, Nat.le_refl _, Nat.zero_le _, fun _ => rfl, fun _ h => by cases h⟩
theorem Sees.keeps {S : Nat → Prop} {w w' : World} {v : Value} {l : List UInt8} (h : Sees w v l) (hk : Keeps S w w') (hS : ∀ k, v.ownBlock = some k → ¬ S k) : Sees w' v l := by
 obtain ⟨p, c, rfl, h1, h2, h3, h4⟩ := h
 refine ⟨p, c, rfl, h1, h2, h3, fun a ha => ⟨(h4 a ha).1, fun j b hj => ?_⟩⟩
 refine hk.cell ((h4 a ha).2 j b hj) ?_
 have : (a.add j).block = a.block := by unfold Addr.add; split <;> rfl
 rw [this]
 exact hS _ (by subst ha; rfl)
theorem Sees.old {w w' : World} {v : Value} {l : List UInt8} (h : Sees w v l) (hk : Old w w') : Sees w' v l := h.keeps hk (fun _ _ f => f)
theorem Sees.alloc {w : World} {v : Value} {l : List UInt8} (h : Sees w v l) (o : Obj) : Sees (w.alloc o) v l := h.old ((Keeps.refl _ _).alloc o)
theorem Sees.drew {w : World} {v : Value} {l : List UInt8} (h : Sees w v l) : Sees w.drew v l := h

/-- v is a slice of bytes of the call's own (from block B on): the bytes l -/
def Owns (w : World) (B : Nat) (v : Value) (l : List UInt8) : Prop := w.ownsRow B 5 1 v l.length (l.map u8)

theorem Owns.sees {w : World} {B : Nat} {v : Value} {l : List UInt8} (h : Owns w B v l) : Sees w v l := by
 obtain ⟨h1, h2⟩ := h
 rcases h2 with ⟨rfl, h0⟩ | ⟨g, cap, cur, rfl, hb, hgg, hn, hm, hs, ht⟩
 ·exact ⟨none, 0, by rw [h0], by omega, Nat.zero_le _, fun _ => rfl, fun _ h => by cases h⟩
 ·refine ⟨_, cap, rfl, hn, hm, fun h => (by cases h), fun a ha => ?_⟩
  cases ha
  refine ⟨fun _ => rfl, fun j b hj => ?_⟩
  rw [show (⟨g, 0, none⟩ : Addr).add j = ⟨g, j, none⟩ from by unfold Addr.add; split <;> simp_all]
  rw [cell_of_row w g j cur _ (0, 0) hgg]
  have hj' : (l.map u8)[j]? = some (u8 b) := by simp [hj]
  rw [← ht, List.getElem?_take] at hj'
  split at hj'
  ·simpa using hj'
  ·cases hj'
theorem Owns.mono {w : World} {B B' : Nat} {v : Value} {l : List UInt8} (h : Owns w B v l) (hb : B' ≤ B) : Owns w B' v l := ownsRow_mono h hb
theorem Owns.keeps {S : Nat → Prop} {w w' : World} {B : Nat} {v : Value} {l : List UInt8} (h : Owns w B v l) (hk : Keeps S w w') (hS : ∀ k, v.ownBlock = some k → ¬ S k) : Owns w' B v l := ownsRow_keeps h hk hS
theorem Owns.old {w w' : World} {B : Nat} {v : Value} {l : List UInt8} (h : Owns w B v l) (hk : Old w w') : Owns w' B v l := h.keeps hk (fun _ _ f => f)
theorem Owns.nil (w : World) (B : Nat) : Owns w B (.slice none 0 0) [] := World.ownsRow_nil w B _ 1
theorem Owns.block {w : World} {B : Nat} {v : Value} {l : List UInt8} (h : Owns w B v l) : ∀ k, v.ownBlock = some k → B ≤ k ∧ k < w.heap.size := h.lt
theorem Owns.le_max {w : World} {B : Nat} {v : Value} {l : List UInt8} (h : Owns w B v l) : l.length ≤ maxLen := by
 obtain ⟨p, c, _, h1, h2, _⟩ := h.sees; omega

theorem oneCell_u8 (l : List UInt8) : ∀ u ∈ l.map u8, u.oneCell' = true := by
 intro u hu; obtain ⟨b, _, rfl⟩ := List.mem_map.1 hu; rfl

theorem Tryz.infoU8 : (Tryz.prog.info? 5).map (fun i => (i.zero, i.size, i.bytes)) = some (some (.int .u8 0), 1, 1) := by kernel_rfl

/-- append(own.., seen..) -/
theorem wpList_append_sees {w : World} {ops : Array Oper} {rest : List Oper} {o : Oper} {a : Act} {Q : Exit → Act → World → Prop} (hgd : o.guard = none) (s x : Operand)
  (ho : o.op = .call { callee := .builtin .append, args := #[s, x], argTypes := #[25, 25] })
  (B : Nat) (v : Value) (l : List UInt8) (hs : a.eval s = v) (hown : Owns w B v l) (u : Value) (m : List UInt8) (hx : a.eval x = u) (hu : Sees w u m)
  (hlen : l.length + m.length ≤ 1152921504606) (hB : B ≤ w.heap.size)
  (h : ∀ v' w', Owns w' B v' (l ++ m) → w.grownBy w' v.ownBlock → wpList Tryz.prog ops Q rest (a.put o.dst v') w') : wpList Tryz.prog ops Q (o :: rest) a w := by
 obtain ⟨p, c, rfl, h1, h2, h3, h4⟩ := hu
 cases p with
 | none =>
  obtain rfl := h3 rfl
  obtain rfl : m = [] := List.eq_nil_of_length_eq_zero (by omega)
  obtain ⟨i0, hi, hz0, hz1, hz2⟩ := info_parts Tryz.infoU8
  exact wpList_append_own_none hgd s x 25 ho B 5 i0 1 Tryz.underlying25 hi v l.length (l.map u8) hs hown hx (h v w (by simpa using hown) (World.grownBy.refl _ _))
 | some ad =>
  obtain ⟨i0, hi, hz0, hz1, hz2⟩ := info_parts Tryz.infoU8
  refine wpList_append_own w hgd s x 25 ho B 5 i0 (.int .u8 0) 1 1 Tryz.underlying25 hi hz0 hz1 hz2 rfl (by decide) v l.length (l.map u8) hs hown
   ad m.length c (m.map u8) hx (by simp) ?_ (oneCell_u8 m) (by unfold maxLen; omega) (by omega) hB ?_
  ·intro j z hz
   rw [List.getElem?_map, Option.map_eq_some_iff] at hz
   obtain ⟨b, hb, rfl⟩ := hz
   exact (h4 ad rfl).2 j b hb
  ·intro v' w' ho' hg' _
   exact h v' w' (by unfold Owns; simpa using ho') hg'

/-- string(b) -/
theorem Sees.text {w : World} {v : Value} {l : List UInt8} (h : Sees w v l) : (convert 25 9 v).run Tryz.prog w = .ok (.string ⟨l.toArray⟩) w := by
 obtain ⟨p, c, rfl, h1, h2, h3, h4⟩ := h
 cases p with
 | none =>
  obtain rfl := h3 rfl
  obtain rfl : l = [] := List.eq_nil_of_length_eq_zero (by omega)
  exact run_convert_bytes_nil _ _ _ Tryz.underlying25 Tryz.underlying5 0 0 _ Tryz.underlying9
 | some ad =>
  refine run_convert_bytes_back w _ _ _ ad c l Tryz.underlying25 Tryz.underlying5 Tryz.underlying9 ?_
  intro j hj
  exact (h4 ad rfl).2 j l[j] (by simp [hj])

/-- b == nil -/
theorem eql_nil (w : World) (a : Option Addr) (n c : Nat) : (binOp .eql 25 (.slice a n c) (.slice none 0 0)).run Tryz.prog w = .ok (.bool a.isNone) w :=
 Lib.run_eql_slice_nil w _ _ a n c 0 0 Tryz.underlying25

/-- []byte{..}: a new row -/
theorem Owns.lit (w : World) (B : Nat) (l : List UInt8) (hb : B ≤ w.heap.size) (hm : l.length ≤ maxLen) :
  Owns (w.alloc (.cells (l.map u8).toArray 5)) B (.slice (some ⟨w.heap.size, 0, none⟩) l.length l.length) l := by
 have h := World.ownsRow_lit (base := B) (e := 5) (size := 1) w (l.map u8).toArray l.length hb hm (by simp)
 simpa [Owns] using h

/-- a new block of one byte -/
theorem Sees.one (w : World) (z : Int) (b : UInt8) (hz : z = (b.toNat : Int)) : Sees (w.alloc (.cells #[.int .u8 z] 5)) (.slice (some ⟨w.heap.size, 0, none⟩) 1 1) [b] := by
 have h := (Owns.lit w 0 [b] (Nat.zero_le _) (by unfold maxLen; simp)).sees
 simpa [u8, hz] using h
theorem Owns.alloc {w : World} {B : Nat} {v : Value} {l : List UInt8} (h : Owns w B v l) (o : Obj) : Owns (w.alloc o) B v l := h.old ((Keeps.refl _ _).alloc o)


theorem Sees.len {w : World} {v : Value} {l : List UInt8} (h : Sees w v l) : ∃ p c, v = .slice p l.length c ∧ l.length ≤ c ∧ c ≤ maxLen := by
 obtain ⟨p, c, h0, h1, h2, _⟩ := h; exact ⟨p, c, h0, h1, h2⟩
/-- a cell of a slice that is not empty -/
theorem Sees.at {w : World} {v : Value} {l : List UInt8} (h : Sees w v l) (hl : 0 < l.length) : ∃ b o c, v = .slice (some ⟨b, o, none⟩) l.length c ∧ l.length ≤ c ∧ c ≤ maxLen ∧ ∀ j x, l[j]? = some x → w.cell? ⟨b, o + j, none⟩ = some (u8 x) := by
 obtain ⟨p, c, rfl, h1, h2, h3, h4⟩ := h
 cases p with
 | none => have := h3 rfl; omega
 | some a =>
  obtain ⟨b, o, s⟩ := a
  obtain ⟨hs, hc⟩ := h4 _ rfl
  obtain rfl : s = none := hs (by omega)
  refine ⟨b, o, c, rfl, h1, h2, fun j x hj => ?_⟩
  have := hc j x hj
  rwa [show (⟨b, o, none⟩ : Addr).add j = ⟨b, o + j, none⟩ from by unfold Addr.add; split <;> simp_all] at this

/-- x[lo:hi] -/
theorem Sees.sliced {w : World} {p : Option Addr} {c : Nat} {l : List UInt8} (h : Sees w (.slice p l.length c) l) (lo hi : Nat) (h1 : lo ≤ hi) (h2 : hi ≤ l.length) :
  Sees w (Go.sliced p lo hi c 1) ((l.take hi).drop lo) ∧ ∀ b, (Go.sliced p lo hi c 1).ownBlock = some b → (Value.slice p l.length c).ownBlock = some b := by
 obtain ⟨p', c', he, hc1, hc2, hc3, hc4⟩ := h
 simp only [Value.slice.injEq, true_and] at he
 obtain ⟨rfl, rfl⟩ := he
 have hlen : ((l.take hi).drop lo).length = hi - lo := by simp; omega
 unfold Go.sliced
 refine ⟨⟨_, c - lo, by rw [hlen], by rw [hlen]; omega, by omega, ?_, ?_⟩, ?_⟩
 ·intro hn
  split at hn
  ·have := hc3 hn; omega
  ·cases p with
   | none => have := hc3 rfl; omega
   | some a => simp at hn
 ·intro a ha
  split at ha
  ·rename_i e
   subst ha
   refine ⟨fun h => by omega, fun j b hj => ?_⟩
   have hz : ((l.take hi).drop lo).length = 0 := by rw [hlen]; omega
   rw [List.length_eq_zero_iff.1 hz] at hj
   cases hj
  ·cases p with
   | none => simp at ha
   | some a' =>
    simp only [Option.map_some, Option.some.injEq] at ha
    subst ha
    obtain ⟨hs, hc⟩ := hc4 a' rfl
    obtain ⟨b', o', s'⟩ := a'
    rename_i hcl
    obtain rfl : s' = none := hs (by omega)
    refine ⟨fun _ => by unfold Addr.add; split <;> rfl, fun j b hj => ?_⟩
    have hj' : l[lo + j]? = some b := by
     rw [List.getElem?_drop, List.getElem?_take] at hj
     split at hj
     ·exact hj
     ·cases hj
    have := hc (lo + j) b hj'
    rw [← this]
    congr 1
    unfold Addr.add
    simp only [Nat.mul_one]
    split <;> split <;> split <;> simp_all <;> omega
 ·intro b hb
  simp only [Value.ownBlock] at hb ⊢
  split at hb
  ·rename_i a _ _ heq
   simp only [Value.slice.injEq] at heq
   obtain ⟨heq, _, _⟩ := heq
   split at heq
   ·subst heq; exact hb
   ·cases p with
    | none => simp at heq
    | some a' =>
     simp only [Option.map_some, Option.some.injEq] at heq
     subst heq
     simp only [Option.some.injEq] at hb ⊢
     rw [← hb]
     unfold Addr.add
     split <;> rfl
  ·cases hb


/-- x[lo:], as an equation on the run -/
theorem Sees.from {w : World} {p : Option Addr} {n c : Nat} {l : List UInt8} (h : Sees w (.slice p n c) l) (lo : Nat) (h1 : lo ≤ l.length) (k : IntKind) (x : Int) (hx : x = (lo : Int)) :
  ∃ p' c', (∀ W, (Instr.slice 25 (.slice p n c) (some (.int k x)) none none).run Tryz.prog W = .ok (.slice p' (l.length - lo) c') W) ∧ Sees w (.slice p' (l.length - lo) c') (l.drop lo) ∧
   ∀ b, (Value.slice p' (l.length - lo) c').ownBlock = some b → (Value.slice p n c).ownBlock = some b := by
 obtain ⟨p0, c0, he, _, _⟩ := h.len
 simp only [Value.slice.injEq] at he
 obtain ⟨rfl, rfl, rfl⟩ := he
 have hs := h.sliced lo l.length h1 (Nat.le_refl _)
 rw [List.take_of_length_le (Nat.le_refl _)] at hs
 refine ⟨_, _, fun W => ?_, hs.1, hs.2⟩
 subst hx
 have hlo : (lo : Int) ≤ (l.length : Int) := by omega
 simp [go_sem, hlo]
/-- x[:hi] -/
theorem Sees.upto {w : World} {p : Option Addr} {n c : Nat} {l : List UInt8} (h : Sees w (.slice p n c) l) (hi : Nat) (h1 : hi ≤ l.length) (k : IntKind) (x : Int) (hx : x = (hi : Int)) :
  ∃ p' c', (∀ W, (Instr.slice 25 (.slice p n c) none (some (.int k x)) none).run Tryz.prog W = .ok (.slice p' hi c') W) ∧ Sees w (.slice p' hi c') (l.take hi) ∧
   ∀ b, (Value.slice p' hi c').ownBlock = some b → (Value.slice p n c).ownBlock = some b := by
 obtain ⟨p0, c0, he, hc, _⟩ := h.len
 simp only [Value.slice.injEq] at he
 obtain ⟨rfl, rfl, rfl⟩ := he
 have hs := h.sliced 0 hi (Nat.zero_le _) h1
 rw [List.drop_zero] at hs
 refine ⟨_, _, fun W => ?_, hs.1, hs.2⟩
 subst hx
 have hhi : (hi : Int) ≤ (c : Int) := by omega
 simp [go_sem, hhi]


/-- a cell that may be written, behind a step that keeps its block -/
theorem Keeps.cf {S : Nat → Prop} {w w' : World} (h : Keeps S w w') {p : Addr} {v : Value} (hv : w.cell? p = some v ∧ w.frozen? p = false) (hs : ¬ S p.block) : w'.cell? p = some v ∧ w'.frozen? p = false :=
 ⟨h.cell hv.1 hs, (h.frozen (World.block_lt_of_cell? w p hv.1) hs).trans hv.2⟩


/-- a new block of bytes, marked or not -/
theorem Sees.new (w : World) (l : List UInt8) (fr : Nat × Nat) (hm : l.length ≤ maxLen) : Sees (w.alloc (.cells (l.map u8).toArray 5 fr)) (.slice (some ⟨w.heap.size, 0, none⟩) l.length l.length) l := by
 refine ⟨_, _, rfl, Nat.le_refl _, hm, fun h => (by cases h), fun a ha => ?_⟩
 cases ha
 refine ⟨fun _ => rfl, fun j b hj => ?_⟩
 rw [show (⟨w.heap.size, 0, none⟩ : Addr).add j = ⟨w.heap.size, j, none⟩ from by unfold Addr.add; split <;> simp_all]
 rw [World.cell?_alloc_mark]
 simp [hj]
/-- []byte("..") of a constant -/
theorem conv_const (w : World) (C : Array Value) (n c : Nat) : (convert 25 25 (.slice (some ⟨w.heap.size, 0, none⟩) n c)).run Tryz.prog (w.alloc (.cells C 5)) = .ok (.slice (some ⟨w.heap.size, 0, none⟩) n c) (w.alloc (.cells C 5 (C.size, C.size + 1))) :=
 Lib.run_convert_bytes_const (P := Tryz.prog) w 25 5 C n c Tryz.underlying25 Tryz.underlying5

/-- []byte(s) -/
theorem conv_str (w : World) (s : ByteArray) (hs : s.size ≤ maxLen) : ∃ p c w', (convert 9 25 (.string s)).run Tryz.prog w = .ok (.slice p s.size c) w' ∧ Sees w' (.slice p s.size c) s.toList ∧ Old w w' ∧
  (∀ b, (Value.slice p s.size c).ownBlock = some b → w.heap.size ≤ b) := by
 have hsz : s.toList.length = s.size := by rw [ByteArray.toList_eq]; simp
 have hc : s.size ≤ grownCap w s.size 0 5 := grownCap_ge _ _ _ _
 refine ⟨_, _, _, Lib.run_convert_string_bytes w 9 25 5 s Tryz.underlying9 Tryz.underlying25 Tryz.underlying5, ?_, ?_, ?_⟩
 ·refine ⟨_, _, by rw [hsz], by rw [hsz]; exact hc, grownCap_le_maxLen w _ _ _ hs, fun h => (by cases h), fun a ha => ?_⟩
  cases ha
  refine ⟨fun _ => rfl, fun j b hj => ?_⟩
  have hjl : j < s.size := by rw [← hsz]; exact (List.getElem?_eq_some_iff.1 hj).1
  rw [show (⟨w.heap.size, 0, none⟩ : Addr).add j = ⟨w.heap.size, j, none⟩ from by unfold Addr.add; split <;> simp_all]
  rw [Lib.bytesWorld_cell w _ s j hjl]
  have : s.data.toList.getD j 0 = b := by
   rw [ByteArray.toList_eq] at hj
   simp [List.getD, hj]
  rw [this]; rfl
 ·refine ⟨rfl, rfl, rfl, ?_, fun k hk _ => Lib.bytesWorld_at_old w _ s k hk⟩
  rw [Lib.bytesWorld_size]; omega
 ·intro b hb
  simp [Value.ownBlock] at hb
  omega

end Go.Proofs.YtfnanbadbmmicaaGreatDoor

namespace Go.Proofs.YtfnanbadbmmicaaGreatDoor

/-- a number's form -/
def form (n : Nat) : List UInt8 := if n < 128 then [UInt8.ofNat n] else UInt8.ofNat (128 + n % 128) :: form (n / 128)
termination_by n
decreasing_by omega

theorem form_lt {n : Nat} (h : n < 128) : form n = [UInt8.ofNat n] := by rw [form, if_pos h]
theorem form_ge {n : Nat} (h : 128 ≤ n) : form n = UInt8.ofNat (128 + n % 128) :: form (n / 128) := by rw [form, if_neg (by omega)]

theorem form_length_pos (n : Nat) : 1 ≤ (form n).length := by
  rcases Nat.lt_or_ge n 128 with h | h
  · rw [form_lt h]; simp
  · rw [form_ge h]; simp
theorem form_length_le (k : Nat) : ∀ n, n < 128 ^ (k + 1) → (form n).length ≤ k + 1 := by
  induction k with
  | zero => intro n h; rw [form_lt (by simpa using h)]; simp
  | succ k ih =>
    intro n h
    rcases Nat.lt_or_ge n 128 with h' | h'
    · rw [form_lt h']; simp
    · rw [form_ge h']
      have := ih (n / 128) (by rw [Nat.div_lt_iff_lt_mul (by decide)]; rw [Nat.pow_succ] at h; omega)
      simp; omega
theorem form_le10 {n : Nat} (h : n < 18446744073709551616) : (form n).length ≤ 10 := form_length_le 9 n (Nat.lt_of_lt_of_le h (by decide))

theorem and127_u64 {x : Nat} (h : x < 18446744073709551616) : bits .and .u64 (x : Int) 127 = ((x % 128 : Nat) : Int) := by
  exact bits_mask .u64 64 (by decide) (fun n h0 h1 => by rw [IntKind.wrap_u64]; omega) 7 (by decide) (x : Int) (by omega) (by omega)
theorem and127_u8 {x : Nat} (h : x < 256) : bits .and .u8 (x : Int) 127 = ((x % 128 : Nat) : Int) := by
  exact bits_mask .u8 8 (by decide) wraps_u8 7 (by decide) (x : Int) (by omega) (by omega)
theorem or128_u8 {x : Nat} (h : x < 128) : bits .or .u8 (x : Int) 128 = ((x + 128 : Nat) : Int) := by
  revert x; decide +kernel
theorem byte_last {m : Nat} (h : m < 128) : (m : Int) % 128 = ((UInt8.ofNat m).toNat : Int) := by
  rw [UInt8.toNat_ofNat']; omega
theorem byte_more (m : Nat) : bits .or .u8 ((m : Int) % 128) 128 = ((UInt8.ofNat (128 + m % 128)).toNat : Int) := by
  have h := or128_u8 (x := m % 128) (by omega)
  rw [UInt8.toNat_ofNat']
  rw [show ((m : Int) % 128) = ((m % 128 : Nat) : Int) from by omega, h]
  omega

/-- a signed number as one that is not -/
def zigN (z : Int) : Nat := if 0 ≤ z then (2 * z).toNat else (-2 * z - 1).toNat
/-- and back -/
def zagZ (m : Nat) : Int := if m % 2 = 0 then (m / 2 : Nat) else -((m / 2 : Nat) : Int) - 1
theorem zigN_lt {z : Int} (hz : -9223372036854775808 ≤ z ∧ z ≤ 9223372036854775807) : zigN z < 18446744073709551616 := by unfold zigN; split <;> omega
theorem zagZ_range {m : Nat} (hm : m < 18446744073709551616) : -9223372036854775808 ≤ zagZ m ∧ zagZ m ≤ 9223372036854775807 := by unfold zagZ; split <;> omega
theorem zag_zig (z : Int) : zagZ (zigN z) = z := by
  unfold zigN
  split
  · unfold zagZ; rw [if_pos (by omega)]; omega
  · unfold zagZ; rw [if_neg (by omega)]; omega
theorem zig_zag (m : Nat) : zigN (zagZ m) = m := by
  unfold zagZ
  split
  · unfold zigN; rw [if_pos (by omega)]; omega
  · unfold zigN; rw [if_neg (by omega)]; omega
theorem xor_ones (a : Nat) (ha : a < 18446744073709551616) : a ^^^ 18446744073709551615 = 18446744073709551615 - a := by
  have h : ((BitVec.ofNat 64 a) ^^^ BitVec.allOnes 64).toNat = 18446744073709551615 - a := by
    rw [BitVec.xor_allOnes, BitVec.toNat_not, BitVec.toNat_ofNat, Nat.mod_eq_of_lt (by omega)]
  rw [BitVec.toNat_xor, BitVec.toNat_ofNat, Nat.mod_eq_of_lt (by omega)] at h
  exact h
theorem zig_bits {z : Int} (hz : -9223372036854775808 ≤ z ∧ z ≤ 9223372036854775807) :
    bits .xor .u64 (IntKind.u64.wrap (IntKind.u64.wrap z * 2)) (IntKind.u64.wrap (z / 9223372036854775808)) = (zigN z : Int) := by
  simp only [IntKind.wrap_u64]
  unfold zigN
  split
  · rename_i h0
    have e1 : (z % 18446744073709551616 * 2) % 18446744073709551616 = ((2 * z).toNat : Int) := by omega
    have e2 : (z / 9223372036854775808) % 18446744073709551616 = ((0 : Nat) : Int) := by omega
    rw [e1, e2, bits_xor_u64_nat _ _ (by omega) (by omega), Nat.xor_zero]
  · rename_i h0
    have e1 : (z % 18446744073709551616 * 2) % 18446744073709551616 = ((2 * z + 18446744073709551616).toNat : Int) := by omega
    have e2 : (z / 9223372036854775808) % 18446744073709551616 = ((18446744073709551615 : Nat) : Int) := by omega
    rw [e1, e2, bits_xor_u64_nat _ _ (by omega) (by omega), xor_ones _ (by omega)]
    omega
theorem and1_u64 {x : Nat} (h : x < 18446744073709551616) : bits .and .u64 (x : Int) 1 = ((x % 2 : Nat) : Int) := by
  exact bits_mask .u64 64 (by decide) (fun n h0 h1 => by rw [IntKind.wrap_u64]; omega) 1 (by decide) (x : Int) (by omega) (by omega)
theorem xor_i64_zero {a : Nat} (h : a < 9223372036854775808) : bits .xor .i64 (a : Int) 0 = (a : Int) := by
  show IntKind.i64.wrap ((BitVec.ofInt 64 (a : Int) ^^^ BitVec.ofInt 64 0).toNat : Int) = _
  rw [BitVec.toNat_xor, BitVec.ofInt_natCast, BitVec.toNat_ofNat, Nat.mod_eq_of_lt (by omega)]
  simp [IntKind.wrap_i64]
  omega
theorem xor_i64_neg {a : Nat} (h : a < 9223372036854775808) : bits .xor .i64 (a : Int) (-1) = -(a : Int) - 1 := by
  show IntKind.i64.wrap ((BitVec.ofInt 64 (a : Int) ^^^ BitVec.ofInt 64 (-1)).toNat : Int) = _
  rw [BitVec.toNat_xor, BitVec.ofInt_natCast, BitVec.toNat_ofNat, Nat.mod_eq_of_lt (by omega)]
  rw [show (BitVec.ofInt 64 (-1)).toNat = 18446744073709551615 from by decide, xor_ones _ (by omega), IntKind.wrap_i64]
  omega
theorem zag_bits {m : Nat} (hm : m < 18446744073709551616) : bits .xor .i64 ((m : Int) / 2) (IntKind.i64.wrap (-IntKind.i64.wrap (bits .and .u64 (m : Int) 1))) = zagZ m := by
  rw [and1_u64 hm, show (m : Int) / 2 = ((m / 2 : Nat) : Int) from by omega]
  unfold zagZ
  split
  · rename_i h
    rw [h, show IntKind.i64.wrap (-IntKind.i64.wrap ((0 : Nat) : Int)) = 0 from by decide, xor_i64_zero (by omega)]
  · rename_i h
    rw [show m % 2 = 1 from by omega, show IntKind.i64.wrap (-IntKind.i64.wrap ((1 : Nat) : Int)) = -1 from by decide, xor_i64_neg (by omega)]
theorem byte_low {m : Nat} (h : m < 128) : (m : Int) = ((UInt8.ofNat m).toNat : Int) := by
  rw [UInt8.toNat_ofNat']; omega
theorem byte_high (m : Nat) : 128 + (m : Int) % 128 = ((UInt8.ofNat (128 + m % 128)).toNat : Int) := by
  rw [UInt8.toNat_ofNat']; omega

/-- groups of seven bits, from the i-th on: (the number, the error, what is left) -/
def scan : Nat → Nat → List UInt8 → Nat × Nat × List UInt8
  | _, _, [] => (0, 4, [])
  | i, acc, c :: r =>
    if (i = 9 ∧ 1 < c.toNat) ∨ (0 < i ∧ c.toNat = 0) then (0, 5, [])
    else if c.toNat < 128 then (acc + c.toNat % 128 * 128 ^ i, 0, r) else scan (i + 1) (acc + c.toNat % 128 * 128 ^ i) r
/-- a number is read: (the number, the error, what is left) -/
def readNum (l : List UInt8) (most : Nat) : Nat × Nat × List UInt8 :=
  if (scan 0 0 l).2.1 ≠ 0 then (0, (scan 0 0 l).2.1, l) else if most < (scan 0 0 l).1 then (0, 3, l) else ((scan 0 0 l).1, 0, (scan 0 0 l).2.2)

theorem or_group {acc c i : Nat} (hi : i ≤ 9) (ha : acc < 128 ^ i) (hc : c < 128) (h9 : i = 9 → c ≤ 1) : bits .or .u64 (acc : Int) (IntKind.u64.wrap ((c : Int) * 2 ^ min (7 * (i : Int)).toNat 64)) = ((acc + c * 128 ^ i : Nat) : Int) := by
  have e1 : min (7 * (i : Int)).toNat 64 = 7 * i := by omega
  have e2 : ((c : Int) * 2 ^ (7 * i)) = ((c * 128 ^ i : Nat) : Int) := by
    rw [Int.natCast_mul, Int.natCast_pow, show ((128 : Nat) : Int) = 2 ^ 7 from rfl, ← Int.pow_mul]
  have hp : 128 ^ i = 2 ^ (7 * i) := by rw [Nat.pow_mul]
  have hlt : acc + c * 128 ^ i < 18446744073709551616 := by
    rcases Nat.lt_or_ge i 9 with h | h
    · have h1 : acc + c * 128 ^ i < 128 ^ (i + 1) := by
        have : c * 128 ^ i ≤ 127 * 128 ^ i := Nat.mul_le_mul_right _ (by omega)
        rw [Nat.pow_succ]; omega
      exact Nat.lt_of_lt_of_le h1 (Nat.le_trans (Nat.pow_le_pow_right (by decide) (show i + 1 ≤ 9 by omega)) (by decide))
    · obtain rfl : i = 9 := by omega
      have := h9 rfl
      have : c * 128 ^ 9 ≤ 1 * 128 ^ 9 := Nat.mul_le_mul_right _ (by omega)
      have h3 : (128 : Nat) ^ 9 = 9223372036854775808 := by decide
      omega
  rw [e1, e2]
  rw [show IntKind.u64.wrap ((c * 128 ^ i : Nat) : Int) = ((c * 128 ^ i : Nat) : Int) from by rw [IntKind.wrap_u64]; omega]
  rw [(bits_nat .u64 64 (by decide) (fun n h0 h1 => by rw [IntKind.wrap_u64]; omega) acc (c * 128 ^ i) (by omega) (by omega)).2]
  rw [hp] at ha ⊢
  rw [Nat.or_comm, Nat.mul_comm c, ← Nat.two_pow_add_eq_or_of_lt ha c]
  omega
theorem or_group' {acc c i : Nat} (hi : i ≤ 9) (ha : acc < 128 ^ i) (h9 : i = 9 → c ≤ 1) : bits .or .u64 (acc : Int) (IntKind.u64.wrap ((c : Int) % 128 * 2 ^ (7 * i))) = ((acc + c % 128 * 128 ^ i : Nat) : Int) := by
  have h := or_group (c := c % 128) hi ha (by omega) (fun h => by have := h9 h; omega)
  rw [show min (7 * (i : Int)).toNat 64 = 7 * i from by omega] at h
  rw [← h]
  rfl
theorem acc_lt {acc c i : Nat} (ha : acc < 128 ^ i) : acc + c % 128 * 128 ^ i < 128 ^ (i + 1) := by
  have : c % 128 * 128 ^ i ≤ 127 * 128 ^ i := Nat.mul_le_mul_right _ (by omega)
  rw [Nat.pow_succ]; omega
theorem scan_bad {i acc : Nat} {c : UInt8} {r : List UInt8} (h : (i = 9 ∧ 1 < c.toNat) ∨ (0 < i ∧ c.toNat = 0)) : scan i acc (c :: r) = (0, 5, []) := by rw [scan, if_pos h]
theorem scan_last {i acc : Nat} {c : UInt8} {r : List UInt8} (h : ¬ ((i = 9 ∧ 1 < c.toNat) ∨ (0 < i ∧ c.toNat = 0))) (hc : c.toNat < 128) : scan i acc (c :: r) = (acc + c.toNat % 128 * 128 ^ i, 0, r) := by rw [scan, if_neg h, if_pos hc]
theorem scan_more {i acc : Nat} {c : UInt8} {r : List UInt8} (h : ¬ ((i = 9 ∧ 1 < c.toNat) ∨ (0 < i ∧ c.toNat = 0))) (hc : ¬ c.toNat < 128) : scan i acc (c :: r) = scan (i + 1) (acc + c.toNat % 128 * 128 ^ i) r := by rw [scan, if_neg h, if_neg hc]
theorem read_bad {l : List UInt8} {most e : Nat} {n : Nat} {r : List UInt8} (h : scan 0 0 l = (n, e, r)) (he : e ≠ 0) : readNum l most = (0, e, l) := by
  unfold readNum; rw [h]; simp [he]
theorem read_long {l : List UInt8} {most n : Nat} {r : List UInt8} (h : scan 0 0 l = (n, 0, r)) (hn : most < n) : readNum l most = (0, 3, l) := by
  unfold readNum; rw [h]; simp [hn]
theorem read_ok {l : List UInt8} {most n : Nat} {r : List UInt8} (h : scan 0 0 l = (n, 0, r)) (hn : ¬ most < n) : readNum l most = (n, 0, r) := by
  unfold readNum; rw [h]; simp [hn]

/-- a signed number is read -/
def readInt (l : List UInt8) : Int × Nat × List UInt8 := (if (readNum l 18446744073709551615).2.1 = 0 then zagZ (readNum l 18446744073709551615).1 else 0, (readNum l 18446744073709551615).2)
/-- a string of bytes is read -/
def readBytes (l : List UInt8) (most : Int) : List UInt8 × Nat × List UInt8 :=
  if most < 0 then ([], 1, l)
  else if (readNum l most.toNat).2.1 ≠ 0 then ([], (readNum l most.toNat).2.1, l)
  else if (readNum l most.toNat).2.2.length < (readNum l most.toNat).1 then ([], 4, l)
  else ((readNum l most.toNat).2.2.take (readNum l most.toNat).1, 0, (readNum l most.toNat).2.2.drop (readNum l most.toNat).1)
theorem readNum_err (l : List UInt8) (most : Nat) : (readNum l most).2.1 < 6 := by
  have key : ∀ l i acc, (scan i acc l).2.1 < 6 := by
    intro l
    induction l with
    | nil => intro i acc; simp [scan]
    | cons c r ih => intro i acc; rw [scan]; split; · simp
                     split; · simp
                     exact ih _ _
  unfold readNum
  split
  · exact key _ _ _
  · split <;> simp
theorem readNum_le (l : List UInt8) (most : Nat) : (readNum l most).1 ≤ most := by
  unfold readNum
  split
  · simp
  · split
    · simp
    · simp; omega
theorem readNum_bad {l : List UInt8} {most : Nat} (h : (readNum l most).2.1 ≠ 0) : (readNum l most).1 = 0 ∧ (readNum l most).2.2 = l := by
  unfold readNum at h ⊢
  split
  · simp
  · rename_i h1
    rw [if_neg h1] at h
    split
    · simp
    · rename_i h2; rw [if_neg h2] at h; exact absurd rfl h
theorem scan_rest : ∀ l i acc, (scan i acc l).2.2.length ≤ l.length := by
  intro l
  induction l with
  | nil => intro i acc; simp [scan]
  | cons c r ih =>
    intro i acc; rw [scan]; split
    · simp
    · split
      · simp
      · have := ih (i + 1) (acc + c.toNat % 128 * 128 ^ i); simp; omega
theorem readNum_rest (l : List UInt8) (most : Nat) : (readNum l most).2.2.length ≤ l.length := by
  unfold readNum
  split
  · exact Nat.le_refl _
  · split
    · exact Nat.le_refl _
    · exact scan_rest l 0 0

/-- how many bytes of 128 and more stand first -/
def lead : List UInt8 → Nat
  | [] => 0
  | c :: r => if 128 ≤ c.toNat then lead r + 1 else 0
/-- groups of seven bits, the lowest first, as a number -/
def lev : List UInt8 → Nat
  | [] => 0
  | c :: r => c.toNat % 128 + 128 * lev r
theorem lead_le : ∀ l, lead l ≤ l.length
  | [] => Nat.le_refl _
  | c :: r => by have := lead_le r; unfold lead; split <;> simp <;> omega
theorem lead_at : ∀ (l : List UInt8) (k : Nat), k < lead l → ∃ c, l[k]? = some c ∧ 128 ≤ c.toNat
  | [], k, h => by simp [lead] at h
  | c :: r, k, h => by
    unfold lead at h
    split at h
    · cases k with
      | zero => exact ⟨c, by simp, by assumption⟩
      | succ k => simpa using lead_at r k (by omega)
    · omega
theorem lead_end : ∀ (l : List UInt8), lead l < l.length → ∃ c, l[lead l]? = some c ∧ c.toNat < 128
  | [], h => by simp at h
  | c :: r, h => by
    unfold lead at h ⊢
    split
    · rename_i hc
      rw [if_pos hc] at h
      obtain ⟨d, h1, h2⟩ := lead_end r (by simp at h; omega)
      exact ⟨d, by simpa using h1, h2⟩
    · exact ⟨c, by simp, by omega⟩
theorem lev_lt : ∀ l, lev l < 128 ^ l.length
  | [] => by simp [lev]
  | c :: r => by
    have := lev_lt r
    simp only [lev, List.length_cons, Nat.pow_succ]
    omega
theorem lev_drop (l : List UInt8) (i : Nat) : lev (l.drop i) ≤ lev l := by
  induction l generalizing i with
  | nil => simp [lev]
  | cons c r ih =>
    cases i with
    | zero => exact Nat.le_refl _
    | succ i => simp only [List.drop_succ_cons, lev]; have := ih i; omega
theorem lev_step (l : List UInt8) (i : Nat) (c : UInt8) (h : l[i]? = some c) : lev (l.drop i) = c.toNat % 128 + 128 * lev (l.drop (i + 1)) := by
  have hi := (List.getElem?_eq_some_iff.1 h).1
  have hc := (List.getElem?_eq_some_iff.1 h).2
  rw [List.drop_eq_getElem_cons hi, hc, lev]
/-- the scan, by the number of bytes that stand first -/
theorem scan_lead : ∀ (l : List UInt8) (i acc : Nat), i ≤ 9 →
    ((10 ≤ i + lead l → (scan i acc l).2.1 = 5) ∧ (i + lead l < 10 → lead l = l.length → (scan i acc l).2.1 = 4) ∧
     (i + lead l < 10 → ∀ c, l[lead l]? = some c → ((i + lead l = 9 ∧ 1 < c.toNat) ∨ (0 < i + lead l ∧ c.toNat = 0)) → (scan i acc l).2.1 = 5) ∧
     (i + lead l < 10 → ∀ c, l[lead l]? = some c → ¬ ((i + lead l = 9 ∧ 1 < c.toNat) ∨ (0 < i + lead l ∧ c.toNat = 0)) → scan i acc l = (acc + 128 ^ i * lev (l.take (lead l + 1)), 0, l.drop (lead l + 1)))) := by
  intro l
  induction l with
  | nil =>
    intro i acc hi
    refine ⟨fun h => by simp [lead] at h; omega, fun _ _ => by simp [scan], fun _ c h => by simp at h, fun _ c h => by simp at h⟩
  | cons c r ih =>
    intro i acc hi
    by_cases hc : 128 ≤ c.toNat
    · have hl : lead (c :: r) = lead r + 1 := by rw [lead, if_pos hc]
      by_cases h9 : i = 9
      · have hb : scan i acc (c :: r) = (0, 5, []) := scan_bad (.inl ⟨h9, by omega⟩)
        refine ⟨fun _ => by rw [hb], fun h => by omega, fun h => by omega, fun h => by omega⟩
      · have hg : ¬ ((i = 9 ∧ 1 < c.toNat) ∨ (0 < i ∧ c.toNat = 0)) := by omega
        have hs := scan_more (acc := acc) (r := r) hg (by omega)
        obtain ⟨h1, h2, h3, h4⟩ := ih (i + 1) (acc + c.toNat % 128 * 128 ^ i) (by omega)
        rw [hs, hl]
        refine ⟨fun h => h1 (by omega), fun h e => h2 (by omega) (by simp at e; omega), fun h d hd hbad => h3 (by omega) d (by simpa using hd) (by omega), fun h d hd hgood => ?_⟩
        rw [h4 (by omega) d (by simpa using hd) (by omega)]
        simp only [List.take_succ_cons, List.drop_succ_cons, lev, Prod.mk.injEq, and_true]
        rw [Nat.pow_succ, Nat.mul_add, Nat.mul_comm (c.toNat % 128), Nat.mul_assoc]
        omega
    · have hl : lead (c :: r) = 0 := by rw [lead, if_neg hc]
      rw [hl]
      refine ⟨fun h => by omega, fun _ e => by simp at e, fun _ d hd hbad => ?_, fun _ d hd hgood => ?_⟩
      · obtain rfl : c = d := by simpa using hd
        rw [scan_bad (by simpa using hbad)]
      · obtain rfl : c = d := by simpa using hd
        rw [scan_last (by simpa using hgood) (by omega)]
        simp [lev, Nat.mul_comm]
theorem lev_fits (l : List UInt8) (n : Nat) (hn : n < 10) (c : UInt8) (h : l[n]? = some c) (h9 : n = 9 → c.toNat ≤ 1) : lev (l.take (n + 1)) < 18446744073709551616 := by
  rcases Nat.lt_or_ge n 9 with h' | h'
  · have h1 := lev_lt (l.take (n + 1))
    have h2 : (l.take (n + 1)).length ≤ 9 := by simp; omega
    exact Nat.lt_of_lt_of_le h1 (Nat.le_trans (Nat.pow_le_pow_right (by decide) h2) (by decide))
  · obtain rfl : n = 9 := by omega
    have hh := h9 rfl
    have key : ∀ (m : Nat) (l : List UInt8), l[m]? = some c → lev (l.take (m + 1)) < 2 * 128 ^ m := by
      intro m
      induction m with
      | zero =>
        intro l hl
        cases l with
        | nil => simp at hl
        | cons d r =>
          obtain rfl : d = c := by simpa using hl
          simp [lev]; omega
      | succ m ih =>
        intro l hl
        cases l with
        | nil => simp at hl
        | cons d r =>
          have := ih r (by simpa using hl)
          simp only [List.take_succ_cons, lev, Nat.pow_succ]
          omega
    exact key 9 l h
theorem read_many {l : List UInt8} {most : Nat} (h : 10 ≤ lead l) : readNum l most = (0, 5, l) := by
  have h1 := (scan_lead l 0 0 (by omega)).1 (by omega)
  have := read_bad (l := l) (most := most) (e := 5) (n := (scan 0 0 l).1) (r := (scan 0 0 l).2.2) (by rw [← h1]) (by decide)
  exact this
theorem read_short {l : List UInt8} {most : Nat} (h : lead l < 10) (he : lead l = l.length) : readNum l most = (0, 4, l) := by
  have h1 := (scan_lead l 0 0 (by omega)).2.1 (by omega) he
  exact read_bad (l := l) (most := most) (e := 4) (n := (scan 0 0 l).1) (r := (scan 0 0 l).2.2) (by rw [← h1]) (by decide)
theorem read_none {l : List UInt8} {most : Nat} (h : lead l < 10) {c : UInt8} (hc : l[lead l]? = some c) (hb : (lead l = 9 ∧ 1 < c.toNat) ∨ (0 < lead l ∧ c.toNat = 0)) : readNum l most = (0, 5, l) := by
  have h1 := (scan_lead l 0 0 (by omega)).2.2.1 (by omega) c hc (by simpa using hb)
  exact read_bad (l := l) (most := most) (e := 5) (n := (scan 0 0 l).1) (r := (scan 0 0 l).2.2) (by rw [← h1]) (by decide)
theorem read_good {l : List UInt8} {most : Nat} (h : lead l < 10) {c : UInt8} (hc : l[lead l]? = some c) (hb : ¬ ((lead l = 9 ∧ 1 < c.toNat) ∨ (0 < lead l ∧ c.toNat = 0))) :
    readNum l most = if most < lev (l.take (lead l + 1)) then (0, 3, l) else (lev (l.take (lead l + 1)), 0, l.drop (lead l + 1)) := by
  have h1 := (scan_lead l 0 0 (by omega)).2.2.2 (by omega) c hc (by simpa using hb)
  simp only [Nat.pow_zero, Nat.one_mul, Nat.zero_add] at h1
  split
  · rename_i h2; exact read_long h1 h2
  · rename_i h2; exact read_ok h1 h2
theorem form_300 : form 300 = [172, 2] := by rw [form_ge (by decide), form_lt (by decide)]; decide
theorem form_129 : form 129 = [129, 1] := by rw [form_ge (by decide), form_lt (by decide)]; decide
theorem form_2 : form 2 = [2] := by rw [form_lt (by decide)]; decide
end Go.Proofs.YtfnanbadbmmicaaGreatDoor
