/- DERIVED. Words for byte slices, worlds that keep what was there, and laws for the walk over them. No project text. · DERIVED. A region that draws its order, whose own operations only read, whose callees read and MAKE memory: one walk, over the class of the worlds in which all that was is as it was. · DERIVED. Slices whose elements take several cells: how they read. · DERIVED. Code that communicates in one goroutine: the walk's rules in a frame of a call; a select of one case with a default. Plain theorems over any program. -/
import Derived.Test.YtllnlimbfoingaaProg
import Derived.WalkKit
import Derived.WalkLawsBesides
import Derived.WalkSpells
import Derived.Lib.Hide
import Derived.Laws.AppendOwnNone
import Derived.Lib.SliceRun
import Derived.Lib.SlBytesConst
import Derived.Lib.ConvBytes
import Derived.BigQuiet
import Derived.Conc.LoneSelect
namespace Go.Proofs.Ytllnlimbfoingaa
open Go.RowKit

/-- a byte as a cell's value -/
def u8 (b : UInt8) : Value := .int .u8 (b.toNat : Int)

/-- blocks outside S that were there are as they were; the streams are as they were -/
structure Keeps (S : Nat → Prop) (w w' : World) : Prop where
 os : w'.os = w.os
 tape : w'.tape = w.tape
 output : w'.output = w.output
 size : w.heap.size ≤ w'.heap.size
 block : ∀ k, k < w.heap.size → ¬ S k → w'.heap[k]? = w.heap[k]?

theorem Keeps.refl (S : Nat → Prop) (w : World) : Keeps S w w := ⟨rfl, rfl, rfl, Nat.le_refl _, fun _ _ _ => rfl⟩
theorem Keeps.trans {S : Nat → Prop} {a b c : World} (h : Keeps S a b) (k : Keeps S b c) : Keeps S a c :=
 ⟨k.os.trans h.os, k.tape.trans h.tape, k.output.trans h.output, Nat.le_trans h.size k.size,
  fun i hi hs => (k.block i (Nat.lt_of_lt_of_le hi h.size) hs).trans (h.block i hi hs)⟩
/-- what the second step may touch is allowed, or was not there at first -/
theorem Keeps.then {S T : Nat → Prop} {a b c : World} (h : Keeps S a b) (k : Keeps T b c) (hT : ∀ i, i < a.heap.size → T i → S i) : Keeps S a c :=
 ⟨k.os.trans h.os, k.tape.trans h.tape, k.output.trans h.output, Nat.le_trans h.size k.size,
  fun i hi hs => (k.block i (Nat.lt_of_lt_of_le hi h.size) (fun t => hs (hT i hi t))).trans (h.block i hi hs)⟩
theorem Keeps.weaken {S T : Nat → Prop} {a b : World} (h : Keeps S a b) (hT : ∀ i, i < a.heap.size → S i → T i) : Keeps T a b :=
 ⟨h.os, h.tape, h.output, h.size, fun i hi hs => h.block i hi (fun t => hs (hT i hi t))⟩
theorem Keeps.below {B : Nat} {a b : World} (h : Keeps (fun k => B ≤ k) a b) (hB : B ≤ a.heap.size) : Below B a b :=
 ⟨h.os, h.tape, h.output, h.size, fun k hk => h.block k (Nat.lt_of_lt_of_le hk hB) (by omega)⟩
theorem Keeps.of_below {B : Nat} {a b : World} (h : Below B a b) : Keeps (fun k => B ≤ k) a b :=
 ⟨h.os, h.tape, h.output, h.size, fun k _ hs => h.block k (by omega)⟩
/-- nothing that was there has turned -/
abbrev Old (w w' : World) : Prop := Keeps (fun _ => False) w w'
theorem Old.below {a b : World} (h : Old a b) : Below a.heap.size a b := ⟨h.os, h.tape, h.output, h.size, fun k hk => h.block k hk (fun f => f)⟩
theorem Old.of_below {B : Nat} {a b : World} (h : Below B a b) (hB : a.heap.size ≤ B) : Old a b := ⟨h.os, h.tape, h.output, h.size, fun k hk _ => h.block k (by omega)⟩
theorem Keeps.alloc {S : Nat → Prop} {a w : World} (h : Keeps S a w) (o : Obj) : Keeps S a (w.alloc o) :=
 h.trans ⟨rfl, rfl, rfl, by simp, fun k hk _ => Below.heap_alloc _ _ _ hk⟩
theorem Keeps.drew {S : Nat → Prop} {a w : World} (h : Keeps S a w) : Keeps S a w.drew := ⟨h.os, h.tape, h.output, h.size, h.block⟩
theorem Keeps.setCell {S : Nat → Prop} {a w : World} (h : Keeps S a w) {p : Addr} (hp : p.block < a.heap.size → S p.block) (u : Value) : Keeps S a (w.setCell p u) :=
 ⟨h.os, h.tape, h.output, by simpa [World.setCell] using h.size, fun k hk hs =>
  (Below.heap_setCell _ _ _ _ (fun e => hs (by subst e; exact hp hk))).trans (h.block k hk hs)⟩
theorem Keeps.grown {S : Nat → Prop} {a w w' : World} {row : Option Nat} (h : Keeps S a w) (hg : w.grownBy w' row) (hr : ∀ k, row = some k → k < a.heap.size → S k) : Keeps S a w' :=
 h.then (T := fun k => some k = row) ⟨hg.os, hg.tape, hg.output, hg.size, fun k hk hne => hg.block k hk hne⟩ (fun i hi e => hr i e.symm hi)
theorem Keeps.cell {S : Nat → Prop} {w w' : World} (h : Keeps S w w') {p : Addr} {v : Value} (hv : w.cell? p = some v) (hs : ¬ S p.block) : w'.cell? p = some v := by
 have hlt := World.block_lt_of_cell? w p hv
 exact (World.cell?_of_block (w := w) (h.block p.block hlt hs)).trans hv
theorem Keeps.frozen {S : Nat → Prop} {w w' : World} (h : Keeps S w w') {p : Addr} (hlt : p.block < w.heap.size) (hs : ¬ S p.block) : w'.frozen? p = w.frozen? p :=
 World.frozen?_of_block (w := w) (h.block p.block hlt hs)
theorem ownsRow_keeps {S : Nat → Prop} {w w' : World} {base : Nat} {e : TypeId} {size : Nat} {v : Value} {n : Nat} {xs : List Value} (h : w.ownsRow base e size v n xs) (hk : Keeps S w w')
  (hS : ∀ k, v.ownBlock = some k → ¬ S k) : w'.ownsRow base e size v n xs := by
 refine ⟨h.1, ?_⟩
 rcases h.2 with hn | ⟨g, cap, cur, rfl, hb, hgg, rest⟩
 ·exact .inl hn
 ·refine .inr ⟨g, cap, cur, rfl, hb, ?_, rest⟩
  rw [hk.block g (Array.getElem?_eq_some_iff.1 hgg).1 (hS g rfl)]
  exact hgg
theorem ownsRow_mono {w : World} {base base' : Nat} {e : TypeId} {size : Nat} {v : Value} {n : Nat} {xs : List Value} (h : w.ownsRow base e size v n xs) (hb : base' ≤ base) : w.ownsRow base' e size v n xs := by
 refine ⟨h.1, ?_⟩
 rcases h.2 with hn | ⟨g, cap, cur, rfl, hb', rest⟩
 ·exact .inl hn
 ·exact .inr ⟨g, cap, cur, rfl, by omega, rest⟩

/-- the slice value v reads as the bytes l -/
def Sees (w : World) (v : Value) (l : List UInt8) : Prop :=
 ∃ p c, v = .slice p l.length c ∧ l.length ≤ c ∧ c ≤ maxLen ∧ (p = none → c = 0) ∧
  ∀ a, p = some a → (0 < c → a.spot = none) ∧ ∀ j b, l[j]? = some b → w.cell? (a.add j) = some (u8 b)

theorem Sees.nil (w : World) : Sees w (.slice none 0 0) [] := ⟨none, 0, rfl, Nat.le_refl _, Nat.zero_le _, fun _ => rfl, fun _ h => by cases h⟩
theorem Sees.keeps {S : Nat → Prop} {w w' : World} {v : Value} {l : List UInt8} (h : Sees w v l) (hk : Keeps S w w') (hS : ∀ k, v.ownBlock = some k → ¬ S k) : Sees w' v l := by
 obtain ⟨p, c, rfl, h1, h2, h3, h4⟩ := h
 refine ⟨p, c, rfl, h1, h2, h3, fun a ha => ⟨(h4 a ha).1, fun j b hj => ?_⟩⟩
 refine hk.cell ((h4 a ha).2 j b hj) ?_
 have : (a.add j).block = a.block := by unfold Addr.add; split <;> rfl
 rw [this]
 exact hS _ (by subst ha; rfl)
theorem Sees.old {w w' : World} {v : Value} {l : List UInt8} (h : Sees w v l) (hk : Old w w') : Sees w' v l := h.keeps hk (fun _ _ f => f)
theorem Sees.alloc {w : World} {v : Value} {l : List UInt8} (h : Sees w v l) (o : Obj) : Sees (w.alloc o) v l := h.old ((Keeps.refl _ _).alloc o)
theorem Sees.drew {w : World} {v : Value} {l : List UInt8} (h : Sees w v l) : Sees w.drew v l := h

/-- v is a slice of bytes of the call's own (from block B on): the bytes l -/
def Owns (w : World) (B : Nat) (v : Value) (l : List UInt8) : Prop := w.ownsRow B 5 1 v l.length (l.map u8)

theorem Owns.sees {w : World} {B : Nat} {v : Value} {l : List UInt8} (h : Owns w B v l) : Sees w v l := by
 obtain ⟨h1, h2⟩ := h
 rcases h2 with ⟨rfl, h0⟩ | ⟨g, cap, cur, rfl, hb, hgg, hn, hm, hs, ht⟩
 ·exact ⟨none, 0, by rw [h0], by omega, Nat.zero_le _, fun _ => rfl, fun _ h => by cases h⟩
 ·refine ⟨_, cap, rfl, hn, hm, fun h => (by cases h), fun a ha => ?_⟩
  cases ha
  refine ⟨fun _ => rfl, fun j b hj => ?_⟩
  rw [show (⟨g, 0, none⟩ : Addr).add j = ⟨g, j, none⟩ from by unfold Addr.add; split <;> simp_all]
  rw [cell_of_row w g j cur _ (0, 0) hgg]
  have hj' : (l.map u8)[j]? = some (u8 b) := by simp [hj]
  rw [← ht, List.getElem?_take] at hj'
  split at hj'
  ·simpa using hj'
  ·cases hj'
theorem Owns.mono {w : World} {B B' : Nat} {v : Value} {l : List UInt8} (h : Owns w B v l) (hb : B' ≤ B) : Owns w B' v l := ownsRow_mono h hb
theorem Owns.keeps {S : Nat → Prop} {w w' : World} {B : Nat} {v : Value} {l : List UInt8} (h : Owns w B v l) (hk : Keeps S w w') (hS : ∀ k, v.ownBlock = some k → ¬ S k) : Owns w' B v l := ownsRow_keeps h hk hS
theorem Owns.old {w w' : World} {B : Nat} {v : Value} {l : List UInt8} (h : Owns w B v l) (hk : Old w w') : Owns w' B v l := h.keeps hk (fun _ _ f => f)
theorem Owns.nil (w : World) (B : Nat) : Owns w B (.slice none 0 0) [] := World.ownsRow_nil w B _ 1
theorem Owns.block {w : World} {B : Nat} {v : Value} {l : List UInt8} (h : Owns w B v l) : ∀ k, v.ownBlock = some k → B ≤ k ∧ k < w.heap.size := h.lt
theorem Owns.le_max {w : World} {B : Nat} {v : Value} {l : List UInt8} (h : Owns w B v l) : l.length ≤ maxLen := by
 obtain ⟨p, c, _, h1, h2, _⟩ := h.sees; omega

theorem oneCell_u8 (l : List UInt8) : ∀ u ∈ l.map u8, u.oneCell' = true := by
 intro u hu; obtain ⟨b, _, rfl⟩ := List.mem_map.1 hu; rfl

theorem Try.infoU8 : (Try.prog.info? 5).map (fun i => (i.zero, i.size, i.bytes)) = some (some (.int .u8 0), 1, 1) := by kernel_rfl

/-- append(own.., seen..) -/
theorem wpList_append_sees {w : World} {ops : Array Oper} {rest : List Oper} {o : Oper} {a : Act} {Q : Exit → Act → World → Prop} (hgd : o.guard = none) (s x : Operand)
  (ho : o.op = .call { callee := .builtin .append, args := #[s, x], argTypes := #[32, 32] })
  (B : Nat) (v : Value) (l : List UInt8) (hs : a.eval s = v) (hown : Owns w B v l) (u : Value) (m : List UInt8) (hx : a.eval x = u) (hu : Sees w u m)
  (hlen : l.length + m.length ≤ 1152921504606) (hB : B ≤ w.heap.size)
  (h : ∀ v' w', Owns w' B v' (l ++ m) → w.grownBy w' v.ownBlock → wpList Try.prog ops Q rest (a.put o.dst v') w') : wpList Try.prog ops Q (o :: rest) a w := by
 obtain ⟨p, c, rfl, h1, h2, h3, h4⟩ := hu
 cases p with
 | none =>
  obtain rfl := h3 rfl
  obtain rfl : m = [] := List.eq_nil_of_length_eq_zero (by omega)
  obtain ⟨i0, hi, hz0, hz1, hz2⟩ := info_parts Try.infoU8
  exact wpList_append_own_none hgd s x 32 ho B 5 i0 1 Try.underlying32 hi v l.length (l.map u8) hs hown hx (h v w (by simpa using hown) (World.grownBy.refl _ _))
 | some ad =>
  obtain ⟨i0, hi, hz0, hz1, hz2⟩ := info_parts Try.infoU8
  refine wpList_append_own w hgd s x 32 ho B 5 i0 (.int .u8 0) 1 1 Try.underlying32 hi hz0 hz1 hz2 rfl (by decide) v l.length (l.map u8) hs hown
   ad m.length c (m.map u8) hx (by simp) ?_ (oneCell_u8 m) (by unfold maxLen; omega) (by omega) hB ?_
  ·intro j z hz
   rw [List.getElem?_map, Option.map_eq_some_iff] at hz
   obtain ⟨b, hb, rfl⟩ := hz
   exact (h4 ad rfl).2 j b hb
  ·intro v' w' ho' hg' _
   exact h v' w' (by unfold Owns; simpa using ho') hg'

/-- string(b) -/
theorem Sees.text {w : World} {v : Value} {l : List UInt8} (h : Sees w v l) : (convert 32 9 v).run Try.prog w = .ok (.string ⟨l.toArray⟩) w := by
 obtain ⟨p, c, rfl, h1, h2, h3, h4⟩ := h
 cases p with
 | none =>
  obtain rfl := h3 rfl
  obtain rfl : l = [] := List.eq_nil_of_length_eq_zero (by omega)
  exact run_convert_bytes_nil _ _ _ Try.underlying32 Try.underlying5 0 0 _ Try.underlying9
 | some ad =>
  refine run_convert_bytes_back w _ _ _ ad c l Try.underlying32 Try.underlying5 Try.underlying9 ?_
  intro j hj
  exact (h4 ad rfl).2 j l[j] (by simp [hj])

/-- b == nil -/
theorem eql_nil (w : World) (a : Option Addr) (n c : Nat) : (binOp .eql 32 (.slice a n c) (.slice none 0 0)).run Try.prog w = .ok (.bool a.isNone) w :=
 Lib.run_eql_slice_nil w _ _ a n c 0 0 Try.underlying32

/-- []byte{..}: a new row -/
theorem Owns.lit (w : World) (B : Nat) (l : List UInt8) (hb : B ≤ w.heap.size) (hm : l.length ≤ maxLen) :
  Owns (w.alloc (.cells (l.map u8).toArray 5)) B (.slice (some ⟨w.heap.size, 0, none⟩) l.length l.length) l := by
 have h := World.ownsRow_lit (base := B) (e := 5) (size := 1) w (l.map u8).toArray l.length hb hm (by simp)
 simpa [Owns] using h

/-- a new block of one byte -/
theorem Sees.one (w : World) (z : Int) (b : UInt8) (hz : z = (b.toNat : Int)) : Sees (w.alloc (.cells #[.int .u8 z] 5)) (.slice (some ⟨w.heap.size, 0, none⟩) 1 1) [b] := by
 have h := (Owns.lit w 0 [b] (Nat.zero_le _) (by unfold maxLen; simp)).sees
 simpa [u8, hz] using h
theorem Owns.alloc {w : World} {B : Nat} {v : Value} {l : List UInt8} (h : Owns w B v l) (o : Obj) : Owns (w.alloc o) B v l := h.old ((Keeps.refl _ _).alloc o)


theorem Sees.len {w : World} {v : Value} {l : List UInt8} (h : Sees w v l) : ∃ p c, v = .slice p l.length c ∧ l.length ≤ c ∧ c ≤ maxLen := by
 obtain ⟨p, c, h0, h1, h2, _⟩ := h; exact ⟨p, c, h0, h1, h2⟩
/-- a cell of a slice that is not empty -/
theorem Sees.at {w : World} {v : Value} {l : List UInt8} (h : Sees w v l) (hl : 0 < l.length) : ∃ b o c, v = .slice (some ⟨b, o, none⟩) l.length c ∧ l.length ≤ c ∧ c ≤ maxLen ∧ ∀ j x, l[j]? = some x → w.cell? ⟨b, o + j, none⟩ = some (u8 x) := by
 obtain ⟨p, c, rfl, h1, h2, h3, h4⟩ := h
 cases p with
 | none => have := h3 rfl; omega
 | some a =>
  obtain ⟨b, o, s⟩ := a
  obtain ⟨hs, hc⟩ := h4 _ rfl
  obtain rfl : s = none := hs (by omega)
  refine ⟨b, o, c, rfl, h1, h2, fun j x hj => ?_⟩
  have := hc j x hj
  rwa [show (⟨b, o, none⟩ : Addr).add j = ⟨b, o + j, none⟩ from by unfold Addr.add; split <;> simp_all] at this

/-- x[lo:hi] -/
theorem Sees.sliced {w : World} {p : Option Addr} {c : Nat} {l : List UInt8} (h : Sees w (.slice p l.length c) l) (lo hi : Nat) (h1 : lo ≤ hi) (h2 : hi ≤ l.length) :
  Sees w (Go.sliced p lo hi c 1) ((l.take hi).drop lo) ∧ ∀ b, (Go.sliced p lo hi c 1).ownBlock = some b → (Value.slice p l.length c).ownBlock = some b := by
 obtain ⟨p', c', he, hc1, hc2, hc3, hc4⟩ := h
 simp only [Value.slice.injEq, true_and] at he
 obtain ⟨rfl, rfl⟩ := he
 have hlen : ((l.take hi).drop lo).length = hi - lo := by simp; omega
 unfold Go.sliced
 refine ⟨⟨_, c - lo, by rw [hlen], by rw [hlen]; omega, by omega, ?_, ?_⟩, ?_⟩
 ·intro hn
  split at hn
  ·have := hc3 hn; omega
  ·cases p with
   | none => have := hc3 rfl; omega
   | some a => simp at hn
 ·intro a ha
  split at ha
  ·rename_i e
   subst ha
   refine ⟨fun h => by omega, fun j b hj => ?_⟩
   have hz : ((l.take hi).drop lo).length = 0 := by rw [hlen]; omega
   rw [List.length_eq_zero_iff.1 hz] at hj
   cases hj
  ·cases p with
   | none => simp at ha
   | some a' =>
    simp only [Option.map_some, Option.some.injEq] at ha
    subst ha
    obtain ⟨hs, hc⟩ := hc4 a' rfl
    obtain ⟨b', o', s'⟩ := a'
    rename_i hcl
    obtain rfl : s' = none := hs (by omega)
    refine ⟨fun _ => by unfold Addr.add; split <;> rfl, fun j b hj => ?_⟩
    have hj' : l[lo + j]? = some b := by
     rw [List.getElem?_drop, List.getElem?_take] at hj
     split at hj
     ·exact hj
     ·cases hj
    have := hc (lo + j) b hj'
    rw [← this]
    congr 1
    unfold Addr.add
    simp only [Nat.mul_one]
    split <;> split <;> split <;> simp_all <;> omega
 ·intro b hb
  simp only [Value.ownBlock] at hb ⊢
  split at hb
  ·rename_i a _ _ heq
   simp only [Value.slice.injEq] at heq
   obtain ⟨heq, _, _⟩ := heq
   split at heq
   ·subst heq; exact hb
   ·cases p with
    | none => simp at heq
    | some a' =>
     simp only [Option.map_some, Option.some.injEq] at heq
     subst heq
     simp only [Option.some.injEq] at hb ⊢
     rw [← hb]
     unfold Addr.add
     split <;> rfl
  ·cases hb


/-- x[lo:], as an equation on the run -/
theorem Sees.from {w : World} {p : Option Addr} {n c : Nat} {l : List UInt8} (h : Sees w (.slice p n c) l) (lo : Nat) (h1 : lo ≤ l.length) (k : IntKind) (x : Int) (hx : x = (lo : Int)) :
  ∃ p' c', (∀ W, (Instr.slice 32 (.slice p n c) (some (.int k x)) none none).run Try.prog W = .ok (.slice p' (l.length - lo) c') W) ∧ Sees w (.slice p' (l.length - lo) c') (l.drop lo) ∧
   ∀ b, (Value.slice p' (l.length - lo) c').ownBlock = some b → (Value.slice p n c).ownBlock = some b := by
 obtain ⟨p0, c0, he, _, _⟩ := h.len
 simp only [Value.slice.injEq] at he
 obtain ⟨rfl, rfl, rfl⟩ := he
 have hs := h.sliced lo l.length h1 (Nat.le_refl _)
 rw [List.take_of_length_le (Nat.le_refl _)] at hs
 refine ⟨_, _, fun W => ?_, hs.1, hs.2⟩
 subst hx
 have hlo : (lo : Int) ≤ (l.length : Int) := by omega
 simp [go_sem, hlo]
/-- x[:hi] -/
theorem Sees.upto {w : World} {p : Option Addr} {n c : Nat} {l : List UInt8} (h : Sees w (.slice p n c) l) (hi : Nat) (h1 : hi ≤ l.length) (k : IntKind) (x : Int) (hx : x = (hi : Int)) :
  ∃ p' c', (∀ W, (Instr.slice 32 (.slice p n c) none (some (.int k x)) none).run Try.prog W = .ok (.slice p' hi c') W) ∧ Sees w (.slice p' hi c') (l.take hi) ∧
   ∀ b, (Value.slice p' hi c').ownBlock = some b → (Value.slice p n c).ownBlock = some b := by
 obtain ⟨p0, c0, he, hc, _⟩ := h.len
 simp only [Value.slice.injEq] at he
 obtain ⟨rfl, rfl, rfl⟩ := he
 have hs := h.sliced 0 hi (Nat.zero_le _) h1
 rw [List.drop_zero] at hs
 refine ⟨_, _, fun W => ?_, hs.1, hs.2⟩
 subst hx
 have hhi : (hi : Int) ≤ (c : Int) := by omega
 simp [go_sem, hhi]


/-- a cell that may be written, behind a step that keeps its block -/
theorem Keeps.cf {S : Nat → Prop} {w w' : World} (h : Keeps S w w') {p : Addr} {v : Value} (hv : w.cell? p = some v ∧ w.frozen? p = false) (hs : ¬ S p.block) : w'.cell? p = some v ∧ w'.frozen? p = false :=
 ⟨h.cell hv.1 hs, (h.frozen (World.block_lt_of_cell? w p hv.1) hs).trans hv.2⟩


/-- a new block of bytes, marked or not -/
theorem Sees.new (w : World) (l : List UInt8) (fr : Nat × Nat) (hm : l.length ≤ maxLen) : Sees (w.alloc (.cells (l.map u8).toArray 5 fr)) (.slice (some ⟨w.heap.size, 0, none⟩) l.length l.length) l := by
 refine ⟨_, _, rfl, Nat.le_refl _, hm, fun h => (by cases h), fun a ha => ?_⟩
 cases ha
 refine ⟨fun _ => rfl, fun j b hj => ?_⟩
 rw [show (⟨w.heap.size, 0, none⟩ : Addr).add j = ⟨w.heap.size, j, none⟩ from by unfold Addr.add; split <;> simp_all]
 rw [World.cell?_alloc_mark]
 simp [hj]
/-- []byte("..") of a constant -/
theorem conv_const (w : World) (C : Array Value) (n c : Nat) : (convert 32 32 (.slice (some ⟨w.heap.size, 0, none⟩) n c)).run Try.prog (w.alloc (.cells C 5)) = .ok (.slice (some ⟨w.heap.size, 0, none⟩) n c) (w.alloc (.cells C 5 (C.size, C.size + 1))) :=
 Lib.run_convert_bytes_const (P := Try.prog) w 32 5 C n c Try.underlying32 Try.underlying5

/-- []byte(s) -/
theorem conv_str (w : World) (s : ByteArray) (hs : s.size ≤ maxLen) : ∃ p c w', (convert 9 32 (.string s)).run Try.prog w = .ok (.slice p s.size c) w' ∧ Sees w' (.slice p s.size c) s.toList ∧ Old w w' ∧
  (∀ b, (Value.slice p s.size c).ownBlock = some b → w.heap.size ≤ b) := by
 have hsz : s.toList.length = s.size := by rw [ByteArray.toList_eq]; simp
 have hc : s.size ≤ grownCap w s.size 0 5 := grownCap_ge _ _ _ _
 refine ⟨_, _, _, Lib.run_convert_string_bytes w 9 32 5 s Try.underlying9 Try.underlying32 Try.underlying5, ?_, ?_, ?_⟩
 ·refine ⟨_, _, by rw [hsz], by rw [hsz]; exact hc, grownCap_le_maxLen w _ _ _ hs, fun h => (by cases h), fun a ha => ?_⟩
  cases ha
  refine ⟨fun _ => rfl, fun j b hj => ?_⟩
  have hjl : j < s.size := by rw [← hsz]; exact (List.getElem?_eq_some_iff.1 hj).1
  rw [show (⟨w.heap.size, 0, none⟩ : Addr).add j = ⟨w.heap.size, j, none⟩ from by unfold Addr.add; split <;> simp_all]
  rw [Lib.bytesWorld_cell w _ s j hjl]
  have : s.data.toList.getD j 0 = b := by
   rw [ByteArray.toList_eq] at hj
   simp [List.getD, hj]
  rw [this]; rfl
 ·refine ⟨rfl, rfl, rfl, ?_, fun k hk _ => Lib.bytesWorld_at_old w _ s k hk⟩
  rw [Lib.bytesWorld_size]; omega
 ·intro b hb
  simp [Value.ownBlock] at hb
  omega

end Go.Proofs.Ytllnlimbfoingaa

namespace Go.Proofs.Ytllnlimbfoingaa
open Go.RowKit

/-- a world in which all old memory is as it was -/
structure OldOf (w : World) where
 to : World
 old : Old w to

instance (w : World) : Nonempty (OldOf w) := ⟨⟨w, Keeps.refl _ _⟩⟩

theorem wp_region_quiet_old {P : Program} {id : Nat} {Q : Exit → Act → World → Prop} {a : Act} {w : World} {l : List Oper} (hm : P.follows .mixedOrders = true) (hB : Region.lexB .any l.toArray = true)
  (h : wpQuiet P l.toArray (fun w' => ∃ p : OldOf w, w' = p.to) (fun a' => ∀ w', (∃ p : OldOf w, w' = p.to) → Q .normal a' w') l a) : (Code.region id l.toArray true).wp P Q a w :=
 wp_region_quiet (C := fun w' => ∃ p : OldOf w, w' = p.to) hm hB ⟨⟨w.drew, (Keeps.refl _ _).drew⟩, rfl⟩ (by simpa using h)
theorem Calls.quiet_of_old {P : Program} {f : FuncId} {args : Array Value} {w : World} {p : OldOf w} {v : Value}
  (h : Calls P f args p.to fun e w' => e = .returned v ∧ Old p.to w') : Calls P f args p.to fun e w'' => e = .returned v ∧ ∃ q : OldOf w, w'' = q.to :=
 h.mono fun _ w'' ⟨he, hm⟩ => ⟨he, ⟨w'', p.old.trans hm⟩, rfl⟩
theorem OldOf.cell {w : World} {a : Addr} {v : Value} (h : w.cell? a = some v) : ∀ p : OldOf w, p.to.cell? a = some v := fun p => p.old.cell h (fun f => f)
end Go.Proofs.Ytllnlimbfoingaa

namespace Go.Proofs.Ytllnlimbfoingaa
open Go.RowKit

/-- the slice value v reads as the things l, each of k cells -/
def SeesR {α : Type} (w : World) (k : Nat) (enc : α → List Value) (v : Value) (l : List α) : Prop :=
 ∃ p c, v = .slice p l.length c ∧ l.length ≤ c ∧ c ≤ maxLen ∧ (p = none → c = 0) ∧
  ∀ a, p = some a → (0 < c → a.spot = none) ∧ ∀ j x, l[j]? = some x → ∀ i u, (enc x)[i]? = some u → w.cell? (a.add (j * k + i)) = some u

variable {α : Type} {w w' : World} {k : Nat} {enc : α → List Value} {v : Value} {l : List α}

theorem block_add (a : Addr) (j : Nat) : (a.add j).block = a.block := by unfold Addr.add; split <;> rfl
theorem SeesR.nil (w : World) : SeesR w k enc (.slice none 0 0) [] := ⟨none, 0, rfl, Nat.le_refl _, Nat.zero_le _, fun _ => rfl, fun _ h => by cases h⟩
theorem SeesR.keeps {S : Nat → Prop} (h : SeesR w k enc v l) (hk : Keeps S w w') (hS : ∀ b, v.ownBlock = some b → ¬ S b) : SeesR w' k enc v l := by
 obtain ⟨p, c, rfl, h1, h2, h3, h4⟩ := h
 refine ⟨p, c, rfl, h1, h2, h3, fun a ha => ⟨(h4 a ha).1, fun j x hj i u hu => ?_⟩⟩
 refine hk.cell ((h4 a ha).2 j x hj i u hu) ?_
 rw [block_add]
 exact hS _ (by subst ha; rfl)
theorem SeesR.old (h : SeesR w k enc v l) (hk : Old w w') : SeesR w' k enc v l := h.keeps hk (fun _ _ f => f)
theorem SeesR.alloc (h : SeesR w k enc v l) (o : Obj) : SeesR (w.alloc o) k enc v l := h.old ((Keeps.refl _ _).alloc o)
theorem SeesR.drew (h : SeesR w k enc v l) : SeesR w.drew k enc v l := h
theorem SeesR.len (h : SeesR w k enc v l) : ∃ p c, v = .slice p l.length c ∧ l.length ≤ c ∧ c ≤ maxLen := by
 obtain ⟨p, c, h0, h1, h2, _⟩ := h; exact ⟨p, c, h0, h1, h2⟩
/-- the cells of a slice that is not empty -/
theorem SeesR.at (h : SeesR w k enc v l) (hl : 0 < l.length) : ∃ b o c, v = .slice (some ⟨b, o, none⟩) l.length c ∧ l.length ≤ c ∧ c ≤ maxLen ∧
  ∀ j x, l[j]? = some x → ∀ i u, (enc x)[i]? = some u → w.cell? ⟨b, o + j * k + i, none⟩ = some u := by
 obtain ⟨p, c, rfl, h1, h2, h3, h4⟩ := h
 cases p with
 | none => have := h3 rfl; omega
 | some a =>
  obtain ⟨b, o, s⟩ := a
  obtain ⟨hs, hc⟩ := h4 _ rfl
  obtain rfl : s = none := hs (by omega)
  refine ⟨b, o, c, rfl, h1, h2, fun j x hj i u hu => ?_⟩
  have := hc j x hj i u hu
  rwa [show (⟨b, o, none⟩ : Addr).add (j * k + i) = ⟨b, o + j * k + i, none⟩ from by unfold Addr.add; split <;> simp_all <;> omega] at this
theorem SeesR.at0 (h : SeesR w k enc v l) (hl : l.length = 0) : l = [] ∧ ∃ p c, v = .slice p 0 c := by
 obtain ⟨p, c, rfl, _⟩ := h.len
 exact ⟨List.eq_nil_of_length_eq_zero hl, p, c, by rw [hl]⟩

/-- x[lo:hi] -/
theorem SeesR.sliced {p : Option Addr} {c : Nat} (h : SeesR w k enc (.slice p l.length c) l) (lo hi : Nat) (h1 : lo ≤ hi) (h2 : hi ≤ l.length) :
  SeesR w k enc (Go.sliced p lo hi c k) ((l.take hi).drop lo) ∧ ∀ b, (Go.sliced p lo hi c k).ownBlock = some b → (Value.slice p l.length c).ownBlock = some b := by
 obtain ⟨p', c', he, hc1, hc2, hc3, hc4⟩ := h
 simp only [Value.slice.injEq, true_and] at he
 obtain ⟨rfl, rfl⟩ := he
 have hlen : ((l.take hi).drop lo).length = hi - lo := by simp; omega
 unfold Go.sliced
 refine ⟨⟨_, c - lo, by rw [hlen], by rw [hlen]; omega, by omega, ?_, ?_⟩, ?_⟩
 ·intro hn
  split at hn
  ·have := hc3 hn; omega
  ·cases p with
   | none => have := hc3 rfl; omega
   | some a => simp at hn
 ·intro a ha
  split at ha
  ·rename_i e
   subst ha
   refine ⟨fun h => by omega, fun j x hj => ?_⟩
   have hz : ((l.take hi).drop lo).length = 0 := by rw [hlen]; omega
   rw [List.length_eq_zero_iff.1 hz] at hj
   cases hj
  ·cases p with
   | none => simp at ha
   | some a' =>
    simp only [Option.map_some, Option.some.injEq] at ha
    subst ha
    obtain ⟨hs, hc⟩ := hc4 a' rfl
    obtain ⟨b', o', s'⟩ := a'
    rename_i hcl
    obtain rfl : s' = none := hs (by omega)
    refine ⟨fun _ => by unfold Addr.add; split <;> rfl, fun j x hj i u hu => ?_⟩
    have hj' : l[lo + j]? = some x := by
     rw [List.getElem?_drop, List.getElem?_take] at hj
     split at hj
     ·exact hj
     ·cases hj
    have := hc (lo + j) x hj' i u hu
    rw [← this]
    congr 1
    have e : (lo + j) * k + i = lo * k + (j * k + i) := by rw [Nat.add_mul]; omega
    rw [e]
    unfold Addr.add
    split <;> split <;> split <;> simp_all <;> omega
 ·intro b hb
  simp only [Value.ownBlock] at hb ⊢
  split at hb
  ·rename_i a _ _ heq
   simp only [Value.slice.injEq] at heq
   obtain ⟨heq, _, _⟩ := heq
   split at heq
   ·subst heq; exact hb
   ·cases p with
    | none => simp at heq
    | some a' =>
     simp only [Option.map_some, Option.some.injEq] at heq
     subst heq
     simp only [Option.some.injEq] at hb ⊢
     rw [← hb]
     unfold Addr.add
     split <;> rfl
  ·cases hb

theorem flat_at (hk : ∀ x, (enc x).length = k) : ∀ (l : List α) (j : Nat) (x : α), l[j]? = some x → ∀ i, i < k → (l.flatMap enc)[j * k + i]? = (enc x)[i]?
 | [], j, x, h => by simp at h
 | y :: r, 0, x, h => by
  intro i hi
  simp only [List.getElem?_cons_zero, Option.some.injEq] at h
  subst h
  rw [List.flatMap_cons, Nat.zero_mul, Nat.zero_add, List.getElem?_append_left (by rw [hk]; exact hi)]
 | y :: r, j + 1, x, h => by
  intro i hi
  simp only [List.getElem?_cons_succ] at h
  have ih := flat_at hk r j x h i hi
  rw [List.flatMap_cons, List.getElem?_append_right (by rw [hk, Nat.succ_mul]; omega), hk]
  rw [show (j + 1) * k + i - k = j * k + i from by rw [Nat.succ_mul]; omega]
  exact ih
theorem flat_at' {k : Nat} {enc : α → List Value} {l : List α} (hk : ∀ x ∈ l, (enc x).length = k) : ∀ (j : Nat) (x : α), l[j]? = some x → ∀ i, i < k → (l.flatMap enc)[j * k + i]? = (enc x)[i]? := by
 induction l with
 | nil => intro j x h; simp at h
 | cons y r ih =>
  intro j x h i hi
  rw [List.flatMap_cons]
  rcases j with _ | j
  ·simp only [List.getElem?_cons_zero, Option.some.injEq] at h
   subst h
   rw [Nat.zero_mul, Nat.zero_add, List.getElem?_append_left (by rw [hk y (by simp)]; exact hi)]
  ·simp only [List.getElem?_cons_succ] at h
   rw [List.getElem?_append_right (by rw [hk y (by simp), Nat.succ_mul]; omega), hk y (by simp), show (j + 1) * k + i - k = j * k + i from by rw [Nat.succ_mul]; omega]
   exact ih (fun z hz => hk z (by simp [hz])) j x h i hi
/-- a new block of rows -/
theorem SeesR.new (w : World) (t : TypeId) (fr : Nat × Nat) (l : List α) (cs : Array Value) (hcs : cs.toList = l.flatMap enc) (hk : ∀ x, (enc x).length = k) (hm : l.length ≤ maxLen) :
  SeesR (w.alloc (.cells cs t fr)) k enc (.slice (some ⟨w.heap.size, 0, none⟩) l.length l.length) l := by
 refine ⟨_, _, rfl, Nat.le_refl _, hm, fun h => (by cases h), fun a ha => ?_⟩
 cases ha
 refine ⟨fun _ => rfl, fun j x hj i u hu => ?_⟩
 have hi : i < k := by rw [← hk x]; exact (List.getElem?_eq_some_iff.1 hu).1
 rw [show (⟨w.heap.size, 0, none⟩ : Addr).add (j * k + i) = ⟨w.heap.size, j * k + i, none⟩ from by unfold Addr.add; split <;> simp_all]
 rw [World.cell?_alloc_mark]
 rw [← Array.getElem?_toList, hcs, flat_at hk l j x hj i hi]
 exact hu
end Go.Proofs.Ytllnlimbfoingaa

namespace Go.Proofs.Ytllnlimbfoingaa
open Go.RowKit Go.Conc

/-- as the kit's condition on code, in a frame of a call -/
def wpN (P : Program) (c : Code) (Q : Exit → Act → World → Prop) (a : Act) (w : World) : Prop :=
 ∀ (b : Frame) (k : List Item) (cs : List Frame), b.kind = .normal → ∃ e a' w', Q e a' w' ∧ Arrives P (lone (b.at a (.code c :: k)) cs w) b k cs e a' w'
section
variable {P : Program} {Q : Exit → Act → World → Prop} {a : Act} {w : World}
theorem wpN_of_wp {c : Code} (h : c.wp P Q a w) : wpN P c Q a w := fun b k cs _ => h b k cs
theorem wpN_seq {x y : Code} (h : wpN P x (Exit.then (wpN P y Q) Q) a w) : wpN P (Code.seq x y) Q a w := by
 intro b k cs hb
 obtain ⟨e, a1, w1, hq, harr⟩ := h b (.code y :: k) cs hb
 cases e with
 | normal =>
  obtain ⟨e2, a2, w2, hq2, harr2⟩ := hq b k cs hb
  exact ⟨e2, a2, w2, hq2, .of_steps (.head step_seq harr) harr2⟩
 | exit id => exact ⟨_, a1, w1, hq, .of_steps (.one step_seq) (.pass (x := .code y) rfl (fun _ _ => .inl (by simp)) harr)⟩
 | goto l => exact ⟨_, a1, w1, hq, .of_steps (.one step_seq) (.pass (x := .code y) rfl (fun _ _ => .inl (by simp)) harr)⟩
 | ret => exact ⟨_, a1, w1, hq, .of_steps (.one step_seq) (.pass (x := .code y) rfl (fun _ _ => .inl (by simp)) harr)⟩
 | panic ch => exact ⟨_, a1, w1, hq, .of_steps (.one step_seq) (.pass (x := .code y) rfl (fun _ _ => .inl (by simp)) harr)⟩
 | outgrown => exact ⟨_, a1, w1, hq, .of_steps (.one step_seq) (.pass (x := .code y) rfl (fun _ _ => .inl (by simp)) harr)⟩
theorem wpN_block {id : Nat} {c : Code} (h : wpN P c (Exit.inBlock id Q) a w) : wpN P (Code.block id c) Q a w := by
 intro b k cs hb
 obtain ⟨e, a1, w1, hq, harr⟩ := h b (.inBlock id :: k) cs hb
 cases e with
 | normal => exact ⟨.normal, a1, w1, hq, .head step_block (Steps.trans harr (.one step_inBlock))⟩
 | exit id' =>
  by_cases hid : id' = id
  ·simp only [Exit.inBlock, hid, if_true] at hq
   exact ⟨.normal, a1, w1, hq, .head step_block (harr k (by simp [exitTo, hid]))⟩
  ·simp only [Exit.inBlock, hid, if_false] at hq
   refine ⟨.exit id', a1, w1, hq, fun k' hk => .head step_block (harr k' ?_)⟩
   have : (id == id') = false := by simp; exact fun h => hid h.symm
   simp [exitTo, this, hk]
 | goto l => exact ⟨_, a1, w1, hq, fun k' hk => .head step_block (harr k' (by simp [gotoIn, hk]))⟩
 | ret => exact ⟨_, a1, w1, hq, .of_steps (.one step_block) harr⟩
 | panic ch => exact ⟨_, a1, w1, hq, .of_steps (.one step_block) harr⟩
 | outgrown => exact ⟨_, a1, w1, hq, .of_steps (b := b) (k := k) (cs := cs) (e := .outgrown) (.one step_block) harr⟩
theorem wpN_loop {c : Code} (I : Nat → Act → World → Prop) (n0 : Nat) (h0 : I n0 a w)
  (round : ∀ n a w, I n a w → wpN P c (Exit.then (fun a' w' => ∃ m, m < n ∧ I m a' w') Q) a w) : wpN P (Code.loop c) Q a w := by
 intro b k cs hb
 have key : ∀ n a w, I n a w → ∃ e a' w', Q e a' w' ∧ Arrives P (lone (b.at a (.code c :: .inLoop c :: k)) cs w) b k cs e a' w' := by
  intro n
  induction n using Nat.strongRecOn with
  | _ n ih =>
   intro a w hI
   obtain ⟨e, a1, w1, hq, harr⟩ := round n a w hI b (.inLoop c :: k) cs hb
   cases e with
   | normal =>
    obtain ⟨m, hlt, hI1⟩ := hq
    obtain ⟨e2, a2, w2, hq2, harr2⟩ := ih m hlt a1 w1 hI1
    exact ⟨e2, a2, w2, hq2, .of_steps (Steps.trans harr (.one step_inLoop)) harr2⟩
   | exit id => exact ⟨_, a1, w1, hq, .pass (x := .inLoop c) rfl (fun _ _ => .inl (by simp)) harr⟩
   | goto l => exact ⟨_, a1, w1, hq, .pass (x := .inLoop c) rfl (fun _ _ => .inl (by simp)) harr⟩
   | ret => exact ⟨_, a1, w1, hq, .pass (x := .inLoop c) rfl (fun _ _ => .inl (by simp)) harr⟩
   | panic ch => exact ⟨_, a1, w1, hq, .pass (x := .inLoop c) rfl (fun _ _ => .inl (by simp)) harr⟩
   | outgrown => exact ⟨_, a1, w1, hq, .pass (x := .inLoop c) rfl (fun _ _ => .inl (by simp)) harr⟩
 obtain ⟨e, a', w', hq, harr⟩ := key _ a w h0
 exact ⟨e, a', w', hq, .of_steps (.one step_loop) harr⟩
theorem calls_of_wpN {f : FuncId} {fn : Func} {c : Code} {args : Array Value} {w : World} {R : Ending → World → Prop} (hf : P.funcs[f]? = some fn) (hb : fn.body = some c)
  (h : wpN P c (bodyPost P fn R) { tmps := args ++ Array.replicate (fn.ntmps - args.size) undef, defers := [] } w) : Calls P f args w R := by
 intro cs
 let b : Frame := { (default : Frame) with fn := f, kind := .normal }
 have henter : Frame.enter P f args .normal = b.at { tmps := args ++ Array.replicate (fn.ntmps - args.size) undef, defers := [] } [.code c] := by
  simp [Frame.enter, Frame.at, hf, hb, b]
 obtain ⟨e, a', w', hq, harr⟩ := h b [] cs rfl
 rw [← henter] at harr
 cases e with
 | normal =>
  obtain ⟨hd, v, hr, hR⟩ := hq
  exact ⟨.returned v, w', _, hR, Steps.trans harr (.one step_end), rfl, rfl, hd, rfl, fn, hf, hr⟩
 | ret =>
  obtain ⟨hd, v, hr, hR⟩ := hq
  obtain ⟨todo, hs⟩ := harr
  exact ⟨.returned v, w', _, hR, hs, rfl, rfl, hd, rfl, fn, hf, hr⟩
 | panic chain =>
  obtain ⟨hd, hR⟩ := hq
  obtain ⟨todo, hs⟩ := harr
  exact ⟨.panicked chain, w', _, hR, hs, rfl, rfl, hd, fn, hf⟩
 | exit id => exact hq.elim
 | goto l => exact hq.elim
 | outgrown => exact ⟨.outgrown, w', b, hq, harr.resolve_left (by simp [b]), rfl, trivial⟩

/-- a region that begins with a communication -/
theorem wpN_region_head {id : Nat} {o : Oper} {l : List Oper} {w1 : World} {v : Value}
  (hs : ∀ (b : Frame) (k : List Item) (cs : List Frame), b.kind = .normal → step P (lone (b.at a (.inRegion (o :: l).toArray (0 :: List.range' 1 l.length) :: k)) cs w) = .next (lone ((b.at a (.inRegion (o :: l).toArray (0 :: List.range' 1 l.length) :: k)).finish v) cs w1))
  (h : wpList P (o :: l).toArray Q l (a.put o.dst v) w1) : wpN P (Code.region id (o :: l).toArray false) Q a w := by
 intro b k cs hb
 have hl := wpOps_eq_wpList (P := P) (ops := (o :: l).toArray) (Q := Q) l 1 (fun j => by simp [Nat.add_comm 1 j])
 rw [← hl] at h
 obtain ⟨e, a', w', hq, harr⟩ := wp_ops _ _ _ h b k cs
 have h1 := hs b k cs hb
 rw [Frame.finish_at] at h1
 have he : List.range (o :: l).toArray.size = 0 :: List.range' 1 l.length := by
  simp only [List.size_toArray, List.length_cons]
  rw [List.range_eq_range', List.range'_succ]
 refine ⟨e, a', w', hq, .of_steps (.head step_region ?_) harr⟩
 rw [he]
 exact .one h1
theorem comm_head {o : Oper} {l : List Oper} {w1 : World} {cases : Array CommCase} {shape : CommShape} {b : Frame} {k : List Item} {cs : List Frame} (hg : o.guard = none) (hb : b.kind = .normal) (hr : (execOp a.eval o).run P w = .ok (.comm cases false shape) w1) :
  stepG P true (G (b.at a (.inRegion (o :: l).toArray (0 :: List.range' 1 l.length) :: k)) cs) w = .comm (G (b.at a (.inRegion (o :: l).toArray (0 :: List.range' 1 l.length) :: k)) cs) cases false shape w1 (listed P b.fn a o w) :=
 stepG_comm (by simp) (by simp [Region.wanted, hg]) (by rw [hb]; decide) hr
/-- select, a receive case: something is there -/
theorem wpN_recv {id : Nat} {o : Oper} {l : List Oper} {c cap s r : Nat} {u z : Value} {buf : List Value} {tm : Bool} (hg : o.guard = none) (hr : (execOp a.eval o).run P w = .ok (.comm #[rcase c z] false .select) w)
  (hc : w.heap[c]? = some (.chan cap (u :: buf).toArray false s r tm)) (h : wpList P (o :: l).toArray Q l (a.put o.dst (.tuple #[goInt 0, .bool true, u])) (w.setChan c cap buf.toArray false s (r + 1) tm)) : wpN P (Code.region id (o :: l).toArray false) Q a w := by
 refine wpN_region_head (fun b k cs hb => ?_) h
 have := step_lone_select_recv_buf (comm_head (l := l) (k := k) (cs := cs) hg hb hr) hc (by simp)
 simp at this
 exact this
/-- .. nothing is there: the default -/
theorem wpN_recv_none {id : Nat} {o : Oper} {l : List Oper} {c cap s r : Nat} {z : Value} {tm : Bool} (hg : o.guard = none) (hr : (execOp a.eval o).run P w = .ok (.comm #[rcase c z] false .select) w)
  (hc : w.heap[c]? = some (.chan cap #[] false s r tm)) (h : wpList P (o :: l).toArray Q l (a.put o.dst (.tuple #[goInt (-1), .bool false, z])) w) : wpN P (Code.region id (o :: l).toArray false) Q a w :=
 wpN_region_head (fun _b k cs hb => step_lone_select_default (comm_head (l := l) (k := k) (cs := cs) hg hb hr) hc) h
/-- select, a send case: there is room -/
theorem wpN_send {id : Nat} {o : Oper} {l : List Oper} {c cap s r : Nat} {u z : Value} {buf : Array Value} {tm : Bool} (hg : o.guard = none) (hr : (execOp a.eval o).run P w = .ok (.comm #[scase c u z] false .select) w)
  (hc : w.heap[c]? = some (.chan cap buf false s r tm)) (hroom : buf.size < cap) (h : wpList P (o :: l).toArray Q l (a.put o.dst (.tuple #[goInt 0, .bool false])) (w.setChan c cap (buf.push u) false (s + 1) r tm)) : wpN P (Code.region id (o :: l).toArray false) Q a w :=
 wpN_region_head (fun _b k cs hb => step_lone_select_send_room (comm_head (l := l) (k := k) (cs := cs) hg hb hr) hc hroom) h
/-- .. there is none: the default -/
theorem wpN_send_full {id : Nat} {o : Oper} {l : List Oper} {c cap s r : Nat} {u z : Value} {buf : Array Value} {tm : Bool} (hg : o.guard = none) (hr : (execOp a.eval o).run P w = .ok (.comm #[scase c u z] false .select) w)
  (hc : w.heap[c]? = some (.chan cap buf false s r tm)) (hfull : cap ≤ buf.size) (h : wpList P (o :: l).toArray Q l (a.put o.dst (.tuple #[goInt (-1), .bool false])) w) : wpN P (Code.region id (o :: l).toArray false) Q a w :=
 wpN_region_head (fun _b k cs hb => step_lone_select_send_full (comm_head (l := l) (k := k) (cs := cs) hg hb hr) hc hfull) h
end
theorem Keeps.setChan {S : Nat → Prop} {a w : World} (h : Keeps S a w) {c : Nat} (hc : c < a.heap.size → S c) (cap : Nat) (buf : Array Value) (cl : Bool) (s r : Nat) (tm : Bool) : Keeps S a (w.setChan c cap buf cl s r tm) :=
 h.then (T := fun k => k = c) ⟨rfl, rfl, rfl, by simp [World.setChan], fun k _ hk => by simp only [World.setChan]; rw [Array.getElem?_setIfInBounds_ne (fun e => hk e.symm)]⟩ (fun i hi e => by subst e; exact hc hi)
theorem chan_same (w : World) {c : Nat} {o : Obj} (hc : w.heap[c]? = some o) (cap : Nat) (buf : Array Value) (cl : Bool) (s r : Nat) (tm : Bool) : (w.setChan c cap buf cl s r tm).heap[c]? = some (.chan cap buf cl s r tm) :=
 heap_setChan w c cap buf cl s r tm (Array.getElem?_eq_some_iff.1 hc).1
end Go.Proofs.Ytllnlimbfoingaa
