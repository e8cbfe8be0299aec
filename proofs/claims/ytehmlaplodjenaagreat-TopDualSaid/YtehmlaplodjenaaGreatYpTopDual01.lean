/- DERIVED. Words for byte slices, worlds that keep what was there, and laws for the walk over them. No project text. · DERIVED. Plain: forms of numbers, and how they are read. No program in sight. -/
import Derived.Test.YtehmlaplodjenaaGreatProg
import Derived.WalkKit
import Derived.WalkLawsBesides
import Derived.WalkSpells
import Derived.Lib.Hide
import Derived.Laws.AppendOwnNone
import Derived.Lib.SliceRun
import Derived.Lib.SlBytesConst
import Derived.Lib.ConvBytes
import Derived.Laws.BitsLemmas
import Derived.Laws.Bits64
import Derived.Defers
import Derived.Deep.RegionHeld3
import Derived.Deep.RegionWith
import Derived.Deep.RegionLaw
import Derived.BigQuiet
set_option maxRecDepth 100000
set_option maxHeartbeats 2000000
namespace Go.Proofs.YtehmlaplodjenaaGreat
section
open Go.RowKit
def u8 (b : UInt8) : Value := .int .u8 (b.toNat : Int)
structure Keeps (S : Nat → Prop) (w w' : World) : Prop where
 os : w'.os = w.os
 tape : w'.tape = w.tape
 output : w'.output = w.output
 size : w.heap.size ≤ w'.heap.size
 block : ∀ k, k < w.heap.size → ¬ S k → w'.heap[k]? = w.heap[k]?
theorem Keeps.refl (S : Nat → Prop) (w : World) : Keeps S w w := ⟨rfl, rfl, rfl, Nat.le_refl _, fun _ _ _ => rfl⟩
theorem Keeps.trans {S : Nat → Prop} {a b c : World} (h : Keeps S a b) (k : Keeps S b c) : Keeps S a c :=
 ⟨k.os.trans h.os, k.tape.trans h.tape, k.output.trans h.output, Nat.le_trans h.size k.size,
  fun i hi hs => (k.block i (Nat.lt_of_lt_of_le hi h.size) hs).trans (h.block i hi hs)⟩
theorem Keeps.then {S T : Nat → Prop} {a b c : World} (h : Keeps S a b) (k : Keeps T b c) (hT : ∀ i, i < a.heap.size → T i → S i) : Keeps S a c :=
 ⟨k.os.trans h.os, k.tape.trans h.tape, k.output.trans h.output, Nat.le_trans h.size k.size,
  fun i hi hs => (k.block i (Nat.lt_of_lt_of_le hi h.size) (fun t => hs (hT i hi t))).trans (h.block i hi hs)⟩
theorem Keeps.weaken {S T : Nat → Prop} {a b : World} (h : Keeps S a b) (hT : ∀ i, i < a.heap.size → S i → T i) : Keeps T a b :=
 ⟨h.os, h.tape, h.output, h.size, fun i hi hs => h.block i hi (fun t => hs (hT i hi t))⟩
theorem Keeps.below {B : Nat} {a b : World} (h : Keeps (fun k => B ≤ k) a b) (hB : B ≤ a.heap.size) : Below B a b :=
 ⟨h.os, h.tape, h.output, h.size, fun k hk => h.block k (Nat.lt_of_lt_of_le hk hB) (by omega)⟩
theorem Keeps.of_below {B : Nat} {a b : World} (h : Below B a b) : Keeps (fun k => B ≤ k) a b :=
 ⟨h.os, h.tape, h.output, h.size, fun k _ hs => h.block k (by omega)⟩
abbrev Old (w w' : World) : Prop := Keeps (fun _ => False) w w'
theorem Old.below {a b : World} (h : Old a b) : Below a.heap.size a b := ⟨h.os, h.tape, h.output, h.size, fun k hk => h.block k hk (fun f => f)⟩
theorem Old.of_below {B : Nat} {a b : World} (h : Below B a b) (hB : a.heap.size ≤ B) : Old a b := ⟨h.os, h.tape, h.output, h.size, fun k hk _ => h.block k (by omega)⟩
theorem Keeps.alloc {S : Nat → Prop} {a w : World} (h : Keeps S a w) (o : Obj) : Keeps S a (w.alloc o) :=
 h.trans ⟨rfl, rfl, rfl, by simp, fun k hk _ => Below.heap_alloc _ _ _ hk⟩
theorem Keeps.drew {S : Nat → Prop} {a w : World} (h : Keeps S a w) : Keeps S a w.drew := ⟨h.os, h.tape, h.output, h.size, h.block⟩
theorem Keeps.setCell {S : Nat → Prop} {a w : World} (h : Keeps S a w) {p : Addr} (hp : p.block < a.heap.size → S p.block) (u : Value) : Keeps S a (w.setCell p u) :=
 ⟨h.os, h.tape, h.output, by simpa [World.setCell] using h.size, fun k hk hs =>
  (Below.heap_setCell _ _ _ _ (fun e => hs (by subst e; exact hp hk))).trans (h.block k hk hs)⟩
theorem Keeps.grown {S : Nat → Prop} {a w w' : World} {row : Option Nat} (h : Keeps S a w) (hg : w.grownBy w' row) (hr : ∀ k, row = some k → k < a.heap.size → S k) : Keeps S a w' :=
 h.then (T := fun k => some k = row) ⟨hg.os, hg.tape, hg.output, hg.size, fun k hk hne => hg.block k hk hne⟩ (fun i hi e => hr i e.symm hi)
theorem Keeps.cell {S : Nat → Prop} {w w' : World} (h : Keeps S w w') {p : Addr} {v : Value} (hv : w.cell? p = some v) (hs : ¬ S p.block) : w'.cell? p = some v := by
 have hlt := World.block_lt_of_cell? w p hv
 exact (World.cell?_of_block (w := w) (h.block p.block hlt hs)).trans hv
theorem ownsRow_keeps {S : Nat → Prop} {w w' : World} {base : Nat} {e : TypeId} {size : Nat} {v : Value} {n : Nat} {xs : List Value} (h : w.ownsRow base e size v n xs) (hk : Keeps S w w')
  (hS : ∀ k, v.ownBlock = some k → ¬ S k) : w'.ownsRow base e size v n xs := by
 refine ⟨h.1, ?_⟩
 rcases h.2 with hn | ⟨g, cap, cur, rfl, hb, hgg, rest⟩
 ·exact .inl hn
 ·refine .inr ⟨g, cap, cur, rfl, hb, ?_, rest⟩
  rw [hk.block g (Array.getElem?_eq_some_iff.1 hgg).1 (hS g rfl)]
  exact hgg
theorem ownsRow_mono {w : World} {base base' : Nat} {e : TypeId} {size : Nat} {v : Value} {n : Nat} {xs : List Value} (h : w.ownsRow base e size v n xs) (hb : base' ≤ base) : w.ownsRow base' e size v n xs := by
 refine ⟨h.1, ?_⟩
 rcases h.2 with hn | ⟨g, cap, cur, rfl, hb', rest⟩
 ·exact .inl hn
 ·exact .inr ⟨g, cap, cur, rfl, by omega, rest⟩
def Sees (w : World) (v : Value) (l : List UInt8) : Prop :=
 ∃ p c, v = .slice p l.length c ∧ l.length ≤ c ∧ c ≤ maxLen ∧ (p = none → c = 0) ∧
  ∀ a, p = some a → (0 < c → a.spot = none) ∧ ∀ j b, l[j]? = some b → w.cell? (a.add j) = some (u8 b)
theorem Sees.nil (w : World) : Sees w (.slice none 0 0) [] := ⟨none, 0, rfl, Nat.le_refl _, Nat.zero_le _, fun _ => rfl, fun _ h => by cases h⟩
theorem Sees.keeps {S : Nat → Prop} {w w' : World} {v : Value} {l : List UInt8} (h : Sees w v l) (hk : Keeps S w w') (hS : ∀ k, v.ownBlock = some k → ¬ S k) : Sees w' v l := by
 obtain ⟨p, c, rfl, h1, h2, h3, h4⟩ := h
 refine ⟨p, c, rfl, h1, h2, h3, fun a ha => ⟨(h4 a ha).1, fun j b hj => ?_⟩⟩
 refine hk.cell ((h4 a ha).2 j b hj) ?_
 have : (a.add j).block = a.block := by unfold Addr.add; split <;> rfl
 rw [this]
 exact hS _ (by subst ha; rfl)
theorem Sees.old {w w' : World} {v : Value} {l : List UInt8} (h : Sees w v l) (hk : Old w w') : Sees w' v l := h.keeps hk (fun _ _ f => f)
theorem Sees.alloc {w : World} {v : Value} {l : List UInt8} (h : Sees w v l) (o : Obj) : Sees (w.alloc o) v l := h.old ((Keeps.refl _ _).alloc o)
theorem Sees.drew {w : World} {v : Value} {l : List UInt8} (h : Sees w v l) : Sees w.drew v l := h
def Owns (w : World) (B : Nat) (v : Value) (l : List UInt8) : Prop := w.ownsRow B 5 1 v l.length (l.map u8)
theorem Owns.sees {w : World} {B : Nat} {v : Value} {l : List UInt8} (h : Owns w B v l) : Sees w v l := by
 obtain ⟨h1, h2⟩ := h
 rcases h2 with ⟨rfl, h0⟩ | ⟨g, cap, cur, rfl, hb, hgg, hn, hm, hs, ht⟩
 ·exact ⟨none, 0, by rw [h0], by omega, Nat.zero_le _, fun _ => rfl, fun _ h => by cases h⟩
 ·refine ⟨_, cap, rfl, hn, hm, fun h => (by cases h), fun a ha => ?_⟩
  cases ha
  refine ⟨fun _ => rfl, fun j b hj => ?_⟩
  rw [show (⟨g, 0, none⟩ : Addr).add j = ⟨g, j, none⟩ from by unfold Addr.add; split <;> simp_all]
  rw [cell_of_row w g j cur _ (0, 0) hgg]
  have hj' : (l.map u8)[j]? = some (u8 b) := by simp [hj]
  rw [← ht, List.getElem?_take] at hj'
  split at hj'
  ·simpa using hj'
  ·cases hj'
theorem Owns.mono {w : World} {B B' : Nat} {v : Value} {l : List UInt8} (h : Owns w B v l) (hb : B' ≤ B) : Owns w B' v l := ownsRow_mono h hb
theorem Owns.keeps {S : Nat → Prop} {w w' : World} {B : Nat} {v : Value} {l : List UInt8} (h : Owns w B v l) (hk : Keeps S w w') (hS : ∀ k, v.ownBlock = some k → ¬ S k) : Owns w' B v l := ownsRow_keeps h hk hS
theorem Owns.old {w w' : World} {B : Nat} {v : Value} {l : List UInt8} (h : Owns w B v l) (hk : Old w w') : Owns w' B v l := h.keeps hk (fun _ _ f => f)
theorem Owns.nil (w : World) (B : Nat) : Owns w B (.slice none 0 0) [] := World.ownsRow_nil w B _ 1
theorem Owns.block {w : World} {B : Nat} {v : Value} {l : List UInt8} (h : Owns w B v l) : ∀ k, v.ownBlock = some k → B ≤ k ∧ k < w.heap.size := h.lt
theorem oneCell_u8 (l : List UInt8) : ∀ u ∈ l.map u8, u.oneCell' = true := by
 intro u hu; obtain ⟨b, _, rfl⟩ := List.mem_map.1 hu; rfl
theorem Tryz.infoU8 : (Tryz.prog.info? 5).map (fun i => (i.zero, i.size, i.bytes)) = some (some (.int .u8 0), 1, 1) := by kernel_rfl
theorem wpList_append_sees {w : World} {ops : Array Oper} {rest : List Oper} {o : Oper} {a : Act} {Q : Exit → Act → World → Prop} (hgd : o.guard = none) (s x : Operand)
  (ho : o.op = .call { callee := .builtin .append, args := #[s, x], argTypes := #[116, 116] })
  (B : Nat) (v : Value) (l : List UInt8) (hs : a.eval s = v) (hown : Owns w B v l) (u : Value) (m : List UInt8) (hx : a.eval x = u) (hu : Sees w u m)
  (hlen : l.length + m.length ≤ 1152921504606) (hB : B ≤ w.heap.size)
  (h : ∀ v' w', Owns w' B v' (l ++ m) → w.grownBy w' v.ownBlock → wpList Tryz.prog ops Q rest (a.put o.dst v') w') : wpList Tryz.prog ops Q (o :: rest) a w := by
 obtain ⟨p, c, rfl, h1, h2, h3, h4⟩ := hu
 cases p with
 | none =>
  obtain rfl := h3 rfl
  obtain rfl : m = [] := List.eq_nil_of_length_eq_zero (by omega)
  obtain ⟨i0, hi, hz0, hz1, hz2⟩ := info_parts Tryz.infoU8
  exact wpList_append_own_none hgd s x 116 ho B 5 i0 1 Tryz.underlying116 hi v l.length (l.map u8) hs hown hx (h v w (by simpa using hown) (World.grownBy.refl _ _))
 | some ad =>
  obtain ⟨i0, hi, hz0, hz1, hz2⟩ := info_parts Tryz.infoU8
  refine wpList_append_own w hgd s x 116 ho B 5 i0 (.int .u8 0) 1 1 Tryz.underlying116 hi hz0 hz1 hz2 rfl (by decide) v l.length (l.map u8) hs hown
   ad m.length c (m.map u8) hx (by simp) ?_ (oneCell_u8 m) (by unfold maxLen; omega) (by omega) hB ?_
  ·intro j z hz
   rw [List.getElem?_map, Option.map_eq_some_iff] at hz
   obtain ⟨b, hb, rfl⟩ := hz
   exact (h4 ad rfl).2 j b hb
  ·intro v' w' ho' hg' _
   exact h v' w' (by unfold Owns; simpa using ho') hg'
theorem Sees.text {w : World} {v : Value} {l : List UInt8} (h : Sees w v l) : (convert 116 9 v).run Tryz.prog w = .ok (.string ⟨l.toArray⟩) w := by
 obtain ⟨p, c, rfl, h1, h2, h3, h4⟩ := h
 cases p with
 | none =>
  obtain rfl := h3 rfl
  obtain rfl : l = [] := List.eq_nil_of_length_eq_zero (by omega)
  exact run_convert_bytes_nil _ _ _ Tryz.underlying116 Tryz.underlying5 0 0 _ Tryz.underlying9
 | some ad =>
  refine run_convert_bytes_back w _ _ _ ad c l Tryz.underlying116 Tryz.underlying5 Tryz.underlying9 ?_
  intro j hj
  exact (h4 ad rfl).2 j l[j] (by simp [hj])
theorem Owns.lit (w : World) (B : Nat) (l : List UInt8) (hb : B ≤ w.heap.size) (hm : l.length ≤ maxLen) :
  Owns (w.alloc (.cells (l.map u8).toArray 5)) B (.slice (some ⟨w.heap.size, 0, none⟩) l.length l.length) l := by
 have h := World.ownsRow_lit (base := B) (e := 5) (size := 1) w (l.map u8).toArray l.length hb hm (by simp)
 simpa [Owns] using h
theorem Sees.one (w : World) (z : Int) (b : UInt8) (hz : z = (b.toNat : Int)) : Sees (w.alloc (.cells #[.int .u8 z] 5)) (.slice (some ⟨w.heap.size, 0, none⟩) 1 1) [b] := by
 have h := (Owns.lit w 0 [b] (Nat.zero_le _) (by unfold maxLen; simp)).sees
 simpa [u8, hz] using h
theorem Owns.alloc {w : World} {B : Nat} {v : Value} {l : List UInt8} (h : Owns w B v l) (o : Obj) : Owns (w.alloc o) B v l := h.old ((Keeps.refl _ _).alloc o)
theorem Sees.len {w : World} {v : Value} {l : List UInt8} (h : Sees w v l) : ∃ p c, v = .slice p l.length c ∧ l.length ≤ c ∧ c ≤ maxLen := by
 obtain ⟨p, c, h0, h1, h2, _⟩ := h; exact ⟨p, c, h0, h1, h2⟩
theorem Sees.at {w : World} {v : Value} {l : List UInt8} (h : Sees w v l) (hl : 0 < l.length) : ∃ b o c, v = .slice (some ⟨b, o, none⟩) l.length c ∧ l.length ≤ c ∧ c ≤ maxLen ∧ ∀ j x, l[j]? = some x → w.cell? ⟨b, o + j, none⟩ = some (u8 x) := by
 obtain ⟨p, c, rfl, h1, h2, h3, h4⟩ := h
 cases p with
 | none => have := h3 rfl; omega
 | some a =>
  obtain ⟨b, o, s⟩ := a
  obtain ⟨hs, hc⟩ := h4 _ rfl
  obtain rfl : s = none := hs (by omega)
  refine ⟨b, o, c, rfl, h1, h2, fun j x hj => ?_⟩
  have := hc j x hj
  rwa [show (⟨b, o, none⟩ : Addr).add j = ⟨b, o + j, none⟩ from by unfold Addr.add; split <;> simp_all] at this
theorem Sees.sliced {w : World} {p : Option Addr} {c : Nat} {l : List UInt8} (h : Sees w (.slice p l.length c) l) (lo hi : Nat) (h1 : lo ≤ hi) (h2 : hi ≤ l.length) :
  Sees w (Go.sliced p lo hi c 1) ((l.take hi).drop lo) ∧ ∀ b, (Go.sliced p lo hi c 1).ownBlock = some b → (Value.slice p l.length c).ownBlock = some b := by
 obtain ⟨p', c', he, hc1, hc2, hc3, hc4⟩ := h
 simp only [Value.slice.injEq, true_and] at he
 obtain ⟨rfl, rfl⟩ := he
 have hlen : ((l.take hi).drop lo).length = hi - lo := by simp; omega
 unfold Go.sliced
 refine ⟨⟨_, c - lo, by rw [hlen], by rw [hlen]; omega, by omega, ?_, ?_⟩, ?_⟩
 ·intro hn
  split at hn
  ·have := hc3 hn; omega
  ·cases p with
   | none => have := hc3 rfl; omega
   | some a => simp at hn
 ·intro a ha
  split at ha
  ·rename_i e
   subst ha
   refine ⟨fun h => by omega, fun j b hj => ?_⟩
   have hz : ((l.take hi).drop lo).length = 0 := by rw [hlen]; omega
   rw [List.length_eq_zero_iff.1 hz] at hj
   cases hj
  ·cases p with
   | none => simp at ha
   | some a' =>
    simp only [Option.map_some, Option.some.injEq] at ha
    subst ha
    obtain ⟨hs, hc⟩ := hc4 a' rfl
    obtain ⟨b', o', s'⟩ := a'
    rename_i hcl
    obtain rfl : s' = none := hs (by omega)
    refine ⟨fun _ => by unfold Addr.add; split <;> rfl, fun j b hj => ?_⟩
    have hj' : l[lo + j]? = some b := by
     rw [List.getElem?_drop, List.getElem?_take] at hj
     split at hj
     ·exact hj
     ·cases hj
    have := hc (lo + j) b hj'
    rw [← this]
    congr 1
    unfold Addr.add
    simp only [Nat.mul_one]
    split <;> split <;> split <;> simp_all <;> omega
 ·intro b hb
  simp only [Value.ownBlock] at hb ⊢
  split at hb
  ·rename_i a _ _ heq
   simp only [Value.slice.injEq] at heq
   obtain ⟨heq, _, _⟩ := heq
   split at heq
   ·subst heq; exact hb
   ·cases p with
    | none => simp at heq
    | some a' =>
     simp only [Option.map_some, Option.some.injEq] at heq
     subst heq
     simp only [Option.some.injEq] at hb ⊢
     rw [← hb]
     unfold Addr.add
     split <;> rfl
  ·cases hb
theorem Sees.from {w : World} {p : Option Addr} {n c : Nat} {l : List UInt8} (h : Sees w (.slice p n c) l) (lo : Nat) (h1 : lo ≤ l.length) (k : IntKind) (x : Int) (hx : x = (lo : Int)) :
  ∃ p' c', (∀ W, (Instr.slice 116 (.slice p n c) (some (.int k x)) none none).run Tryz.prog W = .ok (.slice p' (l.length - lo) c') W) ∧ Sees w (.slice p' (l.length - lo) c') (l.drop lo) ∧
   ∀ b, (Value.slice p' (l.length - lo) c').ownBlock = some b → (Value.slice p n c).ownBlock = some b := by
 obtain ⟨p0, c0, he, _, _⟩ := h.len
 simp only [Value.slice.injEq] at he
 obtain ⟨rfl, rfl, rfl⟩ := he
 have hs := h.sliced lo l.length h1 (Nat.le_refl _)
 rw [List.take_of_length_le (Nat.le_refl _)] at hs
 refine ⟨_, _, fun W => ?_, hs.1, hs.2⟩
 subst hx
 have hlo : (lo : Int) ≤ (l.length : Int) := by omega
 simp [go_sem, hlo]
theorem Sees.new (w : World) (l : List UInt8) (fr : Nat × Nat) (hm : l.length ≤ maxLen) : Sees (w.alloc (.cells (l.map u8).toArray 5 fr)) (.slice (some ⟨w.heap.size, 0, none⟩) l.length l.length) l := by
 refine ⟨_, _, rfl, Nat.le_refl _, hm, fun h => (by cases h), fun a ha => ?_⟩
 cases ha
 refine ⟨fun _ => rfl, fun j b hj => ?_⟩
 rw [show (⟨w.heap.size, 0, none⟩ : Addr).add j = ⟨w.heap.size, j, none⟩ from by unfold Addr.add; split <;> simp_all]
 rw [World.cell?_alloc_mark]
 simp [hj]
theorem conv_str (w : World) (s : ByteArray) (hs : s.size ≤ maxLen) : ∃ p c w', (convert 9 116 (.string s)).run Tryz.prog w = .ok (.slice p s.size c) w' ∧ Sees w' (.slice p s.size c) s.toList ∧ Old w w' ∧
  (∀ b, (Value.slice p s.size c).ownBlock = some b → w.heap.size ≤ b) := by
 have hsz : s.toList.length = s.size := by rw [ByteArray.toList_eq]; simp
 have hc : s.size ≤ grownCap w s.size 0 5 := grownCap_ge _ _ _ _
 refine ⟨_, _, _, Lib.run_convert_string_bytes w 9 116 5 s Tryz.underlying9 Tryz.underlying116 Tryz.underlying5, ?_, ?_, ?_⟩
 ·refine ⟨_, _, by rw [hsz], by rw [hsz]; exact hc, grownCap_le_maxLen w _ _ _ hs, fun h => (by cases h), fun a ha => ?_⟩
  cases ha
  refine ⟨fun _ => rfl, fun j b hj => ?_⟩
  have hjl : j < s.size := by rw [← hsz]; exact (List.getElem?_eq_some_iff.1 hj).1
  rw [show (⟨w.heap.size, 0, none⟩ : Addr).add j = ⟨w.heap.size, j, none⟩ from by unfold Addr.add; split <;> simp_all]
  rw [Lib.bytesWorld_cell w _ s j hjl]
  have : s.data.toList.getD j 0 = b := by
   rw [ByteArray.toList_eq] at hj
   simp [List.getD, hj]
  rw [this]; rfl
 ·refine ⟨rfl, rfl, rfl, ?_, fun k hk _ => Lib.bytesWorld_at_old w _ s k hk⟩
  rw [Lib.bytesWorld_size]; omega
 ·intro b hb
  simp [Value.ownBlock] at hb
  omega
end
section
def form (n : Nat) : List UInt8 := if n < 128 then [UInt8.ofNat n] else UInt8.ofNat (128 + n % 128) :: form (n / 128)
termination_by n
decreasing_by omega
end
section
open Go.RowKit
def Gives (w : World) (l : List UInt8) (e : Ending) (w' : World) : Prop := ∃ p n c, e = .returned (.slice p n c) ∧ Owns w' w.heap.size (.slice p n c) l ∧ Old w w'
theorem gives {w w' : World} {l : List UInt8} {e : Ending} {v : Value} (he : e = .returned v) (ho : Owns w' w.heap.size v l) (hk : Old w w') : Gives w l e w' := by
 obtain ⟨p, c, rfl, _, _⟩ := ho.sees.len
 exact ⟨p, _, c, he, ho, hk⟩
end
section
open Go.RowKit
end
section
open Go.RowKit
end
section
open Go.RowKit
end
section
open Go.RowKit
end
section
open Go.RowKit
structure OldOf (w : World) where
 to : World
 old : Old w to
instance (w : World) : Nonempty (OldOf w) := ⟨⟨w, Keeps.refl _ _⟩⟩
theorem wp_region_quiet_old {P : Program} {id : Nat} {Q : Exit → Act → World → Prop} {a : Act} {w : World} {l : List Oper} (hm : P.follows .mixedOrders = true) (hB : Region.lexB .any l.toArray = true)
  (h : wpQuiet P l.toArray (fun w' => ∃ p : OldOf w, w' = p.to) (fun a' => ∀ w', (∃ p : OldOf w, w' = p.to) → Q .normal a' w') l a) : (Code.region id l.toArray true).wp P Q a w :=
 wp_region_quiet (C := fun w' => ∃ p : OldOf w, w' = p.to) hm hB ⟨⟨w.drew, (Keeps.refl _ _).drew⟩, rfl⟩ (by simpa using h)
theorem Calls.quiet_of_old {P : Program} {f : FuncId} {args : Array Value} {w : World} {p : OldOf w} {v : Value}
  (h : Calls P f args p.to fun e w' => e = .returned v ∧ Old p.to w') : Calls P f args p.to fun e w'' => e = .returned v ∧ ∃ q : OldOf w, w'' = q.to :=
 h.mono fun _ w'' ⟨he, hm⟩ => ⟨he, ⟨w'', p.old.trans hm⟩, rfl⟩
theorem OldOf.cell {w : World} {a : Addr} {v : Value} (h : w.cell? a = some v) : ∀ p : OldOf w, p.to.cell? a = some v := fun p => p.old.cell h (fun f => f)
end
section
open Go.RowKit
def goodB (c : Nat) : Bool := (decide (97 ≤ c) && decide (c ≤ 122)) || (decide (48 ≤ c) && decide (c ≤ 57)) || c == 45 || c == 46 || c == 95
theorem ret_bool {a b : Bool} (h : a = b) : Ending.returned (.bool a) = .returned (.bool b) := by rw [h]
theorem name1_any (c : Nat) (w : World) : Calls Tryz.prog 50 #[.int .u8 (c : Int)] w fun e w' => e = .returned (.bool (!goodB c)) ∧ w = w' := by
 go_enter Tryz.func50, Tryz.ntmps50
 go_wp2_with fail
 all_goals go_ret
 all_goals refine ⟨ret_bool ?_, rfl⟩
 all_goals unfold goodB
 all_goals rw [Bool.eq_iff_iff]
 all_goals simp
 all_goals omega
def Found (w : World) (ok : Bool) (e : Ending) (w' : World) : Prop := (∃ i : Int, e = .returned (.int .i64 i) ∧ decide (0 ≤ i) = ok) ∧ w = w'
theorem all_take_succ {α : Type} {f : α → Bool} {l : List α} {k : Nat} {x : α} (hx : l[k]? = some x) : (l.take (k + 1)).all f = ((l.take k).all f && f x) := by
 rw [List.take_add_one, hx]; simp
theorem all_false_of {α : Type} {f : α → Bool} {l : List α} {k : Nat} {x : α} (hx : l[k]? = some x) (h : f x = false) : l.all f = false := by
 rw [List.all_eq_false]; exact ⟨x, List.mem_of_getElem? hx, by simp [h]⟩
theorem index1_any (v : Value) (l : List UInt8) (w : World) (h : Sees w v l) :
  Calls Tryz.prog 98 #[v, .func (.func 50) #[] #[]] w (Found w (!(l.all fun c => goodB c.toNat))) := by
 by_cases hl : 0 < l.length
 ·obtain ⟨b, o, c, rfl, h1, h2, hc⟩ := h.at hl
  have hm : l.length ≤ 9223372036854775807 := by unfold maxLen at h2; omega
  have HC := Lib.hid hc
  clear h1 h2 h hc hl
  go_enter Tryz.func98, Tryz.ntmps98
  go_wp2_with fail
  go_loop [8] (fun v8 => ∃ k : Nat, k ≤ l.length ∧ v8 = .int .i64 k ∧ (l.take k).all (fun c => goodB c.toNat) = true) (fun v8 => l.length - (intOf v8).toNat)
  case atStart => exact ⟨0, by omega, rfl, by simp⟩
  case round =>
   obtain ⟨k, hk, rfl, hr⟩ := hrel
   have HR := Lib.hid hr
   clear hr
   by_cases hlt : k < l.length
   ·have hx : l[k]? = some l[k] := List.getElem?_eq_getElem hlt
    have hcell := HC.out k _ hx
    unfold u8 at hcell
    have HX := Lib.hid hx
    clear hx
    cases hg : goodB (l[k].toNat)
    ·have N := name1_any l[k].toNat w
     rw [hg] at N
     have HN := Lib.hid N
     have HG := Lib.hid hg
     clear N hg
     go_wp2_with (refine (HN.out).mono ?_; rintro e w' ⟨rfl, rfl⟩)
     go_ret
     exact ⟨⟨k, rfl, by rw [all_false_of HX.out HG.out]; simp⟩, rfl⟩
    ·have N := name1_any l[k].toNat w
     rw [hg] at N
     have HN := Lib.hid N
     have HG := Lib.hid hg
     clear N hg
     go_wp2_with (refine (HN.out).mono ?_; rintro e w' ⟨rfl, rfl⟩)
     go_round
     case rel => exact ⟨k + 1, by omega, by go_num, by rw [all_take_succ HX.out, HR.out, HG.out]; rfl⟩
     case measure => simp [intOf]; omega
   ·go_wp2_with fail
    go_ret
    refine ⟨⟨-1, rfl, ?_⟩, rfl⟩
    have := HR.out
    rw [List.take_of_length_le (by omega)] at this
    rw [this]
    rfl
 ·obtain ⟨p, c, rfl, h1, h2⟩ := h.len
  have h0 : l.length = 0 := by omega
  have : l = [] := List.eq_nil_of_length_eq_zero h0
  subst this
  clear h h1 h2 hl h0
  go_enter Tryz.func98, Tryz.ntmps98
  go_wp2_with fail
  go_loop [8] (fun v8 => v8 = .int .i64 0) (fun v8 => 0)
  case atStart => rfl
  case round =>
   obtain rfl := hrel
   go_wp2_with fail
   go_ret
   exact ⟨⟨-1, rfl, rfl⟩, rfl⟩
theorem contains1_any (v : Value) (l : List UInt8) (w : World) (h : Sees w v l) :
  Calls Tryz.prog 51 #[v, .func (.func 50) #[] #[]] w fun e w' => e = .returned (.bool (!(l.all fun c => goodB c.toNat))) ∧ w = w' := by
 obtain ⟨p, c, rfl, h1, h2⟩ := h.len
 have C := Lib.hid (index1_any _ l w h)
 clear h h1 h2
 go_enter Tryz.func51, Tryz.ntmps51
 go_wp2_with fail
 refine C.out.mono ?_
 rintro e w' ⟨⟨i, rfl, hi⟩, rfl⟩
 have HI := Lib.hid hi
 clear hi
 go_wp2_with fail
 go_ret
 exact ⟨ret_bool HI.out, rfl⟩
def nameOk (l : List UInt8) : Bool := decide (1 ≤ l.length) && decide (l.length ≤ 16) && l.all fun c => goodB c.toNat
theorem name_any (s : ByteArray) (w : World) : Calls Tryz.prog 20 #[.string s] w fun e w' => e = .returned (.bool (nameOk s.toList)) ∧ Old w w' := by
 have hsz : s.toList.length = s.size := by rw [ByteArray.toList_eq]; simp
 by_cases h0 : 1 ≤ s.size
 ·have t1 : s.toList.isEmpty = false := by cases h : s.toList with | nil => rw [h] at hsz; simp at hsz; omega | cons => rfl
  have t1' : (!s.toList.isEmpty) = true := by rw [t1]; rfl
  by_cases h1 : s.size ≤ 16
  ·have d1 : decide ((s.size : Int) ≤ 16) = true := by simp; omega
   obtain ⟨p, c, w1, hconv, hsee, hk, _⟩ := conv_str w s (by unfold maxLen; omega)
   have C := Lib.hid (contains1_any _ _ w1 hsee)
   have HK := Lib.hid hk
   have HS := Lib.hid hsz
   clear hsz hsee hk
   go_enter Tryz.func20, Tryz.ntmps20
   go_wp2_with fail
   refine C.out.mono ?_
   rintro e w' ⟨rfl, rfl⟩
   go_wp2_with fail
   go_ret
   refine ⟨ret_bool ?_, HK.out⟩
   simp [nameOk, HS.out, h1, h0]
  ·have d1 : decide ((s.size : Int) ≤ 16) = false := by simp; omega
   have HS := Lib.hid hsz
   clear hsz
   go_enter Tryz.func20, Tryz.ntmps20
   go_wp2_with fail
   go_ret
   refine ⟨ret_bool ?_, Keeps.refl _ _⟩
   simp [nameOk, HS.out, h1]
 ·have t1 : s.toList = [] := List.eq_nil_of_length_eq_zero (by omega)
  clear h0 hsz
  have t2 : s.toList.isEmpty = true := by rw [t1]; rfl
  have H := Lib.hid t1
  clear t1
  go_enter Tryz.func20, Tryz.ntmps20
  go_wp2_with fail
  go_ret
  exact ⟨ret_bool (by rw [H.out]; rfl), Keeps.refl _ _⟩
end
section
open Go.RowKit
def SeesR {α : Type} (w : World) (k : Nat) (enc : α → List Value) (v : Value) (l : List α) : Prop :=
 ∃ p c, v = .slice p l.length c ∧ l.length ≤ c ∧ c ≤ maxLen ∧ (p = none → c = 0) ∧
  ∀ a, p = some a → (0 < c → a.spot = none) ∧ ∀ j x, l[j]? = some x → ∀ i u, (enc x)[i]? = some u → w.cell? (a.add (j * k + i)) = some u
variable {α : Type} {w w' : World} {k : Nat} {enc : α → List Value} {v : Value} {l : List α}
theorem block_add (a : Addr) (j : Nat) : (a.add j).block = a.block := by unfold Addr.add; split <;> rfl
theorem SeesR.nil (w : World) : SeesR w k enc (.slice none 0 0) [] := ⟨none, 0, rfl, Nat.le_refl _, Nat.zero_le _, fun _ => rfl, fun _ h => by cases h⟩
theorem SeesR.keeps {S : Nat → Prop} (h : SeesR w k enc v l) (hk : Keeps S w w') (hS : ∀ b, v.ownBlock = some b → ¬ S b) : SeesR w' k enc v l := by
 obtain ⟨p, c, rfl, h1, h2, h3, h4⟩ := h
 refine ⟨p, c, rfl, h1, h2, h3, fun a ha => ⟨(h4 a ha).1, fun j x hj i u hu => ?_⟩⟩
 refine hk.cell ((h4 a ha).2 j x hj i u hu) ?_
 rw [block_add]
 exact hS _ (by subst ha; rfl)
theorem SeesR.old (h : SeesR w k enc v l) (hk : Old w w') : SeesR w' k enc v l := h.keeps hk (fun _ _ f => f)
theorem SeesR.alloc (h : SeesR w k enc v l) (o : Obj) : SeesR (w.alloc o) k enc v l := h.old ((Keeps.refl _ _).alloc o)
theorem SeesR.drew (h : SeesR w k enc v l) : SeesR w.drew k enc v l := h
theorem SeesR.len (h : SeesR w k enc v l) : ∃ p c, v = .slice p l.length c ∧ l.length ≤ c ∧ c ≤ maxLen := by
 obtain ⟨p, c, h0, h1, h2, _⟩ := h; exact ⟨p, c, h0, h1, h2⟩
theorem SeesR.at (h : SeesR w k enc v l) (hl : 0 < l.length) : ∃ b o c, v = .slice (some ⟨b, o, none⟩) l.length c ∧ l.length ≤ c ∧ c ≤ maxLen ∧
  ∀ j x, l[j]? = some x → ∀ i u, (enc x)[i]? = some u → w.cell? ⟨b, o + j * k + i, none⟩ = some u := by
 obtain ⟨p, c, rfl, h1, h2, h3, h4⟩ := h
 cases p with
 | none => have := h3 rfl; omega
 | some a =>
  obtain ⟨b, o, s⟩ := a
  obtain ⟨hs, hc⟩ := h4 _ rfl
  obtain rfl : s = none := hs (by omega)
  refine ⟨b, o, c, rfl, h1, h2, fun j x hj i u hu => ?_⟩
  have := hc j x hj i u hu
  rwa [show (⟨b, o, none⟩ : Addr).add (j * k + i) = ⟨b, o + j * k + i, none⟩ from by unfold Addr.add; split <;> simp_all <;> omega] at this
theorem SeesR.at0 (h : SeesR w k enc v l) (hl : l.length = 0) : l = [] ∧ ∃ p c, v = .slice p 0 c := by
 obtain ⟨p, c, rfl, _⟩ := h.len
 exact ⟨List.eq_nil_of_length_eq_zero hl, p, c, by rw [hl]⟩
theorem SeesR.sliced {p : Option Addr} {c : Nat} (h : SeesR w k enc (.slice p l.length c) l) (lo hi : Nat) (h1 : lo ≤ hi) (h2 : hi ≤ l.length) :
  SeesR w k enc (Go.sliced p lo hi c k) ((l.take hi).drop lo) ∧ ∀ b, (Go.sliced p lo hi c k).ownBlock = some b → (Value.slice p l.length c).ownBlock = some b := by
 obtain ⟨p', c', he, hc1, hc2, hc3, hc4⟩ := h
 simp only [Value.slice.injEq, true_and] at he
 obtain ⟨rfl, rfl⟩ := he
 have hlen : ((l.take hi).drop lo).length = hi - lo := by simp; omega
 unfold Go.sliced
 refine ⟨⟨_, c - lo, by rw [hlen], by rw [hlen]; omega, by omega, ?_, ?_⟩, ?_⟩
 ·intro hn
  split at hn
  ·have := hc3 hn; omega
  ·cases p with
   | none => have := hc3 rfl; omega
   | some a => simp at hn
 ·intro a ha
  split at ha
  ·rename_i e
   subst ha
   refine ⟨fun h => by omega, fun j x hj => ?_⟩
   have hz : ((l.take hi).drop lo).length = 0 := by rw [hlen]; omega
   rw [List.length_eq_zero_iff.1 hz] at hj
   cases hj
  ·cases p with
   | none => simp at ha
   | some a' =>
    simp only [Option.map_some, Option.some.injEq] at ha
    subst ha
    obtain ⟨hs, hc⟩ := hc4 a' rfl
    obtain ⟨b', o', s'⟩ := a'
    rename_i hcl
    obtain rfl : s' = none := hs (by omega)
    refine ⟨fun _ => by unfold Addr.add; split <;> rfl, fun j x hj i u hu => ?_⟩
    have hj' : l[lo + j]? = some x := by
     rw [List.getElem?_drop, List.getElem?_take] at hj
     split at hj
     ·exact hj
     ·cases hj
    have := hc (lo + j) x hj' i u hu
    rw [← this]
    congr 1
    have e : (lo + j) * k + i = lo * k + (j * k + i) := by rw [Nat.add_mul]; omega
    rw [e]
    unfold Addr.add
    split <;> split <;> split <;> simp_all <;> omega
 ·intro b hb
  simp only [Value.ownBlock] at hb ⊢
  split at hb
  ·rename_i a _ _ heq
   simp only [Value.slice.injEq] at heq
   obtain ⟨heq, _, _⟩ := heq
   split at heq
   ·subst heq; exact hb
   ·cases p with
    | none => simp at heq
    | some a' =>
     simp only [Option.map_some, Option.some.injEq] at heq
     subst heq
     simp only [Option.some.injEq] at hb ⊢
     rw [← hb]
     unfold Addr.add
     split <;> rfl
  ·cases hb
theorem flat_at (hk : ∀ x, (enc x).length = k) : ∀ (l : List α) (j : Nat) (x : α), l[j]? = some x → ∀ i, i < k → (l.flatMap enc)[j * k + i]? = (enc x)[i]?
 | [], j, x, h => by simp at h
 | y :: r, 0, x, h => by
  intro i hi
  simp only [List.getElem?_cons_zero, Option.some.injEq] at h
  subst h
  rw [List.flatMap_cons, Nat.zero_mul, Nat.zero_add, List.getElem?_append_left (by rw [hk]; exact hi)]
 | y :: r, j + 1, x, h => by
  intro i hi
  simp only [List.getElem?_cons_succ] at h
  have ih := flat_at hk r j x h i hi
  rw [List.flatMap_cons, List.getElem?_append_right (by rw [hk, Nat.succ_mul]; omega), hk]
  rw [show (j + 1) * k + i - k = j * k + i from by rw [Nat.succ_mul]; omega]
  exact ih
theorem flat_at' {k : Nat} {enc : α → List Value} {l : List α} (hk : ∀ x ∈ l, (enc x).length = k) : ∀ (j : Nat) (x : α), l[j]? = some x → ∀ i, i < k → (l.flatMap enc)[j * k + i]? = (enc x)[i]? := by
 induction l with
 | nil => intro j x h; simp at h
 | cons y r ih =>
  intro j x h i hi
  rw [List.flatMap_cons]
  rcases j with _ | j
  ·simp only [List.getElem?_cons_zero, Option.some.injEq] at h
   subst h
   rw [Nat.zero_mul, Nat.zero_add, List.getElem?_append_left (by rw [hk y (by simp)]; exact hi)]
  ·simp only [List.getElem?_cons_succ] at h
   rw [List.getElem?_append_right (by rw [hk y (by simp), Nat.succ_mul]; omega), hk y (by simp), show (j + 1) * k + i - k = j * k + i from by rw [Nat.succ_mul]; omega]
   exact ih (fun z hz => hk z (by simp [hz])) j x h i hi
theorem SeesR.new (w : World) (t : TypeId) (fr : Nat × Nat) (l : List α) (cs : Array Value) (hcs : cs.toList = l.flatMap enc) (hk : ∀ x, (enc x).length = k) (hm : l.length ≤ maxLen) :
  SeesR (w.alloc (.cells cs t fr)) k enc (.slice (some ⟨w.heap.size, 0, none⟩) l.length l.length) l := by
 refine ⟨_, _, rfl, Nat.le_refl _, hm, fun h => (by cases h), fun a ha => ?_⟩
 cases ha
 refine ⟨fun _ => rfl, fun j x hj i u hu => ?_⟩
 have hi : i < k := by rw [← hk x]; exact (List.getElem?_eq_some_iff.1 hu).1
 rw [show (⟨w.heap.size, 0, none⟩ : Addr).add (j * k + i) = ⟨w.heap.size, j * k + i, none⟩ from by unfold Addr.add; split <;> simp_all]
 rw [World.cell?_alloc_mark]
 rw [← Array.getElem?_toList, hcs, flat_at hk l j x hj i hi]
 exact hu
end
section
open Go.RowKit
structure Val where
 kind : Int
 num : Int
 str : ByteArray
 is : Bool
def Val.cells (v : Val) : Array Value := #[.int .i64 v.kind, .int .i64 v.num, .string v.str, .bool v.is]
def Val.ok (v : Val) : Bool :=
 if v.kind = 1 then v.str.toList.isEmpty && !v.is
 else if v.kind = 2 then decide (v.str.size ≤ 32) && decide (v.num = 0) && !v.is
 else decide (v.kind = 3) && decide (v.num = 0) && v.str.toList.isEmpty
theorem number_any (n : Int) (w : World) : Calls Tryz.prog 53 #[.int .i64 n] w fun e w' => e = .returned (.agg #[.int .i64 1, .int .i64 n, .string ⟨#[]⟩, .bool false]) ∧ Old w w' := by
 go_enter Tryz.func53, Tryz.ntmps53
 go_wp2_with fail
 refine bodyPost_ret (v := .agg #[.int .i64 1, .int .i64 n, .string ⟨#[]⟩, .bool false]) (by simp [results, Tryz.results53, go_sem]) rfl ?_
 exact ⟨rfl, (Keeps.refl _ _).alloc _⟩
theorem word_any (s : ByteArray) (w : World) : Calls Tryz.prog 54 #[.string s] w fun e w' => e = .returned (.agg #[.int .i64 2, .int .i64 0, .string s, .bool false]) ∧ Old w w' := by
 go_enter Tryz.func54, Tryz.ntmps54
 go_wp2_with fail
 refine bodyPost_ret (v := .agg #[.int .i64 2, .int .i64 0, .string s, .bool false]) (by simp [results, Tryz.results54, go_sem]) rfl ?_
 exact ⟨rfl, (Keeps.refl _ _).alloc _⟩
theorem truth_any (b : Bool) (w : World) : Calls Tryz.prog 55 #[.bool b] w fun e w' => e = .returned (.agg #[.int .i64 3, .int .i64 0, .string ⟨#[]⟩, .bool b]) ∧ Old w w' := by
 go_enter Tryz.func55, Tryz.ntmps55
 go_wp2_with fail
 refine bodyPost_ret (v := .agg #[.int .i64 3, .int .i64 0, .string ⟨#[]⟩, .bool b]) (by simp [results, Tryz.results55, go_sem]) rfl ?_
 exact ⟨rfl, (Keeps.refl _ _).alloc _⟩
theorem has_any (v : Val) (w : World) : Calls Tryz.prog 52 #[.agg v.cells] w fun e w' => e = .returned (if v.kind = 1 then .iface 2 (.int .i64 v.num) else if v.kind = 2 then .iface 9 (.string v.str) else if v.kind = 3 then .iface 4 (.bool v.is) else .nilIface) ∧ Old w w' := by
 obtain ⟨k, n, s, b⟩ := v
 unfold Val.cells
 by_cases h1 : k = 1
 ·subst h1
  go_enter Tryz.func52, Tryz.ntmps52
  go_wp2_with fail
  go_ret
  exact ⟨by simp, (Keeps.refl _ _).alloc _⟩
 ·have t1 : ((k : Int) == 1) = false := by simp; omega
  by_cases h2 : k = 2
  ·subst h2
   go_enter Tryz.func52, Tryz.ntmps52
   go_wp2_with fail
   go_ret
   exact ⟨by simp, (Keeps.refl _ _).alloc _⟩
  ·have t2 : ((k : Int) == 2) = false := by simp; omega
   by_cases h3 : k = 3
   ·subst h3
    go_enter Tryz.func52, Tryz.ntmps52
    go_wp2_with fail
    go_ret
    exact ⟨by simp, (Keeps.refl _ _).alloc _⟩
   ·have t3 : ((k : Int) == 3) = false := by simp; omega
    go_enter Tryz.func52, Tryz.ntmps52
    go_wp2_with fail
    go_ret
    exact ⟨by simp, (Keeps.refl _ _).alloc _⟩
end
section
open Go.RowKit
theorem eq_int (d : Nat) (x y : Int) (W : World) : (Op.equalIn (d+1) 3 (.int .i64 x) (.int .i64 y)).run Tryz.prog W = .ok (x == y) W := by
 unfold Op.equalIn; simp [go_sem]
theorem eq_i64 (d : Nat) (x y : Int) (W : World) : (Op.equalIn (d+1) 2 (.int .i64 x) (.int .i64 y)).run Tryz.prog W = .ok (x == y) W := by
 unfold Op.equalIn; simp [go_sem]
theorem eq_bool (d : Nat) (x y : Bool) (W : World) : (Op.equalIn (d+1) 4 (.bool x) (.bool y)).run Tryz.prog W = .ok (x == y) W := by
 unfold Op.equalIn; simp [go_sem]
theorem eq_string (d : Nat) (x y : ByteArray) (W : World) : (Op.equalIn (d+1) 9 (.string x) (.string y)).run Tryz.prog W = .ok (x == y) W := by
 unfold Op.equalIn; simp [go_sem]
theorem eq_val_in (m : Nat) (F3 : ∀ x y W, (Op.equalIn m 3 (.int .i64 x) (.int .i64 y)).run Tryz.prog W = .ok (x == y) W) (F2 : ∀ x y W, (Op.equalIn m 2 (.int .i64 x) (.int .i64 y)).run Tryz.prog W = .ok (x == y) W)
  (F9 : ∀ x y W, (Op.equalIn m 9 (.string x) (.string y)).run Tryz.prog W = .ok (x == y) W) (F4 : ∀ x y W, (Op.equalIn m 4 (.bool x) (.bool y)).run Tryz.prog W = .ok (x == y) W)
  (k k' n n' : Int) (s s' : ByteArray) (b b' : Bool) (W : World) :
  (Op.equalIn (m+1) 61 (.agg #[.int .i64 k, .int .i64 n, .string s, .bool b]) (.agg #[.int .i64 k', .int .i64 n', .string s', .bool b'])).run Tryz.prog W = .ok (k == k' && (n == n' && (s == s' && b == b'))) W := by
 have hst : Tryz.prog.stoodInHeld 61 = false := by kernel_rfl
 unfold Op.equalIn
 cases h1 : (k == k')
 ·simp [go_sem, hst, F3, h1]
 ·cases h2 : (n == n')
  ·simp [go_sem, hst, F3, F2, h1, h2]
  ·cases h3 : (s == s')
   ·simp [go_sem, hst, F3, F2, F9, h1, h2, h3]
   ·cases h4 : (b == b') <;> simp [go_sem, hst, F3, F2, F9, F4, h1, h2, h3, h4]
theorem eql_val (k k' n n' : Int) (s s' : ByteArray) (b b' : Bool) (W : World) :
  (binOp .eql 61 (.agg #[.int .i64 k, .int .i64 n, .string s, .bool b]) (.agg #[.int .i64 k', .int .i64 n', .string s', .bool b'])).run Tryz.prog W = .ok (.bool (k == k' && (n == n' && (s == s' && b == b')))) W := by
 have h := eq_val_in 9999 (eq_int 9998) (eq_i64 9998) (eq_string 9998) (eq_bool 9998) k k' n n' s s' b b' W
 simp [binOp, go_sem, Op.equal, Op.maxDepth, h]
end
end Go.Proofs.YtehmlaplodjenaaGreat
