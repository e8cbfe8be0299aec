/- DERIVED. Rows of the call's own whose elements hold slices of their own. Plain forms of constraints, items, gaps. · DERIVED. The document's order of values: when it says 0. · DERIVED. The document's order of constraints and predicates, and their sameness. · DERIVED. The contract of codec's reader: constraint. · DERIVED. The contract of codec's reader: pred. · DERIVED. The contract of codec's reader: item. · DERIVED. Items. · DERIVED. The contract of codec's reader: page. -/
import Derived.Test.YtiednihagnehlaaY05
import Derived.Test.YtiednihagnehlaaY06
import Derived.Test.YtiednihagnehlaaY04
import Derived.Test.YtiednihagnehlaaY03
import Derived.Deep.DeepCutAuto
namespace Go.Proofs.Ytiednihagnehlaa
open Go.RowKit

section
variable {α : Type} {w w' : World} {B : Nat} {E : TypeId} {k : Nat} {enc : α → List Value} {nv : α → Value} {fine : α → World → Prop} {v : Value} {l : List α}
/-- rows of the call's own (from block B on), each with a slice of its own that is fine -/
def OwnN (w : World) (B : Nat) (E : TypeId) (k : Nat) (enc : α → List Value) (nv : α → Value) (fine : α → World → Prop) (v : Value) (l : List α) : Prop :=
 OwnsR w B E k enc v l ∧ ∀ x ∈ l, fine x w ∧ ∀ b, (nv x).ownBlock = some b → B ≤ b ∧ b < w.heap.size ∧ v.ownBlock ≠ some b
theorem OwnN.nil (w : World) (B : Nat) : OwnN w B E k enc nv fine (.slice none 0 0) [] := ⟨OwnsR.nil w B, fun _ h => by cases h⟩
/-- what fine says hangs on the slice's block alone -/
def FineK (nv : α → Value) (fine : α → World → Prop) : Prop := ∀ (S : Nat → Prop) (x : α) (w w' : World), fine x w → Keeps S w w' → (∀ b, (nv x).ownBlock = some b → ¬ S b) → fine x w'
theorem OwnN.keeps {S : Nat → Prop} (hf : FineK nv fine) (h : OwnN w B E k enc nv fine v l) (hk : Keeps S w w') (hS : ∀ b, B ≤ b → b < w.heap.size → ¬ S b) : OwnN w' B E k enc nv fine v l :=
 ⟨h.1.keeps hk (fun b hb => hS b (h.1.block b hb).1 (h.1.block b hb).2), fun x hx =>
  ⟨hf S x w w' (h.2 x hx).1 hk (fun b hb => hS b ((h.2 x hx).2 b hb).1 ((h.2 x hx).2 b hb).2.1), fun b hb =>
   ⟨((h.2 x hx).2 b hb).1, Nat.lt_of_lt_of_le ((h.2 x hx).2 b hb).2.1 hk.size, ((h.2 x hx).2 b hb).2.2⟩⟩⟩
/-- an element more, behind an append -/
theorem OwnN.snoc {v' : Value} {y : α} (hf : FineK nv fine) (h : OwnN w B E k enc nv fine v l) (hy : fine y w) (hb : ∀ b, (nv y).ownBlock = some b → B ≤ b ∧ b < w.heap.size ∧ v.ownBlock ≠ some b)
  (ho : OwnsR w' B E k enc v' (l ++ [y])) (hg : w.grownBy w' v.ownBlock) (hv : v'.ownBlock = v.ownBlock ∨ v'.ownBlock = some w.heap.size) : OwnN w' B E k enc nv fine v' (l ++ [y]) := by
 have hk : Keeps (fun b => v.ownBlock = some b) w w' := (Keeps.refl _ w).grown hg (fun b hb _ => hb)
 have key : ∀ x, fine x w → (∀ b, (nv x).ownBlock = some b → B ≤ b ∧ b < w.heap.size ∧ v.ownBlock ≠ some b) → fine x w' ∧ ∀ b, (nv x).ownBlock = some b → B ≤ b ∧ b < w'.heap.size ∧ v'.ownBlock ≠ some b := by
  intro x hx hxb
  refine ⟨hf _ x w w' hx hk (fun b hb e => (hxb b hb).2.2 e), fun b hb => ⟨(hxb b hb).1, Nat.lt_of_lt_of_le (hxb b hb).2.1 hk.size, fun e => ?_⟩⟩
  rcases hv with hv | hv
  ·exact (hxb b hb).2.2 (hv ▸ e)
  ·rw [hv] at e
   have : b = w.heap.size := by simpa using e.symm
   have := (hxb b hb).2.1
   omega
 refine ⟨ho, fun x hx => ?_⟩
 rcases List.mem_append.1 hx with hx | hx
 ·exact key x (h.2 x hx).1 (h.2 x hx).2
 ·obtain rfl : x = y := by simpa using hx
  exact key x hy hb
end

/-- a constraint, without where its set lies -/
structure PCon where
 name : ByteArray
 op : Int
 val : Val
 set : List Val
def Con.plain (c : Con) : PCon := ⟨c.name, c.op, c.val, c.set⟩
abbrev noVal : Val := ⟨0, 0, ⟨#[]⟩, false⟩
def pCon (l : List UInt8) : Option (PCon × List UInt8) := (pText 16 l).bind fun x => (pNum 9 x.2).bind fun y =>
 if y.1 = 1 then some (⟨x.1, 1, noVal, []⟩, y.2)
 else if y.1 = 9 then (pList 6 pVal y.2).map fun z => (⟨x.1, 9, noVal, z.1⟩, z.2)
 else (pVal y.2).map fun z => (⟨x.1, y.1, z.1, []⟩, z.2)
abbrev OwnsV (w : World) (B : Nat) (v : Value) (l : List Val) : Prop := OwnsR w B 66 4 valL v l
theorem Try.infoVal : (Try.prog.info? 66).map (fun i => (i.zero, i.size, i.bytes)) = some (some (.agg #[.int .i64 0, .int .i64 0, .string ⟨#[]⟩, .bool false]), 4, 40) := by kernel_rfl
theorem Try.infoCon : (Try.prog.info? 69).map (fun i => (i.zero, i.size, i.bytes)) = some (some (.agg #[.string ⟨#[]⟩, .int .i64 0, .int .i64 0, .int .i64 0, .string ⟨#[]⟩, .bool false, .slice none 0 0]), 7, 88) := by kernel_rfl
theorem blk7 {w : World} {b : Nat} {t : TypeId} {a0 a1 a2 a3 a4 a5 a6 : Value} (h : w.heap[b]? = some (.cells #[a0, a1, a2, a3, a4, a5, a6] t (0, 0))) :
  (w.cell? ⟨b, 0, none⟩ = some a0 ∧ w.cell? ⟨b, 1, none⟩ = some a1 ∧ w.cell? ⟨b, 2, none⟩ = some a2 ∧ w.cell? ⟨b, 3, none⟩ = some a3 ∧ w.cell? ⟨b, 4, none⟩ = some a4 ∧ w.cell? ⟨b, 5, none⟩ = some a5 ∧ w.cell? ⟨b, 6, none⟩ = some a6) ∧
  (w.frozen? ⟨b, 0, none⟩ = false ∧ w.frozen? ⟨b, 1, none⟩ = false ∧ w.frozen? ⟨b, 2, none⟩ = false ∧ w.frozen? ⟨b, 3, none⟩ = false ∧ w.frozen? ⟨b, 4, none⟩ = false ∧ w.frozen? ⟨b, 5, none⟩ = false ∧ w.frozen? ⟨b, 6, none⟩ = false) := by simp [World.cell?, World.frozen?, h]
end Go.Proofs.Ytiednihagnehlaa

namespace Go.Proofs.Ytiednihagnehlaa
open Go.RowKit

theorem less_irrefl : ∀ l : List UInt8, Op.bytesLess l l = false := by
 intro l
 induction l with
 | nil => rfl
 | cons a l ih => simp [Op.bytesLess, ih]
theorem less_total : ∀ l m : List UInt8, Op.bytesLess l m = false → Op.bytesLess m l = false → l = m := by
 intro l
 induction l with
 | nil => intro m h1 h2; cases m with
  | nil => rfl
  | cons b m => simp [Op.bytesLess] at h1
 | cons a l ih => intro m h1 h2; cases m with
  | nil => simp [Op.bytesLess] at h2
  | cons b m =>
   simp only [Op.bytesLess] at h1 h2
   by_cases hab : a = b
   ·subst hab
    simp at h1 h2
    rw [ih m h1 h2]
   ·simp at h1 h2
    exact absurd (UInt8.le_antisymm h2.1 h1.1) hab
theorem arr_ext {s t : ByteArray} (h : s.toList = t.toList) : s = t := by
 rw [ByteArray.toList_eq, ByteArray.toList_eq] at h
 obtain ⟨⟨a⟩⟩ := s
 obtain ⟨⟨b⟩⟩ := t
 simp at h
 rw [h]
theorem bytes_eq {s t : ByteArray} : (s == t) = true ↔ s = t := by
 obtain ⟨⟨a⟩⟩ := s
 obtain ⟨⟨b⟩⟩ := t
 show (Array.instBEq.beq _ _) = true ↔ _
 simp
/-- are these values the same by the order of values? -/
def likeV (a b : Val) : Prop := a.kind = b.kind ∧ (a.kind = 1 → a.num = b.num) ∧ (a.kind = 2 → a.str = b.str) ∧ (a.kind = 3 → a.is = b.is)

theorem likeV_num {n n' : Int} {s s' : ByteArray} {t t' : Bool} : likeV ⟨1, n, s, t⟩ ⟨1, n', s', t'⟩ ↔ n = n' := by simp [likeV]
theorem likeV_str {n n' : Int} {s s' : ByteArray} {t t' : Bool} : likeV ⟨2, n, s, t⟩ ⟨2, n', s', t'⟩ ↔ s = s' := by simp [likeV]
theorem likeV_is {n n' : Int} {s s' : ByteArray} {t t' : Bool} : likeV ⟨3, n, s, t⟩ ⟨3, n', s', t'⟩ ↔ t = t' := by simp [likeV]
theorem likeV_ne {k k' n n' : Int} {s s' : ByteArray} {t t' : Bool} (h : k ≠ k') : ¬ likeV ⟨k, n, s, t⟩ ⟨k', n', s', t'⟩ := fun g => h g.1
theorem likeV_no {k n n' : Int} {s s' : ByteArray} {t t' : Bool} (h : k ≠ 1 ∧ k ≠ 2 ∧ k ≠ 3) : likeV ⟨k, n, s, t⟩ ⟨k, n', s', t'⟩ := ⟨rfl, fun e => absurd e h.1, fun e => absurd e h.2.1, fun e => absurd e h.2.2⟩

/-- the order of values -/
def ordV (a b : Val) : Int :=
 if a.kind ≠ b.kind then (if a.kind < b.kind then -1 else 1)
 else if a.kind = 1 then (if a.num < b.num then -1 else if b.num < a.num then 1 else 0)
 else if a.kind = 2 then (if Op.bytesLess a.str.toList b.str.toList then -1 else if Op.bytesLess b.str.toList a.str.toList then 1 else 0)
 else if a.kind = 3 then (if !a.is && b.is then -1 else if a.is && !b.is then 1 else 0)
 else 0
theorem ordV_zero (a b : Val) : ordV a b = 0 ↔ likeV a b := by
 obtain ⟨k, n, s, t⟩ := a
 obtain ⟨k', n', s', t'⟩ := b
 unfold ordV likeV
 simp only
 by_cases hk : k = k'
 ·subst hk
  by_cases h1 : k = 1
  ·subst h1
   simp
   split <;> (try split) <;> omega
  ·by_cases h2 : k = 2
   ·subst h2
    simp
    cases d1 : Op.bytesLess s.toList s'.toList
    ·cases d2 : Op.bytesLess s'.toList s.toList
     ·simpa using arr_ext (less_total _ _ d1 d2)
     ·simp; intro h; rw [h, less_irrefl] at d2; cases d2
    ·simp; intro h; rw [h, less_irrefl] at d1; cases d1
   ·by_cases h3 : k = 3
    ·subst h3
     cases t <;> cases t' <;> simp
    ·simp [h1, h2, h3]
 ·simp [hk]
  split <;> simp

set_option maxRecDepth 100000 in
theorem ref_cmp_val_any (a b : Val) (w : World) : Calls Try.prog 101 #[.agg a.cells, .agg b.cells] w fun e w' => e = .returned (.int .i64 (ordV a b)) ∧ Old w w' := by
 have kw : Old w ((w.alloc (.cells a.cells 66)).alloc (.cells b.cells 66)) := ((Keeps.refl _ _).alloc _).alloc _
 have K := Lib.hid kw
 clear kw
 obtain ⟨k, n, s, t⟩ := a
 obtain ⟨k', n', s', t'⟩ := b
 unfold Val.cells at K ⊢
 simp only at K ⊢
 by_cases hk : k = k'
 case neg =>
  have h1 : (k != k') = true := by rw [bne_iff_ne]; exact hk
  have HK := Lib.hid hk
  clear hk
  by_cases hl : k < k'
  all_goals
   first | (have h2 : decide (k < k') = true := decide_eq_true hl) | (have h2 : decide (k < k') = false := decide_eq_false hl)
   have HL := Lib.hid hl
   clear hl
   go_enter Try.func101, Try.ntmps101
   go_wp2_with fail
   go_ret
   exact ⟨ret_int (by first | (simp [ordV, HK.out, HL.out]; done) | (simp [ordV, HK.out, HL.out])), K.out⟩
 subst hk
 have h1 : (k != k) = false := by simp
 by_cases h1k : k = 1
 ·subst h1k
  have c1 : ((1 : Int) == 1) = true := rfl
  rcases Int.lt_trichotomy n n' with h | h | h
  ·have d1 : decide (n < n') = true := decide_eq_true h
   have d2 : decide (n > n') = false := decide_eq_false (by omega)
   have H := Lib.hid h
   clear h
   go_enter Try.func101, Try.ntmps101
   go_wp2_with fail
   go_ret
   exact ⟨ret_int (by have := H.out; unfold ordV; simp; omega), K.out⟩
  ·subst h
   have d1 : decide (n < n) = false := decide_eq_false (by omega)
   have d2 : decide (n > n) = false := decide_eq_false (by omega)
   go_enter Try.func101, Try.ntmps101
   go_wp2_with fail
   go_ret
   exact ⟨ret_int (by simp [ordV]), K.out⟩
  ·have d1 : decide (n < n') = false := decide_eq_false (by omega)
   have d2 : decide (n > n') = true := decide_eq_true h
   have H := Lib.hid h
   clear h
   go_enter Try.func101, Try.ntmps101
   go_wp2_with fail
   go_ret
   exact ⟨ret_int (by have := H.out; unfold ordV; simp; omega), K.out⟩
 have c1 : (k == 1) = false := by simpa using h1k
 by_cases h2k : k = 2
 ·subst h2k
  have c2 : ((2 : Int) == 2) = true := rfl
  cases d1 : Op.bytesLess s.toList s'.toList
  ·cases d2 : Op.bytesLess s'.toList s.toList
   ·have hs := Lib.hid (arr_ext (less_total _ _ d1 d2))
    have D := Lib.hid (And.intro d1 d2)
    have e : (s.toList == s'.toList) = true := by rw [hs.out]; simp
    go_enter Try.func101, Try.ntmps101
    go_wp2_with fail
    go_ret
    exact ⟨ret_int (by simp [ordV, D.out.1, D.out.2]), K.out⟩
   ·have hs : Hid (s ≠ s') := Lib.hid (fun h => by rw [h, less_irrefl] at d2; cases d2)
    have D := Lib.hid (And.intro d1 d2)
    have e : (s.toList == s'.toList) = false := by rw [beq_eq_false_iff_ne]; exact fun h => hs.out (arr_ext h)
    go_enter Try.func101, Try.ntmps101
    go_wp2_with fail
    go_ret
    exact ⟨ret_int (by simp [ordV, D.out.1, D.out.2]), K.out⟩
  ·have hs : Hid (s ≠ s') := Lib.hid (fun h => by rw [h, less_irrefl] at d1; cases d1)
   cases d2 : Op.bytesLess s'.toList s.toList
   all_goals
    have D := Lib.hid (And.intro d1 d2)
    go_enter Try.func101, Try.ntmps101
    go_wp2_with fail
    go_ret
    exact ⟨ret_int (by simp [ordV, D.out.1]), K.out⟩
 have c2 : (k == 2) = false := by simpa using h2k
 by_cases h3k : k = 3
 ·subst h3k
  have c3 : ((3 : Int) == 3) = true := rfl
  cases t <;> cases t'
  all_goals
   go_enter Try.func101, Try.ntmps101
   go_wp2_with fail
   go_ret
   exact ⟨ret_int (by simp [ordV]), K.out⟩
 have c3 : (k == 3) = false := by simpa using h3k
 have HK := Lib.hid (And.intro h1k (And.intro h2k h3k))
 clear h1k h2k h3k
 go_enter Try.func101, Try.ntmps101
 go_wp2_with fail
 go_ret
 exact ⟨ret_int (by simp [ordV, HK.out.1, HK.out.2.1, HK.out.2.2]), K.out⟩

/-- the order of values, in all that they have -/
def wholeV (a b : Val) : Int :=
 if ordV a b ≠ 0 then ordV a b
 else if ordV ⟨1, a.num, ⟨#[]⟩, false⟩ ⟨1, b.num, ⟨#[]⟩, false⟩ ≠ 0 then ordV ⟨1, a.num, ⟨#[]⟩, false⟩ ⟨1, b.num, ⟨#[]⟩, false⟩
 else if ordV ⟨2, 0, a.str, false⟩ ⟨2, 0, b.str, false⟩ ≠ 0 then ordV ⟨2, 0, a.str, false⟩ ⟨2, 0, b.str, false⟩
 else ordV ⟨3, 0, ⟨#[]⟩, a.is⟩ ⟨3, 0, ⟨#[]⟩, b.is⟩
theorem wholeV_zero (a b : Val) : wholeV a b = 0 ↔ a = b := by
 have h1 := ordV_zero a b
 have h2 := ordV_zero ⟨1, a.num, ⟨#[]⟩, false⟩ ⟨1, b.num, ⟨#[]⟩, false⟩
 have h3 := ordV_zero ⟨2, 0, a.str, false⟩ ⟨2, 0, b.str, false⟩
 have h4 := ordV_zero ⟨3, 0, ⟨#[]⟩, a.is⟩ ⟨3, 0, ⟨#[]⟩, b.is⟩
 rw [likeV_num] at h2
 rw [likeV_str] at h3
 rw [likeV_is] at h4
 obtain ⟨k, n, s, t⟩ := a
 obtain ⟨k', n', s', t'⟩ := b
 unfold wholeV
 simp only at h1 h2 h3 h4 ⊢
 constructor
 ·intro h
  split at h
  ·contradiction
  ·rename_i g1
   split at h
   ·contradiction
   ·rename_i g2
    split at h
    ·contradiction
    ·rename_i g3
     have e1 := (h1.1 (Decidable.not_not.1 g1)).1
     simp only at e1
     rw [e1, h2.1 (Decidable.not_not.1 g2), h3.1 (Decidable.not_not.1 g3), h4.1 h]
 ·intro h
  simp only [Val.mk.injEq] at h
  obtain ⟨rfl, rfl, rfl, rfl⟩ := h
  rw [if_neg (by simp [h1, likeV]), if_neg (by simp [h2]), if_neg (by simp [h3])]
  exact h4.2 rfl
set_option maxRecDepth 100000 in
theorem ref_whole_any (a b : Val) (w : World) : Calls Try.prog 88 #[.agg a.cells, .agg b.cells] w fun e w' => e = .returned (.int .i64 (wholeV a b)) ∧ Old w w' := by
 obtain ⟨W0, hW0⟩ : ∃ W0, (w.alloc (.cells a.cells 66)).alloc (.cells b.cells 66) = W0 := ⟨_, rfl⟩
 have k0 : Old w W0 := by rw [← hW0]; exact ((Keeps.refl _ _).alloc _).alloc _
 obtain ⟨b0, b1⟩ := two_blocks w (.cells a.cells 66) (.cells b.cells 66)
 rw [hW0] at b0 b1
 have B := Lib.hid (And.intro k0 (And.intro b0 b1))
 have hv : wholeV a b = if ordV a b ≠ 0 then ordV a b
  else if ordV ⟨1, a.num, ⟨#[]⟩, false⟩ ⟨1, b.num, ⟨#[]⟩, false⟩ ≠ 0 then ordV ⟨1, a.num, ⟨#[]⟩, false⟩ ⟨1, b.num, ⟨#[]⟩, false⟩
  else if ordV ⟨2, 0, a.str, false⟩ ⟨2, 0, b.str, false⟩ ≠ 0 then ordV ⟨2, 0, a.str, false⟩ ⟨2, 0, b.str, false⟩
  else ordV ⟨3, 0, ⟨#[]⟩, a.is⟩ ⟨3, 0, ⟨#[]⟩, b.is⟩ := rfl
 generalize wholeV a b = z at hv ⊢
 have C1 := (ref_cmp_val_any a b)
 have C2 := (ref_cmp_val_any ⟨1, a.num, ⟨#[]⟩, false⟩ ⟨1, b.num, ⟨#[]⟩, false⟩)
 have C3 := (ref_cmp_val_any ⟨2, 0, a.str, false⟩ ⟨2, 0, b.str, false⟩)
 have C4 := (ref_cmp_val_any ⟨3, 0, ⟨#[]⟩, a.is⟩ ⟨3, 0, ⟨#[]⟩, b.is⟩)
 generalize ordV a b = z1 at hv C1
 generalize ordV ⟨1, a.num, ⟨#[]⟩, false⟩ ⟨1, b.num, ⟨#[]⟩, false⟩ = z2 at hv C2
 generalize ordV ⟨2, 0, a.str, false⟩ ⟨2, 0, b.str, false⟩ = z3 at hv C3
 generalize ordV ⟨3, 0, ⟨#[]⟩, a.is⟩ ⟨3, 0, ⟨#[]⟩, b.is⟩ = z4 at hv C4
 have H1 := Lib.hid C1
 have H2 := Lib.hid C2
 have H3 := Lib.hid C3
 have H4 := Lib.hid C4
 clear C1 C2 C3 C4
 obtain ⟨k, n, s, t⟩ := a
 obtain ⟨k', n', s', t'⟩ := b
 unfold Val.cells at hW0 B H1 H2 H3 H4 ⊢
 simp only at hW0 B H1 H2 H3 H4 ⊢
 have g0 := blk4 B.out.2.1
 have g1 := blk4 B.out.2.2
 clear k0 b0 b1
 have HV := Lib.hid hv
 clear hv
 go_enter Try.func88, Try.ntmps88
 go_wp2_with fail
 refine (H1.out _).mono ?_
 rintro e w1 ⟨rfl, k1⟩
 clear g0 g1
 have g0 := blk4 ((k1.block _ (lt_of_heap B.out.2.1) (fun f => f)).trans B.out.2.1)
 have g1 := blk4 ((k1.block _ (lt_of_heap B.out.2.2) (fun f => f)).trans B.out.2.2)
 have R1 := Lib.hid k1
 clear k1
 by_cases hz : z1 = 0
 case neg =>
  have hb : (z1 != 0) = true := by rw [bne_iff_ne]; exact hz
  have hv := HV.out
  rw [if_pos hz] at hv
  have R := Lib.hid hv
  clear hz hv
  go_wp2_with fail
  go_ret
  exact ⟨ret_int R.out.symm, B.out.1.trans R1.out⟩
 subst hz
 have hb : ((0 : Int) != 0) = false := rfl
 go_wp2_with fail
 refine (H2.out _).mono ?_
 rintro e w2 ⟨rfl, k2⟩
 clear g0 g1
 have R2 := Lib.hid (R1.out.trans k2)
 have g0 := blk4 ((R2.out.block _ (lt_of_heap B.out.2.1) (fun f => f)).trans B.out.2.1)
 have g1 := blk4 ((R2.out.block _ (lt_of_heap B.out.2.2) (fun f => f)).trans B.out.2.2)
 clear k2
 by_cases hz : z2 = 0
 case neg =>
  have hb : (z2 != 0) = true := by rw [bne_iff_ne]; exact hz
  have hv := HV.out
  rw [if_neg (by simp), if_pos hz] at hv
  have R := Lib.hid hv
  clear hz hv
  go_wp2_with fail
  go_ret
  exact ⟨ret_int R.out.symm, B.out.1.trans R2.out⟩
 subst hz
 go_wp2_with fail
 refine (H3.out _).mono ?_
 rintro e w3 ⟨rfl, k3⟩
 clear g0 g1
 have R3 := Lib.hid (R2.out.trans k3)
 have g0 := blk4 ((R3.out.block _ (lt_of_heap B.out.2.1) (fun f => f)).trans B.out.2.1)
 have g1 := blk4 ((R3.out.block _ (lt_of_heap B.out.2.2) (fun f => f)).trans B.out.2.2)
 clear k3
 by_cases hz : z3 = 0
 case neg =>
  have hb : (z3 != 0) = true := by rw [bne_iff_ne]; exact hz
  have hv := HV.out
  rw [if_neg (by simp), if_neg (by simp), if_pos hz] at hv
  have R := Lib.hid hv
  clear hz hv
  go_wp2_with fail
  go_ret
  exact ⟨ret_int R.out.symm, B.out.1.trans R3.out⟩
 subst hz
 go_wp2_with fail
 refine (H4.out _).mono ?_
 rintro e w4 ⟨rfl, k4⟩
 have R4 := Lib.hid (R3.out.trans k4)
 have hv := HV.out
 rw [if_neg (by simp), if_neg (by simp), if_neg (by simp)] at hv
 have R := Lib.hid hv
 clear k4 g0 g1 hv
 go_wp2_with fail
 go_ret
 exact ⟨ret_int R.out.symm, B.out.1.trans R4.out⟩
end Go.Proofs.Ytiednihagnehlaa

namespace Go.Proofs.Ytiednihagnehlaa
open Go.RowKit

/-- the order of lists, by that of their things -/
def ordL {α : Type} (f : α → α → Int) : List α → List α → Int
 | [], [] => 0
 | [], _ :: _ => -1
 | _ :: _, [] => 1
 | a :: l, b :: m => if f a b = 0 then ordL f l m else f a b
theorem ordL_zero {α : Type} {f : α → α → Int} (hf : ∀ a b, f a b = 0 ↔ a = b) : ∀ l m, ordL f l m = 0 ↔ l = m
 | [], [] => by simp [ordL]
 | [], _ :: _ => by simp [ordL]
 | _ :: _, [] => by simp [ordL]
 | a :: l, b :: m => by
  have ih := ordL_zero hf l m
  have h := hf a b
  unfold ordL
  split
  ·rename_i g; rw [ih]; simp [h.1 g]
  ·rename_i g
   constructor
   ·intro e; exact absurd e g
   ·intro e; simp only [List.cons.injEq] at e; exact absurd (h.2 e.1) g
theorem ordL_step {α : Type} {f : α → α → Int} {l m : List α} {i : Nat} {x y : α} (hx : l[i]? = some x) (hy : m[i]? = some y) :
  ordL f (l.drop i) (m.drop i) = if f x y = 0 then ordL f (l.drop (i + 1)) (m.drop (i + 1)) else f x y := by
 obtain ⟨h1, rfl⟩ := List.getElem?_eq_some_iff.1 hx
 obtain ⟨h2, rfl⟩ := List.getElem?_eq_some_iff.1 hy
 rw [List.drop_eq_getElem_cons h1, List.drop_eq_getElem_cons h2, ordL]
theorem ordL_end {α : Type} {f : α → α → Int} {l m : List α} {i : Nat} (h1 : i ≤ l.length) (h2 : i ≤ m.length) (h : l.length ≤ i ∨ m.length ≤ i) :
  ordL f (l.drop i) (m.drop i) = if l.length < m.length then -1 else if m.length < l.length then 1 else 0 := by
 rcases Nat.lt_trichotomy l.length m.length with g | g | g
 ·have e : l.length = i := by omega
  rw [if_pos g, List.drop_of_length_le (by omega), List.drop_eq_getElem_cons (by omega)]; rfl
 ·rw [if_neg (by omega), if_neg (by omega), List.drop_of_length_le (by omega), List.drop_of_length_le (by omega)]; rfl
 ·have e : m.length = i := by omega
  rw [if_neg (by omega), if_pos g, List.drop_of_length_le (l := m) (by omega), List.drop_eq_getElem_cons (by omega)]; rfl
/-- the order of constraints -/
def ordC (a b : PCon) : Int :=
 if a.name ≠ b.name then (if Op.bytesLess a.name.toList b.name.toList then -1 else 1)
 else if a.op ≠ b.op then (if a.op < b.op then -1 else 1)
 else if wholeV a.val b.val ≠ 0 then wholeV a.val b.val
 else ordL wholeV a.set b.set
theorem ordC_zero (a b : PCon) : ordC a b = 0 ↔ a = b := by
 have hw := wholeV_zero a.val b.val
 have hs := ordL_zero wholeV_zero a.set b.set
 obtain ⟨nm, op, v, s⟩ := a
 obtain ⟨nm', op', v', s'⟩ := b
 unfold ordC
 simp only at hw hs ⊢
 simp only [PCon.mk.injEq]
 by_cases h1 : nm = nm'
 ·subst h1
  by_cases h2 : op = op'
  ·subst h2
   by_cases h3 : wholeV v v' = 0
   ·obtain rfl := hw.1 h3
    simp [h3, hs]
   ·have : ¬ v = v' := fun e => h3 (hw.2 e)
    simp [h3, this]
  ·simp [h2]; split <;> simp
 ·simp [h1]; split <;> simp
/-- the order of predicates -/
def ordP (p q : List PCon) : Int := ordL ordC p q
theorem ordP_zero (p q : List PCon) : ordP p q = 0 ↔ p = q := ordL_zero ordC_zero p q

set_option maxRecDepth 100000 in
set_option maxHeartbeats 2000000 in
theorem ref_order_any (x y : Con) (w : World) (hx : SeesV w x.sv x.set) (hy : SeesV w y.sv y.set) :
  Calls Try.prog 75 #[.agg x.cells.toArray, .agg y.cells.toArray] w fun e w' => e = .returned (.int .i64 (ordC x.plain y.plain)) ∧ Old w w' := by
 obtain ⟨p, c, hsv, hb1, hb2⟩ := hx.len
 obtain ⟨p', c', hsv', hb3, hb4⟩ := hy.len
 obtain ⟨nm, op, ⟨k, n, s, t⟩, sv, set⟩ := x
 obtain ⟨nm', op', ⟨k', n', s', t'⟩, sv', set'⟩ := y
 simp only at hsv hsv' hb1 hb2 hb3 hb4 hx hy
 subst hsv hsv'
 have hmm : set.length ≤ 9223372036854775807 := by unfold maxLen at hb2; omega
 have hmm' : set'.length ≤ 9223372036854775807 := by unfold maxLen at hb4; omega
 clear hb1 hb2 hb3 hb4
 unfold Con.cells Con.plain
 simp only
 obtain ⟨W0, hW0⟩ : ∃ W0, (w.alloc (.cells #[.string nm, .int .i64 op, .int .i64 k, .int .i64 n, .string s, .bool t, .slice p set.length c] 69)).alloc (.cells #[.string nm', .int .i64 op', .int .i64 k', .int .i64 n', .string s', .bool t', .slice p' set'.length c'] 69) = W0 := ⟨_, rfl⟩
 have k0 : Old w W0 := by rw [← hW0]; exact ((Keeps.refl _ _).alloc _).alloc _
 obtain ⟨b0, b1⟩ := two_blocks w (.cells #[.string nm, .int .i64 op, .int .i64 k, .int .i64 n, .string s, .bool t, .slice p set.length c] 69) (.cells #[.string nm', .int .i64 op', .int .i64 k', .int .i64 n', .string s', .bool t', .slice p' set'.length c'] 69)
 rw [hW0] at b0 b1
 have g0 := blk7 b0
 have g1 := blk7 b1
 have B := Lib.hid (And.intro k0 (And.intro b0 b1))
 have H := Lib.hid (And.intro hx hy)
 clear k0 b0 b1 hx hy
 have hv : ordC ⟨nm, op, ⟨k, n, s, t⟩, set⟩ ⟨nm', op', ⟨k', n', s', t'⟩, set'⟩ = if nm ≠ nm' then (if Op.bytesLess nm.toList nm'.toList then -1 else 1)
  else if op ≠ op' then (if op < op' then -1 else 1) else if wholeV ⟨k, n, s, t⟩ ⟨k', n', s', t'⟩ ≠ 0 then wholeV ⟨k, n, s, t⟩ ⟨k', n', s', t'⟩ else ordL wholeV set set' := rfl
 generalize ordC ⟨nm, op, ⟨k, n, s, t⟩, set⟩ ⟨nm', op', ⟨k', n', s', t'⟩, set'⟩ = z at hv ⊢
 cases hn : (nm.toList == nm'.toList)
 ·rw [if_pos (fun e => by rw [e] at hn; simp at hn)] at hv
  cases hl : Op.bytesLess nm.toList nm'.toList
  all_goals
   rw [hl] at hv
   have HV := Lib.hid hv
   clear hv
   go_enter Try.func75, Try.ntmps75
   go_wp2_with fail
   go_ret
   exact ⟨ret_int (by rw [HV.out]; rfl), B.out.1⟩
 have hnn : nm = nm' := arr_ext (by simpa using hn)
 rw [if_neg (by simp [hnn])] at hv
 clear hnn
 by_cases ho : op = op'
 case neg =>
  have h1 : (op != op') = true := by rw [bne_iff_ne]; exact ho
  rw [if_pos ho] at hv
  by_cases hl : op < op'
  ·have h2 : decide (op < op') = true := decide_eq_true hl
   rw [if_pos hl] at hv
   have HV := Lib.hid hv
   clear hv ho hl
   go_enter Try.func75, Try.ntmps75
   go_wp2_with fail
   go_ret
   exact ⟨ret_int (by rw [HV.out]), B.out.1⟩
  ·have h2 : decide (op < op') = false := decide_eq_false hl
   rw [if_neg hl] at hv
   have HV := Lib.hid hv
   clear hv ho hl
   go_enter Try.func75, Try.ntmps75
   go_wp2_with fail
   go_ret
   exact ⟨ret_int (by rw [HV.out]), B.out.1⟩
 subst ho
 have h1 : (op != op) = false := by simp
 rw [if_neg (by simp)] at hv
 have CW := ref_whole_any ⟨k, n, s, t⟩ ⟨k', n', s', t'⟩
 unfold Val.cells at CW
 simp only at CW
 generalize wholeV ⟨k, n, s, t⟩ ⟨k', n', s', t'⟩ = zw at hv CW
 have C := Lib.hid CW
 clear CW
 by_cases hz : zw = 0
 case neg =>
  have h2 : (zw != 0) = true := by rw [bne_iff_ne]; exact hz
  rw [if_pos hz] at hv
  have HV := Lib.hid hv
  clear hv hz
  go_enter Try.func75, Try.ntmps75
  go_wp2_with fail
  refine (C.out _).mono ?_
  rintro e w1 ⟨rfl, k1⟩
  have K1 := Lib.hid k1
  clear k1 g0 g1
  go_wp2_with fail
  go_ret
  exact ⟨ret_int HV.out.symm, B.out.1.trans K1.out⟩
 subst hz
 have h2 : ((0 : Int) != 0) = false := rfl
 rw [if_neg (by simp)] at hv
 have HV := Lib.hid hv
 clear hv
 go_enter Try.func75, Try.ntmps75
 go_wp2_with fail
 refine (C.out _).mono ?_
 rintro e w1 ⟨rfl, k1⟩
 have K1 := Lib.hid (B.out.1.trans k1)
 have B1 := Lib.hid (And.intro ((k1.block _ (lt_of_heap B.out.2.1) (fun f => f)).trans B.out.2.1) ((k1.block _ (lt_of_heap B.out.2.2) (fun f => f)).trans B.out.2.2))
 clear k1 g0 g1 h2 hn h1
 go_wp2_with fail
 go_loopw [6] (fun v6 wr => ∃ i : Nat, i ≤ set.length ∧ i ≤ set'.length ∧ v6 = .int .i64 i ∧ ordL wholeV set set' = ordL wholeV (set.drop i) (set'.drop i) ∧ Old w1 wr) (fun v6 _ => set.length - (intOf v6).toNat)
 case atStart => exact ⟨0, by omega, by omega, rfl, rfl, Keeps.refl _ _⟩
 case round =>
  obtain ⟨i, hi, hi', rfl, hr, hk⟩ := hrel
  have HR := Lib.hid hr
  have g0 := blk7 ((hk.block _ (lt_of_heap B1.out.1) (fun f => f)).trans B1.out.1)
  have g1 := blk7 ((hk.block _ (lt_of_heap B1.out.2) (fun f => f)).trans B1.out.2)
  have KW := Lib.hid hk
  clear hr hk
  by_cases hlt : i < set.length ∧ i < set'.length
  ·obtain ⟨hlt, hlt'⟩ := hlt
   obtain ⟨b, o, cc, he, _, _, hc⟩ := H.out.1.at (by omega)
   obtain ⟨b', o', cc', he', _, _, hc'⟩ := H.out.2.at (by omega)
   simp only [Value.slice.injEq, true_and] at he he'
   obtain ⟨rfl, rfl⟩ := he
   obtain ⟨rfl, rfl⟩ := he'
   obtain ⟨x, hx⟩ : ∃ x, set[i]? = some x := ⟨_, List.getElem?_eq_getElem hlt⟩
   obtain ⟨y, hy⟩ : ∃ y, set'[i]? = some y := ⟨_, List.getElem?_eq_getElem hlt'⟩
   have hst := ordL_step (f := wholeV) hx hy
   have cx := fun j u (hu : (valL x)[j]? = some u) => OldOf.cell ((K1.out.trans KW.out).cell (hc i x hx j u hu) (fun f => f))
   have cy := fun j u (hu : (valL y)[j]? = some u) => OldOf.cell ((K1.out.trans KW.out).cell (hc' i y hy j u hu) (fun f => f))
   have x0 := cx 0 _ rfl
   have x1 := cx 1 _ rfl
   have x2 := cx 2 _ rfl
   have x3 := cx 3 _ rfl
   have y0 := cy 0 _ rfl
   have y1 := cy 1 _ rfl
   have y2 := cy 2 _ rfl
   have y3 := cy 3 _ rfl
   simp only [Nat.add_zero] at x0 y0
   have n1 := OldOf.cell g0.1.2.2.2.2.2.2
   have n2 := OldOf.cell g1.1.2.2.2.2.2.2
   have i1 : (0 : Int) ≤ (i : Int) := by omega
   have i2 : (i : Int) < (set.length : Int) := by omega
   have i3 : (i : Int) < (set'.length : Int) := by omega
   have CW := ref_whole_any x y
   unfold Val.cells at CW
   generalize wholeV x y = zv at hst CW
   have CV := Lib.hid CW
   have HS := Lib.hid hst
   clear hx hy cx cy hc hc' CW hst
   by_cases hz : zv = 0
   ·subst hz
    have h2 : ((0 : Int) != 0) = false := rfl
    go_wp2_with fail
    refine wp_region_quiet_old (by kernel_rfl) (by kernel_rfl) ?_
    repeat (go_big_quiet_step (((go_at_call 88; exact Calls.quiet_of_old (CV.out _)))))
    refine wpQuiet_nil ?_
    intro _ hpq
    obtain ⟨pq, hpq'⟩ := hpq
    subst hpq'
    go_wp2_with fail
    go_roundw
    case rel => exact ⟨i + 1, by omega, by omega, by go_num, HR.out.trans (by have := HS.out; simpa using this), KW.out.trans pq.old⟩
    case measure => simp [intOf]; omega
   ·have h2 : (zv != 0) = true := by rw [bne_iff_ne]; exact hz
    have hs2 := HS.out
    rw [if_neg hz] at hs2
    have HS2 := Lib.hid hs2
    clear hz hs2
    go_wp2_with fail
    refine wp_region_quiet_old (by kernel_rfl) (by kernel_rfl) ?_
    repeat (go_big_quiet_step (((go_at_call 88; exact Calls.quiet_of_old (CV.out _)))))
    refine wpQuiet_nil ?_
    intro _ hpq
    obtain ⟨pq, hpq'⟩ := hpq
    subst hpq'
    go_wp2_with fail
    go_ret
    exact ⟨ret_int (by rw [HV.out, HR.out, HS2.out]), K1.out.trans (KW.out.trans pq.old)⟩
  ·have hor : set.length ≤ i ∨ set'.length ≤ i := by omega
   have hend := ordL_end (f := wholeV) hi hi' hor
   have HE := Lib.hid (HV.out.trans (HR.out.trans hend))
   clear hlt hend
   rcases Nat.lt_trichotomy set.length set'.length with g | g | g
   ·have hs2 := HE.out
    rw [if_pos g] at hs2
    have HS2 := Lib.hid hs2
    have j1 : ¬ i < set.length := by omega
    clear hs2 hor
    go_wp2_with fail
    go_ret
    exact ⟨ret_int (by rw [HS2.out]), K1.out.trans KW.out⟩
   ·have hs2 := HE.out
    rw [if_neg (by omega), if_neg (by omega)] at hs2
    have HS2 := Lib.hid hs2
    have j1 : ¬ i < set.length := by omega
    have j2 : ¬ set.length < set'.length := by omega
    have j3 : ¬ set'.length < set.length := by omega
    clear hs2 hor g
    go_wp2_with fail
    go_ret
    exact ⟨ret_int (by rw [HS2.out]), K1.out.trans KW.out⟩
   ·have hs2 := HE.out
    rw [if_neg (by omega), if_pos g] at hs2
    have HS2 := Lib.hid hs2
    have j1 : i < set.length := by omega
    have j4 : ¬ i < set'.length := by omega
    have j2 : ¬ set.length < set'.length := by omega
    clear hs2 hor
    go_wp2_with fail
    go_ret
    exact ⟨ret_int (by rw [HS2.out]), K1.out.trans KW.out⟩
end Go.Proofs.Ytiednihagnehlaa

namespace Go.Proofs.Ytiednihagnehlaa
open Go.RowKit

theorem set7 {w : World} {b : Nat} {t : TypeId} {x0 x1 x2 x3 x4 x5 x6 a0 a1 a2 a3 a4 a5 a6 : Value} (h : w.heap[b]? = some (.cells #[x0, x1, x2, x3, x4, x5, x6] t (0, 0))) :
  (((((((w.setCell ⟨b, 0, none⟩ a0).setCell ⟨b, 1, none⟩ a1).setCell ⟨b, 2, none⟩ a2).setCell ⟨b, 3, none⟩ a3).setCell ⟨b, 4, none⟩ a4).setCell ⟨b, 5, none⟩ a5).setCell ⟨b, 6, none⟩ a6).heap[b]? = some (.cells #[a0, a1, a2, a3, a4, a5, a6] t (0, 0)) := by
 have h0 := heap_setCell_same w b 0 _ _ a0 h
 have h1 := heap_setCell_same _ b 1 _ _ a1 h0
 have h2 := heap_setCell_same _ b 2 _ _ a2 h1
 have h3 := heap_setCell_same _ b 3 _ _ a3 h2
 have h4 := heap_setCell_same _ b 4 _ _ a4 h3
 have h5 := heap_setCell_same _ b 5 _ _ a5 h4
 have h6 := heap_setCell_same _ b 6 _ _ a6 h5
 simpa using h6
end Go.Proofs.Ytiednihagnehlaa

namespace Go.Proofs.Ytiednihagnehlaa
open Go.RowKit

def ConF (x : Con) (W : World) : Prop := SeesV W x.sv x.set
theorem conF_k : FineK Con.sv ConF := fun _ _ _ _ h hk hS => SeesR.keeps h hk hS
def pPred (l : List UInt8) : Option (List PCon × List UInt8) := pList 6 pCon l
theorem OwnN.mono {α : Type} {w : World} {B B' : Nat} {E : TypeId} {k : Nat} {enc : α → List Value} {nv : α → Value} {fine : α → World → Prop} {v : Value} {l : List α} (h : OwnN w B E k enc nv fine v l) (hb : B' ≤ B) : OwnN w B' E k enc nv fine v l :=
 ⟨h.1.mono hb, fun x hx => ⟨(h.2 x hx).1, fun b hb' => ⟨Nat.le_trans hb ((h.2 x hx).2 b hb').1, ((h.2 x hx).2 b hb').2⟩⟩⟩

end Go.Proofs.Ytiednihagnehlaa

namespace Go.Proofs.Ytiednihagnehlaa
open Go.RowKit

/-- an item, without where its attributes lie -/
structure PIt where
 n : Nat
 time : Nat
 key : ByteArray
 es : List At
def pItem (l : List UInt8) : Option (PIt × List UInt8) := (pNum 1099511627776 l).bind fun x => (pNum 1099511627776 x.2).bind fun y => (pEvent y.2).map fun z => (⟨x.1, y.1, z.1.1, z.1.2⟩, z.2)
end Go.Proofs.Ytiednihagnehlaa

namespace Go.Proofs.Ytiednihagnehlaa
open Go.RowKit

/-- an item: av is where its attributes lie -/
structure It where
 n : Nat
 time : Nat
 key : ByteArray
 av : Value
 es : List At
def It.cells (x : It) : List Value := [.int .u64 x.n, .int .u64 x.time, .string x.key, x.av]
/-- an item's attributes lie in w -/
def It.fine (w : World) (x : It) : Prop := SeesA w x.av x.es ∧ (0 < x.es.length → ∀ k, x.av.ownBlock = some k → k < w.heap.size) ∧ Fits x.es ∧ x.n < 18446744073709551616 ∧ x.time < 18446744073709551616
theorem It.fine.old {w w' : World} {x : It} (h : x.fine w) (hk : Old w w') : x.fine w' :=
 ⟨h.1.old hk, fun h0 k hk' => Nat.lt_of_lt_of_le (h.2.1 h0 k hk') hk.size, h.2.2⟩

def It.plain (x : It) : PIt := ⟨x.n, x.time, x.key, x.es⟩
def ItF (x : It) (W : World) : Prop := SeesA W x.av x.es
theorem itF_k : FineK It.av ItF := fun _ _ _ _ h hk hS => SeesR.keeps h hk hS
abbrev PGap := Nat × Nat
def gapL (g : PGap) : List Value := [.int .u64 g.1, .int .u64 g.2]
theorem Try.infoItem : (Try.prog.info? 35).map (fun i => (i.zero, i.size, i.bytes)) = some (some (.agg #[.int .u64 0, .int .u64 0, .string ⟨#[]⟩, .slice none 0 0]), 4, 56) := by kernel_rfl
theorem Try.infoGap : (Try.prog.info? 116).map (fun i => (i.zero, i.size, i.bytes)) = some (some (.agg #[.int .u64 0, .int .u64 0]), 2, 16) := by kernel_rfl
theorem blk5 {w : World} {b : Nat} {t : TypeId} {a0 a1 a2 a3 a4 : Value} (h : w.heap[b]? = some (.cells #[a0, a1, a2, a3, a4] t (0, 0))) :
  (w.cell? ⟨b, 0, none⟩ = some a0 ∧ w.cell? ⟨b, 1, none⟩ = some a1 ∧ w.cell? ⟨b, 2, none⟩ = some a2 ∧ w.cell? ⟨b, 3, none⟩ = some a3 ∧ w.cell? ⟨b, 4, none⟩ = some a4) ∧
  (w.frozen? ⟨b, 0, none⟩ = false ∧ w.frozen? ⟨b, 1, none⟩ = false ∧ w.frozen? ⟨b, 2, none⟩ = false ∧ w.frozen? ⟨b, 3, none⟩ = false ∧ w.frozen? ⟨b, 4, none⟩ = false) := by simp [World.cell?, World.frozen?, h]
end Go.Proofs.Ytiednihagnehlaa

namespace Go.Proofs.Ytiednihagnehlaa
open Go.RowKit

def pGap (l : List UInt8) : Option (PGap × List UInt8) := (pNum 1099511627776 l).bind fun x => (pNum 1099511627776 x.2).map fun y => ((x.1, y.1), y.2)
theorem pGap_cases {l r : List UInt8} {g : PGap} (h : pGap l = some (g, r)) : ∃ l1, pNum 1099511627776 l = some (g.1, l1) ∧ pNum 1099511627776 l1 = some (g.2, r) := by
 unfold pGap at h
 cases hk : pNum 1099511627776 l with
 | none => rw [hk] at h; cases h
 | some x =>
  rw [hk] at h
  simp only [Option.bind_some] at h
  cases hi : pNum 1099511627776 x.2 with
  | none => rw [hi] at h; cases h
  | some y =>
   rw [hi] at h
   simp only [Option.map_some, Option.some.injEq, Prod.mk.injEq] at h
   obtain ⟨rfl, rfl⟩ := h
   exact ⟨x.2, rfl, hi⟩
theorem pGap_nones {l : List UInt8} (h : pGap l = none) : pNum 1099511627776 l = none ∨ ∃ s l1, pNum 1099511627776 l = some (s, l1) ∧ pNum 1099511627776 l1 = none := by
 unfold pGap at h
 cases hk : pNum 1099511627776 l with
 | none => exact .inl rfl
 | some x =>
  rw [hk] at h
  simp only [Option.bind_some] at h
  exact .inr ⟨x.1, x.2, rfl, by simpa using h⟩

end Go.Proofs.Ytiednihagnehlaa

namespace Go.Proofs.Ytiednihagnehlaa
open Go.RowKit

/-- a page, without where its items and gaps lie -/
structure PPg where
 fr : Nat
 en : Nat
 items : List PIt
 gaps : List PGap
 last : Bool
def pPage (l : List UInt8) : Option (PPg × List UInt8) := (pNum 1099511627777 l).bind fun a => (pNum 1099511627777 a.2).bind fun b => (pList 4 pItem b.2).bind fun c => (pList 16 pGap c.2).bind fun d => (pNum 1 d.2).map fun f => (⟨a.1, b.1, c.1, d.1, f.1 == 1⟩, f.2)
theorem set5 {w : World} {b : Nat} {t : TypeId} {x0 x1 x2 x3 x4 a0 a1 a2 a3 a4 : Value} (h : w.heap[b]? = some (.cells #[x0, x1, x2, x3, x4] t (0, 0))) :
  (((((w.setCell ⟨b, 0, none⟩ a0).setCell ⟨b, 1, none⟩ a1).setCell ⟨b, 2, none⟩ a2).setCell ⟨b, 3, none⟩ a3).setCell ⟨b, 4, none⟩ a4).heap[b]? = some (.cells #[a0, a1, a2, a3, a4] t (0, 0)) := by
 have h0 := heap_setCell_same w b 0 _ _ a0 h
 have h1 := heap_setCell_same _ b 1 _ _ a1 h0
 have h2 := heap_setCell_same _ b 2 _ _ a2 h1
 have h3 := heap_setCell_same _ b 3 _ _ a3 h2
 have h4 := heap_setCell_same _ b 4 _ _ a4 h3
 simpa using h4
end Go.Proofs.Ytiednihagnehlaa
