/- DERIVED. cover, plain: cuts in order; spans; what is taken away. · DERIVED. cover, plain: places of values; what a constraint's spans hold. -/
import Derived.Test.YtehmlaplodjenaaGreatZTopDual04
set_option maxRecDepth 100000
namespace Go.Proofs.YtehmlaplodjenaaGreat
section
open Go.RowKit
theorem bl_irrefl : ∀ a : List UInt8, Op.bytesLess a a = false
 | [] => rfl
 | x :: a => by simp [Op.bytesLess, bl_irrefl a]
theorem bl_trans : ∀ (a b c : List UInt8), Op.bytesLess a b = true → Op.bytesLess b c = true → Op.bytesLess a c = true
 | _, [], _, h, _ => by cases ‹List UInt8› <;> simp [Op.bytesLess] at h
 | [], _ :: _, [], _, h => by simp [Op.bytesLess] at h
 | [], _ :: _, _ :: _, _, _ => by simp [Op.bytesLess]
 | _ :: _, _ :: _, [], _, h => by simp [Op.bytesLess] at h
 | x :: a, y :: b, z :: c, h1, h2 => by
  have ih := bl_trans a b c
  simp only [Op.bytesLess, Bool.or_eq_true, Bool.and_eq_true, decide_eq_true_eq, beq_iff_eq] at h1 h2 ⊢
  rcases h1 with h1 | ⟨rfl, h1⟩ <;> rcases h2 with h2 | ⟨rfl, h2⟩
  ·exact .inl (UInt8.lt_trans h1 h2)
  ·exact .inl h1
  ·exact .inl h2
  ·exact .inr ⟨rfl, ih h1 h2⟩
theorem bl_total : ∀ a b : List UInt8, Op.bytesLess a b = false → Op.bytesLess b a = false → a = b
 | [], [], _, _ => rfl
 | [], _ :: _, h, _ => by simp [Op.bytesLess] at h
 | _ :: _, [], _, h => by simp [Op.bytesLess] at h
 | x :: a, y :: b, h1, h2 => by
  have ih := bl_total a b
  simp only [Op.bytesLess, Bool.or_eq_false_iff, Bool.and_eq_false_iff, decide_eq_false_iff_not, beq_eq_false_iff_ne] at h1 h2
  have e : x = y := UInt8.le_antisymm (UInt8.not_lt.1 h2.1) (UInt8.not_lt.1 h1.1)
  subst e
  simp only [ne_eq, not_true_eq_false, false_or] at h1 h2
  rw [ih h1.2 h2.2]
theorem lessC_irrefl (a : Cut) : lessC a a = false := by
 obtain ⟨s, e⟩ := a
 cases e <;> simp [lessC, strLt, bl_irrefl]
theorem lessC_trans {a b c : Cut} (h1 : lessC a b = true) (h2 : lessC b c = true) : lessC a c = true := by
 obtain ⟨s, e⟩ := a
 obtain ⟨t, f⟩ := b
 obtain ⟨u, g⟩ := c
 cases e <;> cases f <;> cases g <;> simp [lessC, strLt] at h1 h2 ⊢
 exact bl_trans _ _ _ h1 h2
theorem lessC_part {a c : Cut} (b : Cut) (h : lessC a c = true) : lessC a b = true ∨ lessC b c = true := by
 obtain ⟨s, e⟩ := a
 obtain ⟨t, f⟩ := b
 obtain ⟨u, g⟩ := c
 cases e <;> cases f <;> cases g <;> simp [lessC, strLt] at h ⊢
 by_cases h1 : Op.bytesLess s.toList t.toList = true
 ·exact .inl h1
 ·right
  by_cases h2 : Op.bytesLess t.toList s.toList = true
  ·exact bl_trans _ _ _ h2 h
  ·have e := bl_total s.toList t.toList (by simpa using h1) (by simpa using h2)
   rw [← e]; exact h
abbrev Span := Cut × Cut
def spanL (s : Span) : List Value := [.string s.1.at_, .bool s.1.e, .string s.2.at_, .bool s.2.e]
def inS (x : Cut) (s : Span) : Bool := !lessC x s.1 && lessC x s.2
def inL (x : Cut) (l : List Span) : Bool := l.any (inS x)
def cutOut (o s : Span) : List Span :=
 if (!lessC o.1 s.2 || !lessC s.1 o.2) = true then [s] else [(s.1, o.1), (o.2, s.2)].filter fun x => lessC x.1 x.2
theorem cutOut_law (x : Cut) (o s : Span) : inL x (cutOut o s) = (inS x s && !inS x o) := by
 obtain ⟨a, b⟩ := s
 obtain ⟨c, d⟩ := o
 unfold cutOut inL inS
 simp only
 have p1 := fun h => @lessC_part c b x h
 have p2 := fun h => @lessC_part a d x h
 have p3 := fun h => @lessC_part x b c h
 have p4 := fun h => @lessC_part x b a h
 have p5 := fun h => @lessC_part x d a h
 have p6 := fun h => @lessC_part x c a h
 have p7 := fun h => @lessC_part x b d h
 have t1 := fun h h' => @lessC_trans x c b h h'
 have t2 := fun h h' => @lessC_trans x a d h h'
 have t3 := fun h h' => @lessC_trans a x d h h'
 have t4 := fun h h' => @lessC_trans x c d h h'
 have t5 := fun h h' => @lessC_trans a x c h h'
 have t6 := fun h h' => @lessC_trans d x b h h'
 split
 ·rename_i h
  simp only [List.any_cons, List.any_nil, Bool.or_false]
  cases hxa : lessC x a <;> cases hxb : lessC x b <;> cases hxc : lessC x c <;> cases hxd : lessC x d <;> simp_all
 ·rename_i h
  simp only [List.filter_cons, List.filter_nil]
  cases hxa : lessC x a <;> cases hxb : lessC x b <;> cases hxc : lessC x c <;> cases hxd : lessC x d <;> cases hac : lessC a c <;> cases hdb : lessC d b <;> simp_all
theorem inL_append (x : Cut) (l m : List Span) : inL x (l ++ m) = (inL x l || inL x m) := by unfold inL; rw [List.any_append]
def minus1 (o : Span) (l : List Span) : List Span := l.flatMap (cutOut o)
theorem minus1_law (x : Cut) (o : Span) : ∀ l : List Span, inL x (minus1 o l) = (inL x l && !inS x o)
 | [] => rfl
 | s :: l => by
  have ih := minus1_law x o l
  unfold minus1 at ih ⊢
  rw [List.flatMap_cons, inL_append, ih, cutOut_law]
  simp only [inL, List.any_cons]
  cases inS x s <;> cases inS x o <;> simp
def minusL (l m : List Span) : List Span := m.foldl (fun l o => minus1 o l) l
theorem minusL_law (x : Cut) : ∀ (m l : List Span), inL x (minusL l m) = (inL x l && !inL x m)
 | [], l => by simp [minusL, inL]
 | o :: m, l => by
  have ih := minusL_law x m (minus1 o l)
  unfold minusL at ih ⊢
  rw [List.foldl_cons, ih, minus1_law]
  simp only [inL, List.any_cons]
  cases (l.any (inS x)) <;> cases inS x o <;> simp
def SpanOk (s : Span) : Prop := lessC s.1 s.2 = true
def Rise (l : List Span) : Prop := (∀ s ∈ l, SpanOk s) ∧ l.Pairwise fun s t => lessC t.1 s.2 = false
theorem le_transC {a b c : Cut} (h1 : lessC b a = false) (h2 : lessC c b = false) : lessC c a = false := by
 cases h : lessC c a
 ·rfl
 ·rcases lessC_part b h with h | h
  ·rw [h2] at h; cases h
  ·rw [h1] at h; cases h
theorem asymC {a b : Cut} (h : lessC a b = true) : lessC b a = false := by
 cases h' : lessC b a
 ·rfl
 ·have := lessC_trans h h'
  rw [lessC_irrefl] at this
  cases this
theorem cutOut_in (o s : Span) (hs : SpanOk s) : ∀ t ∈ cutOut o s, SpanOk t ∧ lessC t.1 s.1 = false ∧ lessC s.2 t.2 = false := by
 intro t ht
 unfold cutOut at ht
 split at ht
 ·simp only [List.mem_singleton] at ht
  subst ht
  exact ⟨hs, lessC_irrefl _, lessC_irrefl _⟩
 ·rename_i h
  simp only [Bool.or_eq_true, Bool.not_eq_true', not_or, Bool.not_eq_false] at h
  obtain ⟨h, hk⟩ := List.mem_filter.1 ht
  rcases List.mem_cons.1 h with rfl | h
  ·exact ⟨hk, lessC_irrefl _, asymC (by simpa using (by assumption : lessC o.1 s.2 = true ∧ lessC s.1 o.2 = true).1)⟩
  ·simp only [List.mem_singleton] at h
   subst h
   exact ⟨hk, asymC (by simpa using (by assumption : lessC o.1 s.2 = true ∧ lessC s.1 o.2 = true).2), lessC_irrefl _⟩
theorem cutOut_pair (o s : Span) (ho : SpanOk o) : (cutOut o s).Pairwise fun a b => lessC b.1 a.2 = false := by
 unfold cutOut
 split
 ·exact List.pairwise_singleton _ _
 ·refine List.Pairwise.filter _ ?_
  refine List.pairwise_cons.2 ⟨fun b hb => ?_, List.pairwise_singleton _ _⟩
  obtain rfl : b = (o.2, s.2) := by simpa using hb
  exact asymC ho
theorem cutOut_keep {o s : Span} (h : lessC s.1 o.2 = false) : cutOut o s = [s] := by
 unfold cutOut
 rw [if_pos (by rw [h]; simp)]
theorem cutOut_len (o s : Span) : (cutOut o s).length ≤ 2 := by
 unfold cutOut
 split
 ·simp
 ·exact Nat.le_trans (List.length_filter_le _ _) (by simp)
theorem cutOut_two {o s : Span} (h : 2 ≤ (cutOut o s).length) : lessC o.2 s.2 = true := by
 unfold cutOut at h
 split at h
 ·simp at h
 ·cases hb : lessC o.2 s.2
  ·rw [List.filter_cons, List.filter_cons, List.filter_nil] at h
   simp only [hb, Bool.false_eq_true, if_false] at h
   split at h <;> simp at h
  ·rfl
theorem minus1_keep {o : Span} : ∀ {l : List Span}, (∀ t ∈ l, lessC t.1 o.2 = false) → minus1 o l = l
 | [], _ => rfl
 | s :: l, h => by
  have ih := minus1_keep (l := l) (fun t ht => h t (List.mem_cons_of_mem _ ht))
  unfold minus1 at ih ⊢
  rw [List.flatMap_cons, ih, cutOut_keep (h s (List.mem_cons_self ..))]
  rfl
theorem minus1_in {o : Span} {l : List Span} (h : ∀ s ∈ l, SpanOk s) : ∀ t ∈ minus1 o l, ∃ s ∈ l, SpanOk t ∧ lessC t.1 s.1 = false ∧ lessC s.2 t.2 = false := by
 intro t ht
 obtain ⟨s, hs, ht⟩ := List.mem_flatMap.1 ht
 exact ⟨s, hs, cutOut_in o s (h s hs) t ht⟩
theorem minus1_rise {o : Span} (ho : SpanOk o) : ∀ {l : List Span}, Rise l → Rise (minus1 o l)
 | [], h => h
 | s :: l, h => by
  obtain ⟨h1, h2⟩ := h
  obtain ⟨h3, h4⟩ := List.pairwise_cons.1 h2
  have hl : ∀ x ∈ l, SpanOk x := fun x hx => h1 x (List.mem_cons_of_mem _ hx)
  have ih := minus1_rise ho (l := l) ⟨hl, h4⟩
  have hin := cutOut_in o s (h1 s (List.mem_cons_self ..))
  have e : minus1 o (s :: l) = cutOut o s ++ minus1 o l := rfl
  rw [e]
  refine ⟨fun x hx => ?_, List.pairwise_append.2 ⟨cutOut_pair o s ho, ih.2, fun a ha b hb => ?_⟩⟩
  ·rcases List.mem_append.1 hx with hx | hx
   ·exact (hin x hx).1
   ·exact ih.1 x hx
  ·obtain ⟨t, ht, _, g1, _⟩ := minus1_in hl b hb
   exact le_transC (le_transC (hin a ha).2.2 (h3 t ht)) g1
theorem minus1_len {o : Span} (ho : SpanOk o) : ∀ {l : List Span}, Rise l → (minus1 o l).length ≤ l.length + 1
 | [], _ => by simp [minus1]
 | s :: l, h => by
  obtain ⟨h1, h2⟩ := h
  obtain ⟨h3, h4⟩ := List.pairwise_cons.1 h2
  have hl : ∀ x ∈ l, SpanOk x := fun x hx => h1 x (List.mem_cons_of_mem _ hx)
  have e : minus1 o (s :: l) = cutOut o s ++ minus1 o l := rfl
  rw [e, List.length_append, List.length_cons]
  by_cases h5 : 2 ≤ (cutOut o s).length
  ·have h6 := cutOut_two h5
   rw [minus1_keep (l := l) (fun t ht => le_transC (asymC h6) (h3 t ht))]
   have := cutOut_len o s
   omega
  ·have := minus1_len ho (l := l) ⟨hl, h4⟩
   omega
theorem minusL_rise : ∀ (m : List Span) {l : List Span}, (∀ o ∈ m, SpanOk o) → Rise l → Rise (minusL l m) ∧ (minusL l m).length ≤ l.length + m.length
 | [], l, _, h => ⟨h, by simp [minusL]⟩
 | o :: m, l, hm, h => by
  have ho := hm o (List.mem_cons_self ..)
  have ih := minusL_rise m (l := minus1 o l) (fun x hx => hm x (List.mem_cons_of_mem _ hx)) (minus1_rise ho h)
  have hlen := minus1_len ho h
  have e : minusL l (o :: m) = minusL (minus1 o l) m := rfl
  rw [e]
  refine ⟨ih.1, ?_⟩
  have := ih.2
  simp only [List.length_cons]
  omega
structure Rg where
 a : List Span
 b : List Span
 c : List Span
 odd : Bool
def Rg.of (r : Rg) (k : Nat) : List Span := if k = 0 then r.a else if k = 1 then r.b else r.c
def minusR (r s : Rg) : Rg := ⟨minusL r.a s.a, minusL r.b s.b, minusL r.c s.c, r.odd && !s.odd⟩
def andR (r s : Rg) : Rg := minusR r (minusR r s)
def emptyR (r : Rg) : Bool := !r.odd && (r.a.isEmpty && (r.b.isEmpty && r.c.isEmpty))
def allR : Rg := ⟨[(firstC 1, endC)], [(firstC 2, endC)], [(firstC 3, endC)], true⟩
def Rg.ok (r : Rg) (n : Nat) : Prop := (Rise r.a ∧ r.a.length ≤ n) ∧ (Rise r.b ∧ r.b.length ≤ n) ∧ (Rise r.c ∧ r.c.length ≤ n)
theorem Rg.ok.le {r : Rg} {n m : Nat} (h : r.ok n) (hm : n ≤ m) : r.ok m := ⟨⟨h.1.1, by have := h.1.2; omega⟩, ⟨h.2.1.1, by have := h.2.1.2; omega⟩, ⟨h.2.2.1, by have := h.2.2.2; omega⟩⟩
theorem minusR_ok {r s : Rg} {n m : Nat} (h : r.ok n) (hs : s.ok m) : (minusR r s).ok (n + m) := by
 obtain ⟨⟨a1, a2⟩, ⟨b1, b2⟩, c1, c2⟩ := h
 obtain ⟨⟨d1, d2⟩, ⟨e1, e2⟩, f1, f2⟩ := hs
 have ha := minusL_rise s.a d1.1 a1
 have hb := minusL_rise s.b e1.1 b1
 have hc := minusL_rise s.c f1.1 c1
 exact ⟨⟨ha.1, by have := ha.2; show (minusL r.a s.a).length ≤ _; omega⟩, ⟨hb.1, by have := hb.2; show (minusL r.b s.b).length ≤ _; omega⟩, ⟨hc.1, by have := hc.2; show (minusL r.c s.c).length ≤ _; omega⟩⟩
theorem andR_ok {r s : Rg} {n m : Nat} (h : r.ok n) (hs : s.ok m) : (andR r s).ok (n + (n + m)) := minusR_ok h (minusR_ok h hs)
def inR (r : Rg) (k : Nat) (x : Cut) : Bool := inL x (r.of k)
theorem minusR_of (r s : Rg) (k : Nat) : (minusR r s).of k = minusL (r.of k) (s.of k) := by
 unfold Rg.of minusR
 split
 ·rfl
 ·split <;> rfl
theorem minusR_law (r s : Rg) (k : Nat) (x : Cut) : inR (minusR r s) k x = (inR r k x && !inR s k x) := by
 unfold inR
 rw [minusR_of, minusL_law]
theorem andR_law (r s : Rg) (k : Nat) (x : Cut) : inR (andR r s) k x = (inR r k x && inR s k x) := by
 unfold andR
 rw [minusR_law, minusR_law]
 cases inR r k x <;> cases inR s k x <;> rfl
theorem emptyR_law {r : Rg} (h : emptyR r = true) (k : Nat) (x : Cut) : inR r k x = false := by
 unfold emptyR at h
 simp only [Bool.and_eq_true, List.isEmpty_iff] at h
 unfold inR Rg.of
 split
 ·rw [h.2.1]; rfl
 ·split
  ·rw [h.2.2.1]; rfl
  ·rw [h.2.2.2]; rfl
end
section
open Go.RowKit
def digs : Nat → Nat → List UInt8
 | 0, _ => []
 | k + 1, n => UInt8.ofNat (n / 256 ^ k) :: digs k (n % 256 ^ k)
theorem digs_less : ∀ (k m n : Nat), m < 256 ^ k → n < 256 ^ k → Op.bytesLess (digs k m) (digs k n) = decide (m < n)
 | 0, m, n, hm, hn => by
  have h1 : m = 0 := by simpa using hm
  have h2 : n = 0 := by simpa using hn
  subst h1 h2
  rfl
 | k + 1, m, n, hm, hn => by
  have hp : 0 < 256 ^ k := Nat.pow_pos (by decide)
  have ih := digs_less k (m % 256 ^ k) (n % 256 ^ k) (Nat.mod_lt _ hp) (Nat.mod_lt _ hp)
  rw [Nat.pow_succ] at hm hn
  have h1 : m / 256 ^ k < 256 := Nat.div_lt_of_lt_mul hm
  have h2 : n / 256 ^ k < 256 := Nat.div_lt_of_lt_mul hn
  have e1 := Nat.div_add_mod m (256 ^ k)
  have e2 := Nat.div_add_mod n (256 ^ k)
  have l1 := Nat.mod_lt m hp
  have l2 := Nat.mod_lt n hp
  unfold digs
  simp only [Op.bytesLess]
  rw [ih]
  generalize m / 256 ^ k = a at *
  generalize n / 256 ^ k = b at *
  generalize m % 256 ^ k = r at *
  generalize n % 256 ^ k = t at *
  generalize 256 ^ k = P at *
  subst e1 e2
  have hlt : (UInt8.ofNat a < UInt8.ofNat b) = (a < b) := by
   rw [UInt8.lt_iff_toNat_lt, UInt8.toNat_ofNat', UInt8.toNat_ofNat', Nat.mod_eq_of_lt h1, Nat.mod_eq_of_lt h2]
  have heq : (UInt8.ofNat a == UInt8.ofNat b) = decide (a = b) := by
   rw [Bool.eq_iff_iff, beq_iff_eq, decide_eq_true_eq, ← UInt8.toNat_inj, UInt8.toNat_ofNat', UInt8.toNat_ofNat', Nat.mod_eq_of_lt h1, Nat.mod_eq_of_lt h2]
  rw [heq]
  simp only [hlt]
  rcases Nat.lt_trichotomy a b with h | h | h
  ·have : P * a + r < P * b + t := by
    have : P * (a + 1) ≤ P * b := Nat.mul_le_mul_left _ h
    rw [Nat.mul_add, Nat.mul_one] at this
    omega
   rw [decide_eq_true h, decide_eq_true this]; rfl
  ·subst h
   simp
  ·have : ¬ P * a + r < P * b + t := by
    have : P * (b + 1) ≤ P * a := Nat.mul_le_mul_left _ h
    rw [Nat.mul_add, Nat.mul_one] at this
    omega
   rw [decide_eq_false (show ¬ a < b by omega), decide_eq_false this, decide_eq_false (show ¬ a = b by omega)]; rfl
theorem eight_digs (n : Nat) (_h : n < 18446744073709551616) : eightL n 8 = digs 8 n := by
 have key : ∀ a b : Nat, a % 256 = b % 256 → UInt8.ofNat a = UInt8.ofNat b := fun a b e => by
  rw [← UInt8.toNat_inj, UInt8.toNat_ofNat', UInt8.toNat_ofNat']; exact e
 unfold eightL
 simp only [digs, List.range_succ, List.range_zero, List.nil_append, List.map_cons, List.map_nil, List.cons_append, List.cons.injEq, and_true]
 refine ⟨?_, ?_, ?_, ?_, ?_, ?_, ?_, ?_⟩ <;> first | trivial | (apply key; simp only [Nat.reducePow, Nat.reduceMul, Nat.reduceSub]; omega)
theorem eight_less (m n : Nat) (hm : m < 18446744073709551616) (hn : n < 18446744073709551616) : Op.bytesLess (eightL m 8) (eightL n 8) = decide (m < n) := by
 rw [eight_digs m hm, eight_digs n hn]
 exact digs_less 8 m n hm hn
def pastR : List UInt8 → Option (List UInt8)
 | [] => none
 | b :: r => match pastR r with
  | some r' => some (b :: r')
  | none => if b = 255 then none else some [b + 1]
def pastLt (t : List UInt8) (o : Option (List UInt8)) : Bool := o.elim true (Op.bytesLess t)
theorem past_law : ∀ (s t : List UInt8), (!Op.bytesLess t s && pastLt t (pastR s)) = s.isPrefixOf t
 | [], t => by cases t <;> rfl
 | b :: r, [] => by simp [Op.bytesLess]
 | b :: r, c :: t => by
  have ih := past_law r t
  simp only [List.isPrefixOf, Op.bytesLess]
  rcases Nat.lt_trichotomy c.toNat b.toNat with h | h | h
  ·have h1 : c < b := UInt8.lt_iff_toNat_lt.2 h
   have h2 : (b == c) = false := by rw [beq_eq_false_iff_ne]; rintro rfl; omega
   rw [decide_eq_true h1, h2]; rfl
  ·obtain rfl : c = b := UInt8.toNat_inj.1 h
   have h1 : ¬ c < c := by rw [UInt8.lt_iff_toNat_lt]; omega
   rw [decide_eq_false h1, beq_self_eq_true, Bool.false_or, Bool.true_and, Bool.true_and, ← ih]
   congr 1
   cases hp : pastR r with
   | some r' =>
    have e : pastR (c :: r) = some (c :: r') := by simp [pastR, hp]
    rw [e]
    simp [pastLt, Op.bytesLess, h1]
   | none =>
    by_cases h5 : c = 255
    ·have e : pastR (c :: r) = none := by simp [pastR, hp, h5]
     rw [e]
     rfl
    ·have : c < c + 1 := by
      rw [UInt8.lt_iff_toNat_lt, UInt8.toNat_add]
      have h6 : c.toNat ≠ 255 := fun e => h5 (UInt8.toNat_inj.1 e)
      have := c.toNat_lt
      show c.toNat < (c.toNat + 1) % 256
      omega
     have e : pastR (c :: r) = some [c + 1] := by simp [pastR, hp, h5]
     rw [e]
     simp [pastLt, Op.bytesLess, this]
  ·have h1 : ¬ c < b := by rw [UInt8.lt_iff_toNat_lt]; omega
   have h2 : (b == c) = false := by rw [beq_eq_false_iff_ne]; rintro rfl; omega
   have h3 : (c == b) = false := by rw [beq_eq_false_iff_ne]; rintro rfl; omega
   rw [h2, h3, decide_eq_false h1]
   simp only [Bool.false_and, Bool.or_false, Bool.not_false, Bool.true_and]
   unfold pastR
   cases hp : pastR r with
   | some r' => simp [pastLt, Op.bytesLess, h1, h3]
   | none =>
    by_cases h5 : b = 255
    ·have := c.toNat_lt
     rw [h5] at h
     have : (255 : UInt8).toNat = 255 := rfl
     omega
    ·have h4 : ¬ c < b + 1 := by
      rw [UInt8.lt_iff_toNat_lt, UInt8.toNat_add]
      have h6 : b.toNat ≠ 255 := fun e => h5 (UInt8.toNat_inj.1 e)
      have := b.toNat_lt
      show ¬ c.toNat < (b.toNat + 1) % 256
      omega
     have hbl : Op.bytesLess t [] = false := by cases t <;> rfl
     simp [h5, pastLt, Op.bytesLess, h4, hbl]
theorem cmp_neg : ∀ a b : List UInt8, (Lib.compareBytes a b < 0) ↔ Op.bytesLess a b = true
 | [], [] => by simp [Lib.compareBytes, Op.bytesLess]
 | [], _ :: _ => by simp [Lib.compareBytes, Op.bytesLess]
 | _ :: _, [] => by simp [Lib.compareBytes, Op.bytesLess]
 | x :: a, y :: b => by
  have ih := cmp_neg a b
  unfold Lib.compareBytes Op.bytesLess
  by_cases h1 : x < y
  ·simp [h1]
  ·by_cases h2 : y < x
   ·have h3 : ¬ x = y := by rintro rfl; exact h1 h2
    simp [h1, h2, h3]
   ·have h3 : x = y := UInt8.le_antisymm (UInt8.not_lt.1 h2) (UInt8.not_lt.1 h1)
    simp [h3, UInt8.lt_irrefl, ih]
theorem cmp_pos : ∀ a b : List UInt8, (0 < Lib.compareBytes a b) ↔ Op.bytesLess b a = true
 | [], [] => by simp [Lib.compareBytes, Op.bytesLess]
 | [], _ :: _ => by simp [Lib.compareBytes, Op.bytesLess]
 | _ :: _, [] => by simp [Lib.compareBytes, Op.bytesLess]
 | x :: a, y :: b => by
  have ih := cmp_pos a b
  unfold Lib.compareBytes Op.bytesLess
  by_cases h1 : x < y
  ·have h4 : ¬ y < x := fun h => UInt8.lt_irrefl x (UInt8.lt_trans h1 h)
   have h3 : ¬ y = x := by rintro rfl; exact UInt8.lt_irrefl _ h1
   simp [h1, h4, h3]
  ·by_cases h2 : y < x
   ·simp [h1, h2]
   ·have h3 : x = y := UInt8.le_antisymm (UInt8.not_lt.1 h2) (UInt8.not_lt.1 h1)
    simp [h3, UInt8.lt_irrefl, ih]
theorem bl_snoc : ∀ a b : List UInt8, Op.bytesLess a (b ++ [0]) = !Op.bytesLess b a
 | [], [] => rfl
 | [], _ :: _ => rfl
 | x :: a, [] => by
  have h : ¬ x < 0 := by rw [UInt8.lt_iff_toNat_lt]; exact Nat.not_lt_zero _
  cases a <;> simp [Op.bytesLess, h]
 | x :: a, y :: b => by
  have ih := bl_snoc a b
  simp only [List.cons_append, Op.bytesLess, ih]
  rcases Nat.lt_trichotomy x.toNat y.toNat with h | h | h
  ·have h1 : x < y := UInt8.lt_iff_toNat_lt.2 h
   have h4 : ¬ y < x := fun h => UInt8.lt_irrefl x (UInt8.lt_trans h1 h)
   have h3 : ¬ y = x := by rintro rfl; omega
   simp [h1, h4, h3]
  ·obtain rfl : x = y := UInt8.toNat_inj.1 h
   simp [UInt8.lt_irrefl]
  ·have h1 : y < x := UInt8.lt_iff_toNat_lt.2 h
   have h4 : ¬ x < y := fun h => UInt8.lt_irrefl x (UInt8.lt_trans h h1)
   have h3 : ¬ x = y := by rintro rfl; omega
   simp [h1, h4, h3]
end
section
open Go.RowKit
theorem toList_mk (l : List UInt8) : (⟨l.toArray⟩ : ByteArray).toList = l := by rw [ByteArray.toList_eq]
theorem le0 : (⟨#[]⟩ : ByteArray).toList = [] := toList_mk []
theorem z0 : zeroS.toList = [0] := toList_mk [0]
def place (v : Val) : Cut := (aroundC v).1
def pastC (s : ByteArray) : Cut := match pastR s.toList with
 | none => ⟨⟨#[]⟩, true⟩
 | some l => ⟨⟨l.toArray⟩, false⟩
def ofRaw (c : PCon) : List Span :=
 if c.op = 2 then [((aroundC c.val).1, (aroundC c.val).2)]
 else if c.op = 3 then [(firstC c.val.kind, (aroundC c.val).1), ((aroundC c.val).2, endC)]
 else if c.op = 4 then [(firstC c.val.kind, (aroundC c.val).1)]
 else if c.op = 5 then [(firstC c.val.kind, (aroundC c.val).2)]
 else if c.op = 6 then [((aroundC c.val).2, endC)]
 else if c.op = 7 then [((aroundC c.val).1, endC)]
 else if c.op = 8 then [((aroundC c.val).1, pastC c.val.str)]
 else []
def ofL (c : PCon) : List Span := (ofRaw c).filter fun s => lessC s.1 s.2
def I64V (v : Val) : Prop := -9223372036854775808 ≤ v.num ∧ v.num ≤ 9223372036854775807
theorem numS_less {a b : Int} (ha : -9223372036854775808 ≤ a) (ha' : a ≤ 9223372036854775807) (hb : -9223372036854775808 ≤ b) (hb' : b ≤ 9223372036854775807) : lessC ⟨numS (turnS a), false⟩ ⟨numS (turnS b), false⟩ = decide (a < b) := by
 unfold lessC strLt numS
 simp only [Bool.not_false, Bool.true_and, Bool.false_or, toList_mk]
 have h1 : turnS a < 18446744073709551616 := by unfold turnS; omega
 have h2 : turnS b < 18446744073709551616 := by unfold turnS; omega
 rw [eight_less _ _ h1 h2]
 congr 1
 unfold turnS
 apply propext
 constructor <;> intro h <;> omega
theorem lessC_end (s : ByteArray) : lessC ⟨s, false⟩ ⟨⟨#[]⟩, true⟩ = true := by simp [lessC]
theorem cmpZ_neg (a b : Int) : cmpZ a b < 0 ↔ a < b := by unfold cmpZ; split <;> (try split) <;> omega
theorem cmpZ_le (a b : Int) : cmpZ a b ≤ 0 ↔ a ≤ b := by unfold cmpZ; split <;> (try split) <;> omega
theorem str_neg (a b : ByteArray) : strZ a b < 0 ↔ strLt a b = true := by
 unfold strZ strLt
 rw [cmp_neg, ByteArray.toList_eq, ByteArray.toList_eq]
theorem str_pos (a b : ByteArray) : 0 < strZ a b ↔ strLt b a = true := by
 unfold strZ strLt
 rw [cmp_pos, ByteArray.toList_eq, ByteArray.toList_eq]
theorem kinds {v : Val} (h : v.ok = true) : v.kind = 1 ∨ v.kind = 2 ∨ v.kind = 3 := by
 unfold Val.ok at h
 by_cases h1 : v.kind = 1
 ·exact .inl h1
 ·by_cases h2 : v.kind = 2
  ·exact .inr (.inl h2)
  ·rw [if_neg h1, if_neg h2] at h
   simp only [Bool.and_eq_true, decide_eq_true_eq] at h
   exact .inr (.inr h.1.1)
theorem place_less {v c : Val} (hv : v.ok = true) (hk : v.kind = c.kind) (iv : I64V v) (ic : I64V c) : lessC (place v) (place c) = decide (valCmp v c < 0) := by
 unfold place aroundC valCmp
 rw [if_pos hk]
 rcases kinds hv with h | h | h
 ·have h' : c.kind = 1 := by omega
  simp only [h, h', if_true]
  rw [numS_less iv.1 iv.2 ic.1 ic.2]
  exact decide_eq_decide.2 (cmpZ_neg _ _).symm
 ·have h' : c.kind = 2 := by omega
  simp only [h, h', if_true, show ¬ (2 : Int) = 1 by decide, if_false]
  rw [Bool.eq_iff_iff, decide_eq_true_eq, str_neg]
  simp [lessC]
 ·have h' : c.kind = 3 := by omega
  simp only [h, h', if_true, show ¬ (3 : Int) = 1 by decide, show ¬ (3 : Int) = 2 by decide, if_false]
  obtain ⟨_, _, _, x⟩ := v
  obtain ⟨_, _, _, y⟩ := c
  cases x <;> cases y <;> simp [lessC, strLt, z0, Op.bytesLess, cmpZ, rankZ]
theorem place_behind {v c : Val} (hv : v.ok = true) (hk : v.kind = c.kind) (iv : I64V v) (ic : I64V c) : lessC (place v) (aroundC c).2 = decide (valCmp v c ≤ 0) := by
 unfold place aroundC valCmp
 rw [if_pos hk]
 rcases kinds hv with h | h | h
 ·have h' : c.kind = 1 := by omega
  simp only [h, h', if_true]
  by_cases hm : c.num = 9223372036854775807
  ·rw [if_pos hm, lessC_end]
   have := (cmpZ_le v.num c.num).2 (by have := iv.2; omega)
   exact (decide_eq_true this).symm
  ·rw [if_neg hm, numS_less iv.1 iv.2 (by have := ic.1; omega) (by have := ic.2; omega)]
   refine decide_eq_decide.2 ?_
   rw [cmpZ_le]
   omega
 ·have h' : c.kind = 2 := by omega
  simp only [h, h', if_true, show ¬ (2 : Int) = 1 by decide, if_false]
  have e : (c.str ++ zeroS).toList = c.str.toList ++ [0] := by rw [ByteArray.toList_eq, ByteArray.toList_eq]; simp [zeroS]
  have h2 : lessC ⟨v.str, false⟩ ⟨c.str ++ zeroS, false⟩ = !strLt c.str v.str := by
   unfold lessC strLt
   simp only [Bool.not_false, Bool.true_and, Bool.false_or, e, bl_snoc]
  rw [h2]
  have h3 := str_pos v.str c.str
  cases h4 : strLt c.str v.str
  ·rw [h4] at h3
   rw [decide_eq_true (show strZ v.str c.str ≤ 0 by have := fun h => (h3.1 h); by_cases h : 0 < strZ v.str c.str; exact absurd (this h) (by decide); omega)]
   rfl
  ·rw [decide_eq_false (show ¬ strZ v.str c.str ≤ 0 by have := h3.2 h4; omega)]
   rfl
 ·have h' : c.kind = 3 := by omega
  simp only [h, h', if_true, show ¬ (3 : Int) = 1 by decide, show ¬ (3 : Int) = 2 by decide, if_false]
  obtain ⟨_, _, _, x⟩ := v
  obtain ⟨_, _, _, y⟩ := c
  cases x <;> cases y <;> simp [lessC, strLt, z0, Op.bytesLess, cmpZ, rankZ]
theorem place_first {v : Val} (hv : v.ok = true) (iv : I64V v) : lessC (place v) (firstC v.kind) = false := by
 unfold place aroundC firstC
 rcases kinds hv with h | h | h
 ·simp only [h, if_true]
  have := numS_less iv.1 iv.2 (b := -9223372036854775808) (by decide) (by decide)
  rw [show turnS (-9223372036854775808) = 0 from rfl] at this
  rw [this]
  exact decide_eq_false (by have := iv.1; omega)
 ·simp only [h, if_true, show ¬ (2 : Int) = 1 by decide, if_false]
  have : ∀ l : List UInt8, Op.bytesLess l [] = false := fun l => by cases l <;> rfl
  simp [lessC, strLt, this, show (⟨#[]⟩ : ByteArray).toList = [] from toList_mk []]
 ·simp only [h, show ¬ (3 : Int) = 1 by decide, show ¬ (3 : Int) = 2 by decide, if_false]
  obtain ⟨_, _, _, x⟩ := v
  cases x <;> simp [lessC, strLt, z0, Op.bytesLess]
theorem place_end {v : Val} : lessC (place v) endC = true := by
 have h : (place v).e = false := by
  unfold place aroundC
  split
  ·rfl
  ·split
   ·rfl
   ·split <;> rfl
 unfold lessC endC
 rw [h]; rfl
theorem hasPre_eq (t s : ByteArray) : hasPre t s = s.toList.isPrefixOf t.toList := by
 have hl : ∀ b : ByteArray, b.toList.length = b.size := fun b => by rw [ByteArray.toList_eq]; simp
 have he : (t.extract 0 s.size).toList = t.toList.take s.size := by
  rw [ByteArray.toList_eq, ByteArray.toList_eq, ByteArray.data_extract, Array.toList_extract]
  simp
 unfold hasPre
 rw [he, Bool.eq_iff_iff, Bool.and_eq_true, decide_eq_true_eq, beq_iff_eq, List.isPrefixOf_iff_prefix, List.prefix_iff_eq_take, hl]
 constructor
 ·rintro ⟨_, h⟩; exact h.symm
 ·intro h
  refine ⟨?_, h.symm⟩
  have := congrArg List.length h
  rw [List.length_take, hl, hl] at this
  omega
theorem pastC_less (t : ByteArray) (s : ByteArray) : lessC ⟨t, false⟩ (pastC s) = pastLt t.toList (pastR s.toList) := by
 unfold pastC
 cases h : pastR s.toList with
 | none => simp [lessC, pastLt]
 | some l => simp [lessC, pastLt, strLt]
theorem inL_filter (x : Cut) (l : List Span) : inL x (l.filter fun s => lessC s.1 s.2) = inL x l := by
 induction l with
 | nil => rfl
 | cons s l ih =>
  unfold inL at ih ⊢
  rw [List.filter_cons]
  cases h : lessC s.1 s.2
  ·have : inS x s = false := by
    unfold inS
    cases h1 : lessC x s.1
    ·cases h2 : lessC x s.2
     ·rfl
     ·rcases lessC_part s.1 h2 with h3 | h3
      ·rw [h1] at h3; cases h3
      ·rw [h] at h3; cases h3
    ·rfl
   simp only [Bool.false_eq_true, if_false, List.any_cons, this, Bool.false_or]
   exact ih
  ·simp only [if_true, List.any_cons]
   rw [ih]
theorem ofL_law {c : PCon} {v : Val} (hv : v.ok = true) (hk : v.kind = c.val.kind) (iv : I64V v) (ic : I64V c.val) (h2 : 2 ≤ c.op) (h8 : c.op ≤ 8) (hp : c.op = 8 → c.val.kind = 2) : inL (place v) (ofL c) = asksV c v := by
 unfold ofL
 rw [inL_filter]
 have e1 := place_less hv hk iv ic
 have e2 := place_behind hv hk iv ic
 have e3 := place_first hv iv
 have e4 := @place_end v
 rw [hk] at e3
 have e0 : (v.kind == c.val.kind) = true := by rw [hk]; simp
 have hop : c.op = 2 ∨ c.op = 3 ∨ c.op = 4 ∨ c.op = 5 ∨ c.op = 6 ∨ c.op = 7 ∨ c.op = 8 := by omega
 unfold ofRaw asksV inL inS
 change lessC (place v) (aroundC c.val).1 = _ at e1
 rcases hop with h | h | h | h | h | h | h
 ·simp only [h, if_true, show ¬ (2 : Int) = 1 by decide, if_false, List.any_cons, List.any_nil, e1, e2, e0, Bool.or_false, Bool.true_and]
  rw [Bool.eq_iff_iff]
  simp
  omega
 ·simp only [h, if_true, show ¬ (3 : Int) = 1 by decide, show ¬ (3 : Int) = 2 by decide, if_false, List.any_cons, List.any_nil, e1, e2, e3, e4, e0, Bool.or_false, Bool.true_and, Bool.not_false, Bool.and_true]
  rw [Bool.eq_iff_iff]
  simp
  omega
 ·simp only [h, if_true, show ¬ (4 : Int) = 1 by decide, show ¬ (4 : Int) = 2 by decide, show ¬ (4 : Int) = 3 by decide, if_false, List.any_cons, List.any_nil, e1, e3, e0, Bool.or_false, Bool.true_and, Bool.not_false]
 ·simp only [h, if_true, show ¬ (5 : Int) = 1 by decide, show ¬ (5 : Int) = 2 by decide, show ¬ (5 : Int) = 3 by decide, show ¬ (5 : Int) = 4 by decide, if_false, List.any_cons, List.any_nil, e2, e3, e0, Bool.or_false, Bool.true_and, Bool.not_false]
 ·simp only [h, if_true, show ¬ (6 : Int) = 1 by decide, show ¬ (6 : Int) = 2 by decide, show ¬ (6 : Int) = 3 by decide, show ¬ (6 : Int) = 4 by decide, show ¬ (6 : Int) = 5 by decide, if_false, List.any_cons, List.any_nil, e2, e4, e0, Bool.or_false, Bool.true_and, Bool.and_true]
  rw [Bool.eq_iff_iff]
  simp
 ·simp only [h, if_true, show ¬ (7 : Int) = 1 by decide, show ¬ (7 : Int) = 2 by decide, show ¬ (7 : Int) = 3 by decide, show ¬ (7 : Int) = 4 by decide, show ¬ (7 : Int) = 5 by decide, show ¬ (7 : Int) = 6 by decide, if_false, List.any_cons, List.any_nil, e1, e4, e0, Bool.or_false, Bool.true_and, Bool.and_true]
  rw [Bool.eq_iff_iff]
  simp
 ·have k2 := hp h
  have k1 : v.kind = 2 := by omega
  simp only [h, if_true, show ¬ (8 : Int) = 1 by decide, show ¬ (8 : Int) = 2 by decide, show ¬ (8 : Int) = 3 by decide, show ¬ (8 : Int) = 4 by decide, show ¬ (8 : Int) = 5 by decide, show ¬ (8 : Int) = 6 by decide, show ¬ (8 : Int) = 7 by decide, if_false, List.any_cons, List.any_nil, k1, k2, Bool.or_false, Bool.true_and, beq_self_eq_true]
  have hpl : place v = ⟨v.str, false⟩ := by unfold place aroundC; simp [k1]
  have hcl : (aroundC c.val).1 = ⟨c.val.str, false⟩ := by unfold aroundC; simp [k2]
  rw [hpl, hcl, pastC_less, hasPre_eq, ← past_law]
  simp [lessC, strLt]
end
section
open Go.RowKit
def oneR (k : Int) (l : List Span) : Rg := ⟨if k = 1 then l else [], if k = 2 then l else [], if k = 3 then l else [], false⟩
def eqC (v : Val) : PCon := ⟨⟨#[]⟩, 2, v, []⟩
def restR (set : List Val) (r : Rg) : Rg := set.foldl (fun r v => minusR r (oneR v.kind (ofL (eqC v)))) r
def OfR (c : PCon) : Rg := if c.op = 1 then allR else if c.op = 9 then minusR allR (restR c.set allR) else oneR c.val.kind (ofL c)
structure ConP (c : PCon) : Prop where
 lo : 1 ≤ c.op
 hi : c.op ≤ 9
 val : 2 ≤ c.op → c.op ≤ 8 → c.val.ok = true ∧ I64V c.val ∧ (c.op = 8 → c.val.kind = 2)
 set : c.op = 9 → c.set.length ≤ 8 ∧ ∀ y ∈ c.set, y.ok = true ∧ I64V y
def kix (v : Val) : Nat := (v.kind - 1).toNat
theorem one_of {v : Val} (hv : v.ok = true) (k : Int) (hk : k = 1 ∨ k = 2 ∨ k = 3) (l : List Span) : (oneR k l).of (kix v) = if k = v.kind then l else [] := by
 unfold oneR Rg.of kix
 rcases kinds hv with h | h | h <;> rcases hk with rfl | rfl | rfl <;> simp [h]
theorem all_in {v : Val} (hv : v.ok = true) (iv : I64V v) : inR allR (kix v) (place v) = true := by
 have h1 := place_first hv iv
 have h2 := @place_end v
 unfold inR allR Rg.of kix
 rcases kinds hv with h | h | h <;> rw [h] at h1 <;> simp [h, inL, inS, h1, h2]
theorem eq_asks (v y : Val) : asksV (eqC y) v = (valCmp v y == 0) := by
 unfold asksV eqC
 simp only [show ¬ (2 : Int) = 1 by decide, if_false, if_true]
 cases h : (valCmp v y == 0)
 ·simp
 ·have : v.kind = y.kind := valCmp_kind (by simpa using h)
  simp [this]
theorem one_in {v y : Val} (hv : v.ok = true) (iv : I64V v) (hy : y.ok = true) (iy : I64V y) : inR (oneR y.kind (ofL (eqC y))) (kix v) (place v) = (valCmp v y == 0) := by
 unfold inR
 rw [one_of hv _ (kinds hy)]
 by_cases h : y.kind = v.kind
 ·rw [if_pos h, ofL_law (c := eqC y) hv h.symm iv iy (show (2 : Int) ≤ 2 by decide) (show (2 : Int) ≤ 8 by decide) (fun h => by have : (2 : Int) = 8 := h; omega), eq_asks]
 ·rw [if_neg h]
  have : ¬ valCmp v y = 0 := fun e => h (valCmp_kind e).symm
  simp [inL, this]
theorem rest_in {v : Val} (hv : v.ok = true) (iv : I64V v) : ∀ (set : List Val) (r : Rg), (∀ y ∈ set, y.ok = true ∧ I64V y) → inR (restR set r) (kix v) (place v) = (inR r (kix v) (place v) && !set.any fun y => valCmp v y == 0)
 | [], r, _ => by simp [restR]
 | y :: set, r, h => by
  have hy := h y (List.mem_cons_self ..)
  have ih := rest_in hv iv set (minusR r (oneR y.kind (ofL (eqC y)))) (fun z hz => h z (List.mem_cons_of_mem _ hz))
  unfold restR at ih ⊢
  rw [List.foldl_cons, ih, minusR_law, one_in hv iv hy.1 hy.2, List.any_cons]
  cases inR r (kix v) (place v) <;> cases (valCmp v y == 0) <;> simp
theorem OfR_law {c : PCon} (hc : ConP c) {v : Val} (hv : v.ok = true) (iv : I64V v) : inR (OfR c) (kix v) (place v) = asksV c v := by
 unfold OfR
 by_cases h1 : c.op = 1
 ·rw [if_pos h1, all_in hv iv]
  unfold asksV
  rw [if_pos h1]
 ·rw [if_neg h1]
  by_cases h9 : c.op = 9
  ·rw [if_pos h9, minusR_law, all_in hv iv, rest_in hv iv c.set allR (hc.set h9).2, all_in hv iv]
   unfold asksV
   simp [h9]
  ·rw [if_neg h9]
   have h2 : 2 ≤ c.op := by have := hc.lo; omega
   have h8 : c.op ≤ 8 := by have := hc.hi; omega
   obtain ⟨g1, g2, g3⟩ := hc.val h2 h8
   unfold inR
   rw [one_of hv _ (kinds g1)]
   by_cases hk : c.val.kind = v.kind
   ·rw [if_pos hk, ofL_law hv hk.symm iv g2 h2 h8 g3]
   ·rw [if_neg hk]
    have e0 : (v.kind == c.val.kind) = false := by rw [beq_eq_false_iff_ne]; exact fun e => hk e.symm
    unfold asksV
    have hop : c.op = 2 ∨ c.op = 3 ∨ c.op = 4 ∨ c.op = 5 ∨ c.op = 6 ∨ c.op = 7 ∨ c.op = 8 := by omega
    rcases hop with h | h | h | h | h | h | h
    all_goals simp only [h, e0]
    all_goals try simp [inL]
    have k2 := g3 h
    have : ¬ v.kind = 2 := fun e => hk (by rw [k2, e])
    simp [this]
theorem rise_nil : Rise [] := ⟨fun _ h => (by cases h), List.Pairwise.nil⟩
theorem lo_hi {v : Val} (hv : v.ok = true) (iv : I64V v) : lessC (aroundC v).1 (aroundC v).2 = true := by
 have := place_behind hv rfl iv iv
 rw [valCmp_self] at this
 exact this
theorem ofL_rise {c : PCon} (h : 2 ≤ c.op → c.op ≤ 8 → c.val.ok = true ∧ I64V c.val) (h2 : 2 ≤ c.op) (h8 : c.op ≤ 8) : Rise (ofL c) ∧ (ofL c).length ≤ 2 := by
 obtain ⟨g1, g2⟩ := h h2 h8
 have hr : (ofRaw c).length ≤ 2 := by
  unfold ofRaw
  repeat' split
  all_goals simp
 refine ⟨⟨fun s hs => (List.mem_filter.1 hs).2, ?_⟩, Nat.le_trans (List.length_filter_le _ _) hr⟩
 unfold ofL
 refine List.Pairwise.filter _ ?_
 unfold ofRaw
 repeat' split
 all_goals try exact List.pairwise_singleton _ _
 all_goals try exact List.Pairwise.nil
 refine List.pairwise_cons.2 ⟨fun b hb => ?_, List.pairwise_singleton _ _⟩
 obtain rfl := List.mem_singleton.1 hb
 exact asymC (lo_hi g1 g2)
theorem oneR_ok {k : Int} {l : List Span} {n : Nat} (h : Rise l) (hl : l.length ≤ n) : (oneR k l).ok n := by
 unfold oneR Rg.ok
 refine ⟨?_, ?_, ?_⟩ <;> (simp only; split) <;> first | exact ⟨h, hl⟩ | exact ⟨rise_nil, Nat.zero_le _⟩
theorem first_end (k : Int) : lessC (firstC k) endC = true := by unfold firstC; split <;> rfl
theorem allR_ok : allR.ok 1 := by
 have h : ∀ k, Rise [(firstC k, endC)] := fun k => ⟨fun s hs => by obtain rfl := List.mem_singleton.1 hs; exact first_end k, List.pairwise_singleton _ _⟩
 exact ⟨⟨h 1, Nat.le_refl _⟩, ⟨h 2, Nat.le_refl _⟩, ⟨h 3, Nat.le_refl _⟩⟩
theorem restR_ok : ∀ (set : List Val) (r : Rg) (n : Nat), (∀ y ∈ set, y.ok = true ∧ I64V y) → r.ok n → (restR set r).ok (n + 2 * set.length)
 | [], r, n, _, hr => hr
 | y :: set, r, n, h, hr => by
  have hy := h y (List.mem_cons_self ..)
  have ho := ofL_rise (c := eqC y) (fun _ _ => hy) (show (2 : Int) ≤ 2 by decide) (show (2 : Int) ≤ 8 by decide)
  have ih := restR_ok set _ (n + 2) (fun z hz => h z (List.mem_cons_of_mem _ hz)) (minusR_ok hr (oneR_ok (k := y.kind) ho.1 ho.2))
  have e : n + 2 * (y :: set).length = n + 2 + 2 * set.length := by simp only [List.length_cons]; omega
  rw [e]
  exact ih
theorem OfR_ok {c : PCon} (hc : ConP c) : (OfR c).ok 20 := by
 unfold OfR
 split
 ·exact allR_ok.le (by decide)
 ·split
  ·rename_i h9
   obtain ⟨h1, h2⟩ := hc.set h9
   exact (minusR_ok allR_ok (restR_ok c.set allR 1 h2 allR_ok)).le (by omega)
  ·rename_i n1 n9
   have h2 : 2 ≤ c.op := by have := hc.lo; omega
   have h8 : c.op ≤ 8 := by have := hc.hi; omega
   have ho := ofL_rise (c := c) (fun a b => ⟨(hc.val a b).1, (hc.val a b).2.1⟩) h2 h8
   exact oneR_ok ho.1 (Nat.le_trans ho.2 (by decide))
end
end Go.Proofs.YtehmlaplodjenaaGreat
