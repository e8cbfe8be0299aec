/- DERIVED. Chapter 21: maps that a call makes, at constant keys; msg.parts. · DERIVED. The document's order of values: when it says 0. -/
import Derived.Test.YtehmlaplodjenaaGreatYpTopDual01
import Derived.Test.YtehmlaplodjenaaGreatYpTopDual02
import Derived.Great.Walk
import Derived.MapKept
import Derived.Deep.DeepCutAuto
import Derived.Test.YtehmlaplodjenaaGreatYpTopDual05
import Derived.Test.YtehmlaplodjenaaGreatYpTopDual04
import Derived.Lib.Bytealg
set_option maxRecDepth 100000
set_option maxHeartbeats 4000000
namespace Go.Proofs.YtehmlaplodjenaaGreat
section
open Go.RowKit Go.Great
def intL (z : Int) : List Value := [.int .i64 z]
end
section
open Go.RowKit
theorem arr_ext {s t : ByteArray} (h : s.toList = t.toList) : s = t := by
 rw [ByteArray.toList_eq, ByteArray.toList_eq] at h
 obtain ⟨⟨a⟩⟩ := s
 obtain ⟨⟨b⟩⟩ := t
 simp at h
 rw [h]
theorem bytes_eq {s t : ByteArray} : (s == t) = true ↔ s = t := by
 obtain ⟨⟨a⟩⟩ := s
 obtain ⟨⟨b⟩⟩ := t
 show (Array.instBEq.beq _ _) = true ↔ _
 simp
end
section
open Go.RowKit
end
section
open Go.RowKit
def sameI (x y : PIt) : Bool := (x.n == y.n) && ((x.time == y.time) && sameE x.key x.es y.key y.es)
end
section
open Go.RowKit
end
section
open Go.RowKit
theorem eqAt_iff (a b : At) : eqAt a b = true ↔ a = b := by
 obtain ⟨x, ⟨k, n, s, t⟩⟩ := a
 obtain ⟨x', ⟨k', n', s', t'⟩⟩ := b
 unfold eqAt
 simp only [Bool.and_eq_true, bytes_eq, beq_iff_eq, At.mk.injEq, Val.mk.injEq]
theorem sameE_iff (k k' : ByteArray) (l m : List At) : sameE k l k' m = true ↔ k = k' ∧ l = m := by
 unfold sameE sameL
 simp only [Bool.and_eq_true, beq_iff_eq, decide_eq_true_eq, List.all_eq_true, List.mem_range]
 constructor
 ·rintro ⟨h1, h2, h3⟩
  refine ⟨arr_ext h1, List.ext_getElem h2 (fun i g1 g2 => ?_)⟩
  have h := h3 i g1
  unfold sameAt at h
  rw [List.getElem?_eq_getElem g1, List.getElem?_eq_getElem g2] at h
  exact (eqAt_iff _ _).1 h
 ·rintro ⟨rfl, rfl⟩
  refine ⟨rfl, rfl, fun i hi => ?_⟩
  unfold sameAt
  rw [List.getElem?_eq_getElem hi]
  exact (eqAt_iff _ _).2 rfl
theorem sameI_iff (x y : PIt) : sameI x y = true ↔ x = y := by
 obtain ⟨n, tm, k, es⟩ := x
 obtain ⟨n', tm', k', es'⟩ := y
 unfold sameI
 simp only [Bool.and_eq_true, beq_iff_eq, sameE_iff, PIt.mk.injEq]
theorem take_next {α : Type} {l m : List α} {i : Nat} (h : l.take i = m.take i) {x : α} (hx : l[i]? = some x) (hy : m[i]? = some x) : l.take (i + 1) = m.take (i + 1) := by
 rw [List.take_add_one, List.take_add_one, h, hx, hy]
end
section
open Go.RowKit
instance : DecidableEq At := fun a b => if h : eqAt a b = true then isTrue ((eqAt_iff a b).1 h) else isFalse fun e => h ((eqAt_iff a b).2 e)
end
section
open Go.RowKit
instance : DecidableEq PIt := fun a b => if h : sameI a b = true then isTrue ((sameI_iff a b).1 h) else isFalse fun e => h ((sameI_iff a b).2 e)
end
section
open Go.RowKit
end
section
open Go.RowKit
def cmpZ (x y : Int) : Int := if x < y then -1 else if y < x then 1 else 0
theorem cmpZ_zero {x y : Int} : cmpZ x y = 0 ↔ x = y := by unfold cmpZ; split <;> (try split) <;> omega
theorem compareBytes_zero : ∀ (a b : List UInt8), Lib.compareBytes a b = 0 ↔ a = b
 | [], [] => by simp [Lib.compareBytes]
 | [], _ :: _ => by simp [Lib.compareBytes]
 | _ :: _, [] => by simp [Lib.compareBytes]
 | x :: a, y :: b => by
  unfold Lib.compareBytes
  by_cases h : x < y
  ·simp only [h, if_true, List.cons.injEq]
   constructor
   ·intro e; simp at e
   ·rintro ⟨rfl, _⟩; exact absurd h (UInt8.lt_irrefl _)
  ·by_cases h2 : y < x
   ·simp only [h, h2, if_true, if_false, List.cons.injEq]
    constructor
    ·intro e; simp at e
    ·rintro ⟨rfl, _⟩; exact absurd h2 (UInt8.lt_irrefl _)
   ·have e : x = y := UInt8.le_antisymm (UInt8.not_lt.1 h2) (UInt8.not_lt.1 h)
    subst e
    simp only [UInt8.lt_irrefl, if_false, List.cons.injEq, true_and]
    exact compareBytes_zero a b
def strZ (a b : ByteArray) : Int := Lib.compareBytes a.data.toList b.data.toList
theorem strZ_zero {a b : ByteArray} : strZ a b = 0 ↔ a = b := by
 unfold strZ
 rw [compareBytes_zero]
 obtain ⟨⟨la⟩⟩ := a
 obtain ⟨⟨lb⟩⟩ := b
 simp
theorem isnan_int_any (x : Int) (w : World) : Calls Tryz.prog 147 #[.int .i64 x] w fun e w' => e = .returned (.bool false) ∧ w = w' := by
 have t : (x != x) = false := by simp
 go_enter Tryz.func147, Tryz.ntmps147
 go_wp2_with fail
 go_ret
 exact ⟨rfl, rfl⟩
theorem cmp_int_any (x y : Int) (w : World) : Calls Tryz.prog 92 #[.int .i64 x, .int .i64 y] w fun e w' => e = .returned (.int .i64 (cmpZ x y)) ∧ w = w' := by
 have N := Lib.hid (fun z W => isnan_int_any z W)
 by_cases h1 : x < y
 ·have t1 : decide (x < y) = true := decide_eq_true h1
  have e : cmpZ x y = -1 := by unfold cmpZ; rw [if_pos h1]
  rw [e]
  clear h1 e
  go_enter Tryz.func92, Tryz.ntmps92
  go_wp2_with fail
  refine (N.out _ _).mono ?_
  rintro e w1 ⟨rfl, rfl⟩
  go_wp2_with fail
  refine (N.out _ _).mono ?_
  rintro e w1 ⟨rfl, rfl⟩
  go_wp2_with fail
  go_ret
  exact ⟨rfl, rfl⟩
 ·have t1 : decide (x < y) = false := decide_eq_false h1
  by_cases h2 : y < x
  ·have t2 : decide (y < x) = true := decide_eq_true h2
   have e : cmpZ x y = 1 := by unfold cmpZ; rw [if_neg h1, if_pos h2]
   rw [e]
   clear h1 h2 e
   go_enter Tryz.func92, Tryz.ntmps92
   go_wp2_with fail
   refine (N.out _ _).mono ?_
   rintro e w1 ⟨rfl, rfl⟩
   go_wp2_with fail
   refine (N.out _ _).mono ?_
   rintro e w1 ⟨rfl, rfl⟩
   go_wp2_with fail
   go_ret
   exact ⟨rfl, rfl⟩
  ·have t2 : decide (y < x) = false := decide_eq_false h2
   have e : cmpZ x y = 0 := by unfold cmpZ; rw [if_neg h1, if_neg h2]
   rw [e]
   clear h1 h2 e
   go_enter Tryz.func92, Tryz.ntmps92
   go_wp2_with fail
   refine (N.out _ _).mono ?_
   rintro e w1 ⟨rfl, rfl⟩
   go_wp2_with fail
   refine (N.out _ _).mono ?_
   rintro e w1 ⟨rfl, rfl⟩
   go_wp2_with fail
   go_ret
   exact ⟨rfl, rfl⟩
theorem isnan_i64_any (x : Int) (w : World) : Calls Tryz.prog 148 #[.int .i64 x] w fun e w' => e = .returned (.bool false) ∧ w = w' := by
 have t : (x != x) = false := by simp
 go_enter Tryz.func148, Tryz.ntmps148
 go_wp2_with fail
 go_ret
 exact ⟨rfl, rfl⟩
theorem cmp_i64_any (x y : Int) (w : World) : Calls Tryz.prog 93 #[.int .i64 x, .int .i64 y] w fun e w' => e = .returned (.int .i64 (cmpZ x y)) ∧ w = w' := by
 have N := Lib.hid (fun z W => isnan_i64_any z W)
 by_cases h1 : x < y
 ·have t1 : decide (x < y) = true := decide_eq_true h1
  have e : cmpZ x y = -1 := by unfold cmpZ; rw [if_pos h1]
  rw [e]
  clear h1 e
  go_enter Tryz.func93, Tryz.ntmps93
  go_wp2_with fail
  refine (N.out _ _).mono ?_
  rintro e w1 ⟨rfl, rfl⟩
  go_wp2_with fail
  refine (N.out _ _).mono ?_
  rintro e w1 ⟨rfl, rfl⟩
  go_wp2_with fail
  go_ret
  exact ⟨rfl, rfl⟩
 ·have t1 : decide (x < y) = false := decide_eq_false h1
  by_cases h2 : y < x
  ·have t2 : decide (y < x) = true := decide_eq_true h2
   have e : cmpZ x y = 1 := by unfold cmpZ; rw [if_neg h1, if_pos h2]
   rw [e]
   clear h1 h2 e
   go_enter Tryz.func93, Tryz.ntmps93
   go_wp2_with fail
   refine (N.out _ _).mono ?_
   rintro e w1 ⟨rfl, rfl⟩
   go_wp2_with fail
   refine (N.out _ _).mono ?_
   rintro e w1 ⟨rfl, rfl⟩
   go_wp2_with fail
   go_ret
   exact ⟨rfl, rfl⟩
  ·have t2 : decide (y < x) = false := decide_eq_false h2
   have e : cmpZ x y = 0 := by unfold cmpZ; rw [if_neg h1, if_neg h2]
   rw [e]
   clear h1 h2 e
   go_enter Tryz.func93, Tryz.ntmps93
   go_wp2_with fail
   refine (N.out _ _).mono ?_
   rintro e w1 ⟨rfl, rfl⟩
   go_wp2_with fail
   refine (N.out _ _).mono ?_
   rintro e w1 ⟨rfl, rfl⟩
   go_wp2_with fail
   go_ret
   exact ⟨rfl, rfl⟩
theorem cmpstr_in_any (a b : ByteArray) (w : World) : Calls Tryz.prog 149 #[.string a, .string b] w fun e w' => e = .returned (.int .i64 (strZ a b)) ∧ w = w' := by
 go_enter Tryz.func149, Tryz.ntmps149
 go_wp2_with fail
 rw [run_callFunc_extern Tryz.func187 (by kernel_rfl) (by kernel_rfl) (by kernel_rfl) (e := Extern.BytealgCompare.compare) (by kernel_rfl), Lib.run_compareString]
 simp only [Result.andThen]
 rw [Oper.upon_value]
 go_wp2_with fail
 go_ret
 exact ⟨rfl, rfl⟩
theorem cmp_str_any (a b : ByteArray) (w : World) : Calls Tryz.prog 94 #[.string a, .string b] w fun e w' => e = .returned (.int .i64 (strZ a b)) ∧ w = w' := by
 have C := Lib.hid (cmpstr_in_any a b w)
 go_enter Tryz.func94, Tryz.ntmps94
 go_wp2_with fail
 refine C.out.mono ?_
 rintro e w1 ⟨rfl, rfl⟩
 go_wp2_with fail
 go_ret
 exact ⟨rfl, rfl⟩
theorem or_int_any (v : Value) (l : List Int) (w : World) (h : SeesR w 1 intL v l) :
  Calls Tryz.prog 160 #[v] w fun e w' => (∃ z : Int, e = .returned (.int .i64 z) ∧ (z = 0 ↔ ∀ x ∈ l, x = 0)) ∧ Old w w' := by
 obtain ⟨p, c, rfl, hb1, hb2⟩ := h.len
 have hmm : l.length ≤ 9223372036854775807 := by unfold maxLen at hb2; omega
 clear hb1 hb2
 have H := Lib.hid h
 clear h
 go_enter Tryz.func160, Tryz.ntmps160
 go_wp2_with fail
 go_loopw [5, 8] (fun _ v8 wr => ∃ i : Nat, i ≤ l.length ∧ v8 = .int .i64 i ∧ (∀ j, j < i → l[j]? = some 0) ∧ Old w wr) (fun _ v8 _ => l.length - (intOf v8).toNat)
 case atStart => exact ⟨0, by omega, rfl, fun j hj => by omega, Keeps.refl _ _⟩
 case round =>
  obtain ⟨i, hi, rfl, hr, hk⟩ := hrel
  have HR := Lib.hid (And.intro hr hk)
  by_cases hlt : i < l.length
  ·obtain ⟨b, o, cc, he, _, _, hc⟩ := H.out.at (by omega)
   simp only [Value.slice.injEq, true_and] at he
   obtain ⟨rfl, rfl⟩ := he
   obtain ⟨x, hx⟩ : ∃ x, l[i]? = some x := ⟨_, List.getElem?_eq_getElem hlt⟩
   have x0 := hk.cell (hc i x hx 0 _ rfl) (fun f => f)
   simp only [Nat.add_zero, Nat.mul_one] at x0
   have i1 : (0 : Int) ≤ (i : Int) := by omega
   have i2 : (i : Int) < (l.length : Int) := by omega
   have HX := Lib.hid hx
   clear hr hk hc hx
   by_cases hkx : x = 0
   ·have t : (x != 0) = false := by rw [bne_eq_false_iff_eq]; exact hkx
    have HK := Lib.hid hkx
    clear hkx
    go_wp2_with fail
    go_roundw
    case rel =>
     refine ⟨i + 1, by omega, by go_num, fun j hj => ?_, HR.out.2⟩
     rcases Nat.lt_or_ge j i with h | h
     ·exact HR.out.1 j h
     ·obtain rfl : j = i := by omega
      rw [HX.out, HK.out]
    case measure => simp [intOf]; omega
   ·have t : (x != 0) = true := by rw [bne_iff_ne]; exact hkx
    have HK := Lib.hid hkx
    clear hkx
    go_wp2_with fail
    go_ret
    exact ⟨⟨x, rfl, ⟨fun h => absurd h HK.out, fun h => h x (List.mem_of_getElem? HX.out)⟩⟩, HR.out.2⟩
  ·clear hr hk
   go_wp2_with fail
   go_ret
   refine ⟨⟨0, rfl, ⟨fun _ x hx => ?_, fun _ => rfl⟩⟩, HR.out.2⟩
   obtain ⟨j, hj⟩ := List.mem_iff_getElem?.1 hx
   have := HR.out.1 j (by have := (List.getElem?_eq_some_iff.1 hj).1; omega)
   rw [hj] at this
   simpa using this
def rankZ (b : Bool) : Int := if b then 1 else 0
theorem rank_any (b : Bool) (w : World) : Calls Tryz.prog 95 #[.bool b] w fun e w' => e = .returned (.int .i64 (rankZ b)) ∧ w = w' := by
 cases b
 all_goals
  go_enter Tryz.func95, Tryz.ntmps95
  go_wp2_with fail
  go_ret
  exact ⟨rfl, rfl⟩
def valCmp (a b : Val) : Int := if a.kind = b.kind then (if a.kind = 1 then cmpZ a.num b.num else if a.kind = 2 then strZ a.str b.str else if a.kind = 3 then cmpZ (rankZ a.is) (rankZ b.is) else 0) else cmpZ a.kind b.kind
theorem valCmp_kind {a b : Val} (h : valCmp a b = 0) : a.kind = b.kind := by
 unfold valCmp at h
 by_cases e : a.kind = b.kind
 ·exact e
 ·rw [if_neg e, cmpZ_zero] at h; exact h
theorem valCmp_self (a : Val) : valCmp a a = 0 := by
 unfold valCmp
 rw [if_pos rfl]
 split
 ·exact cmpZ_zero.2 rfl
 ·split
  ·exact strZ_zero.2 rfl
  ·split
   ·exact cmpZ_zero.2 rfl
   ·rfl
theorem valCmp_truth {x y : Bool} (h : valCmp ⟨3, 0, ⟨#[]⟩, x⟩ ⟨3, 0, ⟨#[]⟩, y⟩ = 0) : x = y := by
 unfold valCmp at h
 simp only [if_true] at h
 rw [if_neg (by decide), if_neg (by decide), cmpZ_zero] at h
 cases x <;> cases y <;> simp_all [rankZ]
theorem val_cmp_any (a a' : Val) (w : World) : Calls Tryz.prog 46 #[.agg a.cells, .agg a'.cells] w fun e w' => e = .returned (.int .i64 (valCmp a a')) ∧ Old w w' := by
 obtain ⟨k, n, s, b⟩ := a
 obtain ⟨k', n', s', b'⟩ := a'
 have C := fun w => has_any ⟨k, n, s, b⟩ w
 unfold Val.cells at C ⊢
 unfold valCmp
 simp only at C ⊢
 obtain ⟨W0, hW0⟩ : ∃ W0, (w.alloc (.cells #[.int .i64 k, .int .i64 n, .string s, .bool b] 61)).alloc (.cells #[.int .i64 k', .int .i64 n', .string s', .bool b'] 61) = W0 := ⟨_, rfl⟩
 have k0 : Old w W0 := by rw [← hW0]; exact ((Keeps.refl _ _).alloc _).alloc _
 obtain ⟨b0, b1⟩ := two_blocks w (.cells #[.int .i64 k, .int .i64 n, .string s, .bool b] 61) (.cells #[.int .i64 k', .int .i64 n', .string s', .bool b'] 61)
 rw [hW0] at b0 b1
 have g0 := blk4 b0
 have g1 := blk4 b1
 have B := Lib.hid (And.intro k0 (And.intro b0 b1))
 clear k0 b0 b1
 by_cases hk : k = k'
 case neg =>
  have t : (k != k') = true := by rw [bne_iff_ne]; exact hk
  rw [if_neg hk]
  clear hk C
  go_enter Tryz.func46, Tryz.ntmps46
  go_wp2_with fail
  refine (cmp_int_any _ _ _).mono ?_
  rintro e w1 ⟨rfl, rfl⟩
  go_wp2_with fail
  go_ret
  exact ⟨rfl, B.out.1⟩
 subst hk
 have t : (k != k) = false := by simp
 rw [if_pos rfl]
 by_cases h1 : k = 1
 ·subst h1
  simp only [if_true] at C ⊢
  have CC := Lib.hid C
  clear C
  have ta_int64 : ∀ W, (Instr.typeAssert (.iface 2 (.int .i64 n)) 20 2 true).run Tryz.prog W = .ok (.tuple #[.int .i64 n, .bool true]) W := fun W => rfl
  go_enter Tryz.func46, Tryz.ntmps46
  go_wp2_with fail
  refine (CC.out _).mono ?_
  rintro e w1 ⟨rfl, k1⟩
  have K := Lib.hid (B.out.1.trans k1)
  have m0 := (k1.block _ (lt_of_heap B.out.2.1) (fun f => f)).trans B.out.2.1
  have m1 := (k1.block _ (lt_of_heap B.out.2.2) (fun f => f)).trans B.out.2.2
  clear g0 g1
  have g0 := blk4 m0
  have g1 := blk4 m1
  clear k1 m0 m1 CC
  go_wp2_with fail
  refine (cmp_i64_any _ _ _).mono ?_
  rintro e w2 ⟨rfl, rfl⟩
  go_wp2_with fail
  go_ret
  exact ⟨rfl, K.out⟩
 by_cases h2 : k = 2
 ·subst h2
  simp only [h1, if_true, if_false] at C ⊢
  have CC := Lib.hid C
  clear C
  have ta_int64 : ∀ W, (Instr.typeAssert (.iface 9 (.string s)) 20 2 true).run Tryz.prog W = .ok (.tuple #[.int .i64 0, .bool false]) W := fun W => rfl
  have ta_string : ∀ W, (Instr.typeAssert (.iface 9 (.string s)) 20 9 true).run Tryz.prog W = .ok (.tuple #[.string s, .bool true]) W := fun W => rfl
  go_enter Tryz.func46, Tryz.ntmps46
  go_wp2_with fail
  refine (CC.out _).mono ?_
  rintro e w1 ⟨rfl, k1⟩
  have K := Lib.hid (B.out.1.trans k1)
  have m0 := (k1.block _ (lt_of_heap B.out.2.1) (fun f => f)).trans B.out.2.1
  have m1 := (k1.block _ (lt_of_heap B.out.2.2) (fun f => f)).trans B.out.2.2
  clear g0 g1
  have g0 := blk4 m0
  have g1 := blk4 m1
  clear k1 m0 m1 CC
  go_wp2_with fail
  refine (cmp_str_any _ _ _).mono ?_
  rintro e w2 ⟨rfl, rfl⟩
  go_wp2_with fail
  go_ret
  exact ⟨rfl, K.out⟩
 by_cases h3 : k = 3
 ·subst h3
  simp only [h1, h2, if_true, if_false] at C ⊢
  have CC := Lib.hid C
  clear C
  have ta_int64 : ∀ W, (Instr.typeAssert (.iface 4 (.bool b)) 20 2 true).run Tryz.prog W = .ok (.tuple #[.int .i64 0, .bool false]) W := fun W => rfl
  have ta_string : ∀ W, (Instr.typeAssert (.iface 4 (.bool b)) 20 9 true).run Tryz.prog W = .ok (.tuple #[.string ⟨#[]⟩, .bool false]) W := fun W => rfl
  have ta_bool : ∀ W, (Instr.typeAssert (.iface 4 (.bool b)) 20 4 true).run Tryz.prog W = .ok (.tuple #[.bool b, .bool true]) W := fun W => rfl
  go_enter Tryz.func46, Tryz.ntmps46
  go_wp2_with fail
  refine (CC.out _).mono ?_
  rintro e w1 ⟨rfl, k1⟩
  have K := Lib.hid (B.out.1.trans k1)
  have m0 := (k1.block _ (lt_of_heap B.out.2.1) (fun f => f)).trans B.out.2.1
  have m1 := (k1.block _ (lt_of_heap B.out.2.2) (fun f => f)).trans B.out.2.2
  clear g0 g1
  have g0 := blk4 m0
  have g1 := blk4 m1
  have y0 := OldOf.cell g1.1.1
  have y1 := OldOf.cell g1.1.2.1
  have y2 := OldOf.cell g1.1.2.2.1
  have y3 := OldOf.cell g1.1.2.2.2
  clear k1 m0 m1 CC
  go_wp2_with fail
  refine wp_region_quiet_old (by kernel_rfl) (by kernel_rfl) ?_
  repeat (go_big_quiet_step (((first | (go_at_call 95; exact Calls.quiet_of_old ((rank_any _ _).mono (fun _ _ h => ⟨h.1, h.2 ▸ Keeps.refl _ _⟩))) | (go_at_call 92; exact Calls.quiet_of_old ((cmp_int_any _ _ _).mono (fun _ _ h => ⟨h.1, h.2 ▸ Keeps.refl _ _⟩)))))))
  refine wpQuiet_nil ?_
  intro _ hpq
  obtain ⟨pq, hpq'⟩ := hpq
  subst hpq'
  go_wp2_with fail
  go_ret
  exact ⟨rfl, K.out.trans pq.old⟩
 simp only [h1, h2, h3, if_false] at C ⊢
 clear h1 h2 h3
 have CC := Lib.hid C
 clear C
 have ta_int64 : ∀ W, (Instr.typeAssert .nilIface 20 2 true).run Tryz.prog W = .ok (.tuple #[.int .i64 0, .bool false]) W := fun W => rfl
 have ta_string : ∀ W, (Instr.typeAssert .nilIface 20 9 true).run Tryz.prog W = .ok (.tuple #[.string ⟨#[]⟩, .bool false]) W := fun W => rfl
 have ta_bool : ∀ W, (Instr.typeAssert .nilIface 20 4 true).run Tryz.prog W = .ok (.tuple #[.bool false, .bool false]) W := fun W => rfl
 go_enter Tryz.func46, Tryz.ntmps46
 go_wp2_with fail
 refine (CC.out _).mono ?_
 rintro e w1 ⟨rfl, k1⟩
 have K := Lib.hid (B.out.1.trans k1)
 have m0 := (k1.block _ (lt_of_heap B.out.2.1) (fun f => f)).trans B.out.2.1
 have m1 := (k1.block _ (lt_of_heap B.out.2.2) (fun f => f)).trans B.out.2.2
 clear g0 g1
 have g0 := blk4 m0
 have g1 := blk4 m1
 clear k1 m0 m1 CC
 go_wp2_with fail
 go_ret
 exact ⟨rfl, K.out⟩
theorem whole_any (a a' : Val) (w : World) : Calls Tryz.prog 161 #[.agg a.cells, .agg a'.cells] w fun e w' => (∃ z : Int, e = .returned (.int .i64 z) ∧ (z = 0 ↔ a = a')) ∧ Old w w' := by
 have CV := Lib.hid (fun W => val_cmp_any a a' W)
 have hz : (∀ x ∈ [valCmp a a', cmpZ a.num a'.num, strZ a.str a'.str, valCmp ⟨3, 0, ⟨#[]⟩, a.is⟩ ⟨3, 0, ⟨#[]⟩, a'.is⟩], x = 0) ↔ a = a' := by
  constructor
  ·intro h
   have h1 := valCmp_kind (h (valCmp a a') (by simp))
   have h2 := cmpZ_zero.1 (h (cmpZ a.num a'.num) (by simp))
   have h3 := strZ_zero.1 (h (strZ a.str a'.str) (by simp))
   have h4 := valCmp_truth (h (valCmp ⟨3, 0, ⟨#[]⟩, a.is⟩ ⟨3, 0, ⟨#[]⟩, a'.is⟩) (by simp))
   cases a; cases a'
   simp only at h1 h2 h3 h4
   rw [h1, h2, h3, h4]
  ·rintro rfl x hx
   simp only [List.mem_cons, List.not_mem_nil, or_false] at hx
   rcases hx with rfl | rfl | rfl | rfl
   ·exact valCmp_self _
   ·exact cmpZ_zero.2 rfl
   ·exact strZ_zero.2 rfl
   ·exact valCmp_self _
 obtain ⟨k, n, s, b⟩ := a
 obtain ⟨k', n', s', b'⟩ := a'
 unfold Val.cells at CV ⊢
 simp only at CV hz ⊢
 generalize valCmp ⟨k, n, s, b⟩ ⟨k', n', s', b'⟩ = z1 at CV hz
 obtain ⟨z2, hz2⟩ : ∃ z, cmpZ n n' = z := ⟨_, rfl⟩
 obtain ⟨z3, hz3⟩ : ∃ z, strZ s s' = z := ⟨_, rfl⟩
 obtain ⟨z4, hz4⟩ : ∃ z, valCmp ⟨3, 0, ⟨#[]⟩, b⟩ ⟨3, 0, ⟨#[]⟩, b'⟩ = z := ⟨_, rfl⟩
 rw [hz2, hz3, hz4] at hz
 have CT := val_cmp_any ⟨3, 0, ⟨#[]⟩, b⟩ ⟨3, 0, ⟨#[]⟩, b'⟩
 have CN := cmp_i64_any n n'
 have CS := cmp_str_any s s'
 rw [hz4] at CT
 rw [hz2] at CN
 rw [hz3] at CS
 unfold Val.cells at CT
 simp only at CT
 have HC := Lib.hid (And.intro CT (And.intro CN (And.intro CS hz)))
 clear hz hz2 hz3 hz4 CT CN CS
 obtain ⟨W0, hW0⟩ : ∃ W0, (w.alloc (.cells #[.int .i64 k, .int .i64 n, .string s, .bool b] 61)).alloc (.cells #[.int .i64 k', .int .i64 n', .string s', .bool b'] 61) = W0 := ⟨_, rfl⟩
 have k0 : Old w W0 := by rw [← hW0]; exact ((Keeps.refl _ _).alloc _).alloc _
 obtain ⟨b0, b1⟩ := two_blocks w (.cells #[.int .i64 k, .int .i64 n, .string s, .bool b] 61) (.cells #[.int .i64 k', .int .i64 n', .string s', .bool b'] 61)
 rw [hW0] at b0 b1
 have B := Lib.hid (And.intro k0 (And.intro b0 b1))
 clear k0 b0 b1
 go_enter Tryz.func161, Tryz.ntmps161
 go_wp2_with fail
 refine wp_region_g (S := fun W' => Old W0 W') (M := List.range 23) (by kernel_rfl) ?_
 have hS : Old W0 W0.drew := (Keeps.refl _ _).drew
 refine tkG (i := 0) (v := ?va0) ?ya0 hS ?ra0
 case ya0 => (intro W hSw; have tt := blk4 ((hSw.block _ (lt_of_heap B.out.2.1) (fun f => f)).trans B.out.2.1); go_simp; try with_reducible rfl)
 try simp only [Act.put, List.setIfInBounds_toArray, List.set_cons_zero, List.set_cons_succ]
 refine tkG (i := 1) (v := ?va1) ?ya1 hS ?ra1
 case ya1 => (intro W hSw; have tt := blk4 ((hSw.block _ (lt_of_heap B.out.2.2) (fun f => f)).trans B.out.2.2); go_simp; try with_reducible rfl)
 try simp only [Act.put, List.setIfInBounds_toArray, List.set_cons_zero, List.set_cons_succ]
 refine tkG (i := 3) (v := ?va3) ?ya3 hS ?ra3
 case ya3 => (intro W hSw; go_simp; try with_reducible rfl)
 try simp only [Act.put, List.setIfInBounds_toArray, List.set_cons_zero, List.set_cons_succ]
 refine tkG (i := 4) (v := ?va4) ?ya4 hS ?ra4
 case ya4 => (intro W hSw; have tt := blk4 ((hSw.block _ (lt_of_heap B.out.2.1) (fun f => f)).trans B.out.2.1); go_simp; try with_reducible rfl)
 try simp only [Act.put, List.setIfInBounds_toArray, List.set_cons_zero, List.set_cons_succ]
 refine tkG (i := 5) (v := ?va5) ?ya5 hS ?ra5
 case ya5 => (intro W hSw; go_simp; try with_reducible rfl)
 try simp only [Act.put, List.setIfInBounds_toArray, List.set_cons_zero, List.set_cons_succ]
 refine tkG (i := 6) (v := ?va6) ?ya6 hS ?ra6
 case ya6 => (intro W hSw; have tt := blk4 ((hSw.block _ (lt_of_heap B.out.2.2) (fun f => f)).trans B.out.2.2); go_simp; try with_reducible rfl)
 try simp only [Act.put, List.setIfInBounds_toArray, List.set_cons_zero, List.set_cons_succ]
 refine tkG (i := 8) (v := ?va8) ?ya8 hS ?ra8
 case ya8 => (intro W hSw; go_simp; try with_reducible rfl)
 try simp only [Act.put, List.setIfInBounds_toArray, List.set_cons_zero, List.set_cons_succ]
 refine tkG (i := 9) (v := ?va9) ?ya9 hS ?ra9
 case ya9 => (intro W hSw; have tt := blk4 ((hSw.block _ (lt_of_heap B.out.2.1) (fun f => f)).trans B.out.2.1); go_simp; try with_reducible rfl)
 try simp only [Act.put, List.setIfInBounds_toArray, List.set_cons_zero, List.set_cons_succ]
 refine tkG (i := 10) (v := ?va10) ?ya10 hS ?ra10
 case ya10 => (intro W hSw; go_simp; try with_reducible rfl)
 try simp only [Act.put, List.setIfInBounds_toArray, List.set_cons_zero, List.set_cons_succ]
 refine tkG (i := 11) (v := ?va11) ?ya11 hS ?ra11
 case ya11 => (intro W hSw; have tt := blk4 ((hSw.block _ (lt_of_heap B.out.2.2) (fun f => f)).trans B.out.2.2); go_simp; try with_reducible rfl)
 try simp only [Act.put, List.setIfInBounds_toArray, List.set_cons_zero, List.set_cons_succ]
 refine tkG (i := 13) (v := ?va13) ?ya13 hS ?ra13
 case ya13 => (intro W hSw; go_simp; try with_reducible rfl)
 try simp only [Act.put, List.setIfInBounds_toArray, List.set_cons_zero, List.set_cons_succ]
 refine tkG (i := 14) (v := ?va14) ?ya14 hS ?ra14
 case ya14 => (intro W hSw; have tt := blk4 ((hSw.block _ (lt_of_heap B.out.2.1) (fun f => f)).trans B.out.2.1); go_simp; try with_reducible rfl)
 try simp only [Act.put, List.setIfInBounds_toArray, List.set_cons_zero, List.set_cons_succ]
 refine tkG (i := 16) (v := ?va16) ?ya16 hS ?ra16
 case ya16 => (intro W hSw; go_simp; try with_reducible rfl)
 try simp only [Act.put, List.setIfInBounds_toArray, List.set_cons_zero, List.set_cons_succ]
 refine tkG (i := 17) (v := ?va17) ?ya17 hS ?ra17
 case ya17 => (intro W hSw; have tt := blk4 ((hSw.block _ (lt_of_heap B.out.2.2) (fun f => f)).trans B.out.2.2); go_simp; try with_reducible rfl)
 try simp only [Act.put, List.setIfInBounds_toArray, List.set_cons_zero, List.set_cons_succ]
 refine wpAnyG_onlyL (i := 2) (o := _) (by kernel_rfl) rfl (fun K hK => ?_)
 go_simp
 refine (CV.out _).mono ?_
 rintro e w1 ⟨rfl, k1⟩
 have hS1 : Old W0 w1 := hS.trans k1
 clear k1
 go_wp2_with fail
 refine hK.out _ _ (fun _ => hS1) ?_
 clear hK K
 try simp only [Act.put, List.setIfInBounds_toArray, List.set_cons_zero, List.set_cons_succ]
 refine wpAnyG_onlyL (i := 7) (o := _) (by kernel_rfl) rfl (fun K hK => ?_)
 go_simp
 refine (HC.out.2.1 _).mono ?_
 rintro e w2 ⟨rfl, rfl⟩
 go_wp2_with fail
 refine hK.out _ _ (fun _ => hS1) ?_
 clear hK K
 try simp only [Act.put, List.setIfInBounds_toArray, List.set_cons_zero, List.set_cons_succ]
 refine wpAnyG_onlyL (i := 12) (o := _) (by kernel_rfl) rfl (fun K hK => ?_)
 go_simp
 refine (HC.out.2.2.1 _).mono ?_
 rintro e w3 ⟨rfl, rfl⟩
 go_wp2_with fail
 refine hK.out _ _ (fun _ => hS1) ?_
 clear hK K
 try simp only [Act.put, List.setIfInBounds_toArray, List.set_cons_zero, List.set_cons_succ]
 refine wpAnyG_onlyL (i := 15) (o := _) (by kernel_rfl) rfl (fun K hK => ?_)
 go_simp
 refine (truth_any _ _).mono ?_
 rintro e w4 ⟨rfl, k4⟩
 have hS4 : Old W0 w4 := hS1.trans k4
 clear k4
 go_wp2_with fail
 refine hK.out _ _ (fun _ => hS4) ?_
 clear hK K
 try simp only [Act.put, List.setIfInBounds_toArray, List.set_cons_zero, List.set_cons_succ]
 refine wpAnyG_onlyL (i := 18) (o := _) (by kernel_rfl) rfl (fun K hK => ?_)
 go_simp
 refine (truth_any _ _).mono ?_
 rintro e w5 ⟨rfl, k5⟩
 have hS5 : Old W0 w5 := hS4.trans k5
 clear k5
 go_wp2_with fail
 refine hK.out _ _ (fun _ => hS5) ?_
 clear hK K
 try simp only [Act.put, List.setIfInBounds_toArray, List.set_cons_zero, List.set_cons_succ]
 refine wpAnyG_onlyL (i := 19) (o := _) (by kernel_rfl) rfl (fun K hK => ?_)
 go_simp
 refine (HC.out.1 _).mono ?_
 rintro e w6 ⟨rfl, k6⟩
 have hS6 : Old W0 w6 := hS5.trans k6
 clear k6
 go_wp2_with fail
 refine hK.out _ _ (fun _ => hS6) ?_
 clear hK K
 try simp only [Act.put, List.setIfInBounds_toArray, List.set_cons_zero, List.set_cons_succ]
 refine wpAnyG_onlyL (i := 20) (o := _) (by kernel_rfl) rfl (fun K hK => ?_)
 go_simp
 have SN : SeesR (w6.alloc (.cells #[.int .i64 z1, .int .i64 z2, .int .i64 z3, .int .i64 z4] 3)) 1 intL (.slice (some ⟨w6.heap.size, 0, none⟩) 4 4) [z1, z2, z3, z4] := SeesR.new (k := 1) (enc := intL) w6 _ (0, 0) [z1, z2, z3, z4] _ (by rfl) (fun _ => rfl) (by unfold maxLen; simp)
 have hS7 : Old W0 (w6.alloc (.cells #[.int .i64 z1, .int .i64 z2, .int .i64 z3, .int .i64 z4] 3)) := hS6.alloc _
 refine hK.out _ _ (fun _ => hS7) ?_
 clear hK K
 try simp only [Act.put, List.setIfInBounds_toArray, List.set_cons_zero, List.set_cons_succ]
 refine wpAnyG_onlyL (i := 21) (o := _) (by kernel_rfl) rfl (fun K hK => ?_)
 go_simp
 refine (or_int_any _ _ _ SN).mono ?_
 rintro e w8 ⟨⟨z, rfl, hz⟩, k8⟩
 have hS8 : Old W0 w8 := hS7.trans k8
 clear k8
 go_wp2_with fail
 refine hK.out _ _ (fun _ => hS8) ?_
 clear hK K
 try simp only [Act.put, List.setIfInBounds_toArray, List.set_cons_zero, List.set_cons_succ]
 refine tkG (i := 22) (v := ?va22) ?ya22 hS8 ?ra22
 case ya22 => (intro W hSw; go_simp; try with_reducible rfl)
 try simp only [Act.put, List.setIfInBounds_toArray, List.set_cons_zero, List.set_cons_succ]
 refine wpAnyG_done (by kernel_rfl) ?_ _
 go_simp
 have R := Lib.hid (And.intro (hz.trans HC.out.2.2.2) (B.out.1.trans hS8))
 clear hz hS hS1 hS4 hS5 hS6 hS7 hS8 SN
 go_wp2_with fail
 go_ret
 exact ⟨⟨z, rfl, R.out.1⟩, R.out.2⟩
end
end Go.Proofs.YtehmlaplodjenaaGreat
