/- DERIVED. Names: what may be one (layer 2), the program's and the document's answer. · DERIVED. Values: what may be (layer 1), the program's and the document's answer. · DERIVED. '==' on the program's values. · DERIVED. Values: the program's May. · DERIVED. Events: what may be (layer 2), the program's and the document's answer. · DERIVED. The contracts of the writer of package codec. -/
import Derived.Test.YtiednihagnehlaaY01
import Derived.ChangeKeysEq
import Derived.Test.YtiednihagnehlaaY02
import Derived.Deep.RegionWith
namespace Go.Proofs.Ytiednihagnehlaa
open Go.RowKit

/-- a byte of a name -/
def goodB (c : Nat) : Bool := (decide (97 ≤ c) && decide (c ≤ 122)) || (decide (48 ≤ c) && decide (c ≤ 57)) || c == 45 || c == 46 || c == 95

theorem ret_bool {a b : Bool} (h : a = b) : Ending.returned (.bool a) = .returned (.bool b) := by rw [h]

theorem name1_any (c : Nat) (w : World) : Calls Try.prog 99 #[.int .u8 (c : Int)] w fun e w' => e = .returned (.bool (!goodB c)) ∧ w = w' := by
 go_enter Try.func99, Try.ntmps99
 go_wp2_with fail
 all_goals go_ret
 all_goals refine ⟨ret_bool ?_, rfl⟩
 all_goals unfold goodB
 all_goals rw [Bool.eq_iff_iff]
 all_goals simp
 all_goals omega

/-- an index was found, or not -/
def Found (w : World) (ok : Bool) (e : Ending) (w' : World) : Prop := (∃ i : Int, e = .returned (.int .i64 i) ∧ decide (0 ≤ i) = ok) ∧ w = w'

theorem all_take_succ {α : Type} {f : α → Bool} {l : List α} {k : Nat} {x : α} (hx : l[k]? = some x) : (l.take (k + 1)).all f = ((l.take k).all f && f x) := by
 rw [List.take_add_one, hx]; simp

theorem all_false_of {α : Type} {f : α → Bool} {l : List α} {k : Nat} {x : α} (hx : l[k]? = some x) (h : f x = false) : l.all f = false := by
 rw [List.all_eq_false]; exact ⟨x, List.mem_of_getElem? hx, by simp [h]⟩

theorem index1_any (v : Value) (l : List UInt8) (w : World) (h : Sees w v l) :
  Calls Try.prog 106 #[v, .func (.func 99) #[] #[]] w (Found w (!(l.all fun c => goodB c.toNat))) := by
 by_cases hl : 0 < l.length
 ·obtain ⟨b, o, c, rfl, h1, h2, hc⟩ := h.at hl
  have hm : l.length ≤ 9223372036854775807 := by unfold maxLen at h2; omega
  have HC := Lib.hid hc
  clear h1 h2 h hc hl
  go_enter Try.func106, Try.ntmps106
  go_wp2_with fail
  go_loop [8] (fun v8 => ∃ k : Nat, k ≤ l.length ∧ v8 = .int .i64 k ∧ (l.take k).all (fun c => goodB c.toNat) = true) (fun v8 => l.length - (intOf v8).toNat)
  case atStart => exact ⟨0, by omega, rfl, by simp⟩
  case round =>
   obtain ⟨k, hk, rfl, hr⟩ := hrel
   have HR := Lib.hid hr
   clear hr
   by_cases hlt : k < l.length
   ·have hx : l[k]? = some l[k] := List.getElem?_eq_getElem hlt
    have hcell := HC.out k _ hx
    unfold u8 at hcell
    have HX := Lib.hid hx
    clear hx
    cases hg : goodB (l[k].toNat)
    ·have N := name1_any l[k].toNat w
     rw [hg] at N
     have HN := Lib.hid N
     have HG := Lib.hid hg
     clear N hg
     go_wp2_with (refine (HN.out).mono ?_; rintro e w' ⟨rfl, rfl⟩)
     go_ret
     exact ⟨⟨k, rfl, by rw [all_false_of HX.out HG.out]; simp⟩, rfl⟩
    ·have N := name1_any l[k].toNat w
     rw [hg] at N
     have HN := Lib.hid N
     have HG := Lib.hid hg
     clear N hg
     go_wp2_with (refine (HN.out).mono ?_; rintro e w' ⟨rfl, rfl⟩)
     go_round
     case rel => exact ⟨k + 1, by omega, by go_num, by rw [all_take_succ HX.out, HR.out, HG.out]; rfl⟩
     case measure => simp [intOf]; omega
   ·go_wp2_with fail
    go_ret
    refine ⟨⟨-1, rfl, ?_⟩, rfl⟩
    have := HR.out
    rw [List.take_of_length_le (by omega)] at this
    rw [this]
    rfl
 ·obtain ⟨p, c, rfl, h1, h2⟩ := h.len
  have h0 : l.length = 0 := by omega
  have : l = [] := List.eq_nil_of_length_eq_zero h0
  subst this
  clear h h1 h2 hl h0
  go_enter Try.func106, Try.ntmps106
  go_wp2_with fail
  go_loop [8] (fun v8 => v8 = .int .i64 0) (fun v8 => 0)
  case atStart => rfl
  case round =>
   obtain rfl := hrel
   go_wp2_with fail
   go_ret
   exact ⟨⟨-1, rfl, rfl⟩, rfl⟩

theorem contains1_any (v : Value) (l : List UInt8) (w : World) (h : Sees w v l) :
  Calls Try.prog 100 #[v, .func (.func 99) #[] #[]] w fun e w' => e = .returned (.bool (!(l.all fun c => goodB c.toNat))) ∧ w = w' := by
 obtain ⟨p, c, rfl, h1, h2⟩ := h.len
 have C := Lib.hid (index1_any _ l w h)
 clear h h1 h2
 go_enter Try.func100, Try.ntmps100
 go_wp2_with fail
 refine C.out.mono ?_
 rintro e w' ⟨⟨i, rfl, hi⟩, rfl⟩
 have HI := Lib.hid hi
 clear hi
 go_wp2_with fail
 go_ret
 exact ⟨ret_bool HI.out, rfl⟩

/-- may it be a name? -/
def nameOk (l : List UInt8) : Bool := decide (1 ≤ l.length) && decide (l.length ≤ 16) && l.all fun c => goodB c.toNat

set_option maxRecDepth 100000 in
theorem name_any (s : ByteArray) (w : World) : Calls Try.prog 83 #[.string s] w fun e w' => e = .returned (.bool (nameOk s.toList)) ∧ Old w w' := by
 have hsz : s.toList.length = s.size := by rw [ByteArray.toList_eq]; simp
 by_cases h0 : 1 ≤ s.size
 ·have t1 : s.toList.isEmpty = false := by cases h : s.toList with | nil => rw [h] at hsz; simp at hsz; omega | cons => rfl
  have t1' : (!s.toList.isEmpty) = true := by rw [t1]; rfl
  by_cases h1 : s.size ≤ 16
  ·have d1 : decide ((s.size : Int) ≤ 16) = true := by simp; omega
   obtain ⟨p, c, w1, hconv, hsee, hk, _⟩ := conv_str w s (by unfold maxLen; omega)
   have C := Lib.hid (contains1_any _ _ w1 hsee)
   have HK := Lib.hid hk
   have HS := Lib.hid hsz
   clear hsz hsee hk
   go_enter Try.func83, Try.ntmps83
   go_wp2_with fail
   refine C.out.mono ?_
   rintro e w' ⟨rfl, rfl⟩
   go_wp2_with fail
   go_ret
   refine ⟨ret_bool ?_, HK.out⟩
   simp [nameOk, HS.out, h1, h0]
  ·have d1 : decide ((s.size : Int) ≤ 16) = false := by simp; omega
   have HS := Lib.hid hsz
   clear hsz
   go_enter Try.func83, Try.ntmps83
   go_wp2_with fail
   go_ret
   refine ⟨ret_bool ?_, Keeps.refl _ _⟩
   simp [nameOk, HS.out, h1]
 ·have t1 : s.toList = [] := List.eq_nil_of_length_eq_zero (by omega)
  clear h0 hsz
  have t2 : s.toList.isEmpty = true := by rw [t1]; rfl
  have H := Lib.hid t1
  clear t1
  go_enter Try.func83, Try.ntmps83
  go_wp2_with fail
  go_ret
  exact ⟨ret_bool (by rw [H.out]; rfl), Keeps.refl _ _⟩
end Go.Proofs.Ytiednihagnehlaa

namespace Go.Proofs.Ytiednihagnehlaa
open Go.RowKit

/-- a value as the program holds it -/
structure Val where
 kind : Int
 num : Int
 str : ByteArray
 is : Bool
def Val.cells (v : Val) : Array Value := #[.int .i64 v.kind, .int .i64 v.num, .string v.str, .bool v.is]
/-- may it be? -/
def Val.ok (v : Val) : Bool :=
 if v.kind = 1 then v.str.toList.isEmpty && !v.is
 else if v.kind = 2 then decide (v.str.size ≤ 32) && decide (v.num = 0) && !v.is
 else decide (v.kind = 3) && decide (v.num = 0) && v.str.toList.isEmpty

theorem ref_val_any (v : Val) (w : World) : Calls Try.prog 86 #[.agg v.cells] w fun e w' => e = .returned (.bool v.ok) ∧ Old w w' := by
 obtain ⟨k, n, s, b⟩ := v
 unfold Val.cells Val.ok
 by_cases h1 : k = 1
 ·subst h1
  by_cases hs : s.toList.isEmpty = true
  all_goals go_enter Try.func86, Try.ntmps86
  all_goals go_wp2_with fail
  all_goals go_ret
  all_goals refine ⟨?_, (Keeps.refl _ _).alloc _⟩
  all_goals simp_all
 ·have t1 : ((k : Int) == 1) = false := by simp; omega
  by_cases h2 : k = 2
  ·subst h2
   by_cases hs : s.size ≤ 32
   ·have d1 : decide ((s.size : Int) ≤ 32) = true := by simp; omega
    by_cases hn : n = 0
    ·subst hn
     go_enter Try.func86, Try.ntmps86
     go_wp2_with fail
     all_goals go_ret
     all_goals refine ⟨?_, (Keeps.refl _ _).alloc _⟩
     all_goals simp_all
    ·have d2 : ((n : Int) == 0) = false := by simp; omega
     go_enter Try.func86, Try.ntmps86
     go_wp2_with fail
     all_goals go_ret
     all_goals refine ⟨?_, (Keeps.refl _ _).alloc _⟩
     all_goals simp_all
   ·have d1 : decide ((s.size : Int) ≤ 32) = false := by simp; omega
    go_enter Try.func86, Try.ntmps86
    go_wp2_with fail
    all_goals go_ret
    all_goals refine ⟨?_, (Keeps.refl _ _).alloc _⟩
    all_goals simp_all
  ·have t2 : ((k : Int) == 2) = false := by simp; omega
   by_cases h3 : k = 3
   ·subst h3
    by_cases hn : n = 0
    ·subst hn
     go_enter Try.func86, Try.ntmps86
     go_wp2_with fail
     all_goals go_ret
     all_goals refine ⟨?_, (Keeps.refl _ _).alloc _⟩
     all_goals simp_all
    ·have d2 : ((n : Int) == 0) = false := by simp; omega
     go_enter Try.func86, Try.ntmps86
     go_wp2_with fail
     all_goals go_ret
     all_goals refine ⟨?_, (Keeps.refl _ _).alloc _⟩
     all_goals simp_all
   ·have t3 : ((k : Int) == 3) = false := by simp; omega
    go_enter Try.func86, Try.ntmps86
    go_wp2_with fail
    all_goals go_ret
    all_goals refine ⟨?_, (Keeps.refl _ _).alloc _⟩
    all_goals simp_all

theorem number_any (n : Int) (w : World) : Calls Try.prog 96 #[.int .i64 n] w fun e w' => e = .returned (.agg #[.int .i64 1, .int .i64 n, .string ⟨#[]⟩, .bool false]) ∧ Old w w' := by
 go_enter Try.func96, Try.ntmps96
 go_wp2_with fail
 refine bodyPost_ret (v := .agg #[.int .i64 1, .int .i64 n, .string ⟨#[]⟩, .bool false]) (by simp [results, Try.results96, go_sem]) rfl ?_
 exact ⟨rfl, (Keeps.refl _ _).alloc _⟩
theorem word_any (s : ByteArray) (w : World) : Calls Try.prog 97 #[.string s] w fun e w' => e = .returned (.agg #[.int .i64 2, .int .i64 0, .string s, .bool false]) ∧ Old w w' := by
 go_enter Try.func97, Try.ntmps97
 go_wp2_with fail
 refine bodyPost_ret (v := .agg #[.int .i64 2, .int .i64 0, .string s, .bool false]) (by simp [results, Try.results97, go_sem]) rfl ?_
 exact ⟨rfl, (Keeps.refl _ _).alloc _⟩
theorem truth_any (b : Bool) (w : World) : Calls Try.prog 98 #[.bool b] w fun e w' => e = .returned (.agg #[.int .i64 3, .int .i64 0, .string ⟨#[]⟩, .bool b]) ∧ Old w w' := by
 go_enter Try.func98, Try.ntmps98
 go_wp2_with fail
 refine bodyPost_ret (v := .agg #[.int .i64 3, .int .i64 0, .string ⟨#[]⟩, .bool b]) (by simp [results, Try.results98, go_sem]) rfl ?_
 exact ⟨rfl, (Keeps.refl _ _).alloc _⟩
theorem has_any (v : Val) (w : World) : Calls Try.prog 95 #[.agg v.cells] w fun e w' => e = .returned (if v.kind = 1 then .iface 2 (.int .i64 v.num) else if v.kind = 2 then .iface 9 (.string v.str) else if v.kind = 3 then .iface 4 (.bool v.is) else .nilIface) ∧ Old w w' := by
 obtain ⟨k, n, s, b⟩ := v
 unfold Val.cells
 by_cases h1 : k = 1
 ·subst h1
  go_enter Try.func95, Try.ntmps95
  go_wp2_with fail
  go_ret
  exact ⟨by simp, (Keeps.refl _ _).alloc _⟩
 ·have t1 : ((k : Int) == 1) = false := by simp; omega
  by_cases h2 : k = 2
  ·subst h2
   go_enter Try.func95, Try.ntmps95
   go_wp2_with fail
   go_ret
   exact ⟨by simp, (Keeps.refl _ _).alloc _⟩
  ·have t2 : ((k : Int) == 2) = false := by simp; omega
   by_cases h3 : k = 3
   ·subst h3
    go_enter Try.func95, Try.ntmps95
    go_wp2_with fail
    go_ret
    exact ⟨by simp, (Keeps.refl _ _).alloc _⟩
   ·have t3 : ((k : Int) == 3) = false := by simp; omega
    go_enter Try.func95, Try.ntmps95
    go_wp2_with fail
    go_ret
    exact ⟨by simp, (Keeps.refl _ _).alloc _⟩
end Go.Proofs.Ytiednihagnehlaa

namespace Go.Proofs.Ytiednihagnehlaa
open Go.RowKit

theorem eq_int (d : Nat) (x y : Int) (W : World) : (Op.equalIn (d+1) 3 (.int .i64 x) (.int .i64 y)).run Try.prog W = .ok (x == y) W := by
 unfold Op.equalIn; simp [go_sem]
theorem eq_i64 (d : Nat) (x y : Int) (W : World) : (Op.equalIn (d+1) 2 (.int .i64 x) (.int .i64 y)).run Try.prog W = .ok (x == y) W := by
 unfold Op.equalIn; simp [go_sem]
theorem eq_bool (d : Nat) (x y : Bool) (W : World) : (Op.equalIn (d+1) 4 (.bool x) (.bool y)).run Try.prog W = .ok (x == y) W := by
 unfold Op.equalIn; simp [go_sem]
theorem eq_string (d : Nat) (x y : ByteArray) (W : World) : (Op.equalIn (d+1) 9 (.string x) (.string y)).run Try.prog W = .ok (x == y) W := by
 unfold Op.equalIn; simp [go_sem]

set_option maxHeartbeats 2000000 in
theorem eq_val_in (m : Nat) (F3 : ∀ x y W, (Op.equalIn m 3 (.int .i64 x) (.int .i64 y)).run Try.prog W = .ok (x == y) W) (F2 : ∀ x y W, (Op.equalIn m 2 (.int .i64 x) (.int .i64 y)).run Try.prog W = .ok (x == y) W)
  (F9 : ∀ x y W, (Op.equalIn m 9 (.string x) (.string y)).run Try.prog W = .ok (x == y) W) (F4 : ∀ x y W, (Op.equalIn m 4 (.bool x) (.bool y)).run Try.prog W = .ok (x == y) W)
  (k k' n n' : Int) (s s' : ByteArray) (b b' : Bool) (W : World) :
  (Op.equalIn (m+1) 66 (.agg #[.int .i64 k, .int .i64 n, .string s, .bool b]) (.agg #[.int .i64 k', .int .i64 n', .string s', .bool b'])).run Try.prog W = .ok (k == k' && (n == n' && (s == s' && b == b'))) W := by
 have hst : Try.prog.stoodInHeld 66 = false := by kernel_rfl
 unfold Op.equalIn
 cases h1 : (k == k')
 ·simp [go_sem, hst, F3, h1]
 ·cases h2 : (n == n')
  ·simp [go_sem, hst, F3, F2, h1, h2]
  ·cases h3 : (s == s')
   ·simp [go_sem, hst, F3, F2, F9, h1, h2, h3]
   ·cases h4 : (b == b') <;> simp [go_sem, hst, F3, F2, F9, F4, h1, h2, h3, h4]

theorem eql_val (k k' n n' : Int) (s s' : ByteArray) (b b' : Bool) (W : World) :
  (binOp .eql 66 (.agg #[.int .i64 k, .int .i64 n, .string s, .bool b]) (.agg #[.int .i64 k', .int .i64 n', .string s', .bool b'])).run Try.prog W = .ok (.bool (k == k' && (n == n' && (s == s' && b == b')))) W := by
 have h := eq_val_in 9999 (eq_int 9998) (eq_i64 9998) (eq_string 9998) (eq_bool 9998) k k' n n' s s' b b' W
 simp [binOp, go_sem, Op.equal, Op.maxDepth, h]
end Go.Proofs.Ytiednihagnehlaa

namespace Go.Proofs.Ytiednihagnehlaa
open Go.RowKit

theorem empty_eq (s : ByteArray) : (s == (⟨#[]⟩ : ByteArray)) = s.toList.isEmpty := by
 rw [ByteArray.toList_eq]
 obtain ⟨⟨l⟩⟩ := s
 cases l <;> rfl

theorem bytes_self (s : ByteArray) : (s == s) = true := by
 obtain ⟨⟨l⟩⟩ := s
 show (Array.instBEq.beq _ _) = true
 simp

set_option maxRecDepth 100000 in
theorem val_any (v : Val) (w : World) : Calls Try.prog 82 #[.agg v.cells] w fun e w' => e = .returned (.bool v.ok) ∧ Old w w' := by
 obtain ⟨k, n, s, b⟩ := v
 have C := fun w => has_any ⟨k, n, s, b⟩ w
 unfold Val.cells at C ⊢
 unfold Val.ok
 simp only [] at C ⊢
 by_cases h1 : k = 1
 ·subst h1
  simp only [if_true] at C
  have CC := Lib.hid C
  clear C
  have ta : ∀ W, (Instr.typeAssert (.iface 2 (.int .i64 n)) 20 2 true).run Try.prog W = .ok (.tuple #[.int .i64 n, .bool true]) W := fun W => rfl
  have te := fun W => eql_val 1 1 n n s ⟨#[]⟩ b false W
  go_enter Try.func82, Try.ntmps82
  go_wp2_with fail
  refine (CC.out _).mono ?_
  rintro e w1 ⟨rfl, hk1⟩
  have m1 : w1.heap[w.heap.size]? = some (.cells #[.int .i64 1, .int .i64 n, .string s, .bool b] 66 (0, 0)) := (hk1.block _ (by simp) (fun f => f)).trans (heap_alloc_new _ _)
  have M := Lib.hid m1
  have K := Lib.hid hk1
  clear hk1 m1
  go_wp2_with fail
  have c0 := OldOf.cell (show w1.cell? ⟨w.heap.size, 0, none⟩ = some (.int .i64 1) from by simp [World.cell?, M.out])
  have c1 := OldOf.cell (show w1.cell? ⟨w.heap.size, 1, none⟩ = some (.int .i64 n) from by simp [World.cell?, M.out])
  have c2 := OldOf.cell (show w1.cell? ⟨w.heap.size, 2, none⟩ = some (.string s) from by simp [World.cell?, M.out])
  have c3 := OldOf.cell (show w1.cell? ⟨w.heap.size, 3, none⟩ = some (.bool b) from by simp [World.cell?, M.out])
  refine wp_region_quiet_old (by kernel_rfl) (by kernel_rfl) ?_
  repeat (go_big_quiet_step ((first | (go_at_call 96; refine Calls.quiet_of_old (number_any _ _)))))
  refine wpQuiet_nil ?_
  intro _ hpq
  obtain ⟨pq, hpq'⟩ := hpq
  subst hpq'
  go_wp2_with fail
  go_ret
  exact ⟨by simp [empty_eq], (((Keeps.refl _ _).alloc _).trans K.out).trans pq.old⟩
 ·by_cases h2 : k = 2
  ·subst h2
   simp only [h1, if_true, if_false] at C
   have ta_int64 : ∀ W, (Instr.typeAssert (.iface 9 (.string s)) 20 2 true).run Try.prog W = .ok (.tuple #[.int .i64 0, .bool false]) W := fun W => rfl
   have ta_string : ∀ W, (Instr.typeAssert (.iface 9 (.string s)) 20 9 true).run Try.prog W = .ok (.tuple #[.string s, .bool true]) W := fun W => rfl
   have te := fun W => eql_val 2 2 n 0 s s b false W
   rw [bytes_self] at te
   cases hg : (n == 0 && !b)
   ·have te' : ∀ W, (binOp .eql 66 (.agg #[.int .i64 2, .int .i64 n, .string s, .bool b]) (.agg #[.int .i64 2, .int .i64 0, .string s, .bool false])).run Try.prog W = .ok (.bool false) W := fun W => by rw [te W]; cases b <;> simp_all
    clear te
    have CC := Lib.hid C
    clear C
    go_enter Try.func82, Try.ntmps82
    go_wp2_with fail
    refine (CC.out _).mono ?_
    rintro e w1 ⟨rfl, hk1⟩
    have m1 : w1.heap[w.heap.size]? = some (.cells #[.int .i64 2, .int .i64 n, .string s, .bool b] 66 (0, 0)) := (hk1.block _ (by simp) (fun f => f)).trans (heap_alloc_new _ _)
    have M := Lib.hid m1
    have K := Lib.hid hk1
    clear hk1 m1
    go_wp2_with fail
    have c0 := OldOf.cell (show w1.cell? ⟨w.heap.size, 0, none⟩ = some (.int .i64 2) from by simp [World.cell?, M.out])
    have c1 := OldOf.cell (show w1.cell? ⟨w.heap.size, 1, none⟩ = some (.int .i64 n) from by simp [World.cell?, M.out])
    have c2 := OldOf.cell (show w1.cell? ⟨w.heap.size, 2, none⟩ = some (.string s) from by simp [World.cell?, M.out])
    have c3 := OldOf.cell (show w1.cell? ⟨w.heap.size, 3, none⟩ = some (.bool b) from by simp [World.cell?, M.out])
    refine wp_region_quiet_old (by kernel_rfl) (by kernel_rfl) ?_
    repeat (go_big_quiet_step ((first | (go_at_call 97; refine Calls.quiet_of_old (word_any _ _)))))
    refine wpQuiet_nil ?_
    intro _ hpq
    obtain ⟨pq, hpq'⟩ := hpq
    subst hpq'
    go_wp2_with fail
    go_ret
    exact ⟨by simp_all <;> omega, (((Keeps.refl _ _).alloc _).trans K.out).trans pq.old⟩
   ·have te' : ∀ W, (binOp .eql 66 (.agg #[.int .i64 2, .int .i64 n, .string s, .bool b]) (.agg #[.int .i64 2, .int .i64 0, .string s, .bool false])).run Try.prog W = .ok (.bool true) W := fun W => by rw [te W]; cases b <;> simp_all
    clear te
    have CC := Lib.hid C
    clear C
    go_enter Try.func82, Try.ntmps82
    go_wp2_with fail
    refine (CC.out _).mono ?_
    rintro e w1 ⟨rfl, hk1⟩
    have m1 : w1.heap[w.heap.size]? = some (.cells #[.int .i64 2, .int .i64 n, .string s, .bool b] 66 (0, 0)) := (hk1.block _ (by simp) (fun f => f)).trans (heap_alloc_new _ _)
    have M := Lib.hid m1
    have K := Lib.hid hk1
    clear hk1 m1
    go_wp2_with fail
    have c0 := OldOf.cell (show w1.cell? ⟨w.heap.size, 0, none⟩ = some (.int .i64 2) from by simp [World.cell?, M.out])
    have c1 := OldOf.cell (show w1.cell? ⟨w.heap.size, 1, none⟩ = some (.int .i64 n) from by simp [World.cell?, M.out])
    have c2 := OldOf.cell (show w1.cell? ⟨w.heap.size, 2, none⟩ = some (.string s) from by simp [World.cell?, M.out])
    have c3 := OldOf.cell (show w1.cell? ⟨w.heap.size, 3, none⟩ = some (.bool b) from by simp [World.cell?, M.out])
    refine wp_region_quiet_old (by kernel_rfl) (by kernel_rfl) ?_
    repeat (go_big_quiet_step ((first | (go_at_call 97; refine Calls.quiet_of_old (word_any _ _)))))
    refine wpQuiet_nil ?_
    intro _ hpq
    obtain ⟨pq, hpq'⟩ := hpq
    subst hpq'
    go_wp2_with fail
    go_ret
    exact ⟨by simp_all <;> omega, (((Keeps.refl _ _).alloc _).trans K.out).trans pq.old⟩
  ·by_cases h3 : k = 3
   ·subst h3
    simp only [h1, h2, if_true, if_false] at C
    have ta_int64 : ∀ W, (Instr.typeAssert (.iface 4 (.bool b)) 20 2 true).run Try.prog W = .ok (.tuple #[.int .i64 0, .bool false]) W := fun W => rfl
    have ta_string : ∀ W, (Instr.typeAssert (.iface 4 (.bool b)) 20 9 true).run Try.prog W = .ok (.tuple #[.string ⟨#[]⟩, .bool false]) W := fun W => rfl
    have ta_bool : ∀ W, (Instr.typeAssert (.iface 4 (.bool b)) 20 4 true).run Try.prog W = .ok (.tuple #[.bool b, .bool true]) W := fun W => rfl
    have te := fun W => eql_val 3 3 n 0 s ⟨#[]⟩ b b W
    have CC := Lib.hid C
    clear C
    go_enter Try.func82, Try.ntmps82
    go_wp2_with fail
    refine (CC.out _).mono ?_
    rintro e w1 ⟨rfl, hk1⟩
    have m1 : w1.heap[w.heap.size]? = some (.cells #[.int .i64 3, .int .i64 n, .string s, .bool b] 66 (0, 0)) := (hk1.block _ (by simp) (fun f => f)).trans (heap_alloc_new _ _)
    have M := Lib.hid m1
    have K := Lib.hid hk1
    clear hk1 m1
    go_wp2_with fail
    have c0 := OldOf.cell (show w1.cell? ⟨w.heap.size, 0, none⟩ = some (.int .i64 3) from by simp [World.cell?, M.out])
    have c1 := OldOf.cell (show w1.cell? ⟨w.heap.size, 1, none⟩ = some (.int .i64 n) from by simp [World.cell?, M.out])
    have c2 := OldOf.cell (show w1.cell? ⟨w.heap.size, 2, none⟩ = some (.string s) from by simp [World.cell?, M.out])
    have c3 := OldOf.cell (show w1.cell? ⟨w.heap.size, 3, none⟩ = some (.bool b) from by simp [World.cell?, M.out])
    refine wp_region_quiet_old (by kernel_rfl) (by kernel_rfl) ?_
    repeat (go_big_quiet_step ((first | (go_at_call 98; refine Calls.quiet_of_old (truth_any _ _)))))
    refine wpQuiet_nil ?_
    intro _ hpq
    obtain ⟨pq, hpq'⟩ := hpq
    subst hpq'
    go_wp2_with fail
    go_ret
    exact ⟨by by_cases h : n = 0 <;> simp_all [empty_eq], (((Keeps.refl _ _).alloc _).trans K.out).trans pq.old⟩
   ·simp only [h1, h2, h3, if_false] at C
    have ta_int64 : ∀ W, (Instr.typeAssert .nilIface 20 2 true).run Try.prog W = .ok (.tuple #[.int .i64 0, .bool false]) W := fun W => rfl
    have ta_string : ∀ W, (Instr.typeAssert .nilIface 20 9 true).run Try.prog W = .ok (.tuple #[.string ⟨#[]⟩, .bool false]) W := fun W => rfl
    have ta_bool : ∀ W, (Instr.typeAssert .nilIface 20 4 true).run Try.prog W = .ok (.tuple #[.bool false, .bool false]) W := fun W => rfl
    have CC := Lib.hid C
    clear C
    go_enter Try.func82, Try.ntmps82
    go_wp2_with fail
    refine (CC.out _).mono ?_
    rintro e w1 ⟨rfl, hk1⟩
    have m1 : w1.heap[w.heap.size]? = some (.cells #[.int .i64 k, .int .i64 n, .string s, .bool b] 66 (0, 0)) := (hk1.block _ (by simp) (fun f => f)).trans (heap_alloc_new _ _)
    have M := Lib.hid m1
    have K := Lib.hid hk1
    clear hk1 m1
    go_wp2_with fail
    go_ret
    exact ⟨by simp_all, ((Keeps.refl _ _).alloc _).trans K.out⟩
end Go.Proofs.Ytiednihagnehlaa

namespace Go.Proofs.Ytiednihagnehlaa
open Go.RowKit

/-- a named value -/
structure At where
 name : ByteArray
 val : Val
def At.cells (a : At) : List Value := [.string a.name, .int .i64 a.val.kind, .int .i64 a.val.num, .string a.val.str, .bool a.val.is]
abbrev SeesA (w : World) (v : Value) (l : List At) : Prop := SeesR w 5 At.cells v l

def okAt (l : List At) (i : Nat) : Bool :=
 match l[i]? with
 | none => true
 | some a => nameOk a.name.toList && a.val.ok && (i == 0 || match l[i - 1]? with | none => true | some b => Op.bytesLess b.name.toList a.name.toList)
def attrsOk (l : List At) : Bool := (List.range l.length).all (okAt l)
/-- may it be an event? -/
def evOk (key : ByteArray) (l : List At) : Bool := decide (key.size ≤ 16) && decide (l.length ≤ 8) && attrsOk l

theorem attrsOk_false {l : List At} {i : Nat} (hi : i < l.length) (h : okAt l i = false) : attrsOk l = false := by
 unfold attrsOk; rw [List.all_eq_false]; exact ⟨i, by simpa using hi, by simp [h]⟩
theorem attrsOk_true {l : List At} (h : ∀ i, i < l.length → okAt l i = true) : attrsOk l = true := by
 unfold attrsOk; rw [List.all_eq_true]; intro i hi; exact h i (by simpa using hi)

set_option maxRecDepth 100000 in
theorem ev_may_any (key : ByteArray) (v : Value) (l : List At) (w : World) (h : SeesA w v l) :
  Calls Try.prog 70 #[.agg #[.string key, v]] w fun e w' => e = .returned (.bool (evOk key l)) ∧ Old w w' := by
 by_cases hl : 0 < l.length
 ·obtain ⟨b, o, c, rfl, h1, h2, hc⟩ := h.at hl
  have hm : l.length ≤ 9223372036854775807 := by unfold maxLen at h2; omega
  have HC := Lib.hid hc
  clear h1 h2 h hc hl
  go_enter Try.func70, Try.ntmps70
  go_wp2_with fail
  go_loopw [8] (fun v8 wr => ∃ k : Nat, k ≤ l.length ∧ v8 = .int .i64 k ∧ (∀ i, i < k → okAt l i = true) ∧ Old (w.alloc (.cells #[.string key, .slice (some ⟨b, o, none⟩) l.length c] 33)) wr) (fun v8 _ => l.length - (intOf v8).toNat)
  case atStart => exact ⟨0, by omega, rfl, by intro i hi; omega, Keeps.refl _ _⟩
  case round =>
   obtain ⟨k, hk, rfl, hr, hold⟩ := hrel
   have HR := Lib.hid hr
   have HO := Lib.hid hold
   clear hr hold
   by_cases hlt : k < l.length
   ·have hx : l[k]? = some l[k] := List.getElem?_eq_getElem hlt
    generalize hak : l[k] = a at hx
    have cell : ∀ i u, a.cells[i]? = some u → wr.cell? ⟨b, o + k * 5 + i, none⟩ = some u := fun i u hu =>
     HO.out.cell (((Keeps.refl (fun _ => False) _).alloc _).cell (HC.out k a hx i u hu) (fun f => f)) (fun f => f)
    have c0 := cell 0 _ rfl
    have c1 := cell 1 _ rfl
    have c2 := cell 2 _ rfl
    have c3 := cell 3 _ rfl
    have c4 := cell 4 _ rfl
    simp only [Nat.add_zero] at c0
    have HX := Lib.hid hx
    clear cell hx hak
    go_wp2_with fail
    have hw0 : wr.heap[w.heap.size]? = some (.cells #[.string key, .slice (some ⟨b, o, none⟩) l.length c] 33 (0, 0)) := (HO.out.block _ (by simp) (fun f => f)).trans (heap_alloc_new _ _)
    have hsz : w.heap.size < wr.heap.size := by have := HO.out.size; simp at this; omega
    generalize hW : wr.alloc (.cells #[.string a.name, .int .i64 a.val.kind, .int .i64 a.val.num, .string a.val.str, .bool a.val.is] 126) = W1
    have hW1 : Old wr W1 := by rw [← hW]; exact (Keeps.refl _ _).alloc _
    have m0 : W1.heap[wr.heap.size]? = some (.cells #[.string a.name, .int .i64 a.val.kind, .int .i64 a.val.num, .string a.val.str, .bool a.val.is] 126 (0, 0)) := by rw [← hW]; exact heap_alloc_new _ _
    have m1 := (hW1.block _ hsz (fun f => f)).trans hw0
    have n0 := OldOf.cell (show W1.cell? ⟨wr.heap.size, 0, none⟩ = some (.string a.name) from by simp [World.cell?, m0])
    have n1 := OldOf.cell (show W1.cell? ⟨wr.heap.size, 1, none⟩ = some (.int .i64 a.val.kind) from by simp [World.cell?, m0])
    have n2 := OldOf.cell (show W1.cell? ⟨wr.heap.size, 2, none⟩ = some (.int .i64 a.val.num) from by simp [World.cell?, m0])
    have n3 := OldOf.cell (show W1.cell? ⟨wr.heap.size, 3, none⟩ = some (.string a.val.str) from by simp [World.cell?, m0])
    have n4 := OldOf.cell (show W1.cell? ⟨wr.heap.size, 4, none⟩ = some (.bool a.val.is) from by simp [World.cell?, m0])
    have n5 := OldOf.cell (show W1.cell? ⟨w.heap.size, 1, none⟩ = some (.slice (some ⟨b, o, none⟩) l.length c) from by simp [World.cell?, m1])
    have HW := Lib.hid (And.intro hW1 HO.out)
    clear hw0 hsz hW hW1 m0 m1 c0 c1 c2 c3 c4
    have N := fun W => name_any a.name W
    have V := fun W => val_any a.val W
    unfold Val.cells at V
    cases hn : nameOk a.name.toList
    ·rw [hn] at N
     have NN := Lib.hid N
     have HN := Lib.hid hn
     clear N V hn
     refine wp_region_quiet_old (by kernel_rfl) (by kernel_rfl) ?_
     repeat (go_big_quiet_step (((go_at_call 83; exact Calls.quiet_of_old (NN.out _)))))
     refine wpQuiet_nil ?_
     intro _ hpq
     obtain ⟨pq, hpq'⟩ := hpq
     subst hpq'
     go_wp2_with fail
     go_ret
     refine ⟨ret_bool ?_, ((Keeps.refl _ _).alloc _).trans (HW.out.2.trans (HW.out.1.trans pq.old))⟩
     rw [evOk, attrsOk_false hlt (by simp [okAt, HX.out, HN.out]), Bool.and_false]
    ·rw [hn] at N
     have NN := Lib.hid N
     have HN := Lib.hid hn
     clear N hn
     cases hv : a.val.ok
     ·rw [hv] at V
      have VV := Lib.hid V
      have HV := Lib.hid hv
      clear V hv
      refine wp_region_quiet_old (by kernel_rfl) (by kernel_rfl) ?_
      repeat (go_big_quiet_step ((first | (go_at_call 83; exact Calls.quiet_of_old (NN.out _)) | (go_at_call 82; exact Calls.quiet_of_old (VV.out _)))))
      refine wpQuiet_nil ?_
      intro _ hpq
      obtain ⟨pq, hpq'⟩ := hpq
      subst hpq'
      go_wp2_with fail
      go_ret
      refine ⟨ret_bool ?_, ((Keeps.refl _ _).alloc _).trans (HW.out.2.trans (HW.out.1.trans pq.old))⟩
      rw [evOk, attrsOk_false hlt (by simp [okAt, HX.out, HN.out, HV.out]), Bool.and_false]
     ·rw [hv] at V
      have VV := Lib.hid V
      have HV := Lib.hid hv
      clear V hv
      rcases k with _ | j
      ·refine wp_region_quiet_old (by kernel_rfl) (by kernel_rfl) ?_
       repeat (go_big_quiet_step ((first | (go_at_call 83; exact Calls.quiet_of_old (NN.out _)) | (go_at_call 82; exact Calls.quiet_of_old (VV.out _)))))
       refine wpQuiet_nil ?_
       intro _ hpq
       obtain ⟨pq, hpq'⟩ := hpq
       subst hpq'
       go_wp2_with fail
       go_roundw
       case rel =>
        refine ⟨1, by omega, by go_num, fun i hi => ?_, HW.out.2.trans (HW.out.1.trans pq.old)⟩
        obtain rfl : i = 0 := by omega
        simp [okAt, HX.out, HN.out, HV.out]
       case measure => simp [intOf]; try omega
      ·have hxj : l[j]? = some l[j] := List.getElem?_eq_getElem (by omega)
       generalize hbj : l[j] = a' at hxj
       have p0 : W1.cell? ⟨b, o + j * 5, none⟩ = some (.string a'.name) := HW.out.1.cell (HW.out.2.cell (((Keeps.refl (fun _ => False) _).alloc _).cell (HC.out j a' hxj 0 _ rfl) (fun f => f)) (fun f => f)) (fun f => f)
       have q0 := OldOf.cell p0
       have HXJ := Lib.hid hxj
       have i1 : IntKind.i64.wrap ((j : Int)) = (j : Int) := by rw [IntKind.wrap_i64]; omega
       have i2 : (0 : Int) ≤ (j : Int) := by omega
       have i3 : (j : Int) < (l.length : Int) := by omega
       have i4 : decide (0 < (j : Int) + 1) = true := by simp <;> omega
       have HI := Lib.hid (And.intro hk hlt)
       clear p0 hxj hbj
       cases hb : Op.bytesLess a'.name.toList a.name.toList
       all_goals have HB := Lib.hid hb
       ·refine wp_region_quiet_old (by kernel_rfl) (by kernel_rfl) ?_
        repeat (go_big_quiet_step ((first | (go_at_call 83; exact Calls.quiet_of_old (NN.out _)) | (go_at_call 82; exact Calls.quiet_of_old (VV.out _)))))
        refine wpQuiet_nil ?_
        intro _ hpq
        obtain ⟨pq, hpq'⟩ := hpq
        subst hpq'
        go_wp2_with fail
        go_ret
        refine ⟨ret_bool ?_, ((Keeps.refl _ _).alloc _).trans (HW.out.2.trans (HW.out.1.trans pq.old))⟩
        rw [evOk, attrsOk_false HI.out.2 (by simp [okAt, HX.out, HN.out, HV.out, HXJ.out, HB.out]), Bool.and_false]
       ·refine wp_region_quiet_old (by kernel_rfl) (by kernel_rfl) ?_
        repeat (go_big_quiet_step ((first | (go_at_call 83; exact Calls.quiet_of_old (NN.out _)) | (go_at_call 82; exact Calls.quiet_of_old (VV.out _)))))
        refine wpQuiet_nil ?_
        intro _ hpq
        obtain ⟨pq, hpq'⟩ := hpq
        subst hpq'
        go_wp2_with fail
        go_roundw
        case rel =>
         refine ⟨j + 1 + 1, by omega, by go_num, fun i hi => ?_, HW.out.2.trans (HW.out.1.trans pq.old)⟩
         rcases Nat.lt_or_ge i (j + 1) with h | h
         ·exact HR.out i h
         ·obtain rfl : i = j + 1 := by omega
          simp [okAt, HX.out, HN.out, HV.out, HXJ.out, HB.out]
        case measure => simp [intOf]; try omega
   ·have hok : attrsOk l = true := attrsOk_true fun i hi => HR.out i (by omega)
    have hw0 : wr.heap[w.heap.size]? = some (.cells #[.string key, .slice (some ⟨b, o, none⟩) l.length c] 33 (0, 0)) := (HO.out.block _ (by simp) (fun f => f)).trans (heap_alloc_new _ _)
    have n0 : wr.cell? ⟨w.heap.size, 0, none⟩ = some (.string key) := by simp [World.cell?, hw0]
    have n1 : wr.cell? ⟨w.heap.size, 1, none⟩ = some (.slice (some ⟨b, o, none⟩) l.length c) := by simp [World.cell?, hw0]
    have HK := Lib.hid hok
    clear hok hw0
    by_cases hs : key.size ≤ 16
    ·have d1 : decide ((key.size : Int) ≤ 16) = true := by simp; omega
     go_wp2_with fail
     go_ret
     refine ⟨ret_bool ?_, ((Keeps.refl _ _).alloc _).trans HO.out⟩
     simp [evOk, HK.out, hs]
     omega
    ·have d1 : decide ((key.size : Int) ≤ 16) = false := by simp; omega
     go_wp2_with fail
     go_ret
     refine ⟨ret_bool ?_, ((Keeps.refl _ _).alloc _).trans HO.out⟩
     simp [evOk, hs]
 ·obtain ⟨rfl, p, c, rfl⟩ := h.at0 (by omega)
  clear h hl
  by_cases hs : key.size ≤ 16
  ·have d1 : decide ((key.size : Int) ≤ 16) = true := by simp; omega
   go_enter Try.func70, Try.ntmps70
   go_wp2_with fail
   go_loopw [8] (fun v8 wr => v8 = .int .i64 0 ∧ wr = w.alloc (.cells #[.string key, .slice p 0 c] 33)) (fun _ _ => 0)
   case atStart => exact ⟨rfl, rfl⟩
   case round =>
    obtain ⟨rfl, rfl⟩ := hrel
    go_wp2_with fail
    go_ret
    refine ⟨ret_bool ?_, (Keeps.refl _ _).alloc _⟩
    simp [evOk, hs, attrsOk]
  ·have d1 : decide ((key.size : Int) ≤ 16) = false := by simp; omega
   go_enter Try.func70, Try.ntmps70
   go_wp2_with fail
   go_loopw [8] (fun v8 wr => v8 = .int .i64 0 ∧ wr = w.alloc (.cells #[.string key, .slice p 0 c] 33)) (fun _ _ => 0)
   case atStart => exact ⟨rfl, rfl⟩
   case round =>
    obtain ⟨rfl, rfl⟩ := hrel
    go_wp2_with fail
    go_ret
    refine ⟨ret_bool ?_, (Keeps.refl _ _).alloc _⟩
    simp [evOk, hs, attrsOk]
end Go.Proofs.Ytiednihagnehlaa

namespace Go.Proofs.Ytiednihagnehlaa
open Go.RowKit

theorem lt_of_heap {w : World} {b : Nat} {o : Obj} (h : w.heap[b]? = some o) : b < w.heap.size := (Array.getElem?_eq_some_iff.1 h).1
/-- a value's form -/
def valForm (v : Val) : List UInt8 :=
 if v.kind = 1 then form 1 ++ form (zigN v.num) else if v.kind = 2 then form 2 ++ form v.str.size ++ v.str.toList else form 3 ++ form (if v.is then 1 else 0)

end Go.Proofs.Ytiednihagnehlaa
