/- DERIVED. Values: the program's May. · DERIVED. Events: what may be (layer 2), the program's and the document's answer. -/
import Derived.Test.YtehmlaplodjenaaGreatYpTopDual01
import Derived.ChangeKeysEq
import Derived.Deep.RegionWith
import Derived.Deep.RegionHeld3
set_option maxRecDepth 100000
namespace Go.Proofs.YtehmlaplodjenaaGreat
section
open Go.RowKit
theorem empty_eq (s : ByteArray) : (s == (⟨#[]⟩ : ByteArray)) = s.toList.isEmpty := by
 rw [ByteArray.toList_eq]
 obtain ⟨⟨l⟩⟩ := s
 cases l <;> rfl
theorem bytes_self (s : ByteArray) : (s == s) = true := by
 obtain ⟨⟨l⟩⟩ := s
 show (Array.instBEq.beq _ _) = true
 simp
theorem val_any (v : Val) (w : World) : Calls Tryz.prog 21 #[.agg v.cells] w fun e w' => e = .returned (.bool v.ok) ∧ Old w w' := by
 obtain ⟨k, n, s, b⟩ := v
 have C := fun w => has_any ⟨k, n, s, b⟩ w
 unfold Val.cells at C ⊢
 unfold Val.ok
 simp only [] at C ⊢
 by_cases h1 : k = 1
 ·subst h1
  simp only [if_true] at C
  have CC := Lib.hid C
  clear C
  have ta : ∀ W, (Instr.typeAssert (.iface 2 (.int .i64 n)) 20 2 true).run Tryz.prog W = .ok (.tuple #[.int .i64 n, .bool true]) W := fun W => rfl
  have te := fun W => eql_val 1 1 n n s ⟨#[]⟩ b false W
  go_enter Tryz.func21, Tryz.ntmps21
  go_wp2_with fail
  refine (CC.out _).mono ?_
  rintro e w1 ⟨rfl, hk1⟩
  have m1 : w1.heap[w.heap.size]? = some (.cells #[.int .i64 1, .int .i64 n, .string s, .bool b] 61 (0, 0)) := (hk1.block _ (by simp) (fun f => f)).trans (heap_alloc_new _ _)
  have M := Lib.hid m1
  have K := Lib.hid hk1
  clear hk1 m1
  go_wp2_with fail
  have c0 := OldOf.cell (show w1.cell? ⟨w.heap.size, 0, none⟩ = some (.int .i64 1) from by simp [World.cell?, M.out])
  have c1 := OldOf.cell (show w1.cell? ⟨w.heap.size, 1, none⟩ = some (.int .i64 n) from by simp [World.cell?, M.out])
  have c2 := OldOf.cell (show w1.cell? ⟨w.heap.size, 2, none⟩ = some (.string s) from by simp [World.cell?, M.out])
  have c3 := OldOf.cell (show w1.cell? ⟨w.heap.size, 3, none⟩ = some (.bool b) from by simp [World.cell?, M.out])
  refine wp_region_quiet_old (by kernel_rfl) (by kernel_rfl) ?_
  repeat (go_big_quiet_step ((first | (go_at_call 53; refine Calls.quiet_of_old (number_any _ _)))))
  refine wpQuiet_nil ?_
  intro _ hpq
  obtain ⟨pq, hpq'⟩ := hpq
  subst hpq'
  go_wp2_with fail
  go_ret
  exact ⟨by simp [empty_eq], (((Keeps.refl _ _).alloc _).trans K.out).trans pq.old⟩
 ·by_cases h2 : k = 2
  ·subst h2
   simp only [h1, if_true, if_false] at C
   have ta_int64 : ∀ W, (Instr.typeAssert (.iface 9 (.string s)) 20 2 true).run Tryz.prog W = .ok (.tuple #[.int .i64 0, .bool false]) W := fun W => rfl
   have ta_string : ∀ W, (Instr.typeAssert (.iface 9 (.string s)) 20 9 true).run Tryz.prog W = .ok (.tuple #[.string s, .bool true]) W := fun W => rfl
   have te := fun W => eql_val 2 2 n 0 s s b false W
   rw [bytes_self] at te
   cases hg : (n == 0 && !b)
   ·have te' : ∀ W, (binOp .eql 61 (.agg #[.int .i64 2, .int .i64 n, .string s, .bool b]) (.agg #[.int .i64 2, .int .i64 0, .string s, .bool false])).run Tryz.prog W = .ok (.bool false) W := fun W => by rw [te W]; cases b <;> simp_all
    clear te
    have CC := Lib.hid C
    clear C
    go_enter Tryz.func21, Tryz.ntmps21
    go_wp2_with fail
    refine (CC.out _).mono ?_
    rintro e w1 ⟨rfl, hk1⟩
    have m1 : w1.heap[w.heap.size]? = some (.cells #[.int .i64 2, .int .i64 n, .string s, .bool b] 61 (0, 0)) := (hk1.block _ (by simp) (fun f => f)).trans (heap_alloc_new _ _)
    have M := Lib.hid m1
    have K := Lib.hid hk1
    clear hk1 m1
    go_wp2_with fail
    have c0 := OldOf.cell (show w1.cell? ⟨w.heap.size, 0, none⟩ = some (.int .i64 2) from by simp [World.cell?, M.out])
    have c1 := OldOf.cell (show w1.cell? ⟨w.heap.size, 1, none⟩ = some (.int .i64 n) from by simp [World.cell?, M.out])
    have c2 := OldOf.cell (show w1.cell? ⟨w.heap.size, 2, none⟩ = some (.string s) from by simp [World.cell?, M.out])
    have c3 := OldOf.cell (show w1.cell? ⟨w.heap.size, 3, none⟩ = some (.bool b) from by simp [World.cell?, M.out])
    refine wp_region_quiet_old (by kernel_rfl) (by kernel_rfl) ?_
    repeat (go_big_quiet_step ((first | (go_at_call 54; refine Calls.quiet_of_old (word_any _ _)))))
    refine wpQuiet_nil ?_
    intro _ hpq
    obtain ⟨pq, hpq'⟩ := hpq
    subst hpq'
    go_wp2_with fail
    go_ret
    exact ⟨by simp_all <;> omega, (((Keeps.refl _ _).alloc _).trans K.out).trans pq.old⟩
   ·have te' : ∀ W, (binOp .eql 61 (.agg #[.int .i64 2, .int .i64 n, .string s, .bool b]) (.agg #[.int .i64 2, .int .i64 0, .string s, .bool false])).run Tryz.prog W = .ok (.bool true) W := fun W => by rw [te W]; cases b <;> simp_all
    clear te
    have CC := Lib.hid C
    clear C
    go_enter Tryz.func21, Tryz.ntmps21
    go_wp2_with fail
    refine (CC.out _).mono ?_
    rintro e w1 ⟨rfl, hk1⟩
    have m1 : w1.heap[w.heap.size]? = some (.cells #[.int .i64 2, .int .i64 n, .string s, .bool b] 61 (0, 0)) := (hk1.block _ (by simp) (fun f => f)).trans (heap_alloc_new _ _)
    have M := Lib.hid m1
    have K := Lib.hid hk1
    clear hk1 m1
    go_wp2_with fail
    have c0 := OldOf.cell (show w1.cell? ⟨w.heap.size, 0, none⟩ = some (.int .i64 2) from by simp [World.cell?, M.out])
    have c1 := OldOf.cell (show w1.cell? ⟨w.heap.size, 1, none⟩ = some (.int .i64 n) from by simp [World.cell?, M.out])
    have c2 := OldOf.cell (show w1.cell? ⟨w.heap.size, 2, none⟩ = some (.string s) from by simp [World.cell?, M.out])
    have c3 := OldOf.cell (show w1.cell? ⟨w.heap.size, 3, none⟩ = some (.bool b) from by simp [World.cell?, M.out])
    refine wp_region_quiet_old (by kernel_rfl) (by kernel_rfl) ?_
    repeat (go_big_quiet_step ((first | (go_at_call 54; refine Calls.quiet_of_old (word_any _ _)))))
    refine wpQuiet_nil ?_
    intro _ hpq
    obtain ⟨pq, hpq'⟩ := hpq
    subst hpq'
    go_wp2_with fail
    go_ret
    exact ⟨by simp_all <;> omega, (((Keeps.refl _ _).alloc _).trans K.out).trans pq.old⟩
  ·by_cases h3 : k = 3
   ·subst h3
    simp only [h1, h2, if_true, if_false] at C
    have ta_int64 : ∀ W, (Instr.typeAssert (.iface 4 (.bool b)) 20 2 true).run Tryz.prog W = .ok (.tuple #[.int .i64 0, .bool false]) W := fun W => rfl
    have ta_string : ∀ W, (Instr.typeAssert (.iface 4 (.bool b)) 20 9 true).run Tryz.prog W = .ok (.tuple #[.string ⟨#[]⟩, .bool false]) W := fun W => rfl
    have ta_bool : ∀ W, (Instr.typeAssert (.iface 4 (.bool b)) 20 4 true).run Tryz.prog W = .ok (.tuple #[.bool b, .bool true]) W := fun W => rfl
    have te := fun W => eql_val 3 3 n 0 s ⟨#[]⟩ b b W
    have CC := Lib.hid C
    clear C
    go_enter Tryz.func21, Tryz.ntmps21
    go_wp2_with fail
    refine (CC.out _).mono ?_
    rintro e w1 ⟨rfl, hk1⟩
    have m1 : w1.heap[w.heap.size]? = some (.cells #[.int .i64 3, .int .i64 n, .string s, .bool b] 61 (0, 0)) := (hk1.block _ (by simp) (fun f => f)).trans (heap_alloc_new _ _)
    have M := Lib.hid m1
    have K := Lib.hid hk1
    clear hk1 m1
    go_wp2_with fail
    have c0 := OldOf.cell (show w1.cell? ⟨w.heap.size, 0, none⟩ = some (.int .i64 3) from by simp [World.cell?, M.out])
    have c1 := OldOf.cell (show w1.cell? ⟨w.heap.size, 1, none⟩ = some (.int .i64 n) from by simp [World.cell?, M.out])
    have c2 := OldOf.cell (show w1.cell? ⟨w.heap.size, 2, none⟩ = some (.string s) from by simp [World.cell?, M.out])
    have c3 := OldOf.cell (show w1.cell? ⟨w.heap.size, 3, none⟩ = some (.bool b) from by simp [World.cell?, M.out])
    refine wp_region_quiet_old (by kernel_rfl) (by kernel_rfl) ?_
    repeat (go_big_quiet_step ((first | (go_at_call 55; refine Calls.quiet_of_old (truth_any _ _)))))
    refine wpQuiet_nil ?_
    intro _ hpq
    obtain ⟨pq, hpq'⟩ := hpq
    subst hpq'
    go_wp2_with fail
    go_ret
    exact ⟨by by_cases h : n = 0 <;> simp_all [empty_eq], (((Keeps.refl _ _).alloc _).trans K.out).trans pq.old⟩
   ·simp only [h1, h2, h3, if_false] at C
    have ta_int64 : ∀ W, (Instr.typeAssert .nilIface 20 2 true).run Tryz.prog W = .ok (.tuple #[.int .i64 0, .bool false]) W := fun W => rfl
    have ta_string : ∀ W, (Instr.typeAssert .nilIface 20 9 true).run Tryz.prog W = .ok (.tuple #[.string ⟨#[]⟩, .bool false]) W := fun W => rfl
    have ta_bool : ∀ W, (Instr.typeAssert .nilIface 20 4 true).run Tryz.prog W = .ok (.tuple #[.bool false, .bool false]) W := fun W => rfl
    have CC := Lib.hid C
    clear C
    go_enter Tryz.func21, Tryz.ntmps21
    go_wp2_with fail
    refine (CC.out _).mono ?_
    rintro e w1 ⟨rfl, hk1⟩
    have m1 : w1.heap[w.heap.size]? = some (.cells #[.int .i64 k, .int .i64 n, .string s, .bool b] 61 (0, 0)) := (hk1.block _ (by simp) (fun f => f)).trans (heap_alloc_new _ _)
    have M := Lib.hid m1
    have K := Lib.hid hk1
    clear hk1 m1
    go_wp2_with fail
    go_ret
    exact ⟨by simp_all, ((Keeps.refl _ _).alloc _).trans K.out⟩
end
section
open Go.RowKit
structure At where
 name : ByteArray
 val : Val
def At.cells (a : At) : List Value := [.string a.name, .int .i64 a.val.kind, .int .i64 a.val.num, .string a.val.str, .bool a.val.is]
abbrev SeesA (w : World) (v : Value) (l : List At) : Prop := SeesR w 5 At.cells v l
def okAt (l : List At) (i : Nat) : Bool :=
 match l[i]? with
 | none => true
 | some a => nameOk a.name.toList && a.val.ok && (i == 0 || match l[i - 1]? with | none => true | some b => Op.bytesLess b.name.toList a.name.toList)
def attrsOk (l : List At) : Bool := (List.range l.length).all (okAt l)
def evOk (key : ByteArray) (l : List At) : Bool := decide (key.size ≤ 16) && decide (l.length ≤ 8) && attrsOk l
theorem attrsOk_false {l : List At} {i : Nat} (hi : i < l.length) (h : okAt l i = false) : attrsOk l = false := by
 unfold attrsOk; rw [List.all_eq_false]; exact ⟨i, by simpa using hi, by simp [h]⟩
theorem attrsOk_true {l : List At} (h : ∀ i, i < l.length → okAt l i = true) : attrsOk l = true := by
 unfold attrsOk; rw [List.all_eq_true]; intro i hi; exact h i (by simpa using hi)
theorem ev_may_any (key : ByteArray) (v : Value) (l : List At) (w : World) (h : SeesA w v l) :
  Calls Tryz.prog 7 #[.agg #[.string key, v]] w fun e w' => e = .returned (.bool (evOk key l)) ∧ Old w w' := by
 by_cases hl : 0 < l.length
 ·obtain ⟨b, o, c, rfl, h1, h2, hc⟩ := h.at hl
  have hm : l.length ≤ 9223372036854775807 := by unfold maxLen at h2; omega
  have HC := Lib.hid hc
  clear h1 h2 h hc hl
  go_enter Tryz.func7, Tryz.ntmps7
  go_wp2_with fail
  go_loopw [8] (fun v8 wr => ∃ k : Nat, k ≤ l.length ∧ v8 = .int .i64 k ∧ (∀ i, i < k → okAt l i = true) ∧ Old (w.alloc (.cells #[.string key, .slice (some ⟨b, o, none⟩) l.length c] 33)) wr) (fun v8 _ => l.length - (intOf v8).toNat)
  case atStart => exact ⟨0, by omega, rfl, by intro i hi; omega, Keeps.refl _ _⟩
  case round =>
   obtain ⟨k, hk, rfl, hr, hold⟩ := hrel
   have HR := Lib.hid hr
   have HO := Lib.hid hold
   clear hr hold
   by_cases hlt : k < l.length
   ·have hx : l[k]? = some l[k] := List.getElem?_eq_getElem hlt
    generalize hak : l[k] = a at hx
    have cell : ∀ i u, a.cells[i]? = some u → wr.cell? ⟨b, o + k * 5 + i, none⟩ = some u := fun i u hu =>
     HO.out.cell (((Keeps.refl (fun _ => False) _).alloc _).cell (HC.out k a hx i u hu) (fun f => f)) (fun f => f)
    have c0 := cell 0 _ rfl
    have c1 := cell 1 _ rfl
    have c2 := cell 2 _ rfl
    have c3 := cell 3 _ rfl
    have c4 := cell 4 _ rfl
    simp only [Nat.add_zero] at c0
    have HX := Lib.hid hx
    clear cell hx hak
    go_wp2_with fail
    have hw0 : wr.heap[w.heap.size]? = some (.cells #[.string key, .slice (some ⟨b, o, none⟩) l.length c] 33 (0, 0)) := (HO.out.block _ (by simp) (fun f => f)).trans (heap_alloc_new _ _)
    have hsz : w.heap.size < wr.heap.size := by have := HO.out.size; simp at this; omega
    generalize hW : wr.alloc (.cells #[.string a.name, .int .i64 a.val.kind, .int .i64 a.val.num, .string a.val.str, .bool a.val.is] 63) = W1
    have hW1 : Old wr W1 := by rw [← hW]; exact (Keeps.refl _ _).alloc _
    have m0 : W1.heap[wr.heap.size]? = some (.cells #[.string a.name, .int .i64 a.val.kind, .int .i64 a.val.num, .string a.val.str, .bool a.val.is] 63 (0, 0)) := by rw [← hW]; exact heap_alloc_new _ _
    have m1 := (hW1.block _ hsz (fun f => f)).trans hw0
    have n0 := OldOf.cell (show W1.cell? ⟨wr.heap.size, 0, none⟩ = some (.string a.name) from by simp [World.cell?, m0])
    have n1 := OldOf.cell (show W1.cell? ⟨wr.heap.size, 1, none⟩ = some (.int .i64 a.val.kind) from by simp [World.cell?, m0])
    have n2 := OldOf.cell (show W1.cell? ⟨wr.heap.size, 2, none⟩ = some (.int .i64 a.val.num) from by simp [World.cell?, m0])
    have n3 := OldOf.cell (show W1.cell? ⟨wr.heap.size, 3, none⟩ = some (.string a.val.str) from by simp [World.cell?, m0])
    have n4 := OldOf.cell (show W1.cell? ⟨wr.heap.size, 4, none⟩ = some (.bool a.val.is) from by simp [World.cell?, m0])
    have n5 := OldOf.cell (show W1.cell? ⟨w.heap.size, 1, none⟩ = some (.slice (some ⟨b, o, none⟩) l.length c) from by simp [World.cell?, m1])
    have HW := Lib.hid (And.intro hW1 HO.out)
    clear hw0 hsz hW hW1 m0 m1 c0 c1 c2 c3 c4
    have N := fun W => name_any a.name W
    have V := fun W => val_any a.val W
    unfold Val.cells at V
    cases hn : nameOk a.name.toList
    ·rw [hn] at N
     have NN := Lib.hid N
     have HN := Lib.hid hn
     clear N V hn
     refine wp_region_quiet_old (by kernel_rfl) (by kernel_rfl) ?_
     repeat (go_big_quiet_step (((go_at_call 20; exact Calls.quiet_of_old (NN.out _)))))
     refine wpQuiet_nil ?_
     intro _ hpq
     obtain ⟨pq, hpq'⟩ := hpq
     subst hpq'
     go_wp2_with fail
     go_ret
     refine ⟨ret_bool ?_, ((Keeps.refl _ _).alloc _).trans (HW.out.2.trans (HW.out.1.trans pq.old))⟩
     rw [evOk, attrsOk_false hlt (by simp [okAt, HX.out, HN.out]), Bool.and_false]
    ·rw [hn] at N
     have NN := Lib.hid N
     have HN := Lib.hid hn
     clear N hn
     cases hv : a.val.ok
     ·rw [hv] at V
      have VV := Lib.hid V
      have HV := Lib.hid hv
      clear V hv
      refine wp_region_quiet_old (by kernel_rfl) (by kernel_rfl) ?_
      repeat (go_big_quiet_step ((first | (go_at_call 20; exact Calls.quiet_of_old (NN.out _)) | (go_at_call 21; exact Calls.quiet_of_old (VV.out _)))))
      refine wpQuiet_nil ?_
      intro _ hpq
      obtain ⟨pq, hpq'⟩ := hpq
      subst hpq'
      go_wp2_with fail
      go_ret
      refine ⟨ret_bool ?_, ((Keeps.refl _ _).alloc _).trans (HW.out.2.trans (HW.out.1.trans pq.old))⟩
      rw [evOk, attrsOk_false hlt (by simp [okAt, HX.out, HN.out, HV.out]), Bool.and_false]
     ·rw [hv] at V
      have VV := Lib.hid V
      have HV := Lib.hid hv
      clear V hv
      rcases k with _ | j
      ·refine wp_region_quiet_old (by kernel_rfl) (by kernel_rfl) ?_
       repeat (go_big_quiet_step ((first | (go_at_call 20; exact Calls.quiet_of_old (NN.out _)) | (go_at_call 21; exact Calls.quiet_of_old (VV.out _)))))
       refine wpQuiet_nil ?_
       intro _ hpq
       obtain ⟨pq, hpq'⟩ := hpq
       subst hpq'
       go_wp2_with fail
       go_roundw
       case rel =>
        refine ⟨1, by omega, by go_num, fun i hi => ?_, HW.out.2.trans (HW.out.1.trans pq.old)⟩
        obtain rfl : i = 0 := by omega
        simp [okAt, HX.out, HN.out, HV.out]
       case measure => simp [intOf]; try omega
      ·have hxj : l[j]? = some l[j] := List.getElem?_eq_getElem (by omega)
       generalize hbj : l[j] = a' at hxj
       have p0 : W1.cell? ⟨b, o + j * 5, none⟩ = some (.string a'.name) := HW.out.1.cell (HW.out.2.cell (((Keeps.refl (fun _ => False) _).alloc _).cell (HC.out j a' hxj 0 _ rfl) (fun f => f)) (fun f => f)) (fun f => f)
       have q0 := OldOf.cell p0
       have HXJ := Lib.hid hxj
       have i1 : IntKind.i64.wrap ((j : Int)) = (j : Int) := by rw [IntKind.wrap_i64]; omega
       have i2 : (0 : Int) ≤ (j : Int) := by omega
       have i3 : (j : Int) < (l.length : Int) := by omega
       have i4 : decide (0 < (j : Int) + 1) = true := by simp <;> omega
       have HI := Lib.hid (And.intro hk hlt)
       clear p0 hxj hbj
       cases hb : Op.bytesLess a'.name.toList a.name.toList
       all_goals have HB := Lib.hid hb
       ·refine wp_region_quiet_old (by kernel_rfl) (by kernel_rfl) ?_
        repeat (go_big_quiet_step ((first | (go_at_call 20; exact Calls.quiet_of_old (NN.out _)) | (go_at_call 21; exact Calls.quiet_of_old (VV.out _)))))
        refine wpQuiet_nil ?_
        intro _ hpq
        obtain ⟨pq, hpq'⟩ := hpq
        subst hpq'
        go_wp2_with fail
        go_ret
        refine ⟨ret_bool ?_, ((Keeps.refl _ _).alloc _).trans (HW.out.2.trans (HW.out.1.trans pq.old))⟩
        rw [evOk, attrsOk_false HI.out.2 (by simp [okAt, HX.out, HN.out, HV.out, HXJ.out, HB.out]), Bool.and_false]
       ·refine wp_region_quiet_old (by kernel_rfl) (by kernel_rfl) ?_
        repeat (go_big_quiet_step ((first | (go_at_call 20; exact Calls.quiet_of_old (NN.out _)) | (go_at_call 21; exact Calls.quiet_of_old (VV.out _)))))
        refine wpQuiet_nil ?_
        intro _ hpq
        obtain ⟨pq, hpq'⟩ := hpq
        subst hpq'
        go_wp2_with fail
        go_roundw
        case rel =>
         refine ⟨j + 1 + 1, by omega, by go_num, fun i hi => ?_, HW.out.2.trans (HW.out.1.trans pq.old)⟩
         rcases Nat.lt_or_ge i (j + 1) with h | h
         ·exact HR.out i h
         ·obtain rfl : i = j + 1 := by omega
          simp [okAt, HX.out, HN.out, HV.out, HXJ.out, HB.out]
        case measure => simp [intOf]; try omega
   ·have hok : attrsOk l = true := attrsOk_true fun i hi => HR.out i (by omega)
    have hw0 : wr.heap[w.heap.size]? = some (.cells #[.string key, .slice (some ⟨b, o, none⟩) l.length c] 33 (0, 0)) := (HO.out.block _ (by simp) (fun f => f)).trans (heap_alloc_new _ _)
    have n0 : wr.cell? ⟨w.heap.size, 0, none⟩ = some (.string key) := by simp [World.cell?, hw0]
    have n1 : wr.cell? ⟨w.heap.size, 1, none⟩ = some (.slice (some ⟨b, o, none⟩) l.length c) := by simp [World.cell?, hw0]
    have HK := Lib.hid hok
    clear hok hw0
    by_cases hs : key.size ≤ 16
    ·have d1 : decide ((key.size : Int) ≤ 16) = true := by simp; omega
     go_wp2_with fail
     go_ret
     refine ⟨ret_bool ?_, ((Keeps.refl _ _).alloc _).trans HO.out⟩
     simp [evOk, HK.out, hs]
     omega
    ·have d1 : decide ((key.size : Int) ≤ 16) = false := by simp; omega
     go_wp2_with fail
     go_ret
     refine ⟨ret_bool ?_, ((Keeps.refl _ _).alloc _).trans HO.out⟩
     simp [evOk, hs]
 ·obtain ⟨rfl, p, c, rfl⟩ := h.at0 (by omega)
  clear h hl
  by_cases hs : key.size ≤ 16
  ·have d1 : decide ((key.size : Int) ≤ 16) = true := by simp; omega
   go_enter Tryz.func7, Tryz.ntmps7
   go_wp2_with fail
   go_loopw [8] (fun v8 wr => v8 = .int .i64 0 ∧ wr = w.alloc (.cells #[.string key, .slice p 0 c] 33)) (fun _ _ => 0)
   case atStart => exact ⟨rfl, rfl⟩
   case round =>
    obtain ⟨rfl, rfl⟩ := hrel
    go_wp2_with fail
    go_ret
    refine ⟨ret_bool ?_, (Keeps.refl _ _).alloc _⟩
    simp [evOk, hs, attrsOk]
  ·have d1 : decide ((key.size : Int) ≤ 16) = false := by simp; omega
   go_enter Tryz.func7, Tryz.ntmps7
   go_wp2_with fail
   go_loopw [8] (fun v8 wr => v8 = .int .i64 0 ∧ wr = w.alloc (.cells #[.string key, .slice p 0 c] 33)) (fun _ _ => 0)
   case atStart => exact ⟨rfl, rfl⟩
   case round =>
    obtain ⟨rfl, rfl⟩ := hrel
    go_wp2_with fail
    go_ret
    refine ⟨ret_bool ?_, (Keeps.refl _ _).alloc _⟩
    simp [evOk, hs, attrsOk]
end
section
open Go.RowKit
theorem lt_of_heap {w : World} {b : Nat} {o : Obj} (h : w.heap[b]? = some o) : b < w.heap.size := (Array.getElem?_eq_some_iff.1 h).1
end
section
open Go.RowKit
def Fits (l : List At) : Prop := ∀ a ∈ l, a.name.size ≤ 9223372036854775807 ∧ -9223372036854775808 ≤ a.val.num ∧ a.val.num ≤ 9223372036854775807
end
section
end
section
open Go.RowKit
theorem two_blocks (w : World) (o1 o2 : Obj) : ((w.alloc o1).alloc o2).heap[w.heap.size]? = some o1 ∧ ((w.alloc o1).alloc o2).heap[w.heap.size + 1]? = some o2 := by
 have h1 := heap_alloc_new w o1
 have h2 := heap_alloc_new (w.alloc o1) o2
 have s1 : (w.alloc o1).heap.size = w.heap.size + 1 := by simp
 rw [s1] at h2
 exact ⟨(heap_alloc_old _ _ (by rw [s1]; omega)).trans h1, h2⟩
def eqAt (a b : At) : Bool := (a.name == b.name) && (a.val.kind == b.val.kind && (a.val.num == b.val.num && (a.val.str == b.val.str && a.val.is == b.val.is)))
def sameAt (l m : List At) (i : Nat) : Bool := match l[i]?, m[i]? with | some a, some b => eqAt a b | _, _ => true
def sameL (l m : List At) : Bool := decide (l.length = m.length) && (List.range l.length).all (sameAt l m)
def sameE (k : ByteArray) (l : List At) (k' : ByteArray) (m : List At) : Bool := (k.toList == k'.toList) && sameL l m
end
section
theorem Val.kinds {v : Val} (hv : v.ok = true) : v.kind = 1 ∨ v.kind = 2 ∨ v.kind = 3 := by
 unfold Val.ok at hv
 by_cases h1 : v.kind = 1
 ·exact .inl h1
 ·by_cases h2 : v.kind = 2
  ·exact .inr (.inl h2)
  ·simp [h1, h2] at hv; exact .inr (.inr hv.1.1)
def VFits (v : Val) : Prop := -9223372036854775808 ≤ v.num ∧ v.num ≤ 9223372036854775807
section
variable {α : Type} {p : List UInt8 → Option (α × List UInt8)} {f : α → List UInt8} {ok : α → Prop} {good : α → Prop}
end
end
section
open Go.RowKit
end
section
open Go.RowKit
theorem blk1 {w : World} {b : Nat} {t : TypeId} {a0 : Value} (h : w.heap[b]? = some (.cells #[a0] t (0, 0))) : w.cell? ⟨b, 0, none⟩ = some a0 ∧ w.frozen? ⟨b, 0, none⟩ = false := by simp [World.cell?, World.frozen?, h]
theorem blk4 {w : World} {b : Nat} {t : TypeId} {a0 a1 a2 a3 : Value} (h : w.heap[b]? = some (.cells #[a0, a1, a2, a3] t (0, 0))) :
  (w.cell? ⟨b, 0, none⟩ = some a0 ∧ w.cell? ⟨b, 1, none⟩ = some a1 ∧ w.cell? ⟨b, 2, none⟩ = some a2 ∧ w.cell? ⟨b, 3, none⟩ = some a3) ∧
  (w.frozen? ⟨b, 0, none⟩ = false ∧ w.frozen? ⟨b, 1, none⟩ = false ∧ w.frozen? ⟨b, 2, none⟩ = false ∧ w.frozen? ⟨b, 3, none⟩ = false) := by simp [World.cell?, World.frozen?, h]
end
section
open Go.RowKit
end
section
open Go.RowKit
section
variable {P : Program} {ops : Array Oper} {Q : Exit → Act → World → Prop} {md : Region.Mode} {S : World → Prop} {M : List Nat}
def wpAnyG (P : Program) (md : Region.Mode) (ops : Array Oper) (Q : Exit → Act → World → Prop) (S : World → Prop) (M : List Nat) : Nat → Array Bool → Act → World → Prop
 | 0, listed, a, w => Region.ready md ops listed = [] ∧ Q .normal a w
 | fuel + 1, listed, a, w =>
  (Region.ready md ops listed = [] → Q .normal a w) ∧
  ∀ i ∈ Region.ready md ops listed, wpOp P ops Q i (fun a' w' => (M.contains i = true → S w') ∧ wpAnyG P md ops Q S M fuel (listed.setIfInBounds i true) a' w') a w
theorem wpAny_of_g : ∀ (fuel : Nat) (listed : Array Bool) (a : Act) (w : World), wpAnyG P md ops Q S M fuel listed a w → wpAny P md ops Q fuel listed a w
 | 0, _, _, _, h => h
 | fuel + 1, _, _, _, h => ⟨h.1, fun i hi => wpOp_mono (fun a' w' h' => wpAny_of_g fuel _ a' w' h'.2) (h.2 i hi)⟩
def othersWait (md : Region.Mode) (ops : Array Oper) (M : List Nat) (i : Nat) : Bool :=
 (List.range ops.size).all fun j => M.contains j || (j == i || match ops[j]? with | some o => o.after.any (fun e => Region.binds md e && e.on == i) | none => true)
theorem othersWait_spec {i j : Nat} {o : Oper} (h : othersWait md ops M i = true) (ho : ops[j]? = some o) (hj : M.contains j = false) (hne : j ≠ i) : ∃ e ∈ o.after, Region.binds md e = true ∧ e.on = i := by
 unfold othersWait at h
 rw [List.all_eq_true] at h
 have := h j (by rw [List.mem_range]; exact (Array.getElem?_eq_some_iff.1 ho).1)
 rw [hj, ho] at this
 have hb : (j == i) = false := by simp [hne]
 rw [hb] at this
 simp only [Bool.false_or] at this
 obtain ⟨e, he, hb⟩ := Array.any_eq_true'.1 this
 simp only [Bool.and_eq_true, beq_iff_eq] at hb
 exact ⟨e, he, hb.1, hb.2⟩
theorem wpAnyG_first {i : Nat} {oi : Oper} {v : Value} (hi : ops[i]? = some oi) (hsel : ∀ (j : Nat) (o : Oper) cs b, ops[j]? = some o → o.op ≠ .select cs b)
  (hM : othersWait md ops M i = true)
  (hQ : ∀ c a w, Q (.panic c) (a.put oi.dst v) w → Q (.panic c) a w) :
  ∀ (fuel : Nat) (listed : Array Bool) (a : Act) (w : World),
   (∀ j oj, ops[j]? = some oj → j ≠ i → listed.getD j true = false → (∀ e ∈ oj.after, Region.binds md e = true → e.on ≠ i) → oi.apart ops oj = true) →
   i ∈ Region.ready md ops listed → YieldsIf P ops S oi v a → S w →
   wpAnyG P md ops Q S M fuel (listed.setIfInBounds i true) (a.put oi.dst v) w → wpAnyG P md ops Q S M (fuel + 1) listed a w := by
 intro fuel
 induction fuel with
 | zero =>
  intro listed a w _ hr hy hS H
  refine ⟨fun h => (by rw [h] at hr; cases hr), fun j hj => ?_⟩
  by_cases hji : j = i
  ·subst hji; exact hy.wpOp hi hS ⟨fun _ => hS, H⟩
  ·have := ready_mono hj hji
   rw [H.1] at this
   cases this
 | succ fuel ih =>
  intro listed a w hfree hr hy hS H
  refine ⟨fun h => (by rw [h] at hr; cases hr), fun j hj => ?_⟩
  by_cases hji : j = i
  ·subst hji; exact hy.wpOp hi hS ⟨fun _ => hS, H⟩
  ·have h1 := H.2 j (ready_mono hj hji)
   obtain ⟨hjun, oj, hoj, hall⟩ := mem_ready.1 hj
   have hnot : ∀ e ∈ oj.after, Region.binds md e = true → e.on ≠ i := fun e he hb heq => by
    have h1 := hall e he hb
    have h0 := (mem_ready.1 hr).1
    rw [heq] at h1
    rcases Nat.lt_or_ge i listed.size with h' | h'
    ·simp [h'] at h0 h1; rw [h0] at h1; cases h1
    ·simp [Array.getElem?_eq_none h'] at h1
   have hjM : M.contains j = true := by
    cases hc : M.contains j with
    | true => rfl
    | false =>
     obtain ⟨e, he, hb, hon⟩ := othersWait_spec hM hoj hc hji
     exact absurd hon (hnot e he hb)
   have h2 := wpOp_putIf hoj (hfree j oj hoj hji hjun hnot) (fun cs b => hsel i oi cs b hi) (fun cs b => hsel j oj cs b hoj) hQ hy h1
   have hfree' : ∀ k ok, ops[k]? = some ok → k ≠ i → (listed.setIfInBounds j true).getD k true = false →
     (∀ e ∈ ok.after, Region.binds md e = true → e.on ≠ i) → oi.apart ops ok = true := fun k ok hk hki hun hno => by
    refine hfree k ok hk hki ?_ hno
    by_cases hjk : j = k
    ·subst hjk; exact hjun
    ·rw [getD_set_ne true hjk] at hun; exact hun
   refine wpOp_mono (fun a' w' h3 => ⟨h3.2.1, ih (listed.setIfInBounds j true) a' w' hfree' (ready_mono hr (Ne.symm hji)) h3.1 (h3.2.1 hjM) ?_⟩) h2
   rw [Array.setIfInBounds_comm _ _ hji]
   exact h3.2.2
theorem wpAnyG_take {i : Nat} {oi : Oper} {v : Value} {fuel : Nat} {listed : Array Bool} {a : Act} {w : World} (hi : ops[i]? = some oi)
  (hs : Region.noSelect ops = true) (hf : Region.free md ops listed i = true) (hr : (Region.ready md ops listed).contains i = true) (hM : othersWait md ops M i = true)
  (hQ : ∀ c a w, Q (.panic c) (a.put oi.dst v) w → Q (.panic c) a w) (hy : YieldsIf P ops S oi v a) (hS : S w)
  (h : wpAnyG P md ops Q S M fuel (listed.setIfInBounds i true) (a.put oi.dst v) w) : wpAnyG P md ops Q S M (fuel + 1) listed a w :=
 wpAnyG_first hi (Region.noSelect_spec hs) hM hQ fuel listed a w (Region.free_spec hi hf) (by simpa using hr) hy hS h
theorem wpAnyG_done {listed : Array Bool} {a : Act} {w : World} (hr : Region.ready md ops listed = []) (h : Q .normal a w) :
  ∀ fuel, wpAnyG P md ops Q S M fuel listed a w
 | 0 => ⟨hr, h⟩
 | _ + 1 => ⟨fun _ => h, by rw [hr]; simp⟩
theorem wp_region_g {id : Nat} {a : Act} {w : World} (hm : P.follows .mixedOrders = true) (h : wpAnyG P .any ops Q S M ops.size (Array.replicate ops.size false) a w.drew) : (Code.region id ops true).wp P Q a w :=
 wp_region_any hm (wpAny_of_g _ _ _ _ h)
def AllReadyG (P : Program) (md : Region.Mode) (ops : Array Oper) (Q : Exit → Act → World → Prop) (S : World → Prop) (M : List Nat) (fuel : Nat) (listed : Array Bool) (a : Act) (w : World) (rs : List Nat) : Prop :=
 ∀ i ∈ rs, wpOp P ops Q i (fun a' w' => (M.contains i = true → S w') ∧ wpAnyG P md ops Q S M fuel (listed.setIfInBounds i true) a' w') a w
theorem AllReadyG.nil {fuel : Nat} {listed : Array Bool} {a : Act} {w : World} : AllReadyG P md ops Q S M fuel listed a w [] := fun _ h => by cases h
theorem wpAnyG_ready {rs : List Nat} {fuel : Nat} {listed : Array Bool} {a : Act} {w : World} (hr : Region.ready md ops listed = rs) (hne : rs ≠ [])
  (h : AllReadyG P md ops Q S M fuel listed a w rs) : wpAnyG P md ops Q S M (fuel + 1) listed a w :=
 ⟨fun h0 => absurd (hr ▸ h0) hne, hr ▸ h⟩
theorem AllReadyG.cons {fuel : Nat} {listed : Array Bool} {a : Act} {w : World} {i : Nat} {o : Oper} {rs : List Nat} (ho : ops[i]? = some o)
  (h : ∀ K' : Act → World → Prop, Shut (∀ a w, (M.contains i = true → S w) → wpAnyG P md ops Q S M fuel (listed.setIfInBounds i true) a w → K' a w) → if Region.wanted o (yielded ops a.tmps) = true then Oper.wp P o a w K' Q else K' (a.put o.dst undef) w)
  (hs : AllReadyG P md ops Q S M fuel listed a w rs) : AllReadyG P md ops Q S M fuel listed a w (i :: rs) := fun j hj => by
 rcases List.mem_cons.1 hj with rfl | hj
 ·exact wpOp_step ho (fun K' hK => h K' (fun a w hS hW => hK a w ⟨hS, hW⟩))
 ·exact hs j hj
theorem wpAnyG_only {fuel : Nat} {listed : Array Bool} {a : Act} {w : World} {i : Nat} {o : Oper} (hr : Region.ready md ops listed = [i]) (ho : ops[i]? = some o)
  (h : ∀ K' : Act → World → Prop, Shut (∀ a w, (M.contains i = true → S w) → wpAnyG P md ops Q S M fuel (listed.setIfInBounds i true) a w → K' a w) → if Region.wanted o (yielded ops a.tmps) = true then Oper.wp P o a w K' Q else K' (a.put o.dst undef) w) :
  wpAnyG P md ops Q S M (fuel + 1) listed a w := wpAnyG_ready hr (by simp) (AllReadyG.cons ho h AllReadyG.nil)
theorem wpAnyG_takeL {i : Nat} {oi : Oper} {v : Value} {fuel : Nat} {listed : Array Bool} {a : Act} {w : World} (hi : ops.toList[i]? = some oi)
  (hs : Region.noSelect ops = true) (hf : Region.free md ops listed i = true) (hr : (Region.ready md ops listed).contains i = true) (hM : othersWait md ops M i = true)
  (hQ : ∀ c a w, Q (.panic c) (a.put oi.dst v) w → Q (.panic c) a w) (hy : YieldsIf P ops S oi v a) (hS : S w)
  (h : wpAnyG P md ops Q S M fuel (listed.setIfInBounds i true) (a.put oi.dst v) w) : wpAnyG P md ops Q S M (fuel + 1) listed a w :=
 wpAnyG_take (by simpa using hi) hs hf hr hM hQ hy hS h
theorem tkG {i : Nat} {oi : Oper} {v : Value} {fuel : Nat} {listed : Array Bool} {a : Act} {w : World} (hy : ∀ w, S w → (execOp a.eval oi).run P w = .ok (.value v) w) (hS : S w)
  (h : wpAnyG P md ops Q S M fuel (listed.setIfInBounds i true) (a.put oi.dst v) w) (hi : ops.toList[i]? = some oi := by exact rfl)
  (hs : Region.noSelect ops = true := by kernel_rfl) (hf : Region.free md ops listed i = true := by kernel_rfl) (hr : (Region.ready md ops listed).contains i = true := by kernel_rfl) (hM : othersWait md ops M i = true := by kernel_rfl)
  (hQ : ∀ c a w, Q (.panic c) (a.put oi.dst v) w → Q (.panic c) a w := by exact fun _ _ _ h => h) (hw : Region.wanted oi (yielded ops a.tmps) = true := by rfl) : wpAnyG P md ops Q S M (fuel + 1) listed a w :=
 wpAnyG_takeL hi hs hf hr hM hQ (Or.inl ⟨hw, hy⟩) hS h
theorem tnG {i : Nat} {oi : Oper} {fuel : Nat} {listed : Array Bool} {a : Act} {w : World} (hS : S w)
  (h : wpAnyG P md ops Q S M fuel (listed.setIfInBounds i true) (a.put oi.dst undef) w) (hi : ops.toList[i]? = some oi := by exact rfl)
  (hs : Region.noSelect ops = true := by kernel_rfl) (hf : Region.free md ops listed i = true := by kernel_rfl) (hr : (Region.ready md ops listed).contains i = true := by kernel_rfl) (hM : othersWait md ops M i = true := by kernel_rfl)
  (hQ : ∀ c a w, Q (.panic c) (a.put oi.dst undef) w → Q (.panic c) a w := by exact fun _ _ _ h => h) (hw : Region.wanted oi (yielded ops a.tmps) = false := by rfl) : wpAnyG P md ops Q S M (fuel + 1) listed a w :=
 wpAnyG_takeL hi hs hf hr hM hQ (Or.inr ⟨hw, rfl⟩) hS h
theorem wpAnyG_onlyL {fuel : Nat} {listed : Array Bool} {a : Act} {w : World} {i : Nat} {o : Oper} (hr : Region.ready md ops listed = [i]) (ho : ops.toList[i]? = some o)
  (h : ∀ K' : Act → World → Prop, Shut (∀ a w, (M.contains i = true → S w) → wpAnyG P md ops Q S M fuel (listed.setIfInBounds i true) a w → K' a w) → if Region.wanted o (yielded ops a.tmps) = true then Oper.wp P o a w K' Q else K' (a.put o.dst undef) w) :
  wpAnyG P md ops Q S M (fuel + 1) listed a w := wpAnyG_only hr (by simpa using ho) h
end
end
end Go.Proofs.YtehmlaplodjenaaGreat
