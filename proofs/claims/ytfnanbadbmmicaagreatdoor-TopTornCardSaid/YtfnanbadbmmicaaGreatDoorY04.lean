/- DERIVED. Values: the program's May. · DERIVED. Events: what may be (layer 2), the program's and the document's answer. · DERIVED. The contracts of the writer of package codec. -/
import Derived.Test.YtfnanbadbmmicaaGreatDoorY03
import Derived.ChangeKeysEq
import Derived.Test.YtfnanbadbmmicaaGreatDoorY02
import Derived.Deep.RegionWith
namespace Go.Proofs.YtfnanbadbmmicaaGreatDoor
open Go.RowKit

theorem empty_eq (s : ByteArray) : (s == (⟨#[]⟩ : ByteArray)) = s.toList.isEmpty := by
 rw [ByteArray.toList_eq]
 obtain ⟨⟨l⟩⟩ := s
 cases l <;> rfl

theorem bytes_self (s : ByteArray) : (s == s) = true := by
 obtain ⟨⟨l⟩⟩ := s
 show (Array.instBEq.beq _ _) = true
 simp

set_option maxRecDepth 100000 in
theorem val_any (v : Val) (w : World) : Calls Tryz.prog 57 #[.agg v.cells] w fun e w' => e = .returned (.bool v.ok) ∧ Old w w' := by
 obtain ⟨k, n, s, b⟩ := v
 have C := fun w => has_any ⟨k, n, s, b⟩ w
 unfold Val.cells at C ⊢
 unfold Val.ok
 simp only [] at C ⊢
 by_cases h1 : k = 1
 ·subst h1
  simp only [if_true] at C
  have CC := Lib.hid C
  clear C
  have ta : ∀ W, (Instr.typeAssert (.iface 2 (.int .i64 n)) 20 2 true).run Tryz.prog W = .ok (.tuple #[.int .i64 n, .bool true]) W := fun W => rfl
  have te := fun W => eql_val 1 1 n n s ⟨#[]⟩ b false W
  go_enter Tryz.func57, Tryz.ntmps57
  go_wp2_with fail
  refine (CC.out _).mono ?_
  rintro e w1 ⟨rfl, hk1⟩
  have m1 : w1.heap[w.heap.size]? = some (.cells #[.int .i64 1, .int .i64 n, .string s, .bool b] 100 (0, 0)) := (hk1.block _ (by simp) (fun f => f)).trans (heap_alloc_new _ _)
  have M := Lib.hid m1
  have K := Lib.hid hk1
  clear hk1 m1
  go_wp2_with fail
  have c0 := OldOf.cell (show w1.cell? ⟨w.heap.size, 0, none⟩ = some (.int .i64 1) from by simp [World.cell?, M.out])
  have c1 := OldOf.cell (show w1.cell? ⟨w.heap.size, 1, none⟩ = some (.int .i64 n) from by simp [World.cell?, M.out])
  have c2 := OldOf.cell (show w1.cell? ⟨w.heap.size, 2, none⟩ = some (.string s) from by simp [World.cell?, M.out])
  have c3 := OldOf.cell (show w1.cell? ⟨w.heap.size, 3, none⟩ = some (.bool b) from by simp [World.cell?, M.out])
  refine wp_region_quiet_old (by kernel_rfl) (by kernel_rfl) ?_
  repeat (go_big_quiet_step ((first | (go_at_call 82; refine Calls.quiet_of_old (number_any _ _)))))
  refine wpQuiet_nil ?_
  intro _ hpq
  obtain ⟨pq, hpq'⟩ := hpq
  subst hpq'
  go_wp2_with fail
  go_ret
  exact ⟨by simp [empty_eq], (((Keeps.refl _ _).alloc _).trans K.out).trans pq.old⟩
 ·by_cases h2 : k = 2
  ·subst h2
   simp only [h1, if_true, if_false] at C
   have ta_int64 : ∀ W, (Instr.typeAssert (.iface 9 (.string s)) 20 2 true).run Tryz.prog W = .ok (.tuple #[.int .i64 0, .bool false]) W := fun W => rfl
   have ta_string : ∀ W, (Instr.typeAssert (.iface 9 (.string s)) 20 9 true).run Tryz.prog W = .ok (.tuple #[.string s, .bool true]) W := fun W => rfl
   have te := fun W => eql_val 2 2 n 0 s s b false W
   rw [bytes_self] at te
   cases hg : (n == 0 && !b)
   ·have te' : ∀ W, (binOp .eql 100 (.agg #[.int .i64 2, .int .i64 n, .string s, .bool b]) (.agg #[.int .i64 2, .int .i64 0, .string s, .bool false])).run Tryz.prog W = .ok (.bool false) W := fun W => by rw [te W]; cases b <;> simp_all
    clear te
    have CC := Lib.hid C
    clear C
    go_enter Tryz.func57, Tryz.ntmps57
    go_wp2_with fail
    refine (CC.out _).mono ?_
    rintro e w1 ⟨rfl, hk1⟩
    have m1 : w1.heap[w.heap.size]? = some (.cells #[.int .i64 2, .int .i64 n, .string s, .bool b] 100 (0, 0)) := (hk1.block _ (by simp) (fun f => f)).trans (heap_alloc_new _ _)
    have M := Lib.hid m1
    have K := Lib.hid hk1
    clear hk1 m1
    go_wp2_with fail
    have c0 := OldOf.cell (show w1.cell? ⟨w.heap.size, 0, none⟩ = some (.int .i64 2) from by simp [World.cell?, M.out])
    have c1 := OldOf.cell (show w1.cell? ⟨w.heap.size, 1, none⟩ = some (.int .i64 n) from by simp [World.cell?, M.out])
    have c2 := OldOf.cell (show w1.cell? ⟨w.heap.size, 2, none⟩ = some (.string s) from by simp [World.cell?, M.out])
    have c3 := OldOf.cell (show w1.cell? ⟨w.heap.size, 3, none⟩ = some (.bool b) from by simp [World.cell?, M.out])
    refine wp_region_quiet_old (by kernel_rfl) (by kernel_rfl) ?_
    repeat (go_big_quiet_step ((first | (go_at_call 83; refine Calls.quiet_of_old (word_any _ _)))))
    refine wpQuiet_nil ?_
    intro _ hpq
    obtain ⟨pq, hpq'⟩ := hpq
    subst hpq'
    go_wp2_with fail
    go_ret
    exact ⟨by simp_all <;> omega, (((Keeps.refl _ _).alloc _).trans K.out).trans pq.old⟩
   ·have te' : ∀ W, (binOp .eql 100 (.agg #[.int .i64 2, .int .i64 n, .string s, .bool b]) (.agg #[.int .i64 2, .int .i64 0, .string s, .bool false])).run Tryz.prog W = .ok (.bool true) W := fun W => by rw [te W]; cases b <;> simp_all
    clear te
    have CC := Lib.hid C
    clear C
    go_enter Tryz.func57, Tryz.ntmps57
    go_wp2_with fail
    refine (CC.out _).mono ?_
    rintro e w1 ⟨rfl, hk1⟩
    have m1 : w1.heap[w.heap.size]? = some (.cells #[.int .i64 2, .int .i64 n, .string s, .bool b] 100 (0, 0)) := (hk1.block _ (by simp) (fun f => f)).trans (heap_alloc_new _ _)
    have M := Lib.hid m1
    have K := Lib.hid hk1
    clear hk1 m1
    go_wp2_with fail
    have c0 := OldOf.cell (show w1.cell? ⟨w.heap.size, 0, none⟩ = some (.int .i64 2) from by simp [World.cell?, M.out])
    have c1 := OldOf.cell (show w1.cell? ⟨w.heap.size, 1, none⟩ = some (.int .i64 n) from by simp [World.cell?, M.out])
    have c2 := OldOf.cell (show w1.cell? ⟨w.heap.size, 2, none⟩ = some (.string s) from by simp [World.cell?, M.out])
    have c3 := OldOf.cell (show w1.cell? ⟨w.heap.size, 3, none⟩ = some (.bool b) from by simp [World.cell?, M.out])
    refine wp_region_quiet_old (by kernel_rfl) (by kernel_rfl) ?_
    repeat (go_big_quiet_step ((first | (go_at_call 83; refine Calls.quiet_of_old (word_any _ _)))))
    refine wpQuiet_nil ?_
    intro _ hpq
    obtain ⟨pq, hpq'⟩ := hpq
    subst hpq'
    go_wp2_with fail
    go_ret
    exact ⟨by simp_all <;> omega, (((Keeps.refl _ _).alloc _).trans K.out).trans pq.old⟩
  ·by_cases h3 : k = 3
   ·subst h3
    simp only [h1, h2, if_true, if_false] at C
    have ta_int64 : ∀ W, (Instr.typeAssert (.iface 4 (.bool b)) 20 2 true).run Tryz.prog W = .ok (.tuple #[.int .i64 0, .bool false]) W := fun W => rfl
    have ta_string : ∀ W, (Instr.typeAssert (.iface 4 (.bool b)) 20 9 true).run Tryz.prog W = .ok (.tuple #[.string ⟨#[]⟩, .bool false]) W := fun W => rfl
    have ta_bool : ∀ W, (Instr.typeAssert (.iface 4 (.bool b)) 20 4 true).run Tryz.prog W = .ok (.tuple #[.bool b, .bool true]) W := fun W => rfl
    have te := fun W => eql_val 3 3 n 0 s ⟨#[]⟩ b b W
    have CC := Lib.hid C
    clear C
    go_enter Tryz.func57, Tryz.ntmps57
    go_wp2_with fail
    refine (CC.out _).mono ?_
    rintro e w1 ⟨rfl, hk1⟩
    have m1 : w1.heap[w.heap.size]? = some (.cells #[.int .i64 3, .int .i64 n, .string s, .bool b] 100 (0, 0)) := (hk1.block _ (by simp) (fun f => f)).trans (heap_alloc_new _ _)
    have M := Lib.hid m1
    have K := Lib.hid hk1
    clear hk1 m1
    go_wp2_with fail
    have c0 := OldOf.cell (show w1.cell? ⟨w.heap.size, 0, none⟩ = some (.int .i64 3) from by simp [World.cell?, M.out])
    have c1 := OldOf.cell (show w1.cell? ⟨w.heap.size, 1, none⟩ = some (.int .i64 n) from by simp [World.cell?, M.out])
    have c2 := OldOf.cell (show w1.cell? ⟨w.heap.size, 2, none⟩ = some (.string s) from by simp [World.cell?, M.out])
    have c3 := OldOf.cell (show w1.cell? ⟨w.heap.size, 3, none⟩ = some (.bool b) from by simp [World.cell?, M.out])
    refine wp_region_quiet_old (by kernel_rfl) (by kernel_rfl) ?_
    repeat (go_big_quiet_step ((first | (go_at_call 84; refine Calls.quiet_of_old (truth_any _ _)))))
    refine wpQuiet_nil ?_
    intro _ hpq
    obtain ⟨pq, hpq'⟩ := hpq
    subst hpq'
    go_wp2_with fail
    go_ret
    exact ⟨by by_cases h : n = 0 <;> simp_all [empty_eq], (((Keeps.refl _ _).alloc _).trans K.out).trans pq.old⟩
   ·simp only [h1, h2, h3, if_false] at C
    have ta_int64 : ∀ W, (Instr.typeAssert .nilIface 20 2 true).run Tryz.prog W = .ok (.tuple #[.int .i64 0, .bool false]) W := fun W => rfl
    have ta_string : ∀ W, (Instr.typeAssert .nilIface 20 9 true).run Tryz.prog W = .ok (.tuple #[.string ⟨#[]⟩, .bool false]) W := fun W => rfl
    have ta_bool : ∀ W, (Instr.typeAssert .nilIface 20 4 true).run Tryz.prog W = .ok (.tuple #[.bool false, .bool false]) W := fun W => rfl
    have CC := Lib.hid C
    clear C
    go_enter Tryz.func57, Tryz.ntmps57
    go_wp2_with fail
    refine (CC.out _).mono ?_
    rintro e w1 ⟨rfl, hk1⟩
    have m1 : w1.heap[w.heap.size]? = some (.cells #[.int .i64 k, .int .i64 n, .string s, .bool b] 100 (0, 0)) := (hk1.block _ (by simp) (fun f => f)).trans (heap_alloc_new _ _)
    have M := Lib.hid m1
    have K := Lib.hid hk1
    clear hk1 m1
    go_wp2_with fail
    go_ret
    exact ⟨by simp_all, ((Keeps.refl _ _).alloc _).trans K.out⟩
end Go.Proofs.YtfnanbadbmmicaaGreatDoor

namespace Go.Proofs.YtfnanbadbmmicaaGreatDoor
open Go.RowKit

/-- a named value -/
structure At where
 name : ByteArray
 val : Val
def At.cells (a : At) : List Value := [.string a.name, .int .i64 a.val.kind, .int .i64 a.val.num, .string a.val.str, .bool a.val.is]
abbrev SeesA (w : World) (v : Value) (l : List At) : Prop := SeesR w 5 At.cells v l

def okAt (l : List At) (i : Nat) : Bool :=
 match l[i]? with
 | none => true
 | some a => nameOk a.name.toList && a.val.ok && (i == 0 || match l[i - 1]? with | none => true | some b => Op.bytesLess b.name.toList a.name.toList)
def attrsOk (l : List At) : Bool := (List.range l.length).all (okAt l)
/-- may it be an event? -/
def evOk (key : ByteArray) (l : List At) : Bool := decide (key.size ≤ 16) && decide (l.length ≤ 8) && attrsOk l

theorem attrsOk_false {l : List At} {i : Nat} (hi : i < l.length) (h : okAt l i = false) : attrsOk l = false := by
 unfold attrsOk; rw [List.all_eq_false]; exact ⟨i, by simpa using hi, by simp [h]⟩
theorem attrsOk_true {l : List At} (h : ∀ i, i < l.length → okAt l i = true) : attrsOk l = true := by
 unfold attrsOk; rw [List.all_eq_true]; intro i hi; exact h i (by simpa using hi)

set_option maxRecDepth 100000 in
theorem ev_may_any (key : ByteArray) (v : Value) (l : List At) (w : World) (h : SeesA w v l) :
  Calls Tryz.prog 38 #[.agg #[.string key, v]] w fun e w' => e = .returned (.bool (evOk key l)) ∧ Old w w' := by
 by_cases hl : 0 < l.length
 ·obtain ⟨b, o, c, rfl, h1, h2, hc⟩ := h.at hl
  have hm : l.length ≤ 9223372036854775807 := by unfold maxLen at h2; omega
  have HC := Lib.hid hc
  clear h1 h2 h hc hl
  go_enter Tryz.func38, Tryz.ntmps38
  go_wp2_with fail
  go_loopw [8] (fun v8 wr => ∃ k : Nat, k ≤ l.length ∧ v8 = .int .i64 k ∧ (∀ i, i < k → okAt l i = true) ∧ Old (w.alloc (.cells #[.string key, .slice (some ⟨b, o, none⟩) l.length c] 37)) wr) (fun v8 _ => l.length - (intOf v8).toNat)
  case atStart => exact ⟨0, by omega, rfl, by intro i hi; omega, Keeps.refl _ _⟩
  case round =>
   obtain ⟨k, hk, rfl, hr, hold⟩ := hrel
   have HR := Lib.hid hr
   have HO := Lib.hid hold
   clear hr hold
   by_cases hlt : k < l.length
   ·have hx : l[k]? = some l[k] := List.getElem?_eq_getElem hlt
    generalize hak : l[k] = a at hx
    have cell : ∀ i u, a.cells[i]? = some u → wr.cell? ⟨b, o + k * 5 + i, none⟩ = some u := fun i u hu =>
     HO.out.cell (((Keeps.refl (fun _ => False) _).alloc _).cell (HC.out k a hx i u hu) (fun f => f)) (fun f => f)
    have c0 := cell 0 _ rfl
    have c1 := cell 1 _ rfl
    have c2 := cell 2 _ rfl
    have c3 := cell 3 _ rfl
    have c4 := cell 4 _ rfl
    simp only [Nat.add_zero] at c0
    have HX := Lib.hid hx
    clear cell hx hak
    go_wp2_with fail
    have hw0 : wr.heap[w.heap.size]? = some (.cells #[.string key, .slice (some ⟨b, o, none⟩) l.length c] 37 (0, 0)) := (HO.out.block _ (by simp) (fun f => f)).trans (heap_alloc_new _ _)
    have hsz : w.heap.size < wr.heap.size := by have := HO.out.size; simp at this; omega
    generalize hW : wr.alloc (.cells #[.string a.name, .int .i64 a.val.kind, .int .i64 a.val.num, .string a.val.str, .bool a.val.is] 102) = W1
    have hW1 : Old wr W1 := by rw [← hW]; exact (Keeps.refl _ _).alloc _
    have m0 : W1.heap[wr.heap.size]? = some (.cells #[.string a.name, .int .i64 a.val.kind, .int .i64 a.val.num, .string a.val.str, .bool a.val.is] 102 (0, 0)) := by rw [← hW]; exact heap_alloc_new _ _
    have m1 := (hW1.block _ hsz (fun f => f)).trans hw0
    have n0 := OldOf.cell (show W1.cell? ⟨wr.heap.size, 0, none⟩ = some (.string a.name) from by simp [World.cell?, m0])
    have n1 := OldOf.cell (show W1.cell? ⟨wr.heap.size, 1, none⟩ = some (.int .i64 a.val.kind) from by simp [World.cell?, m0])
    have n2 := OldOf.cell (show W1.cell? ⟨wr.heap.size, 2, none⟩ = some (.int .i64 a.val.num) from by simp [World.cell?, m0])
    have n3 := OldOf.cell (show W1.cell? ⟨wr.heap.size, 3, none⟩ = some (.string a.val.str) from by simp [World.cell?, m0])
    have n4 := OldOf.cell (show W1.cell? ⟨wr.heap.size, 4, none⟩ = some (.bool a.val.is) from by simp [World.cell?, m0])
    have n5 := OldOf.cell (show W1.cell? ⟨w.heap.size, 1, none⟩ = some (.slice (some ⟨b, o, none⟩) l.length c) from by simp [World.cell?, m1])
    have HW := Lib.hid (And.intro hW1 HO.out)
    clear hw0 hsz hW hW1 m0 m1 c0 c1 c2 c3 c4
    have N := fun W => name_any a.name W
    have V := fun W => val_any a.val W
    unfold Val.cells at V
    cases hn : nameOk a.name.toList
    ·rw [hn] at N
     have NN := Lib.hid N
     have HN := Lib.hid hn
     clear N V hn
     refine wp_region_quiet_old (by kernel_rfl) (by kernel_rfl) ?_
     repeat (go_big_quiet_step (((go_at_call 56; exact Calls.quiet_of_old (NN.out _)))))
     refine wpQuiet_nil ?_
     intro _ hpq
     obtain ⟨pq, hpq'⟩ := hpq
     subst hpq'
     go_wp2_with fail
     go_ret
     refine ⟨ret_bool ?_, ((Keeps.refl _ _).alloc _).trans (HW.out.2.trans (HW.out.1.trans pq.old))⟩
     rw [evOk, attrsOk_false hlt (by simp [okAt, HX.out, HN.out]), Bool.and_false]
    ·rw [hn] at N
     have NN := Lib.hid N
     have HN := Lib.hid hn
     clear N hn
     cases hv : a.val.ok
     ·rw [hv] at V
      have VV := Lib.hid V
      have HV := Lib.hid hv
      clear V hv
      refine wp_region_quiet_old (by kernel_rfl) (by kernel_rfl) ?_
      repeat (go_big_quiet_step ((first | (go_at_call 56; exact Calls.quiet_of_old (NN.out _)) | (go_at_call 57; exact Calls.quiet_of_old (VV.out _)))))
      refine wpQuiet_nil ?_
      intro _ hpq
      obtain ⟨pq, hpq'⟩ := hpq
      subst hpq'
      go_wp2_with fail
      go_ret
      refine ⟨ret_bool ?_, ((Keeps.refl _ _).alloc _).trans (HW.out.2.trans (HW.out.1.trans pq.old))⟩
      rw [evOk, attrsOk_false hlt (by simp [okAt, HX.out, HN.out, HV.out]), Bool.and_false]
     ·rw [hv] at V
      have VV := Lib.hid V
      have HV := Lib.hid hv
      clear V hv
      rcases k with _ | j
      ·refine wp_region_quiet_old (by kernel_rfl) (by kernel_rfl) ?_
       repeat (go_big_quiet_step ((first | (go_at_call 56; exact Calls.quiet_of_old (NN.out _)) | (go_at_call 57; exact Calls.quiet_of_old (VV.out _)))))
       refine wpQuiet_nil ?_
       intro _ hpq
       obtain ⟨pq, hpq'⟩ := hpq
       subst hpq'
       go_wp2_with fail
       go_roundw
       case rel =>
        refine ⟨1, by omega, by go_num, fun i hi => ?_, HW.out.2.trans (HW.out.1.trans pq.old)⟩
        obtain rfl : i = 0 := by omega
        simp [okAt, HX.out, HN.out, HV.out]
       case measure => simp [intOf]; try omega
      ·have hxj : l[j]? = some l[j] := List.getElem?_eq_getElem (by omega)
       generalize hbj : l[j] = a' at hxj
       have p0 : W1.cell? ⟨b, o + j * 5, none⟩ = some (.string a'.name) := HW.out.1.cell (HW.out.2.cell (((Keeps.refl (fun _ => False) _).alloc _).cell (HC.out j a' hxj 0 _ rfl) (fun f => f)) (fun f => f)) (fun f => f)
       have q0 := OldOf.cell p0
       have HXJ := Lib.hid hxj
       have i1 : IntKind.i64.wrap ((j : Int)) = (j : Int) := by rw [IntKind.wrap_i64]; omega
       have i2 : (0 : Int) ≤ (j : Int) := by omega
       have i3 : (j : Int) < (l.length : Int) := by omega
       have i4 : decide (0 < (j : Int) + 1) = true := by simp <;> omega
       have HI := Lib.hid (And.intro hk hlt)
       clear p0 hxj hbj
       cases hb : Op.bytesLess a'.name.toList a.name.toList
       all_goals have HB := Lib.hid hb
       ·refine wp_region_quiet_old (by kernel_rfl) (by kernel_rfl) ?_
        repeat (go_big_quiet_step ((first | (go_at_call 56; exact Calls.quiet_of_old (NN.out _)) | (go_at_call 57; exact Calls.quiet_of_old (VV.out _)))))
        refine wpQuiet_nil ?_
        intro _ hpq
        obtain ⟨pq, hpq'⟩ := hpq
        subst hpq'
        go_wp2_with fail
        go_ret
        refine ⟨ret_bool ?_, ((Keeps.refl _ _).alloc _).trans (HW.out.2.trans (HW.out.1.trans pq.old))⟩
        rw [evOk, attrsOk_false HI.out.2 (by simp [okAt, HX.out, HN.out, HV.out, HXJ.out, HB.out]), Bool.and_false]
       ·refine wp_region_quiet_old (by kernel_rfl) (by kernel_rfl) ?_
        repeat (go_big_quiet_step ((first | (go_at_call 56; exact Calls.quiet_of_old (NN.out _)) | (go_at_call 57; exact Calls.quiet_of_old (VV.out _)))))
        refine wpQuiet_nil ?_
        intro _ hpq
        obtain ⟨pq, hpq'⟩ := hpq
        subst hpq'
        go_wp2_with fail
        go_roundw
        case rel =>
         refine ⟨j + 1 + 1, by omega, by go_num, fun i hi => ?_, HW.out.2.trans (HW.out.1.trans pq.old)⟩
         rcases Nat.lt_or_ge i (j + 1) with h | h
         ·exact HR.out i h
         ·obtain rfl : i = j + 1 := by omega
          simp [okAt, HX.out, HN.out, HV.out, HXJ.out, HB.out]
        case measure => simp [intOf]; try omega
   ·have hok : attrsOk l = true := attrsOk_true fun i hi => HR.out i (by omega)
    have hw0 : wr.heap[w.heap.size]? = some (.cells #[.string key, .slice (some ⟨b, o, none⟩) l.length c] 37 (0, 0)) := (HO.out.block _ (by simp) (fun f => f)).trans (heap_alloc_new _ _)
    have n0 : wr.cell? ⟨w.heap.size, 0, none⟩ = some (.string key) := by simp [World.cell?, hw0]
    have n1 : wr.cell? ⟨w.heap.size, 1, none⟩ = some (.slice (some ⟨b, o, none⟩) l.length c) := by simp [World.cell?, hw0]
    have HK := Lib.hid hok
    clear hok hw0
    by_cases hs : key.size ≤ 16
    ·have d1 : decide ((key.size : Int) ≤ 16) = true := by simp; omega
     go_wp2_with fail
     go_ret
     refine ⟨ret_bool ?_, ((Keeps.refl _ _).alloc _).trans HO.out⟩
     simp [evOk, HK.out, hs]
     omega
    ·have d1 : decide ((key.size : Int) ≤ 16) = false := by simp; omega
     go_wp2_with fail
     go_ret
     refine ⟨ret_bool ?_, ((Keeps.refl _ _).alloc _).trans HO.out⟩
     simp [evOk, hs]
 ·obtain ⟨rfl, p, c, rfl⟩ := h.at0 (by omega)
  clear h hl
  by_cases hs : key.size ≤ 16
  ·have d1 : decide ((key.size : Int) ≤ 16) = true := by simp; omega
   go_enter Tryz.func38, Tryz.ntmps38
   go_wp2_with fail
   go_loopw [8] (fun v8 wr => v8 = .int .i64 0 ∧ wr = w.alloc (.cells #[.string key, .slice p 0 c] 37)) (fun _ _ => 0)
   case atStart => exact ⟨rfl, rfl⟩
   case round =>
    obtain ⟨rfl, rfl⟩ := hrel
    go_wp2_with fail
    go_ret
    refine ⟨ret_bool ?_, (Keeps.refl _ _).alloc _⟩
    simp [evOk, hs, attrsOk]
  ·have d1 : decide ((key.size : Int) ≤ 16) = false := by simp; omega
   go_enter Tryz.func38, Tryz.ntmps38
   go_wp2_with fail
   go_loopw [8] (fun v8 wr => v8 = .int .i64 0 ∧ wr = w.alloc (.cells #[.string key, .slice p 0 c] 37)) (fun _ _ => 0)
   case atStart => exact ⟨rfl, rfl⟩
   case round =>
    obtain ⟨rfl, rfl⟩ := hrel
    go_wp2_with fail
    go_ret
    refine ⟨ret_bool ?_, (Keeps.refl _ _).alloc _⟩
    simp [evOk, hs, attrsOk]
end Go.Proofs.YtfnanbadbmmicaaGreatDoor

namespace Go.Proofs.YtfnanbadbmmicaaGreatDoor
open Go.RowKit

/-- the writer at block pw has laid l -/
def Wr (w : World) (B pw : Nat) (l : List UInt8) : Prop := ∃ v, w.heap[pw]? = some (.cells #[v] 80 (0, 0)) ∧ Owns w B v l ∧ (∀ k, v.ownBlock = some k → k ≠ pw) ∧ B ≤ w.heap.size
/-- what a writer's method leaves -/
def Laid (w : World) (B pw : Nat) (l : List UInt8) (e : Ending) (w' : World) : Prop := e = .returned (.tuple #[]) ∧ Wr w' B pw l ∧ Keeps (fun k => k = pw) w w'

theorem lt_of_heap {w : World} {b : Nat} {o : Obj} (h : w.heap[b]? = some o) : b < w.heap.size := (Array.getElem?_eq_some_iff.1 h).1
theorem Wr.lt {w : World} {B pw : Nat} {l : List UInt8} (h : Wr w B pw l) : pw < w.heap.size := by obtain ⟨v, h, _⟩ := h; exact lt_of_heap h
theorem Wr.keeps {S : Nat → Prop} {w w' : World} {B pw : Nat} {l : List UInt8} (h : Wr w B pw l) (hk : Keeps S w w') (hS : ¬ S pw) (hS' : ∀ v, w.heap[pw]? = some (.cells #[v] 80 (0, 0)) → ∀ k, v.ownBlock = some k → ¬ S k) : Wr w' B pw l := by
 obtain ⟨v, h1, h2, h3, h4⟩ := h
 exact ⟨v, (hk.block _ (lt_of_heap h1) hS).trans h1, h2.keeps hk (hS' v h1), h3, Nat.le_trans h4 hk.size⟩
theorem Wr.old {w w' : World} {B pw : Nat} {l : List UInt8} (h : Wr w B pw l) (hk : Old w w') : Wr w' B pw l := h.keeps hk (fun f => f) (fun _ _ _ _ f => f)
/-- a slice of the call's own is stored -/
theorem Wr.stored {w w1 : World} {B pw : Nat} {l : List UInt8} {v u : Value} (hB : B ≤ w.heap.size) (h1 : w.heap[pw]? = some (.cells #[v] 80 (0, 0))) (hk : Old w w1) (ho : Owns w1 w.heap.size u l) :
  Wr (w1.setCell ⟨pw, 0, none⟩ u) B pw l ∧ Keeps (fun k => k = pw) w (w1.setCell ⟨pw, 0, none⟩ u) := by
 have hlt := lt_of_heap h1
 have hb : w1.heap[pw]? = some (.cells #[v] 80 (0, 0)) := (hk.block _ hlt (fun f => f)).trans h1
 have hne : ∀ k, u.ownBlock = some k → k ≠ pw := fun k hk => by have := (ho.block k hk).1; omega
 have hs : Keeps (fun k => k = pw) w1 (w1.setCell ⟨pw, 0, none⟩ u) := (Keeps.refl (fun k => k = pw) _).setCell (fun _ => rfl) _
 refine ⟨⟨u, ?_, (ho.keeps hs hne).mono hB, hne, Nat.le_trans hB (Nat.le_trans hk.size hs.size)⟩, (hk.weaken (fun _ _ f => f.elim)).trans hs⟩
 have h := heap_setCell_same w1 pw 0 _ _ u hb
 simpa using h

theorem wnum_any (B pw : Nat) (l : List UInt8) (n : Nat) (w : World) (h : Wr w B pw l) (hl : l.length ≤ 1000000000) (hn : n < 18446744073709551616) :
  Calls Tryz.prog 39 #[.pointer (some ⟨pw, 0, none⟩), .int .u64 n] w (Laid w B pw (l ++ form n)) := by
 obtain ⟨v, h1, h2, h3, h4⟩ := h
 have C := Lib.hid (num_any v l n w h2.sees hl hn)
 have q1 : w.cell? ⟨pw, 0, none⟩ = some v := by simp [World.cell?, h1]
 have H := Lib.hid h1
 have HB := Lib.hid h4
 clear h1 h2 h3 h4 hn
 go_enter Tryz.func39, Tryz.ntmps39
 go_wp2_with fail
 refine C.out.mono ?_
 rintro e w1 ⟨p1, n1, c1, rfl, ho, hk⟩
 have q2 : w1.cell? ⟨pw, 0, none⟩ = some v := hk.cell q1 (fun f => f)
 have q3 : w1.frozen? ⟨pw, 0, none⟩ = false := by rw [World.frozen?_of_block (w := w) (hk.block pw (lt_of_heap H.out) (fun f => f))]; simp [World.frozen?, H.out]
 have K := Lib.hid (And.intro ho hk)
 clear ho hk q1
 go_wp2_with fail
 go_end0
 have r := Wr.stored HB.out H.out K.out.2 K.out.1
 exact ⟨rfl, r.1, r.2⟩

theorem wtext_any (B pw : Nat) (l : List UInt8) (s : ByteArray) (w : World) (h : Wr w B pw l) (hl : l.length ≤ 1000000000) (hs : s.size ≤ 1000000000) :
  Calls Tryz.prog 59 #[.pointer (some ⟨pw, 0, none⟩), .string s] w (Laid w B pw (l ++ form s.size ++ s.toList)) := by
 obtain ⟨v, h1, h2, h3, h4⟩ := h
 obtain ⟨p, c, w0, hconv, hsee, hk0, _⟩ := conv_str w s (by unfold maxLen; omega)
 have hsz : s.toList.length = s.size := by rw [ByteArray.toList_eq]; simp
 have C0 := bytes_any v (.slice p s.size c) l s.toList w0 (h2.sees.old hk0) hsee hl (by omega)
 rw [hsz] at C0
 have C := Lib.hid C0
 have q1 : w.cell? ⟨pw, 0, none⟩ = some v := by simp [World.cell?, h1]
 have H := Lib.hid h1
 have HB := Lib.hid h4
 have HK := Lib.hid hk0
 clear h1 h2 h3 h4 hk0 hsee hsz C0
 go_enter Tryz.func59, Tryz.ntmps59
 go_wp2_with fail
 refine C.out.mono ?_
 rintro e w1 ⟨p1, n1, c1, rfl, ho, hk⟩
 have hk' := HK.out.trans hk
 have q2 : w1.cell? ⟨pw, 0, none⟩ = some v := hk'.cell q1 (fun f => f)
 have q3 : w1.frozen? ⟨pw, 0, none⟩ = false := by rw [World.frozen?_of_block (w := w) (hk'.block pw (lt_of_heap H.out) (fun f => f))]; simp [World.frozen?, H.out]
 have K := Lib.hid (And.intro (ho.mono HK.out.size) hk')
 clear ho hk hk' q1
 go_wp2_with fail
 go_end0
 have r := Wr.stored HB.out H.out K.out.2 K.out.1
 exact ⟨rfl, r.1, r.2⟩

theorem wflag_any (B pw : Nat) (l : List UInt8) (is : Bool) (w : World) (h : Wr w B pw l) (hl : l.length ≤ 1000000000) :
  Calls Tryz.prog 88 #[.pointer (some ⟨pw, 0, none⟩), .bool is] w (Laid w B pw (l ++ form (if is then 1 else 0))) := by
 cases is
 ·have C := Lib.hid (wnum_any B pw l 0 w h hl (by decide))
  clear h
  go_enter Tryz.func88, Tryz.ntmps88
  go_wp2_with fail
  refine C.out.mono ?_
  rintro e w1 ⟨rfl, h1, h2⟩
  have R := Lib.hid (And.intro h1 h2)
  clear h1 h2
  go_wp2_with fail
  go_end0
  exact ⟨rfl, R.out.1, R.out.2⟩
 ·have C := Lib.hid (wnum_any B pw l 1 w h hl (by decide))
  clear h
  go_enter Tryz.func88, Tryz.ntmps88
  go_wp2_with fail
  refine C.out.mono ?_
  rintro e w1 ⟨rfl, h1, h2⟩
  have R := Lib.hid (And.intro h1 h2)
  clear h1 h2
  go_wp2_with fail
  go_end0
  exact ⟨rfl, R.out.1, R.out.2⟩

/-- a value's form -/
def valForm (v : Val) : List UInt8 :=
 if v.kind = 1 then form 1 ++ form (zigN v.num) else if v.kind = 2 then form 2 ++ form v.str.size ++ v.str.toList else form 3 ++ form (if v.is then 1 else 0)

set_option maxRecDepth 100000 in
theorem wvalue_any (B pw : Nat) (l : List UInt8) (v : Val) (w : World) (h : Wr w B pw l) (hl : l.length ≤ 999999000) (hv : v.ok = true) (hz : -9223372036854775808 ≤ v.num ∧ v.num ≤ 9223372036854775807) :
  Calls Tryz.prog 60 #[.pointer (some ⟨pw, 0, none⟩), .agg v.cells] w (Laid w B pw (l ++ valForm v)) := by
 obtain ⟨k, n, s, b⟩ := v
 unfold Val.cells
 simp only at hz ⊢
 have hw := h.lt
 have hne : pw ≠ w.heap.size := by omega
 have hd : k = 1 ∨ k = 2 ∨ k = 3 := by
  unfold Val.ok at hv
  simp only at hv
  by_cases h1 : k = 1
  ·exact .inl h1
  ·by_cases h2 : k = 2
   ·exact .inr (.inl h2)
   ·simp [h1, h2] at hv; exact .inr (.inr hv.1.1)
 generalize hW0 : w.alloc (.cells #[.int .i64 k, .int .i64 n, .string s, .bool b] 100) = W0
 have k0 : Old w W0 := by rw [← hW0]; exact (Keeps.refl _ _).alloc _
 have hb0 : W0.heap[w.heap.size]? = some (.cells #[.int .i64 k, .int .i64 n, .string s, .bool b] 100 (0, 0)) := by rw [← hW0]; exact heap_alloc_new _ _
 have e0 : W0.cell? ⟨w.heap.size, 0, none⟩ = some (.int .i64 k) := by simp [World.cell?, hb0]
 have hf : (form 1).length ≤ 10 ∧ (form 2).length ≤ 10 ∧ (form 3).length ≤ 10 := ⟨form_le10 (by decide), form_le10 (by decide), form_le10 (by decide)⟩
 rcases hd with rfl | rfl | rfl
 ·have C := Lib.hid (wnum_any B pw l 1 W0 (h.old k0) (by omega) (by decide))
  have H := Lib.hid (And.intro k0 hb0)
  clear k0 hb0 h hv
  go_enter Tryz.func60, Tryz.ntmps60
  go_wp2_with fail
  refine C.out.mono ?_
  rintro e w1 ⟨rfl, hwr1, hk1⟩
  obtain ⟨u, u1, u2, u3, u4⟩ := hwr1
  have m1 : w1.heap[w.heap.size]? = some (.cells #[.int .i64 1, .int .i64 n, .string s, .bool b] 100 (0, 0)) := (hk1.block _ (lt_of_heap H.out.2) (fun f => hne f.symm)).trans H.out.2
  have q0 : w1.cell? ⟨w.heap.size, 0, none⟩ = some (.int .i64 1) := by simp [World.cell?, m1]
  have q1 : w1.cell? ⟨w.heap.size, 1, none⟩ = some (.int .i64 n) := by simp [World.cell?, m1]
  have q2 : w1.cell? ⟨pw, 0, none⟩ = some u := by simp [World.cell?, u1]
  have C2 := fun W (hW : Old w1 W) => int_any u _ n W (u2.sees.old hW) (by simp; omega) hz
  have R := Lib.hid (And.intro u1 (And.intro hk1 (And.intro m1 u4)))
  clear u1 u2 u3 u4 hk1 m1 e0 C
  go_wp2_with fail
  have C3 := Lib.hid C2
  clear C2
  go_region_with (go_at_call 87; refine (C3.out _ (Keeps.refl _ _).drew).mono ?_; rintro e w2 ⟨p2, n2, c2, rfl, ho2, hk2⟩; have q4 : w2.cell? ⟨pw, 0, none⟩ = some u := hk2.cell (show w1.drew.cell? ⟨pw, 0, none⟩ = some u from q2) (fun f => f); have q5 : w2.frozen? ⟨pw, 0, none⟩ = false := by rw [World.frozen?_of_block (w := w1) (hk2.block pw (lt_of_heap R.out.1) (fun f => f))]; simp [World.frozen?, R.out.1])
  all_goals go_wp2_with fail
  all_goals go_end0
  all_goals have r := Wr.stored R.out.2.2.2 R.out.1 (show Old w1 w2 from ⟨hk2.os, hk2.tape, hk2.output, hk2.size, hk2.block⟩) ho2
  all_goals exact ⟨rfl, by rw [show l ++ valForm ⟨1, n, s, b⟩ = l ++ form 1 ++ form (zigN n) from by simp [valForm]]; exact r.1, ((H.out.1.weaken (fun _ _ f => f.elim)).trans R.out.2.1).trans r.2⟩
 ·have hs : s.size ≤ 1000000000 := by
   have : s.size ≤ 32 := by simp [Val.ok] at hv; exact hv.1.1
   omega
  have C := Lib.hid (wnum_any B pw l 2 W0 (h.old k0) (by omega) (by decide))
  have H := Lib.hid (And.intro k0 hb0)
  clear k0 hb0 h hv
  go_enter Tryz.func60, Tryz.ntmps60
  go_wp2_with fail
  refine C.out.mono ?_
  rintro e w1 ⟨rfl, hwr1, hk1⟩
  have m1 : w1.heap[w.heap.size]? = some (.cells #[.int .i64 2, .int .i64 n, .string s, .bool b] 100 (0, 0)) := (hk1.block _ (lt_of_heap H.out.2) (fun f => hne f.symm)).trans H.out.2
  have q0 : w1.cell? ⟨w.heap.size, 0, none⟩ = some (.int .i64 2) := by simp [World.cell?, m1]
  have q1 : w1.cell? ⟨w.heap.size, 2, none⟩ = some (.string s) := by simp [World.cell?, m1]
  have C2 := Lib.hid (wtext_any B pw _ s w1 hwr1 (by simp; omega) hs)
  have R := Lib.hid hk1
  clear hwr1 hk1 m1 e0 C
  go_wp2_with fail
  refine C2.out.mono ?_
  rintro e w2 ⟨rfl, hwr2, hk2⟩
  have R2 := Lib.hid (And.intro hwr2 hk2)
  clear hwr2 hk2
  go_wp2_with fail
  go_end0
  exact ⟨rfl, by rw [show l ++ valForm ⟨2, n, s, b⟩ = l ++ form 2 ++ form s.size ++ s.toList from by simp [valForm]]; exact R2.out.1, ((H.out.1.weaken (fun _ _ f => f.elim)).trans R.out).trans R2.out.2⟩
 ·have C := Lib.hid (wnum_any B pw l 3 W0 (h.old k0) (by omega) (by decide))
  have H := Lib.hid (And.intro k0 hb0)
  clear k0 hb0 h hv
  go_enter Tryz.func60, Tryz.ntmps60
  go_wp2_with fail
  refine C.out.mono ?_
  rintro e w1 ⟨rfl, hwr1, hk1⟩
  have m1 : w1.heap[w.heap.size]? = some (.cells #[.int .i64 3, .int .i64 n, .string s, .bool b] 100 (0, 0)) := (hk1.block _ (lt_of_heap H.out.2) (fun f => hne f.symm)).trans H.out.2
  have q0 : w1.cell? ⟨w.heap.size, 0, none⟩ = some (.int .i64 3) := by simp [World.cell?, m1]
  have q1 : w1.cell? ⟨w.heap.size, 3, none⟩ = some (.bool b) := by simp [World.cell?, m1]
  have C2 := Lib.hid (wflag_any B pw _ b w1 hwr1 (by simp; omega))
  have R := Lib.hid hk1
  clear hwr1 hk1 m1 e0 C
  go_wp2_with fail
  refine C2.out.mono ?_
  rintro e w2 ⟨rfl, hwr2, hk2⟩
  have R2 := Lib.hid (And.intro hwr2 hk2)
  clear hwr2 hk2
  go_wp2_with fail
  go_end0
  exact ⟨rfl, by rw [show l ++ valForm ⟨3, n, s, b⟩ = l ++ form 3 ++ form (if b then 1 else 0) from by simp [valForm]]; exact R2.out.1, ((H.out.1.weaken (fun _ _ f => f.elim)).trans R.out).trans R2.out.2⟩
end Go.Proofs.YtfnanbadbmmicaaGreatDoor
