/- DERIVED. Events: what may be (layer 2), the program's and the document's answer. -/
import Derived.Test.YtpehpidlcdfhcaaNa
import Derived.Test.YtpehpidlcdfhcaaSt
import Derived.Test.YtpehpidlcdfhcaaVb
namespace Go.Proofs.Ytpehpidlcdfhcaa
open Go.RowKit

/-- a named value -/
structure At where
  name : ByteArray
  val : Val
def At.cells (a : At) : List Value := [.string a.name, .int .i64 a.val.kind, .int .i64 a.val.num, .string a.val.str, .bool a.val.is]
abbrev SeesA (w : World) (v : Value) (l : List At) : Prop := SeesR w 5 At.cells v l

def okAt (l : List At) (i : Nat) : Bool :=
  match l[i]? with
  | none => true
  | some a => nameOk a.name.toList && a.val.ok && (i == 0 || match l[i - 1]? with | none => true | some b => Op.bytesLess b.name.toList a.name.toList)
def attrsOk (l : List At) : Bool := (List.range l.length).all (okAt l)
/-- may it be an event? -/
def evOk (key : ByteArray) (l : List At) : Bool := decide (key.size ≤ 16) && decide (l.length ≤ 8) && attrsOk l

theorem attrsOk_false {l : List At} {i : Nat} (hi : i < l.length) (h : okAt l i = false) : attrsOk l = false := by
  unfold attrsOk; rw [List.all_eq_false]; exact ⟨i, by simpa using hi, by simp [h]⟩
theorem attrsOk_true {l : List At} (h : ∀ i, i < l.length → okAt l i = true) : attrsOk l = true := by
  unfold attrsOk; rw [List.all_eq_true]; intro i hi; exact h i (by simpa using hi)

set_option maxRecDepth 100000 in
theorem ev_may_any (key : ByteArray) (v : Value) (l : List At) (w : World) (h : SeesA w v l) :
    Calls Try.prog 38 #[.agg #[.string key, v]] w fun e w' => e = .returned (.bool (evOk key l)) ∧ Old w w' := by
  by_cases hl : 0 < l.length
  · obtain ⟨b, o, c, rfl, h1, h2, hc⟩ := h.at hl
    have hm : l.length ≤ 9223372036854775807 := by unfold maxLen at h2; omega
    have HC := Lib.hid hc
    clear h1 h2 h hc hl
    go_enter Try.func38, Try.ntmps38
    go_wp2_with fail
    go_loopw [8] (fun v8 wr => ∃ k : Nat, k ≤ l.length ∧ v8 = .int .i64 k ∧ (∀ i, i < k → okAt l i = true) ∧ Old (w.alloc (.cells #[.string key, .slice (some ⟨b, o, none⟩) l.length c] 38)) wr) (fun v8 _ => l.length - (intOf v8).toNat)
    case atStart => exact ⟨0, by omega, rfl, by intro i hi; omega, Keeps.refl _ _⟩
    case round =>
      obtain ⟨k, hk, rfl, hr, hold⟩ := hrel
      have HR := Lib.hid hr
      have HO := Lib.hid hold
      clear hr hold
      by_cases hlt : k < l.length
      · have hx : l[k]? = some l[k] := List.getElem?_eq_getElem hlt
        generalize hak : l[k] = a at hx
        have cell : ∀ i u, a.cells[i]? = some u → wr.cell? ⟨b, o + k * 5 + i, none⟩ = some u := fun i u hu =>
          HO.out.cell (((Keeps.refl (fun _ => False) _).alloc _).cell (HC.out k a hx i u hu) (fun f => f)) (fun f => f)
        have c0 := cell 0 _ rfl
        have c1 := cell 1 _ rfl
        have c2 := cell 2 _ rfl
        have c3 := cell 3 _ rfl
        have c4 := cell 4 _ rfl
        simp only [Nat.add_zero] at c0
        have HX := Lib.hid hx
        clear cell hx hak
        go_wp2_with fail
        have hw0 : wr.heap[w.heap.size]? = some (.cells #[.string key, .slice (some ⟨b, o, none⟩) l.length c] 38 (0, 0)) := (HO.out.block _ (by simp) (fun f => f)).trans (heap_alloc_new _ _)
        have hsz : w.heap.size < wr.heap.size := by have := HO.out.size; simp at this; omega
        generalize hW : wr.alloc (.cells #[.string a.name, .int .i64 a.val.kind, .int .i64 a.val.num, .string a.val.str, .bool a.val.is] 66) = W1
        have hW1 : Old wr W1 := by rw [← hW]; exact (Keeps.refl _ _).alloc _
        have m0 : W1.heap[wr.heap.size]? = some (.cells #[.string a.name, .int .i64 a.val.kind, .int .i64 a.val.num, .string a.val.str, .bool a.val.is] 66 (0, 0)) := by rw [← hW]; exact heap_alloc_new _ _
        have m1 := (hW1.block _ hsz (fun f => f)).trans hw0
        have n0 := OldOf.cell (show W1.cell? ⟨wr.heap.size, 0, none⟩ = some (.string a.name) from by simp [World.cell?, m0])
        have n1 := OldOf.cell (show W1.cell? ⟨wr.heap.size, 1, none⟩ = some (.int .i64 a.val.kind) from by simp [World.cell?, m0])
        have n2 := OldOf.cell (show W1.cell? ⟨wr.heap.size, 2, none⟩ = some (.int .i64 a.val.num) from by simp [World.cell?, m0])
        have n3 := OldOf.cell (show W1.cell? ⟨wr.heap.size, 3, none⟩ = some (.string a.val.str) from by simp [World.cell?, m0])
        have n4 := OldOf.cell (show W1.cell? ⟨wr.heap.size, 4, none⟩ = some (.bool a.val.is) from by simp [World.cell?, m0])
        have n5 := OldOf.cell (show W1.cell? ⟨w.heap.size, 1, none⟩ = some (.slice (some ⟨b, o, none⟩) l.length c) from by simp [World.cell?, m1])
        have HW := Lib.hid (And.intro hW1 HO.out)
        clear hw0 hsz hW hW1 m0 m1 c0 c1 c2 c3 c4
        have N := fun W => name_any a.name W
        have V := fun W => val_any a.val W
        unfold Val.cells at V
        cases hn : nameOk a.name.toList
        · rw [hn] at N
          have NN := Lib.hid N
          have HN := Lib.hid hn
          clear N V hn
          refine wp_region_quiet_old (by kernel_rfl) (by kernel_rfl) ?_
          repeat (go_big_quiet_step (((go_at_call 46; exact Calls.quiet_of_old (NN.out _)))))
          refine wpQuiet_nil ?_
          intro _ hpq
          obtain ⟨pq, hpq'⟩ := hpq
          subst hpq'
          go_wp2_with fail
          go_ret
          refine ⟨ret_bool ?_, ((Keeps.refl _ _).alloc _).trans (HW.out.2.trans (HW.out.1.trans pq.old))⟩
          rw [evOk, attrsOk_false hlt (by simp [okAt, HX.out, HN.out]), Bool.and_false]
        · rw [hn] at N
          have NN := Lib.hid N
          have HN := Lib.hid hn
          clear N hn
          cases hv : a.val.ok
          · rw [hv] at V
            have VV := Lib.hid V
            have HV := Lib.hid hv
            clear V hv
            refine wp_region_quiet_old (by kernel_rfl) (by kernel_rfl) ?_
            repeat (go_big_quiet_step ((first | (go_at_call 46; exact Calls.quiet_of_old (NN.out _)) | (go_at_call 47; exact Calls.quiet_of_old (VV.out _)))))
            refine wpQuiet_nil ?_
            intro _ hpq
            obtain ⟨pq, hpq'⟩ := hpq
            subst hpq'
            go_wp2_with fail
            go_ret
            refine ⟨ret_bool ?_, ((Keeps.refl _ _).alloc _).trans (HW.out.2.trans (HW.out.1.trans pq.old))⟩
            rw [evOk, attrsOk_false hlt (by simp [okAt, HX.out, HN.out, HV.out]), Bool.and_false]
          · rw [hv] at V
            have VV := Lib.hid V
            have HV := Lib.hid hv
            clear V hv
            rcases k with _ | j
            · refine wp_region_quiet_old (by kernel_rfl) (by kernel_rfl) ?_
              repeat (go_big_quiet_step ((first | (go_at_call 46; exact Calls.quiet_of_old (NN.out _)) | (go_at_call 47; exact Calls.quiet_of_old (VV.out _)))))
              refine wpQuiet_nil ?_
              intro _ hpq
              obtain ⟨pq, hpq'⟩ := hpq
              subst hpq'
              go_wp2_with fail
              go_roundw
              case rel =>
                refine ⟨1, by omega, by go_num, fun i hi => ?_, HW.out.2.trans (HW.out.1.trans pq.old)⟩
                obtain rfl : i = 0 := by omega
                simp [okAt, HX.out, HN.out, HV.out]
              case measure => simp [intOf]; try omega
            · have hxj : l[j]? = some l[j] := List.getElem?_eq_getElem (by omega)
              generalize hbj : l[j] = a' at hxj
              have p0 : W1.cell? ⟨b, o + j * 5, none⟩ = some (.string a'.name) := HW.out.1.cell (HW.out.2.cell (((Keeps.refl (fun _ => False) _).alloc _).cell (HC.out j a' hxj 0 _ rfl) (fun f => f)) (fun f => f)) (fun f => f)
              have q0 := OldOf.cell p0
              have HXJ := Lib.hid hxj
              have i1 : IntKind.i64.wrap ((j : Int)) = (j : Int) := by rw [IntKind.wrap_i64]; omega
              have i2 : (0 : Int) ≤ (j : Int) := by omega
              have i3 : (j : Int) < (l.length : Int) := by omega
              have i4 : decide (0 < (j : Int) + 1) = true := by simp <;> omega
              have HI := Lib.hid (And.intro hk hlt)
              clear p0 hxj hbj
              cases hb : Op.bytesLess a'.name.toList a.name.toList
              all_goals have HB := Lib.hid hb
              · refine wp_region_quiet_old (by kernel_rfl) (by kernel_rfl) ?_
                repeat (go_big_quiet_step ((first | (go_at_call 46; exact Calls.quiet_of_old (NN.out _)) | (go_at_call 47; exact Calls.quiet_of_old (VV.out _)))))
                refine wpQuiet_nil ?_
                intro _ hpq
                obtain ⟨pq, hpq'⟩ := hpq
                subst hpq'
                go_wp2_with fail
                go_ret
                refine ⟨ret_bool ?_, ((Keeps.refl _ _).alloc _).trans (HW.out.2.trans (HW.out.1.trans pq.old))⟩
                rw [evOk, attrsOk_false HI.out.2 (by simp [okAt, HX.out, HN.out, HV.out, HXJ.out, HB.out]), Bool.and_false]
              · refine wp_region_quiet_old (by kernel_rfl) (by kernel_rfl) ?_
                repeat (go_big_quiet_step ((first | (go_at_call 46; exact Calls.quiet_of_old (NN.out _)) | (go_at_call 47; exact Calls.quiet_of_old (VV.out _)))))
                refine wpQuiet_nil ?_
                intro _ hpq
                obtain ⟨pq, hpq'⟩ := hpq
                subst hpq'
                go_wp2_with fail
                go_roundw
                case rel =>
                  refine ⟨j + 1 + 1, by omega, by go_num, fun i hi => ?_, HW.out.2.trans (HW.out.1.trans pq.old)⟩
                  rcases Nat.lt_or_ge i (j + 1) with h | h
                  · exact HR.out i h
                  · obtain rfl : i = j + 1 := by omega
                    simp [okAt, HX.out, HN.out, HV.out, HXJ.out, HB.out]
                case measure => simp [intOf]; try omega
      · have hok : attrsOk l = true := attrsOk_true fun i hi => HR.out i (by omega)
        have hw0 : wr.heap[w.heap.size]? = some (.cells #[.string key, .slice (some ⟨b, o, none⟩) l.length c] 38 (0, 0)) := (HO.out.block _ (by simp) (fun f => f)).trans (heap_alloc_new _ _)
        have n0 : wr.cell? ⟨w.heap.size, 0, none⟩ = some (.string key) := by simp [World.cell?, hw0]
        have n1 : wr.cell? ⟨w.heap.size, 1, none⟩ = some (.slice (some ⟨b, o, none⟩) l.length c) := by simp [World.cell?, hw0]
        have HK := Lib.hid hok
        clear hok hw0
        by_cases hs : key.size ≤ 16
        · have d1 : decide ((key.size : Int) ≤ 16) = true := by simp; omega
          go_wp2_with fail
          go_ret
          refine ⟨ret_bool ?_, ((Keeps.refl _ _).alloc _).trans HO.out⟩
          simp [evOk, HK.out, hs]
          omega
        · have d1 : decide ((key.size : Int) ≤ 16) = false := by simp; omega
          go_wp2_with fail
          go_ret
          refine ⟨ret_bool ?_, ((Keeps.refl _ _).alloc _).trans HO.out⟩
          simp [evOk, hs]
  · obtain ⟨rfl, p, c, rfl⟩ := h.at0 (by omega)
    clear h hl
    by_cases hs : key.size ≤ 16
    · have d1 : decide ((key.size : Int) ≤ 16) = true := by simp; omega
      go_enter Try.func38, Try.ntmps38
      go_wp2_with fail
      go_loopw [8] (fun v8 wr => v8 = .int .i64 0 ∧ wr = w.alloc (.cells #[.string key, .slice p 0 c] 38)) (fun _ _ => 0)
      case atStart => exact ⟨rfl, rfl⟩
      case round =>
        obtain ⟨rfl, rfl⟩ := hrel
        go_wp2_with fail
        go_ret
        refine ⟨ret_bool ?_, (Keeps.refl _ _).alloc _⟩
        simp [evOk, hs, attrsOk]
    · have d1 : decide ((key.size : Int) ≤ 16) = false := by simp; omega
      go_enter Try.func38, Try.ntmps38
      go_wp2_with fail
      go_loopw [8] (fun v8 wr => v8 = .int .i64 0 ∧ wr = w.alloc (.cells #[.string key, .slice p 0 c] 38)) (fun _ _ => 0)
      case atStart => exact ⟨rfl, rfl⟩
      case round =>
        obtain ⟨rfl, rfl⟩ := hrel
        go_wp2_with fail
        go_ret
        refine ⟨ret_bool ?_, (Keeps.refl _ _).alloc _⟩
        simp [evOk, hs, attrsOk]
end Go.Proofs.Ytpehpidlcdfhcaa
