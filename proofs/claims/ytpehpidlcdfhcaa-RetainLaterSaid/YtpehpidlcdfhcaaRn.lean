/- DERIVED. Names and events: the document's answer (layer 2). -/
import Derived.Test.YtpehpidlcdfhcaaEv
namespace Go.Proofs.Ytpehpidlcdfhcaa
open Go.RowKit

theorem good_iff (c : Nat) : goodB c = true ↔ ((97 ≤ c ∧ c ≤ 122) ∨ (48 ≤ c ∧ c ≤ 57) ∨ c = 45 ∨ c = 46 ∨ c = 95) := by
  unfold goodB; simp; omega
theorem bad_iff (c : Nat) : goodB c = false ↔ ¬ ((97 ≤ c ∧ c ≤ 122) ∨ (48 ≤ c ∧ c ≤ 57) ∨ c = 45 ∨ c = 46 ∨ c = 95) := by
  rw [← good_iff]; simp

theorem ref_name_any (s : ByteArray) (w : World) (hm : s.size ≤ 9223372036854775807) : Calls Try.prog 41 #[.string s] w fun e w' => e = .returned (.bool (nameOk s.toList)) ∧ w = w' := by
  have hsz : s.toList.length = s.size := by rw [ByteArray.toList_eq]; simp
  have HS := Lib.hid hsz
  clear hsz
  go_enter Try.func41, Try.ntmps41
  go_wp2_with fail
  go_loop [3] (fun v3 => ∃ k : Nat, k ≤ s.size ∧ v3 = .int .i64 k ∧ (s.toList.take k).all (fun c => goodB c.toNat) = true) (fun v3 => s.size - (intOf v3).toNat)
  case atStart => exact ⟨0, by omega, rfl, by simp⟩
  case round =>
    obtain ⟨k, hk, rfl, hr⟩ := hrel
    have HR := Lib.hid hr
    clear hr
    by_cases hlt : k < s.size
    · have hx : s.toList[k]? = some s[k] := by rw [ByteArray.toList_eq]; simp [hlt]; rfl
      have hb := bad_iff (s[k].toNat)
      have hg := good_iff (s[k].toNat)
      have HX := Lib.hid hx
      have HB := Lib.hid hb
      have HG := Lib.hid hg
      clear hb hg hx
      go_wp2_with fail
      all_goals first
        | (go_ret
           refine ⟨ret_bool ?_, rfl⟩
           rw [nameOk, all_false_of HX.out (HB.out.2 (by clear HR HX HB HG HS; simp at *; omega)), Bool.and_false])
        | (go_round
           case rel => exact ⟨k + 1, by omega, by go_num, by rw [all_take_succ HX.out, HR.out, HG.out.2 (by clear HR HX HB HG HS; simp at *; omega)]; rfl⟩
           case measure => simp [intOf]; omega)
    · have hall : (s.toList.all fun c => goodB c.toNat) = true := by
        have := HR.out
        rwa [List.take_of_length_le (by rw [HS.out]; omega)] at this
      have HA := Lib.hid hall
      clear hall HR
      by_cases h1 : 1 ≤ s.size
      · have d1 : decide ((s.size : Int) ≥ 1) = true := by simp; omega
        go_wp2_with fail
        go_ret
        refine ⟨ret_bool ?_, rfl⟩
        rw [nameOk, HA.out, HS.out]
        simp [h1]
        try omega
      · have d1 : decide ((s.size : Int) ≥ 1) = false := by simp; omega
        go_wp2_with fail
        go_ret
        refine ⟨ret_bool ?_, rfl⟩
        rw [nameOk, HA.out, HS.out]
        simp [h1]
        try omega

set_option maxRecDepth 100000 in
theorem ref_ev_may_any (key : ByteArray) (v : Value) (l : List At) (w : World) (h : SeesA w v l) (hnm : ∀ a ∈ l, a.name.size ≤ 9223372036854775807) :
    Calls Try.prog 34 #[.agg #[.string key, v]] w fun e w' => e = .returned (.bool (evOk key l)) ∧ Old w w' := by
  by_cases hs : key.size ≤ 16
  case neg =>
    obtain ⟨p, c, rfl, h1, h2⟩ := h.len
    have d1 : decide ((key.size : Int) > 16) = true := by simp; omega
    clear h h1 h2
    go_enter Try.func34, Try.ntmps34
    go_wp2_with fail
    go_ret
    refine ⟨ret_bool ?_, (Keeps.refl _ _).alloc _⟩
    simp [evOk, hs]
  case pos =>
  have d1 : decide ((key.size : Int) > 16) = false := by simp; omega
  by_cases h8 : l.length ≤ 8
  case neg =>
    obtain ⟨p, c, rfl, h1, h2⟩ := h.len
    have d2 : decide ((l.length : Int) > 8) = true := by simp; omega
    clear h h1 h2
    go_enter Try.func34, Try.ntmps34
    go_wp2_with fail
    go_ret
    refine ⟨ret_bool ?_, (Keeps.refl _ _).alloc _⟩
    simp [evOk, h8]
  case pos =>
  have d2 : decide ((l.length : Int) > 8) = false := by simp; omega
  by_cases hl : 0 < l.length
  · obtain ⟨b, o, c, rfl, h1, h2, hc⟩ := h.at hl
    have HC := Lib.hid hc
    have HNM := Lib.hid hnm
    have HSZ := Lib.hid hs
    clear h1 h2 h hc hl hnm hs
    go_enter Try.func34, Try.ntmps34
    go_wp2_with fail
    go_loopw [3] (fun v3 wr => ∃ k : Nat, k ≤ l.length ∧ v3 = .int .i64 k ∧ (∀ i, i < k → okAt l i = true) ∧ Old (w.alloc (.cells #[.string key, .slice (some ⟨b, o, none⟩) l.length c] 38)) wr) (fun v3 _ => l.length - (intOf v3).toNat)
    case atStart => exact ⟨0, by omega, rfl, by intro i hi; omega, Keeps.refl _ _⟩
    case round =>
      obtain ⟨k, hk, rfl, hr, hold⟩ := hrel
      have HR := Lib.hid hr
      have HO := Lib.hid hold
      have hw0 : wr.heap[w.heap.size]? = some (.cells #[.string key, .slice (some ⟨b, o, none⟩) l.length c] 38 (0, 0)) := (HO.out.block _ (by simp) (fun f => f)).trans (heap_alloc_new _ _)
      have e1 : wr.cell? ⟨w.heap.size, 1, none⟩ = some (.slice (some ⟨b, o, none⟩) l.length c) := by simp [World.cell?, hw0]
      clear hr hold hw0
      by_cases hlt : k < l.length
      · have hx : l[k]? = some l[k] := List.getElem?_eq_getElem hlt
        generalize hak : l[k] = a at hx
        have cell : ∀ i u, a.cells[i]? = some u → wr.cell? ⟨b, o + k * 5 + i, none⟩ = some u := fun i u hu =>
          HO.out.cell (((Keeps.refl (fun _ => False) _).alloc _).cell (HC.out k a hx i u hu) (fun f => f)) (fun f => f)
        have c0 := cell 0 _ rfl
        have c1 := cell 1 _ rfl
        have c2 := cell 2 _ rfl
        have c3 := cell 3 _ rfl
        have c4 := cell 4 _ rfl
        simp only [Nat.add_zero] at c0
        have N := fun W => ref_name_any a.name W (HNM.out a (List.mem_of_getElem? hx))
        have V := fun W => ref_val_any a.val W
        unfold Val.cells at V
        have HX := Lib.hid hx
        clear cell hx hak
        cases hn : nameOk a.name.toList
        · rw [hn] at N
          have NN := Lib.hid N
          have HN := Lib.hid hn
          clear N V hn
          go_wp2_with fail
          refine (NN.out _).mono ?_
          rintro e w1 ⟨rfl, rfl⟩
          go_wp2_with fail
          go_ret
          refine ⟨ret_bool ?_, ((Keeps.refl _ _).alloc _).trans HO.out⟩
          rw [evOk, attrsOk_false hlt (by simp [okAt, HX.out, HN.out]), Bool.and_false]
        · rw [hn] at N
          have NN := Lib.hid N
          have HN := Lib.hid hn
          clear N hn
          cases hv : a.val.ok
          · rw [hv] at V
            have VV := Lib.hid V
            have HV := Lib.hid hv
            clear V hv
            go_wp2_with fail
            refine (NN.out _).mono ?_
            rintro e w1 ⟨rfl, rfl⟩
            go_wp2_with fail
            refine (VV.out _).mono ?_
            rintro e w1 ⟨rfl, hk1⟩
            have HK1 := Lib.hid hk1
            clear hk1
            go_wp2_with fail
            go_ret
            refine ⟨ret_bool ?_, ((Keeps.refl _ _).alloc _).trans (HO.out.trans HK1.out)⟩
            rw [evOk, attrsOk_false hlt (by simp [okAt, HX.out, HN.out, HV.out]), Bool.and_false]
          · rw [hv] at V
            have VV := Lib.hid V
            have HV := Lib.hid hv
            clear V hv
            go_wp2_with fail
            refine (NN.out _).mono ?_
            rintro e w1 ⟨rfl, rfl⟩
            go_wp2_with fail
            refine (VV.out _).mono ?_
            rintro e w1 ⟨rfl, hk1⟩
            have n5 := OldOf.cell (hk1.cell e1 (fun f => f))
            have n6 := OldOf.cell (hk1.cell c0 (fun f => f))
            have HK1 := Lib.hid hk1
            clear hk1 c0 c1 c2 c3 c4 e1
            go_wp2_with fail
            have i2 : (0 : Int) ≤ (k : Int) := by omega
            have i3 : (k : Int) < (l.length : Int) := by omega
            rcases k with _ | j
            · refine wp_region_quiet_old (by kernel_rfl) (by kernel_rfl) ?_
              repeat (go_big_quiet_step ((fail)))
              refine wpQuiet_nil ?_
              intro _ hpq
              obtain ⟨pq, hpq'⟩ := hpq
              subst hpq'
              go_wp2_with fail
              go_roundw
              case rel =>
                refine ⟨1, by omega, by go_num, fun i hi => ?_, HO.out.trans (HK1.out.trans pq.old)⟩
                obtain rfl : i = 0 := by omega
                simp [okAt, HX.out, HN.out, HV.out]
              case measure => simp [intOf]; try omega
            · have hxj : l[j]? = some l[j] := List.getElem?_eq_getElem (by omega)
              generalize hbj : l[j] = a' at hxj
              have p0 : w1.cell? ⟨b, o + j * 5, none⟩ = some (.string a'.name) := HK1.out.cell (HO.out.cell (((Keeps.refl (fun _ => False) _).alloc _).cell (HC.out j a' hxj 0 _ rfl) (fun f => f)) (fun f => f)) (fun f => f)
              have q0 := OldOf.cell p0
              have HXJ := Lib.hid hxj
              have i1 : IntKind.i64.wrap ((j : Int)) = (j : Int) := by rw [IntKind.wrap_i64]; omega
              have i4 : (0 : Int) ≤ (j : Int) := by omega
              have i5 : (j : Int) < (l.length : Int) := by omega
              have i6 : decide (0 < (j : Int) + 1) = true := by simp <;> omega
              have HI := Lib.hid (And.intro hk hlt)
              clear p0 hxj hbj
              cases hb : Op.bytesLess a'.name.toList a.name.toList
              all_goals have HB := Lib.hid hb
              · refine wp_region_quiet_old (by kernel_rfl) (by kernel_rfl) ?_
                repeat (go_big_quiet_step ((fail)))
                refine wpQuiet_nil ?_
                intro _ hpq
                obtain ⟨pq, hpq'⟩ := hpq
                subst hpq'
                go_wp2_with fail
                go_ret
                refine ⟨ret_bool ?_, ((Keeps.refl _ _).alloc _).trans (HO.out.trans (HK1.out.trans pq.old))⟩
                rw [evOk, attrsOk_false HI.out.2 (by simp [okAt, HX.out, HN.out, HV.out, HXJ.out, HB.out]), Bool.and_false]
              · refine wp_region_quiet_old (by kernel_rfl) (by kernel_rfl) ?_
                repeat (go_big_quiet_step ((fail)))
                refine wpQuiet_nil ?_
                intro _ hpq
                obtain ⟨pq, hpq'⟩ := hpq
                subst hpq'
                go_wp2_with fail
                go_roundw
                case rel =>
                  refine ⟨j + 1 + 1, by omega, by go_num, fun i hi => ?_, HO.out.trans (HK1.out.trans pq.old)⟩
                  rcases Nat.lt_or_ge i (j + 1) with h | h
                  · exact HR.out i h
                  · obtain rfl : i = j + 1 := by omega
                    simp [okAt, HX.out, HN.out, HV.out, HXJ.out, HB.out]
                case measure => simp [intOf]; try omega
      · have hok : attrsOk l = true := attrsOk_true fun i hi => HR.out i (by omega)
        have HK := Lib.hid hok
        clear hok
        go_wp2_with fail
        go_ret
        refine ⟨ret_bool ?_, ((Keeps.refl _ _).alloc _).trans HO.out⟩
        simp [evOk, HK.out, HSZ.out]
        omega
  · obtain ⟨rfl, p, c, rfl⟩ := h.at0 (by omega)
    clear h hl d2
    go_enter Try.func34, Try.ntmps34
    go_wp2_with fail
    go_loopw [3] (fun v8 wr => v8 = .int .i64 0 ∧ wr = w.alloc (.cells #[.string key, .slice p 0 c] 38)) (fun _ _ => 0)
    case atStart => exact ⟨rfl, rfl⟩
    case round =>
      obtain ⟨rfl, rfl⟩ := hrel
      go_wp2_with fail
      go_ret
      refine ⟨ret_bool ?_, (Keeps.refl _ _).alloc _⟩
      simp [evOk, hs, attrsOk]
end Go.Proofs.Ytpehpidlcdfhcaa
