/- DERIVED. Names and events: the document's answer (layer 2). · DERIVED. The document's writer of forms (layer 7): bytes are appended to a row of the call's own. -/
import Derived.Test.YtpjpimahnnekkaaGreatYpMsgForms04
import Derived.Test.YtpjpimahnnekkaaGreatYpMsgForms05
import Derived.Lib.AppendStr
import Derived.Deep.RegionWith
import Derived.Deep.RegionHeld3
set_option maxRecDepth 100000
set_option maxHeartbeats 400000
namespace Go.Proofs.YtpjpimahnnekkaaGreat
section
open Go.RowKit
theorem good_iff (c : Nat) : goodB c = true ↔ ((97 ≤ c ∧ c ≤ 122) ∨ (48 ≤ c ∧ c ≤ 57) ∨ c = 45 ∨ c = 46 ∨ c = 95) := by
  unfold goodB; simp; omega
theorem bad_iff (c : Nat) : goodB c = false ↔ ¬ ((97 ≤ c ∧ c ≤ 122) ∨ (48 ≤ c ∧ c ≤ 57) ∨ c = 45 ∨ c = 46 ∨ c = 95) := by
  rw [← good_iff]; simp
theorem ref_name_any (s : ByteArray) (w : World) (hm : s.size ≤ 9223372036854775807) : Calls Tryz.prog 132 #[.string s] w fun e w' => e = .returned (.bool (nameOk s.toList)) ∧ w = w' := by
  have hsz : s.toList.length = s.size := by rw [ByteArray.toList_eq]; simp
  have HS := Lib.hid hsz
  clear hsz
  go_enter Tryz.func132, Tryz.ntmps132
  go_wp2_with fail
  go_loop [3] (fun v3 => ∃ k : Nat, k ≤ s.size ∧ v3 = .int .i64 k ∧ (s.toList.take k).all (fun c => goodB c.toNat) = true) (fun v3 => s.size - (intOf v3).toNat)
  case atStart => exact ⟨0, by omega, rfl, by simp⟩
  case round =>
    obtain ⟨k, hk, rfl, hr⟩ := hrel
    have HR := Lib.hid hr
    clear hr
    by_cases hlt : k < s.size
    · have hx : s.toList[k]? = some s[k] := by rw [ByteArray.toList_eq]; simp [hlt]; rfl
      have hb := bad_iff (s[k].toNat)
      have hg := good_iff (s[k].toNat)
      have HX := Lib.hid hx
      have HB := Lib.hid hb
      have HG := Lib.hid hg
      clear hb hg hx
      go_wp2_with fail
      all_goals first
        | (go_ret
           refine ⟨ret_bool ?_, rfl⟩
           rw [nameOk, all_false_of HX.out (HB.out.2 (by clear HR HX HB HG HS; simp at *; omega)), Bool.and_false])
        | (go_round
           case rel => exact ⟨k + 1, by omega, by go_num, by rw [all_take_succ HX.out, HR.out, HG.out.2 (by clear HR HX HB HG HS; simp at *; omega)]; rfl⟩
           case measure => simp [intOf]; omega)
    · have hall : (s.toList.all fun c => goodB c.toNat) = true := by
        have := HR.out
        rwa [List.take_of_length_le (by rw [HS.out]; omega)] at this
      have HA := Lib.hid hall
      clear hall HR
      by_cases h1 : 1 ≤ s.size
      · have d1 : decide ((s.size : Int) ≥ 1) = true := by simp; omega
        go_wp2_with fail
        go_ret
        refine ⟨ret_bool ?_, rfl⟩
        rw [nameOk, HA.out, HS.out]
        simp [h1]
        try omega
      · have d1 : decide ((s.size : Int) ≥ 1) = false := by simp; omega
        go_wp2_with fail
        go_ret
        refine ⟨ret_bool ?_, rfl⟩
        rw [nameOk, HA.out, HS.out]
        simp [h1]
        try omega
theorem ref_ev_may_any (key : ByteArray) (v : Value) (l : List At) (w : World) (h : SeesA w v l) (hnm : ∀ a ∈ l, a.name.size ≤ 9223372036854775807) :
    Calls Tryz.prog 102 #[.agg #[.string key, v]] w fun e w' => e = .returned (.bool (evOk key l)) ∧ Old w w' := by
  by_cases hs : key.size ≤ 16
  case neg =>
    obtain ⟨p, c, rfl, h1, h2⟩ := h.len
    have d1 : decide ((key.size : Int) > 16) = true := by simp; omega
    clear h h1 h2
    go_enter Tryz.func102, Tryz.ntmps102
    go_wp2_with fail
    go_ret
    refine ⟨ret_bool ?_, (Keeps.refl _ _).alloc _⟩
    simp [evOk, hs]
  case pos =>
  have d1 : decide ((key.size : Int) > 16) = false := by simp; omega
  by_cases h8 : l.length ≤ 8
  case neg =>
    obtain ⟨p, c, rfl, h1, h2⟩ := h.len
    have d2 : decide ((l.length : Int) > 8) = true := by simp; omega
    clear h h1 h2
    go_enter Tryz.func102, Tryz.ntmps102
    go_wp2_with fail
    go_ret
    refine ⟨ret_bool ?_, (Keeps.refl _ _).alloc _⟩
    simp [evOk, h8]
  case pos =>
  have d2 : decide ((l.length : Int) > 8) = false := by simp; omega
  by_cases hl : 0 < l.length
  · obtain ⟨b, o, c, rfl, h1, h2, hc⟩ := h.at hl
    have HC := Lib.hid hc
    have HNM := Lib.hid hnm
    have HSZ := Lib.hid hs
    clear h1 h2 h hc hl hnm hs
    go_enter Tryz.func102, Tryz.ntmps102
    go_wp2_with fail
    go_loopw [3] (fun v3 wr => ∃ k : Nat, k ≤ l.length ∧ v3 = .int .i64 k ∧ (∀ i, i < k → okAt l i = true) ∧ Old (w.alloc (.cells #[.string key, .slice (some ⟨b, o, none⟩) l.length c] 27)) wr) (fun v3 _ => l.length - (intOf v3).toNat)
    case atStart => exact ⟨0, by omega, rfl, by intro i hi; omega, Keeps.refl _ _⟩
    case round =>
      obtain ⟨k, hk, rfl, hr, hold⟩ := hrel
      have HR := Lib.hid hr
      have HO := Lib.hid hold
      have hw0 : wr.heap[w.heap.size]? = some (.cells #[.string key, .slice (some ⟨b, o, none⟩) l.length c] 27 (0, 0)) := (HO.out.block _ (by simp) (fun f => f)).trans (heap_alloc_new _ _)
      have e1 : wr.cell? ⟨w.heap.size, 1, none⟩ = some (.slice (some ⟨b, o, none⟩) l.length c) := by simp [World.cell?, hw0]
      clear hr hold hw0
      by_cases hlt : k < l.length
      · have hx : l[k]? = some l[k] := List.getElem?_eq_getElem hlt
        generalize hak : l[k] = a at hx
        have cell : ∀ i u, a.cells[i]? = some u → wr.cell? ⟨b, o + k * 5 + i, none⟩ = some u := fun i u hu =>
          HO.out.cell (((Keeps.refl (fun _ => False) _).alloc _).cell (HC.out k a hx i u hu) (fun f => f)) (fun f => f)
        have c0 := cell 0 _ rfl
        have c1 := cell 1 _ rfl
        have c2 := cell 2 _ rfl
        have c3 := cell 3 _ rfl
        have c4 := cell 4 _ rfl
        simp only [Nat.add_zero] at c0
        have N := fun W => ref_name_any a.name W (HNM.out a (List.mem_of_getElem? hx))
        have V := fun W => ref_val_any a.val W
        unfold Val.cells at V
        have HX := Lib.hid hx
        clear cell hx hak
        cases hn : nameOk a.name.toList
        · rw [hn] at N
          have NN := Lib.hid N
          have HN := Lib.hid hn
          clear N V hn
          go_wp2_with fail
          refine (NN.out _).mono ?_
          rintro e w1 ⟨rfl, rfl⟩
          go_wp2_with fail
          go_ret
          refine ⟨ret_bool ?_, ((Keeps.refl _ _).alloc _).trans HO.out⟩
          rw [evOk, attrsOk_false hlt (by simp [okAt, HX.out, HN.out]), Bool.and_false]
        · rw [hn] at N
          have NN := Lib.hid N
          have HN := Lib.hid hn
          clear N hn
          cases hv : a.val.ok
          · rw [hv] at V
            have VV := Lib.hid V
            have HV := Lib.hid hv
            clear V hv
            go_wp2_with fail
            refine (NN.out _).mono ?_
            rintro e w1 ⟨rfl, rfl⟩
            go_wp2_with fail
            refine (VV.out _).mono ?_
            rintro e w1 ⟨rfl, hk1⟩
            have HK1 := Lib.hid hk1
            clear hk1
            go_wp2_with fail
            go_ret
            refine ⟨ret_bool ?_, ((Keeps.refl _ _).alloc _).trans (HO.out.trans HK1.out)⟩
            rw [evOk, attrsOk_false hlt (by simp [okAt, HX.out, HN.out, HV.out]), Bool.and_false]
          · rw [hv] at V
            have VV := Lib.hid V
            have HV := Lib.hid hv
            clear V hv
            go_wp2_with fail
            refine (NN.out _).mono ?_
            rintro e w1 ⟨rfl, rfl⟩
            go_wp2_with fail
            refine (VV.out _).mono ?_
            rintro e w1 ⟨rfl, hk1⟩
            have n5 := OldOf.cell (hk1.cell e1 (fun f => f))
            have n6 := OldOf.cell (hk1.cell c0 (fun f => f))
            have HK1 := Lib.hid hk1
            clear hk1 c0 c1 c2 c3 c4 e1
            go_wp2_with fail
            have i2 : (0 : Int) ≤ (k : Int) := by omega
            have i3 : (k : Int) < (l.length : Int) := by omega
            rcases k with _ | j
            · refine wp_region_quiet_old (by kernel_rfl) (by kernel_rfl) ?_
              repeat (go_big_quiet_step ((fail)))
              refine wpQuiet_nil ?_
              intro _ hpq
              obtain ⟨pq, hpq'⟩ := hpq
              subst hpq'
              go_wp2_with fail
              go_roundw
              case rel =>
                refine ⟨1, by omega, by go_num, fun i hi => ?_, HO.out.trans (HK1.out.trans pq.old)⟩
                obtain rfl : i = 0 := by omega
                simp [okAt, HX.out, HN.out, HV.out]
              case measure => simp [intOf]; try omega
            · have hxj : l[j]? = some l[j] := List.getElem?_eq_getElem (by omega)
              generalize hbj : l[j] = a' at hxj
              have p0 : w1.cell? ⟨b, o + j * 5, none⟩ = some (.string a'.name) := HK1.out.cell (HO.out.cell (((Keeps.refl (fun _ => False) _).alloc _).cell (HC.out j a' hxj 0 _ rfl) (fun f => f)) (fun f => f)) (fun f => f)
              have q0 := OldOf.cell p0
              have HXJ := Lib.hid hxj
              have i1 : IntKind.i64.wrap ((j : Int)) = (j : Int) := by rw [IntKind.wrap_i64]; omega
              have i4 : (0 : Int) ≤ (j : Int) := by omega
              have i5 : (j : Int) < (l.length : Int) := by omega
              have i6 : decide (0 < (j : Int) + 1) = true := by simp <;> omega
              have HI := Lib.hid (And.intro hk hlt)
              clear p0 hxj hbj
              cases hb : Op.bytesLess a'.name.toList a.name.toList
              all_goals have HB := Lib.hid hb
              · refine wp_region_quiet_old (by kernel_rfl) (by kernel_rfl) ?_
                repeat (go_big_quiet_step ((fail)))
                refine wpQuiet_nil ?_
                intro _ hpq
                obtain ⟨pq, hpq'⟩ := hpq
                subst hpq'
                go_wp2_with fail
                go_ret
                refine ⟨ret_bool ?_, ((Keeps.refl _ _).alloc _).trans (HO.out.trans (HK1.out.trans pq.old))⟩
                rw [evOk, attrsOk_false HI.out.2 (by simp [okAt, HX.out, HN.out, HV.out, HXJ.out, HB.out]), Bool.and_false]
              · refine wp_region_quiet_old (by kernel_rfl) (by kernel_rfl) ?_
                repeat (go_big_quiet_step ((fail)))
                refine wpQuiet_nil ?_
                intro _ hpq
                obtain ⟨pq, hpq'⟩ := hpq
                subst hpq'
                go_wp2_with fail
                go_roundw
                case rel =>
                  refine ⟨j + 1 + 1, by omega, by go_num, fun i hi => ?_, HO.out.trans (HK1.out.trans pq.old)⟩
                  rcases Nat.lt_or_ge i (j + 1) with h | h
                  · exact HR.out i h
                  · obtain rfl : i = j + 1 := by omega
                    simp [okAt, HX.out, HN.out, HV.out, HXJ.out, HB.out]
                case measure => simp [intOf]; try omega
      · have hok : attrsOk l = true := attrsOk_true fun i hi => HR.out i (by omega)
        have HK := Lib.hid hok
        clear hok
        go_wp2_with fail
        go_ret
        refine ⟨ret_bool ?_, ((Keeps.refl _ _).alloc _).trans HO.out⟩
        simp [evOk, HK.out, HSZ.out]
        omega
  · obtain ⟨rfl, p, c, rfl⟩ := h.at0 (by omega)
    clear h hl d2
    go_enter Tryz.func102, Tryz.ntmps102
    go_wp2_with fail
    go_loopw [3] (fun v8 wr => v8 = .int .i64 0 ∧ wr = w.alloc (.cells #[.string key, .slice p 0 c] 27)) (fun _ _ => 0)
    case atStart => exact ⟨rfl, rfl⟩
    case round =>
      obtain ⟨rfl, rfl⟩ := hrel
      go_wp2_with fail
      go_ret
      refine ⟨ret_bool ?_, (Keeps.refl _ _).alloc _⟩
      simp [evOk, hs, attrsOk]
end
section
open Go.RowKit
def U8 (w : World) (B k : Nat) : Prop := B ≤ k ∧ ∃ cs fr, w.heap[k]? = some (.cells cs 5 fr)
abbrev K8 (B : Nat) (w w' : World) : Prop := Keeps (U8 w B) w w'
theorem K8.trans {B : Nat} {a b c : World} (h : K8 B a b) (k : K8 B b c) : K8 B a c := by
 refine h.then k (fun i hi hu => ?_)
 by_cases hn : U8 a B i
 ·exact hn
 ·have := h.block i hi hn
  obtain ⟨h1, cs, fr, h2⟩ := hu
  exact ⟨h1, cs, fr, this ▸ h2⟩
theorem K8.old {B : Nat} {a b : World} (h : Old a b) : K8 B a b := h.weaken (fun _ _ f => f.elim)
theorem K8.grown {B : Nat} {a b : World} {v : Value} {l : List UInt8} (ho : Owns a B v l) (hg : a.grownBy b v.ownBlock) : K8 B a b :=
 (Keeps.refl _ _).grown hg (fun k hk hlt => ⟨(ho.block k hk).1, by
  obtain ⟨h1, h2⟩ := ho
  rcases h2 with ⟨rfl, h0⟩ | ⟨g, cap, cur, rfl, hb, hgg, _⟩
  ·cases hk
  ·simp only [Value.ownBlock, Option.some.injEq] at hk
   subst hk
   exact ⟨_, _, hgg⟩⟩)
theorem K8.block {B : Nat} {a b : World} (h : K8 B a b) {k : Nat} {cs : Array Value} {t : TypeId} {fr : Nat × Nat} (hk : a.heap[k]? = some (.cells cs t fr)) (ht : t ≠ 5) : b.heap[k]? = some (.cells cs t fr) := by
 refine (Keeps.block h k (Array.getElem?_eq_some_iff.1 hk).1 ?_).trans hk
 rintro ⟨_, cs', fr', h'⟩
 rw [hk] at h'
 simp only [Option.some.injEq, Obj.cells.injEq] at h'
 exact ht h'.2.1
theorem K8.below {B : Nat} {a b : World} (h : K8 B a b) (hB : B ≤ a.heap.size) : Below B a b := Keeps.below (h.weaken (fun _ _ u => u.1)) hB
theorem K8.to_old {a b : World} (h : K8 a.heap.size a b) : Old a b := ⟨h.os, h.tape, h.output, h.size, fun k hk _ => Keeps.block h k hk (fun u => by have := u.1; omega)⟩
theorem K8.alloc {B : Nat} {a b : World} (h : K8 B a b) (o : Obj) : K8 B a (b.alloc o) := Keeps.alloc h o
def Gro (w : World) (B : Nat) (l : List UInt8) (e : Ending) (w' : World) : Prop := ∃ p n c, e = .returned (.slice p n c) ∧ Owns w' B (.slice p n c) l ∧ K8 B w w'
theorem gro {w w' : World} {B : Nat} {l : List UInt8} {e : Ending} {v : Value} (he : e = .returned v) (ho : Owns w' B v l) (hk : K8 B w w') : Gro w B l e w' := by
 obtain ⟨p, c, rfl, _, _⟩ := ho.sees.len
 exact ⟨p, _, c, he, ho, hk⟩
theorem wpList_append_text {w : World} {ops : Array Oper} {rest : List Oper} {o : Oper} {a : Act} {Q : Exit → Act → World → Prop} (hgd : o.guard = none) (s x : Operand)
  (ho : o.op = .call { callee := .builtin .append, args := #[s, x], argTypes := #[38, 9] })
  (B : Nat) (v : Value) (l : List UInt8) (hs : a.eval s = v) (hown : Owns w B v l) (t : ByteArray) (hx : a.eval x = .string t)
  (hlen : l.length + t.size ≤ 1152921504606) (hB : B ≤ w.heap.size)
  (h : ∀ v' w', Owns w' B v' (l ++ t.toList) → w.grownBy w' v.ownBlock → wpList Tryz.prog ops Q rest (a.put o.dst v') w') : wpList Tryz.prog ops Q (o :: rest) a w := by
 obtain ⟨i0, hi, hz0, hz1, hz2⟩ := info_parts Tryz.infoU8
 refine Lib.wpList_append_own_string w hgd s x 38 9 ho B 5 i0 Tryz.underlying38 Tryz.underlying9 hi hz0 hz1 hz2 v l.length (l.map u8) hs hown t hx (by unfold maxLen; omega) (by omega) hB ?_
 intro v' w' ho' hg' _
 refine h v' w' ?_ hg'
 unfold Owns
 have e1 : (l ++ t.toList).length = l.length + t.size := by simp [size_toList]
 have e2 : (l ++ t.toList).map u8 = l.map u8 ++ Lib.strCells t := by
  rw [List.map_append, ByteArray.toList_eq]
  simp [Lib.strCells, u8]
 rw [e1, e2]
 exact ho'
theorem ref7_num_any (v : Value) (l : List UInt8) (n B : Nat) (w : World) (h : Owns w B v l) (hl : l.length ≤ 1000000000) (hn : n < 18446744073709551616) (hB : B ≤ w.heap.size) :
  Calls Tryz.prog 80 #[v, .int .u64 n] w (Gro w B (l ++ form n)) := by
 have HH := Lib.hid (And.intro h hB)
 clear h hB
 go_enter Tryz.func80, Tryz.ntmps80
 go_wp2_with fail
 go_loopw [0, 1] (fun v0 v1 wr => ∃ m l', v1 = .int .u64 (m : Nat) ∧ m < 18446744073709551616 ∧ Owns wr B v0 l' ∧ K8 B w wr ∧ l' ++ form m = l ++ form n) (fun _ v1 _ => (intOf v1).toNat)
 case atStart => exact ⟨n, l, rfl, hn, HH.out.1, Keeps.refl _ _, rfl⟩
 case round =>
  obtain ⟨m, l', rfl, hm, ho', hk', he⟩ := hrel
  have hlen : l'.length ≤ 1000000010 := by
   have := congrArg List.length he
   simp only [List.length_append] at this
   have := form_le10 hn
   omega
  have H := Lib.hid he
  clear he
  have hs := Nat.le_trans HH.out.2 hk'.size
  by_cases h0 : m < 128
  ·go_wp2_with (at_builtin; refine wpList_append_sees rfl _ _ rfl B u0 l' rfl (ho'.alloc _) _ [UInt8.ofNat m] rfl (Sees.one _ _ _ ?_) (by simp; omega) (by simp; omega) ?_; rotate_left; intro v' w2 ho2 hg2)
   ·go_ret
    refine gro rfl ?_ ((hk'.alloc _).trans (K8.grown (ho'.alloc _) hg2))
    rw [← H.out, form_lt h0]
    exact ho2
   ·exact byte_low h0
  ·go_wp2_with (at_builtin; refine wpList_append_sees rfl _ _ rfl B u0 l' rfl (ho'.alloc _) _ [UInt8.ofNat (128 + m % 128)] rfl (Sees.one _ _ _ ?_) (by simp; omega) (by simp; omega) ?_; rotate_left; intro v' w2 ho2 hg2)
   ·go_roundw
    case rel => exact ⟨m / 128, _, by go_num, by omega, ho2, (hk'.alloc _).trans (K8.grown (ho'.alloc _) hg2), by have h1 := form_ge (n := m) (by omega); rw [← H.out, h1]; simp⟩
    case measure => simp [intOf]; omega
   ·exact byte_high m
theorem ref7_text_any (v : Value) (l : List UInt8) (s : ByteArray) (B : Nat) (w : World) (h : Owns w B v l) (hl : l.length ≤ 1000000000) (hs : s.size ≤ 1000000000) (hB : B ≤ w.heap.size) :
  Calls Tryz.prog 81 #[v, .string s] w (Gro w B (l ++ form s.size ++ s.toList)) := by
 have C := Lib.hid (ref7_num_any v l s.size B w h hl (by omega) hB)
 have h10 : (form s.size).length ≤ 10 := form_le10 (by omega)
 have HB := Lib.hid hB
 clear h hB
 go_enter Tryz.func81, Tryz.ntmps81
 go_wp2_with fail
 refine C.out.mono ?_
 rintro e w1 ⟨p1, n1, c1, rfl, ho1, hk1⟩
 go_wp2_with (at_builtin; refine wpList_append_text rfl _ _ rfl B (.slice p1 n1 c1) _ rfl ho1 s rfl (by simp; omega) (Nat.le_trans HB.out hk1.size) ?_; intro v2 w2 ho2 hg2)
 go_ret
 exact gro rfl ho2 (hk1.trans (K8.grown ho1 hg2))
end
section
open Go.RowKit
theorem ref7_value_any (v0 : Value) (l : List UInt8) (v : Val) (B : Nat) (w : World) (h : Owns w B v0 l) (hl : l.length ≤ 999999000) (hv : v.ok = true) (hz : -9223372036854775808 ≤ v.num ∧ v.num ≤ 9223372036854775807) (hB : B ≤ w.heap.size) :
  Calls Tryz.prog 82 #[v0, .agg v.cells] w (Gro w B (l ++ valForm v)) := by
 obtain ⟨k, n, s, b⟩ := v
 unfold Val.cells
 simp only at hz ⊢
 have hd : k = 1 ∨ k = 2 ∨ k = 3 := by
  unfold Val.ok at hv
  simp only at hv
  by_cases h1 : k = 1
  ·exact .inl h1
  ·by_cases h2 : k = 2
   ·exact .inr (.inl h2)
   ·simp [h1, h2] at hv; exact .inr (.inr hv.1.1)
 generalize hW0 : w.alloc (.cells #[.int .i64 k, .int .i64 n, .string s, .bool b] 69) = W0
 have k0 : Old w W0 := by rw [← hW0]; exact (Keeps.refl _ _).alloc _
 have hb0 : W0.heap[w.heap.size]? = some (.cells #[.int .i64 k, .int .i64 n, .string s, .bool b] 69 (0, 0)) := by rw [← hW0]; exact heap_alloc_new _ _
 have e0 : W0.cell? ⟨w.heap.size, 0, none⟩ = some (.int .i64 k) := by simp [World.cell?, hb0]
 have hf : (form 1).length ≤ 10 ∧ (form 2).length ≤ 10 ∧ (form 3).length ≤ 10 := ⟨form_le10 (by decide), form_le10 (by decide), form_le10 (by decide)⟩
 have hB0 : B ≤ W0.heap.size := Nat.le_trans hB k0.size
 rcases hd with rfl | rfl | rfl
 ·have C := Lib.hid (ref7_num_any v0 l 1 B W0 (h.old k0) (by omega) (by decide) hB0)
  have H := Lib.hid (And.intro k0 (And.intro hb0 hB0))
  clear k0 hb0 h hv hB hB0
  by_cases hneg : n < 0
  ·obtain ⟨m, rfl⟩ : ∃ m : Nat, n = -(m : Int) - 1 := ⟨(-n - 1).toNat, by omega⟩
   have hm : m ≤ 9223372036854775807 := by omega
   have hzz := Lib.hid hz
   clear hz
   go_enter Tryz.func82, Tryz.ntmps82
   go_wp2_with fail
   refine C.out.mono ?_
   rintro e w1 ⟨p1, n1, c1, rfl, ho1, hk1⟩
   have m1 := hk1.block H.out.2.1 (by decide)
   have q0 : w1.cell? ⟨w.heap.size, 0, none⟩ = some (.int .i64 1) := by simp [World.cell?, m1]
   have q1 : w1.cell? ⟨w.heap.size, 1, none⟩ = some (.int .i64 (-(m : Int) - 1)) := by simp [World.cell?, m1]
   have C2' := ref7_num_any _ _ (2 * m + 1) B w1 ho1 (by simp; omega) (by omega) (Nat.le_trans H.out.2.2 hk1.size)
   rw [show ((2 * m + 1 : Nat) : Int) = 2 * (m : Int) + 1 from by omega] at C2'
   have C2 := Lib.hid C2'
   have R := Lib.hid hk1
   clear ho1 hk1 m1 C e0 C2'
   go_wp2_with fail
   refine C2.out.mono ?_
   rintro e w2 ⟨p2, n2, c2, rfl, ho2, hk2⟩
   have R2 := Lib.hid (And.intro ho2 hk2)
   clear ho2 hk2 C2
   go_wp2_with fail
   go_ret
   refine gro rfl ?_ ((K8.old H.out.1).trans (R.out.trans R2.out.2))
   rw [show l ++ valForm ⟨1, -(m : Int) - 1, s, b⟩ = l ++ form 1 ++ form (2 * m + 1) from by
    unfold valForm; rw [if_pos rfl, show zigN (-(m : Int) - 1) = 2 * m + 1 from by unfold zigN; rw [if_neg (by omega)]; omega]; simp]
   exact R2.out.1
  ·obtain ⟨m, rfl⟩ : ∃ m : Nat, n = (m : Int) := ⟨n.toNat, by omega⟩
   have hm : m ≤ 9223372036854775807 := by omega
   have hzz := Lib.hid hz
   clear hz hneg
   go_enter Tryz.func82, Tryz.ntmps82
   go_wp2_with fail
   refine C.out.mono ?_
   rintro e w1 ⟨p1, n1, c1, rfl, ho1, hk1⟩
   have m1 := hk1.block H.out.2.1 (by decide)
   have q0 : w1.cell? ⟨w.heap.size, 0, none⟩ = some (.int .i64 1) := by simp [World.cell?, m1]
   have q1 : w1.cell? ⟨w.heap.size, 1, none⟩ = some (.int .i64 (m : Int)) := by simp [World.cell?, m1]
   have C2' := ref7_num_any _ _ (2 * m) B w1 ho1 (by simp; omega) (by omega) (Nat.le_trans H.out.2.2 hk1.size)
   rw [show ((2 * m : Nat) : Int) = 2 * (m : Int) from by omega] at C2'
   have C2 := Lib.hid C2'
   have R := Lib.hid hk1
   clear ho1 hk1 m1 C e0 C2'
   go_wp2_with fail
   refine C2.out.mono ?_
   rintro e w2 ⟨p2, n2, c2, rfl, ho2, hk2⟩
   have R2 := Lib.hid (And.intro ho2 hk2)
   clear ho2 hk2 C2
   go_wp2_with fail
   go_ret
   refine gro rfl ?_ ((K8.old H.out.1).trans (R.out.trans R2.out.2))
   rw [show l ++ valForm ⟨1, (m : Int), s, b⟩ = l ++ form 1 ++ form (2 * m) from by
    unfold valForm; rw [if_pos rfl, show zigN (m : Int) = 2 * m from by unfold zigN; rw [if_pos (by omega)]; omega]; simp]
   exact R2.out.1
 ·have hs : s.size ≤ 1000000000 := by
   have : s.size ≤ 32 := by simp [Val.ok] at hv; exact hv.1.1
   omega
  have C := Lib.hid (ref7_num_any v0 l 2 B W0 (h.old k0) (by omega) (by decide) hB0)
  have H := Lib.hid (And.intro k0 (And.intro hb0 hB0))
  clear k0 hb0 h hv hB hB0
  go_enter Tryz.func82, Tryz.ntmps82
  go_wp2_with fail
  refine C.out.mono ?_
  rintro e w1 ⟨p1, n1, c1, rfl, ho1, hk1⟩
  have m1 := hk1.block H.out.2.1 (by decide)
  have q0 : w1.cell? ⟨w.heap.size, 0, none⟩ = some (.int .i64 2) := by simp [World.cell?, m1]
  have q1 : w1.cell? ⟨w.heap.size, 2, none⟩ = some (.string s) := by simp [World.cell?, m1]
  have C2 := Lib.hid (ref7_text_any _ _ s B w1 ho1 (by simp; omega) hs (Nat.le_trans H.out.2.2 hk1.size))
  have R := Lib.hid hk1
  clear ho1 hk1 m1 C e0
  go_wp2_with fail
  refine C2.out.mono ?_
  rintro e w2 ⟨p2, n2, c2, rfl, ho2, hk2⟩
  have R2 := Lib.hid (And.intro ho2 hk2)
  clear ho2 hk2 C2
  go_wp2_with fail
  go_ret
  refine gro rfl ?_ ((K8.old H.out.1).trans (R.out.trans R2.out.2))
  rw [show l ++ valForm ⟨2, n, s, b⟩ = l ++ form 2 ++ form s.size ++ s.toList from by simp [valForm]]
  exact R2.out.1
 ·have C := Lib.hid (ref7_num_any v0 l 3 B W0 (h.old k0) (by omega) (by decide) hB0)
  have H := Lib.hid (And.intro k0 (And.intro hb0 hB0))
  clear k0 hb0 h hv hB hB0
  cases b
  ·go_enter Tryz.func82, Tryz.ntmps82
   go_wp2_with fail
   refine C.out.mono ?_
   rintro e w1 ⟨p1, n1, c1, rfl, ho1, hk1⟩
   have m1 := hk1.block H.out.2.1 (by decide)
   have q0 : w1.cell? ⟨w.heap.size, 0, none⟩ = some (.int .i64 3) := by simp [World.cell?, m1]
   have q1 : w1.cell? ⟨w.heap.size, 3, none⟩ = some (.bool false) := by simp [World.cell?, m1]
   have C2 := Lib.hid (ref7_num_any _ _ 0 B w1 ho1 (by simp; omega) (by omega) (Nat.le_trans H.out.2.2 hk1.size))
   have R := Lib.hid hk1
   clear ho1 hk1 m1 C e0
   go_wp2_with fail
   refine C2.out.mono ?_
   rintro e w2 ⟨p2, n2, c2, rfl, ho2, hk2⟩
   have R2 := Lib.hid (And.intro ho2 hk2)
   clear ho2 hk2 C2
   go_wp2_with fail
   go_ret
   refine gro rfl ?_ ((K8.old H.out.1).trans (R.out.trans R2.out.2))
   rw [show l ++ valForm ⟨3, n, s, false⟩ = l ++ form 3 ++ form 0 from by simp [valForm]]
   exact R2.out.1
  ·go_enter Tryz.func82, Tryz.ntmps82
   go_wp2_with fail
   refine C.out.mono ?_
   rintro e w1 ⟨p1, n1, c1, rfl, ho1, hk1⟩
   have m1 := hk1.block H.out.2.1 (by decide)
   have q0 : w1.cell? ⟨w.heap.size, 0, none⟩ = some (.int .i64 3) := by simp [World.cell?, m1]
   have q1 : w1.cell? ⟨w.heap.size, 3, none⟩ = some (.bool true) := by simp [World.cell?, m1]
   have C2 := Lib.hid (ref7_num_any _ _ 1 B w1 ho1 (by simp; omega) (by omega) (Nat.le_trans H.out.2.2 hk1.size))
   have R := Lib.hid hk1
   clear ho1 hk1 m1 C e0
   go_wp2_with fail
   refine C2.out.mono ?_
   rintro e w2 ⟨p2, n2, c2, rfl, ho2, hk2⟩
   have R2 := Lib.hid (And.intro ho2 hk2)
   clear ho2 hk2 C2
   go_wp2_with fail
   go_ret
   refine gro rfl ?_ ((K8.old H.out.1).trans (R.out.trans R2.out.2))
   rw [show l ++ valForm ⟨3, n, s, true⟩ = l ++ form 3 ++ form 1 from by simp [valForm]]
   exact R2.out.1
end
section
open Go.RowKit
theorem ref7_event_any (v0 : Value) (l : List UInt8) (key : ByteArray) (v : Value) (es : List At) (B : Nat) (w : World) (h : Owns w B v0 l) (hl : l.length ≤ 999990000)
  (ha : SeesA w v es) (hne : 0 < es.length → ∀ k, v.ownBlock = some k → k < B) (hok : evOk key es = true) (hf : Fits es) (hB : B ≤ w.heap.size) :
  Calls Tryz.prog 117 #[v0, .agg #[.string key, v]] w (Gro w B (l ++ evForm key es)) := by
 have hok' := hok
 unfold evOk at hok'
 simp at hok'
 obtain ⟨⟨hks, h8⟩, hao⟩ := hok'
 obtain ⟨p, c, rfl, hc1, hc2⟩ := ha.len
 generalize hW0 : w.alloc (.cells #[.string key, .slice p es.length c] 27) = W0
 have k0 : Old w W0 := by rw [← hW0]; exact (Keeps.refl _ _).alloc _
 have hb0 : W0.heap[w.heap.size]? = some (.cells #[.string key, .slice p es.length c] 27 (0, 0)) := by rw [← hW0]; exact heap_alloc_new _ _
 have hS0 : W0.drew.cell? ⟨w.heap.size, 0, none⟩ = some (.string key) ∧ W0.drew.cell? ⟨w.heap.size, 1, none⟩ = some (.slice p es.length c) := by
  constructor <;> (show W0.cell? _ = _; simp [World.cell?, hb0])
 have fk : (form key.size).length ≤ 10 := form_le10 (by omega)
 have fn : (form es.length).length ≤ 10 := form_le10 (by omega)
 have hB0 : B ≤ W0.heap.size := Nat.le_trans hB k0.size
 have C := Lib.hid (ref7_text_any v0 l key B W0.drew (h.old k0.drew) (by omega) (by omega) hB0)
 have H := Lib.hid (And.intro k0 (And.intro hb0 (And.intro ha (And.intro hne (And.intro hao (And.intro hf hB0))))))
 have hlen1 : (l ++ form key.size ++ key.toList).length ≤ l.length + 26 := by simp only [List.length_append, size_toList]; omega
 clear k0 hb0 h hok ha hne hao hf hc1 hc2 hB0
 go_enter Tryz.func117, Tryz.ntmps117
 go_wp2_with fail
 have hu : IntKind.u64.wrap (es.length : Int) = es.length := by rw [IntKind.wrap_u64]; omega
 go_region_held3 (fun w' => w'.cell? ⟨w.heap.size, 0, none⟩ = some (.string key) ∧ w'.cell? ⟨w.heap.size, 1, none⟩ = some (.slice p es.length c)) (first | exact hS0 | exact ⟨q20, q21⟩ | exact ⟨q10, q11⟩)
  (first
   | (go_at_call 81; (with_reducible refine C.out.mono ?_); rintro e w1 ⟨p1, n1, c1, rfl, ho1, hk1⟩; have m1 := Lib.hid (K8.block hk1 (show W0.drew.heap[w.heap.size]? = _ from H.out.2.1) (by decide)); have q10 : w1.cell? ⟨w.heap.size, 0, none⟩ = some (.string key) := (by simp [World.cell?, m1.out]); have q11 : w1.cell? ⟨w.heap.size, 1, none⟩ = some (.slice p es.length c) := (by simp [World.cell?, m1.out]))
   | (go_at_call 80; have hB1 : B ≤ w1.heap.size := Nat.le_trans (show B ≤ W0.drew.heap.size from H.out.2.2.2.2.2.2) hk1.size; (with_reducible refine (ref7_num_any _ _ es.length B _ ho1 (by omega) (by omega) hB1).mono ?_); rintro e w2 ⟨p2, n2, c2, rfl, ho2, hk2⟩; have m2 := Lib.hid (K8.block hk2 m1.out (by decide)); have q20 : w2.cell? ⟨w.heap.size, 0, none⟩ = some (.string key) := (by simp [World.cell?, m2.out]); have q21 : w2.cell? ⟨w.heap.size, 1, none⟩ = some (.slice p es.length c) := (by simp [World.cell?, m2.out])))
 have K2 : K8 B w w2 := (K8.old H.out.1).trans (Keeps.trans (S := U8 W0 B) (Keeps.refl _ _).drew (hk1.trans hk2))
 have hlen2 : (l ++ form key.size ++ key.toList ++ form es.length).length ≤ l.length + 36 := by simp only [List.length_append] at hlen1 ⊢; omega
 generalize hl0 : l ++ form key.size ++ key.toList ++ form es.length = l0
 rw [hl0] at ho2 hlen2
 have L0 := Lib.hid hl0
 have R4 := Lib.hid (And.intro ho2 (And.intro K2 m2.out))
 clear hl0 ho2 K2 m2 ho1 hk1 hk2 m1 hS0 hlen1 C hu q10 q11 q20 q21
 go_wp2_with fail
 go_loopw [0, 5] (fun x0 x5 wr => ∃ k : Nat, k ≤ es.length ∧ x5 = .int .i64 k ∧ Owns wr B x0 (l0 ++ (es.take k).flatMap atForm) ∧ K8 B w wr ∧ wr.heap[w.heap.size]? = some (.cells #[.string key, .slice p es.length c] 27 (0, 0))) (fun _ x5 _ => es.length - (intOf x5).toNat)
 case atStart => exact ⟨0, by omega, rfl, by simpa using R4.out.1, R4.out.2.1, R4.out.2.2⟩
 case round =>
  obtain ⟨k, hk, rfl, how, hkw, hbx⟩ := hrel
  have x1 : wr.cell? ⟨w.heap.size, 1, none⟩ = some (.slice p es.length c) := by simp [World.cell?, hbx]
  by_cases hlt : k < es.length
  ·obtain ⟨b, o, c', he, _, _, hc⟩ := H.out.2.2.1.at (by omega)
   simp only [Value.slice.injEq, true_and] at he
   obtain ⟨rfl, rfl⟩ := he
   have hx : es[k]? = some es[k] := List.getElem?_eq_getElem hlt
   generalize es[k] = a at hx
   have hbB : b < B := H.out.2.2.2.1 (by omega) b rfl
   have cell : ∀ i u, a.cells[i]? = some u → wr.cell? ⟨b, o + k * 5 + i, none⟩ = some u := fun i u hu => hkw.cell (hc k a hx i u hu) (fun f => by have := f.1; simp only at this; omega)
   have c0 := cell 0 _ rfl
   have c1 := cell 1 _ rfl
   have c2 := cell 2 _ rfl
   have c3 := cell 3 _ rfl
   have c4 := cell 4 _ rfl
   simp only [Nat.add_zero] at c0
   obtain ⟨hnok, hvok⟩ := attrsOk_at H.out.2.2.2.2.1 hx
   have hfit := H.out.2.2.2.2.2.1 a (List.mem_of_getElem? hx)
   have hns := nameOk_size hnok
   have hfl := flat_take_le H.out.2.2.2.2.1 H.out.2.2.2.2.2.1 k hk
   have hlen3 : (l0 ++ (es.take k).flatMap atForm).length ≤ l.length + 1000 := by simp only [List.length_append]; omega
   have hz := hfit.2
   have f0 : (0 : Int) ≤ (k : Int) := by omega
   have f1 : (k : Int) < (es.length : Int) := by omega
   have hBw : B ≤ wr.heap.size := Nat.le_trans hB hkw.size
   have hS0 : wr.drew.cell? ⟨w.heap.size, 1, none⟩ = some (.slice (some ⟨b, o, none⟩) es.length c) ∧ wr.drew.cell? ⟨b, o + k * 5, none⟩ = some (.string a.name) ∧ wr.drew.cell? ⟨b, o + k * 5 + 1, none⟩ = some (.int .i64 a.val.kind) ∧ wr.drew.cell? ⟨b, o + k * 5 + 2, none⟩ = some (.int .i64 a.val.num) ∧ wr.drew.cell? ⟨b, o + k * 5 + 3, none⟩ = some (.string a.val.str) ∧ wr.drew.cell? ⟨b, o + k * 5 + 4, none⟩ = some (.bool a.val.is) := ⟨x1, c0, c1, c2, c3, c4⟩
   have C4 := Lib.hid (ref7_text_any u0 _ a.name B wr.drew how (by omega) (by omega) hBw)
   have C5 := fun v1 W (hO : Owns W B v1 (l0 ++ (es.take k).flatMap atForm ++ form a.name.size ++ a.name.toList)) (hb : B ≤ W.heap.size) => ref7_value_any v1 _ a.val B W hO (by have : (form a.name.size).length ≤ 10 := form_le10 (by omega); simp only [List.length_append, size_toList] at hlen3 ⊢; omega) hvok hz hb
   unfold Val.cells at C5
   have HX := Lib.hid (And.intro hx (And.intro hkw (And.intro hbx (And.intro hbB hBw))))
   have HC5 := Lib.hid C5
   clear cell hx hkw hbx hc hnok hfit how hvok C5 c0 c1 c2 c3 c4 hbB hBw
   go_wp2_with fail
   go_region_held3 (fun w' => w'.cell? ⟨w.heap.size, 1, none⟩ = some (.slice (some ⟨b, o, none⟩) es.length c) ∧ w'.cell? ⟨b, o + k * 5, none⟩ = some (.string a.name) ∧ w'.cell? ⟨b, o + k * 5 + 1, none⟩ = some (.int .i64 a.val.kind) ∧ w'.cell? ⟨b, o + k * 5 + 2, none⟩ = some (.int .i64 a.val.num) ∧ w'.cell? ⟨b, o + k * 5 + 3, none⟩ = some (.string a.val.str) ∧ w'.cell? ⟨b, o + k * 5 + 4, none⟩ = some (.bool a.val.is)) (first | exact hS0 | exact hS2.out | exact hS1.out)
    (first
     | (go_at_call 81; (with_reducible refine C4.out.mono ?_); rintro e w4 ⟨p4, n4, c4, rfl, ho4, hk4⟩; have m4 := Lib.hid (K8.block hk4 (show wr.drew.heap[w.heap.size]? = _ from HX.out.2.2.1) (by decide)); have kc := Lib.hid (fun (q : Addr) (u : Value) (hu : wr.drew.cell? q = some u) (hq : q.block = b) => Keeps.cell hk4 hu (fun f => by have h1 := f.1; have h2 := HX.out.2.2.2.1; omega)); have hS1 := Lib.hid (And.intro (show w4.cell? ⟨w.heap.size, 1, none⟩ = some (.slice (some ⟨b, o, none⟩) es.length c) from (by simp [World.cell?, m4.out])) (And.intro (kc.out _ _ hS0.2.1 rfl) (And.intro (kc.out _ _ hS0.2.2.1 rfl) (And.intro (kc.out _ _ hS0.2.2.2.1 rfl) (And.intro (kc.out _ _ hS0.2.2.2.2.1 rfl) (kc.out _ _ hS0.2.2.2.2.2 rfl)))))))
     | (go_at_call 82; have hB4 : B ≤ w4.heap.size := Nat.le_trans (show B ≤ wr.drew.heap.size from HX.out.2.2.2.2) hk4.size; (with_reducible refine (HC5.out _ _ ho4 hB4).mono ?_); rintro e w5 ⟨p5, n5, c5, rfl, ho5, hk5⟩; have m5 := Lib.hid (K8.block hk5 m4.out (by decide)); have kd := Lib.hid (fun (q : Addr) (u : Value) (hu : w4.cell? q = some u) (hq : q.block = b) => Keeps.cell hk5 hu (fun f => by have h1 := f.1; have h2 := HX.out.2.2.2.1; omega)); have hS2 := Lib.hid (And.intro (show w5.cell? ⟨w.heap.size, 1, none⟩ = some (.slice (some ⟨b, o, none⟩) es.length c) from (by simp [World.cell?, m5.out])) (And.intro (kd.out _ _ hS1.out.2.1 rfl) (And.intro (kd.out _ _ hS1.out.2.2.1 rfl) (And.intro (kd.out _ _ hS1.out.2.2.2.1 rfl) (And.intro (kd.out _ _ hS1.out.2.2.2.2.1 rfl) (kd.out _ _ hS1.out.2.2.2.2.2 rfl))))))))
   have K5 : K8 B w w5 := HX.out.2.1.trans (Keeps.trans (S := U8 wr B) (Keeps.refl _ _).drew (hk4.trans hk5))
   have R5 := Lib.hid (And.intro ho5 (And.intro K5 m5.out))
   clear ho5 K5 m5 x1 hS0 hS1 hS2 kc kd m4 ho4 hk4 hk5 C4 HC5
   go_wp2_with fail
   go_roundw
   case rel => exact ⟨k + 1, by omega, by go_num, by rw [flat_take_succ HX.out.1]; simpa [atForm] using R5.out.1, R5.out.2.1, R5.out.2.2⟩
   case measure => simp [intOf]; omega
  ·have R5 := Lib.hid (And.intro how hkw)
   clear how hkw hbx
   go_wp2_with fail
   go_ret
   refine gro rfl ?_ R5.out.2
   have h1 := R5.out.1
   rw [List.take_of_length_le (by omega), ← L0.out] at h1
   simpa [evForm] using h1
end
section
open Go.RowKit
def Formed (w : World) (l : List UInt8) (e : Ending) (w' : World) : Prop := ∃ p n c, e = .returned (.tuple #[.slice p n c, .int .i64 0]) ∧ Owns w' w.heap.size (.slice p n c) l ∧ Old w w'
theorem form_no_any (fv : Value) (w : World) : Calls Tryz.prog 72 #[.bool false, fv] w fun e w' => e = .returned (.tuple #[.slice none 0 0, .int .i64 30]) ∧ w = w' := by
 go_enter Tryz.func72, Tryz.ntmps72
 go_wp2_with fail
 go_ret2
 exact ⟨rfl, rfl⟩
theorem form_yes_any (f : FuncId) (eb : Nat) (l : List UInt8) (w : World) (hent : ∀ (args : Array Value) (w : World), (callFunc f args).run Tryz.prog w = .ok (.enter f args) w)
  (hlay : ∀ W pw, Old w W → w.heap.size ≤ pw → Wr W w.heap.size pw [] → Calls Tryz.prog f #[.pointer (some ⟨pw, 0, none⟩), .pointer (some ⟨eb, 0, none⟩)] W (Laid W w.heap.size pw l)) :
  Calls Tryz.prog 72 #[.bool true, .func (.func f) #[] #[.pointer (some ⟨eb, 0, none⟩)]] w (Formed w l) := by
 have o1 := Owns.lit w w.heap.size [] (Nat.le_refl _) (Nat.zero_le _)
 generalize hW0 : (w.alloc (.cells #[] 5)).alloc (.cells #[.slice (some ⟨w.heap.size, 0, none⟩) 0 0] 173) = W0
 have k0 : Old w W0 := by rw [← hW0]; exact ((Keeps.refl _ _).alloc _).alloc _
 have hwr : Wr W0 w.heap.size (w.heap.size + 1) [] := by
  refine ⟨.slice (some ⟨w.heap.size, 0, none⟩) 0 0, ?_, ?_, ?_, k0.size⟩
  ·rw [← hW0]
   have := heap_alloc_new (w.alloc (.cells #[] 5)) (.cells #[.slice (some ⟨w.heap.size, 0, none⟩) 0 0] 173)
   simpa using this
  ·rw [← hW0]; exact o1.alloc _
  ·intro k hk; simp [Value.ownBlock] at hk; omega
 have C := Lib.hid (hlay W0 (w.heap.size + 1) k0 (by omega) hwr)
 have H := Lib.hid k0
 clear hlay hwr k0 o1
 go_enter Tryz.func72, Tryz.ntmps72
 go_wp2_with fail
 refine C.out.mono ?_
 rintro e w1 ⟨rfl, ⟨v, h1, h2, h3, h4⟩, hk⟩
 have q1 : w1.cell? ⟨w.heap.size + 1, 0, none⟩ = some v := by simp [World.cell?, h1]
 have K := Lib.hid (And.intro h2 hk)
 clear h1 h2 h3 h4 hk C
 go_wp2_with fail
 go_ret2
 obtain ⟨p, c, rfl, _, _⟩ := K.out.1.sees.len
 refine ⟨p, _, c, rfl, K.out.1, ?_⟩
 exact H.out.then K.out.2 (fun i hi e => by have e' : i = w.heap.size + 1 := e; omega)
end
section
open Go.RowKit
end
end Go.Proofs.YtpjpimahnnekkaaGreat
