/- DERIVED. Names and events: the document's answer (layer 2). · DERIVED. The document's writer of forms (layer 7): bytes are appended to a row of the call's own. · DERIVED. The document's writer of values and events (layer 7). · DERIVED. The document's writer of events (layer 7), and its sizes. · DERIVED. The contracts of codec.form, PutEvent and Size. · DERIVED. The document's PutEvent. · DERIVED. codec.TakeEvent. · DERIVED. The contracts of the writer of constraints, and of codec.PutPred. · DERIVED. The contract of codec.PutPred. · DERIVED. The contracts of codec.MayItem, the writer of items, codec.PutItem. · DERIVED. The contract of codec.MayPage. -/
import Derived.Test.YtiednihagnehlaaY03
import Derived.Test.YtiednihagnehlaaY04
import Derived.Lib.AppendStr
import Derived.Deep.RegionWith
import Derived.Deep.RegionHeld3
import Derived.Test.YtiednihagnehlaaY07
import Derived.Defers
import Derived.Recover
namespace Go.Proofs.Ytiednihagnehlaa
open Go.RowKit

theorem good_iff (c : Nat) : goodB c = true ↔ ((97 ≤ c ∧ c ≤ 122) ∨ (48 ≤ c ∧ c ≤ 57) ∨ c = 45 ∨ c = 46 ∨ c = 95) := by
  unfold goodB; simp; omega
theorem bad_iff (c : Nat) : goodB c = false ↔ ¬ ((97 ≤ c ∧ c ≤ 122) ∨ (48 ≤ c ∧ c ≤ 57) ∨ c = 45 ∨ c = 46 ∨ c = 95) := by
  rw [← good_iff]; simp

theorem ref_name_any (s : ByteArray) (w : World) (hm : s.size ≤ 9223372036854775807) : Calls Try.prog 85 #[.string s] w fun e w' => e = .returned (.bool (nameOk s.toList)) ∧ w = w' := by
  have hsz : s.toList.length = s.size := by rw [ByteArray.toList_eq]; simp
  have HS := Lib.hid hsz
  clear hsz
  go_enter Try.func85, Try.ntmps85
  go_wp2_with fail
  go_loop [3] (fun v3 => ∃ k : Nat, k ≤ s.size ∧ v3 = .int .i64 k ∧ (s.toList.take k).all (fun c => goodB c.toNat) = true) (fun v3 => s.size - (intOf v3).toNat)
  case atStart => exact ⟨0, by omega, rfl, by simp⟩
  case round =>
    obtain ⟨k, hk, rfl, hr⟩ := hrel
    have HR := Lib.hid hr
    clear hr
    by_cases hlt : k < s.size
    · have hx : s.toList[k]? = some s[k] := by rw [ByteArray.toList_eq]; simp [hlt]; rfl
      have hb := bad_iff (s[k].toNat)
      have hg := good_iff (s[k].toNat)
      have HX := Lib.hid hx
      have HB := Lib.hid hb
      have HG := Lib.hid hg
      clear hb hg hx
      go_wp2_with fail
      all_goals first
        | (go_ret
           refine ⟨ret_bool ?_, rfl⟩
           rw [nameOk, all_false_of HX.out (HB.out.2 (by clear HR HX HB HG HS; simp at *; omega)), Bool.and_false])
        | (go_round
           case rel => exact ⟨k + 1, by omega, by go_num, by rw [all_take_succ HX.out, HR.out, HG.out.2 (by clear HR HX HB HG HS; simp at *; omega)]; rfl⟩
           case measure => simp [intOf]; omega)
    · have hall : (s.toList.all fun c => goodB c.toNat) = true := by
        have := HR.out
        rwa [List.take_of_length_le (by rw [HS.out]; omega)] at this
      have HA := Lib.hid hall
      clear hall HR
      by_cases h1 : 1 ≤ s.size
      · have d1 : decide ((s.size : Int) ≥ 1) = true := by simp; omega
        go_wp2_with fail
        go_ret
        refine ⟨ret_bool ?_, rfl⟩
        rw [nameOk, HA.out, HS.out]
        simp [h1]
        try omega
      · have d1 : decide ((s.size : Int) ≥ 1) = false := by simp; omega
        go_wp2_with fail
        go_ret
        refine ⟨ret_bool ?_, rfl⟩
        rw [nameOk, HA.out, HS.out]
        simp [h1]
        try omega

set_option maxRecDepth 100000 in
theorem ref_ev_may_any (key : ByteArray) (v : Value) (l : List At) (w : World) (h : SeesA w v l) (hnm : ∀ a ∈ l, a.name.size ≤ 9223372036854775807) :
    Calls Try.prog 73 #[.agg #[.string key, v]] w fun e w' => e = .returned (.bool (evOk key l)) ∧ Old w w' := by
  by_cases hs : key.size ≤ 16
  case neg =>
    obtain ⟨p, c, rfl, h1, h2⟩ := h.len
    have d1 : decide ((key.size : Int) > 16) = true := by simp; omega
    clear h h1 h2
    go_enter Try.func73, Try.ntmps73
    go_wp2_with fail
    go_ret
    refine ⟨ret_bool ?_, (Keeps.refl _ _).alloc _⟩
    simp [evOk, hs]
  case pos =>
  have d1 : decide ((key.size : Int) > 16) = false := by simp; omega
  by_cases h8 : l.length ≤ 8
  case neg =>
    obtain ⟨p, c, rfl, h1, h2⟩ := h.len
    have d2 : decide ((l.length : Int) > 8) = true := by simp; omega
    clear h h1 h2
    go_enter Try.func73, Try.ntmps73
    go_wp2_with fail
    go_ret
    refine ⟨ret_bool ?_, (Keeps.refl _ _).alloc _⟩
    simp [evOk, h8]
  case pos =>
  have d2 : decide ((l.length : Int) > 8) = false := by simp; omega
  by_cases hl : 0 < l.length
  · obtain ⟨b, o, c, rfl, h1, h2, hc⟩ := h.at hl
    have HC := Lib.hid hc
    have HNM := Lib.hid hnm
    have HSZ := Lib.hid hs
    clear h1 h2 h hc hl hnm hs
    go_enter Try.func73, Try.ntmps73
    go_wp2_with fail
    go_loopw [3] (fun v3 wr => ∃ k : Nat, k ≤ l.length ∧ v3 = .int .i64 k ∧ (∀ i, i < k → okAt l i = true) ∧ Old (w.alloc (.cells #[.string key, .slice (some ⟨b, o, none⟩) l.length c] 33)) wr) (fun v3 _ => l.length - (intOf v3).toNat)
    case atStart => exact ⟨0, by omega, rfl, by intro i hi; omega, Keeps.refl _ _⟩
    case round =>
      obtain ⟨k, hk, rfl, hr, hold⟩ := hrel
      have HR := Lib.hid hr
      have HO := Lib.hid hold
      have hw0 : wr.heap[w.heap.size]? = some (.cells #[.string key, .slice (some ⟨b, o, none⟩) l.length c] 33 (0, 0)) := (HO.out.block _ (by simp) (fun f => f)).trans (heap_alloc_new _ _)
      have e1 : wr.cell? ⟨w.heap.size, 1, none⟩ = some (.slice (some ⟨b, o, none⟩) l.length c) := by simp [World.cell?, hw0]
      clear hr hold hw0
      by_cases hlt : k < l.length
      · have hx : l[k]? = some l[k] := List.getElem?_eq_getElem hlt
        generalize hak : l[k] = a at hx
        have cell : ∀ i u, a.cells[i]? = some u → wr.cell? ⟨b, o + k * 5 + i, none⟩ = some u := fun i u hu =>
          HO.out.cell (((Keeps.refl (fun _ => False) _).alloc _).cell (HC.out k a hx i u hu) (fun f => f)) (fun f => f)
        have c0 := cell 0 _ rfl
        have c1 := cell 1 _ rfl
        have c2 := cell 2 _ rfl
        have c3 := cell 3 _ rfl
        have c4 := cell 4 _ rfl
        simp only [Nat.add_zero] at c0
        have N := fun W => ref_name_any a.name W (HNM.out a (List.mem_of_getElem? hx))
        have V := fun W => ref_val_any a.val W
        unfold Val.cells at V
        have HX := Lib.hid hx
        clear cell hx hak
        cases hn : nameOk a.name.toList
        · rw [hn] at N
          have NN := Lib.hid N
          have HN := Lib.hid hn
          clear N V hn
          go_wp2_with fail
          refine (NN.out _).mono ?_
          rintro e w1 ⟨rfl, rfl⟩
          go_wp2_with fail
          go_ret
          refine ⟨ret_bool ?_, ((Keeps.refl _ _).alloc _).trans HO.out⟩
          rw [evOk, attrsOk_false hlt (by simp [okAt, HX.out, HN.out]), Bool.and_false]
        · rw [hn] at N
          have NN := Lib.hid N
          have HN := Lib.hid hn
          clear N hn
          cases hv : a.val.ok
          · rw [hv] at V
            have VV := Lib.hid V
            have HV := Lib.hid hv
            clear V hv
            go_wp2_with fail
            refine (NN.out _).mono ?_
            rintro e w1 ⟨rfl, rfl⟩
            go_wp2_with fail
            refine (VV.out _).mono ?_
            rintro e w1 ⟨rfl, hk1⟩
            have HK1 := Lib.hid hk1
            clear hk1
            go_wp2_with fail
            go_ret
            refine ⟨ret_bool ?_, ((Keeps.refl _ _).alloc _).trans (HO.out.trans HK1.out)⟩
            rw [evOk, attrsOk_false hlt (by simp [okAt, HX.out, HN.out, HV.out]), Bool.and_false]
          · rw [hv] at V
            have VV := Lib.hid V
            have HV := Lib.hid hv
            clear V hv
            go_wp2_with fail
            refine (NN.out _).mono ?_
            rintro e w1 ⟨rfl, rfl⟩
            go_wp2_with fail
            refine (VV.out _).mono ?_
            rintro e w1 ⟨rfl, hk1⟩
            have n5 := OldOf.cell (hk1.cell e1 (fun f => f))
            have n6 := OldOf.cell (hk1.cell c0 (fun f => f))
            have HK1 := Lib.hid hk1
            clear hk1 c0 c1 c2 c3 c4 e1
            go_wp2_with fail
            have i2 : (0 : Int) ≤ (k : Int) := by omega
            have i3 : (k : Int) < (l.length : Int) := by omega
            rcases k with _ | j
            · refine wp_region_quiet_old (by kernel_rfl) (by kernel_rfl) ?_
              repeat (go_big_quiet_step ((fail)))
              refine wpQuiet_nil ?_
              intro _ hpq
              obtain ⟨pq, hpq'⟩ := hpq
              subst hpq'
              go_wp2_with fail
              go_roundw
              case rel =>
                refine ⟨1, by omega, by go_num, fun i hi => ?_, HO.out.trans (HK1.out.trans pq.old)⟩
                obtain rfl : i = 0 := by omega
                simp [okAt, HX.out, HN.out, HV.out]
              case measure => simp [intOf]; try omega
            · have hxj : l[j]? = some l[j] := List.getElem?_eq_getElem (by omega)
              generalize hbj : l[j] = a' at hxj
              have p0 : w1.cell? ⟨b, o + j * 5, none⟩ = some (.string a'.name) := HK1.out.cell (HO.out.cell (((Keeps.refl (fun _ => False) _).alloc _).cell (HC.out j a' hxj 0 _ rfl) (fun f => f)) (fun f => f)) (fun f => f)
              have q0 := OldOf.cell p0
              have HXJ := Lib.hid hxj
              have i1 : IntKind.i64.wrap ((j : Int)) = (j : Int) := by rw [IntKind.wrap_i64]; omega
              have i4 : (0 : Int) ≤ (j : Int) := by omega
              have i5 : (j : Int) < (l.length : Int) := by omega
              have i6 : decide (0 < (j : Int) + 1) = true := by simp <;> omega
              have HI := Lib.hid (And.intro hk hlt)
              clear p0 hxj hbj
              cases hb : Op.bytesLess a'.name.toList a.name.toList
              all_goals have HB := Lib.hid hb
              · refine wp_region_quiet_old (by kernel_rfl) (by kernel_rfl) ?_
                repeat (go_big_quiet_step ((fail)))
                refine wpQuiet_nil ?_
                intro _ hpq
                obtain ⟨pq, hpq'⟩ := hpq
                subst hpq'
                go_wp2_with fail
                go_ret
                refine ⟨ret_bool ?_, ((Keeps.refl _ _).alloc _).trans (HO.out.trans (HK1.out.trans pq.old))⟩
                rw [evOk, attrsOk_false HI.out.2 (by simp [okAt, HX.out, HN.out, HV.out, HXJ.out, HB.out]), Bool.and_false]
              · refine wp_region_quiet_old (by kernel_rfl) (by kernel_rfl) ?_
                repeat (go_big_quiet_step ((fail)))
                refine wpQuiet_nil ?_
                intro _ hpq
                obtain ⟨pq, hpq'⟩ := hpq
                subst hpq'
                go_wp2_with fail
                go_roundw
                case rel =>
                  refine ⟨j + 1 + 1, by omega, by go_num, fun i hi => ?_, HO.out.trans (HK1.out.trans pq.old)⟩
                  rcases Nat.lt_or_ge i (j + 1) with h | h
                  · exact HR.out i h
                  · obtain rfl : i = j + 1 := by omega
                    simp [okAt, HX.out, HN.out, HV.out, HXJ.out, HB.out]
                case measure => simp [intOf]; try omega
      · have hok : attrsOk l = true := attrsOk_true fun i hi => HR.out i (by omega)
        have HK := Lib.hid hok
        clear hok
        go_wp2_with fail
        go_ret
        refine ⟨ret_bool ?_, ((Keeps.refl _ _).alloc _).trans HO.out⟩
        simp [evOk, HK.out, HSZ.out]
        omega
  · obtain ⟨rfl, p, c, rfl⟩ := h.at0 (by omega)
    clear h hl d2
    go_enter Try.func73, Try.ntmps73
    go_wp2_with fail
    go_loopw [3] (fun v8 wr => v8 = .int .i64 0 ∧ wr = w.alloc (.cells #[.string key, .slice p 0 c] 33)) (fun _ _ => 0)
    case atStart => exact ⟨rfl, rfl⟩
    case round =>
      obtain ⟨rfl, rfl⟩ := hrel
      go_wp2_with fail
      go_ret
      refine ⟨ret_bool ?_, (Keeps.refl _ _).alloc _⟩
      simp [evOk, hs, attrsOk]
end Go.Proofs.Ytiednihagnehlaa

namespace Go.Proofs.Ytiednihagnehlaa
open Go.RowKit

/-- block k lies from B on, and holds bytes -/
def U8 (w : World) (B k : Nat) : Prop := B ≤ k ∧ ∃ cs fr, w.heap[k]? = some (.cells cs 5 fr)
/-- only rows of bytes from B on have turned -/
abbrev K8 (B : Nat) (w w' : World) : Prop := Keeps (U8 w B) w w'
theorem K8.trans {B : Nat} {a b c : World} (h : K8 B a b) (k : K8 B b c) : K8 B a c := by
 refine h.then k (fun i hi hu => ?_)
 by_cases hn : U8 a B i
 ·exact hn
 ·have := h.block i hi hn
  obtain ⟨h1, cs, fr, h2⟩ := hu
  exact ⟨h1, cs, fr, this ▸ h2⟩
theorem K8.old {B : Nat} {a b : World} (h : Old a b) : K8 B a b := h.weaken (fun _ _ f => f.elim)
theorem K8.grown {B : Nat} {a b : World} {v : Value} {l : List UInt8} (ho : Owns a B v l) (hg : a.grownBy b v.ownBlock) : K8 B a b :=
 (Keeps.refl _ _).grown hg (fun k hk hlt => ⟨(ho.block k hk).1, by
  obtain ⟨h1, h2⟩ := ho
  rcases h2 with ⟨rfl, h0⟩ | ⟨g, cap, cur, rfl, hb, hgg, _⟩
  ·cases hk
  ·simp only [Value.ownBlock, Option.some.injEq] at hk
   subst hk
   exact ⟨_, _, hgg⟩⟩)
theorem K8.block {B : Nat} {a b : World} (h : K8 B a b) {k : Nat} {cs : Array Value} {t : TypeId} {fr : Nat × Nat} (hk : a.heap[k]? = some (.cells cs t fr)) (ht : t ≠ 5) : b.heap[k]? = some (.cells cs t fr) := by
 refine (Keeps.block h k (Array.getElem?_eq_some_iff.1 hk).1 ?_).trans hk
 rintro ⟨_, cs', fr', h'⟩
 rw [hk] at h'
 simp only [Option.some.injEq, Obj.cells.injEq] at h'
 exact ht h'.2.1
theorem K8.below {B : Nat} {a b : World} (h : K8 B a b) (hB : B ≤ a.heap.size) : Below B a b := Keeps.below (h.weaken (fun _ _ u => u.1)) hB
theorem K8.to_old {a b : World} (h : K8 a.heap.size a b) : Old a b := ⟨h.os, h.tape, h.output, h.size, fun k hk _ => Keeps.block h k hk (fun u => by have := u.1; omega)⟩
theorem K8.alloc {B : Nat} {a b : World} (h : K8 B a b) (o : Obj) : K8 B a (b.alloc o) := Keeps.alloc h o

/-- a row of the call's own came back -/
def Gro (w : World) (B : Nat) (l : List UInt8) (e : Ending) (w' : World) : Prop := ∃ p n c, e = .returned (.slice p n c) ∧ Owns w' B (.slice p n c) l ∧ K8 B w w'
theorem gro {w w' : World} {B : Nat} {l : List UInt8} {e : Ending} {v : Value} (he : e = .returned v) (ho : Owns w' B v l) (hk : K8 B w w') : Gro w B l e w' := by
 obtain ⟨p, c, rfl, _, _⟩ := ho.sees.len
 exact ⟨p, _, c, he, ho, hk⟩

/-- append(own.., s...) of a string -/
theorem wpList_append_text {w : World} {ops : Array Oper} {rest : List Oper} {o : Oper} {a : Act} {Q : Exit → Act → World → Prop} (hgd : o.guard = none) (s x : Operand)
  (ho : o.op = .call { callee := .builtin .append, args := #[s, x], argTypes := #[146, 9] })
  (B : Nat) (v : Value) (l : List UInt8) (hs : a.eval s = v) (hown : Owns w B v l) (t : ByteArray) (hx : a.eval x = .string t)
  (hlen : l.length + t.size ≤ 1152921504606) (hB : B ≤ w.heap.size)
  (h : ∀ v' w', Owns w' B v' (l ++ t.toList) → w.grownBy w' v.ownBlock → wpList Try.prog ops Q rest (a.put o.dst v') w') : wpList Try.prog ops Q (o :: rest) a w := by
 obtain ⟨i0, hi, hz0, hz1, hz2⟩ := info_parts Try.infoU8
 refine Lib.wpList_append_own_string w hgd s x 146 9 ho B 5 i0 Try.underlying146 Try.underlying9 hi hz0 hz1 hz2 v l.length (l.map u8) hs hown t hx (by unfold maxLen; omega) (by omega) hB ?_
 intro v' w' ho' hg' _
 refine h v' w' ?_ hg'
 unfold Owns
 have e1 : (l ++ t.toList).length = l.length + t.size := by simp [size_toList]
 have e2 : (l ++ t.toList).map u8 = l.map u8 ++ Lib.strCells t := by
  rw [List.map_append, ByteArray.toList_eq]
  simp [Lib.strCells, u8]
 rw [e1, e2]
 exact ho'

end Go.Proofs.Ytiednihagnehlaa

namespace Go.Proofs.Ytiednihagnehlaa
open Go.RowKit

end Go.Proofs.Ytiednihagnehlaa

namespace Go.Proofs.Ytiednihagnehlaa
open Go.RowKit

end Go.Proofs.Ytiednihagnehlaa

namespace Go.Proofs.Ytiednihagnehlaa
open Go.RowKit

/-- a form was made -/
def Formed (w : World) (l : List UInt8) (e : Ending) (w' : World) : Prop := ∃ p n c, e = .returned (.tuple #[.slice p n c, .int .i64 0]) ∧ Owns w' w.heap.size (.slice p n c) l ∧ Old w w'

/-- an event's size -/
def evSize (key : ByteArray) (es : List At) : Nat := if evOk key es then (evForm key es).length else 0
theorem evSize_le {key : ByteArray} {es : List At} (hf : Fits es) : evSize key es ≤ 800 := by
 unfold evSize; split
 ·exact evForm_le (by assumption) hf
 ·omega
end Go.Proofs.Ytiednihagnehlaa

namespace Go.Proofs.Ytiednihagnehlaa
open Go.RowKit

end Go.Proofs.Ytiednihagnehlaa

namespace Go.Proofs.Ytiednihagnehlaa
open Go.RowKit

theorem set2 {w : World} {b : Nat} {t : TypeId} {x0 x1 a0 a1 : Value} (h : w.heap[b]? = some (.cells #[x0, x1] t (0, 0))) : ((w.setCell ⟨b, 0, none⟩ a0).setCell ⟨b, 1, none⟩ a1).heap[b]? = some (.cells #[a0, a1] t (0, 0)) := by
 have h0 := heap_setCell_same w b 0 _ _ a0 h
 have h1 := heap_setCell_same _ b 1 _ _ a1 h0
 simpa using h1
theorem set4 {w : World} {b : Nat} {t : TypeId} {x0 x1 x2 x3 a0 a1 a2 a3 : Value} (h : w.heap[b]? = some (.cells #[x0, x1, x2, x3] t (0, 0))) : ((((w.setCell ⟨b, 0, none⟩ a0).setCell ⟨b, 1, none⟩ a1).setCell ⟨b, 2, none⟩ a2).setCell ⟨b, 3, none⟩ a3).heap[b]? = some (.cells #[a0, a1, a2, a3] t (0, 0)) := by
 have h0 := heap_setCell_same w b 0 _ _ a0 h
 have h1 := heap_setCell_same _ b 1 _ _ a1 h0
 have h2 := heap_setCell_same _ b 2 _ _ a2 h1
 have h3 := heap_setCell_same _ b 3 _ _ a3 h2
 simpa using h3
theorem set1 {w : World} {b : Nat} {t : TypeId} {x0 a0 : Value} (h : w.heap[b]? = some (.cells #[x0] t (0, 0))) : (w.setCell ⟨b, 0, none⟩ a0).heap[b]? = some (.cells #[a0] t (0, 0)) := by
 have h0 := heap_setCell_same w b 0 _ _ a0 h
 simpa using h0
theorem keepS {ep : Nat} {a b : World} {i : Nat} (u : Value) (h : Keeps (fun k => k = ep) a b) : Keeps (fun k => k = ep) a (b.setCell ⟨ep, i, none⟩ u) := h.setCell (fun _ => rfl) u
theorem keep1 {a0 : Value} (w : World) (b : Nat) : Keeps (fun k => k = b) w (w.setCell ⟨b, 0, none⟩ a0) := keepS _ (Keeps.refl _ _)
theorem keep2 {a0 a1 : Value} (w : World) (b : Nat) : Keeps (fun k => k = b) w ((w.setCell ⟨b, 0, none⟩ a0).setCell ⟨b, 1, none⟩ a1) := keepS _ (keepS _ (Keeps.refl _ _))
theorem keep4 {a0 a1 a2 a3 : Value} (w : World) (b : Nat) : Keeps (fun k => k = b) w ((((w.setCell ⟨b, 0, none⟩ a0).setCell ⟨b, 1, none⟩ a1).setCell ⟨b, 2, none⟩ a2).setCell ⟨b, 3, none⟩ a3) := keepS _ (keepS _ (keepS _ (keepS _ (Keeps.refl _ _))))
theorem keep5 {a0 a1 a2 a3 a4 : Value} (w : World) (b : Nat) : Keeps (fun k => k = b) w (((((w.setCell ⟨b, 0, none⟩ a0).setCell ⟨b, 1, none⟩ a1).setCell ⟨b, 2, none⟩ a2).setCell ⟨b, 3, none⟩ a3).setCell ⟨b, 4, none⟩ a4) := keepS _ (keepS _ (keepS _ (keepS _ (keepS _ (Keeps.refl _ _)))))

/-- bytes as an event -/
def takeE (l : List UInt8) : Option (ByteArray × List At) := (pEvent l).bind fun x => if evOk x.1.1 x.1.2 && decide (x.2 = []) then some x.1 else none
/-- what is told of bytes as an event -/
def TkE (w : World) (res : Option (ByteArray × List At)) (e : Ending) (w' : World) : Prop :=
 Old w w' ∧ match res with
 | some x => ∃ p n c, e = .returned (.tuple #[.agg #[.string x.1, .slice p n c], .int .i64 0]) ∧ OwnsA w' w.heap.size (.slice p n c) x.2
 | none => e = .returned (.tuple #[.agg #[.string ⟨#[]⟩, .slice none 0 0], .int .i64 5])
theorem TkE.no {w w' : World} {res : Option (ByteArray × List At)} (h : res = none) (k : Old w w') : TkE w res (.returned (.tuple #[.agg #[.string ⟨#[]⟩, .slice none 0 0], .int .i64 5])) w' := by subst h; exact ⟨k, rfl⟩
theorem TkE.yes {w w' : World} {res : Option (ByteArray × List At)} {key : ByteArray} {es : List At} {p : Option Addr} {n c : Nat} (h : res = some (key, es)) (k : Old w w') (ho : OwnsA w' w.heap.size (.slice p n c) es) : TkE w res (.returned (.tuple #[.agg #[.string key, .slice p n c], .int .i64 0])) w' := by subst h; exact ⟨k, p, n, c, rfl, ho⟩

end Go.Proofs.Ytiednihagnehlaa

namespace Go.Proofs.Ytiednihagnehlaa
open Go.RowKit

/-- a constraint's form -/
def conForm (c : PCon) : List UInt8 := form c.name.size ++ c.name.toList ++ form c.op.toNat ++
 (if c.op = 1 then [] else if c.op = 9 then form c.set.length ++ c.set.flatMap valForm else valForm c.val)
def predForm (l : List PCon) : List UInt8 := form l.length ++ l.flatMap conForm
/-- ranges of a constraint's integers -/
def ConR (x : Con) : Prop := VFits x.val ∧ ∀ v ∈ x.set, VFits v
theorem conOk_parts {x : Con} (h : conOk x = true) : x.name.size ≤ 16 ∧ 1 ≤ x.op ∧ x.op ≤ 9 ∧ (x.op = 9 → x.set.length ≤ 6 ∧ ∀ v ∈ x.set, v.ok = true) ∧ (x.op ≠ 1 → x.op ≠ 9 → x.val.ok = true) := by
 unfold conOk at h
 simp only [Bool.and_eq_true, decide_eq_true_eq] at h
 obtain ⟨⟨h1, h2⟩, h3⟩ := h
 by_cases o1 : x.op = 1
 ·rw [if_pos o1] at h3; exact ⟨h2, by omega, by omega, fun h => by omega, fun h => absurd o1 h⟩
 ·rw [if_neg o1] at h3
  by_cases o2 : 2 ≤ x.op ∧ x.op ≤ 7
  ·rw [if_pos o2] at h3; simp at h3; exact ⟨h2, by omega, by omega, fun h => by omega, fun _ _ => h3.1⟩
  ·rw [if_neg o2] at h3
   by_cases o3 : x.op = 8
   ·rw [if_pos o3] at h3; simp at h3; exact ⟨h2, by omega, by omega, fun h => by omega, fun _ _ => h3.1⟩
   ·rw [if_neg o3] at h3
    by_cases o4 : x.op = 9
    ·rw [if_pos o4] at h3; simp at h3; exact ⟨h2, by omega, by omega, fun _ => ⟨h3.2.2.1, fun v hv => h3.2.2.2 v hv⟩, fun _ h => absurd o4 h⟩
    ·rw [if_neg o4] at h3; cases h3
theorem vals_le {l : List Val} (h : ∀ v ∈ l, v.ok = true) (hf : ∀ v ∈ l, VFits v) : (l.flatMap valForm).length ≤ 60 * l.length := by
 induction l with
 | nil => simp
 | cons v r ih =>
  have h1 := valForm_le (h v (by simp)) (hf v (by simp))
  have h2 := ih (fun x hx => h x (by simp [hx])) (fun x hx => hf x (by simp [hx]))
  simp only [List.flatMap_cons, List.length_append, List.length_cons]
  omega
theorem conForm_le {x : Con} (h : conOk x = true) (hr : ConR x) : (conForm x.plain).length ≤ 500 := by
 obtain ⟨h1, h2, h3, h4, h5⟩ := conOk_parts h
 have f1 : (form x.name.size).length ≤ 10 := form_le10 (by omega)
 have f2 : (form x.op.toNat).length ≤ 10 := form_le10 (by omega)
 unfold conForm Con.plain
 simp only [List.length_append, size_toList]
 split
 ·simp; omega
 ·split
  ·rename_i o1 o9
   have f3 : (form x.set.length).length ≤ 10 := form_le10 (by have := (h4 o9).1; omega)
   have := vals_le (h4 o9).2 hr.2
   have := (h4 o9).1
   simp only [List.length_append]; omega
  ·rename_i o1 o9
   have := valForm_le (h5 o1 o9) hr.1
   omega

end Go.Proofs.Ytiednihagnehlaa

namespace Go.Proofs.Ytiednihagnehlaa
open Go.RowKit

theorem Con.fine.ranges {w : World} {x : Con} (h : x.fine w) : ConR x := ⟨h.2.1.2, h.2.2.1⟩
theorem predOk_parts {l : List Con} (h : predOk l = true) : l.length ≤ 6 ∧ ∀ x ∈ l, conOk x = true := by
 unfold predOk at h; simp at h; exact h
theorem cons_le {l : List Con} (h : ∀ x ∈ l, conOk x = true) (hr : ∀ x ∈ l, ConR x) : ((l.map Con.plain).flatMap conForm).length ≤ 500 * l.length := by
 induction l with
 | nil => simp
 | cons x r ih =>
  have h1 := conForm_le (h x (by simp)) (hr x (by simp))
  have h2 := ih (fun y hy => h y (by simp [hy])) (fun y hy => hr y (by simp [hy]))
  simp only [List.map_cons, List.flatMap_cons, List.length_append, List.length_cons]
  omega

end Go.Proofs.Ytiednihagnehlaa

namespace Go.Proofs.Ytiednihagnehlaa
open Go.RowKit

/-- may an item be? -/
def itOk (x : PIt) : Bool := decide (1 ≤ x.n) && (decide (x.n ≤ 1099511627776) && (decide (x.time ≤ 1099511627776) && evOk x.key x.es))
def itForm (x : PIt) : List UInt8 := form x.n ++ form x.time ++ evForm x.key x.es
theorem itForm_le {x : PIt} (h : itOk x = true) (hf : Fits x.es) : (itForm x).length ≤ 820 := by
 unfold itOk at h
 simp at h
 have h1 : (form x.n).length ≤ 10 := form_le10 (by omega)
 have h2 : (form x.time).length ≤ 10 := form_le10 (by omega)
 have h3 := evForm_le h.2.2.2 hf
 unfold itForm
 simp only [List.length_append]
 omega

set_option maxRecDepth 100000 in
theorem may_item_any (x : It) (w : World) (h : x.fine w) : Calls Try.prog 53 #[.agg x.cells.toArray] w fun e w' => e = .returned (.bool (itOk x.plain)) ∧ Old w w' := by
 have M := fun W (k : Old w W) => ev_may_any x.key x.av x.es W (h.1.old k)
 obtain ⟨n, t, key, av, es⟩ := x
 obtain ⟨p, c, e9, _, _⟩ := h.1.len
 simp only at e9
 subst e9
 unfold It.cells itOk It.plain
 simp only at M ⊢
 have hn := h.2.2.2.1
 have ht := h.2.2.2.2
 simp only at hn ht
 generalize hW0 : w.alloc (.cells #[.int .u64 n, .int .u64 t, .string key, .slice p es.length c] 35) = W0
 have k0 : Old w W0 := by rw [← hW0]; exact (Keeps.refl _ _).alloc _
 have hb0 : W0.heap[w.heap.size]? = some (.cells #[.int .u64 n, .int .u64 t, .string key, .slice p es.length c] 35 (0, 0)) := by rw [← hW0]; exact heap_alloc_new _ _
 have g := (blk4 hb0).1
 have C := Lib.hid (M W0 k0)
 have H := Lib.hid k0
 clear M k0 hb0 h
 by_cases a : 1 ≤ n
 ·have a1 : decide (1 ≤ n) = true := decide_eq_true a
  have a2 : decide ((1 : Int) ≤ (n : Int)) = true := by simp; omega
  by_cases b : n ≤ 1099511627776
  ·have b1 : decide (n ≤ 1099511627776) = true := decide_eq_true b
   have b2 : decide ((n : Int) ≤ 1099511627776) = true := by simp; omega
   by_cases d : t ≤ 1099511627776
   ·have d1 : decide (t ≤ 1099511627776) = true := decide_eq_true d
    have d2 : decide ((t : Int) ≤ 1099511627776) = true := by simp; omega
    go_enter Try.func53, Try.ntmps53
    go_wp2_with fail
    refine C.out.mono ?_
    rintro e w1 ⟨rfl, hk⟩
    have K := Lib.hid (H.out.trans hk)
    clear hk
    go_wp2_with fail
    go_ret
    exact ⟨by first | rfl | simp [a, b, d], K.out⟩
   ·have d1 : decide (t ≤ 1099511627776) = false := decide_eq_false d
    have d2 : decide ((t : Int) ≤ 1099511627776) = false := by simp; omega
    go_enter Try.func53, Try.ntmps53
    go_wp2_with fail
    go_ret
    exact ⟨by first | rfl | simp, H.out⟩
  ·have b1 : decide (n ≤ 1099511627776) = false := decide_eq_false b
   have b2 : decide ((n : Int) ≤ 1099511627776) = false := by simp; omega
   go_enter Try.func53, Try.ntmps53
   go_wp2_with fail
   go_ret
   exact ⟨by first | rfl | simp, H.out⟩
 ·have a1 : decide (1 ≤ n) = false := decide_eq_false a
  have a2 : decide ((1 : Int) ≤ (n : Int)) = false := by simp; omega
  go_enter Try.func53, Try.ntmps53
  go_wp2_with fail
  go_ret
  exact ⟨by first | rfl | simp, H.out⟩

end Go.Proofs.Ytiednihagnehlaa

namespace Go.Proofs.Ytiednihagnehlaa
open Go.RowKit

/-- an item outside a gap -/
def outG (g : PGap) (x : It) : Bool := !(decide (g.1 ≤ x.n) && decide (x.n ≤ g.2))
theorem may_page1_any (gb : Nat) (g : PGap) (x : It) (w : World) (hf : x.fine w) (hb : w.heap[gb]? = some (.cells #[.int .u64 g.1, .int .u64 g.2] 116 (0, 0))) :
  Calls Try.prog 71 #[.agg x.cells.toArray, .pointer (some ⟨gb, 0, none⟩)] w fun e w' => e = .returned (.bool (!outG g x)) ∧ Old w w' := by
 obtain ⟨n, t, key, av, es⟩ := x
 obtain ⟨p, c, e9, _, _⟩ := hf.1.len
 simp only at e9
 subst e9
 obtain ⟨ga, gz⟩ := g
 unfold It.cells outG
 simp only at hb ⊢
 generalize hW0 : w.alloc (.cells #[.int .u64 n, .int .u64 t, .string key, .slice p es.length c] 35) = W0
 have k0 : Old w W0 := by rw [← hW0]; exact (Keeps.refl _ _).alloc _
 have hb0 : W0.heap[w.heap.size]? = some (.cells #[.int .u64 n, .int .u64 t, .string key, .slice p es.length c] 35 (0, 0)) := by rw [← hW0]; exact heap_alloc_new _ _
 have g1 := (blk4 hb0).1
 have g2 := (blk2 ((k0.block _ (lt_of_heap hb) (fun f => f)).trans hb)).1
 have H := Lib.hid k0
 clear k0 hb0 hf hb
 by_cases a : ga ≤ n
 ·have a1 : decide (ga ≤ n) = true := decide_eq_true a
  have a2 : decide ((ga : Int) ≤ (n : Int)) = true := by simp; omega
  by_cases b : n ≤ gz
  ·have b1 : decide (n ≤ gz) = true := decide_eq_true b
   have b2 : decide ((n : Int) ≤ (gz : Int)) = true := by simp; omega
   go_enter Try.func71, Try.ntmps71
   go_wp2_with fail
   go_ret
   exact ⟨by first | rfl | simp [a, b], H.out⟩
  ·have b1 : decide (n ≤ gz) = false := decide_eq_false b
   have b2 : decide ((n : Int) ≤ (gz : Int)) = false := by simp; omega
   go_enter Try.func71, Try.ntmps71
   go_wp2_with fail
   go_ret
   exact ⟨by first | rfl | simp [a, b], H.out⟩
 ·have a1 : decide (ga ≤ n) = false := decide_eq_false a
  have a2 : decide ((ga : Int) ≤ (n : Int)) = false := by simp; omega
  go_enter Try.func71, Try.ntmps71
  go_wp2_with fail
  go_ret
  exact ⟨by first | rfl | simp [a], H.out⟩

theorem index_its_any (gb : Nat) (g : PGap) (v : Value) (l : List It) (w : World) (h : SeesR w 4 It.cells v l) (hf : ∀ x ∈ l, x.fine w)
  (hc : ∀ x, x.fine w → ∀ W, Old w W → Calls Try.prog 71 #[.agg x.cells.toArray, .pointer (some ⟨gb, 0, none⟩)] W fun e w' => e = .returned (.bool (!(outG g) x)) ∧ Old W w') :
  Calls Try.prog 84 #[v, .func (.func 71) #[] #[.pointer (some ⟨gb, 0, none⟩)]] w fun e w' => (∃ i : Int, e = .returned (.int .i64 i) ∧ decide (0 ≤ i) = !(l.all (outG g))) ∧ Old w w' := by
 by_cases hl : 0 < l.length
 ·obtain ⟨b, o, c, rfl, h1, h2, hcell⟩ := h.at hl
  have hm : l.length ≤ 9223372036854775807 := by unfold maxLen at h2; omega
  have HC := Lib.hid hcell
  have HF := Lib.hid hf
  have HK := Lib.hid hc
  clear h1 h2 h hcell hl hf hc
  go_enter Try.func84, Try.ntmps84
  go_wp2_with fail
  go_loopw [8] (fun v8 wr => ∃ k : Nat, k ≤ l.length ∧ v8 = .int .i64 k ∧ (l.take k).all (outG g) = true ∧ Old w wr) (fun v8 _ => l.length - (intOf v8).toNat)
  case atStart => exact ⟨0, by omega, rfl, by simp, Keeps.refl _ _⟩
  case round =>
   obtain ⟨k, hk, rfl, hr, hkw⟩ := hrel
   have HR := Lib.hid hr
   clear hr
   by_cases hlt : k < l.length
   ·have hx : l[k]? = some l[k] := List.getElem?_eq_getElem hlt
    generalize l[k] = x at hx
    have cell : ∀ i u, (It.cells x)[i]? = some u → wr.cell? ⟨b, o + k * 4 + i, none⟩ = some u := fun i u hu => hkw.cell (HC.out k x hx i u hu) (fun f => f)
    have c0 := cell 0 _ rfl
    have c1 := cell 1 _ rfl
    have c2 := cell 2 _ rfl
    have c3 := cell 3 _ rfl
    simp only [Nat.add_zero] at c0
    have N := HK.out x (HF.out x (List.mem_of_getElem? hx)) wr hkw
    have HX := Lib.hid (And.intro hx hkw)
    clear cell hx hkw
    cases hg : (outG g) x
    ·rw [hg] at N
     have HN := Lib.hid N
     have HG := Lib.hid hg
     clear N hg
     go_wp2_with fail
     refine HN.out.mono ?_
     rintro e w1 ⟨rfl, hk1⟩
     have K1 := Lib.hid (HX.out.2.trans hk1)
     clear hk1
     go_wp2_with fail
     go_ret
     exact ⟨⟨k, rfl, by rw [all_false_of HX.out.1 HG.out]; simp⟩, K1.out⟩
    ·rw [hg] at N
     have HN := Lib.hid N
     have HG := Lib.hid hg
     clear N hg
     go_wp2_with fail
     refine HN.out.mono ?_
     rintro e w1 ⟨rfl, hk1⟩
     have K1 := Lib.hid (HX.out.2.trans hk1)
     clear hk1
     go_wp2_with fail
     go_roundw
     case rel => exact ⟨k + 1, by omega, by go_num, by rw [all_take_succ HX.out.1, HR.out, HG.out]; rfl, K1.out⟩
     case measure => simp [intOf]; omega
   ·have K1 := Lib.hid hkw
    clear hkw
    go_wp2_with fail
    go_ret
    refine ⟨⟨-1, rfl, ?_⟩, K1.out⟩
    have := HR.out
    rw [List.take_of_length_le (by omega)] at this
    rw [this]
    rfl
 ·obtain ⟨rfl, p, c, rfl⟩ := h.at0 (by omega)
  clear h hl hf hc
  go_enter Try.func84, Try.ntmps84
  go_wp2_with fail
  go_loopw [8] (fun v8 wr => v8 = .int .i64 0 ∧ Old w wr) (fun _ _ => 0)
  case atStart => exact ⟨rfl, Keeps.refl _ _⟩
  case round =>
   obtain ⟨rfl, hkw⟩ := hrel
   have K1 := Lib.hid hkw
   clear hkw
   go_wp2_with fail
   go_ret
   exact ⟨⟨-1, rfl, rfl⟩, K1.out⟩
theorem contains_its_any (gb : Nat) (g : PGap) (v : Value) (l : List It) (w : World) (h : SeesR w 4 It.cells v l) (hf : ∀ x ∈ l, x.fine w)
  (hc : ∀ x, x.fine w → ∀ W, Old w W → Calls Try.prog 71 #[.agg x.cells.toArray, .pointer (some ⟨gb, 0, none⟩)] W fun e w' => e = .returned (.bool (!(outG g) x)) ∧ Old W w') :
  Calls Try.prog 72 #[v, .func (.func 71) #[] #[.pointer (some ⟨gb, 0, none⟩)]] w fun e w' => e = .returned (.bool (!(l.all (outG g)))) ∧ Old w w' := by
 obtain ⟨p, c, rfl, h1, h2⟩ := h.len
 have C := Lib.hid (index_its_any gb g _ l w h hf hc)
 clear h h1 h2 hf hc
 go_enter Try.func72, Try.ntmps72
 go_wp2_with fail
 refine C.out.mono ?_
 rintro e w' ⟨⟨i, rfl, hi⟩, hk⟩
 have HI := Lib.hid (And.intro hi hk)
 clear hi hk
 go_wp2_with fail
 go_ret
 exact ⟨ret_bool HI.out.1, HI.out.2⟩

/-- a page: iv, gv are where its items, its gaps lie -/
structure Pg where
 fr : Nat
 en : Nat
 iv : Value
 its : List It
 gv : Value
 gs : List PGap
 last : Bool
def Pg.cells (x : Pg) : List Value := [.int .u64 x.fr, .int .u64 x.en, x.iv, x.gv, .bool x.last]
def Pg.fine (w : World) (x : Pg) : Prop := (SeesR w 4 It.cells x.iv x.its ∧ (∀ y ∈ x.its, y.fine w) ∧ SeesR w 2 gapL x.gv x.gs) ∧ (∀ g ∈ x.gs, g.1 < 18446744073709551616 ∧ g.2 < 18446744073709551616) ∧ (x.fr < 18446744073709551616 ∧ x.en < 18446744073709551616) ∧
 ((0 < x.its.length → ∀ b, x.iv.ownBlock = some b → b < w.heap.size) ∧ (0 < x.gs.length → ∀ b, x.gv.ownBlock = some b → b < w.heap.size))
def itsOk (en : Nat) : Nat → List PIt → Bool
 | _, [] => true
 | a, x :: r => itOk x && (decide (a ≤ x.n) && (decide (x.n < en) && itsOk en (x.n + 1) r))
def gapsOk (en : Nat) (its : List PIt) : Nat → List PGap → Bool
 | _, [] => true
 | a, g :: r => decide (a ≤ g.1) && (decide (g.1 ≤ g.2) && (decide (g.2 < en) && ((its.all fun x => !(decide (g.1 ≤ x.n) && decide (x.n ≤ g.2))) && gapsOk en its (g.2 + 1) r)))
def topOk (x : PPg) : Bool := decide (1 ≤ x.fr) && (decide (x.fr ≤ x.en) && (decide (x.en ≤ 1099511627777) && (decide (x.items.length ≤ 4) && decide (x.gaps.length ≤ 16))))
/-- may a page be? -/
def pgOk (x : PPg) : Bool := topOk x && (itsOk x.en x.fr x.items && gapsOk x.en x.items x.fr x.gaps)
def Pg.plain (x : Pg) : PPg := ⟨x.fr, x.en, x.its.map It.plain, x.gs, x.last⟩
theorem Pg.fine.old {w w' : World} {x : Pg} (h : x.fine w) (hk : Old w w') : x.fine w' :=
 ⟨⟨h.1.1.old hk, fun y hy => It.fine.old (h.1.2.1 y hy) hk, h.1.2.2.old hk⟩, h.2.1, h.2.2.1, fun h0 b hb => Nat.lt_of_lt_of_le (h.2.2.2.1 h0 b hb) hk.size, fun h0 b hb => Nat.lt_of_lt_of_le (h.2.2.2.2 h0 b hb) hk.size⟩
theorem all_plain (g : PGap) (l : List It) : ((l.map It.plain).all fun x => !(decide (g.1 ≤ x.n) && decide (x.n ≤ g.2))) = l.all (outG g) := by
 rw [List.all_map]; rfl

set_option maxRecDepth 100000 in
set_option maxHeartbeats 1000000 in
theorem may_page_top (x : Pg) (w : World) (h : x.fine w) (ht : topOk x.plain = false) : Calls Try.prog 54 #[.agg x.cells.toArray] w fun e w' => e = .returned (.bool false) ∧ Old w w' := by
 obtain ⟨fr, en, iv, its, gv, gs, last⟩ := x
 obtain ⟨⟨hi, hif, hg⟩, hgr, ⟨hfr, hen⟩, _⟩ := h
 obtain ⟨p1, c1, e1, i1, i2⟩ := hi.len
 obtain ⟨p2, c2, e2, j1, j2⟩ := hg.len
 simp only at e1 e2 hi hif hg hgr hfr hen i1 i2 j1 j2
 subst e1 e2
 have him : its.length ≤ 9223372036854775807 := by unfold maxLen at i2; omega
 have hgm : gs.length ≤ 9223372036854775807 := by unfold maxLen at j2; omega
 unfold Pg.cells
 simp only
 generalize hW0 : w.alloc (.cells #[.int .u64 fr, .int .u64 en, .slice p1 its.length c1, .slice p2 gs.length c2, .bool last] 41) = W0
 have k0 : Old w W0 := by rw [← hW0]; exact (Keeps.refl _ _).alloc _
 have hb0 : W0.heap[w.heap.size]? = some (.cells #[.int .u64 fr, .int .u64 en, .slice p1 its.length c1, .slice p2 gs.length c2, .bool last] 41 (0, 0)) := by rw [← hW0]; exact heap_alloc_new _ _
 have g0 := (blk5 hb0).1
 unfold topOk Pg.plain at ht
 simp only [List.length_map] at ht
 have H := Lib.hid k0
 clear k0 hb0 hi hif hg hgr
 simp only [Bool.and_eq_false_iff, decide_eq_false_iff_not] at ht
 by_cases a : fr < 1
 ·clear ht
  have a1 : decide (fr < 1) = true := by simp; omega
  have a2 : decide ((fr : Int) < 1) = true := by simp; omega
  have a3 : decide (fr = 0) = true := by simp; omega
  go_enter Try.func54, Try.ntmps54
  go_wp2_with fail
  go_ret
  exact ⟨rfl, H.out⟩
 by_cases b : en < fr
 ·clear ht
  have a1 : decide (fr < 1) = false := by simp; omega
  have a2 : decide ((fr : Int) < 1) = false := by simp; omega
  have a3 : decide (fr = 0) = false := by simp; omega
  have b1 : decide (en < fr) = true := by simp; omega
  have b2 : decide ((en : Int) < (fr : Int)) = true := by simp; omega
  go_enter Try.func54, Try.ntmps54
  go_wp2_with fail
  go_ret
  exact ⟨rfl, H.out⟩
 by_cases c : 1099511627777 < en
 ·clear ht
  have a1 : decide (fr < 1) = false := by simp; omega
  have a2 : decide ((fr : Int) < 1) = false := by simp; omega
  have a3 : decide (fr = 0) = false := by simp; omega
  have b1 : decide (en < fr) = false := by simp; omega
  have b2 : decide ((en : Int) < (fr : Int)) = false := by simp; omega
  have c1 : decide (1099511627777 < en) = true := by simp; omega
  have c2 : decide ((1099511627777 : Int) < (en : Int)) = true := by simp; omega
  go_enter Try.func54, Try.ntmps54
  go_wp2_with fail
  go_ret
  exact ⟨rfl, H.out⟩
 by_cases d : 4 < its.length
 ·clear ht
  have a1 : decide (fr < 1) = false := by simp; omega
  have a2 : decide ((fr : Int) < 1) = false := by simp; omega
  have a3 : decide (fr = 0) = false := by simp; omega
  have b1 : decide (en < fr) = false := by simp; omega
  have b2 : decide ((en : Int) < (fr : Int)) = false := by simp; omega
  have c1 : decide (1099511627777 < en) = false := by simp; omega
  have c2 : decide ((1099511627777 : Int) < (en : Int)) = false := by simp; omega
  have d1 : decide (4 < its.length) = true := by simp; omega
  have d2 : decide ((4 : Int) < (its.length : Int)) = true := by simp; omega
  go_enter Try.func54, Try.ntmps54
  go_wp2_with fail
  go_ret
  exact ⟨rfl, H.out⟩
 by_cases e : 16 < gs.length
 ·clear ht
  have a1 : decide (fr < 1) = false := by simp; omega
  have a2 : decide ((fr : Int) < 1) = false := by simp; omega
  have a3 : decide (fr = 0) = false := by simp; omega
  have b1 : decide (en < fr) = false := by simp; omega
  have b2 : decide ((en : Int) < (fr : Int)) = false := by simp; omega
  have c1 : decide (1099511627777 < en) = false := by simp; omega
  have c2 : decide ((1099511627777 : Int) < (en : Int)) = false := by simp; omega
  have d1 : decide (4 < its.length) = false := by simp; omega
  have d2 : decide ((4 : Int) < (its.length : Int)) = false := by simp; omega
  have e1 : decide (16 < gs.length) = true := by simp; omega
  have e2 : decide ((16 : Int) < (gs.length : Int)) = true := by simp; omega
  go_enter Try.func54, Try.ntmps54
  go_wp2_with fail
  go_ret
  exact ⟨rfl, H.out⟩
 omega
end Go.Proofs.Ytiednihagnehlaa
