/- DERIVED. The document's writer of events (layer 7), and its sizes. -/
import Derived.Test.YtpehpidlcdfhcaaR7b
import Derived.Deep.RegionHeld3
namespace Go.Proofs.Ytpehpidlcdfhcaa
open Go.RowKit

set_option maxRecDepth 100000 in
theorem ref7_event_any (v0 : Value) (l : List UInt8) (key : ByteArray) (v : Value) (es : List At) (B : Nat) (w : World) (h : Owns w B v0 l) (hl : l.length ≤ 999990000)
    (ha : SeesA w v es) (hne : 0 < es.length → ∀ k, v.ownBlock = some k → k < B) (hok : evOk key es = true) (hf : Fits es) (hB : B ≤ w.heap.size) :
    Calls Try.prog 35 #[v0, .agg #[.string key, v]] w (Gro w B (l ++ evForm key es)) := by
  have hok' := hok
  unfold evOk at hok'
  simp at hok'
  obtain ⟨⟨hks, h8⟩, hao⟩ := hok'
  obtain ⟨p, c, rfl, hc1, hc2⟩ := ha.len
  generalize hW0 : w.alloc (.cells #[.string key, .slice p es.length c] 38) = W0
  have k0 : Old w W0 := by rw [← hW0]; exact (Keeps.refl _ _).alloc _
  have hb0 : W0.heap[w.heap.size]? = some (.cells #[.string key, .slice p es.length c] 38 (0, 0)) := by rw [← hW0]; exact heap_alloc_new _ _
  have hS0 : W0.drew.cell? ⟨w.heap.size, 0, none⟩ = some (.string key) ∧ W0.drew.cell? ⟨w.heap.size, 1, none⟩ = some (.slice p es.length c) := by
    constructor <;> (show W0.cell? _ = _; simp [World.cell?, hb0])
  have fk : (form key.size).length ≤ 10 := form_le10 (by omega)
  have fn : (form es.length).length ≤ 10 := form_le10 (by omega)
  have hB0 : B ≤ W0.heap.size := Nat.le_trans hB k0.size
  have C := Lib.hid (ref7_text_any v0 l key B W0.drew (h.old k0.drew) (by omega) (by omega) hB0)
  have H := Lib.hid (And.intro k0 (And.intro hb0 (And.intro ha (And.intro hne (And.intro hao (And.intro hf hB0))))))
  have hlen1 : (l ++ form key.size ++ key.toList).length ≤ l.length + 26 := by simp only [List.length_append, size_toList]; omega
  clear k0 hb0 h hok ha hne hao hf hc1 hc2 hB0
  go_enter Try.func35, Try.ntmps35
  go_wp2_with fail
  have hu : IntKind.u64.wrap (es.length : Int) = es.length := by rw [IntKind.wrap_u64]; omega
  go_region_held3 (fun w' => w'.cell? ⟨w.heap.size, 0, none⟩ = some (.string key) ∧ w'.cell? ⟨w.heap.size, 1, none⟩ = some (.slice p es.length c)) (first | exact hS0 | exact ⟨q20, q21⟩ | exact ⟨q10, q11⟩)
    (first
      | (go_at_call 44; (with_reducible refine C.out.mono ?_); rintro e w1 ⟨p1, n1, c1, rfl, ho1, hk1⟩; have m1 := Lib.hid (K8.block hk1 (show W0.drew.heap[w.heap.size]? = _ from H.out.2.1) (by decide)); have q10 : w1.cell? ⟨w.heap.size, 0, none⟩ = some (.string key) := (by simp [World.cell?, m1.out]); have q11 : w1.cell? ⟨w.heap.size, 1, none⟩ = some (.slice p es.length c) := (by simp [World.cell?, m1.out]))
      | (go_at_call 43; have hB1 : B ≤ w1.heap.size := Nat.le_trans (show B ≤ W0.drew.heap.size from H.out.2.2.2.2.2.2) hk1.size; (with_reducible refine (ref7_num_any _ _ es.length B _ ho1 (by omega) (by omega) hB1).mono ?_); rintro e w2 ⟨p2, n2, c2, rfl, ho2, hk2⟩; have m2 := Lib.hid (K8.block hk2 m1.out (by decide)); have q20 : w2.cell? ⟨w.heap.size, 0, none⟩ = some (.string key) := (by simp [World.cell?, m2.out]); have q21 : w2.cell? ⟨w.heap.size, 1, none⟩ = some (.slice p es.length c) := (by simp [World.cell?, m2.out])))
  have K2 : K8 B w w2 := (K8.old H.out.1).trans (Keeps.trans (S := U8 W0 B) (Keeps.refl _ _).drew (hk1.trans hk2))
  have hlen2 : (l ++ form key.size ++ key.toList ++ form es.length).length ≤ l.length + 36 := by simp only [List.length_append] at hlen1 ⊢; omega
  generalize hl0 : l ++ form key.size ++ key.toList ++ form es.length = l0
  rw [hl0] at ho2 hlen2
  have L0 := Lib.hid hl0
  have R4 := Lib.hid (And.intro ho2 (And.intro K2 m2.out))
  clear hl0 ho2 K2 m2 ho1 hk1 hk2 m1 hS0 hlen1 C hu q10 q11 q20 q21
  go_wp2_with fail
  go_loopw [0, 5] (fun x0 x5 wr => ∃ k : Nat, k ≤ es.length ∧ x5 = .int .i64 k ∧ Owns wr B x0 (l0 ++ (es.take k).flatMap atForm) ∧ K8 B w wr ∧ wr.heap[w.heap.size]? = some (.cells #[.string key, .slice p es.length c] 38 (0, 0))) (fun _ x5 _ => es.length - (intOf x5).toNat)
  case atStart => exact ⟨0, by omega, rfl, by simpa using R4.out.1, R4.out.2.1, R4.out.2.2⟩
  case round =>
    obtain ⟨k, hk, rfl, how, hkw, hbx⟩ := hrel
    have x1 : wr.cell? ⟨w.heap.size, 1, none⟩ = some (.slice p es.length c) := by simp [World.cell?, hbx]
    by_cases hlt : k < es.length
    · obtain ⟨b, o, c', he, _, _, hc⟩ := H.out.2.2.1.at (by omega)
      simp only [Value.slice.injEq, true_and] at he
      obtain ⟨rfl, rfl⟩ := he
      have hx : es[k]? = some es[k] := List.getElem?_eq_getElem hlt
      generalize es[k] = a at hx
      have hbB : b < B := H.out.2.2.2.1 (by omega) b rfl
      have cell : ∀ i u, a.cells[i]? = some u → wr.cell? ⟨b, o + k * 5 + i, none⟩ = some u := fun i u hu => hkw.cell (hc k a hx i u hu) (fun f => by have := f.1; simp only at this; omega)
      have c0 := cell 0 _ rfl
      have c1 := cell 1 _ rfl
      have c2 := cell 2 _ rfl
      have c3 := cell 3 _ rfl
      have c4 := cell 4 _ rfl
      simp only [Nat.add_zero] at c0
      obtain ⟨hnok, hvok⟩ := attrsOk_at H.out.2.2.2.2.1 hx
      have hfit := H.out.2.2.2.2.2.1 a (List.mem_of_getElem? hx)
      have hns := nameOk_size hnok
      have hfl := flat_take_le H.out.2.2.2.2.1 H.out.2.2.2.2.2.1 k hk
      have hlen3 : (l0 ++ (es.take k).flatMap atForm).length ≤ l.length + 1000 := by simp only [List.length_append]; omega
      have hz := hfit.2
      have f0 : (0 : Int) ≤ (k : Int) := by omega
      have f1 : (k : Int) < (es.length : Int) := by omega
      have hBw : B ≤ wr.heap.size := Nat.le_trans hB hkw.size
      have hS0 : wr.drew.cell? ⟨w.heap.size, 1, none⟩ = some (.slice (some ⟨b, o, none⟩) es.length c) ∧ wr.drew.cell? ⟨b, o + k * 5, none⟩ = some (.string a.name) ∧ wr.drew.cell? ⟨b, o + k * 5 + 1, none⟩ = some (.int .i64 a.val.kind) ∧ wr.drew.cell? ⟨b, o + k * 5 + 2, none⟩ = some (.int .i64 a.val.num) ∧ wr.drew.cell? ⟨b, o + k * 5 + 3, none⟩ = some (.string a.val.str) ∧ wr.drew.cell? ⟨b, o + k * 5 + 4, none⟩ = some (.bool a.val.is) := ⟨x1, c0, c1, c2, c3, c4⟩
      have C4 := Lib.hid (ref7_text_any u0 _ a.name B wr.drew how (by omega) (by omega) hBw)
      have C5 := fun v1 W (hO : Owns W B v1 (l0 ++ (es.take k).flatMap atForm ++ form a.name.size ++ a.name.toList)) (hb : B ≤ W.heap.size) => ref7_value_any v1 _ a.val B W hO (by have : (form a.name.size).length ≤ 10 := form_le10 (by omega); simp only [List.length_append, size_toList] at hlen3 ⊢; omega) hvok hz hb
      unfold Val.cells at C5
      have HX := Lib.hid (And.intro hx (And.intro hkw (And.intro hbx (And.intro hbB hBw))))
      have HC5 := Lib.hid C5
      clear cell hx hkw hbx hc hnok hfit how hvok C5 c0 c1 c2 c3 c4 hbB hBw
      go_wp2_with fail
      go_region_held3 (fun w' => w'.cell? ⟨w.heap.size, 1, none⟩ = some (.slice (some ⟨b, o, none⟩) es.length c) ∧ w'.cell? ⟨b, o + k * 5, none⟩ = some (.string a.name) ∧ w'.cell? ⟨b, o + k * 5 + 1, none⟩ = some (.int .i64 a.val.kind) ∧ w'.cell? ⟨b, o + k * 5 + 2, none⟩ = some (.int .i64 a.val.num) ∧ w'.cell? ⟨b, o + k * 5 + 3, none⟩ = some (.string a.val.str) ∧ w'.cell? ⟨b, o + k * 5 + 4, none⟩ = some (.bool a.val.is)) (first | exact hS0 | exact hS2.out | exact hS1.out)
        (first
          | (go_at_call 44; (with_reducible refine C4.out.mono ?_); rintro e w4 ⟨p4, n4, c4, rfl, ho4, hk4⟩; have m4 := Lib.hid (K8.block hk4 (show wr.drew.heap[w.heap.size]? = _ from HX.out.2.2.1) (by decide)); have kc := Lib.hid (fun (q : Addr) (u : Value) (hu : wr.drew.cell? q = some u) (hq : q.block = b) => Keeps.cell hk4 hu (fun f => by have h1 := f.1; have h2 := HX.out.2.2.2.1; omega)); have hS1 := Lib.hid (And.intro (show w4.cell? ⟨w.heap.size, 1, none⟩ = some (.slice (some ⟨b, o, none⟩) es.length c) from (by simp [World.cell?, m4.out])) (And.intro (kc.out _ _ hS0.2.1 rfl) (And.intro (kc.out _ _ hS0.2.2.1 rfl) (And.intro (kc.out _ _ hS0.2.2.2.1 rfl) (And.intro (kc.out _ _ hS0.2.2.2.2.1 rfl) (kc.out _ _ hS0.2.2.2.2.2 rfl)))))))
          | (go_at_call 45; have hB4 : B ≤ w4.heap.size := Nat.le_trans (show B ≤ wr.drew.heap.size from HX.out.2.2.2.2) hk4.size; (with_reducible refine (HC5.out _ _ ho4 hB4).mono ?_); rintro e w5 ⟨p5, n5, c5, rfl, ho5, hk5⟩; have m5 := Lib.hid (K8.block hk5 m4.out (by decide)); have kd := Lib.hid (fun (q : Addr) (u : Value) (hu : w4.cell? q = some u) (hq : q.block = b) => Keeps.cell hk5 hu (fun f => by have h1 := f.1; have h2 := HX.out.2.2.2.1; omega)); have hS2 := Lib.hid (And.intro (show w5.cell? ⟨w.heap.size, 1, none⟩ = some (.slice (some ⟨b, o, none⟩) es.length c) from (by simp [World.cell?, m5.out])) (And.intro (kd.out _ _ hS1.out.2.1 rfl) (And.intro (kd.out _ _ hS1.out.2.2.1 rfl) (And.intro (kd.out _ _ hS1.out.2.2.2.1 rfl) (And.intro (kd.out _ _ hS1.out.2.2.2.2.1 rfl) (kd.out _ _ hS1.out.2.2.2.2.2 rfl))))))))
      have K5 : K8 B w w5 := HX.out.2.1.trans (Keeps.trans (S := U8 wr B) (Keeps.refl _ _).drew (hk4.trans hk5))
      have R5 := Lib.hid (And.intro ho5 (And.intro K5 m5.out))
      clear ho5 K5 m5 x1 hS0 hS1 hS2 kc kd m4 ho4 hk4 hk5 C4 HC5
      go_wp2_with fail
      go_roundw
      case rel => exact ⟨k + 1, by omega, by go_num, by rw [flat_take_succ HX.out.1]; simpa [atForm] using R5.out.1, R5.out.2.1, R5.out.2.2⟩
      case measure => simp [intOf]; omega
    · have R5 := Lib.hid (And.intro how hkw)
      clear how hkw hbx
      go_wp2_with fail
      go_ret
      refine gro rfl ?_ R5.out.2
      have h1 := R5.out.1
      rw [List.take_of_length_le (by omega), ← L0.out] at h1
      simpa [evForm] using h1
end Go.Proofs.Ytpehpidlcdfhcaa
