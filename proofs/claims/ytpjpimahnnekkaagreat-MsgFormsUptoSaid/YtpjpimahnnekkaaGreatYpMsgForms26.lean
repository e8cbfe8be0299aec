/- DERIVED. The document's items (layer 7): May, Put, Take. · DERIVED. The document's TakeItem. -/
import Derived.Test.YtpjpimahnnekkaaGreatYpMsgForms25
set_option maxRecDepth 100000
set_option maxHeartbeats 2000000
namespace Go.Proofs.YtpjpimahnnekkaaGreat
section
open Go.RowKit
theorem SeesR.keep0 {α : Type} {S : Nat → Prop} {w w' : World} {k : Nat} {enc : α → List Value} {v : Value} {l : List α} (h : SeesR w k enc v l) (hk : Keeps S w w') (hS : 0 < l.length → ∀ b, v.ownBlock = some b → ¬ S b) : SeesR w' k enc v l := by
 cases l with
 | nil =>
  obtain ⟨p, c, e, h1, h2, h3, h4⟩ := h
  exact ⟨p, c, e, h1, h2, h3, fun a ha => ⟨(h4 a ha).1, fun j x hj => by cases hj⟩⟩
 | cons x r => exact h.keeps hk (hS (by simp))
theorem ref_may_item_any (x : It) (w : World) (h : x.fine w) : Calls Tryz.prog 59 #[.agg x.cells.toArray] w fun e w' => e = .returned (.bool (itOk x.plain)) ∧ Old w w' := by
 have M := fun W (k : Old w W) => ref_ev_may_any x.key x.av x.es W (h.1.old k) (fun a ha => (h.2.2.1 a ha).1)
 obtain ⟨n, t, key, av, es⟩ := x
 obtain ⟨p, c, e9, _, _⟩ := h.1.len
 simp only at e9
 subst e9
 unfold It.cells itOk It.plain
 simp only at M ⊢
 have hn := h.2.2.2.1
 have ht := h.2.2.2.2
 simp only at hn ht
 generalize hW0 : w.alloc (.cells #[.int .u64 n, .int .u64 t, .string key, .slice p es.length c] 29) = W0
 have k0 : Old w W0 := by rw [← hW0]; exact (Keeps.refl _ _).alloc _
 have hb0 : W0.heap[w.heap.size]? = some (.cells #[.int .u64 n, .int .u64 t, .string key, .slice p es.length c] 29 (0, 0)) := by rw [← hW0]; exact heap_alloc_new _ _
 have g := (blk4 hb0).1
 have C := Lib.hid (M W0 k0)
 have H := Lib.hid k0
 clear M k0 hb0 h
 by_cases a : 1 ≤ n
 ·have a1 : decide (1 ≤ n) = true := decide_eq_true a
  have a2 : decide (0 < n) = true := by simp; omega
  have a3 : decide ((n : Int) > 0) = true := by simp; omega
  by_cases b : n ≤ 1099511627776
  ·have b1 : decide (n ≤ 1099511627776) = true := decide_eq_true b
   have b2 : decide ((n : Int) ≤ 1099511627776) = true := by simp; omega
   by_cases d : t ≤ 1099511627776
   ·have d1 : decide (t ≤ 1099511627776) = true := decide_eq_true d
    have d2 : decide ((t : Int) ≤ 1099511627776) = true := by simp; omega
    go_enter Tryz.func59, Tryz.ntmps59
    go_wp2_with fail
    refine C.out.mono ?_
    rintro e w1 ⟨rfl, hk⟩
    have K := Lib.hid (H.out.trans hk)
    clear hk
    go_wp2_with fail
    go_ret
    exact ⟨by first | rfl | simp [a, b, d], K.out⟩
   ·have d1 : decide (t ≤ 1099511627776) = false := decide_eq_false d
    have d2 : decide ((t : Int) ≤ 1099511627776) = false := by simp; omega
    go_enter Tryz.func59, Tryz.ntmps59
    go_wp2_with fail
    go_ret
    exact ⟨by first | rfl | simp, H.out⟩
  ·have b1 : decide (n ≤ 1099511627776) = false := decide_eq_false b
   have b2 : decide ((n : Int) ≤ 1099511627776) = false := by simp; omega
   go_enter Tryz.func59, Tryz.ntmps59
   go_wp2_with fail
   go_ret
   exact ⟨by first | rfl | simp, H.out⟩
 ·have a1 : decide (1 ≤ n) = false := decide_eq_false a
  have a2 : decide (0 < n) = false := by simp; omega
  have a3 : decide ((n : Int) > 0) = false := by simp; omega
  go_enter Tryz.func59, Tryz.ntmps59
  go_wp2_with fail
  go_ret
  exact ⟨by first | rfl | simp, H.out⟩
theorem ref7_item_any (v0 : Value) (l : List UInt8) (x : It) (B : Nat) (w : World) (h : Owns w B v0 l) (hl : l.length ≤ 999980000) (hf : x.fine w) (hne : 0 < x.es.length → ∀ k, x.av.ownBlock = some k → k < B) (hok : itOk x.plain = true) (hB : B ≤ w.heap.size) :
  Calls Tryz.prog 83 #[v0, .agg x.cells.toArray] w (Gro w B (l ++ itForm x.plain)) := by
 obtain ⟨pv, cv, rfl, _, _⟩ := h.sees.len
 have hev : evOk x.key x.es = true := by unfold itOk at hok; simp only [Bool.and_eq_true] at hok; exact hok.2.2.2
 have CE := Lib.hid (fun (u : Value) (m : List UInt8) (W : World) (hu : Owns W B u m) (hm : m.length ≤ 999990000) (k : K8 B w W) => ref7_event_any u m x.key x.av x.es B W hu hm (hf.1.keep0 k (fun h0 b hb e => by have := hne h0 b hb; have := e.1; omega)) hne hev hf.2.2.1 (Nat.le_trans hB k.size))
 have hn := hf.2.2.2.1
 have ht := hf.2.2.2.2
 obtain ⟨n, tm, key, av, es⟩ := x
 obtain ⟨p, c, e9, _, _⟩ := hf.1.len
 simp only at e9 hn ht
 subst e9
 unfold It.cells It.plain itForm
 simp only at CE ⊢
 obtain ⟨W0, hW0⟩ : ∃ W0, w.alloc (.cells #[.int .u64 n, .int .u64 tm, .string key, .slice p es.length c] 29) = W0 := ⟨_, rfl⟩
 have k0 : Old w W0 := by rw [← hW0]; exact (Keeps.refl _ _).alloc _
 have b0 : W0.heap[w.heap.size]? = some (.cells #[.int .u64 n, .int .u64 tm, .string key, .slice p es.length c] 29 (0, 0)) := by rw [← hW0]; exact heap_alloc_new _ _
 have HB := Lib.hid (And.intro (h.old k0) (And.intro k0 (And.intro b0 (And.intro hn (And.intro ht (And.intro hl hB))))))
 have f1 := form_le10 hn
 have f2 := form_le10 ht
 clear k0 b0 h hf hne hok hev hn ht hl
 go_enter Tryz.func83, Tryz.ntmps83
 go_wp2_with fail
 refine wp_region_g (S := fun W' => K8 B W0 W') (M := List.range 11) (by kernel_rfl) ?_
 have hS : K8 B W0 W0.drew := (Keeps.refl _ _).drew
 refine wpAnyG_takeL (i := 0) (oi := _) (v := ?va0) rfl (by kernel_rfl) (by kernel_rfl) (by kernel_rfl) (by kernel_rfl) (fun _ _ _ h => h) (Or.inl ⟨by rfl, ?ya0⟩) hS ?ra0
 case ya0 => (intro W hSw; go_simp; try with_reducible rfl)
 try simp only [Act.put, List.setIfInBounds_toArray, List.set_cons_zero, List.set_cons_succ]
 refine wpAnyG_takeL (i := 1) (oi := _) (v := ?va1) rfl (by kernel_rfl) (by kernel_rfl) (by kernel_rfl) (by kernel_rfl) (fun _ _ _ h => h) (Or.inl ⟨by rfl, ?ya1⟩) hS ?ra1
 case ya1 => (intro W hSw; go_simp; try with_reducible rfl)
 try simp only [Act.put, List.setIfInBounds_toArray, List.set_cons_zero, List.set_cons_succ]
 refine wpAnyG_takeL (i := 2) (oi := _) (v := ?va2) rfl (by kernel_rfl) (by kernel_rfl) (by kernel_rfl) (by kernel_rfl) (fun _ _ _ h => h) (Or.inl ⟨by rfl, ?ya2⟩) hS ?ra2
 case ya2 => (intro W hSw; have tt := blk4 (K8.block hSw HB.out.2.2.1 (by decide)); go_simp; try with_reducible rfl)
 try simp only [Act.put, List.setIfInBounds_toArray, List.set_cons_zero, List.set_cons_succ]
 refine wpAnyG_takeL (i := 4) (oi := _) (v := ?va4) rfl (by kernel_rfl) (by kernel_rfl) (by kernel_rfl) (by kernel_rfl) (fun _ _ _ h => h) (Or.inl ⟨by rfl, ?ya4⟩) hS ?ra4
 case ya4 => (intro W hSw; go_simp; try with_reducible rfl)
 try simp only [Act.put, List.setIfInBounds_toArray, List.set_cons_zero, List.set_cons_succ]
 refine wpAnyG_takeL (i := 5) (oi := _) (v := ?va5) rfl (by kernel_rfl) (by kernel_rfl) (by kernel_rfl) (by kernel_rfl) (fun _ _ _ h => h) (Or.inl ⟨by rfl, ?ya5⟩) hS ?ra5
 case ya5 => (intro W hSw; have tt := blk4 (K8.block hSw HB.out.2.2.1 (by decide)); go_simp; try with_reducible rfl)
 try simp only [Act.put, List.setIfInBounds_toArray, List.set_cons_zero, List.set_cons_succ]
 refine wpAnyG_takeL (i := 7) (oi := _) (v := ?va7) rfl (by kernel_rfl) (by kernel_rfl) (by kernel_rfl) (by kernel_rfl) (fun _ _ _ h => h) (Or.inl ⟨by rfl, ?ya7⟩) hS ?ra7
 case ya7 => (intro W hSw; go_simp; try with_reducible rfl)
 try simp only [Act.put, List.setIfInBounds_toArray, List.set_cons_zero, List.set_cons_succ]
 refine wpAnyG_takeL (i := 8) (oi := _) (v := ?va8) rfl (by kernel_rfl) (by kernel_rfl) (by kernel_rfl) (by kernel_rfl) (fun _ _ _ h => h) (Or.inl ⟨by rfl, ?ya8⟩) hS ?ra8
 case ya8 => (intro W hSw; have tt := blk4 (K8.block hSw HB.out.2.2.1 (by decide)); go_simp; try with_reducible rfl)
 try simp only [Act.put, List.setIfInBounds_toArray, List.set_cons_zero, List.set_cons_succ]
 refine wpAnyG_onlyL (i := 3) (o := _) (by kernel_rfl) rfl (fun K hK => ?_)
 go_simp
 refine (ref7_num_any _ l n B _ (HB.out.1.old (Keeps.refl _ _).drew) (by have := HB.out.2.2.2.2.2.1; omega) HB.out.2.2.2.1 (Nat.le_trans HB.out.2.2.2.2.2.2 (show w.heap.size ≤ W0.drew.heap.size from HB.out.2.1.size))).mono ?_
 rintro e w1 ⟨p1, n1, c1, rfl, ho1, k1⟩
 have hS1 : K8 B W0 w1 := hS.trans k1
 have z1 := k1.size
 clear k1
 go_wp2_with fail
 refine hK.out _ _ (fun _ => hS1) ?_
 clear hK K
 try simp only [Act.put, List.setIfInBounds_toArray, List.set_cons_zero, List.set_cons_succ]
 refine wpAnyG_onlyL (i := 6) (o := _) (by kernel_rfl) rfl (fun K hK => ?_)
 go_simp
 refine (ref7_num_any _ _ tm B _ ho1 (by have := HB.out.2.2.2.2.2.1; simp only [List.length_append]; omega) HB.out.2.2.2.2.1 (Nat.le_trans (Nat.le_trans HB.out.2.2.2.2.2.2 HB.out.2.1.size) hS1.size)).mono ?_
 rintro e w2 ⟨p2, n2, c2, rfl, ho2, k2⟩
 have hS2 : K8 B W0 w2 := hS1.trans k2
 clear k2
 go_wp2_with fail
 refine hK.out _ _ (fun _ => hS2) ?_
 clear hK K
 try simp only [Act.put, List.setIfInBounds_toArray, List.set_cons_zero, List.set_cons_succ]
 refine wpAnyG_onlyL (i := 9) (o := _) (by kernel_rfl) rfl (fun K hK => ?_)
 go_simp
 refine (CE.out _ _ _ ho2 (by have := HB.out.2.2.2.2.2.1; simp only [List.length_append]; omega) ((K8.old HB.out.2.1).trans hS2)).mono ?_
 rintro e w3 ⟨p3, n3, c3, rfl, ho3, k3⟩
 have hS3 : K8 B W0 w3 := hS2.trans k3
 clear k3
 go_wp2_with fail
 refine hK.out _ _ (fun _ => hS3) ?_
 clear hK K
 try simp only [Act.put, List.setIfInBounds_toArray, List.set_cons_zero, List.set_cons_succ]
 refine wpAnyG_takeL (i := 10) (oi := _) (v := ?va10) rfl (by kernel_rfl) (by kernel_rfl) (by kernel_rfl) (by kernel_rfl) (fun _ _ _ h => h) (Or.inl ⟨by rfl, ?ya10⟩) hS3 ?ra10
 case ya10 => (intro W hSw; go_simp; try with_reducible rfl)
 try simp only [Act.put, List.setIfInBounds_toArray, List.set_cons_zero, List.set_cons_succ]
 refine wpAnyG_done (by kernel_rfl) ?_ _
 go_simp
 go_wp2_with fail
 go_ret
 refine gro rfl (by simpa [List.append_assoc] using ho3) ((K8.old HB.out.2.1).trans hS3)
theorem ref_put_item_v (x : It) (w : World) (hf : x.fine w) : Calls Tryz.prog 34 #[.agg x.cells.toArray] w (PutV (itOk x.plain) (itForm x.plain) w) := by
 have CM := Lib.hid (fun W (k : Old w W) => ref_may_item_any x W (It.fine.old hf k))
 have CI := Lib.hid (fun W (k : Old w W) (hok : itOk x.plain = true) => ref7_item_any (.slice none 0 0) [] x W.heap.size W (Owns.nil _ _) (by simp) (It.fine.old hf k) (fun h0 b hb => Nat.lt_of_lt_of_le (hf.2.1 h0 b hb) k.size) hok (Nat.le_refl _))
 obtain ⟨n, tm, key, av, es⟩ := x
 obtain ⟨p, c, e9, _, _⟩ := hf.1.len
 simp only at e9
 subst e9
 unfold It.cells at CM CI ⊢
 simp only at CM CI ⊢
 generalize It.plain ⟨n, tm, key, .slice p es.length c, es⟩ = x at CM CI ⊢
 obtain ⟨W0, hW0⟩ : ∃ W0, w.alloc (.cells #[.int .u64 n, .int .u64 tm, .string key, .slice p es.length c] 29) = W0 := ⟨_, rfl⟩
 have k0 : Old w W0 := by rw [← hW0]; exact (Keeps.refl _ _).alloc _
 have b0 : W0.heap[w.heap.size]? = some (.cells #[.int .u64 n, .int .u64 tm, .string key, .slice p es.length c] 29 (0, 0)) := by rw [← hW0]; exact heap_alloc_new _ _
 have g0 := blk4 b0
 have H := Lib.hid (And.intro k0 b0)
 clear hf k0 b0
 go_enter Tryz.func34, Tryz.ntmps34
 go_wp2_with fail
 refine (CM.out _ H.out.1).mono ?_
 rintro e w1 ⟨rfl, k1⟩
 have b1 := (k1.block _ (lt_of_heap H.out.2) (fun f => f)).trans H.out.2
 clear g0
 have g1 := blk4 b1
 have K1 := Lib.hid (H.out.1.trans k1)
 clear k1 b1
 cases hok : itOk x
 ·have HK := Lib.hid hok
  go_wp2_with fail
  go_ret2
  rw [HK.out]
  exact PutV.no ⟨rfl, K1.out⟩
 ·have HK := Lib.hid hok
  have HO := Lib.hid (CI.out _ K1.out hok)
  clear hok
  go_wp2_with fail
  refine HO.out.mono ?_
  rintro e w2 ⟨p2, n2, c2, rfl, ho2, k2⟩
  have R := Lib.hid (And.intro ho2 (K8.to_old k2))
  clear ho2 k2
  go_wp2_with fail
  go_ret2
  rw [HK.out]
  exact PutV.yes ⟨_, _, _, rfl, by simpa using R.out.1.mono K1.out.size, K1.out.trans R.out.2⟩
end
section
open Go.RowKit
def RIt (w : World) (rp : Nat) (res : Option (PIt × List UInt8)) (e : Ending) (w' : World) : Prop :=
 (∃ (n tm : Nat) (key : ByteArray) (p : Option Addr) (len c : Nat) (s : List At), e = .returned (.agg #[.int .u64 n, .int .u64 tm, .string key, .slice p len c]) ∧ OwnsA w' w.heap.size (.slice p len c) s ∧ (n < 18446744073709551616 ∧ tm < 18446744073709551616) ∧ ∀ x, res = some x → (⟨n, tm, key, s⟩ : PIt) = x.1) ∧ (Rr w' rp (res.map (·.2)) ∧ Keeps (fun k => k = rp) w w')
theorem no_u8_it (n t : Nat) (k : ByteArray) (p : Option Addr) (l c : Nat) : ∀ (i : Nat) (x : UInt8), (#[.int .u64 n, .int .u64 t, .string k, .slice p l c] : Array Value)[i]? ≠ some (u8 x) := by
 intro i x h
 rcases i with _ | _ | _ | _ | i <;> simp [u8] at h
theorem rfitem_any (rp : Nat) (st : Option (List UInt8)) (w : World) (h : Rr w rp st) : Calls Tryz.prog 97 #[.pointer (some ⟨rp, 0, none⟩)] w (RIt w rp (st.bind pItem)) := by
 have hrp := h.lt
 obtain ⟨W0, hW0⟩ : ∃ W0, w.alloc (.cells #[.int .u64 0, .int .u64 0, .string ⟨#[]⟩, .slice none 0 0] 29) = W0 := ⟨_, rfl⟩
 have k0 : Old w W0 := by rw [← hW0]; exact (Keeps.refl _ _).alloc _
 have b0 : W0.heap[w.heap.size]? = some (.cells #[.int .u64 0, .int .u64 0, .string ⟨#[]⟩, .slice none 0 0] 29 (0, 0)) := by rw [← hW0]; exact heap_alloc_new _ _
 have C1 := Lib.hid (rfnum_any rp 1099511627776 st W0 (h.old k0) (by decide))
 obtain ⟨q1, hq1⟩ : ∃ q, st.bind (pNum 1099511627776) = q := ⟨_, rfl⟩
 have hres : st.bind pItem = q1.bind fun x => (pNum 1099511627776 x.2).bind fun y => (pEvent y.2).map fun z => (⟨x.1, y.1, z.1.1, z.1.2⟩, z.2) := by rw [← hq1]; cases st <;> rfl
 generalize st.bind pItem = res at hres ⊢
 rw [hq1] at C1
 have hn64 : q1.elim 0 (·.1) < 18446744073709551616 := by
  rw [← hq1]
  cases st with
  | none => exact (by decide)
  | some l =>
   simp only [Option.bind_some]
   cases hp : pNum 1099511627776 l with
   | none => exact (by decide)
   | some x => exact (pNum_inv (n := x.1) (r := x.2) hp).2.2
 have HW := Lib.hid (And.intro k0 (And.intro b0 (And.intro hres hn64)))
 have hz0 : w.heap.size < W0.heap.size := lt_of_heap b0
 clear k0 b0 h hres hq1 hn64
 go_enter Tryz.func97, Tryz.ntmps97
 go_wp2_with fail
 refine C1.out.mono ?_
 rintro e w1 ⟨rfl, hr1, k1⟩
 obtain ⟨n, hn⟩ : ∃ n, q1.elim 0 (·.1) = n := ⟨_, rfl⟩
 obtain ⟨st1, hst1⟩ : ∃ s, q1.map (·.2) = s := ⟨_, rfl⟩
 rw [hst1] at hr1
 rw [hn]
 obtain ⟨W1, hW1⟩ : ∃ W1, w1.alloc (.cells #[.int .u64 n, .int .u64 0, .string ⟨#[]⟩, .slice none 0 0] 29) = W1 := ⟨_, rfl⟩
 have o1 : Old w1 W1 := by rw [← hW1]; exact (Keeps.refl _ _).alloc _
 have b1 : W1.heap[w1.heap.size]? = some (.cells #[.int .u64 n, .int .u64 0, .string ⟨#[]⟩, .slice none 0 0] 29 (0, 0)) := by rw [← hW1]; exact heap_alloc_new _ _
 have hz1 : w.heap.size < w1.heap.size := Nat.lt_of_lt_of_le hz0 k1.size
 have bw0 := (k1.block _ hz0 (by omega)).trans HW.out.2.1
 have C2 := Lib.hid (rfnum_any rp 1099511627776 st1 W1 (hr1.old o1) (by decide))
 obtain ⟨q2, hq2⟩ : ∃ q, st1.bind (pNum 1099511627776) = q := ⟨_, rfl⟩
 have hres2 : res = q2.bind fun y => (pEvent y.2).map fun z => (⟨n, y.1, z.1.1, z.1.2⟩, z.2) := by
  rw [HW.out.2.2.1, ← hq2, ← hst1]
  cases q1 with
  | none => rfl
  | some x => rw [← hn]; rfl
 rw [hq2] at C2
 have ht64 : q2.elim 0 (·.1) < 18446744073709551616 := by
  rw [← hq2]
  cases st1 with
  | none => exact (by decide)
  | some l =>
   simp only [Option.bind_some]
   cases hp : pNum 1099511627776 l with
   | none => exact (by decide)
   | some x => exact (pNum_inv (n := x.1) (r := x.2) hp).2.2
 have hn64 : n < 18446744073709551616 := by rw [← hn]; exact HW.out.2.2.2
 have G := Lib.hid (And.intro (((HW.out.1.weaken (fun i _ f => f.elim) : Keeps (fun k => k = rp) w W0).trans k1).trans (o1.weaken (fun i _ f => f.elim))) (And.intro b1 (And.intro ((o1.block _ (lt_of_heap bw0) (fun f => f)).trans bw0) (And.intro hres2 (And.intro hn64 ht64)))))
 have HW1 := Lib.hid hW1
 have hz1' : w1.heap.size < W1.heap.size := lt_of_heap b1
 clear hr1 k1 o1 b1 bw0 hn hst1 hq2 hres2 hW1 C1 hn64 ht64
 go_wp2_with fail
 try rw [HW1.out]
 refine C2.out.mono ?_
 rintro e w2 ⟨rfl, hr2, k2⟩
 obtain ⟨tm, htm⟩ : ∃ n, q2.elim 0 (·.1) = n := ⟨_, rfl⟩
 obtain ⟨st2, hst2⟩ : ∃ s, q2.map (·.2) = s := ⟨_, rfl⟩
 rw [hst2] at hr2
 rw [htm]
 have b2 := (k2.block _ hz1' (by omega)).trans G.out.2.1
 have b20 := (k2.block _ (lt_of_heap G.out.2.2.1) (by omega)).trans G.out.2.2.1
 have g2 := blk4 b2
 obtain ⟨W2, hW2⟩ : ∃ W2, w2.setCell ⟨w1.heap.size, 1, none⟩ (.int .u64 tm) = W2 := ⟨_, rfl⟩
 have kk : Keeps (fun k => k = w1.heap.size) w2 W2 := by rw [← hW2]; exact keepS _ (Keeps.refl _ _)
 have b3 : W2.heap[w1.heap.size]? = some (.cells #[.int .u64 n, .int .u64 tm, .string ⟨#[]⟩, .slice none 0 0] 29 (0, 0)) := by
  rw [← hW2]; have := heap_setCell_same w2 w1.heap.size 1 _ _ (.int .u64 tm) b2; simpa using this
 have b30 := (kk.block _ (lt_of_heap b20) (by omega)).trans b20
 have hr3 : Rr W2 rp st2 := hr2.above kk (fun b hb => by omega)
 have C3 := Lib.hid (rfevent_any rp st2 W2 hr3)
 obtain ⟨q3, hq3⟩ : ∃ q, st2.bind pEvent = q := ⟨_, rfl⟩
 have hres3 : res = q3.map fun z => (⟨n, tm, z.1.1, z.1.2⟩, z.2) := by
  rw [G.out.2.2.2.1, ← hq3, ← hst2]
  cases q2 with
  | none => rfl
  | some x => rw [← htm]; rfl
 rw [hq3] at C3
 have ht64 : tm < 18446744073709551616 := by rw [← htm]; exact G.out.2.2.2.2.2
 have F := Lib.hid (And.intro ((G.out.1.trans k2).then kk (fun i hi e => by omega)) (And.intro b3 (And.intro b30 (And.intro hres3 (And.intro G.out.2.2.2.2.1 ht64)))))
 have HW2 := Lib.hid hW2
 have hz2 : w1.heap.size < W2.heap.size := lt_of_heap b3
 clear hr2 k2 htm hst2 b2 b20 kk b3 b30 hr3 hq3 hres3 hW2 ht64 C2
 go_wp2_with fail
 try rw [HW2.out]
 refine C3.out.mono ?_
 rintro e w3 ⟨⟨key, p3, n3, c3, s, rfl, ho, hx⟩, hr, k3⟩
 have b4 := (k3.block _ hz2 (by omega)).trans F.out.2.1
 have b40 := (k3.block _ (lt_of_heap F.out.2.2.1) (by omega)).trans F.out.2.2.1
 have g4 := blk4 b4
 have g40 := blk4 b40
 have hob : ∀ b, (Value.slice p3 n3 c3).ownBlock = some b → W2.heap.size ≤ b := fun b hb => (ho.block b hb).1
 have kA : Keeps (fun k => k = w1.heap.size) w3 ((w3.setCell ⟨w1.heap.size, 2, none⟩ (.string key)).setCell ⟨w1.heap.size, 3, none⟩ (.slice p3 n3 c3)) := keepS _ (keepS _ (Keeps.refl _ _))
 have bA := (kA.block _ (lt_of_heap b40) (by omega)).trans b40
 have rA : Rr ((w3.setCell ⟨w1.heap.size, 2, none⟩ (.string key)).setCell ⟨w1.heap.size, 3, none⟩ (.slice p3 n3 c3)) rp (q3.map (·.2)) := hr.above kA (fun b hb => by omega)
 have kB := keep4 (a0 := .int .u64 n) (a1 := .int .u64 tm) (a2 := .string key) (a3 := .slice p3 n3 c3) ((w3.setCell ⟨w1.heap.size, 2, none⟩ (.string key)).setCell ⟨w1.heap.size, 3, none⟩ (.slice p3 n3 c3)) w.heap.size
 have rB := rA.apart kB (by omega) (fun b hb' _ => ⟨_, _, _, by subst hb'; exact bA, no_u8_it 0 0 ⟨#[]⟩ none 0 0⟩)
 have oB := (ho.keeps kA (fun b hb e => by have := hob b hb; omega)).keeps kB (fun b hb e => by have := hob b hb; omega)
 have FIN := Lib.hid (show RIt w rp res (.returned (.agg #[.int .u64 n, .int .u64 tm, .string key, .slice p3 n3 c3])) _ from ⟨⟨n, tm, key, p3, n3, c3, s, rfl, oB.mono (by omega), F.out.2.2.2.2, fun x hxx => by
  rw [F.out.2.2.2.1] at hxx
  cases q3 with
  | none => cases hxx
  | some z =>
   simp only [Option.map_some, Option.some.injEq] at hxx
   obtain ⟨e1, e2⟩ := hx z rfl
   rw [← hxx, e1, e2]⟩, by
  have e : res.map (·.2) = q3.map (·.2) := by rw [F.out.2.2.2.1]; cases q3 <;> rfl
  rw [e]; exact rB, ((F.out.1.trans k3).then kA (fun i hi e => by omega)).then kB (fun i hi e => by omega)⟩)
 clear b4 b40 hob kA bA rA kB rB oB ho hx hr k3 C3
 go_wp2_with fail
 exact bodyPost_ret (v := .agg #[.int .u64 n, .int .u64 tm, .string key, .slice p3 n3 c3]) (by simp [results, Tryz.results97, go_sem, g40]) rfl FIN.out
end
section
open Go.RowKit
def TakVI (L : List UInt8) (w : World) (e : Ending) (w' : World) : Prop :=
 ∃ (n tm : Nat) (key : ByteArray) (p : Option Addr) (len c : Nat) (es : List At) (z : Int), e = .returned (.tuple #[.agg #[.int .u64 n, .int .u64 tm, .string key, .slice p len c], .int .i64 z]) ∧ Old w w' ∧
  It.fine w' ⟨n, tm, key, .slice p len c, es⟩ ∧ ((takeI L = some ⟨n, tm, key, es⟩ ∧ z = 0) ∨ (takeI L = none ∧ n = 0 ∧ tm = 0 ∧ key = ⟨#[]⟩ ∧ es = [] ∧ z = 5))
theorem TakVI.no {L : List UInt8} {w w' : World} (h : takeI L = none) (k : Old w w') : TakVI L w (.returned (.tuple #[.agg #[.int .u64 0, .int .u64 0, .string ⟨#[]⟩, .slice none 0 0], .int .i64 5])) w' :=
 ⟨0, 0, _, none, 0, 0, [], 5, rfl, k, ⟨SeesR.nil _, fun h => by simp at h, fun _ h => (by cases h), by decide, by decide⟩, Or.inr ⟨h, rfl, rfl, rfl, rfl, rfl⟩⟩
end
section
open Go.RowKit
theorem ref_bare_any (v : Val) (w : World) : Calls Tryz.prog 134 #[.agg v.cells] w fun e w' => e = .returned (.bool (bare v)) ∧ Old w w' := by
 obtain ⟨k, n, s, b⟩ := v
 unfold Val.cells bare
 by_cases h1 : k = 0
 ·subst h1
  by_cases h2 : n = 0
  ·subst h2
   by_cases hs : s.toList.isEmpty = true
   all_goals go_enter Tryz.func134, Tryz.ntmps134
   all_goals go_wp2_with fail
   all_goals go_ret
   all_goals refine ⟨?_, (Keeps.refl _ _).alloc _⟩
   all_goals simp_all
  ·have t2 : ((n : Int) == 0) = false := by simp; omega
   go_enter Tryz.func134, Tryz.ntmps134
   go_wp2_with fail
   all_goals go_ret
   all_goals refine ⟨?_, (Keeps.refl _ _).alloc _⟩
   all_goals simp_all
 ·have t1 : ((k : Int) == 0) = false := by simp; omega
  go_enter Tryz.func134, Tryz.ntmps134
  go_wp2_with fail
  all_goals go_ret
  all_goals refine ⟨?_, (Keeps.refl _ _).alloc _⟩
  all_goals simp_all
theorem ref_may_cons_any (x : Con) (w : World) (h : SeesV w x.sv x.set) : Calls Tryz.prog 103 #[.agg x.cells.toArray] w fun e w' => e = .returned (.bool (conOk x)) ∧ Old w w' := by
 have B := ref_bare_any x.val
 have V := ref_val_any x.val
 obtain ⟨nm, op, ⟨k, n, s, b⟩, sv, set⟩ := x
 obtain ⟨p, c, hsv, hb1, hb2⟩ := h.len
 simp only at hsv hb1 hb2 h
 subst hsv
 have hmm : set.length ≤ 9223372036854775807 := by unfold maxLen at hb2; omega
 clear hb1 hb2
 unfold Con.cells
 unfold Val.cells at B V
 simp only at B V ⊢
 obtain ⟨W0, hW0⟩ : ∃ W0, w.alloc (.cells #[.string nm, .int .i64 op, .int .i64 k, .int .i64 n, .string s, .bool b, .slice p set.length c] 72) = W0 := ⟨_, rfl⟩
 have k0 : Old w W0 := by rw [← hW0]; exact (Keeps.refl _ _).alloc _
 have b0 : W0.heap[w.heap.size]? = some (.cells #[.string nm, .int .i64 op, .int .i64 k, .int .i64 n, .string s, .bool b, .slice p set.length c] 72 (0, 0)) := by rw [← hW0]; exact heap_alloc_new _ _
 have g0 := blk7 b0
 have K0 := Lib.hid (And.intro k0 b0)
 have H := Lib.hid h
 clear k0 b0 h
 by_cases g1 : 1 ≤ nm.size
 case neg =>
  have d1 : ((nm.size : Int) == 0) = true := by rw [beq_iff_eq]; omega
  go_enter Tryz.func103, Tryz.ntmps103
  go_wp2_with fail
  go_ret
  exact ⟨ret_bool (by unfold conOk; simp only; rw [decide_eq_false g1]; rfl), K0.out.1⟩
 have d1 : ((nm.size : Int) == 0) = false := by rw [beq_eq_false_iff_ne]; omega
 by_cases g2 : nm.size ≤ 16
 case neg =>
  have d2 : decide ((nm.size : Int) > 16) = true := by simp; omega
  go_enter Tryz.func103, Tryz.ntmps103
  go_wp2_with fail
  go_ret
  exact ⟨ret_bool (by unfold conOk; simp only; rw [decide_eq_false g2, Bool.and_false]; rfl), K0.out.1⟩
 have d2 : decide ((nm.size : Int) > 16) = false := by simp; omega
 have hok : conOk ⟨nm, op, ⟨k, n, s, b⟩, .slice p set.length c, set⟩ = (if op = 1 then bare ⟨k, n, s, b⟩ && decide (set.length = 0)
   else if 2 ≤ op ∧ op ≤ 7 then (Val.mk k n s b).ok && decide (set.length = 0)
   else if op = 8 then (Val.mk k n s b).ok && (decide (k = 2) && decide (set.length = 0))
   else if op = 9 then bare ⟨k, n, s, b⟩ && (decide (1 ≤ set.length) && (decide (set.length ≤ 6) && set.all Val.ok))
   else false) := by
  unfold conOk; simp only; rw [decide_eq_true g1, decide_eq_true g2]; rfl
 rw [hok]
 clear hok g1 g2
 generalize bare ⟨k, n, s, b⟩ = br at B ⊢
 generalize (Val.mk k n s b).ok = vo at V ⊢
 have CB := Lib.hid B
 have CV := Lib.hid V
 clear B V
 by_cases h1 : op = 1
 ·subst h1
  rw [if_pos rfl]
  cases br
  ·go_enter Tryz.func103, Tryz.ntmps103
   go_wp2_with fail
   refine (CB.out _).mono ?_
   rintro e w1 ⟨rfl, hk1⟩
   have K1 := Lib.hid (K0.out.1.trans hk1)
   clear hk1
   go_wp2_with fail
   go_ret
   exact ⟨ret_bool (by simp), K1.out⟩
  ·by_cases hz : set.length = 0
   ·have dz : ((set.length : Int) == 0) = true := by rw [hz]; rfl
    have HZ := Lib.hid hz
    clear hz
    go_enter Tryz.func103, Tryz.ntmps103
    go_wp2_with fail
    refine (CB.out _).mono ?_
    rintro e w1 ⟨rfl, hk1⟩
    have g1 := blk7 ((hk1.block _ (lt_of_heap K0.out.2) (fun f => f)).trans K0.out.2)
    have K1 := Lib.hid (K0.out.1.trans hk1)
    clear hk1 g0
    go_wp2_with fail
    go_ret
    exact ⟨ret_bool (by simp [HZ.out]), K1.out⟩
   ·have dz : ((set.length : Int) == 0) = false := by rw [beq_eq_false_iff_ne]; omega
    have HZ := Lib.hid hz
    clear hz
    go_enter Tryz.func103, Tryz.ntmps103
    go_wp2_with fail
    refine (CB.out _).mono ?_
    rintro e w1 ⟨rfl, hk1⟩
    have g1 := blk7 ((hk1.block _ (lt_of_heap K0.out.2) (fun f => f)).trans K0.out.2)
    have K1 := Lib.hid (K0.out.1.trans hk1)
    clear hk1 g0
    go_wp2_with fail
    go_ret
    exact ⟨ret_bool (by simp [HZ.out]), K1.out⟩
 have t1 : ((op : Int) == 1) = false := by rw [beq_eq_false_iff_ne]; exact h1
 rw [if_neg h1]
 by_cases h9 : op = 9
 ·subst h9
  rw [if_neg (by omega), if_neg (by omega), if_pos rfl]
  clear h1
  cases br
  ·go_enter Tryz.func103, Tryz.ntmps103
   go_wp2_with fail
   refine (CB.out _).mono ?_
   rintro e w1 ⟨rfl, hk1⟩
   have K1 := Lib.hid (K0.out.1.trans hk1)
   clear hk1
   go_wp2_with fail
   go_ret
   exact ⟨ret_bool (by simp), K1.out⟩
  by_cases hz : 1 ≤ set.length
  case neg =>
   have dz : ((set.length : Int) == 0) = true := by rw [beq_iff_eq]; omega
   have HZ := Lib.hid hz
   clear hz
   go_enter Tryz.func103, Tryz.ntmps103
   go_wp2_with fail
   refine (CB.out _).mono ?_
   rintro e w1 ⟨rfl, hk1⟩
   have g1 := blk7 ((hk1.block _ (lt_of_heap K0.out.2) (fun f => f)).trans K0.out.2)
   have K1 := Lib.hid (K0.out.1.trans hk1)
   clear hk1 g0
   go_wp2_with fail
   go_ret
   exact ⟨ret_bool (by rw [decide_eq_false HZ.out]; rfl), K1.out⟩
  have dz : ((set.length : Int) == 0) = false := by rw [beq_eq_false_iff_ne]; omega
  by_cases h6 : set.length ≤ 6
  case neg =>
   have d6 : decide ((set.length : Int) > 6) = true := decide_eq_true (by omega)
   have HZ := Lib.hid h6
   clear h6 hz
   go_enter Tryz.func103, Tryz.ntmps103
   go_wp2_with fail
   refine (CB.out _).mono ?_
   rintro e w1 ⟨rfl, hk1⟩
   have g1 := blk7 ((hk1.block _ (lt_of_heap K0.out.2) (fun f => f)).trans K0.out.2)
   have K1 := Lib.hid (K0.out.1.trans hk1)
   clear hk1 g0
   go_wp2_with fail
   go_ret
   exact ⟨ret_bool (by rw [decide_eq_false HZ.out]; simp), K1.out⟩
  have d6 : decide ((set.length : Int) > 6) = false := decide_eq_false (by omega)
  rw [decide_eq_true hz, decide_eq_true h6, Bool.true_and, Bool.true_and, Bool.true_and]
  clear hz h6
  go_enter Tryz.func103, Tryz.ntmps103
  go_wp2_with fail
  refine (CB.out _).mono ?_
  rintro e w1 ⟨rfl, hk1⟩
  have b1 := (hk1.block _ (lt_of_heap K0.out.2) (fun f => f)).trans K0.out.2
  have g1 := blk7 b1
  have B1 := Lib.hid b1
  have K1 := Lib.hid (K0.out.1.trans hk1)
  clear hk1 g0 b1
  go_wp2_with fail
  go_loopw [3] (fun v3 wr => ∃ i : Nat, i ≤ set.length ∧ v3 = .int .i64 i ∧ (set.take i).all Val.ok = true ∧ Old w1 wr) (fun v3 _ => set.length - (intOf v3).toNat)
  case atStart => exact ⟨0, by omega, rfl, rfl, Keeps.refl _ _⟩
  case round =>
   obtain ⟨i, hi, rfl, hr, hk⟩ := hrel
   have HR := Lib.hid hr
   have g0 := blk7 ((hk.block _ (lt_of_heap B1.out) (fun f => f)).trans B1.out)
   have KW := Lib.hid hk
   clear hr hk g1
   by_cases hlt : i < set.length
   ·obtain ⟨pb, po, cc, he, _, _, hc⟩ := H.out.at (by omega)
    simp only [Value.slice.injEq, true_and] at he
    obtain ⟨rfl, rfl⟩ := he
    obtain ⟨x, hx⟩ : ∃ x, set[i]? = some x := ⟨_, List.getElem?_eq_getElem hlt⟩
    have cx := fun j u (hu : (valL x)[j]? = some u) => (K1.out.trans KW.out).cell (hc i x hx j u hu) (fun f => f)
    have x0 := cx 0 _ rfl
    have x1 := cx 1 _ rfl
    have x2 := cx 2 _ rfl
    have x3 := cx 3 _ rfl
    simp only [Nat.add_zero] at x0
    have i2 : (i : Int) < (set.length : Int) := by omega
    have hst : (set.take (i + 1)).all Val.ok = x.ok := by
     rw [List.take_add_one, hx, List.all_append, HR.out]; simp
    have hall : x.ok = false → set.all Val.ok = false := fun hf => by
     rw [List.all_eq_false]; exact ⟨x, List.mem_of_getElem? hx, by simp [hf]⟩
    have VX := ref_val_any x
    unfold Val.cells at VX
    generalize x.ok = xo at hst hall VX
    have HS := Lib.hid (And.intro hst hall)
    have HV := Lib.hid VX
    clear hx cx hc hst hall VX
    cases xo
    ·go_wp2_with fail
     refine (HV.out _).mono ?_
     rintro e w2 ⟨rfl, hk2⟩
     have K2 := Lib.hid ((K1.out.trans KW.out).trans hk2)
     clear hk2
     go_wp2_with fail
     go_ret
     exact ⟨ret_bool (by first | rw [HS.out.2 rfl] | rw [HS.out.2 trivial]), K2.out⟩
    ·go_wp2_with fail
     refine (HV.out _).mono ?_
     rintro e w2 ⟨rfl, hk2⟩
     have K2 := Lib.hid (KW.out.trans hk2)
     clear hk2
     go_wp2_with fail
     go_roundw
     case rel => exact ⟨i + 1, by omega, by go_num, HS.out.1, K2.out⟩
     case measure => simp [intOf]; omega
   ·have hat : (set.all Val.ok) = true := by
     have := HR.out
     rw [List.take_of_length_le (by omega)] at this
     exact this
    have HA := Lib.hid hat
    clear hat
    go_wp2_with fail
    go_ret
    exact ⟨ret_bool HA.out.symm, K1.out.trans KW.out⟩
 have t9 : ((op : Int) == 9) = false := by rw [beq_eq_false_iff_ne]; exact h9
 by_cases h2 : 2 ≤ op
 case neg =>
  have d3 : decide (op < 2) = true := decide_eq_true (by omega)
  rw [if_neg (by omega), if_neg (by omega), if_neg h9]
  clear h1 h9 h2
  go_enter Tryz.func103, Tryz.ntmps103
  go_wp2_with fail
  go_ret
  exact ⟨rfl, K0.out.1⟩
 have d3 : decide (op < 2) = false := decide_eq_false (by omega)
 by_cases h8 : op ≤ 8
 case neg =>
  have d4 : decide (op > 8) = true := decide_eq_true (by omega)
  rw [if_neg (by omega), if_neg (by omega), if_neg h9]
  clear h1 h9 h2 h8
  go_enter Tryz.func103, Tryz.ntmps103
  go_wp2_with fail
  go_ret
  exact ⟨rfl, K0.out.1⟩
 have d4 : decide (op > 8) = false := decide_eq_false (by omega)
 by_cases hz : set.length = 0
 case neg =>
  have d5 : decide ((set.length : Int) > 0) = true := decide_eq_true (by omega)
  have d7 : decide (0 < set.length) = true := decide_eq_true (by omega)
  have e : (if 2 ≤ op ∧ op ≤ 7 then vo && decide (set.length = 0) else if op = 8 then vo && (decide (k = 2) && decide (set.length = 0))
   else if op = 9 then br && (decide (1 ≤ set.length) && (decide (set.length ≤ 6) && set.all Val.ok)) else false) = false := by
   rw [decide_eq_false hz, if_neg h9]; split
   ·simp
   ·split <;> simp
  rw [e]
  clear h1 h9 h2 h8 hz e
  go_enter Tryz.func103, Tryz.ntmps103
  go_wp2_with fail
  go_ret
  exact ⟨rfl, K0.out.1⟩
 have d5 : decide ((set.length : Int) > 0) = false := decide_eq_false (by omega)
 have d7 : decide (0 < set.length) = false := decide_eq_false (by omega)
 cases vo
 ·have e : (if 2 ≤ op ∧ op ≤ 7 then false && decide (set.length = 0) else if op = 8 then false && (decide (k = 2) && decide (set.length = 0))
   else if op = 9 then br && (decide (1 ≤ set.length) && (decide (set.length ≤ 6) && set.all Val.ok)) else false) = false := by
   rw [if_neg h9]; split
   ·simp
   ·split <;> simp
  rw [e]
  clear h1 h9 h2 h8 hz e
  go_enter Tryz.func103, Tryz.ntmps103
  go_wp2_with fail
  refine (CV.out _).mono ?_
  rintro e w1 ⟨rfl, hk1⟩
  have K1 := Lib.hid (K0.out.1.trans hk1)
  clear hk1
  go_wp2_with fail
  go_ret
  exact ⟨rfl, K1.out⟩
 by_cases he8 : op = 8
 ·subst he8
  rw [if_neg (by omega), if_pos rfl, decide_eq_true hz]
  have HH := Lib.hid hz
  clear h1 h9 h2 h8 hz
  go_enter Tryz.func103, Tryz.ntmps103
  go_wp2_with fail
  refine (CV.out _).mono ?_
  rintro e w1 ⟨rfl, hk1⟩
  have g1 := blk7 ((hk1.block _ (lt_of_heap K0.out.2) (fun f => f)).trans K0.out.2)
  have K1 := Lib.hid (K0.out.1.trans hk1)
  clear hk1 g0
  go_wp2_with fail
  go_ret
  refine ⟨?_, K1.out⟩
  exact ret_bool (by by_cases e2 : k = 2 <;> simp [e2])
 ·have t8 : (op != 8) = true := by rw [bne_iff_ne]; exact he8
  rw [if_pos ⟨h2, by omega⟩, decide_eq_true hz]
  clear h1 h9 h2 h8 hz he8
  go_enter Tryz.func103, Tryz.ntmps103
  go_wp2_with fail
  refine (CV.out _).mono ?_
  rintro e w1 ⟨rfl, hk1⟩
  have g1 := blk7 ((hk1.block _ (lt_of_heap K0.out.2) (fun f => f)).trans K0.out.2)
  have K1 := Lib.hid (K0.out.1.trans hk1)
  clear hk1 g0
  go_wp2_with fail
  go_ret
  exact ⟨rfl, K1.out⟩
theorem ref_may_pred_any (v : Value) (l : List Con) (w : World) (h : Cons w v l) : Calls Tryz.prog 61 #[v] w fun e w' => e = .returned (.bool (predOk l)) ∧ Old w w' := by
 obtain ⟨p, c, hv, hb1, hb2⟩ := h.1.len
 subst hv
 have hmm : l.length ≤ 9223372036854775807 := by unfold maxLen at hb2; omega
 clear hb1 hb2
 have H := Lib.hid h
 clear h
 go_enter Tryz.func61, Tryz.ntmps61
 go_wp2_with fail
 go_loopw [3] (fun v3 wr => ∃ i : Nat, i ≤ l.length ∧ v3 = .int .i64 i ∧ (l.take i).all conOk = true ∧ Old w wr) (fun v3 _ => l.length - (intOf v3).toNat)
 case atStart => exact ⟨0, by omega, rfl, rfl, Keeps.refl _ _⟩
 case round =>
  obtain ⟨i, hi, rfl, hr, hk⟩ := hrel
  have HR := Lib.hid hr
  have KW := Lib.hid hk
  clear hr hk
  by_cases hlt : i < l.length
  ·obtain ⟨pb, po, cc, he, _, _, hc⟩ := H.out.1.at (by omega)
   simp only [Value.slice.injEq, true_and] at he
   obtain ⟨rfl, rfl⟩ := he
   obtain ⟨x, hx⟩ : ∃ x, l[i]? = some x := ⟨_, List.getElem?_eq_getElem hlt⟩
   have hst : (l.take (i + 1)).all conOk = conOk x := by
    rw [List.take_add_one, hx, List.all_append, HR.out]; simp
   have hall : conOk x = false → l.all conOk = false := fun hf => by
    rw [List.all_eq_false]; exact ⟨x, List.mem_of_getElem? hx, by simp [hf]⟩
   have VX := fun W (k : Old wr W) => ref_may_cons_any x W ((H.out.2 x (List.mem_of_getElem? hx)).1.old (KW.out.trans k))
   have cx := fun j u (hu : (Con.cells x)[j]? = some u) => KW.out.cell (hc i x hx j u hu) (fun f => f)
   obtain ⟨nm, op, ⟨k, n, s, b⟩, sv, set⟩ := x
   unfold Con.cells at cx VX
   simp only at cx VX
   have x0 := cx 0 _ rfl
   have x1 := cx 1 _ rfl
   have x2 := cx 2 _ rfl
   have x3 := cx 3 _ rfl
   have x4 := cx 4 _ rfl
   have x5 := cx 5 _ rfl
   have x6 := cx 6 _ rfl
   simp only [Nat.add_zero] at x0
   have i2 : (i : Int) < (l.length : Int) := by omega
   generalize conOk ⟨nm, op, ⟨k, n, s, b⟩, sv, set⟩ = xo at hst hall VX
   have HS := Lib.hid (And.intro hst hall)
   have HV := Lib.hid (VX _ (Keeps.refl _ _))
   clear hx cx hc hst hall VX
   cases xo
   ·go_wp2_with fail
    refine HV.out.mono ?_
    rintro e w2 ⟨rfl, hk2⟩
    have K2 := Lib.hid (KW.out.trans hk2)
    clear hk2
    go_wp2_with fail
    go_ret
    exact ⟨ret_bool (by rw [predOk]; first | rw [HS.out.2 rfl, Bool.and_false] | rw [HS.out.2 trivial, Bool.and_false]), K2.out⟩
   ·go_wp2_with fail
    refine HV.out.mono ?_
    rintro e w2 ⟨rfl, hk2⟩
    have K2 := Lib.hid (KW.out.trans hk2)
    clear hk2
    go_wp2_with fail
    go_roundw
    case rel => exact ⟨i + 1, by omega, by go_num, HS.out.1, K2.out⟩
    case measure => simp [intOf]; omega
  ·have hat : l.all conOk = true := by
    have := HR.out
    rw [List.take_of_length_le (by omega)] at this
    exact this
   have HA := Lib.hid hat
   clear hat
   by_cases h6 : l.length ≤ 6
   ·have d6 : decide ((l.length : Int) ≤ 6) = true := decide_eq_true (by omega)
    have HZ := Lib.hid h6
    clear h6
    go_wp2_with fail
    go_ret
    exact ⟨ret_bool (by rw [predOk, HA.out, decide_eq_true HZ.out]; rfl), KW.out⟩
   ·have d6 : decide ((l.length : Int) ≤ 6) = false := decide_eq_false (by omega)
    have HZ := Lib.hid h6
    clear h6
    go_wp2_with fail
    go_ret
    exact ⟨ret_bool (by rw [predOk, HA.out, decide_eq_false HZ.out]; rfl), KW.out⟩
end
end Go.Proofs.YtpjpimahnnekkaaGreat
