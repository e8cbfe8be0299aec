/- DERIVED. disk: Create. · DERIVED. The statements' small event (layer 7). · DERIVED. The chapter's rows (layer 7). · DERIVED. Bytes appended, as one step of a region that draws. -/
import Derived.Test.YtfnanbadbmmicaaGreatDoorZTopTorn03
import Derived.Deep.DeepCutAuto
import Derived.Test.YtfnanbadbmmicaaGreatDoorY10
import Derived.Test.YtfnanbadbmmicaaGreatDoorY11
namespace Go.Proofs.YtfnanbadbmmicaaGreatDoor
open Go.RowKit

theorem sees5 (w : World) (t : TypeId) (a b c d e : Value) : SeesR (w.alloc (.cells #[a, b, c, d, e] t)) 1 encV (.slice (some ⟨w.heap.size, 0, none⟩) 5 5) [a, b, c, d, e] := SeesR.new (k := 1) (enc := encV) w t (0, 0) [a, b, c, d, e] _ rfl (fun _ => rfl) (by simp [maxLen])
theorem sees4 (w : World) (t : TypeId) (a b c d : Value) : SeesR (w.alloc (.cells #[a, b, c, d] t)) 1 encV (.slice (some ⟨w.heap.size, 0, none⟩) 4 4) [a, b, c, d] := SeesR.new (k := 1) (enc := encV) w t (0, 0) [a, b, c, d] _ rfl (fun _ => rfl) (by simp [maxLen])
theorem sees3 (w : World) (t : TypeId) (a b c : Value) : SeesR (w.alloc (.cells #[a, b, c] t)) 1 encV (.slice (some ⟨w.heap.size, 0, none⟩) 3 3) [a, b, c] := SeesR.new (k := 1) (enc := encV) w t (0, 0) [a, b, c] _ rfl (fun _ => rfl) (by simp [maxLen])
theorem sees2 (w : World) (t : TypeId) (a b : Value) : SeesR (w.alloc (.cells #[a, b] t)) 1 encV (.slice (some ⟨w.heap.size, 0, none⟩) 2 2) [a, b] := SeesR.new (k := 1) (enc := encV) w t (0, 0) [a, b] _ rfl (fun _ => rfl) (by simp [maxLen])

set_option maxRecDepth 100000 in
set_option maxHeartbeats 2000000 in
theorem create_any (d m q : Nat) (w : World) (h : DkD w d m q) (hm : w.heap[m]? = some (.map #[] 0)) (hne : d ≠ m) : Calls Tryz.prog 5 #[.pointer (some ⟨d, 0, none⟩), .string logS] w fun e w' =>
  e = .returned (.int .i64 0) ∧ ∃ f, w.heap.size ≤ f ∧ Dk w' w.heap.size d m f (.slice none 0 0) q [] 0 ∧ Keeps (fun k => k = m) w w' := by
 obtain ⟨W0, hW0⟩ : ∃ W0, (w.alloc (.cells #[.pointer (some ⟨d, 0, none⟩)] 26)).alloc (.cells #[.string logS] 9) = W0 := ⟨_, rfl⟩
 have z0 : W0.heap.size = w.heap.size + 2 := by rw [← hW0]; simp
 have o0 : Old w W0 := by rw [← hW0]; exact ((Keeps.refl _ _).alloc _).alloc _
 have a1 : W0.heap[w.heap.size]? = some (.cells #[.pointer (some ⟨d, 0, none⟩)] 26 (0, 0)) := by rw [← hW0, Below.heap_alloc _ _ _ (by simp)]; exact heap_alloc_new _ _
 have a2 : W0.heap[w.heap.size + 1]? = some (.cells #[.string logS] 9 (0, 0)) := by rw [← hW0]; have := heap_alloc_new (w.alloc (.cells #[.pointer (some ⟨d, 0, none⟩)] 26)) (.cells #[.string logS] 9); rwa [World.size_alloc] at this
 have H0 := Lib.hid (And.intro (o0.drew) (And.intro (show W0.drew.heap[w.heap.size]? = _ from a1) (And.intro (show W0.drew.heap[w.heap.size + 1]? = _ from a2) (And.intro (h.old o0.drew) (And.intro ((o0.drew.block _ (hp_lt hm) (fun f => f)).trans hm) (And.intro z0 (And.intro (hp_lt h) (And.intro (hp_lt hm) hm))))))))
 have MY := Lib.hid (may_log W0.drew)
 have hS : W0.drew.cell? ⟨w.heap.size, 0, none⟩ = some (.pointer (some ⟨d, 0, none⟩)) ∧ W0.drew.cell? ⟨w.heap.size + 1, 0, none⟩ = some (.string ⟨#[108, 111, 103]⟩) := ⟨(blk1 a1).1, (blk1 a2).1⟩
 have HW := Lib.hid hW0
 clear h hm z0 o0 a1 a2 hW0
 go_enter Tryz.func5, Tryz.ntmps5
 go_wp2_with fail
 rw [HW.out]
 clear HW
 refine wp_region_g (S := fun W => W.cell? ⟨w.heap.size, 0, none⟩ = some (.pointer (some ⟨d, 0, none⟩)) ∧ W.cell? ⟨w.heap.size + 1, 0, none⟩ = some (.string ⟨#[108, 111, 103]⟩)) (M := [0, 1, 2, 3, 4, 5, 6, 7, 8, 9, 10, 11, 12]) (by kernel_rfl) ?_
 refine wpAnyG_takeL (i := 0) (oi := _) (v := ?va0) rfl (by kernel_rfl) (by kernel_rfl) (by kernel_rfl) (by kernel_rfl) (fun _ _ _ h => h) (Or.inl ⟨by rfl, ?ya0⟩) hS ?ra0
 case ya0 => (intro W hSw; obtain ⟨y1, y2⟩ := hSw; go_simp; try with_reducible rfl)
 try simp only [Act.put, List.setIfInBounds_toArray, List.set_cons_zero, List.set_cons_succ]
 refine wpAnyG_takeL (i := 1) (oi := _) (v := ?va1) rfl (by kernel_rfl) (by kernel_rfl) (by kernel_rfl) (by kernel_rfl) (fun _ _ _ h => h) (Or.inl ⟨by rfl, ?ya1⟩) hS ?ra1
 case ya1 => (intro W hSw; go_simp; try with_reducible rfl)
 try simp only [Act.put, List.setIfInBounds_toArray, List.set_cons_zero, List.set_cons_succ]
 refine wpAnyG_takeL (i := 2) (oi := _) (v := ?va2) rfl (by kernel_rfl) (by kernel_rfl) (by kernel_rfl) (by kernel_rfl) (fun _ _ _ h => h) (Or.inl ⟨by rfl, ?ya2⟩) hS ?ra2
 case ya2 => (intro W hSw; obtain ⟨y1, y2⟩ := hSw; go_simp; try with_reducible rfl)
 try simp only [Act.put, List.setIfInBounds_toArray, List.set_cons_zero, List.set_cons_succ]
 refine wpAnyG_takeL (i := 6) (oi := _) (v := ?va6) rfl (by kernel_rfl) (by kernel_rfl) (by kernel_rfl) (by kernel_rfl) (fun _ _ _ h => h) (Or.inl ⟨by rfl, ?ya6⟩) hS ?ra6
 case ya6 => (intro W hSw; go_simp; try with_reducible rfl)
 try simp only [Act.put, List.setIfInBounds_toArray, List.set_cons_zero, List.set_cons_succ]
 refine wpAnyG_takeL (i := 7) (oi := _) (v := ?va7) rfl (by kernel_rfl) (by kernel_rfl) (by kernel_rfl) (by kernel_rfl) (fun _ _ _ h => h) (Or.inl ⟨by rfl, ?ya7⟩) hS ?ra7
 case ya7 => (intro W hSw; go_simp; try with_reducible rfl)
 try simp only [Act.put, List.setIfInBounds_toArray, List.set_cons_zero, List.set_cons_succ]
 refine wpAnyG_takeL (i := 8) (oi := _) (v := ?va8) rfl (by kernel_rfl) (by kernel_rfl) (by kernel_rfl) (by kernel_rfl) (fun _ _ _ h => h) (Or.inl ⟨by rfl, ?ya8⟩) hS ?ra8
 case ya8 => (intro W hSw; obtain ⟨y1, y2⟩ := hSw; go_simp; try with_reducible rfl)
 try simp only [Act.put, List.setIfInBounds_toArray, List.set_cons_zero, List.set_cons_succ]
 refine wpAnyG_takeL (i := 9) (oi := _) (v := ?va9) rfl (by kernel_rfl) (by kernel_rfl) (by kernel_rfl) (by kernel_rfl) (fun _ _ _ h => h) (Or.inl ⟨by rfl, ?ya9⟩) hS ?ra9
 case ya9 => (intro W hSw; go_simp; try with_reducible rfl)
 try simp only [Act.put, List.setIfInBounds_toArray, List.set_cons_zero, List.set_cons_succ]
 refine wpAnyG_onlyL (i := 3) (o := _) (by kernel_rfl) rfl (fun K hK => ?_)
 go_simp
 refine MY.out.mono ?_
 rintro e w1 ⟨rfl, o1⟩
 have hS1 : w1.cell? ⟨w.heap.size, 0, none⟩ = some (.pointer (some ⟨d, 0, none⟩)) ∧ w1.cell? ⟨w.heap.size + 1, 0, none⟩ = some (.string ⟨#[108, 111, 103]⟩) := ⟨o1.cell hS.1 (fun f => f), o1.cell hS.2 (fun f => f)⟩
 have WR := Lib.hid (wrong_no 1 w1)
 have H1 := Lib.hid o1
 clear o1
 go_wp2_with fail
 refine hK.out _ _ (fun _ => hS1) ?_
 clear hK K
 try simp only [Act.put, List.setIfInBounds_toArray, List.set_cons_zero, List.set_cons_succ]
 refine wpAnyG_takeL (i := 4) (oi := _) (v := ?va4) rfl (by kernel_rfl) (by kernel_rfl) (by kernel_rfl) (by kernel_rfl) (fun _ _ _ h => h) (Or.inl ⟨by rfl, ?ya4⟩) hS1 ?ra4
 case ya4 => (intro W hSw; go_simp; try with_reducible rfl)
 try simp only [Act.put, List.setIfInBounds_toArray, List.set_cons_zero, List.set_cons_succ]
 refine wpAnyG_onlyL (i := 5) (o := _) (by kernel_rfl) rfl (fun K hK => ?_)
 go_simp
 refine WR.out.mono ?_
 rintro e w2 ⟨rfl, hc, o2⟩
 have hS2 : w2.cell? ⟨w.heap.size, 0, none⟩ = some (.pointer (some ⟨d, 0, none⟩)) ∧ w2.cell? ⟨w.heap.size + 1, 0, none⟩ = some (.string ⟨#[108, 111, 103]⟩) := ⟨o2.cell hS1.1 (fun f => f), o2.cell hS1.2 (fun f => f)⟩
 have H2 := Lib.hid (And.intro (H1.out.trans o2) hc)
 clear o2 hc
 go_wp2_with fail
 refine hK.out _ _ (fun _ => hS2) ?_
 clear hK K
 try simp only [Act.put, List.setIfInBounds_toArray, List.set_cons_zero, List.set_cons_succ]
 refine wpAnyG_onlyL (i := 10) (o := _) (by kernel_rfl) rfl (fun K hK => ?_)
 go_simp
 obtain ⟨w3, hw3⟩ : ∃ w3, w2.alloc (.cells #[.func (.func 15) #[.pointer (some ⟨d, 0, none⟩)] #[], .func (.func 36) #[] #[.pointer (some ⟨w1.heap.size, 0, none⟩), .pointer (some ⟨w1.heap.size + 1, 0, none⟩)],
  .func (.func 18) #[] #[.pointer (some ⟨w.heap.size, 0, none⟩), .pointer (some ⟨w.heap.size + 1, 0, none⟩)], .func (.func 19) #[] #[.pointer (some ⟨w.heap.size, 0, none⟩)], .func (.func 20) #[.pointer (some ⟨d, 0, none⟩)] #[]] 51) = w3 := ⟨_, rfl⟩
 have o3 : Old w2 w3 := by rw [← hw3]; exact (Keeps.refl _ _).alloc _
 have s3 := sees5 w2 51 (.func (.func 15) #[.pointer (some ⟨d, 0, none⟩)] #[]) (.func (.func 36) #[] #[.pointer (some ⟨w1.heap.size, 0, none⟩), .pointer (some ⟨w1.heap.size + 1, 0, none⟩)])
  (.func (.func 18) #[] #[.pointer (some ⟨w.heap.size, 0, none⟩), .pointer (some ⟨w.heap.size + 1, 0, none⟩)]) (.func (.func 19) #[] #[.pointer (some ⟨w.heap.size, 0, none⟩)]) (.func (.func 20) #[.pointer (some ⟨d, 0, none⟩)] #[])
 rw [hw3] at s3 ⊢
 have k03 : Old W0.drew w3 := H2.out.1.trans o3
 have e1 := (k03.block _ (hp_lt H0.out.2.1) (fun f => f)).trans H0.out.2.1
 have e2 := (k03.block _ (hp_lt H0.out.2.2.1) (fun f => f)).trans H0.out.2.2.1
 have hd3 := H0.out.2.2.2.1.old k03
 have hm3 := (k03.block _ (hp_lt H0.out.2.2.2.2.1) (fun f => f)).trans H0.out.2.2.2.2.1
 have hwr := (o3.block _ (hp_lt H2.out.2) (fun f => f)).trans H2.out.2
 have F := Lib.hid (first_ok _ _ w3 s3 (by simp) (by simp) (by
  intro x hx
  simp only [List.mem_cons, List.mem_nil_iff, or_false] at hx
  rcases hx with rfl | rfl | rfl | rfl | rfl
  ·exact asks_answers hd3
  ·exact asks_wrong hwr
  ·exact asks_create1 hd3 hm3 e1 e2
  ·exact asks_create2 hd3 hm3 e1
  ·exact asks_burns hd3))
 have hS3 : w3.cell? ⟨w.heap.size, 0, none⟩ = some (.pointer (some ⟨d, 0, none⟩)) ∧ w3.cell? ⟨w.heap.size + 1, 0, none⟩ = some (.string ⟨#[108, 111, 103]⟩) := ⟨o3.cell hS2.1 (fun f => f), o3.cell hS2.2 (fun f => f)⟩
 have H3 := Lib.hid k03
 clear o3 s3 k03 e1 e2 hd3 hm3 hwr hw3
 refine hK.out _ _ (fun _ => hS3) ?_
 clear hK K
 try simp only [Act.put, List.setIfInBounds_toArray, List.set_cons_zero, List.set_cons_succ]
 refine wpAnyG_onlyL (i := 11) (o := _) (by kernel_rfl) rfl (fun K hK => ?_)
 go_simp
 refine F.out.mono ?_
 rintro e w4 ⟨rfl, o4⟩
 have hS4 : w4.cell? ⟨w.heap.size, 0, none⟩ = some (.pointer (some ⟨d, 0, none⟩)) ∧ w4.cell? ⟨w.heap.size + 1, 0, none⟩ = some (.string ⟨#[108, 111, 103]⟩) := ⟨o4.cell hS3.1 (fun f => f), o4.cell hS3.2 (fun f => f)⟩
 have H4 := Lib.hid (H3.out.trans o4)
 clear o4
 go_wp2_with fail
 refine hK.out _ _ (fun _ => hS4) ?_
 clear hK K
 try simp only [Act.put, List.setIfInBounds_toArray, List.set_cons_zero, List.set_cons_succ]
 refine wpAnyG_takeL (i := 12) (oi := _) (v := ?va12) rfl (by kernel_rfl) (by kernel_rfl) (by kernel_rfl) (by kernel_rfl) (fun _ _ _ h => h) (Or.inl ⟨by rfl, ?ya12⟩) hS4 ?ra12
 case ya12 => (intro W hSw; go_simp; try with_reducible rfl)
 try simp only [Act.put, List.setIfInBounds_toArray, List.set_cons_zero, List.set_cons_succ]
 refine wpAnyG_done (by kernel_rfl) ?_ _
 go_simp
 go_wp2_with fail
 have hd4 := H0.out.2.2.2.1.old H4.out
 have hm4 := (H4.out.block _ (hp_lt H0.out.2.2.2.2.1) (fun f => f)).trans H0.out.2.2.2.2.1
 have hT : w4.drew.cell? ⟨w.heap.size, 0, none⟩ = some (.pointer (some ⟨d, 0, none⟩)) ∧ w4.drew.cell? ⟨w.heap.size + 1, 0, none⟩ = some (.string ⟨#[108, 111, 103]⟩) ∧ w4.drew.cell? ⟨d, 0, none⟩ = some (.map (some m)) := ⟨hS4.1, hS4.2, (blk4 hd4).1.1⟩
 have H5 := Lib.hid (And.intro hd4 hm4)
 clear hd4 hm4 hS hS1 hS2 hS3 hS4
 refine wp_region_g (S := fun W => W.cell? ⟨w.heap.size, 0, none⟩ = some (.pointer (some ⟨d, 0, none⟩)) ∧ W.cell? ⟨w.heap.size + 1, 0, none⟩ = some (.string ⟨#[108, 111, 103]⟩) ∧ W.cell? ⟨d, 0, none⟩ = some (.map (some m))) (M := [0, 1, 2, 3, 4, 5, 6]) (by kernel_rfl) ?_
 refine wpAnyG_takeL (i := 0) (oi := _) (v := ?vb0) rfl (by kernel_rfl) (by kernel_rfl) (by kernel_rfl) (by kernel_rfl) (fun _ _ _ h => h) (Or.inl ⟨by rfl, ?yb0⟩) hT ?rb0
 case yb0 => (intro W hSw; obtain ⟨y1, y2, y3⟩ := hSw; go_simp; try with_reducible rfl)
 try simp only [Act.put, List.setIfInBounds_toArray, List.set_cons_zero, List.set_cons_succ]
 refine wpAnyG_takeL (i := 1) (oi := _) (v := ?vb1) rfl (by kernel_rfl) (by kernel_rfl) (by kernel_rfl) (by kernel_rfl) (fun _ _ _ h => h) (Or.inl ⟨by rfl, ?yb1⟩) hT ?rb1
 case yb1 => (intro W hSw; go_simp; try with_reducible rfl)
 try simp only [Act.put, List.setIfInBounds_toArray, List.set_cons_zero, List.set_cons_succ]
 refine wpAnyG_takeL (i := 2) (oi := _) (v := ?vb2) rfl (by kernel_rfl) (by kernel_rfl) (by kernel_rfl) (by kernel_rfl) (fun _ _ _ h => h) (Or.inl ⟨by rfl, ?yb2⟩) hT ?rb2
 case yb2 => (intro W hSw; go_simp; try with_reducible rfl)
 try simp only [Act.put, List.setIfInBounds_toArray, List.set_cons_zero, List.set_cons_succ]
 refine wpAnyG_takeL (i := 3) (oi := _) (v := ?vb3) rfl (by kernel_rfl) (by kernel_rfl) (by kernel_rfl) (by kernel_rfl) (fun _ _ _ h => h) (Or.inl ⟨by rfl, ?yb3⟩) hT ?rb3
 case yb3 => (intro W hSw; obtain ⟨y1, y2, y3⟩ := hSw; go_simp; try with_reducible rfl)
 try simp only [Act.put, List.setIfInBounds_toArray, List.set_cons_zero, List.set_cons_succ]
 refine wpAnyG_takeL (i := 4) (oi := _) (v := ?vb4) rfl (by kernel_rfl) (by kernel_rfl) (by kernel_rfl) (by kernel_rfl) (fun _ _ _ h => h) (Or.inl ⟨by rfl, ?yb4⟩) hT ?rb4
 case yb4 => (intro W hSw; obtain ⟨y1, y2, y3⟩ := hSw; go_simp; try with_reducible rfl)
 try simp only [Act.put, List.setIfInBounds_toArray, List.set_cons_zero, List.set_cons_succ]
 refine wpAnyG_takeL (i := 5) (oi := _) (v := ?vb5) rfl (by kernel_rfl) (by kernel_rfl) (by kernel_rfl) (by kernel_rfl) (fun _ _ _ h => h) (Or.inl ⟨by rfl, ?yb5⟩) hT ?rb5
 case yb5 => (intro W hSw; go_simp; try with_reducible rfl)
 try simp only [Act.put, List.setIfInBounds_toArray, List.set_cons_zero, List.set_cons_succ]
 refine wpAnyG_onlyL (i := 6) (o := _) (by kernel_rfl) rfl (fun K hK => ?_)
 go_simp
 obtain ⟨w5, hw5⟩ : ∃ w5, (w4.alloc (.cells #[.slice none 0 0, .int .i64 0] 56)).drew = w5 := ⟨_, rfl⟩
 have o5 : Old w4 w5 := by rw [← hw5]; exact ((Keeps.refl _ _).alloc _).drew
 have f5 : w5.heap[w4.heap.size]? = some (.cells #[.slice none 0 0, .int .i64 0] 56 (0, 0)) := by rw [← hw5]; exact heap_alloc_new w4 _
 have m5 := (o5.block m (hp_lt H5.out.2) (fun f => f)).trans H5.out.2
 obtain ⟨w6, r6, m6, k6⟩ := map_put (P := Tryz.prog) (k := .string ⟨#[108, 111, 103]⟩) Tryz.underlying47 Tryz.underlying9 (by trivial) m5 (.pointer (some ⟨w4.heap.size, 0, none⟩)) (by rfl)
 rw [hw5]
 have hT5 : w5.cell? ⟨w.heap.size, 0, none⟩ = some (.pointer (some ⟨d, 0, none⟩)) ∧ w5.cell? ⟨w.heap.size + 1, 0, none⟩ = some (.string ⟨#[108, 111, 103]⟩) ∧ w5.cell? ⟨d, 0, none⟩ = some (.map (some m)) := ⟨o5.cell hT.1 (fun f => f), o5.cell hT.2.1 (fun f => f), o5.cell hT.2.2 (fun f => f)⟩
 have z4 : w.heap.size + 2 ≤ w4.heap.size := by have := H4.out.size; have := H0.out.2.2.2.2.2.1; simp at *; omega
 have hdm : d < w.heap.size ∧ m < w.heap.size := ⟨H0.out.2.2.2.2.2.2.1, H0.out.2.2.2.2.2.2.2.1⟩
 have HF := Lib.hid (show Dk w6 w.heap.size d m w4.heap.size (.slice none 0 0) q [] 0 ∧ Keeps (fun k => k = m) w w6 from
  ⟨⟨(k6.block d (Nat.lt_of_lt_of_le (hp_lt H5.out.1) o5.size) hne).trans ((o5.block d (hp_lt H5.out.1) (fun f => f)).trans H5.out.1), m6, (k6.block _ (hp_lt f5) (by omega)).trans f5, Owns.nil _ _, hne, by omega, by omega, by simp [Value.ownBlock], by simp [Value.ownBlock], by simp [Value.ownBlock]⟩,
   (((H0.out.1.trans H4.out).trans o5).weaken (T := fun k => k = m) (fun _ _ f => f.elim)).then k6 (fun i hi e => e)⟩)
 have HZ := Lib.hid z4
 clear o5 f5 m5 m6 k6 hw5 z4 hdm
 refine hK.out _ _ (fun _ => hT5) ?_
 clear hK K
 try simp only [Act.put, List.setIfInBounds_toArray, List.set_cons_zero, List.set_cons_succ]
 refine wpAnyG_onlyL (i := 7) (o := _) (by kernel_rfl) rfl (fun K hK => ?_)
 go_simp
 refine hK.out _ _ (fun h => absurd h (by decide)) ?_
 clear hK K
 try simp only [Act.put, List.setIfInBounds_toArray, List.set_cons_zero, List.set_cons_succ]
 refine wpAnyG_done (by kernel_rfl) ?_ _
 go_simp
 go_wp2_with fail
 go_ret
 exact ⟨rfl, w4.heap.size, by have := HZ.out; omega, HF.out.1, HF.out.2⟩
end Go.Proofs.YtfnanbadbmmicaaGreatDoor

namespace Go.Proofs.YtfnanbadbmmicaaGreatDoor
open Go.RowKit

def smallL : List At := [⟨⟨#[97]⟩, ⟨1, -1, ⟨#[]⟩, false⟩⟩, ⟨⟨#[98]⟩, ⟨2, 0, ⟨#[120]⟩, false⟩⟩, ⟨⟨#[99]⟩, ⟨3, 0, ⟨#[]⟩, true⟩⟩]
def smallK : ByteArray := ⟨#[107]⟩
def SmallPost (w : World) (e : Ending) (w' : World) : Prop := ∃ p n c, e = .returned (.agg #[.string ⟨#[107]⟩, .slice p n c]) ∧ SeesA w' (.slice p n c) smallL ∧ (∀ k, (Value.slice p n c).ownBlock = some k → k < w'.heap.size) ∧ Old w w'
end Go.Proofs.YtfnanbadbmmicaaGreatDoor

namespace Go.Proofs.YtfnanbadbmmicaaGreatDoor
open Go.RowKit

abbrev wForm : List UInt8 := [1, 107, 3, 1, 97, 1, 1, 1, 98, 2, 1, 120, 1, 99, 3, 1]
theorem small_ok : evOk ⟨#[107]⟩ smallL = true := by decide +kernel
theorem small_form : evForm ⟨#[107]⟩ smallL = wForm := by
 have z : zigN (-1) = 1 := by decide
 simp [evForm, smallL, atForm, valForm, form_lt, ByteArray.size, z]
theorem small_fits : Fits smallL := by
 intro a ha
 simp [smallL] at ha
 rcases ha with rfl | rfl | rfl <;> simp [ByteArray.size]
theorem take_small : takeE wForm = some (⟨#[107]⟩, smallL) := by
 have h := pEvent_fwd [] small_ok small_fits
 rw [small_form, List.append_nil] at h
 unfold takeE
 rw [h]
 simp [small_ok]
theorem take_more : takeE (wForm ++ [0]) = none := by
 have h := pEvent_fwd [0] small_ok small_fits
 rw [small_form] at h
 unfold takeE
 rw [h]
 simp
theorem take_less : takeE [1, 107, 3, 1, 97] = none := Option.isNone_iff_eq_none.1 (by decide +kernel)
theorem take_odd : takeE [129, 0, 107, 0] = none := Option.isNone_iff_eq_none.1 (by decide +kernel)
abbrev hasA (v : Value) : Con := ⟨⟨#[97]⟩, 1, noVal, v, []⟩
theorem hasA_ok (v : Value) : predOk [hasA v] = true := by
 have h1 : conOk (hasA v) = conOk (hasA .nilIface) := rfl
 have h2 : conOk (hasA .nilIface) = true := by decide +kernel
 have h := h1.trans h2
 simp [predOk, h]
theorem hasA_form (v : Value) : predForm ([hasA v].map Con.plain) = [1, 1, 97, 1] := by
 simp [predForm, conForm, Con.plain, form_lt, ByteArray.size]
abbrev pg35 : Pg := ⟨3, 5, .slice none 0 0, [], .slice none 0 0, [], true⟩
theorem pg35_ok : pgOk pg35.plain = true := by decide +kernel
theorem pg35_form : pageForm pg35.plain = [3, 5, 0, 0, 1] := by
 simp [pageForm, Pg.plain, form_lt]
theorem pg35_fine (w : World) : pg35.fine w := ⟨⟨SeesR.nil w, fun _ h => (by cases h), SeesR.nil w⟩, fun _ h => (by cases h), ⟨by decide, by decide⟩, fun h => (by cases h), fun h => (by cases h)⟩
theorem same_small : sameE ⟨#[107]⟩ smallL ⟨#[107]⟩ smallL = true := by decide +kernel
theorem size_small : evSize ⟨#[107]⟩ smallL = 16 := by unfold evSize; rw [small_ok, small_form]; rfl

end Go.Proofs.YtfnanbadbmmicaaGreatDoor

namespace Go.Proofs.YtfnanbadbmmicaaGreatDoor
open Go.RowKit

theorem flat_u8 (l : List UInt8) : l.flatMap (fun b => [u8 b]) = l.map u8 := by induction l <;> simp_all
theorem ownsR_u8 {w : World} {B : Nat} {v : Value} {l : List UInt8} : OwnsR w B 5 1 (fun b => [u8 b]) v l ↔ Owns w B v l := by unfold OwnsR Owns; rw [flat_u8]
theorem seesR_u8 {w : World} {v : Value} {l : List UInt8} (h : Sees w v l) : SeesR w 1 (fun b => [u8 b]) v l := by
 obtain ⟨p, c, h1, h2, h3, h4, h5⟩ := h
 refine ⟨p, c, h1, h2, h3, h4, fun a ha => ⟨(h5 a ha).1, fun j x hx i u hu => ?_⟩⟩
 cases i with
 | zero => simp only [List.getElem?_cons_zero, Option.some.injEq] at hu; subst hu; simpa using (h5 a ha).2 j x hx
 | succ i => simp at hu
theorem step_append_bytes {w : World} {ops : Array Oper} {o : Oper} {a : Act} {K : Act → World → Prop} {Q : Exit → Act → World → Prop} {G : Prop} (hgd : o.guard = none) (s x : Operand)
  (ho : o.op = .call { callee := .builtin .append, args := #[s, x], argTypes := #[25, 25] })
  (B : Nat) (v : Value) (l : List UInt8) (hs : a.eval s = v) (hown : Owns w B v l) (u : Value) (m : List UInt8) (hx : a.eval x = u) (hu : Sees w u m)
  (hlen : l.length + m.length ≤ 1000000000) (hB : B ≤ w.heap.size)
  (h : ∀ v' w', Owns w' B v' (l ++ m) → w.grownBy w' v.ownBlock → K (a.put o.dst v') w') :
  if Region.wanted o (yielded ops a.tmps) = true then Oper.wp Tryz.prog o a w K Q else G :=
 step_append_rows (P := Tryz.prog) hgd s x 25 ho B 5 1 1 (fun b => [u8 b]) _ Tryz.underlying25 Tryz.infoU8 rfl (by decide) v l hs (ownsR_u8.2 hown) u m hx (seesR_u8 hu) (fun _ _ => rfl)
  (fun y _ c hc => by simp at hc; subst hc; rfl) (by unfold maxLen; omega) (by omega) hB (fun v' w' h1 h2 _ => h v' w' (ownsR_u8.1 h1) h2)
end Go.Proofs.YtfnanbadbmmicaaGreatDoor
