/- DERIVED. The document's writer of predicates (layer 7). · DERIVED. Both writers of predicates, each with one contract. -/
import Derived.Test.YtpjpimahnnekkaaGreatYpMsgForms26
import Derived.Test.YtpjpimahnnekkaaGreatYpMsgForms25
set_option maxRecDepth 100000
set_option maxHeartbeats 4000000
namespace Go.Proofs.YtpjpimahnnekkaaGreat
section
open Go.RowKit
theorem ref_put_pred_yes (v : Value) (cs : List Con) (w : World) (hc : Cons w v cs) (hlt : 0 < cs.length → ∀ k, v.ownBlock = some k → k < w.heap.size) (hok : predOk cs = true) :
  Calls Tryz.prog 33 #[v] w (Formed w (predForm (cs.map Con.plain))) := by
 obtain ⟨p, c, e9, hb1, hb2⟩ := hc.1.len
 subst e9
 have hmm : cs.length ≤ 9223372036854775807 := by unfold maxLen at hb2; omega
 clear hb1 hb2
 have CM := Lib.hid (ref_may_pred_any _ cs w hc)
 rw [hok] at CM
 obtain ⟨h6, hall⟩ := predOk_parts hok
 have hR : ∀ x ∈ cs, ConR x := fun x hx => (hc.2 x hx).ranges
 have H := Lib.hid (And.intro hc (And.intro hlt (And.intro hall hR)))
 clear hc hlt hall hR hok
 have fn : (form cs.length).length ≤ 10 := form_le10 (by omega)
 go_enter Tryz.func33, Tryz.ntmps33
 go_wp2_with fail
 refine CM.out.mono ?_
 rintro e w1 ⟨rfl, k1⟩
 have K1 := Lib.hid k1
 clear k1 CM
 go_wp2_with fail
 refine (ref7_num_any _ [] cs.length w.heap.size w1 (Owns.nil _ _) (by simp) (by omega) K1.out.size).mono ?_
 rintro e w2 ⟨p2, n2, c2, rfl, ho2, k2⟩
 obtain ⟨l0, hl0⟩ : ∃ l0, form cs.length = l0 := ⟨_, rfl⟩
 rw [List.nil_append, hl0] at ho2
 rw [hl0] at fn
 have R := Lib.hid (And.intro ho2 (And.intro ((K8.old K1.out).trans k2) hl0))
 clear ho2 k2 hl0 K1
 go_wp2_with fail
 go_loopw [4, 5, 6] (fun v4 v5 _ wr => ∃ i : Nat, i ≤ cs.length ∧ v5 = .int .i64 i ∧ Owns wr w.heap.size v4 (l0 ++ ((cs.take i).map Con.plain).flatMap conForm) ∧ K8 w.heap.size w wr) (fun _ v5 _ _ => cs.length - (intOf v5).toNat)
 case atStart => exact ⟨0, by omega, rfl, by simpa using R.out.1, R.out.2.1⟩
 case round =>
  obtain ⟨i, hi, rfl, how, hkw⟩ := hrel
  by_cases hlt : i < cs.length
  ·obtain ⟨b, o, c', he, _, _, hcell⟩ := H.out.1.1.at (by omega)
   simp only [Value.slice.injEq, true_and] at he
   obtain ⟨rfl, rfl⟩ := he
   have hx : cs[i]? = some cs[i] := List.getElem?_eq_getElem hlt
   generalize cs[i] = a at hx
   have hmem := List.mem_of_getElem? hx
   have hfine := H.out.1.2 a hmem
   have hok := H.out.2.2.1 a hmem
   have hran := H.out.2.2.2 a hmem
   obtain ⟨p9, c9, e9, _, hm9⟩ := hfine.1.len
   obtain ⟨an, ao, av, asv, ast⟩ := a
   simp only at e9
   subst e9
   have hbB : b < w.heap.size := H.out.2.1 (by omega) b rfl
   have cell : ∀ W, K8 w.heap.size w W → ∀ j u, (Con.mk an ao av (.slice p9 ast.length c9) ast).cells[j]? = some u → W.cell? ⟨b, o + i * 7 + j, none⟩ = some u := fun W hW j u hu => hW.cell (hcell i _ hx j u hu) (fun f => by have := f.1; simp only at this; omega)
   have f0 : (0 : Int) ≤ (i : Int) := by omega
   have f1 : (i : Int) < (cs.length : Int) := by omega
   obtain ⟨h16, ho1, ho9, hset, hval⟩ := conOk_parts hok
   simp only at h16 ho1 ho9 hset hval
   obtain ⟨q, rfl⟩ : ∃ q : Nat, ao = q := ⟨ao.toNat, by omega⟩
   have hu : IntKind.u64.wrap (q : Int) = q := by rw [IntKind.wrap_u64]; omega
   have cell0 : ∀ {W}, K8 w.heap.size w W → W.cell? ⟨b, o + i * 7, none⟩ = some (.string an) := fun hW => by simpa using cell _ hW 0 _ rfl
   have cell1 : ∀ {W}, K8 w.heap.size w W → W.cell? ⟨b, o + i * 7 + 1, none⟩ = some (.int .i64 q) := fun hW => cell _ hW 1 _ rfl
   have hsz : (l0 ++ ((cs.take i).map Con.plain).flatMap conForm).length ≤ 4000 := by
    have h1 := cons_le (l := cs.take i) (fun x hx => H.out.2.2.1 x (List.mem_of_mem_take hx)) (fun x hx => H.out.2.2.2 x (List.mem_of_mem_take hx))
    have h2 : (cs.take i).length ≤ 6 := by simp; omega
    simp only [List.length_append]; omega
   obtain ⟨lk, hlk⟩ : ∃ lk, l0 ++ ((cs.take i).map Con.plain).flatMap conForm = lk := ⟨_, rfl⟩
   rw [hlk] at how hsz
   have HX := Lib.hid (And.intro how (And.intro hkw (And.intro hx (And.intro hfine (And.intro hok (And.intro hran hlk))))))
   have HC := Lib.hid (And.intro hset hval)
   have CE := Lib.hid cell
   have hB : w.heap.size ≤ wr.heap.size := hkw.size
   clear how hkw hx hfine hok hran hlk hset hval cell hcell
   go_wp2_with fail
   refine wp_region_g (S := fun W' => K8 w.heap.size wr W') (M := List.range 15) (by kernel_rfl) ?_
   have hS : K8 w.heap.size wr wr.drew := (Keeps.refl _ _).drew
   refine wpAnyG_takeL (i := 0) (oi := _) (v := ?va0) rfl (by kernel_rfl) (by kernel_rfl) (by kernel_rfl) (by kernel_rfl) (fun _ _ _ h => h) (Or.inl ⟨by rfl, ?ya0⟩) hS ?ra0
   case ya0 => (intro W hSw; go_simp; try with_reducible rfl)
   try simp only [Act.put, List.setIfInBounds_toArray, List.set_cons_zero, List.set_cons_succ]
   refine wpAnyG_takeL (i := 1) (oi := _) (v := ?va1) rfl (by kernel_rfl) (by kernel_rfl) (by kernel_rfl) (by kernel_rfl) (fun _ _ _ h => h) (Or.inl ⟨by rfl, ?ya1⟩) hS ?ra1
   case ya1 => (intro W hSw; go_simp; try with_reducible rfl)
   try simp only [Act.put, List.setIfInBounds_toArray, List.set_cons_zero, List.set_cons_succ]
   refine wpAnyG_takeL (i := 2) (oi := _) (v := ?va2) rfl (by kernel_rfl) (by kernel_rfl) (by kernel_rfl) (by kernel_rfl) (fun _ _ _ h => h) (Or.inl ⟨by rfl, ?ya2⟩) hS ?ra2
   case ya2 => (intro W hSw; go_simp; try with_reducible rfl)
   try simp only [Act.put, List.setIfInBounds_toArray, List.set_cons_zero, List.set_cons_succ]
   refine wpAnyG_takeL (i := 7) (oi := _) (v := ?va7) rfl (by kernel_rfl) (by kernel_rfl) (by kernel_rfl) (by kernel_rfl) (fun _ _ _ h => h) (Or.inl ⟨by rfl, ?ya7⟩) hS ?ra7
   case ya7 => (intro W hSw; go_simp; try with_reducible rfl)
   try simp only [Act.put, List.setIfInBounds_toArray, List.set_cons_zero, List.set_cons_succ]
   refine wpAnyG_takeL (i := 8) (oi := _) (v := ?va8) rfl (by kernel_rfl) (by kernel_rfl) (by kernel_rfl) (by kernel_rfl) (fun _ _ _ h => h) (Or.inl ⟨by rfl, ?ya8⟩) hS ?ra8
   case ya8 => (intro W hSw; go_simp; try with_reducible rfl)
   try simp only [Act.put, List.setIfInBounds_toArray, List.set_cons_zero, List.set_cons_succ]
   refine wpAnyG_takeL (i := 3) (oi := _) (v := ?va3) rfl (by kernel_rfl) (by kernel_rfl) (by kernel_rfl) (by kernel_rfl) (fun _ _ _ h => h) (Or.inl ⟨by rfl, ?ya3⟩) hS ?ra3
   case ya3 => (intro W hSw; go_simp; try with_reducible rfl)
   try simp only [Act.put, List.setIfInBounds_toArray, List.set_cons_zero, List.set_cons_succ]
   refine wpAnyG_takeL (i := 9) (oi := _) (v := ?va9) rfl (by kernel_rfl) (by kernel_rfl) (by kernel_rfl) (by kernel_rfl) (fun _ _ _ h => h) (Or.inl ⟨by rfl, ?ya9⟩) hS ?ra9
   case ya9 => (intro W hSw; go_simp; try with_reducible rfl)
   try simp only [Act.put, List.setIfInBounds_toArray, List.set_cons_zero, List.set_cons_succ]
   refine wpAnyG_takeL (i := 4) (oi := _) (v := ?va4) rfl (by kernel_rfl) (by kernel_rfl) (by kernel_rfl) (by kernel_rfl) (fun _ _ _ h => h) (Or.inl ⟨by rfl, ?ya4⟩) hS ?ra4
   case ya4 => (intro W hSw; go_simp; try with_reducible rfl)
   try simp only [Act.put, List.setIfInBounds_toArray, List.set_cons_zero, List.set_cons_succ]
   refine wpAnyG_takeL (i := 10) (oi := _) (v := ?va10) rfl (by kernel_rfl) (by kernel_rfl) (by kernel_rfl) (by kernel_rfl) (fun _ _ _ h => h) (Or.inl ⟨by rfl, ?ya10⟩) hS ?ra10
   case ya10 => (intro W hSw; go_simp; try with_reducible rfl)
   try simp only [Act.put, List.setIfInBounds_toArray, List.set_cons_zero, List.set_cons_succ]
   refine wpAnyG_takeL (i := 5) (oi := _) (v := ?va5) rfl (by kernel_rfl) (by kernel_rfl) (by kernel_rfl) (by kernel_rfl) (fun _ _ _ h => h) (Or.inl ⟨by rfl, ?ya5⟩) hS ?ra5
   case ya5 => (intro W hSw; have tt := cell0 (HX.out.2.1.trans hSw); go_simp; try with_reducible rfl)
   try simp only [Act.put, List.setIfInBounds_toArray, List.set_cons_zero, List.set_cons_succ]
   refine wpAnyG_takeL (i := 11) (oi := _) (v := ?va11) rfl (by kernel_rfl) (by kernel_rfl) (by kernel_rfl) (by kernel_rfl) (fun _ _ _ h => h) (Or.inl ⟨by rfl, ?ya11⟩) hS ?ra11
   case ya11 => (intro W hSw; have tt := cell1 (HX.out.2.1.trans hSw); go_simp; try with_reducible rfl)
   try simp only [Act.put, List.setIfInBounds_toArray, List.set_cons_zero, List.set_cons_succ]
   refine wpAnyG_takeL (i := 12) (oi := _) (v := ?va12) rfl (by kernel_rfl) (by kernel_rfl) (by kernel_rfl) (by kernel_rfl) (fun _ _ _ h => h) (Or.inl ⟨by rfl, ?ya12⟩) hS ?ra12
   case ya12 => (intro W hSw; go_simp; try with_reducible rfl)
   try simp only [Act.put, List.setIfInBounds_toArray, List.set_cons_zero, List.set_cons_succ]
   refine wpAnyG_onlyL (i := 6) (o := _) (by kernel_rfl) rfl (fun K hK => ?_)
   go_simp
   refine (ref7_text_any _ lk an w.heap.size _ (HX.out.1.old (Keeps.refl _ _).drew) (by omega) (by omega) hB).mono ?_
   rintro e w3 ⟨p3, n3, c3, rfl, ho3, k3⟩
   have hS3 : K8 w.heap.size wr w3 := hS.trans k3
   clear k3
   go_wp2_with fail
   refine hK.out _ _ (fun _ => hS3) ?_
   clear hK K
   try simp only [Act.put, List.setIfInBounds_toArray, List.set_cons_zero, List.set_cons_succ]
   refine wpAnyG_onlyL (i := 13) (o := _) (by kernel_rfl) rfl (fun K hK => ?_)
   go_simp
   refine (ref7_num_any _ _ q w.heap.size _ ho3 (by have : (form an.size).length ≤ 10 := form_le10 (by omega); simp only [List.length_append, size_toList]; omega) (by omega) (Nat.le_trans hB hS3.size)).mono ?_
   rintro e w4 ⟨p4, n4, c4, rfl, ho4, k4⟩
   have hS4 : K8 w.heap.size wr w4 := hS3.trans k4
   clear k4
   go_wp2_with fail
   refine hK.out _ _ (fun _ => hS4) ?_
   clear hK K
   try simp only [Act.put, List.setIfInBounds_toArray, List.set_cons_zero, List.set_cons_succ]
   refine wpAnyG_takeL (i := 14) (oi := _) (v := ?va14) rfl (by kernel_rfl) (by kernel_rfl) (by kernel_rfl) (by kernel_rfl) (fun _ _ _ h => h) (Or.inl ⟨by rfl, ?ya14⟩) hS4 ?ra14
   case ya14 => (intro W hSw; go_simp; try with_reducible rfl)
   try simp only [Act.put, List.setIfInBounds_toArray, List.set_cons_zero, List.set_cons_succ]
   refine wpAnyG_done (by kernel_rfl) ?_ _
   go_simp
   have f3 : (form an.size).length ≤ 10 := form_le10 (by omega)
   have f4 : (form q).length ≤ 10 := form_le10 (by omega)
   obtain ⟨lm, hlm⟩ : ∃ lm, lk ++ form an.size ++ an.toList ++ form q = lm := ⟨_, rfl⟩
   have hsm : lm.length ≤ 4100 := by rw [← hlm]; simp only [List.length_append, size_toList]; omega
   rw [hlm] at ho4
   have HM := Lib.hid (And.intro ho4 (And.intro (HX.out.2.1.trans hS4) hlm))
   have B4 : w.heap.size ≤ w4.heap.size := HM.out.2.1.size
   have e1 := cell1 HM.out.2.1
   clear ho4 hS4 ho3 hS3 hS hlm f3 f4 fn cell0 cell1 hu
   by_cases h9 : q = 9
   ·subst h9
    have hs6 := (HC.out.1 rfl)
    have e6 := CE.out _ HM.out.2.1 6 _ rfl
    simp only at e6
    have e1 : w4.cell? ⟨b, o + i * 7 + 1, none⟩ = some (.int .i64 9) := e1
    have m6 : (ast.length : Int) ≤ 6 := by have := hs6.1; omega
    have hu : IntKind.u64.wrap (ast.length : Int) = ast.length := by rw [IntKind.wrap_u64]; omega
    have CN := Lib.hid (ref7_num_any (.slice p4 n4 c4) lm ast.length w.heap.size w4 HM.out.1 (by omega) (by have := hs6.1; omega) B4)
    have HS := Lib.hid hs6
    clear hs6
    go_wp2_with fail
    refine CN.out.mono ?_
    rintro e w5 ⟨p5, n5, c5, rfl, ho5, k5⟩
    have R6 := Lib.hid (And.intro ho5 (HM.out.2.1.trans k5))
    clear ho5 k5 CN
    go_wp2_with fail
    go_loopw [4, 6] (fun v4 v6 wr => ∃ j : Nat, j ≤ ast.length ∧ v6 = .int .i64 j ∧ Owns wr w.heap.size v4 (lm ++ form ast.length ++ (ast.take j).flatMap valForm) ∧ K8 w.heap.size w wr) (fun _ v6 _ => ast.length - (intOf v6).toNat)
    case atStart => exact ⟨0, by omega, rfl, by simpa using R6.out.1, R6.out.2⟩
    case round =>
     obtain ⟨j, hj, rfl, how, hkq⟩ := hrel
     have e6 := CE.out _ hkq 6 _ rfl
     simp only at e6
     by_cases hjl : j < ast.length
     ·obtain ⟨pb, po, cc, he2, _, _, hc2⟩ := HX.out.2.2.2.1.1.at (show 0 < ast.length by omega)
      simp only [Value.slice.injEq, true_and] at he2
      obtain ⟨rfl, rfl⟩ := he2
      have hy : ast[j]? = some ast[j] := List.getElem?_eq_getElem hjl
      generalize ast[j] = y at hy
      have hmy := List.mem_of_getElem? hy
      have hpb : pb < w.heap.size := HX.out.2.2.2.1.2.2.2 (by show 0 < ast.length; omega) pb rfl
      have cy := fun k u (hu : (valL y)[k]? = some u) => hkq.cell (hc2 j y hy k u hu) (fun f => by have := f.1; simp only at this; omega)
      have y0 := cy 0 _ rfl
      have y1 := cy 1 _ rfl
      have y2 := cy 2 _ rfl
      have y3 := cy 3 _ rfl
      simp only [Nat.add_zero] at y0
      have i2 : (j : Int) < (ast.length : Int) := by omega
      have hle : (lm ++ form ast.length ++ (ast.take j).flatMap valForm).length ≤ 5000 := by
       have h1 := vals_le (l := ast.take j) (fun x hx => HS.out.2 x (List.mem_of_mem_take hx)) (fun x hx => HX.out.2.2.2.2.2.1.2 x (List.mem_of_mem_take hx))
       have h2 : (ast.take j).length ≤ 6 := by have := HS.out.1; simp; omega
       have h3 : (form ast.length).length ≤ 10 := form_le10 (by have := HS.out.1; omega)
       simp only [List.length_append]; omega
      have CV := ref7_value_any _ _ y w.heap.size wr how (by omega) (HS.out.2 y hmy) (HX.out.2.2.2.2.2.1.2 y hmy) hkq.size
      unfold Val.cells at CV
      have C := Lib.hid CV
      have HY := Lib.hid (And.intro hy hkq)
      clear CV hy hkq how cy hc2 hpb hmy hle
      go_wp2_with fail
      refine C.out.mono ?_
      rintro e w6 ⟨p6, n6, c6, rfl, ho6, k6⟩
      have R8 := Lib.hid (And.intro ho6 (HY.out.2.trans k6))
      clear ho6 k6 C
      go_wp2_with fail
      go_roundw
      case rel => exact ⟨j + 1, by omega, by go_num, by rw [List.take_add_one, HY.out.1]; simpa [List.append_assoc] using R8.out.1, R8.out.2⟩
      case measure => simp [intOf]; omega
     ·have R7 := Lib.hid (And.intro how hkq)
      clear how hkq
      go_wp2_with fail
      go_roundw
      case rel => exact ⟨i + 1, by omega, by go_num, by have h := R7.out.1; rw [List.take_of_length_le (by omega), ← HM.out.2.2, ← HX.out.2.2.2.2.2.2] at h; rw [List.take_add_one, HX.out.2.2.1]; simpa [conForm, Con.plain] using h, R7.out.2⟩
      case measure => simp [intOf]; omega
   ·have t9 : ((q : Int) == 9) = false := by rw [beq_eq_false_iff_ne]; omega
    by_cases h1 : q = 1
    ·have t1 : ((q : Int) != 1) = false := by rw [bne_eq_false_iff_eq]; omega
     go_wp2_with fail
     go_roundw
     case rel => exact ⟨i + 1, by omega, by go_num, by have h := HM.out.1; rw [← HM.out.2.2, ← HX.out.2.2.2.2.2.2] at h; rw [List.take_add_one, HX.out.2.2.1]; simpa [conForm, Con.plain, h1] using h, HM.out.2.1⟩
     case measure => simp [intOf]; omega
    ·have t1 : ((q : Int) != 1) = true := by rw [bne_iff_ne]; omega
     have HQ := Lib.hid (And.intro (show ¬ (q : Int) = 1 by omega) (show ¬ (q : Int) = 9 by omega))
     obtain ⟨vk, vn, vs, vi⟩ := av
     have e2 := CE.out _ HM.out.2.1 2 _ rfl
     have e3 := CE.out _ HM.out.2.1 3 _ rfl
     have e4 := CE.out _ HM.out.2.1 4 _ rfl
     have e5 := CE.out _ HM.out.2.1 5 _ rfl
     simp only at e2 e3 e4 e5
     have CV := ref7_value_any (.slice p4 n4 c4) lm ⟨vk, vn, vs, vi⟩ w.heap.size w4 HM.out.1 (by omega) (HC.out.2 (by omega) (by omega)) HX.out.2.2.2.2.2.1.1 B4
     unfold Val.cells at CV
     simp only at CV
     have C := Lib.hid CV
     clear CV
     go_wp2_with fail
     refine C.out.mono ?_
     rintro e w5 ⟨p5, n5, c5, rfl, ho5, k5⟩
     have R6 := Lib.hid (And.intro ho5 (HM.out.2.1.trans k5))
     clear ho5 k5
     go_wp2_with fail
     go_roundw
     case rel => exact ⟨i + 1, by omega, by go_num, by have h := R6.out.1; rw [← HM.out.2.2, ← HX.out.2.2.2.2.2.2] at h; rw [List.take_add_one, HX.out.2.2.1]; simpa [conForm, Con.plain, HQ.out.1, HQ.out.2] using h, R6.out.2⟩
     case measure => simp [intOf]; omega
  ·obtain ⟨p8, n8, c8, rfl⟩ : ∃ p n c, u4 = .slice p n c := by obtain ⟨_, _, e, _, _⟩ := how.sees.len; exact ⟨_, _, _, e⟩
   have R5 := Lib.hid (And.intro how hkw)
   clear how hkw
   go_wp2_with fail
   go_ret2
   have h1 := R5.out.1
   rw [List.take_of_length_le (by omega), ← R.out.2.2] at h1
   exact ⟨_, _, _, rfl, by simpa [predForm] using h1, K8.to_old R5.out.2⟩
end
section
open Go.RowKit
theorem put_pred_v (v : Value) (cs : List Con) (w : World) (hc : Cons w v cs) (hlt : 0 < cs.length → ∀ k, v.ownBlock = some k → k < w.heap.size) :
  Calls Tryz.prog 30 #[v] w (PutV (predOk cs) (predForm (cs.map Con.plain)) w) := by
 cases hok : predOk cs
 ·exact (put_pred_no_any v cs w hc hok).mono fun _ _ h => PutV.no h
 ·exact (put_pred_any v cs w hc hlt hok).mono fun _ _ h => PutV.yes h
theorem ref_put_pred_v (v : Value) (cs : List Con) (w : World) (hc : Cons w v cs) (hlt : 0 < cs.length → ∀ k, v.ownBlock = some k → k < w.heap.size) :
  Calls Tryz.prog 33 #[v] w (PutV (predOk cs) (predForm (cs.map Con.plain)) w) := by
 cases hok : predOk cs
 ·have CM := Lib.hid (ref_may_pred_any v cs w hc)
  rw [hok] at CM
  clear hok hc hlt
  go_enter Tryz.func33, Tryz.ntmps33
  go_wp2_with fail
  refine CM.out.mono ?_
  rintro e w1 ⟨rfl, k1⟩
  have K1 := Lib.hid k1
  clear k1 CM
  go_wp2_with fail
  go_ret2
  exact PutV.no ⟨rfl, K1.out⟩
 ·exact (ref_put_pred_yes v cs w hc hlt hok).mono fun _ _ h => PutV.yes h
end
section
open Go.RowKit
def RC (w : World) (rp cb : Nat) (nm : ByteArray) (s : List Val) (st : Option (List UInt8)) (W : World) : Prop :=
 Rr W rp st ∧ (∃ v, W.heap[cb]? = some (.cells #[.string nm, .int .i64 9, .int .i64 0, .int .i64 0, .string ⟨#[]⟩, .bool false, v] 72 (0, 0)) ∧ OwnsV W (cb + 1) v s) ∧ Keeps (fun k => k = rp ∨ cb ≤ k) w W
def RCon (w : World) (rp : Nat) (res : Option (PCon × List UInt8)) (v : Value) (W : World) : Prop :=
 ∃ (cb : Nat) (nm : ByteArray) (op vk vn : Int) (vs : ByteArray) (vi : Bool) (p : Option Addr) (n c : Nat) (set : List Val), v = .pointer (some ⟨cb, 0, none⟩) ∧ w.heap.size ≤ cb ∧
  W.heap[cb]? = some (.cells #[.string nm, .int .i64 op, .int .i64 vk, .int .i64 vn, .string vs, .bool vi, .slice p n c] 72 (0, 0)) ∧ OwnsV W (cb + 1) (.slice p n c) set ∧
  (∀ y, res = some y → y.1 = ⟨nm, op, ⟨vk, vn, vs, vi⟩, set⟩) ∧ Rr W rp (res.map (·.2)) ∧ Keeps (fun k => k = rp ∨ w.heap.size ≤ k) w W
theorem setV7 {w : World} {b : Nat} {t : TypeId} {x0 x1 x2 x3 x4 x5 x6 a2 a3 a4 a5 : Value} (h : w.heap[b]? = some (.cells #[x0, x1, x2, x3, x4, x5, x6] t (0, 0))) :
  ((((w.setCell ⟨b, 2, none⟩ a2).setCell ⟨b, 3, none⟩ a3).setCell ⟨b, 4, none⟩ a4).setCell ⟨b, 5, none⟩ a5).heap[b]? = some (.cells #[x0, x1, a2, a3, a4, a5, x6] t (0, 0)) := by
 have h2 := heap_setCell_same w b 2 _ _ a2 h
 have h3 := heap_setCell_same _ b 3 _ _ a3 h2
 have h4 := heap_setCell_same _ b 4 _ _ a4 h3
 have h5 := heap_setCell_same _ b 5 _ _ a5 h4
 simpa using h5
theorem TakUP.no {L : List UInt8} {w w' : World} (h : takeP L = none) (k : Old w w') : TakUP L w (.returned (.tuple #[.slice none 0 0, .int .i64 5])) w' :=
 ⟨none, 0, 0, [], 5, rfl, k, ⟨SeesR.nil _, fun _ h => (by cases h)⟩, fun h => by simp at h, Or.inr ⟨h, rfl, rfl⟩⟩
end
end Go.Proofs.YtpjpimahnnekkaaGreat
