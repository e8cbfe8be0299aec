/- DERIVED. The document's PutPage (layer 7). · DERIVED. The document's TakePage (layer 7). -/
import Derived.Test.YtpjpimahnnekkaaGreatYpMsgForms28
import Derived.Test.YtpjpimahnnekkaaGreatYpMsgForms27
set_option maxRecDepth 100000
set_option maxHeartbeats 8000000
namespace Go.Proofs.YtpjpimahnnekkaaGreat
section
open Go.RowKit
theorem K8.to_old' {B : Nat} {a b : World} (hB : a.heap.size ≤ B) (h : K8 B a b) : Old a b := ⟨h.os, h.tape, h.output, h.size, fun k hk _ => Keeps.block h k hk (fun u => by have := u.1; omega)⟩
theorem ref_put_page_yes (x : Pg) (w : World) (hf : x.fine w) (hok : pgOk x.plain = true) : Calls Tryz.prog 35 #[.agg x.cells.toArray] w (Formed w (pageForm x.plain)) := by
  have M := fun W k => ref_may_page_any x W (Pg.fine.old hf k)
  rw [hok] at M
  obtain ⟨fr, en, iv, its, gv, gs, last⟩ := x
  obtain ⟨⟨hi, hif, hg⟩, hgr, ⟨hfr, hen⟩, hbi, hbg⟩ := hf
  obtain ⟨p1, c1, e1, i1, i2⟩ := hi.len
  obtain ⟨p2, c2, e2, j1, j2⟩ := hg.len
  simp only at e1 e2 hi hif hg hgr hfr hen i1 i2 j1 j2 hbi hbg
  subst e1 e2
  have him : its.length ≤ 9223372036854775807 := by unfold maxLen at i2; omega
  have hgm : gs.length ≤ 9223372036854775807 := by unfold maxLen at j2; omega
  unfold pgOk topOk Pg.plain at hok
  simp only [List.length_map, Bool.and_eq_true, decide_eq_true_eq] at hok
  obtain ⟨⟨ha, hb', hc, h4, h16⟩, hio, hgo⟩ := hok
  have hits := itsOk_mem en _ _ hio
  have hits' : ∀ y ∈ its, itOk y.plain = true := fun y hy => hits _ (List.mem_map_of_mem hy)
  unfold Pg.cells at M ⊢
  simp only at M ⊢
  generalize hW0 : w.alloc (.cells #[.int .u64 fr, .int .u64 en, .slice p1 its.length c1, .slice p2 gs.length c2, .bool last] 35) = W0
  have k0 : Old w W0 := by rw [← hW0]; exact (Keeps.refl _ _).alloc _
  have hb0 : W0.heap[w.heap.size]? = some (.cells #[.int .u64 fr, .int .u64 en, .slice p1 its.length c1, .slice p2 gs.length c2, .bool last] 35 (0, 0)) := by rw [← hW0]; exact heap_alloc_new _ _
  have g0 := (blk5 hb0).1
  have CM := Lib.hid (M W0 k0)
  have H := Lib.hid (And.intro k0 (And.intro hb0 (And.intro hi (And.intro hif (And.intro hg (And.intro hgr (And.intro hbi (And.intro hbg hits'))))))))
  clear M k0 hb0 hi hif hg hgr hbi hbg hits hits' hio hgo
  go_enter Tryz.func35, Tryz.ntmps35
  go_wp2_with fail
  refine CM.out.mono ?_
  rintro e w1 ⟨rfl, k1⟩
  have b1 := (k1.block _ (lt_of_heap H.out.2.1) (fun f => f)).trans H.out.2.1
  have g1 := (blk5 b1).1
  obtain ⟨B, hB⟩ : ∃ B, w1.heap.size = B := ⟨_, rfl⟩
  have hwB : w.heap.size < B := by rw [← hB]; exact lt_of_heap b1
  have K1 := Lib.hid (And.intro (H.out.1.trans k1) (And.intro b1 hB))
  have fa : (form fr).length ≤ 10 := form_le10 hfr
  have fb : (form en).length ≤ 10 := form_le10 hen
  have fc : (form its.length).length ≤ 10 := form_le10 (by omega)
  have fd : (form gs.length).length ≤ 10 := form_le10 (by omega)
  have hul : IntKind.u64.wrap (its.length : Int) = its.length := by rw [IntKind.wrap_u64]; omega
  clear k1 CM g0 b1 hB
  go_wp2_with fail
  refine wp_region_g (S := fun W' => K8 B w1 W') (M := List.range 12) (by kernel_rfl) ?_
  have hS : K8 B w1 w1.drew := (Keeps.refl _ _).drew
  refine wpAnyG_takeL (i := 0) (oi := _) (v := ?va0) rfl (by kernel_rfl) (by kernel_rfl) (by kernel_rfl) (by kernel_rfl) (fun _ _ _ h => h) (Or.inl ⟨by rfl, ?ya0⟩) hS ?ra0
  case ya0 => (intro W hSw; go_simp; try with_reducible rfl)
  try simp only [Act.put, List.setIfInBounds_toArray, List.set_cons_zero, List.set_cons_succ]
  refine wpAnyG_takeL (i := 1) (oi := _) (v := ?va1) rfl (by kernel_rfl) (by kernel_rfl) (by kernel_rfl) (by kernel_rfl) (fun _ _ _ h => h) (Or.inl ⟨by rfl, ?ya1⟩) hS ?ra1
  case ya1 => (intro W hSw; have tt := blk5 (K8.block hSw K1.out.2.1 (by decide)); go_simp; try with_reducible rfl)
  try simp only [Act.put, List.setIfInBounds_toArray, List.set_cons_zero, List.set_cons_succ]
  refine wpAnyG_takeL (i := 3) (oi := _) (v := ?va3) rfl (by kernel_rfl) (by kernel_rfl) (by kernel_rfl) (by kernel_rfl) (fun _ _ _ h => h) (Or.inl ⟨by rfl, ?ya3⟩) hS ?ra3
  case ya3 => (intro W hSw; go_simp; try with_reducible rfl)
  try simp only [Act.put, List.setIfInBounds_toArray, List.set_cons_zero, List.set_cons_succ]
  refine wpAnyG_takeL (i := 4) (oi := _) (v := ?va4) rfl (by kernel_rfl) (by kernel_rfl) (by kernel_rfl) (by kernel_rfl) (fun _ _ _ h => h) (Or.inl ⟨by rfl, ?ya4⟩) hS ?ra4
  case ya4 => (intro W hSw; have tt := blk5 (K8.block hSw K1.out.2.1 (by decide)); go_simp; try with_reducible rfl)
  try simp only [Act.put, List.setIfInBounds_toArray, List.set_cons_zero, List.set_cons_succ]
  refine wpAnyG_takeL (i := 6) (oi := _) (v := ?va6) rfl (by kernel_rfl) (by kernel_rfl) (by kernel_rfl) (by kernel_rfl) (fun _ _ _ h => h) (Or.inl ⟨by rfl, ?ya6⟩) hS ?ra6
  case ya6 => (intro W hSw; go_simp; try with_reducible rfl)
  try simp only [Act.put, List.setIfInBounds_toArray, List.set_cons_zero, List.set_cons_succ]
  refine wpAnyG_takeL (i := 7) (oi := _) (v := ?va7) rfl (by kernel_rfl) (by kernel_rfl) (by kernel_rfl) (by kernel_rfl) (fun _ _ _ h => h) (Or.inl ⟨by rfl, ?ya7⟩) hS ?ra7
  case ya7 => (intro W hSw; have tt := blk5 (K8.block hSw K1.out.2.1 (by decide)); go_simp; try with_reducible rfl)
  try simp only [Act.put, List.setIfInBounds_toArray, List.set_cons_zero, List.set_cons_succ]
  refine wpAnyG_takeL (i := 8) (oi := _) (v := ?va8) rfl (by kernel_rfl) (by kernel_rfl) (by kernel_rfl) (by kernel_rfl) (fun _ _ _ h => h) (Or.inl ⟨by rfl, ?ya8⟩) hS ?ra8
  case ya8 => (intro W hSw; go_simp; try with_reducible rfl)
  try simp only [Act.put, List.setIfInBounds_toArray, List.set_cons_zero, List.set_cons_succ]
  refine wpAnyG_takeL (i := 9) (oi := _) (v := ?va9) rfl (by kernel_rfl) (by kernel_rfl) (by kernel_rfl) (by kernel_rfl) (fun _ _ _ h => h) (Or.inl ⟨by rfl, ?ya9⟩) hS ?ra9
  case ya9 => (intro W hSw; go_simp; try with_reducible rfl)
  try simp only [Act.put, List.setIfInBounds_toArray, List.set_cons_zero, List.set_cons_succ]
  refine wpAnyG_onlyL (i := 2) (o := _) (by kernel_rfl) rfl (fun K hK => ?_)
  go_simp
  refine (ref7_num_any _ [] fr B _ (Owns.nil _ _) (by simp) hfr (by rw [← K1.out.2.2]; exact Nat.le_refl _)).mono ?_
  rintro e w2 ⟨pa, na, ca, rfl, ho2, k2⟩
  have hS2 : K8 B w1 w2 := hS.trans k2
  have z2 := k2.size
  have z0 : B ≤ w1.drew.heap.size := by rw [← K1.out.2.2]; exact Nat.le_refl _
  clear k2
  go_wp2_with fail
  refine hK.out _ _ (fun _ => hS2) ?_
  clear hK K
  try simp only [Act.put, List.setIfInBounds_toArray, List.set_cons_zero, List.set_cons_succ]
  refine wpAnyG_onlyL (i := 5) (o := _) (by kernel_rfl) rfl (fun K hK => ?_)
  go_simp
  refine (ref7_num_any _ _ en B _ ho2 (by simp only [List.length_append, List.length_nil]; omega) hen (Nat.le_trans z0 z2)).mono ?_
  rintro e w3 ⟨pb, nb, cb, rfl, ho3, k3⟩
  have hS3 : K8 B w1 w3 := hS2.trans k3
  have z3 := k3.size
  clear k3
  go_wp2_with fail
  refine hK.out _ _ (fun _ => hS3) ?_
  clear hK K
  try simp only [Act.put, List.setIfInBounds_toArray, List.set_cons_zero, List.set_cons_succ]
  refine wpAnyG_onlyL (i := 10) (o := _) (by kernel_rfl) rfl (fun K hK => ?_)
  go_simp
  refine (ref7_num_any _ _ its.length B _ ho3 (by simp only [List.length_append, List.length_nil]; omega) (by omega) (Nat.le_trans z0 (Nat.le_trans z2 z3))).mono ?_
  rintro e w4 ⟨pc, nc, cc, rfl, ho4, k4⟩
  have hS4 : K8 B w1 w4 := hS3.trans k4
  clear k4
  go_wp2_with fail
  refine hK.out _ _ (fun _ => hS4) ?_
  clear hK K
  try simp only [Act.put, List.setIfInBounds_toArray, List.set_cons_zero, List.set_cons_succ]
  refine wpAnyG_takeL (i := 11) (oi := _) (v := ?va11) rfl (by kernel_rfl) (by kernel_rfl) (by kernel_rfl) (by kernel_rfl) (fun _ _ _ h => h) (Or.inl ⟨by rfl, ?ya11⟩) hS4 ?ra11
  case ya11 => (intro W hSw; go_simp; try with_reducible rfl)
  try simp only [Act.put, List.setIfInBounds_toArray, List.set_cons_zero, List.set_cons_succ]
  refine wpAnyG_done (by kernel_rfl) ?_ _
  go_simp
  obtain ⟨l0, hl0⟩ : ∃ l0, [] ++ form fr ++ form en ++ form its.length = l0 := ⟨_, rfl⟩
  rw [hl0] at ho4
  have hlen0 : l0.length ≤ 30 := by rw [← hl0]; simp only [List.length_append, List.length_nil]; omega
  have R := Lib.hid (And.intro ho4 (And.intro ((K8.old K1.out.1).trans hS4) hl0))
  have z4 : B ≤ w4.heap.size := by rw [← K1.out.2.2]; exact hS4.size
  have hbp : w4.heap[w.heap.size]? = some (.cells #[.int .u64 fr, .int .u64 en, .slice p1 its.length c1, .slice p2 gs.length c2, .bool last] 35 (0, 0)) := K8.block hS4 K1.out.2.1 (by decide)
  have HP := Lib.hid hbp
  clear ho4 hS4 ho3 hS3 ho2 hS2 hS g1 hl0 hbp z2 z3 hul
  go_wp2_with fail
  go_loopw [4, 5] (fun v4 v5 wr => ∃ k : Nat, k ≤ its.length ∧ v5 = .int .i64 k ∧ Owns wr B v4 (l0 ++ ((its.take k).map It.plain).flatMap itForm) ∧ K8 B w4 wr) (fun _ v5 _ => its.length - (intOf v5).toNat)
  case atStart => exact ⟨0, by omega, rfl, by simpa using R.out.1, Keeps.refl _ _⟩
  case round =>
    obtain ⟨k, hk, rfl, how, hkp⟩ := hrel
    have hbp : wr.heap[w.heap.size]? = some (.cells #[.int .u64 fr, .int .u64 en, .slice p1 its.length c1, .slice p2 gs.length c2, .bool last] 35 (0, 0)) := K8.block hkp HP.out (by decide)
    have gg := (blk5 hbp).1
    have hcl : (((its.take k).map It.plain).flatMap itForm).length ≤ 820 * (its.take k).length := its_le (fun x hx => H.out.2.2.2.2.2.2.2.2 x (List.mem_of_mem_take hx)) (fun x hx => (H.out.2.2.2.1 x (List.mem_of_mem_take hx)).2.2.1)
    have htk : (its.take k).length ≤ 4 := by simp; omega
    have hlen3 : (l0 ++ ((its.take k).map It.plain).flatMap itForm).length ≤ 4000 := by simp only [List.length_append]; omega
    by_cases hlt : k < its.length
    · obtain ⟨b, o, c', he, _, _, hcell⟩ := H.out.2.2.1.at (by omega)
      simp only [Value.slice.injEq, true_and] at he
      obtain ⟨rfl, rfl⟩ := he
      have hx : its[k]? = some its[k] := List.getElem?_eq_getElem hlt
      generalize its[k] = a at hx
      have hmem := List.mem_of_getElem? hx
      have hfine := H.out.2.2.2.1 a hmem
      obtain ⟨p9, c9, e9, _, _⟩ := hfine.1.len
      obtain ⟨n, t, key, av, es⟩ := a
      simp only at e9
      subst e9
      have hbB : b < w.heap.size := H.out.2.2.2.2.2.2.1 (by omega) b rfl
      have hKw : K8 B w wr := R.out.2.1.trans hkp
      have cell : ∀ i u, (It.cells ⟨n, t, key, .slice p9 es.length c9, es⟩)[i]? = some u → wr.cell? ⟨b, o + k * 4 + i, none⟩ = some u := fun i u hu => hKw.cell (hcell k _ hx i u hu) (fun f => by have := f.1; simp only at this; omega)
      have q0 := cell 0 _ rfl
      have q1 := cell 1 _ rfl
      have q2 := cell 2 _ rfl
      have q3 := cell 3 _ rfl
      simp only [Nat.add_zero] at q0
      have hob : ∀ (h0 : 0 < es.length) k, (Value.slice p9 es.length c9).ownBlock = some k → k < w.heap.size := hfine.2.1
      have hfw : It.fine wr ⟨n, t, key, .slice p9 es.length c9, es⟩ := ⟨SeesR.keep0 hfine.1 hKw (fun h0 b hb e => by have := hob h0 b hb; have := e.1; omega), fun h0 k hk => Nat.lt_of_lt_of_le (hfine.2.1 h0 k hk) hKw.size, hfine.2.2⟩
      have C4 := ref7_item_any _ _ ⟨n, t, key, .slice p9 es.length c9, es⟩ B wr how (by omega) hfw (fun h0 k hk => by have := hob h0 k hk; omega) (H.out.2.2.2.2.2.2.2.2 _ hmem) (Nat.le_trans z4 hkp.size)
      unfold It.cells at C4
      have C := Lib.hid C4
      have HX := Lib.hid (And.intro hx hkp)
      clear cell hx hkp how hcell hfine hfw hcl htk hmem hob C4 hKw hbp
      go_wp2_with fail
      refine C.out.mono ?_
      rintro e w5 ⟨p5, n5, c5, rfl, ho5, k5⟩
      have R6 := Lib.hid (And.intro ho5 (HX.out.2.trans k5))
      clear ho5 k5 C
      go_wp2_with fail
      go_roundw
      case rel => exact ⟨k + 1, by omega, by go_num, by rw [List.take_add_one, HX.out.1]; simpa [List.append_assoc] using R6.out.1, R6.out.2⟩
      case measure => simp [intOf]; omega
    · rw [List.take_of_length_le (by omega)] at how hlen3
      obtain ⟨p8, n8, c8, rfl⟩ : ∃ p n c, u4 = .slice p n c := by obtain ⟨_, _, e, _, _⟩ := how.sees.len; exact ⟨_, _, _, e⟩
      have C5 := Lib.hid (ref7_num_any _ _ gs.length B wr how (by omega) (by omega) (Nat.le_trans z4 hkp.size))
      have hug : IntKind.u64.wrap (gs.length : Int) = gs.length := by rw [IntKind.wrap_u64]; omega
      have R5 := Lib.hid hkp
      clear how hkp hcl htk hbp
      go_wp2_with fail
      refine C5.out.mono ?_
      rintro e w6 ⟨p6, n6, c6, rfl, ho6, k6⟩
      have hkk := R5.out.trans k6
      obtain ⟨l1, hl1⟩ : ∃ l1, l0 ++ (its.map It.plain).flatMap itForm ++ form gs.length = l1 := ⟨_, rfl⟩
      rw [hl1] at ho6
      have hlen1 : l1.length ≤ 4010 := by rw [← hl1]; simp only [List.length_append] at hlen3 ⊢; omega
      have L1 := Lib.hid hl1
      have R6 := Lib.hid (And.intro ho6 hkk)
      clear ho6 k6 hkk hl1 C5 gg hug
      go_wp2_with fail
      obtain ⟨wo, rfl⟩ : ∃ wo : World, wo = wr := ⟨_, rfl⟩
      go_loopw [4, 6] (fun v4 v6 wr => ∃ k : Nat, k ≤ gs.length ∧ v6 = .int .i64 k ∧ Owns wr B v4 (l1 ++ (gs.take k).flatMap gapForm) ∧ K8 B w4 wr) (fun _ v6 _ => gs.length - (intOf v6).toNat)
      case atStart => exact ⟨0, by omega, rfl, by simpa using R6.out.1, R6.out.2⟩
      case round =>
        obtain ⟨k, hk, rfl, how, hkp⟩ := hrel
        have hbp : wr.heap[w.heap.size]? = some (.cells #[.int .u64 fr, .int .u64 en, .slice p1 its.length c1, .slice p2 gs.length c2, .bool last] 35 (0, 0)) := K8.block hkp HP.out (by decide)
        have gg := (blk5 hbp).1
        have hcl : ((gs.take k).flatMap gapForm).length ≤ 20 * (gs.take k).length := gaps_le (fun x hx => H.out.2.2.2.2.2.1 x (List.mem_of_mem_take hx))
        have htk : (gs.take k).length ≤ 16 := by simp; omega
        have hlen4 : (l1 ++ (gs.take k).flatMap gapForm).length ≤ 5000 := by simp only [List.length_append]; omega
        obtain ⟨p8, n8, c8, rfl⟩ : ∃ p n c, u4 = .slice p n c := by obtain ⟨_, _, e, _, _⟩ := how.sees.len; exact ⟨_, _, _, e⟩
        by_cases hlt : k < gs.length
        · obtain ⟨b, o, c', he, _, _, hcell⟩ := H.out.2.2.2.2.1.at (by omega)
          simp only [Value.slice.injEq, true_and] at he
          obtain ⟨rfl, rfl⟩ := he
          have hx : gs[k]? = some gs[k] := List.getElem?_eq_getElem hlt
          generalize gs[k] = a at hx
          have hmem := List.mem_of_getElem? hx
          have hrg := H.out.2.2.2.2.2.1 a hmem
          obtain ⟨ga, gz⟩ := a
          simp only at hrg
          have hbB : b < w.heap.size := H.out.2.2.2.2.2.2.2.1 (by omega) b rfl
          have hKw : K8 B w wr := R.out.2.1.trans hkp
          have f0 : (0 : Int) ≤ (k : Int) := by omega
          have f1 : (k : Int) < (gs.length : Int) := by omega
          have cell0 : ∀ {W}, K8 B w W → W.cell? ⟨b, o + k * 2, none⟩ = some (.int .u64 ga) := fun hW => by simpa using hW.cell (hcell k _ hx 0 _ rfl) (fun f => by have := f.1; simp only at this; omega)
          have cell1 : ∀ {W}, K8 B w W → W.cell? ⟨b, o + k * 2 + 1, none⟩ = some (.int .u64 gz) := fun hW => hW.cell (hcell k _ hx 1 _ rfl) (fun f => by have := f.1; simp only at this; omega)
          have hga : (form ga).length ≤ 10 := form_le10 hrg.1
          obtain ⟨lk, hlk⟩ : ∃ lk, l1 ++ (gs.take k).flatMap gapForm = lk := ⟨_, rfl⟩
          rw [hlk] at how hlen4
          have hzr : B ≤ wr.heap.size := Nat.le_trans z4 hkp.size
          have HX := Lib.hid (And.intro hx (And.intro hkp (And.intro how (And.intro hKw (And.intro hlk hbp)))))
          clear hx hkp how hcell hcl htk hmem hKw hbp hlk
          go_wp2_with fail
          refine wp_region_g (S := fun W' => K8 B wr W') (M := List.range 16) (by kernel_rfl) ?_
          have hS : K8 B wr wr.drew := (Keeps.refl _ _).drew
          refine wpAnyG_takeL (i := 0) (oi := _) (v := ?ve0) rfl (by kernel_rfl) (by kernel_rfl) (by kernel_rfl) (by kernel_rfl) (fun _ _ _ h => h) (Or.inl ⟨by rfl, ?ye0⟩) hS ?re0
          case ye0 => (intro W hSw; go_simp; try with_reducible rfl)
          try simp only [Act.put, List.setIfInBounds_toArray, List.set_cons_zero, List.set_cons_succ]
          refine wpAnyG_takeL (i := 1) (oi := _) (v := ?ve1) rfl (by kernel_rfl) (by kernel_rfl) (by kernel_rfl) (by kernel_rfl) (fun _ _ _ h => h) (Or.inl ⟨by rfl, ?ye1⟩) hS ?re1
          case ye1 => (intro W hSw; go_simp; try with_reducible rfl)
          try simp only [Act.put, List.setIfInBounds_toArray, List.set_cons_zero, List.set_cons_succ]
          refine wpAnyG_takeL (i := 2) (oi := _) (v := ?ve2) rfl (by kernel_rfl) (by kernel_rfl) (by kernel_rfl) (by kernel_rfl) (fun _ _ _ h => h) (Or.inl ⟨by rfl, ?ye2⟩) hS ?re2
          case ye2 => (intro W hSw; have tt := blk5 (K8.block hSw HX.out.2.2.2.2.2 (by decide)); go_simp; try with_reducible rfl)
          try simp only [Act.put, List.setIfInBounds_toArray, List.set_cons_zero, List.set_cons_succ]
          refine wpAnyG_takeL (i := 3) (oi := _) (v := ?ve3) rfl (by kernel_rfl) (by kernel_rfl) (by kernel_rfl) (by kernel_rfl) (fun _ _ _ h => h) (Or.inl ⟨by rfl, ?ye3⟩) hS ?re3
          case ye3 => (intro W hSw; go_simp; try with_reducible rfl)
          try simp only [Act.put, List.setIfInBounds_toArray, List.set_cons_zero, List.set_cons_succ]
          refine wpAnyG_takeL (i := 4) (oi := _) (v := ?ve4) rfl (by kernel_rfl) (by kernel_rfl) (by kernel_rfl) (by kernel_rfl) (fun _ _ _ h => h) (Or.inl ⟨by rfl, ?ye4⟩) hS ?re4
          case ye4 => (intro W hSw; go_simp; try with_reducible rfl)
          try simp only [Act.put, List.setIfInBounds_toArray, List.set_cons_zero, List.set_cons_succ]
          refine wpAnyG_takeL (i := 5) (oi := _) (v := ?ve5) rfl (by kernel_rfl) (by kernel_rfl) (by kernel_rfl) (by kernel_rfl) (fun _ _ _ h => h) (Or.inl ⟨by rfl, ?ye5⟩) hS ?re5
          case ye5 => (intro W hSw; go_simp; try with_reducible rfl)
          try simp only [Act.put, List.setIfInBounds_toArray, List.set_cons_zero, List.set_cons_succ]
          refine wpAnyG_takeL (i := 6) (oi := _) (v := ?ve6) rfl (by kernel_rfl) (by kernel_rfl) (by kernel_rfl) (by kernel_rfl) (fun _ _ _ h => h) (Or.inl ⟨by rfl, ?ye6⟩) hS ?re6
          case ye6 => (intro W hSw; have tt := cell0 (HX.out.2.2.2.1.trans hSw); go_simp; try with_reducible rfl)
          try simp only [Act.put, List.setIfInBounds_toArray, List.set_cons_zero, List.set_cons_succ]
          refine wpAnyG_takeL (i := 8) (oi := _) (v := ?ve8) rfl (by kernel_rfl) (by kernel_rfl) (by kernel_rfl) (by kernel_rfl) (fun _ _ _ h => h) (Or.inl ⟨by rfl, ?ye8⟩) hS ?re8
          case ye8 => (intro W hSw; go_simp; try with_reducible rfl)
          try simp only [Act.put, List.setIfInBounds_toArray, List.set_cons_zero, List.set_cons_succ]
          refine wpAnyG_takeL (i := 9) (oi := _) (v := ?ve9) rfl (by kernel_rfl) (by kernel_rfl) (by kernel_rfl) (by kernel_rfl) (fun _ _ _ h => h) (Or.inl ⟨by rfl, ?ye9⟩) hS ?re9
          case ye9 => (intro W hSw; have tt := blk5 (K8.block hSw HX.out.2.2.2.2.2 (by decide)); go_simp; try with_reducible rfl)
          try simp only [Act.put, List.setIfInBounds_toArray, List.set_cons_zero, List.set_cons_succ]
          refine wpAnyG_takeL (i := 10) (oi := _) (v := ?ve10) rfl (by kernel_rfl) (by kernel_rfl) (by kernel_rfl) (by kernel_rfl) (fun _ _ _ h => h) (Or.inl ⟨by rfl, ?ye10⟩) hS ?re10
          case ye10 => (intro W hSw; go_simp; try with_reducible rfl)
          try simp only [Act.put, List.setIfInBounds_toArray, List.set_cons_zero, List.set_cons_succ]
          refine wpAnyG_takeL (i := 11) (oi := _) (v := ?ve11) rfl (by kernel_rfl) (by kernel_rfl) (by kernel_rfl) (by kernel_rfl) (fun _ _ _ h => h) (Or.inl ⟨by rfl, ?ye11⟩) hS ?re11
          case ye11 => (intro W hSw; go_simp; try with_reducible rfl)
          try simp only [Act.put, List.setIfInBounds_toArray, List.set_cons_zero, List.set_cons_succ]
          refine wpAnyG_takeL (i := 12) (oi := _) (v := ?ve12) rfl (by kernel_rfl) (by kernel_rfl) (by kernel_rfl) (by kernel_rfl) (fun _ _ _ h => h) (Or.inl ⟨by rfl, ?ye12⟩) hS ?re12
          case ye12 => (intro W hSw; go_simp; try with_reducible rfl)
          try simp only [Act.put, List.setIfInBounds_toArray, List.set_cons_zero, List.set_cons_succ]
          refine wpAnyG_takeL (i := 13) (oi := _) (v := ?ve13) rfl (by kernel_rfl) (by kernel_rfl) (by kernel_rfl) (by kernel_rfl) (fun _ _ _ h => h) (Or.inl ⟨by rfl, ?ye13⟩) hS ?re13
          case ye13 => (intro W hSw; have tt := cell1 (HX.out.2.2.2.1.trans hSw); go_simp; try with_reducible rfl)
          try simp only [Act.put, List.setIfInBounds_toArray, List.set_cons_zero, List.set_cons_succ]
          refine wpAnyG_onlyL (i := 7) (o := _) (by kernel_rfl) rfl (fun K hK => ?_)
          go_simp
          refine (ref7_num_any _ lk ga B _ (HX.out.2.2.1.old (Keeps.refl _ _).drew) (by omega) hrg.1 (show B ≤ wr.drew.heap.size from hzr)).mono ?_
          rintro e w7 ⟨p7, n7, c7, rfl, ho7, k7⟩
          have hS7 : K8 B wr w7 := hS.trans k7
          clear k7
          go_wp2_with fail
          refine hK.out _ _ (fun _ => hS7) ?_
          clear hK K
          try simp only [Act.put, List.setIfInBounds_toArray, List.set_cons_zero, List.set_cons_succ]
          refine wpAnyG_onlyL (i := 14) (o := _) (by kernel_rfl) rfl (fun K hK => ?_)
          go_simp
          refine (ref7_num_any _ _ gz B _ ho7 (by simp only [List.length_append]; omega) hrg.2 (Nat.le_trans hzr hS7.size)).mono ?_
          rintro e w9 ⟨p9, n9, c9, rfl, ho9, k9⟩
          have hS9 : K8 B wr w9 := hS7.trans k9
          clear k9
          go_wp2_with fail
          refine hK.out _ _ (fun _ => hS9) ?_
          clear hK K
          try simp only [Act.put, List.setIfInBounds_toArray, List.set_cons_zero, List.set_cons_succ]
          refine wpAnyG_takeL (i := 15) (oi := _) (v := ?ve15) rfl (by kernel_rfl) (by kernel_rfl) (by kernel_rfl) (by kernel_rfl) (fun _ _ _ h => h) (Or.inl ⟨by rfl, ?ye15⟩) hS9 ?re15
          case ye15 => (intro W hSw; go_simp; try with_reducible rfl)
          try simp only [Act.put, List.setIfInBounds_toArray, List.set_cons_zero, List.set_cons_succ]
          refine wpAnyG_done (by kernel_rfl) ?_ _
          go_simp
          have R8 := Lib.hid (And.intro ho9 (HX.out.2.1.trans hS9))
          clear ho9 hS9 ho7 hS7 hS cell0 cell1
          go_wp2_with fail
          go_roundw
          case rel => exact ⟨k + 1, by omega, by go_num, by rw [List.take_add_one, HX.out.1]; have h := R8.out.1; rw [← HX.out.2.2.2.2.1] at h; simpa [gapForm, List.append_assoc] using h, R8.out.2⟩
          case measure => simp [intOf]; omega
        · rw [List.take_of_length_le (by omega)] at how hlen4
          obtain ⟨lf, hlf⟩ : ∃ n : Nat, (if last = true then 1 else 0) = n := ⟨_, rfl⟩
          have C5 := Lib.hid (ref7_num_any _ _ lf B wr how (by omega) (by rw [← hlf]; split <;> omega) (Nat.le_trans z4 hkp.size))
          have HL := Lib.hid hlf
          have R5' := Lib.hid hkp
          clear how hkp hcl htk hbp
          cases last
          all_goals
            (obtain rfl := HL.out
             go_wp2_with fail
             refine C5.out.mono ?_
             rintro e w9 ⟨p9, n9, c9, rfl, ho9, k9⟩
             have R9 := Lib.hid (And.intro ho9 (R5'.out.trans k9))
             clear ho9 k9 C5
             go_wp2_with fail
             go_ret2
             have h1 := R9.out.1
             rw [← L1.out, ← R.out.2.2] at h1
             exact ⟨_, _, _, rfl, by simpa [pageForm, Pg.plain, List.append_assoc] using h1.mono (by omega), K8.to_old' (Nat.le_of_lt hwB) (R.out.2.1.trans R9.out.2)⟩)
theorem ref_put_page_v (x : Pg) (w : World) (hf : x.fine w) : Calls Tryz.prog 35 #[.agg x.cells.toArray] w (PutV (pgOk x.plain) (pageForm x.plain) w) := by
  cases hok : pgOk x.plain
  · have M := fun W k => ref_may_page_any x W (Pg.fine.old hf k)
    rw [hok] at M
    clear hok
    obtain ⟨fr, en, iv, its, gv, gs, last⟩ := x
    obtain ⟨p1, c1, e1, i1, i2⟩ := hf.1.1.len
    obtain ⟨p2, c2, e2, j1, j2⟩ := hf.1.2.2.len
    simp only at e1 e2
    subst e1 e2
    unfold Pg.cells at M ⊢
    simp only at M ⊢
    generalize hW0 : w.alloc (.cells #[.int .u64 fr, .int .u64 en, .slice p1 its.length c1, .slice p2 gs.length c2, .bool last] 35) = W0
    have k0 : Old w W0 := by rw [← hW0]; exact (Keeps.refl _ _).alloc _
    have hb0 : W0.heap[w.heap.size]? = some (.cells #[.int .u64 fr, .int .u64 en, .slice p1 its.length c1, .slice p2 gs.length c2, .bool last] 35 (0, 0)) := by rw [← hW0]; exact heap_alloc_new _ _
    have g := (blk5 hb0).1
    have C := Lib.hid (M W0 k0)
    have H := Lib.hid k0
    clear M k0 hb0 hf
    go_enter Tryz.func35, Tryz.ntmps35
    go_wp2_with fail
    refine C.out.mono ?_
    rintro e w1 ⟨rfl, hk1⟩
    have K := Lib.hid (H.out.trans hk1)
    clear hk1
    go_wp2_with fail
    go_ret2
    exact PutV.no ⟨rfl, K.out⟩
  · exact (ref_put_page_yes x w hf hok).mono fun _ _ h => PutV.yes h
theorem put_page_v (x : Pg) (w : World) (hf : x.fine w) : Calls Tryz.prog 32 #[.agg x.cells.toArray] w (PutV (pgOk x.plain) (pageForm x.plain) w) := by
  cases hok : pgOk x.plain
  · exact (put_page_no_any x w hf hok).mono fun _ _ h => PutV.no h
  · exact (put_page_any x w hf hok).mono fun _ _ h => PutV.yes h
end
section
open Go.RowKit
def pgEnd (fr en : Nat) (c : List PIt) (gs : List PGap) (l : List UInt8) : Option (PPg × List UInt8) := (pNum 1 l).map fun f => (⟨fr, en, c, gs, f.1 == 1⟩, f.2)
def pgTail (fr en : Nat) (c : List PIt) (l : List UInt8) : Option (PPg × List UInt8) := (pNum 16 l).bind fun x => (pMany pGap x.1 [] x.2).bind fun d => pgEnd fr en c d.1 d.2
theorem pPage_eq (l : List UInt8) : pPage l = (pNum 1099511627777 l).bind fun a => (pNum 1099511627777 a.2).bind fun b => (pNum 4 b.2).bind fun x => (pMany pItem x.1 [] x.2).bind fun c => pgTail a.1 b.1 c.1 c.2 := by
 unfold pPage pList pgTail pgEnd
 congr 1; funext a; congr 1; funext b
 cases pNum 4 b.2 with
 | none => rfl
 | some x =>
  simp only [Option.bind_some]
  congr 1; funext c
  cases pNum 16 c.2 with
  | none => rfl
  | some y => rfl
theorem qsplit {β : Type} (q : Option (Nat × List UInt8)) (F : Nat → List UInt8 → Option β) : q.bind (fun x => F x.1 x.2) = (q.map (·.2)).bind (F (q.elim 0 (·.1))) := by cases q <;> rfl
theorem q_le {st : Option (List UInt8)} {most : Nat} : (st.bind (pNum most)).elim 0 (·.1) ≤ most := by
 cases st with
 | none => exact Nat.zero_le _
 | some l =>
  simp only [Option.bind_some]
  cases hp : pNum most l with
  | none => exact Nat.zero_le _
  | some x => exact (pNum_inv (n := x.1) (r := x.2) hp).2.1
theorem TakUG.no {L : List UInt8} {w w' : World} (h : takeG L = none) (k : Old w w') : TakUG L w (.returned (.tuple #[.agg #[.int .u64 0, .int .u64 0, .slice none 0 0, .slice none 0 0, .bool false], .int .i64 5])) w' :=
 ⟨0, 0, none, 0, 0, [], none, 0, 0, [], false, 5, rfl, k, ⟨⟨SeesR.nil _, fun _ h => (by cases h), SeesR.nil _⟩, fun _ h => (by cases h), ⟨by decide, by decide⟩, fun h => (by simp at h), fun h => (by simp at h)⟩, Or.inr ⟨h, rfl, rfl, rfl, rfl, rfl, rfl, rfl, rfl⟩⟩
end
end Go.Proofs.YtpjpimahnnekkaaGreat
