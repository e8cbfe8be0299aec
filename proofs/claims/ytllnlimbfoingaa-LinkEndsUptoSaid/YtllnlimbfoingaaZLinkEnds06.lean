/- DERIVED. Chapter 20: the laws' step: Tick, Out, anew, nothing. -/
import Derived.Test.YtllnlimbfoingaaZLinkEnds04
import Derived.Deep.CutBlock
/- AUX -/
namespace Go.Proofs.Ytllnlimbfoingaa
open Go.RowKit Go.Conc

set_option maxRecDepth 100000 in
set_option maxHeartbeats 4000000 in
theorem wstep_b {w0 w : World} {wb : Nat} {lb : Bool → Nat} {R : Bool → Nat → Prop} {own : Own} {mb : Bool → Bool → Nat} {F : SeRows} {V : Bool → Value} {X : Bool → List Pv} {W : Wd} {j : Bool} {n : Nat} (x : St4) (h : Wm w0 w wb lb R own mb F V X W) (hi : Inv W j) (hb : WB W n) (hn : n ≤ 1000)
  (hs : Sees w0 x.2.2.2.1 x.2.2.2.2) (hd : x.2.2.2.2.length ≤ 140737488355328) (hw : x.1 ≠ 0 ∧ ¬ (x.1 = 3 ∨ x.1 = 4) ∧ x.1 ≠ 5) :
  Calls Try.prog 27 #[.pointer (some ⟨wb, 0, none⟩), .agg (stL x).toArray] w fun e w' => e = .returned (.bool true) ∧ Wx w0 w' wb (W.step (stP x)).1 := by
 obtain ⟨wh, en, wi, xv, xd⟩ := x
 simp only at hs hd hw
 have HW0 := Lib.hid hw
 clear hw
 obtain ⟨xp, xc, rfl, _, _⟩ := hs.len
 simp only [stL]
 obtain ⟨sx, hsx⟩ : ∃ s, stP (wh, en, wi, ((.slice xp xd.length xc, xd) : Bv)) = s := ⟨_, rfl⟩
 rw [hsx]
 have HSX := Lib.hid hsx
 clear hsx
 obtain ⟨w1, hw1⟩ : ∃ w1, w.alloc (.cells #[.int .i64 wh, .int .i64 en, .int .i64 wi, .slice xp xd.length xc] 62) = w1 := ⟨_, rfl⟩
 have o1 : Old w w1 := by rw [← hw1]; exact (Keeps.refl _ _).alloc _
 have b1 : w1.heap[w.heap.size]? = some (.cells #[.int .i64 wh, .int .i64 en, .int .i64 wi, .slice xp xd.length xc] 62 (0, 0)) := by rw [← hw1]; exact heap_alloc_new _ _
 have h1 := h.oldW o1
 obtain ⟨bx, hbx⟩ : ∃ b, w.heap.size = b := ⟨_, rfl⟩
 have HBX := Lib.hid hbx
 obtain ⟨i, hii⟩ : ∃ i, decide (en % 2 = 1) = i := ⟨_, rfl⟩
 obtain ⟨⟨c0, c1, c2⟩, -, -, -⟩ := wd_cells h1.blk i
 obtain ⟨ue, hue⟩ : ∃ z, IntKind.u64.wrap en = z := ⟨_, rfl⟩
 have e1 : ue.tmod 2 = (iv i : Int) := by
  rw [← hue, Int.tmod_eq_emod_of_nonneg (by rw [IntKind.wrap_u64]; omega), IntKind.wrap_u64, ← hii]
  by_cases h : en % 2 = 1
  ·rw [decide_eq_true h]; show _ = (1 : Int); omega
  ·rw [decide_eq_false h]; show _ = (0 : Int); omega
 have q1 : (0 : Int) ≤ (iv i : Int) := by omega
 have q2 : (iv i : Int) < 2 := by have := iv_lt i; omega
 obtain ⟨vp, vc, hvv, _, _⟩ := ((h1.ways i).sees (fun _ => rfl) (by decide)).len
 rw [hvv] at c1
 obtain ⟨k, hk⟩ : ∃ k, iv i = k := ⟨_, rfl⟩
 obtain ⟨ln, hln⟩ : ∃ l, (X i).length = l := ⟨_, rfl⟩
 have hll : ln ≤ 20000 := by have := hb.way i; rw [h1.way, List.length_map, hln] at this; omega
 have e2 : IntKind.i64.wrap (k : Int) = (k : Int) := by have := iv_lt i; rw [IntKind.wrap_i64]; omega
 have HLT := Lib.hid (And.intro (show ∀ q, R i q → q < w.heap.size from (h.duo.lt i).1) (show ∀ q, ownB own q → q < w.heap.size from fun q m => (h.lt q m).1))
 have H := Lib.hid (And.intro h1 (And.intro hi (And.intro hb (And.intro hn (And.intro hs (And.intro hd (And.intro b1 (And.intro hii (And.intro hvv (And.intro hln o1))))))))))
 rw [hbx] at b1
 obtain ⟨y0, y1, y2, y3⟩ := blk4 b1
 rw [hk] at c0 c1 c2 q1 q2 e1
 rw [hln] at c1
 have HK := Lib.hid hk
 clear h h1 hi hb hn hs hd o1 b1 hii hvv hln hk
 go_enter Try.func27, Try.ntmps27
 go_upto_region 4 with fail
 clear e1 hue hw1 hbx
 obtain ⟨aw', haw⟩ : ∃ a, (wi % 18446744073709551616).toNat = a := ⟨_, rfl⟩
 have HAW := Lib.hid haw
 clear haw
 go_upto_if 26 with fail
 go_cut [7] (fun v7 wc => ∃ at_ : Nat, v7 = .int .i64 (at_ : Int) ∧ (0 < ln → at_ = aw' % ln) ∧ Old w1 wc)
 case first =>
  by_cases h0 : ln = 0
  ·have g1 : decide (0 < ln) = false := by simp; omega
   have g2 : decide ((ln : Int) > 0) = false := by simp; omega
   go_wp2_with fail
   go_meet
   case rel => exact ⟨0, rfl, fun h => by omega, Keeps.refl _ _⟩
  ·have hpos : 0 < ln := by omega
   have g1 : decide (0 < ln) = true := by simp; omega
   have g2 : decide ((ln : Int) > 0) = true := by simp; omega
   have g3 : ((ln : Int) == 0) = false := by simp; omega
   have e3 : IntKind.u64.wrap (ln : Int) = (ln : Int) := by rw [IntKind.wrap_u64]; omega
   obtain ⟨at_, hat⟩ : ∃ a, aw' % ln = a := ⟨_, rfl⟩
   have hatl : at_ < ln := by rw [← hat]; exact Nat.mod_lt _ hpos
   have e4 : (IntKind.u64.wrap wi).tmod (ln : Int) = (at_ : Int) := by
    rw [Int.tmod_eq_emod_of_nonneg (by rw [IntKind.wrap_u64]; omega), IntKind.wrap_u64, ← hat, ← HAW.out, Int.natCast_emod, Int.toNat_of_nonneg (by omega)]
   have e5 : IntKind.i64.wrap (at_ : Int) = (at_ : Int) := by rw [IntKind.wrap_i64]; omega
   have HA := Lib.hid hat
   clear hat h0
   go_wp2_with fail
   go_quiet (fail)
   go_wp2_with fail
   go_meet
   case rel => exact ⟨at_, by first | rfl | (rw [e5]) | (unfold wrap64; congr 1; omega), fun _ => HA.out.symm, (Keeps.refl (fun _ => False) w1).drewN _⟩
 case rest =>
  obtain ⟨at_, rfl, hat, kc⟩ := hcut
  clear c0 c1 c2 y0 y1 y2 y3
  have g := H.out.1.oldW kc
  have hi := H.out.2.1
  have hb := H.out.2.2.1
  have ek : sx.i = i := by rw [← HSX.out]; exact H.out.2.2.2.2.2.2.2.1
  have hsw : sx.what = wh := by rw [← HSX.out]; rfl
  have hsb : sx.b = xd := by rw [← HSX.out]; rfl
  have hsa : sx.which = aw' := by rw [← HSX.out]; exact HAW.out
  have bx1 := (kc.block _ (by have := lt_of_block H.out.2.2.2.2.2.2.1; exact this) (fun f => f)).trans H.out.2.2.2.2.2.2.1
  obtain ⟨y0, y1, y2, y3⟩ := blk4 bx1
  obtain ⟨⟨c0, c1, c2⟩, -, -, hfz⟩ := wd_cells g.blk i
  rw [H.out.2.2.2.2.2.2.2.2.1] at c1
  rw [HK.out] at c0 c1 c2
  have hlnX := H.out.2.2.2.2.2.2.2.2.2.1
  rw [hlnX] at c1
  have hbx := HBX.out
  rw [hbx] at y0 y1 y2 y3 bx1
  have G := Lib.hid (And.intro g (And.intro hi (And.intro hb (And.intro ek (And.intro hsw (And.intro hsb (And.intro hsa (And.intro hat (And.intro bx1 (And.intro hfz hbx))))))))))
  have hEl : 1 ≤ (W.e i).life := (hi.1 i).born
  have HE := Lib.hid hEl
  clear g hi hb ek hsw hsb hsa hat kc bx1 hfz hlnX hbx hEl
  go_upto_block 0 with fail
  go_cut [] (fun wf => Wx w0 wf wb (W.step sx).1 ∧ True)
  case first =>
   by_cases h1 : wh = 1
   ·subst h1
    go_wp2_with fail
    refine (duo_tick i G.out.1.duo HE.out).mono ?_
    rintro e w3 ⟨rfl, d3, k3⟩
    have Z := Lib.hid (And.intro d3 k3)
    clear d3 k3
    go_wp2_with fail
    go_meet
    case rel =>
     have ew : (W.step sx).1 = { W with e := upd W.e i (W.e i).tick } := by
      obtain ⟨_, _, _, ek, hsw, _⟩ := G.out
      unfold Wd.step
      rw [hsw, ek]
      rfl
     rw [ew]
     have := G.out.1.link i (R' := R i) (e := (W.e i).tick) Z.out.2 (fun _ r => .inl r) rfl (by rw [upd_self]; exact Z.out.1)
     exact ⟨⟨_, _, _, _, _, _, _, this⟩, trivial⟩
   ·have n1 : (wh == 1) = false := by simp [h1]
    by_cases h0 : wh = 0
    ·exact absurd h0 HW0.out.1
    have n0 : (wh == 0) = false := by simp [h0]
    by_cases h2 : wh = 2
    ·obtain ⟨jn, hjn⟩ : ∃ q, iv (!i) = q := ⟨_, rfl⟩
     have hsub : IntKind.i64.wrap (1 - (k : Int)) = (jn : Int) := by
      have h1 := iv_not i
      rw [hjn, HK.out] at h1
      rw [← h1, IntKind.wrap_i64]
      have := iv_lt (!i)
      omega
     have hj1 : (0 : Int) ≤ (jn : Int) := by omega
     have hj2 : (jn : Int) < 2 := by have := iv_lt (!i); omega
     obtain ⟨vp2, vc2, hv2, _, _⟩ := ((G.out.1.ways (!i)).sees (fun _ => rfl) (by decide)).len
     obtain ⟨l2, hl2⟩ : ∃ l, (X (!i)).length = l := ⟨_, rfl⟩
     rw [hl2] at hv2
     have hl2b : l2 ≤ 20000 := by have h1 := G.out.2.2.1.way (!i); rw [G.out.1.way, List.length_map, hl2] at h1; have := H.out.2.2.2.1; omega
     have HJ := Lib.hid hjn
     have HV2 := Lib.hid hv2
     have HL2 := Lib.hid (And.intro hl2 hl2b)
     have HW2 := Lib.hid h2
     subst h2
     clear hjn hv2 hl2 hl2b n0 n1 c0 c1 c2
     go_upto_region 15 with fail
     refine wp_region_g (S := fun w' => w'.heap[wb]? = some (.cells (wdCells lb V W.e mb).toArray 71 (0, 0))) (M := List.range 13) (by as_aux_lemma => kernel_rfl) ?_
     obtain ⟨wd, hwd⟩ : ∃ wd, wc.drew = wd := ⟨_, rfl⟩
     have KD : Hid (Old wc wd) := Lib.hid (by rw [← hwd]; exact (Keeps.refl (fun _ => False) wc).drew)
     have hS : wd.heap[wb]? = some (.cells (wdCells lb V W.e mb).toArray 71 (0, 0)) := by rw [← hwd]; exact G.out.1.blk
     rw [hwd]
     clear hwd y0 y1 y2 y3
     refine wpAnyG_takeL (i := 0) (oi := _) (v := ?vt0) rfl (by as_aux_lemma => kernel_rfl) (by as_aux_lemma => kernel_rfl) (by as_aux_lemma => kernel_rfl) (by as_aux_lemma => kernel_rfl) (fun _ _ _ h => h) (Or.inl ⟨by rfl, ?yt0⟩) hS ?rt0
     case yt0 => (intro W hSw; obtain ⟨⟨c0', c1', c2'⟩, -, -, -⟩ := wd_cells hSw i; rw [HK.out] at c0' c1' c2'; obtain ⟨⟨a0', a1', a2'⟩, -, -, -⟩ := wd_cells hSw (!i); rw [HJ.out, HV2.out] at a1'; go_simp; try with_reducible rfl)
     try simp only [Act.put, List.setIfInBounds_toArray, List.set_cons_zero, List.set_cons_succ]
     refine wpAnyG_takeL (i := 1) (oi := _) (v := ?vt1) rfl (by as_aux_lemma => kernel_rfl) (by as_aux_lemma => kernel_rfl) (by as_aux_lemma => kernel_rfl) (by as_aux_lemma => kernel_rfl) (fun _ _ _ h => h) (Or.inl ⟨by rfl, ?yt1⟩) hS ?rt1
     case yt1 => (intro W hSw; obtain ⟨⟨c0', c1', c2'⟩, -, -, -⟩ := wd_cells hSw i; rw [HK.out] at c0' c1' c2'; obtain ⟨⟨a0', a1', a2'⟩, -, -, -⟩ := wd_cells hSw (!i); rw [HJ.out, HV2.out] at a1'; go_simp; try with_reducible rfl)
     try simp only [Act.put, List.setIfInBounds_toArray, List.set_cons_zero, List.set_cons_succ]
     refine wpAnyG_takeL (i := 2) (oi := _) (v := ?vt2) rfl (by as_aux_lemma => kernel_rfl) (by as_aux_lemma => kernel_rfl) (by as_aux_lemma => kernel_rfl) (by as_aux_lemma => kernel_rfl) (fun _ _ _ h => h) (Or.inl ⟨by rfl, ?yt2⟩) hS ?rt2
     case yt2 => (intro W hSw; obtain ⟨⟨c0', c1', c2'⟩, -, -, -⟩ := wd_cells hSw i; rw [HK.out] at c0' c1' c2'; obtain ⟨⟨a0', a1', a2'⟩, -, -, -⟩ := wd_cells hSw (!i); rw [HJ.out, HV2.out] at a1'; go_simp; try with_reducible rfl)
     try simp only [Act.put, List.setIfInBounds_toArray, List.set_cons_zero, List.set_cons_succ]
     refine wpAnyG_takeL (i := 3) (oi := _) (v := ?vt3) rfl (by as_aux_lemma => kernel_rfl) (by as_aux_lemma => kernel_rfl) (by as_aux_lemma => kernel_rfl) (by as_aux_lemma => kernel_rfl) (fun _ _ _ h => h) (Or.inl ⟨by rfl, ?yt3⟩) hS ?rt3
     case yt3 => (intro W hSw; obtain ⟨⟨c0', c1', c2'⟩, -, -, -⟩ := wd_cells hSw i; rw [HK.out] at c0' c1' c2'; obtain ⟨⟨a0', a1', a2'⟩, -, -, -⟩ := wd_cells hSw (!i); rw [HJ.out, HV2.out] at a1'; go_simp; try with_reducible rfl)
     try simp only [Act.put, List.setIfInBounds_toArray, List.set_cons_zero, List.set_cons_succ]
     refine wpAnyG_takeL (i := 4) (oi := _) (v := ?vt4) rfl (by as_aux_lemma => kernel_rfl) (by as_aux_lemma => kernel_rfl) (by as_aux_lemma => kernel_rfl) (by as_aux_lemma => kernel_rfl) (fun _ _ _ h => h) (Or.inl ⟨by rfl, ?yt4⟩) hS ?rt4
     case yt4 => (intro W hSw; obtain ⟨⟨c0', c1', c2'⟩, -, -, -⟩ := wd_cells hSw i; rw [HK.out] at c0' c1' c2'; obtain ⟨⟨a0', a1', a2'⟩, -, -, -⟩ := wd_cells hSw (!i); rw [HJ.out, HV2.out] at a1'; go_simp; try with_reducible rfl)
     try simp only [Act.put, List.setIfInBounds_toArray, List.set_cons_zero, List.set_cons_succ]
     refine wpAnyG_takeL (i := 5) (oi := _) (v := ?vt5) rfl (by as_aux_lemma => kernel_rfl) (by as_aux_lemma => kernel_rfl) (by as_aux_lemma => kernel_rfl) (by as_aux_lemma => kernel_rfl) (fun _ _ _ h => h) (Or.inl ⟨by rfl, ?yt5⟩) hS ?rt5
     case yt5 => (intro W hSw; obtain ⟨⟨c0', c1', c2'⟩, -, -, -⟩ := wd_cells hSw i; rw [HK.out] at c0' c1' c2'; obtain ⟨⟨a0', a1', a2'⟩, -, -, -⟩ := wd_cells hSw (!i); rw [HJ.out, HV2.out] at a1'; go_simp; try with_reducible rfl)
     try simp only [Act.put, List.setIfInBounds_toArray, List.set_cons_zero, List.set_cons_succ]
     refine wpAnyG_takeL (i := 6) (oi := _) (v := ?vt6) rfl (by as_aux_lemma => kernel_rfl) (by as_aux_lemma => kernel_rfl) (by as_aux_lemma => kernel_rfl) (by as_aux_lemma => kernel_rfl) (fun _ _ _ h => h) (Or.inl ⟨by rfl, ?yt6⟩) hS ?rt6
     case yt6 => (intro W hSw; obtain ⟨⟨c0', c1', c2'⟩, -, -, -⟩ := wd_cells hSw i; rw [HK.out] at c0' c1' c2'; obtain ⟨⟨a0', a1', a2'⟩, -, -, -⟩ := wd_cells hSw (!i); rw [HJ.out, HV2.out] at a1'; go_simp; try with_reducible rfl)
     try simp only [Act.put, List.setIfInBounds_toArray, List.set_cons_zero, List.set_cons_succ]
     refine wpAnyG_takeL (i := 7) (oi := _) (v := ?vt7) rfl (by as_aux_lemma => kernel_rfl) (by as_aux_lemma => kernel_rfl) (by as_aux_lemma => kernel_rfl) (by as_aux_lemma => kernel_rfl) (fun _ _ _ h => h) (Or.inl ⟨by rfl, ?yt7⟩) hS ?rt7
     case yt7 => (intro W hSw; obtain ⟨⟨c0', c1', c2'⟩, -, -, -⟩ := wd_cells hSw i; rw [HK.out] at c0' c1' c2'; obtain ⟨⟨a0', a1', a2'⟩, -, -, -⟩ := wd_cells hSw (!i); rw [HJ.out, HV2.out] at a1'; go_simp; try with_reducible rfl)
     try simp only [Act.put, List.setIfInBounds_toArray, List.set_cons_zero, List.set_cons_succ]
     refine wpAnyG_takeL (i := 8) (oi := _) (v := ?vt8) rfl (by as_aux_lemma => kernel_rfl) (by as_aux_lemma => kernel_rfl) (by as_aux_lemma => kernel_rfl) (by as_aux_lemma => kernel_rfl) (fun _ _ _ h => h) (Or.inl ⟨by rfl, ?yt8⟩) hS ?rt8
     case yt8 => (intro W hSw; obtain ⟨⟨c0', c1', c2'⟩, -, -, -⟩ := wd_cells hSw i; rw [HK.out] at c0' c1' c2'; obtain ⟨⟨a0', a1', a2'⟩, -, -, -⟩ := wd_cells hSw (!i); rw [HJ.out, HV2.out] at a1'; go_simp; try with_reducible rfl)
     try simp only [Act.put, List.setIfInBounds_toArray, List.set_cons_zero, List.set_cons_succ]
     refine wpAnyG_onlyL (i := 9) (o := _) (by as_aux_lemma => kernel_rfl) rfl (fun K hK => ?_)
     go_simp
     refine (duo_out i (G.out.1.duo.old KD.out) HE.out (WB.win G.out.2.1 i) (by have h1 := G.out.2.2.1.waits G.out.2.1 i; have := H.out.2.2.2.1; omega) (by have h1 := G.out.2.2.1.waits G.out.2.1 i; have := H.out.2.2.2.1; omega)).mono ?_
     rintro e w4 ⟨Xo, vo, rfl, hXo, hXp, k4, hd4⟩
     have gd := G.out.1.oldW KD.out
     have g4 := gd.link i (R' := R i) (e := (W.e i).out) k4 (fun _ r => .inl r) rfl (by rw [upd_self]; exact hd4 _ (fun _ h => .inl h) (fun q h => Nat.lt_of_lt_of_le (gd.lt q h).1 k4.size))
     rw [upd_self] at g4
     have hS4 : w4.heap[wb]? = some (.cells (wdCells lb V W.e mb).toArray 71 (0, 0)) := (k4.block _ (lt_of_block hS) ((gd.lt wb ⟨_, gd.owb⟩).2 i)).trans hS
     obtain ⟨po, co, rfl, _, _⟩ := hXo.len
     obtain ⟨lo, hlo⟩ : ∃ l, Xo.length = l := ⟨_, rfl⟩
     have hlo17 : lo ≤ 17 := by rw [← hlo, ← List.length_map (f := Pv.plain), hXp]; exact outs_len (WB.win G.out.2.1 i)
     rw [hlo] at hXo
     have Z := Lib.hid (And.intro g4 (And.intro hXo (And.intro hXp (And.intro k4 (And.intro hlo hlo17)))))
     have how : Hid (OwnsR w4 w0.heap.size 37 5 Pv.cells (.slice vp2 l2 vc2) (X (!i))) := Lib.hid (by rw [← HV2.out]; exact g4.ways (!i))
     have HN := Lib.hid (And.intro (show (X (!i)).length + Xo.length ≤ maxLen by have := HL2.out; unfold maxLen; omega) (And.intro (show ((X (!i)).length + Xo.length) * 56 ≤ 140737488355328 by have := HL2.out; omega) g4.old.size))
     have HO := Lib.hid (hXo.1.1.sees (fun _ => rfl) (by decide))
     have HC : Hid (∀ x ∈ Xo, ∀ c ∈ Pv.cells x, c.oneCell' = true) := Lib.hid (fun x hx c hc => by
      obtain ⟨p, c', e, _, _⟩ := (hXo.1.2 x hx).1.sees.len
      simp only [Pv.cells, e, List.mem_cons, List.not_mem_nil, or_false] at hc
      rcases hc with rfl | rfl | rfl | rfl | rfl <;> rfl)
     rw [hlo]
     clear hXo hXp k4 hd4 gd g4 hlo hlo17
     go_wp2_with fail
     refine hK.out _ _ (fun _ => hS4) ?_
     clear hK K
     try simp only [Act.put, List.setIfInBounds_toArray, List.set_cons_zero, List.set_cons_succ]
     refine wpAnyG_onlyL (i := 10) (o := _) (by as_aux_lemma => kernel_rfl) rfl (fun K hK => ?_)
     refine step_append_rows (P := Try.prog) rfl _ _ 45 rfl w0.heap.size 37 5 56 Pv.cells _ Try.underlying45 Try.infoPk rfl (by decide) _ (X (!i)) (by rfl) how.out _ Xo (by rfl) HO.out (fun _ _ => rfl) HC.out HN.out.1 HN.out.2.1 HN.out.2.2 ?_
     intro v5 w5 ho5 hg5 hv5
     obtain ⟨p5, c5, e5, _, _⟩ := (ho5.sees (fun _ => rfl) (by decide)).len
     obtain ⟨l5, hl5⟩ : ∃ l, (X (!i) ++ Xo).length = l := ⟨_, rfl⟩
     rw [hl5] at e5
     subst e5
     clear hl5
     have k5 : Keeps (fun b => (Value.slice vp2 l2 vc2).ownBlock = some b) w4 w5 := (Keeps.refl _ _).grown hg5 (fun b hb _ => hb)
     have hS5 : w5.heap[wb]? = some (.cells (wdCells lb V W.e mb).toArray 71 (0, 0)) := (k5.block _ (lt_of_block hS4) (fun e => by rw [← HV2.out] at e; have h1 := G.out.1.oway (!i) _ e; rw [G.out.1.owb] at h1; cases h1)).trans hS4
     obtain ⟨⟨z0', z1', z2'⟩, -, -, hfz5⟩ := wd_cells hS5 (!i)
     rw [HJ.out] at z1'
     have hfz1 := hfz5 (jn * 3 + 1)
     have Z5 := Lib.hid (And.intro ho5 (And.intro k5 (And.intro hv5 hS5)))
     clear ho5 hg5 hv5 k5 z0' z2' hfz5
     refine hK.out _ _ (fun _ => hS5) ?_
     clear hK K
     try simp only [Act.put, List.setIfInBounds_toArray, List.set_cons_zero, List.set_cons_succ]
     refine wpAnyG_onlyL (i := 11) (o := _) (by as_aux_lemma => kernel_rfl) rfl (fun K hK => ?_)
     go_simp
     refine hK.out _ _ (fun _ => hS5) ?_
     clear hK K
     try simp only [Act.put, List.setIfInBounds_toArray, List.set_cons_zero, List.set_cons_succ]
     refine wpAnyG_onlyL (i := 12) (o := _) (by as_aux_lemma => kernel_rfl) rfl (fun K hK => ?_)
     go_simp
     refine hK.out _ _ (fun _ => hS5) ?_
     clear hK K
     try simp only [Act.put, List.setIfInBounds_toArray, List.set_cons_zero, List.set_cons_succ]
     refine wpAnyG_onlyL (i := 13) (o := _) (by as_aux_lemma => kernel_rfl) rfl (fun K hK => ?_)
     go_simp
     refine hK.out _ _ (fun h => absurd h (by decide)) ?_
     clear hK K
     try simp only [Act.put, List.setIfInBounds_toArray, List.set_cons_zero, List.set_cons_succ]
     refine wpAnyG_done (by as_aux_lemma => kernel_rfl) ?_ _
     clear hS hS4 hS5
     go_wp2_with fail
     go_meet
     case rel =>
      obtain ⟨g4, hXo, hXp, k4, hlo, _⟩ := Z.out
      obtain ⟨ho5, k5, hv5, hS5⟩ := Z5.out
      have gd := G.out.1.oldW KD.out
      have hv2 := HV2.out
      have ew : (W.step sx).1 = { W with e := upd W.e i (W.e i).out, way := upd W.way (!i) (W.way (!i) ++ (W.e i).outs) } := by
       obtain ⟨_, _, _, ek, hsw, _⟩ := G.out
       unfold Wd.step
       rw [hsw, ek]
       rfl
      rw [ew]
      have kf : Keeps (fun b => b = wb) w5 (w5.setCell ⟨wb, jn * 3 + 1, none⟩ (Value.slice p5 l5 c5)) := setAt (Keeps.refl _ _) (jn * 3 + 1) _
      have bf := heap_setCell_same _ wb (jn * 3 + 1) _ _ (Value.slice p5 l5 c5) hS5
      have hlf : ∀ i, (W.e i).out.life = (W.e i).life := fun _ => rfl
      have hnw : (Value.slice p5 l5 c5).ownBlock ≠ some wb := fun e => by
       rcases hv5 with h1 | h1
       ·rw [h1, ← hv2] at e
        have h2 := g4.oway _ _ e
        rw [g4.owb] at h2
        cases h2
       ·rw [h1] at e
        have h3 := (g4.lt wb ⟨_, g4.owb⟩).1
        have := Option.some.inj e
        omega
      have K1 : Keeps (fun b => ∃ c, own b = some c ∧ (c = .wb ∨ c = .way (!i))) w4 (w5.setCell ⟨wb, jn * 3 + 1, none⟩ (Value.slice p5 l5 c5)) :=
       (k5.weaken (fun b _ e => by rw [← hv2] at e; exact ⟨.way (!i), g4.oway (!i) b e, .inr rfl⟩)).trans (kf.weaken (fun b _ e => by subst e; exact ⟨_, g4.owb, .inl rfl⟩))
      have g' := g4.setWay (!i) (Value.slice p5 l5 c5) (X (!i) ++ Xo) K1 (by
        rw [bf, ← HJ.out]
        congr 2
        cases i <;> simp [wdCells, iv, upd, hlf]) (ho5.keeps kf (fun b e h => hnw (by rw [e, h]))) (fun b e => by
        rcases hv5 with h1 | h1
        ·exact .inl (by rw [hv2, ← h1]; exact e)
        ·exact .inr (by rw [h1] at e; have := Option.some.inj e; omega)) (fun w' hw' x hx => by
        have K2 : Keeps (fun b => (ownB own b ∨ R false b ∨ R true b) ∨ w4.heap.size ≤ b) w4 w' :=
         (K1.weaken (fun b _ e => by obtain ⟨c, e, _⟩ := e; exact .inl (.inl ⟨c, e⟩))).trans (hw'.weaken (fun b _ e => by
          rcases e with e | e | e
          ·exact .inl (.inl e)
          ·rcases hv5 with h1 | h1
           ·rw [h1, ← hv2] at e; exact .inl (.inl ⟨_, g4.oway (!i) b e⟩)
           ·rw [h1] at e; have := Option.some.inj e; exact .inr (by omega)
          ·exact .inl (.inr e)))
        rcases List.mem_append.1 hx with hx | hx
        ·exact (g4.data w' (K2.weaken (fun b hb e => e.elim id (fun e => by omega)))).2 (!i) x hx
        ·obtain ⟨o, hb⟩ := hXo.1.2 x hx
         refine ⟨(o.keeps K2 (fun b e h => ?_)).sees, bounds_lk (gd.duo i) x.plain (by rw [← hXp]; exact List.mem_map_of_mem hx)⟩
         obtain ⟨b1, b2, _⟩ := hb b e
         rcases h with (h | h | h) | h
         ·have := (gd.lt b h).1; omega
         ·have := (gd.duo.lt false).1 b h; omega
         ·have := (gd.duo.lt true).1 b h; omega
         ·omega)
      obtain ⟨own', g'⟩ := g'
      rw [List.map_append, hXp, ← g4.way (!i)] at g'
      exact ⟨⟨_, _, _, _, _, _, _, g'⟩, trivial⟩
    have n2 : (wh == 2) = false := by simp [h2]
    by_cases h34 : wh = 3 ∨ wh = 4
    ·exact absurd h34 HW0.out.2.1
    have n3 : (wh == 3) = false := by simp; omega
    have n4 : (wh == 4) = false := by simp; omega
    by_cases h5 : wh = 5
    ·exact absurd h5 HW0.out.2.2
    have n5 : (wh == 5) = false := by simp [h5]
    by_cases h6 : wh = 6
    ·have hlf : (W.e i).life < 18446744073709551615 := by have h1 := G.out.2.2.1.life i; have h2 := H.out.2.2.2.1; omega
     have hwr : IntKind.u64.wrap (((W.e i).life : Int) + 1) = (((W.e i).life + 1 : Nat) : Int) := by rw [IntKind.wrap_u64]; omega
     obtain ⟨lf, hlfe⟩ : ∃ l, (W.e i).life + 1 = l := ⟨_, rfl⟩
     rw [hlfe] at hwr
     have hfz := G.out.2.2.2.2.2.2.2.2.2.1
     have hz2 := hfz (k * 3 + 2)
     have hz0 := hfz (k * 3)
     obtain ⟨w3, hw3⟩ : ∃ w3, wc.setCell ⟨wb, k * 3 + 2, none⟩ (.int .u64 (lf : Int)) = w3 := ⟨_, rfl⟩
     have k3 : Keeps (fun b => b = wb) wc w3 := by rw [← hw3]; exact setAt (Keeps.refl _ _) (k * 3 + 2) _
     have b3 : w3.heap[wb]? = some (.cells (wdCells lb V (upd W.e i (En.new lf)) mb).toArray 71 (0, 0)) := by
      have := heap_setCell_same _ wb (k * 3 + 2) _ _ (.int .u64 (lf : Int)) G.out.1.blk
      rw [hw3] at this
      rw [this, ← HK.out]
      congr 2
      cases i <;> simp [wdCells, iv, upd, En.new]
     obtain ⟨⟨d0, d1, d2⟩, -, -, hfz3⟩ := wd_cells b3 i
     rw [HK.out] at d0 d1 d2
     rw [upd_same] at d2
     have d2 : w3.cell? ⟨wb, k * 3 + 2, none⟩ = some (.int .u64 (lf : Int)) := d2
     have NC := Lib.hid (lk_new lf (by omega) w3)
     have Z := Lib.hid (And.intro k3 (And.intro b3 (And.intro hlfe (And.intro h6 hlf))))
     subst h6
     clear n0 n1 n2 n3 n4 n5 k3 b3 hlfe hlf hfz hfz3 d1
     go_upto_region 29 with fail
     go_wp2_with fail
     refine NC.out.mono ?_
     rintro e w4 ⟨rfl, o4, hl4⟩
     have b4 := (o4.block _ (lt_of_block Z.out.2.1) (fun f => f)).trans Z.out.2.1
     obtain ⟨⟨f0, f1, f2⟩, -, -, hfz4⟩ := wd_cells b4 i
     rw [HK.out] at f0 f1 f2
     have hz4 := hfz4 (k * 3)
     have Z4 := Lib.hid (And.intro o4 (And.intro hl4 b4))
     clear o4 hl4 b4 hfz4 f1 f2
     go_wp2_with fail
     go_meet
     case rel =>
      obtain ⟨k3, b3, hlfe, _, hlf⟩ := Z.out
      obtain ⟨o4, hl4, b4⟩ := Z4.out
      have g := G.out.1
      have ew : (W.step sx).1 = { W with e := upd W.e i (En.new lf) } := by
       obtain ⟨_, _, _, ek, hsw, _⟩ := G.out
       unfold Wd.step
       rw [hsw, ek, ← hlfe]
       rfl
      rw [ew]
      have kf : Keeps (fun b => b = wb) w4 (w4.setCell ⟨wb, k * 3, none⟩ (.pointer (some ⟨w3.heap.size, 0, none⟩))) := setAt (Keeps.refl _ _) (k * 3) _
      have bf := heap_setCell_same _ wb (k * 3) _ _ (.pointer (some ⟨w3.heap.size, 0, none⟩)) b4
      have hlt : ∀ q, R (!i) q ∨ ownB own q → q < w3.heap.size := fun q t => by
       have := k3.size
       rcases t with t | t
       ·have := (g.duo.lt (!i)).1 q t; omega
       ·have := (g.lt q t).1; omega
      have hL := hl4 (fun q => R (!i) q ∨ ownB own q) hlt
      refine ⟨⟨_, _, _, _, _, _, _, g.born i (nb := w3.heap.size) (e := En.new lf) ((k3.trans (o4.weaken (fun _ _ f => f.elim))).trans kf) ?_ (fun q r => ?_) (hL.to (kf.weaken (fun q _ e => .inr (by subst e; exact ⟨_, g.owb⟩))) (fun _ t => .inl t) (fun q t => ?_))⟩, trivial⟩
      ·rw [bf, ← HK.out]
       congr 2
       cases i <;> simp [wdCells, iv, upd]
      ·have := k3.size
       rcases r with r | r <;> omega
      ·have h1 := hlt q t
       have h2 := o4.size
       have h3 := kf.size
       omega
    have n6 : (wh == 6) = false := by simp [h6]
    have HW := Lib.hid (And.intro h0 (And.intro h1 (And.intro h2 (And.intro h34 (And.intro h5 h6)))))
    clear h0 h1 h2 h34 h5 h6
    go_wp2_with fail
    go_meet
    case rel =>
     have ew : (W.step sx).1 = W := by
      obtain ⟨_, _, _, ek, hsw, _⟩ := G.out
      obtain ⟨h0, h1, h2, h34, h5, h6⟩ := HW.out
      unfold Wd.step
      rw [hsw]
      dsimp only
      rw [if_neg h0, if_neg h1, if_neg h2, if_neg h34, if_neg h5, if_neg h6]
     rw [ew]
     exact ⟨⟨_, _, _, _, _, _, _, G.out.1⟩, trivial⟩
  case rest =>
   obtain ⟨⟨lb', R', own', mb', F', V', X', g'⟩, _⟩ := hcut
   obtain ⟨⟨c0', -, -⟩, -, -, -⟩ := wd_cells g'.blk i
   rw [HK.out] at c0'
   obtain ⟨j', hj', _⟩ := G.out.2.1.step sx
   have hw8 := WB.win hj' i
   obtain ⟨wn, hwn⟩ : ∃ n, ((W.step sx).1.e i).win.length = n := ⟨_, rfl⟩
   have FC := Lib.hid (lk_flying (g'.duo i))
   rw [hwn] at FC hw8
   have h8 : decide ((wn : Int) ≤ 8) = true := by simp; omega
   have h8' : decide (wn ≤ 8) = true := by simp; omega
   have Q := Lib.hid g'
   clear g' hj' hwn hw8 c0 c1 c2 y0 y1 y2 y3
   go_wp2_with fail
   refine FC.out.mono ?_
   rintro e wz ⟨rfl, rfl⟩
   go_wp2_with fail
   go_ret
   exact ⟨rfl, _, _, _, _, _, _, _, Q.out⟩
end Go.Proofs.Ytllnlimbfoingaa
