/- DERIVED. Chapter 20: the laws' step: Send. -/
import Derived.Test.YtllnlimbfoingaaZLinkEnds04
import Derived.Deep.CutBlock
/- AUX -/
namespace Go.Proofs.Ytllnlimbfoingaa
open Go.RowKit Go.Conc

set_option maxRecDepth 100000 in
set_option maxHeartbeats 4000000 in
theorem wstep_a {w0 w : World} {wb : Nat} {lb : Bool → Nat} {R : Bool → Nat → Prop} {own : Own} {mb : Bool → Bool → Nat} {F : SeRows} {V : Bool → Value} {X : Bool → List Pv} {W : Wd} {j : Bool} {n : Nat} (x : St4) (h : Wm w0 w wb lb R own mb F V X W) (hi : Inv W j) (hb : WB W n) (hn : n ≤ 1000)
  (hs : Sees w0 x.2.2.2.1 x.2.2.2.2) (hd : x.2.2.2.2.length ≤ 140737488355328) (hw : x.1 = 0) :
  Calls Try.prog 27 #[.pointer (some ⟨wb, 0, none⟩), .agg (stL x).toArray] w fun e w' => e = .returned (.bool true) ∧ Wx w0 w' wb (W.step (stP x)).1 := by
 obtain ⟨wh, en, wi, xv, xd⟩ := x
 simp only at hs hd hw
 have HW0 := Lib.hid hw
 clear hw
 obtain ⟨xp, xc, rfl, _, _⟩ := hs.len
 simp only [stL]
 obtain ⟨sx, hsx⟩ : ∃ s, stP (wh, en, wi, ((.slice xp xd.length xc, xd) : Bv)) = s := ⟨_, rfl⟩
 rw [hsx]
 have HSX := Lib.hid hsx
 clear hsx
 obtain ⟨w1, hw1⟩ : ∃ w1, w.alloc (.cells #[.int .i64 wh, .int .i64 en, .int .i64 wi, .slice xp xd.length xc] 62) = w1 := ⟨_, rfl⟩
 have o1 : Old w w1 := by rw [← hw1]; exact (Keeps.refl _ _).alloc _
 have b1 : w1.heap[w.heap.size]? = some (.cells #[.int .i64 wh, .int .i64 en, .int .i64 wi, .slice xp xd.length xc] 62 (0, 0)) := by rw [← hw1]; exact heap_alloc_new _ _
 have h1 := h.oldW o1
 obtain ⟨bx, hbx⟩ : ∃ b, w.heap.size = b := ⟨_, rfl⟩
 have HBX := Lib.hid hbx
 obtain ⟨i, hii⟩ : ∃ i, decide (en % 2 = 1) = i := ⟨_, rfl⟩
 obtain ⟨⟨c0, c1, c2⟩, -, -, -⟩ := wd_cells h1.blk i
 obtain ⟨ue, hue⟩ : ∃ z, IntKind.u64.wrap en = z := ⟨_, rfl⟩
 have e1 : ue.tmod 2 = (iv i : Int) := by
  rw [← hue, Int.tmod_eq_emod_of_nonneg (by rw [IntKind.wrap_u64]; omega), IntKind.wrap_u64, ← hii]
  by_cases h : en % 2 = 1
  ·rw [decide_eq_true h]; show _ = (1 : Int); omega
  ·rw [decide_eq_false h]; show _ = (0 : Int); omega
 have q1 : (0 : Int) ≤ (iv i : Int) := by omega
 have q2 : (iv i : Int) < 2 := by have := iv_lt i; omega
 obtain ⟨vp, vc, hvv, _, _⟩ := ((h1.ways i).sees (fun _ => rfl) (by decide)).len
 rw [hvv] at c1
 obtain ⟨k, hk⟩ : ∃ k, iv i = k := ⟨_, rfl⟩
 obtain ⟨ln, hln⟩ : ∃ l, (X i).length = l := ⟨_, rfl⟩
 have hll : ln ≤ 20000 := by have := hb.way i; rw [h1.way, List.length_map, hln] at this; omega
 have e2 : IntKind.i64.wrap (k : Int) = (k : Int) := by have := iv_lt i; rw [IntKind.wrap_i64]; omega
 have HLT := Lib.hid (And.intro (show ∀ q, R i q → q < w.heap.size from (h.duo.lt i).1) (show ∀ q, ownB own q → q < w.heap.size from fun q m => (h.lt q m).1))
 have H := Lib.hid (And.intro h1 (And.intro hi (And.intro hb (And.intro hn (And.intro hs (And.intro hd (And.intro b1 (And.intro hii (And.intro hvv (And.intro hln o1))))))))))
 rw [hbx] at b1
 obtain ⟨y0, y1, y2, y3⟩ := blk4 b1
 rw [hk] at c0 c1 c2 q1 q2 e1
 rw [hln] at c1
 have HK := Lib.hid hk
 clear h h1 hi hb hn hs hd o1 b1 hii hvv hln hk
 go_enter Try.func27, Try.ntmps27
 go_upto_region 4 with fail
 clear e1 hue hw1 hbx
 obtain ⟨aw', haw⟩ : ∃ a, (wi % 18446744073709551616).toNat = a := ⟨_, rfl⟩
 have HAW := Lib.hid haw
 clear haw
 go_upto_if 26 with fail
 go_cut [7] (fun v7 wc => ∃ at_ : Nat, v7 = .int .i64 (at_ : Int) ∧ (0 < ln → at_ = aw' % ln) ∧ Old w1 wc)
 case first =>
  by_cases h0 : ln = 0
  ·have g1 : decide (0 < ln) = false := by simp; omega
   have g2 : decide ((ln : Int) > 0) = false := by simp; omega
   go_wp2_with fail
   go_meet
   case rel => exact ⟨0, rfl, fun h => by omega, Keeps.refl _ _⟩
  ·have hpos : 0 < ln := by omega
   have g1 : decide (0 < ln) = true := by simp; omega
   have g2 : decide ((ln : Int) > 0) = true := by simp; omega
   have g3 : ((ln : Int) == 0) = false := by simp; omega
   have e3 : IntKind.u64.wrap (ln : Int) = (ln : Int) := by rw [IntKind.wrap_u64]; omega
   obtain ⟨at_, hat⟩ : ∃ a, aw' % ln = a := ⟨_, rfl⟩
   have hatl : at_ < ln := by rw [← hat]; exact Nat.mod_lt _ hpos
   have e4 : (IntKind.u64.wrap wi).tmod (ln : Int) = (at_ : Int) := by
    rw [Int.tmod_eq_emod_of_nonneg (by rw [IntKind.wrap_u64]; omega), IntKind.wrap_u64, ← hat, ← HAW.out, Int.natCast_emod, Int.toNat_of_nonneg (by omega)]
   have e5 : IntKind.i64.wrap (at_ : Int) = (at_ : Int) := by rw [IntKind.wrap_i64]; omega
   have HA := Lib.hid hat
   clear hat h0
   go_wp2_with fail
   go_quiet (fail)
   go_wp2_with fail
   go_meet
   case rel => exact ⟨at_, by first | rfl | (rw [e5]) | (unfold wrap64; congr 1; omega), fun _ => HA.out.symm, (Keeps.refl (fun _ => False) w1).drewN _⟩
 case rest =>
  obtain ⟨at_, rfl, hat, kc⟩ := hcut
  clear c0 c1 c2 y0 y1 y2 y3
  have g := H.out.1.oldW kc
  have hi := H.out.2.1
  have hb := H.out.2.2.1
  have ek : sx.i = i := by rw [← HSX.out]; exact H.out.2.2.2.2.2.2.2.1
  have hsw : sx.what = wh := by rw [← HSX.out]; rfl
  have hsb : sx.b = xd := by rw [← HSX.out]; rfl
  have hsa : sx.which = aw' := by rw [← HSX.out]; exact HAW.out
  have bx1 := (kc.block _ (by have := lt_of_block H.out.2.2.2.2.2.2.1; exact this) (fun f => f)).trans H.out.2.2.2.2.2.2.1
  obtain ⟨y0, y1, y2, y3⟩ := blk4 bx1
  obtain ⟨⟨c0, c1, c2⟩, -, -, hfz⟩ := wd_cells g.blk i
  rw [H.out.2.2.2.2.2.2.2.2.1] at c1
  rw [HK.out] at c0 c1 c2
  have hlnX := H.out.2.2.2.2.2.2.2.2.2.1
  rw [hlnX] at c1
  have hbx := HBX.out
  rw [hbx] at y0 y1 y2 y3 bx1
  have G := Lib.hid (And.intro g (And.intro hi (And.intro hb (And.intro ek (And.intro hsw (And.intro hsb (And.intro hsa (And.intro hat (And.intro bx1 (And.intro hfz hbx))))))))))
  have hEl : 1 ≤ (W.e i).life := (hi.1 i).born
  have HE := Lib.hid hEl
  clear g hi hb ek hsw hsb hsa hat kc bx1 hfz hlnX hbx hEl
  go_upto_block 0 with fail
  go_cut [] (fun wf => Wx w0 wf wb (W.step sx).1 ∧ True)
  case first =>
   by_cases h1 : wh = 1
   ·exact absurd (HW0.out.symm.trans h1) (by decide)
   ·have n1 : (wh == 1) = false := by simp [h1]
    by_cases h0 : wh = 0
    ·have hHb : (W.e i).waits.length ≤ 1000 := by have h1 := G.out.2.2.1.waits G.out.2.1 i; have := H.out.2.2.2.1; omega
     have HB := Lib.hid hHb
     clear hHb n1 h1 c0 c1 c2
     by_cases hp0 : (W.e i).peer = 0
     ·have ew : (W.step sx).1 = W := by
       obtain ⟨_, _, _, ek, hsw, _⟩ := G.out
       unfold Wd.step
       rw [hsw, ek, h0]
       dsimp only
       rw [if_pos rfl, if_pos hp0]
      have EW := Lib.hid (And.intro ew (And.intro hp0 h0))
      subst h0
      clear ew hp0
      go_upto_region 8 with fail
      clear y0 y1 y2 y3
      refine wp_region_g (S := fun w' => w'.heap[wb]? = some (.cells (wdCells lb V W.e mb).toArray 71 (0, 0)) ∧ w'.heap[bx]? = some (.cells #[.int .i64 0, .int .i64 en, .int .i64 wi, .slice xp xd.length xc] 62 (0, 0))) (M := List.range 8) (by as_aux_lemma => kernel_rfl) ?_
      obtain ⟨wd, hwd⟩ : ∃ wd, wc.drew = wd := ⟨_, rfl⟩
      have KD : Hid (Old wc wd) := Lib.hid (by rw [← hwd]; exact (Keeps.refl (fun _ => False) wc).drew)
      have hS : wd.heap[wb]? = some (.cells (wdCells lb V W.e mb).toArray 71 (0, 0)) ∧ wd.heap[bx]? = some (.cells #[.int .i64 0, .int .i64 en, .int .i64 wi, .slice xp xd.length xc] 62 (0, 0)) := by rw [← hwd]; exact ⟨G.out.1.blk, G.out.2.2.2.2.2.2.2.2.1⟩
      rw [hwd]
      clear hwd
      refine wpAnyG_takeL (i := 0) (oi := _) (v := ?vna0) rfl (by as_aux_lemma => kernel_rfl) (by as_aux_lemma => kernel_rfl) (by as_aux_lemma => kernel_rfl) (by as_aux_lemma => kernel_rfl) (fun _ _ _ h => h) (Or.inl ⟨by rfl, ?yna0⟩) hS ?rna0
      case yna0 => (intro W hSw; obtain ⟨⟨c0', c1', c2'⟩, -, -, -⟩ := wd_cells hSw.1 i; rw [HK.out] at c0' c1' c2'; obtain ⟨f0, f1, f2, f3⟩ := blk4 hSw.2; go_simp; try with_reducible rfl)
      try simp only [Act.put, List.setIfInBounds_toArray, List.set_cons_zero, List.set_cons_succ]
      refine wpAnyG_takeL (i := 1) (oi := _) (v := ?vna1) rfl (by as_aux_lemma => kernel_rfl) (by as_aux_lemma => kernel_rfl) (by as_aux_lemma => kernel_rfl) (by as_aux_lemma => kernel_rfl) (fun _ _ _ h => h) (Or.inl ⟨by rfl, ?yna1⟩) hS ?rna1
      case yna1 => (intro W hSw; obtain ⟨⟨c0', c1', c2'⟩, -, -, -⟩ := wd_cells hSw.1 i; rw [HK.out] at c0' c1' c2'; obtain ⟨f0, f1, f2, f3⟩ := blk4 hSw.2; go_simp; try with_reducible rfl)
      try simp only [Act.put, List.setIfInBounds_toArray, List.set_cons_zero, List.set_cons_succ]
      refine wpAnyG_takeL (i := 2) (oi := _) (v := ?vna2) rfl (by as_aux_lemma => kernel_rfl) (by as_aux_lemma => kernel_rfl) (by as_aux_lemma => kernel_rfl) (by as_aux_lemma => kernel_rfl) (fun _ _ _ h => h) (Or.inl ⟨by rfl, ?yna2⟩) hS ?rna2
      case yna2 => (intro W hSw; obtain ⟨⟨c0', c1', c2'⟩, -, -, -⟩ := wd_cells hSw.1 i; rw [HK.out] at c0' c1' c2'; obtain ⟨f0, f1, f2, f3⟩ := blk4 hSw.2; go_simp; try with_reducible rfl)
      try simp only [Act.put, List.setIfInBounds_toArray, List.set_cons_zero, List.set_cons_succ]
      refine wpAnyG_takeL (i := 3) (oi := _) (v := ?vna3) rfl (by as_aux_lemma => kernel_rfl) (by as_aux_lemma => kernel_rfl) (by as_aux_lemma => kernel_rfl) (by as_aux_lemma => kernel_rfl) (fun _ _ _ h => h) (Or.inl ⟨by rfl, ?yna3⟩) hS ?rna3
      case yna3 => (intro W hSw; obtain ⟨⟨c0', c1', c2'⟩, -, -, -⟩ := wd_cells hSw.1 i; rw [HK.out] at c0' c1' c2'; obtain ⟨f0, f1, f2, f3⟩ := blk4 hSw.2; go_simp; try with_reducible rfl)
      try simp only [Act.put, List.setIfInBounds_toArray, List.set_cons_zero, List.set_cons_succ]
      refine wpAnyG_takeL (i := 4) (oi := _) (v := ?vna4) rfl (by as_aux_lemma => kernel_rfl) (by as_aux_lemma => kernel_rfl) (by as_aux_lemma => kernel_rfl) (by as_aux_lemma => kernel_rfl) (fun _ _ _ h => h) (Or.inl ⟨by rfl, ?yna4⟩) hS ?rna4
      case yna4 => (intro W hSw; obtain ⟨⟨c0', c1', c2'⟩, -, -, -⟩ := wd_cells hSw.1 i; rw [HK.out] at c0' c1' c2'; obtain ⟨f0, f1, f2, f3⟩ := blk4 hSw.2; go_simp; try with_reducible rfl)
      try simp only [Act.put, List.setIfInBounds_toArray, List.set_cons_zero, List.set_cons_succ]
      refine wpAnyG_takeL (i := 5) (oi := _) (v := ?vna5) rfl (by as_aux_lemma => kernel_rfl) (by as_aux_lemma => kernel_rfl) (by as_aux_lemma => kernel_rfl) (by as_aux_lemma => kernel_rfl) (fun _ _ _ h => h) (Or.inl ⟨by rfl, ?yna5⟩) hS ?rna5
      case yna5 => (intro W hSw; obtain ⟨⟨c0', c1', c2'⟩, -, -, -⟩ := wd_cells hSw.1 i; rw [HK.out] at c0' c1' c2'; obtain ⟨f0, f1, f2, f3⟩ := blk4 hSw.2; go_simp; try with_reducible rfl)
      try simp only [Act.put, List.setIfInBounds_toArray, List.set_cons_zero, List.set_cons_succ]
      refine wpAnyG_onlyL (i := 6) (o := _) (by as_aux_lemma => kernel_rfl) rfl (fun K hK => ?_)
      go_simp
      refine (lk_send0 (.slice xp xd.length xc) ((G.out.1.duo.old KD.out) i) HE.out EW.out.2.1).mono ?_
      rintro e w4 ⟨rfl, rfl⟩
      go_wp2_with fail
      refine hK.out _ _ (fun _ => hS) ?_
      clear hK K
      try simp only [Act.put, List.setIfInBounds_toArray, List.set_cons_zero, List.set_cons_succ]
      refine wpAnyG_takeL (i := 7) (oi := _) (v := ?vnb7) rfl (by as_aux_lemma => kernel_rfl) (by as_aux_lemma => kernel_rfl) (by as_aux_lemma => kernel_rfl) (by as_aux_lemma => kernel_rfl) (fun _ _ _ h => h) (Or.inl ⟨by rfl, ?ynb7⟩) hS ?rnb7
      case ynb7 => (intro W hSw; skip; go_simp; try with_reducible rfl)
      try simp only [Act.put, List.setIfInBounds_toArray, List.set_cons_zero, List.set_cons_succ]
      refine wpAnyG_done (by as_aux_lemma => kernel_rfl) ?_ _
      clear hS
      go_wp2_with fail
      go_meet
      case rel =>
       rw [EW.out.1]
       exact ⟨⟨_, _, _, _, _, _, _, G.out.1.oldW KD.out⟩, trivial⟩
     ·have ew : (W.step sx).1 = { W with e := upd W.e i ((W.e i).send xd), sent := upd W.sent i (putKey (W.sent i) ((W.e i).life, (W.e i).peer) xd) } := by
       obtain ⟨_, _, _, ek, hsw, hsb, _⟩ := G.out
       unfold Wd.step
       rw [hsw, ek, h0, hsb]
       dsimp only
       rw [if_pos rfl, if_neg hp0]
      have EW := Lib.hid (And.intro ew (And.intro (show 1 ≤ (W.e i).peer by omega) h0))
      subst h0
      clear ew hp0
      go_upto_region 8 with fail
      clear y0 y1 y2 y3
      refine wp_region_g (S := fun w' => w'.heap[wb]? = some (.cells (wdCells lb V W.e mb).toArray 71 (0, 0)) ∧ w'.heap[bx]? = some (.cells #[.int .i64 0, .int .i64 en, .int .i64 wi, .slice xp xd.length xc] 62 (0, 0))) (M := List.range 8) (by as_aux_lemma => kernel_rfl) ?_
      obtain ⟨wd, hwd⟩ : ∃ wd, wc.drew = wd := ⟨_, rfl⟩
      have KD : Hid (Old wc wd) := Lib.hid (by rw [← hwd]; exact (Keeps.refl (fun _ => False) wc).drew)
      have hS : wd.heap[wb]? = some (.cells (wdCells lb V W.e mb).toArray 71 (0, 0)) ∧ wd.heap[bx]? = some (.cells #[.int .i64 0, .int .i64 en, .int .i64 wi, .slice xp xd.length xc] 62 (0, 0)) := by rw [← hwd]; exact ⟨G.out.1.blk, G.out.2.2.2.2.2.2.2.2.1⟩
      rw [hwd]
      clear hwd
      refine wpAnyG_takeL (i := 0) (oi := _) (v := ?vnc0) rfl (by as_aux_lemma => kernel_rfl) (by as_aux_lemma => kernel_rfl) (by as_aux_lemma => kernel_rfl) (by as_aux_lemma => kernel_rfl) (fun _ _ _ h => h) (Or.inl ⟨by rfl, ?ync0⟩) hS ?rnc0
      case ync0 => (intro W hSw; obtain ⟨⟨c0', c1', c2'⟩, -, -, -⟩ := wd_cells hSw.1 i; rw [HK.out] at c0' c1' c2'; obtain ⟨f0, f1, f2, f3⟩ := blk4 hSw.2; go_simp; try with_reducible rfl)
      try simp only [Act.put, List.setIfInBounds_toArray, List.set_cons_zero, List.set_cons_succ]
      refine wpAnyG_takeL (i := 1) (oi := _) (v := ?vnc1) rfl (by as_aux_lemma => kernel_rfl) (by as_aux_lemma => kernel_rfl) (by as_aux_lemma => kernel_rfl) (by as_aux_lemma => kernel_rfl) (fun _ _ _ h => h) (Or.inl ⟨by rfl, ?ync1⟩) hS ?rnc1
      case ync1 => (intro W hSw; obtain ⟨⟨c0', c1', c2'⟩, -, -, -⟩ := wd_cells hSw.1 i; rw [HK.out] at c0' c1' c2'; obtain ⟨f0, f1, f2, f3⟩ := blk4 hSw.2; go_simp; try with_reducible rfl)
      try simp only [Act.put, List.setIfInBounds_toArray, List.set_cons_zero, List.set_cons_succ]
      refine wpAnyG_takeL (i := 2) (oi := _) (v := ?vnc2) rfl (by as_aux_lemma => kernel_rfl) (by as_aux_lemma => kernel_rfl) (by as_aux_lemma => kernel_rfl) (by as_aux_lemma => kernel_rfl) (fun _ _ _ h => h) (Or.inl ⟨by rfl, ?ync2⟩) hS ?rnc2
      case ync2 => (intro W hSw; obtain ⟨⟨c0', c1', c2'⟩, -, -, -⟩ := wd_cells hSw.1 i; rw [HK.out] at c0' c1' c2'; obtain ⟨f0, f1, f2, f3⟩ := blk4 hSw.2; go_simp; try with_reducible rfl)
      try simp only [Act.put, List.setIfInBounds_toArray, List.set_cons_zero, List.set_cons_succ]
      refine wpAnyG_takeL (i := 3) (oi := _) (v := ?vnc3) rfl (by as_aux_lemma => kernel_rfl) (by as_aux_lemma => kernel_rfl) (by as_aux_lemma => kernel_rfl) (by as_aux_lemma => kernel_rfl) (fun _ _ _ h => h) (Or.inl ⟨by rfl, ?ync3⟩) hS ?rnc3
      case ync3 => (intro W hSw; obtain ⟨⟨c0', c1', c2'⟩, -, -, -⟩ := wd_cells hSw.1 i; rw [HK.out] at c0' c1' c2'; obtain ⟨f0, f1, f2, f3⟩ := blk4 hSw.2; go_simp; try with_reducible rfl)
      try simp only [Act.put, List.setIfInBounds_toArray, List.set_cons_zero, List.set_cons_succ]
      refine wpAnyG_takeL (i := 4) (oi := _) (v := ?vnc4) rfl (by as_aux_lemma => kernel_rfl) (by as_aux_lemma => kernel_rfl) (by as_aux_lemma => kernel_rfl) (by as_aux_lemma => kernel_rfl) (fun _ _ _ h => h) (Or.inl ⟨by rfl, ?ync4⟩) hS ?rnc4
      case ync4 => (intro W hSw; obtain ⟨⟨c0', c1', c2'⟩, -, -, -⟩ := wd_cells hSw.1 i; rw [HK.out] at c0' c1' c2'; obtain ⟨f0, f1, f2, f3⟩ := blk4 hSw.2; go_simp; try with_reducible rfl)
      try simp only [Act.put, List.setIfInBounds_toArray, List.set_cons_zero, List.set_cons_succ]
      refine wpAnyG_takeL (i := 5) (oi := _) (v := ?vnc5) rfl (by as_aux_lemma => kernel_rfl) (by as_aux_lemma => kernel_rfl) (by as_aux_lemma => kernel_rfl) (by as_aux_lemma => kernel_rfl) (fun _ _ _ h => h) (Or.inl ⟨by rfl, ?ync5⟩) hS ?rnc5
      case ync5 => (intro W hSw; obtain ⟨⟨c0', c1', c2'⟩, -, -, -⟩ := wd_cells hSw.1 i; rw [HK.out] at c0' c1' c2'; obtain ⟨f0, f1, f2, f3⟩ := blk4 hSw.2; go_simp; try with_reducible rfl)
      try simp only [Act.put, List.setIfInBounds_toArray, List.set_cons_zero, List.set_cons_succ]
      refine wpAnyG_onlyL (i := 6) (o := _) (by as_aux_lemma => kernel_rfl) rfl (fun K hK => ?_)
      go_simp
      have gd := G.out.1.oldW KD.out
      refine (duo_send i (.slice xp xd.length xc) xd gd.duo HE.out EW.out.2.1 HB.out (H.out.2.2.2.2.1.old gd.old) H.out.2.2.2.2.2.1).mono ?_
      rintro e w4 ⟨rfl, d4, k4⟩
      have g4 := gd.link i (R' := R i) (e := (W.e i).send xd) k4 (fun _ r => .inl r) rfl (by rw [upd_self]; exact d4)
      rw [upd_self] at g4
      have hS4 : w4.heap[wb]? = some (.cells (wdCells lb V W.e mb).toArray 71 (0, 0)) ∧ w4.heap[bx]? = some (.cells #[.int .i64 0, .int .i64 en, .int .i64 wi, .slice xp xd.length xc] 62 (0, 0)) :=
       ⟨(k4.block _ (lt_of_block hS.1) ((gd.lt wb ⟨_, gd.owb⟩).2 i)).trans hS.1, (k4.block _ (lt_of_block hS.2) (fun r => by have h1 := HLT.out.1 _ r; have h2 := HBX.out; omega)).trans hS.2⟩
      have sx4 : Sees w4 (.slice xp xd.length xc) xd := H.out.2.2.2.2.1.old g4.old
      obtain ⟨e', he'⟩ : ∃ e, (W.e i).send xd = e := ⟨_, rfl⟩
      obtain ⟨kl, hkl⟩ : ∃ k, e'.life = k := ⟨_, rfl⟩
      obtain ⟨kp, hkp⟩ : ∃ k, e'.peer = k := ⟨_, rfl⟩
      have hkl0 : (W.e i).life = kl := by rw [← hkl, ← he']; rfl
      have hkp0 : (W.e i).peer = kp := by rw [← hkp, ← he']; rfl
      rw [he'] at g4
      obtain ⟨w2, hw2⟩ : ∃ w2, w4 = w2 := ⟨_, rfl⟩
      have Y := Lib.hid (And.intro g4 (And.intro hS4 sx4))
      have E2 := Lib.hid (And.intro hkl (And.intro hkp (And.intro hkl0 (And.intro hkp0 he'))))
      subst hw2
      clear d4 k4 gd g4 sx4 he' hkl hkp hkl0 hkp0
      go_wp2_with fail
      refine hK.out _ _ (fun _ => hS4) ?_
      clear hK K
      try simp only [Act.put, List.setIfInBounds_toArray, List.set_cons_zero, List.set_cons_succ]
      refine wpAnyG_takeL (i := 7) (oi := _) (v := ?vnd7) rfl (by as_aux_lemma => kernel_rfl) (by as_aux_lemma => kernel_rfl) (by as_aux_lemma => kernel_rfl) (by as_aux_lemma => kernel_rfl) (fun _ _ _ h => h) (Or.inl ⟨by rfl, ?ynd7⟩) hS4 ?rnd7
      case ynd7 => (intro W hSw; skip; go_simp; try with_reducible rfl)
      try simp only [Act.put, List.setIfInBounds_toArray, List.set_cons_zero, List.set_cons_succ]
      refine wpAnyG_done (by as_aux_lemma => kernel_rfl) ?_ _
      clear hS hS4
      go_upto_region 9 with fail
      go_cut [8] (fun v8 wf => ∃ bs, v8 = .pointer (some ⟨bs, 0, none⟩) ∧ w4.heap.size ≤ bs ∧ wf.heap[bs]? = some (.cells #[.int .u64 (kl : Int), .int .u64 (kp : Int)] 74 (0, 0)) ∧ Old w4 wf)
      case first =>
       refine wp_region_g (S := fun w' => w'.heap[wb]? = some (.cells (wdCells lb V (upd W.e i e') mb).toArray 71 (0, 0))) (M := List.range 12) (by as_aux_lemma => kernel_rfl) ?_
       obtain ⟨wd, hwd⟩ : ∃ wd, w4.drew = wd := ⟨_, rfl⟩
       have KD2 : Hid (Old w4 wd) := Lib.hid (by rw [← hwd]; exact (Keeps.refl (fun _ => False) w4).drew)
       have hS : wd.heap[wb]? = some (.cells (wdCells lb V (upd W.e i e') mb).toArray 71 (0, 0)) := by rw [← hwd]; exact Y.out.1.blk
       rw [hwd]
       clear hwd
       refine wpAnyG_takeL (i := 0) (oi := _) (v := ?vv0) rfl (by as_aux_lemma => kernel_rfl) (by as_aux_lemma => kernel_rfl) (by as_aux_lemma => kernel_rfl) (by as_aux_lemma => kernel_rfl) (fun _ _ _ h => h) (Or.inl ⟨by rfl, ?yv0⟩) hS ?rv0
       case yv0 => (intro W hSw; obtain ⟨⟨c0', c1', c2'⟩, -, -, -⟩ := wd_cells hSw i; rw [HK.out] at c0' c1' c2'; rw [upd_same, E2.out.1] at c2'; go_simp; try with_reducible rfl)
       try simp only [Act.put, List.setIfInBounds_toArray, List.set_cons_zero, List.set_cons_succ]
       refine wpAnyG_takeL (i := 1) (oi := _) (v := ?vv1) rfl (by as_aux_lemma => kernel_rfl) (by as_aux_lemma => kernel_rfl) (by as_aux_lemma => kernel_rfl) (by as_aux_lemma => kernel_rfl) (fun _ _ _ h => h) (Or.inl ⟨by rfl, ?yv1⟩) hS ?rv1
       case yv1 => (intro W hSw; obtain ⟨⟨c0', c1', c2'⟩, -, -, -⟩ := wd_cells hSw i; rw [HK.out] at c0' c1' c2'; rw [upd_same, E2.out.1] at c2'; go_simp; try with_reducible rfl)
       try simp only [Act.put, List.setIfInBounds_toArray, List.set_cons_zero, List.set_cons_succ]
       refine wpAnyG_takeL (i := 2) (oi := _) (v := ?vv2) rfl (by as_aux_lemma => kernel_rfl) (by as_aux_lemma => kernel_rfl) (by as_aux_lemma => kernel_rfl) (by as_aux_lemma => kernel_rfl) (fun _ _ _ h => h) (Or.inl ⟨by rfl, ?yv2⟩) hS ?rv2
       case yv2 => (intro W hSw; obtain ⟨⟨c0', c1', c2'⟩, -, -, -⟩ := wd_cells hSw i; rw [HK.out] at c0' c1' c2'; rw [upd_same, E2.out.1] at c2'; go_simp; try with_reducible rfl)
       try simp only [Act.put, List.setIfInBounds_toArray, List.set_cons_zero, List.set_cons_succ]
       refine wpAnyG_takeL (i := 3) (oi := _) (v := ?vv3) rfl (by as_aux_lemma => kernel_rfl) (by as_aux_lemma => kernel_rfl) (by as_aux_lemma => kernel_rfl) (by as_aux_lemma => kernel_rfl) (fun _ _ _ h => h) (Or.inl ⟨by rfl, ?yv3⟩) hS ?rv3
       case yv3 => (intro W hSw; obtain ⟨⟨c0', c1', c2'⟩, -, -, -⟩ := wd_cells hSw i; rw [HK.out] at c0' c1' c2'; rw [upd_same, E2.out.1] at c2'; go_simp; try with_reducible rfl)
       try simp only [Act.put, List.setIfInBounds_toArray, List.set_cons_zero, List.set_cons_succ]
       refine wpAnyG_takeL (i := 4) (oi := _) (v := ?vv4) rfl (by as_aux_lemma => kernel_rfl) (by as_aux_lemma => kernel_rfl) (by as_aux_lemma => kernel_rfl) (by as_aux_lemma => kernel_rfl) (fun _ _ _ h => h) (Or.inl ⟨by rfl, ?yv4⟩) hS ?rv4
       case yv4 => (intro W hSw; obtain ⟨⟨c0', c1', c2'⟩, -, -, -⟩ := wd_cells hSw i; rw [HK.out] at c0' c1' c2'; rw [upd_same, E2.out.1] at c2'; go_simp; try with_reducible rfl)
       try simp only [Act.put, List.setIfInBounds_toArray, List.set_cons_zero, List.set_cons_succ]
       refine wpAnyG_takeL (i := 5) (oi := _) (v := ?vv5) rfl (by as_aux_lemma => kernel_rfl) (by as_aux_lemma => kernel_rfl) (by as_aux_lemma => kernel_rfl) (by as_aux_lemma => kernel_rfl) (fun _ _ _ h => h) (Or.inl ⟨by rfl, ?yv5⟩) hS ?rv5
       case yv5 => (intro W hSw; obtain ⟨⟨c0', c1', c2'⟩, -, -, -⟩ := wd_cells hSw i; rw [HK.out] at c0' c1' c2'; rw [upd_same, E2.out.1] at c2'; go_simp; try with_reducible rfl)
       try simp only [Act.put, List.setIfInBounds_toArray, List.set_cons_zero, List.set_cons_succ]
       refine wpAnyG_takeL (i := 6) (oi := _) (v := ?vv6) rfl (by as_aux_lemma => kernel_rfl) (by as_aux_lemma => kernel_rfl) (by as_aux_lemma => kernel_rfl) (by as_aux_lemma => kernel_rfl) (fun _ _ _ h => h) (Or.inl ⟨by rfl, ?yv6⟩) hS ?rv6
       case yv6 => (intro W hSw; obtain ⟨⟨c0', c1', c2'⟩, -, -, -⟩ := wd_cells hSw i; rw [HK.out] at c0' c1' c2'; rw [upd_same, E2.out.1] at c2'; go_simp; try with_reducible rfl)
       try simp only [Act.put, List.setIfInBounds_toArray, List.set_cons_zero, List.set_cons_succ]
       refine wpAnyG_takeL (i := 7) (oi := _) (v := ?vv7) rfl (by as_aux_lemma => kernel_rfl) (by as_aux_lemma => kernel_rfl) (by as_aux_lemma => kernel_rfl) (by as_aux_lemma => kernel_rfl) (fun _ _ _ h => h) (Or.inl ⟨by rfl, ?yv7⟩) hS ?rv7
       case yv7 => (intro W hSw; obtain ⟨⟨c0', c1', c2'⟩, -, -, -⟩ := wd_cells hSw i; rw [HK.out] at c0' c1' c2'; rw [upd_same, E2.out.1] at c2'; go_simp; try with_reducible rfl)
       try simp only [Act.put, List.setIfInBounds_toArray, List.set_cons_zero, List.set_cons_succ]
       have PC := Lib.hid (lk_peer ((Y.out.1.duo.old KD2.out) i))
       dsimp only at PC
       rw [upd_same, E2.out.2.1] at PC
       have hz2 : Hid (w4.heap.size ≤ wd.heap.size) := Lib.hid KD2.out.size
       obtain ⟨bs, hbs⟩ : ∃ bs, wd.heap.size = bs := ⟨_, rfl⟩
       obtain ⟨ws, hws⟩ : ∃ ws, wd.alloc (.cells #[.int .u64 0, .int .u64 0] 74) = ws := ⟨_, rfl⟩
       have ks : Old wd ws := by rw [← hws]; exact (Keeps.refl _ _).alloc _
       have bss : ws.heap[bs]? = some (.cells #[.int .u64 0, .int .u64 0] 74 (0, 0)) := by rw [← hws, ← hbs]; exact heap_alloc_new _ _
       have hSs : ws.heap[wb]? = some (.cells (wdCells lb V (upd W.e i e') mb).toArray 71 (0, 0)) := (ks.block _ (lt_of_block hS) (fun f => f)).trans hS
       have PC2 := Lib.hid (lk_peer (((Y.out.1.duo.old KD2.out).old ks) i))
       dsimp only at PC2
       rw [upd_same, E2.out.2.1] at PC2
       obtain ⟨⟨f0, f1⟩, ⟨g0, g1⟩⟩ := blk2 bss
       have FIN : Hid (∃ bs', Value.pointer (some ⟨bs, 0, none⟩) = .pointer (some ⟨bs', 0, none⟩) ∧ w4.heap.size ≤ bs' ∧ ((ws.setCell ⟨bs, 0, none⟩ (.int .u64 (kl : Int))).setCell ⟨bs, 1, none⟩ (.int .u64 (kp : Int))).heap[bs']? = some (.cells #[.int .u64 (kl : Int), .int .u64 (kp : Int)] 74 (0, 0)) ∧ Old w4 ((ws.setCell ⟨bs, 0, none⟩ (.int .u64 (kl : Int))).setCell ⟨bs, 1, none⟩ (.int .u64 (kp : Int)))) := Lib.hid (by
        refine ⟨bs, rfl, by rw [← hbs]; exact hz2.out, ?_, (KD2.out.trans ks).then (setAt (setAt (Keeps.refl (fun k => k = bs) ws) 0 _) 1 _) (fun j hj e => by have := hz2.out; omega)⟩
        have := heap_setCell_same _ bs 1 _ _ (.int .u64 (kp : Int)) (heap_setCell_same _ bs 0 _ _ (.int .u64 (kl : Int)) bss)
        simpa using this)
       have hSz : ((ws.setCell ⟨bs, 0, none⟩ (.int .u64 (kl : Int))).setCell ⟨bs, 1, none⟩ (.int .u64 (kp : Int))).heap[wb]? = some (.cells (wdCells lb V (upd W.e i e') mb).toArray 71 (0, 0)) := by
        have hlt := lt_of_block hS
        exact (Keeps.block (setAt (setAt (Keeps.refl (fun k => k = bs) ws) 0 _) 1 _) wb (lt_of_block hSs) (by omega)).trans hSs
       have HZ := Lib.hid hSz
       clear ks bss hSz
       refine wpAnyG_ready (rs := [8, 10]) (by as_aux_lemma => kernel_rfl) (by simp) ?_
       refine AllReadyG.cons (o := _) rfl (fun K hK => ?_) (AllReadyG.cons (o := _) rfl (fun K hK => ?_) AllReadyG.nil)
       ·skip
        go_simp
        refine PC.out.mono ?_
        rintro e wv ⟨rfl, rfl⟩
        go_wp2_with fail
        refine hK.out _ _ (fun _ => hS) ?_
        clear hK K
        try simp only [Act.put, List.setIfInBounds_toArray, List.set_cons_zero, List.set_cons_succ]
        refine wpAnyG_takeL (i := 9) (oi := _) (v := ?vta9) rfl (by as_aux_lemma => kernel_rfl) (by as_aux_lemma => kernel_rfl) (by as_aux_lemma => kernel_rfl) (by as_aux_lemma => kernel_rfl) (fun _ _ _ h => h) (Or.inl ⟨by rfl, ?yta9⟩) hS ?rta9
        case yta9 => (intro W hSw; go_simp; try with_reducible rfl)
        try simp only [Act.put, List.setIfInBounds_toArray, List.set_cons_zero, List.set_cons_succ]
        refine wpAnyG_onlyL (i := 10) (o := _) (by as_aux_lemma => kernel_rfl) rfl (fun K hK => ?_)
        go_simp
        refine hK.out _ _ (fun _ => hSs) ?_
        clear hK K
        try simp only [Act.put, List.setIfInBounds_toArray, List.set_cons_zero, List.set_cons_succ]
        refine wpAnyG_onlyL (i := 11) (o := _) (by as_aux_lemma => kernel_rfl) rfl (fun K hK => ?_)
        go_simp
        refine hK.out _ _ (fun _ => HZ.out) ?_
        clear hK K
        try simp only [Act.put, List.setIfInBounds_toArray, List.set_cons_zero, List.set_cons_succ]
        refine wpAnyG_done (by as_aux_lemma => kernel_rfl) ?_ _
        clear hS hSs
        go_wp2_with fail
        go_meet
        case rel => exact FIN.out
       ·skip
        go_simp
        refine hK.out _ _ (fun _ => hSs) ?_
        clear hK K
        try simp only [Act.put, List.setIfInBounds_toArray, List.set_cons_zero, List.set_cons_succ]
        refine wpAnyG_onlyL (i := 8) (o := _) (by as_aux_lemma => kernel_rfl) rfl (fun K hK => ?_)
        go_simp
        refine PC2.out.mono ?_
        rintro e wv ⟨rfl, rfl⟩
        go_wp2_with fail
        refine hK.out _ _ (fun _ => hSs) ?_
        clear hK K
        try simp only [Act.put, List.setIfInBounds_toArray, List.set_cons_zero, List.set_cons_succ]
        refine wpAnyG_takeL (i := 9) (oi := _) (v := ?vtb9) rfl (by as_aux_lemma => kernel_rfl) (by as_aux_lemma => kernel_rfl) (by as_aux_lemma => kernel_rfl) (by as_aux_lemma => kernel_rfl) (fun _ _ _ h => h) (Or.inl ⟨by rfl, ?ytb9⟩) hSs ?rtb9
        case ytb9 => (intro W hSw; go_simp; try with_reducible rfl)
        try simp only [Act.put, List.setIfInBounds_toArray, List.set_cons_zero, List.set_cons_succ]
        refine wpAnyG_onlyL (i := 11) (o := _) (by as_aux_lemma => kernel_rfl) rfl (fun K hK => ?_)
        go_simp
        refine hK.out _ _ (fun _ => HZ.out) ?_
        clear hK K
        try simp only [Act.put, List.setIfInBounds_toArray, List.set_cons_zero, List.set_cons_succ]
        refine wpAnyG_done (by as_aux_lemma => kernel_rfl) ?_ _
        clear hS hSs
        go_wp2_with fail
        go_meet
        case rel => exact FIN.out
      case rest =>
       obtain ⟨bs, rfl, hbs, bss, kc⟩ := hcut
       have g3 := Y.out.1.oldW kc
       obtain ⟨mt, hmt⟩ : ∃ mt, mb false i = mt := ⟨_, rfl⟩
       obtain ⟨rp, rc, hrv, _, _⟩ := ((g3.rows false i (kl, kp)).sees (fun _ => rfl) (by decide)).len
       obtain ⟨rl, hrl⟩ : ∃ n, (F false i (kl, kp)).2.length = n := ⟨_, rfl⟩
       rw [hrl] at hrv
       have hrl2 : rl ≤ 100000 := by rw [← hrl]; have h1 := G.out.2.2.1.sent i (kl, kp); rw [G.out.1.sent, List.length_map] at h1; have := H.out.2.2.2.1; omega
       have hwne : wb ≠ mt := fun e => by have h1 := g3.owb; have h2 := g3.omap false i; rw [hmt, ← e, h1] at h2; cases h2
       have hbne : bs ≠ mt := fun e => by have h2 := ((Y.out.1.maps false i).lt); rw [hmt] at h2; omega
       have hxne : bx ≠ mt := fun e => by have h2 := HLT.out.2 mt ⟨_, by rw [← hmt]; exact g3.omap false i⟩; have := HBX.out; omega
       have hrow : ∀ b, (F false i (kl, kp)).1.ownBlock = some b → b ≠ wb ∧ b ≠ bs ∧ b ≠ mt ∧ b ≠ bx := fun b hb => by
        have h0 := g3.orow false i (kl, kp) b hb
        have h3 := ((Y.out.1.rows false i (kl, kp)).block b hb).2
        refine ⟨fun e => ?_, fun e => by omega, fun e => ?_, fun e => ?_⟩
        ·have h1 := g3.owb; rw [← e, h0] at h1; cases h1
        ·have h2 := g3.omap false i; rw [hmt, ← e, h0] at h2; cases h2
        ·have h2 := HLT.out.2 b ⟨_, h0⟩; have := HBX.out; omega
       have hbx3 := (kc.block bx (lt_of_block Y.out.2.1.2) (fun f => f)).trans Y.out.2.1.2
       have sx3 := Y.out.2.2.old kc
       have Z := Lib.hid (And.intro g3 (And.intro hbx3 (And.intro bss (And.intro hbs (And.intro kc (And.intro hrv (And.intro hrl (And.intro hwne (And.intro hbne (And.intro hrow (And.intro hxne sx3)))))))))))
       clear g3 hbx3 bss hbs kc hrv hrl hwne hbne hrow hxne sx3
       go_upto_region 10 with fail
       refine wp_region_g (S := fun w' => w'.heap[wb]? = some (.cells (wdCells lb V (upd W.e i e') mb).toArray 71 (0, 0)) ∧ w'.heap[bs]? = some (.cells #[.int .u64 (kl : Int), .int .u64 (kp : Int)] 74 (0, 0)) ∧ w'.heap[bx]? = some (.cells #[.int .i64 0, .int .i64 en, .int .i64 wi, .slice xp xd.length xc] 62 (0, 0))) (M := List.range 17) (by as_aux_lemma => kernel_rfl) ?_
       obtain ⟨wd, hwd⟩ : ∃ wd, wc.drew = wd := ⟨_, rfl⟩
       have KD3 : Hid (Old wc wd) := Lib.hid (by rw [← hwd]; exact (Keeps.refl (fun _ => False) wc).drew)
       have hS : wd.heap[wb]? = some (.cells (wdCells lb V (upd W.e i e') mb).toArray 71 (0, 0)) ∧ wd.heap[bs]? = some (.cells #[.int .u64 (kl : Int), .int .u64 (kp : Int)] 74 (0, 0)) ∧ wd.heap[bx]? = some (.cells #[.int .i64 0, .int .i64 en, .int .i64 wi, .slice xp xd.length xc] 62 (0, 0)) := by rw [← hwd]; exact ⟨Z.out.1.blk, Z.out.2.2.1, Z.out.2.1⟩
       rw [hwd]
       clear hwd
       refine wpAnyG_takeL (i := 0) (oi := _) (v := ?vy0) rfl (by as_aux_lemma => kernel_rfl) (by as_aux_lemma => kernel_rfl) (by as_aux_lemma => kernel_rfl) (by as_aux_lemma => kernel_rfl) (fun _ _ _ h => h) (Or.inl ⟨by rfl, ?yy0⟩) hS ?ry0
       case yy0 => (intro W hSw; obtain ⟨-, d1, -, -⟩ := wd_cells hSw.1 i; rw [HK.out, hmt] at d1; obtain ⟨⟨f0, f1⟩, -⟩ := blk2 hSw.2.1; obtain ⟨q0, q1, q2, q3⟩ := blk4 hSw.2.2; go_simp; try with_reducible rfl)
       try simp only [Act.put, List.setIfInBounds_toArray, List.set_cons_zero, List.set_cons_succ]
       refine wpAnyG_takeL (i := 1) (oi := _) (v := ?vy1) rfl (by as_aux_lemma => kernel_rfl) (by as_aux_lemma => kernel_rfl) (by as_aux_lemma => kernel_rfl) (by as_aux_lemma => kernel_rfl) (fun _ _ _ h => h) (Or.inl ⟨by rfl, ?yy1⟩) hS ?ry1
       case yy1 => (intro W hSw; obtain ⟨-, d1, -, -⟩ := wd_cells hSw.1 i; rw [HK.out, hmt] at d1; obtain ⟨⟨f0, f1⟩, -⟩ := blk2 hSw.2.1; obtain ⟨q0, q1, q2, q3⟩ := blk4 hSw.2.2; go_simp; try with_reducible rfl)
       try simp only [Act.put, List.setIfInBounds_toArray, List.set_cons_zero, List.set_cons_succ]
       refine wpAnyG_takeL (i := 2) (oi := _) (v := ?vy2) rfl (by as_aux_lemma => kernel_rfl) (by as_aux_lemma => kernel_rfl) (by as_aux_lemma => kernel_rfl) (by as_aux_lemma => kernel_rfl) (fun _ _ _ h => h) (Or.inl ⟨by rfl, ?yy2⟩) hS ?ry2
       case yy2 => (intro W hSw; obtain ⟨-, d1, -, -⟩ := wd_cells hSw.1 i; rw [HK.out, hmt] at d1; obtain ⟨⟨f0, f1⟩, -⟩ := blk2 hSw.2.1; obtain ⟨q0, q1, q2, q3⟩ := blk4 hSw.2.2; go_simp; try with_reducible rfl)
       try simp only [Act.put, List.setIfInBounds_toArray, List.set_cons_zero, List.set_cons_succ]
       refine wpAnyG_takeL (i := 3) (oi := _) (v := ?vy3) rfl (by as_aux_lemma => kernel_rfl) (by as_aux_lemma => kernel_rfl) (by as_aux_lemma => kernel_rfl) (by as_aux_lemma => kernel_rfl) (fun _ _ _ h => h) (Or.inl ⟨by rfl, ?yy3⟩) hS ?ry3
       case yy3 => (intro W hSw; obtain ⟨-, d1, -, -⟩ := wd_cells hSw.1 i; rw [HK.out, hmt] at d1; obtain ⟨⟨f0, f1⟩, -⟩ := blk2 hSw.2.1; obtain ⟨q0, q1, q2, q3⟩ := blk4 hSw.2.2; go_simp; try with_reducible rfl)
       try simp only [Act.put, List.setIfInBounds_toArray, List.set_cons_zero, List.set_cons_succ]
       refine wpAnyG_takeL (i := 4) (oi := _) (v := ?vy4) rfl (by as_aux_lemma => kernel_rfl) (by as_aux_lemma => kernel_rfl) (by as_aux_lemma => kernel_rfl) (by as_aux_lemma => kernel_rfl) (fun _ _ _ h => h) (Or.inl ⟨by rfl, ?yy4⟩) hS ?ry4
       case yy4 => (intro W hSw; obtain ⟨-, d1, -, -⟩ := wd_cells hSw.1 i; rw [HK.out, hmt] at d1; obtain ⟨⟨f0, f1⟩, -⟩ := blk2 hSw.2.1; obtain ⟨q0, q1, q2, q3⟩ := blk4 hSw.2.2; go_simp; try with_reducible rfl)
       try simp only [Act.put, List.setIfInBounds_toArray, List.set_cons_zero, List.set_cons_succ]
       refine wpAnyG_takeL (i := 5) (oi := _) (v := ?vy5) rfl (by as_aux_lemma => kernel_rfl) (by as_aux_lemma => kernel_rfl) (by as_aux_lemma => kernel_rfl) (by as_aux_lemma => kernel_rfl) (fun _ _ _ h => h) (Or.inl ⟨by rfl, ?yy5⟩) hS ?ry5
       case yy5 => (intro W hSw; obtain ⟨-, d1, -, -⟩ := wd_cells hSw.1 i; rw [HK.out, hmt] at d1; obtain ⟨⟨f0, f1⟩, -⟩ := blk2 hSw.2.1; obtain ⟨q0, q1, q2, q3⟩ := blk4 hSw.2.2; go_simp; try with_reducible rfl)
       try simp only [Act.put, List.setIfInBounds_toArray, List.set_cons_zero, List.set_cons_succ]
       refine wpAnyG_takeL (i := 6) (oi := _) (v := ?vy6) rfl (by as_aux_lemma => kernel_rfl) (by as_aux_lemma => kernel_rfl) (by as_aux_lemma => kernel_rfl) (by as_aux_lemma => kernel_rfl) (fun _ _ _ h => h) (Or.inl ⟨by rfl, ?yy6⟩) hS ?ry6
       case yy6 => (intro W hSw; obtain ⟨-, d1, -, -⟩ := wd_cells hSw.1 i; rw [HK.out, hmt] at d1; obtain ⟨⟨f0, f1⟩, -⟩ := blk2 hSw.2.1; obtain ⟨q0, q1, q2, q3⟩ := blk4 hSw.2.2; go_simp; try with_reducible rfl)
       try simp only [Act.put, List.setIfInBounds_toArray, List.set_cons_zero, List.set_cons_succ]
       refine wpAnyG_takeL (i := 8) (oi := _) (v := ?vy8) rfl (by as_aux_lemma => kernel_rfl) (by as_aux_lemma => kernel_rfl) (by as_aux_lemma => kernel_rfl) (by as_aux_lemma => kernel_rfl) (fun _ _ _ h => h) (Or.inl ⟨by rfl, ?yy8⟩) hS ?ry8
       case yy8 => (intro W hSw; obtain ⟨-, d1, -, -⟩ := wd_cells hSw.1 i; rw [HK.out, hmt] at d1; obtain ⟨⟨f0, f1⟩, -⟩ := blk2 hSw.2.1; obtain ⟨q0, q1, q2, q3⟩ := blk4 hSw.2.2; go_simp; try with_reducible rfl)
       try simp only [Act.put, List.setIfInBounds_toArray, List.set_cons_zero, List.set_cons_succ]
       refine wpAnyG_takeL (i := 9) (oi := _) (v := ?vy9) rfl (by as_aux_lemma => kernel_rfl) (by as_aux_lemma => kernel_rfl) (by as_aux_lemma => kernel_rfl) (by as_aux_lemma => kernel_rfl) (fun _ _ _ h => h) (Or.inl ⟨by rfl, ?yy9⟩) hS ?ry9
       case yy9 => (intro W hSw; obtain ⟨-, d1, -, -⟩ := wd_cells hSw.1 i; rw [HK.out, hmt] at d1; obtain ⟨⟨f0, f1⟩, -⟩ := blk2 hSw.2.1; obtain ⟨q0, q1, q2, q3⟩ := blk4 hSw.2.2; go_simp; try with_reducible rfl)
       try simp only [Act.put, List.setIfInBounds_toArray, List.set_cons_zero, List.set_cons_succ]
       obtain ⟨we, hwe⟩ : ∃ we, wd.alloc (.cells #[] 5) = we := ⟨_, rfl⟩
       have ke : Old wd we := by rw [← hwe]; exact (Keeps.refl _ _).alloc _
       have oe : Owns we wd.heap.size (.slice (some ⟨wd.heap.size, 0, none⟩) 0 0) [] := by rw [← hwe]; exact Owns.lit wd wd.heap.size [] (Nat.le_refl _) (Nat.zero_le _)
       have hSe : we.heap[wb]? = some (.cells (wdCells lb V (upd W.e i e') mb).toArray 71 (0, 0)) ∧ we.heap[bs]? = some (.cells #[.int .u64 (kl : Int), .int .u64 (kp : Int)] 74 (0, 0)) ∧ we.heap[bx]? = some (.cells #[.int .i64 0, .int .i64 en, .int .i64 wi, .slice xp xd.length xc] 62 (0, 0)) := ⟨(ke.block _ (lt_of_block hS.1) (fun f => f)).trans hS.1, (ke.block _ (lt_of_block hS.2.1) (fun f => f)).trans hS.2.1, (ke.block _ (lt_of_block hS.2.2) (fun f => f)).trans hS.2.2⟩
       have HE1 := Lib.hid (And.intro ke oe)
       clear ke oe
       refine wpAnyG_onlyL (i := 7) (o := _) (by as_aux_lemma => kernel_rfl) rfl (fun K hK => ?_)
       go_simp
       clear hwe
       refine hK.out _ _ (fun _ => hSe) ?_
       clear hK K
       try simp only [Act.put, List.setIfInBounds_toArray, List.set_cons_zero, List.set_cons_succ]
       have SXE := Lib.hid ((Z.out.2.2.2.2.2.2.2.2.2.2.2.old KD3.out).old HE1.out.1)
       have HDL := Lib.hid (And.intro (show ([] : List UInt8).length + xd.length ≤ 140737488355328 by have := H.out.2.2.2.2.2.1; simp; omega) HE1.out.1.size)
       refine wpAnyG_onlyL (i := 10) (o := _) (by as_aux_lemma => kernel_rfl) rfl (fun K hK => ?_)
       refine step_append_big rfl _ _ rfl wd.heap.size _ [] (by rfl) HE1.out.2 _ xd (by rfl) SXE.out HDL.out.1 HDL.out.2 ?_
       intro vq wq hoq hgq
       rw [List.nil_append] at hoq
       have kq : Old wd wq := HE1.out.1.then (T := fun b => (Value.slice (some ⟨wd.heap.size, 0, none⟩) 0 0).ownBlock = some b) ((Keeps.refl _ _).grown hgq (fun b hb _ => hb)) (fun b hb e => by have := (HE1.out.2.block b e).1; omega)
       have hSq : wq.heap[wb]? = some (.cells (wdCells lb V (upd W.e i e') mb).toArray 71 (0, 0)) ∧ wq.heap[bs]? = some (.cells #[.int .u64 (kl : Int), .int .u64 (kp : Int)] 74 (0, 0)) ∧ wq.heap[bx]? = some (.cells #[.int .i64 0, .int .i64 en, .int .i64 wi, .slice xp xd.length xc] 62 (0, 0)) := ⟨(kq.block _ (lt_of_block hS.1) (fun f => f)).trans hS.1, (kq.block _ (lt_of_block hS.2.1) (fun f => f)).trans hS.2.1, (kq.block _ (lt_of_block hS.2.2) (fun f => f)).trans hS.2.2⟩
       obtain ⟨tq, tc, eq, _, _⟩ := hoq.sees.len
       subst eq
       have HQ := Lib.hid (And.intro kq hoq)
       clear kq hoq hgq
       refine hK.out _ _ (fun _ => hSq) ?_
       clear hK K
       try simp only [Act.put, List.setIfInBounds_toArray, List.set_cons_zero, List.set_cons_succ]
       obtain ⟨ws, hws⟩ : ∃ ws, wq.alloc (.cells #[.slice tq xd.length tc] 32) = ws := ⟨_, rfl⟩
       have ks : Old wq ws := by rw [← hws]; exact (Keeps.refl _ _).alloc _
       have sn : SeesR ws 1 bvL (.slice (some ⟨wq.heap.size, 0, none⟩) 1 1) [((.slice tq xd.length tc, xd) : Bv)] := by
        rw [← hws]
        exact SeesR.new (k := 1) (enc := bvL) wq _ (0, 0) [((.slice tq xd.length tc, xd) : Bv)] _ rfl (fun _ => rfl) (by unfold maxLen; simp)
       have hSs : ws.heap[wb]? = some (.cells (wdCells lb V (upd W.e i e') mb).toArray 71 (0, 0)) ∧ ws.heap[bs]? = some (.cells #[.int .u64 (kl : Int), .int .u64 (kp : Int)] 74 (0, 0)) ∧ ws.heap[bx]? = some (.cells #[.int .i64 0, .int .i64 en, .int .i64 wi, .slice xp xd.length xc] 62 (0, 0)) := ⟨(ks.block _ (lt_of_block hSq.1) (fun f => f)).trans hSq.1, (ks.block _ (lt_of_block hSq.2.1) (fun f => f)).trans hSq.2.1, (ks.block _ (lt_of_block hSq.2.2) (fun f => f)).trans hSq.2.2⟩
       have kcs : Old wc ws := (KD3.out.trans HQ.out.1).trans ks
       have hwdlt : wq.heap.size < ws.heap.size := by rw [← hws]; simp
       refine wpAnyG_onlyL (i := 11) (o := _) (by as_aux_lemma => kernel_rfl) rfl (fun K hK => ?_)
       go_simp
       clear hws
       refine hK.out _ _ (fun _ => hSs) ?_
       clear hK K
       try simp only [Act.put, List.setIfInBounds_toArray, List.set_cons_zero, List.set_cons_succ]
       obtain ⟨st, wm, hme, hst, km⟩ := mapEntry_ses (((Z.out.1.maps false i).keeps kcs (fun f => f))) (kl, kp)
       rw [hmt] at hme hst km
       rw [Z.out.2.2.2.2.2.1] at hme
       have hme : (Instr.mapEntry 68 (.map (some mt)) (.agg #[.int .u64 (kl : Int), .int .u64 (kp : Int)])).run Try.prog ws = .ok (.tuple #[.slice rp rl rc, .int .i64 (st : Int)]) wm := hme
       have hSm : wm.heap[wb]? = some (.cells (wdCells lb V (upd W.e i e') mb).toArray 71 (0, 0)) ∧ wm.heap[bs]? = some (.cells #[.int .u64 (kl : Int), .int .u64 (kp : Int)] 74 (0, 0)) ∧ wm.heap[bx]? = some (.cells #[.int .i64 0, .int .i64 en, .int .i64 wi, .slice xp xd.length xc] 62 (0, 0)) := ⟨(km.block _ (lt_of_block hSs.1) Z.out.2.2.2.2.2.2.2.1).trans hSs.1, (km.block _ (lt_of_block hSs.2.1) Z.out.2.2.2.2.2.2.2.2.1).trans hSs.2.1, (km.block _ (lt_of_block hSs.2.2) Z.out.2.2.2.2.2.2.2.2.2.2.1).trans hSs.2.2⟩
       have hmlt : mt < wc.heap.size := by rw [← hmt]; exact (Z.out.1.maps false i).lt
       have hwq1 : wc.heap.size ≤ wq.heap.size := Nat.le_trans KD3.out.size HQ.out.1.size
       have snm : SeesR wm 1 bvL (.slice (some ⟨wq.heap.size, 0, none⟩) 1 1) [((.slice tq xd.length tc, xd) : Bv)] := sn.keeps km (fun b hb e => by
        have h1 : wq.heap.size = b := by simpa [Value.ownBlock] using hb
        omega)
       have orow : OwnsR wm w0.heap.size 32 1 bvL (.slice rp rl rc) (F false i (kl, kp)).2 := by
        have h1 := ((Z.out.1.rows false i (kl, kp)).old kcs).keeps km (fun b hb => (Z.out.2.2.2.2.2.2.2.2.2.1 b hb).2.2.1)
        rw [Z.out.2.2.2.2.2.1] at h1
        exact h1
       have sqm : Sees wm (.slice tq xd.length tc) xd := (HQ.out.2.sees.old ks).keeps km (fun b hb e => by have h1 := (HQ.out.2.block b hb).1; have h2 := KD3.out.size; omega)
       have M1 := Lib.hid (And.intro kcs (And.intro hst (And.intro km (And.intro snm (And.intro orow (And.intro hwdlt (And.intro sqm hwq1)))))))
       clear sn ks kcs hst km snm orow hwdlt sqm hwq1 hSq hSe
       refine wpAnyG_onlyL (i := 12) (o := _) (by as_aux_lemma => kernel_rfl) rfl (fun K hK => ?_)
       go_simp
       refine hK.out _ _ (fun _ => hSm) ?_
       clear hK K
       try simp only [Act.put, List.setIfInBounds_toArray, List.set_cons_zero, List.set_cons_succ]
       clear hme
       refine wpAnyG_takeL (i := 13) (oi := _) (v := ?vya13) rfl (by as_aux_lemma => kernel_rfl) (by as_aux_lemma => kernel_rfl) (by as_aux_lemma => kernel_rfl) (by as_aux_lemma => kernel_rfl) (fun _ _ _ h => h) (Or.inl ⟨by rfl, ?yya13⟩) hSm ?rya13
       case yya13 => (intro W hSw; skip; go_simp; try with_reducible rfl)
       try simp only [Act.put, List.setIfInBounds_toArray, List.set_cons_zero, List.set_cons_succ]
       refine wpAnyG_takeL (i := 15) (oi := _) (v := ?vyb15) rfl (by as_aux_lemma => kernel_rfl) (by as_aux_lemma => kernel_rfl) (by as_aux_lemma => kernel_rfl) (by as_aux_lemma => kernel_rfl) (fun _ _ _ h => h) (Or.inl ⟨by rfl, ?yyb15⟩) hSm ?ryb15
       case yyb15 => (intro W hSw; skip; go_simp; try with_reducible rfl)
       try simp only [Act.put, List.setIfInBounds_toArray, List.set_cons_zero, List.set_cons_succ]
       have HNN := Lib.hid (And.intro (show (F false i (kl, kp)).2.length + [((.slice tq xd.length tc, xd) : Bv)].length ≤ maxLen by rw [Z.out.2.2.2.2.2.2.1]; unfold maxLen; simp; omega) (And.intro (show ((F false i (kl, kp)).2.length + [((.slice tq xd.length tc, xd) : Bv)].length) * 24 ≤ 140737488355328 by rw [Z.out.2.2.2.2.2.2.1]; simp; omega)
        (Nat.le_trans Z.out.1.old.size (Nat.le_trans M1.out.1.size M1.out.2.2.1.size))))
       refine wpAnyG_onlyL (i := 14) (o := _) (by as_aux_lemma => kernel_rfl) rfl (fun K hK => ?_)
       refine step_append_rows (P := Try.prog) rfl _ _ 53 rfl w0.heap.size 32 1 24 bvL _ Try.underlying53 Try.infoSl rfl (by decide) _ (F false i (kl, kp)).2 (by rfl) M1.out.2.2.2.2.1 _ [((.slice tq xd.length tc, xd) : Bv)] (by rfl) M1.out.2.2.2.1 (fun _ _ => rfl) (by simp [bvL, Value.oneCell']) HNN.out.1 HNN.out.2.1 HNN.out.2.2 ?_
       intro v8 w8 ho8 hg8 hv8
       have hrb : ∀ b, (Value.slice rp rl rc).ownBlock = some b → b ≠ wb ∧ b ≠ bs ∧ b ≠ mt ∧ b ≠ bx := by rw [← Z.out.2.2.2.2.2.1]; exact Z.out.2.2.2.2.2.2.2.2.2.1
       have k8 : Keeps (fun b => (Value.slice rp rl rc).ownBlock = some b) wm w8 := (Keeps.refl _ _).grown hg8 (fun b hb _ => hb)
       have hS8 : w8.heap[wb]? = some (.cells (wdCells lb V (upd W.e i e') mb).toArray 71 (0, 0)) ∧ w8.heap[bs]? = some (.cells #[.int .u64 (kl : Int), .int .u64 (kp : Int)] 74 (0, 0)) ∧ w8.heap[bx]? = some (.cells #[.int .i64 0, .int .i64 en, .int .i64 wi, .slice xp xd.length xc] 62 (0, 0)) := ⟨(k8.block _ (lt_of_block hSm.1) (fun e => (hrb _ e).1 rfl)).trans hSm.1, (k8.block _ (lt_of_block hSm.2.1) (fun e => (hrb _ e).2.1 rfl)).trans hSm.2.1, (k8.block _ (lt_of_block hSm.2.2) (fun e => (hrb _ e).2.2.2 rfl)).trans hSm.2.2⟩
       have hst8 := M1.out.2.1.keeps k8 (fun e => (hrb _ e).2.2.1 rfl)
       obtain ⟨wf, hes, hsf, kf⟩ := entryStore_ses hst8 68 (v8, (F false i (kl, kp)).2 ++ [((.slice tq xd.length tc, xd) : Bv)])
       obtain ⟨p8, c8, e8, _, _⟩ := (ho8.sees (fun _ => rfl) (by decide)).len
       obtain ⟨r8, hr8⟩ : ∃ n, ((F false i (kl, kp)).2 ++ [((.slice tq xd.length tc, xd) : Bv)]).length = n := ⟨_, rfl⟩
       rw [hr8] at e8
       subst e8
       have hes : (Instr.entryStore 68 (.map (some mt)) (.int .i64 (st : Int)) (.slice p8 r8 c8)).run Try.prog w8 = .ok () wf := hes
       have hS9 : wf.heap[wb]? = some (.cells (wdCells lb V (upd W.e i e') mb).toArray 71 (0, 0)) ∧ wf.heap[bs]? = some (.cells #[.int .u64 (kl : Int), .int .u64 (kp : Int)] 74 (0, 0)) ∧ wf.heap[bx]? = some (.cells #[.int .i64 0, .int .i64 en, .int .i64 wi, .slice xp xd.length xc] 62 (0, 0)) := ⟨(kf.block _ (lt_of_block hS8.1) Z.out.2.2.2.2.2.2.2.1).trans hS8.1, (kf.block _ (lt_of_block hS8.2.1) Z.out.2.2.2.2.2.2.2.2.1).trans hS8.2.1, (kf.block _ (lt_of_block hS8.2.2) Z.out.2.2.2.2.2.2.2.2.2.2.1).trans hS8.2.2⟩
       have M2 := Lib.hid (And.intro ho8 (And.intro k8 (And.intro hv8 (And.intro hsf (And.intro kf hr8)))))
       clear ho8 hg8 hv8 k8 hst8 hsf kf hr8 hrb
       refine hK.out _ _ (fun _ => hS8) ?_
       clear hK K
       try simp only [Act.put, List.setIfInBounds_toArray, List.set_cons_zero, List.set_cons_succ]
       refine wpAnyG_onlyL (i := 16) (o := _) (by as_aux_lemma => kernel_rfl) rfl (fun K hK => ?_)
       go_simp
       refine hK.out _ _ (fun _ => hS9) ?_
       clear hK K
       try simp only [Act.put, List.setIfInBounds_toArray, List.set_cons_zero, List.set_cons_succ]
       refine wpAnyG_done (by as_aux_lemma => kernel_rfl) ?_ _
       clear hes hS hSs hSm hS8 hS9
       go_wp2_with fail
       go_meet
       case rel =>
        obtain ⟨g3, hbx3, bss, hbs, kc, hrv, hrl, hwne, hbne, hrow, hxne, sx3⟩ := Z.out
        obtain ⟨kcs, hst, km, snm, orow, hwdlt, sqm, hwq1⟩ := M1.out
        obtain ⟨ho8, k8, hv8, hsf, kf, hr8⟩ := M2.out
        have hq := HQ.out.2
        have hkd := KD3.out.size
        have z1 := kcs.size
        have z2 := km.size
        have z4 := kc.size
        have omt : own mt = some (.mp false i) := by rw [← hmt]; exact g3.omap false i
        have omr : ∀ b, (Value.slice rp rl rc).ownBlock = some b → own b = some (.row false i (kl, kp)) := by rw [← hrv]; exact g3.orow false i (kl, kp)
        have ew : (W.step sx).1 = { W with e := upd W.e i e', sent := upd W.sent i (putKey (W.sent i) (kl, kp) xd) } := by
         rw [EW.out.1, E2.out.2.2.1, E2.out.2.2.2.1, E2.out.2.2.2.2]
        have hk : Keeps (fun b => ∃ c, own b = some c ∧ (c = .mp false i ∨ c = .row false i (kl, kp))) wc wf :=
         (((kcs.weaken (fun _ _ f => f.elim)).trans (km.weaken (fun b _ e => by subst e; exact ⟨_, omt, .inl rfl⟩))).trans (k8.weaken (fun b _ e => ⟨_, omr b e, .inr rfl⟩))).trans (kf.weaken (fun b _ e => by subst e; exact ⟨_, omt, .inl rfl⟩))
        have hmtlt : mt < wc.heap.size := by rw [← hmt]; exact (g3.maps false i).lt
        have hvo : ∀ b, (Value.slice p8 r8 c8).ownBlock = some b → (Value.slice rp rl rc).ownBlock = some b ∨ wm.heap.size = b := fun b hb => by
         rcases hv8 with e | e
         ·rw [e] at hb; exact .inl hb
         ·rw [e] at hb; exact .inr (Option.some.inj hb)
        have hqb : ∀ b, (Value.slice tq xd.length tc).ownBlock = some b → wc.heap.size ≤ b ∧ b < wm.heap.size ∧ ∀ q, ¬ R q b := fun b hb => by
         obtain ⟨h1, h2⟩ := hq.block b hb
         have h3 := kcs.size
         refine ⟨by omega, by omega, fun q r => ?_⟩
         have := (g3.duo.lt q).1 b r
         omega
        have hx : ∀ w', Keeps (fun b => ownB own b ∨ (Value.slice p8 r8 c8).ownBlock = some b ∨ R false b ∨ R true b) wf w' → Sees w' (.slice tq xd.length tc) xd := fun w' hw' => by
         have hno : ∀ b, (Value.slice tq xd.length tc).ownBlock = some b → ¬ ownB own b := fun b hb m => by have h1 := (g3.lt b m).1; have h2 := (hqb b hb).1; omega
         refine (((sqm.keeps k8 (fun b hb e => hno b hb ⟨_, omr b e⟩)).keeps kf (fun b hb e => hno b hb ⟨_, by subst e; exact omt⟩))).keeps hw' (fun b hb e => ?_)
         obtain ⟨n1, n2, n3⟩ := hqb b hb
         rcases e with e | e | e | e
         ·exact hno b hb e
         ·rcases hvo b e with e | e
          ·exact hno b hb ⟨_, omr b e⟩
          ·omega
         ·exact n3 false e
         ·exact n3 true e
        obtain ⟨own', g9, _⟩ := g3.row false i (kl, kp) (.slice p8 r8 c8) ((.slice tq xd.length tc, xd) : Bv) hk (by rw [hmt]; exact hsf) (ho8.keeps kf (fun b hb e => by
         subst e
         rcases hvo b hb with e | e
         ·have h1 := omr b e; rw [omt] at h1; cases h1
         ·omega)) (fun b hb => by
         rcases hvo b hb with e | e
         ·left; rw [hrv]; exact e
         ·right; omega) hx H.out.2.2.2.2.2.1
        rw [ew]
        exact ⟨⟨_, _, _, _, _, _, _, g9⟩, trivial⟩
    exact absurd HW0.out h0
  case rest =>
   obtain ⟨⟨lb', R', own', mb', F', V', X', g'⟩, _⟩ := hcut
   obtain ⟨⟨c0', -, -⟩, -, -, -⟩ := wd_cells g'.blk i
   rw [HK.out] at c0'
   obtain ⟨j', hj', _⟩ := G.out.2.1.step sx
   have hw8 := WB.win hj' i
   obtain ⟨wn, hwn⟩ : ∃ n, ((W.step sx).1.e i).win.length = n := ⟨_, rfl⟩
   have FC := Lib.hid (lk_flying (g'.duo i))
   rw [hwn] at FC hw8
   have h8 : decide ((wn : Int) ≤ 8) = true := by simp; omega
   have h8' : decide (wn ≤ 8) = true := by simp; omega
   have Q := Lib.hid g'
   clear g' hj' hwn hw8 c0 c1 c2 y0 y1 y2 y3
   go_wp2_with fail
   refine FC.out.mono ?_
   rintro e wz ⟨rfl, rfl⟩
   go_wp2_with fail
   go_ret
   exact ⟨rfl, _, _, _, _, _, _, _, Q.out⟩
end Go.Proofs.Ytllnlimbfoingaa
