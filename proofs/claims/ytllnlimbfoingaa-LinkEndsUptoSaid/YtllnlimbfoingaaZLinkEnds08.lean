/- DERIVED. Chapter 20: the laws' step: a packet is lost. · DERIVED. Chapter 20: the laws' step. · DERIVED. Chapter 20: LinkOrder, walked. -/
import Derived.Test.YtllnlimbfoingaaZLinkEnds04
import Derived.Deep.CutBlock
import Derived.Test.YtllnlimbfoingaaZLinkEnds05
import Derived.Test.YtllnlimbfoingaaZLinkEnds06
import Derived.Test.YtllnlimbfoingaaZLinkEnds07
import Derived.Test.YtllnlimbfoingaaY09
/- AUX -/
namespace Go.Proofs.Ytllnlimbfoingaa
open Go.RowKit Go.Conc

set_option maxRecDepth 100000 in
set_option maxHeartbeats 4000000 in
theorem wstep_d {w0 w : World} {wb : Nat} {lb : Bool → Nat} {R : Bool → Nat → Prop} {own : Own} {mb : Bool → Bool → Nat} {F : SeRows} {V : Bool → Value} {X : Bool → List Pv} {W : Wd} {j : Bool} {n : Nat} (x : St4) (h : Wm w0 w wb lb R own mb F V X W) (hi : Inv W j) (hb : WB W n) (hn : n ≤ 1000)
  (hs : Sees w0 x.2.2.2.1 x.2.2.2.2) (hd : x.2.2.2.2.length ≤ 140737488355328) (hw : x.1 = 5) :
  Calls Try.prog 27 #[.pointer (some ⟨wb, 0, none⟩), .agg (stL x).toArray] w fun e w' => e = .returned (.bool true) ∧ Wx w0 w' wb (W.step (stP x)).1 := by
 obtain ⟨wh, en, wi, xv, xd⟩ := x
 simp only at hs hd hw
 have HW0 := Lib.hid hw
 clear hw
 obtain ⟨xp, xc, rfl, _, _⟩ := hs.len
 simp only [stL]
 obtain ⟨sx, hsx⟩ : ∃ s, stP (wh, en, wi, ((.slice xp xd.length xc, xd) : Bv)) = s := ⟨_, rfl⟩
 rw [hsx]
 have HSX := Lib.hid hsx
 clear hsx
 obtain ⟨w1, hw1⟩ : ∃ w1, w.alloc (.cells #[.int .i64 wh, .int .i64 en, .int .i64 wi, .slice xp xd.length xc] 62) = w1 := ⟨_, rfl⟩
 have o1 : Old w w1 := by rw [← hw1]; exact (Keeps.refl _ _).alloc _
 have b1 : w1.heap[w.heap.size]? = some (.cells #[.int .i64 wh, .int .i64 en, .int .i64 wi, .slice xp xd.length xc] 62 (0, 0)) := by rw [← hw1]; exact heap_alloc_new _ _
 have h1 := h.oldW o1
 obtain ⟨bx, hbx⟩ : ∃ b, w.heap.size = b := ⟨_, rfl⟩
 have HBX := Lib.hid hbx
 obtain ⟨i, hii⟩ : ∃ i, decide (en % 2 = 1) = i := ⟨_, rfl⟩
 obtain ⟨⟨c0, c1, c2⟩, -, -, -⟩ := wd_cells h1.blk i
 obtain ⟨ue, hue⟩ : ∃ z, IntKind.u64.wrap en = z := ⟨_, rfl⟩
 have e1 : ue.tmod 2 = (iv i : Int) := by
  rw [← hue, Int.tmod_eq_emod_of_nonneg (by rw [IntKind.wrap_u64]; omega), IntKind.wrap_u64, ← hii]
  by_cases h : en % 2 = 1
  ·rw [decide_eq_true h]; show _ = (1 : Int); omega
  ·rw [decide_eq_false h]; show _ = (0 : Int); omega
 have q1 : (0 : Int) ≤ (iv i : Int) := by omega
 have q2 : (iv i : Int) < 2 := by have := iv_lt i; omega
 obtain ⟨vp, vc, hvv, _, _⟩ := ((h1.ways i).sees (fun _ => rfl) (by decide)).len
 rw [hvv] at c1
 obtain ⟨k, hk⟩ : ∃ k, iv i = k := ⟨_, rfl⟩
 obtain ⟨ln, hln⟩ : ∃ l, (X i).length = l := ⟨_, rfl⟩
 have hll : ln ≤ 20000 := by have := hb.way i; rw [h1.way, List.length_map, hln] at this; omega
 have e2 : IntKind.i64.wrap (k : Int) = (k : Int) := by have := iv_lt i; rw [IntKind.wrap_i64]; omega
 have HLT := Lib.hid (And.intro (show ∀ q, R i q → q < w.heap.size from (h.duo.lt i).1) (show ∀ q, ownB own q → q < w.heap.size from fun q m => (h.lt q m).1))
 have H := Lib.hid (And.intro h1 (And.intro hi (And.intro hb (And.intro hn (And.intro hs (And.intro hd (And.intro b1 (And.intro hii (And.intro hvv (And.intro hln o1))))))))))
 rw [hbx] at b1
 obtain ⟨y0, y1, y2, y3⟩ := blk4 b1
 rw [hk] at c0 c1 c2 q1 q2 e1
 rw [hln] at c1
 have HK := Lib.hid hk
 clear h h1 hi hb hn hs hd o1 b1 hii hvv hln hk
 go_enter Try.func27, Try.ntmps27
 go_upto_region 4 with fail
 clear e1 hue hw1 hbx
 obtain ⟨aw', haw⟩ : ∃ a, (wi % 18446744073709551616).toNat = a := ⟨_, rfl⟩
 have HAW := Lib.hid haw
 clear haw
 go_upto_if 26 with fail
 go_cut [7] (fun v7 wc => ∃ at_ : Nat, v7 = .int .i64 (at_ : Int) ∧ (0 < ln → at_ = aw' % ln) ∧ Old w1 wc)
 case first =>
  by_cases h0 : ln = 0
  ·have g1 : decide (0 < ln) = false := by simp; omega
   have g2 : decide ((ln : Int) > 0) = false := by simp; omega
   go_wp2_with fail
   go_meet
   case rel => exact ⟨0, rfl, fun h => by omega, Keeps.refl _ _⟩
  ·have hpos : 0 < ln := by omega
   have g1 : decide (0 < ln) = true := by simp; omega
   have g2 : decide ((ln : Int) > 0) = true := by simp; omega
   have g3 : ((ln : Int) == 0) = false := by simp; omega
   have e3 : IntKind.u64.wrap (ln : Int) = (ln : Int) := by rw [IntKind.wrap_u64]; omega
   obtain ⟨at_, hat⟩ : ∃ a, aw' % ln = a := ⟨_, rfl⟩
   have hatl : at_ < ln := by rw [← hat]; exact Nat.mod_lt _ hpos
   have e4 : (IntKind.u64.wrap wi).tmod (ln : Int) = (at_ : Int) := by
    rw [Int.tmod_eq_emod_of_nonneg (by rw [IntKind.wrap_u64]; omega), IntKind.wrap_u64, ← hat, ← HAW.out, Int.natCast_emod, Int.toNat_of_nonneg (by omega)]
   have e5 : IntKind.i64.wrap (at_ : Int) = (at_ : Int) := by rw [IntKind.wrap_i64]; omega
   have HA := Lib.hid hat
   clear hat h0
   go_wp2_with fail
   go_quiet (fail)
   go_wp2_with fail
   go_meet
   case rel => exact ⟨at_, by first | rfl | (rw [e5]) | (unfold wrap64; congr 1; omega), fun _ => HA.out.symm, (Keeps.refl (fun _ => False) w1).drewN _⟩
 case rest =>
  obtain ⟨at_, rfl, hat, kc⟩ := hcut
  clear c0 c1 c2 y0 y1 y2 y3
  have g := H.out.1.oldW kc
  have hi := H.out.2.1
  have hb := H.out.2.2.1
  have ek : sx.i = i := by rw [← HSX.out]; exact H.out.2.2.2.2.2.2.2.1
  have hsw : sx.what = wh := by rw [← HSX.out]; rfl
  have hsb : sx.b = xd := by rw [← HSX.out]; rfl
  have hsa : sx.which = aw' := by rw [← HSX.out]; exact HAW.out
  have bx1 := (kc.block _ (by have := lt_of_block H.out.2.2.2.2.2.2.1; exact this) (fun f => f)).trans H.out.2.2.2.2.2.2.1
  obtain ⟨y0, y1, y2, y3⟩ := blk4 bx1
  obtain ⟨⟨c0, c1, c2⟩, -, -, hfz⟩ := wd_cells g.blk i
  rw [H.out.2.2.2.2.2.2.2.2.1] at c1
  rw [HK.out] at c0 c1 c2
  have hlnX := H.out.2.2.2.2.2.2.2.2.2.1
  rw [hlnX] at c1
  have hbx := HBX.out
  rw [hbx] at y0 y1 y2 y3 bx1
  have G := Lib.hid (And.intro g (And.intro hi (And.intro hb (And.intro ek (And.intro hsw (And.intro hsb (And.intro hsa (And.intro hat (And.intro bx1 (And.intro hfz hbx))))))))))
  have hEl : 1 ≤ (W.e i).life := (hi.1 i).born
  have HE := Lib.hid hEl
  clear g hi hb ek hsw hsb hsa hat kc bx1 hfz hlnX hbx hEl
  go_upto_block 0 with fail
  go_cut [] (fun wf => Wx w0 wf wb (W.step sx).1 ∧ True)
  case first =>
   by_cases h1 : wh = 1
   ·exact absurd (HW0.out.symm.trans h1) (by decide)
   ·have n1 : (wh == 1) = false := by simp [h1]
    by_cases h0 : wh = 0
    ·exact absurd (HW0.out.symm.trans h0) (by decide)
    have n0 : (wh == 0) = false := by simp [h0]
    by_cases h2 : wh = 2
    ·exact absurd (HW0.out.symm.trans h2) (by decide)
    have n2 : (wh == 2) = false := by simp [h2]
    by_cases h34 : wh = 3 ∨ wh = 4
    ·rcases h34 with h | h <;> exact absurd (HW0.out.symm.trans h) (by decide)
    have n3 : (wh == 3) = false := by simp; omega
    have n4 : (wh == 4) = false := by simp; omega
    by_cases h5 : wh = 5
    ·have hHV := H.out.2.2.2.2.2.2.2.2.1
     have hHL := H.out.2.2.2.2.2.2.2.2.2.1
     rw [hHL] at hHV
     have HVL := Lib.hid (And.intro hHV hHL)
     have HW5 := Lib.hid h5
     have ew : (W.step sx).1 = { W with way := upd W.way i ((W.way i).eraseIdx (aw' % (W.way i).length)) } := by
      obtain ⟨_, _, _, ek, hsw, _, hsa, _⟩ := G.out
      unfold Wd.step
      rw [hsw, ek, hsa, h5]
      rfl
     have EW := Lib.hid ew
     subst h5
     clear hHV hHL ew n0 n1 n2 n3 n4
     by_cases hl0 : ln = 0
     ·have g1 : decide (0 < ln) = false := by simp; omega
      have g2 : decide ((ln : Int) > 0) = false := by simp; omega
      have HL0 := Lib.hid hl0
      clear hl0
      go_wp2_with fail
      go_meet
      case rel =>
       have hw : W.way i = [] := by rw [G.out.1.way, List.length_eq_zero_iff.1 (HVL.out.2.trans HL0.out)]; rfl
       have ee : ({ W with way := upd W.way i ((W.way i).eraseIdx (aw' % (W.way i).length)) } : Wd) = W := by rw [hw, List.eraseIdx_nil, ← hw, upd_self]
       rw [EW.out, ee]
       exact ⟨⟨_, _, _, _, _, _, _, G.out.1⟩, trivial⟩
     ·have g1 : decide (0 < ln) = true := by simp; omega
      have g2 : decide ((ln : Int) > 0) = true := by simp; omega
      have hpos : 0 < ln := by omega
      have HAT := Lib.hid (show at_ = aw' % ln ∧ at_ < ln from ⟨G.out.2.2.2.2.2.2.2.1 hpos, by rw [G.out.2.2.2.2.2.2.2.1 hpos]; exact Nat.mod_lt _ hpos⟩)
      clear hl0 hpos
      go_upto_region 26 with fail
      have hsee : SeesR wc 5 Pv.cells (.slice vp ln vc) (X i) := by rw [← HVL.out.1]; exact (G.out.1.ways i).sees (fun _ => rfl) (by decide)
      obtain ⟨pa, ca, hsa, hsa2⟩ := SeesR.upto (T := 45) (E := 37) hsee at_ (by rw [HVL.out.2]; exact Nat.le_of_lt HAT.out.2) Try.underlying45 (by as_aux_lemma => kernel_rfl) .i64 (at_ : Int) rfl
      obtain ⟨pz, cz, hsz, hsz2⟩ := SeesR.from (T := 45) (E := 37) hsee (at_ + 1) (by rw [HVL.out.2]; exact HAT.out.2) Try.underlying45 (by as_aux_lemma => kernel_rfl) .i64 ((at_ : Int) + 1) (by omega)
      obtain ⟨lz, hlz⟩ : ∃ l, (X i).length - (at_ + 1) = l := ⟨_, rfl⟩
      rw [hlz] at hsz hsz2
      obtain ⟨a1, ha1⟩ : ∃ a, (at_ : Int) + 1 = a := ⟨_, rfl⟩
      have hwr : IntKind.i64.wrap a1 = a1 := by rw [← ha1, IntKind.wrap_i64]; have h1 := HAT.out.2; have h2 := H.out.2.2.2.1; have h3 := HVL.out.2; have h4 := G.out.2.2.1.way i; rw [G.out.1.way, List.length_map] at h4; omega
      rw [ha1] at hsz
      have HD := Lib.hid (And.intro hsee (And.intro hsa2 (And.intro hsz2 (And.intro hlz ha1))))
      clear hsee hsa2 hsz2 hlz
      refine wp_region_g (S := fun w' => w'.heap[wb]? = some (.cells (wdCells lb V W.e mb).toArray 71 (0, 0))) (M := List.range 17) (by as_aux_lemma => kernel_rfl) ?_
      obtain ⟨wd, hwd⟩ : ∃ wd, wc.drew = wd := ⟨_, rfl⟩
      have KD : Hid (Old wc wd) := Lib.hid (by rw [← hwd]; exact (Keeps.refl (fun _ => False) wc).drew)
      have hS : wd.heap[wb]? = some (.cells (wdCells lb V W.e mb).toArray 71 (0, 0)) := by rw [← hwd]; exact G.out.1.blk
      rw [hwd]
      clear hwd c0 c1 c2
      refine wpAnyG_takeL (i := 0) (oi := _) (v := ?vd0) rfl (by as_aux_lemma => kernel_rfl) (by as_aux_lemma => kernel_rfl) (by as_aux_lemma => kernel_rfl) (by as_aux_lemma => kernel_rfl) (fun _ _ _ h => h) (Or.inl ⟨by rfl, ?yd0⟩) hS ?rd0
      case yd0 => (intro W hSw; obtain ⟨⟨c0', c1', c2'⟩, -, -, -⟩ := wd_cells hSw i; rw [HK.out] at c0' c1' c2'; rw [HVL.out.1] at c1'; go_simp; try with_reducible rfl)
      try simp only [Act.put, List.setIfInBounds_toArray, List.set_cons_zero, List.set_cons_succ]
      refine wpAnyG_takeL (i := 2) (oi := _) (v := ?vd2) rfl (by as_aux_lemma => kernel_rfl) (by as_aux_lemma => kernel_rfl) (by as_aux_lemma => kernel_rfl) (by as_aux_lemma => kernel_rfl) (fun _ _ _ h => h) (Or.inl ⟨by rfl, ?yd2⟩) hS ?rd2
      case yd2 => (intro W hSw; obtain ⟨⟨c0', c1', c2'⟩, -, -, -⟩ := wd_cells hSw i; rw [HK.out] at c0' c1' c2'; rw [HVL.out.1] at c1'; go_simp; try with_reducible rfl)
      try simp only [Act.put, List.setIfInBounds_toArray, List.set_cons_zero, List.set_cons_succ]
      refine wpAnyG_takeL (i := 3) (oi := _) (v := ?vd3) rfl (by as_aux_lemma => kernel_rfl) (by as_aux_lemma => kernel_rfl) (by as_aux_lemma => kernel_rfl) (by as_aux_lemma => kernel_rfl) (fun _ _ _ h => h) (Or.inl ⟨by rfl, ?yd3⟩) hS ?rd3
      case yd3 => (intro W hSw; obtain ⟨⟨c0', c1', c2'⟩, -, -, -⟩ := wd_cells hSw i; rw [HK.out] at c0' c1' c2'; rw [HVL.out.1] at c1'; go_simp; try with_reducible rfl)
      try simp only [Act.put, List.setIfInBounds_toArray, List.set_cons_zero, List.set_cons_succ]
      refine wpAnyG_takeL (i := 4) (oi := _) (v := ?vd4) rfl (by as_aux_lemma => kernel_rfl) (by as_aux_lemma => kernel_rfl) (by as_aux_lemma => kernel_rfl) (by as_aux_lemma => kernel_rfl) (fun _ _ _ h => h) (Or.inl ⟨by rfl, ?yd4⟩) hS ?rd4
      case yd4 => (intro W hSw; obtain ⟨⟨c0', c1', c2'⟩, -, -, -⟩ := wd_cells hSw i; rw [HK.out] at c0' c1' c2'; rw [HVL.out.1] at c1'; go_simp; try with_reducible rfl)
      try simp only [Act.put, List.setIfInBounds_toArray, List.set_cons_zero, List.set_cons_succ]
      refine wpAnyG_takeL (i := 5) (oi := _) (v := ?vd5) rfl (by as_aux_lemma => kernel_rfl) (by as_aux_lemma => kernel_rfl) (by as_aux_lemma => kernel_rfl) (by as_aux_lemma => kernel_rfl) (fun _ _ _ h => h) (Or.inl ⟨by rfl, ?yd5⟩) hS ?rd5
      case yd5 => (intro W hSw; obtain ⟨⟨c0', c1', c2'⟩, -, -, -⟩ := wd_cells hSw i; rw [HK.out] at c0' c1' c2'; rw [HVL.out.1] at c1'; go_simp; try with_reducible rfl)
      try simp only [Act.put, List.setIfInBounds_toArray, List.set_cons_zero, List.set_cons_succ]
      refine wpAnyG_takeL (i := 6) (oi := _) (v := ?vd6) rfl (by as_aux_lemma => kernel_rfl) (by as_aux_lemma => kernel_rfl) (by as_aux_lemma => kernel_rfl) (by as_aux_lemma => kernel_rfl) (fun _ _ _ h => h) (Or.inl ⟨by rfl, ?yd6⟩) hS ?rd6
      case yd6 => (intro W hSw; obtain ⟨⟨c0', c1', c2'⟩, -, -, -⟩ := wd_cells hSw i; rw [HK.out] at c0' c1' c2'; rw [HVL.out.1] at c1'; go_simp; try with_reducible rfl)
      try simp only [Act.put, List.setIfInBounds_toArray, List.set_cons_zero, List.set_cons_succ]
      refine wpAnyG_takeL (i := 7) (oi := _) (v := ?vd7) rfl (by as_aux_lemma => kernel_rfl) (by as_aux_lemma => kernel_rfl) (by as_aux_lemma => kernel_rfl) (by as_aux_lemma => kernel_rfl) (fun _ _ _ h => h) (Or.inl ⟨by rfl, ?yd7⟩) hS ?rd7
      case yd7 => (intro W hSw; obtain ⟨⟨c0', c1', c2'⟩, -, -, -⟩ := wd_cells hSw i; rw [HK.out] at c0' c1' c2'; rw [HVL.out.1] at c1'; go_simp; try with_reducible rfl)
      try simp only [Act.put, List.setIfInBounds_toArray, List.set_cons_zero, List.set_cons_succ]
      refine wpAnyG_takeL (i := 9) (oi := _) (v := ?vd9) rfl (by as_aux_lemma => kernel_rfl) (by as_aux_lemma => kernel_rfl) (by as_aux_lemma => kernel_rfl) (by as_aux_lemma => kernel_rfl) (fun _ _ _ h => h) (Or.inl ⟨by rfl, ?yd9⟩) hS ?rd9
      case yd9 => (intro W hSw; obtain ⟨⟨c0', c1', c2'⟩, -, -, -⟩ := wd_cells hSw i; rw [HK.out] at c0' c1' c2'; rw [HVL.out.1] at c1'; go_simp; try with_reducible rfl)
      try simp only [Act.put, List.setIfInBounds_toArray, List.set_cons_zero, List.set_cons_succ]
      refine wpAnyG_takeL (i := 10) (oi := _) (v := ?vd10) rfl (by as_aux_lemma => kernel_rfl) (by as_aux_lemma => kernel_rfl) (by as_aux_lemma => kernel_rfl) (by as_aux_lemma => kernel_rfl) (fun _ _ _ h => h) (Or.inl ⟨by rfl, ?yd10⟩) hS ?rd10
      case yd10 => (intro W hSw; obtain ⟨⟨c0', c1', c2'⟩, -, -, -⟩ := wd_cells hSw i; rw [HK.out] at c0' c1' c2'; rw [HVL.out.1] at c1'; go_simp; try with_reducible rfl)
      try simp only [Act.put, List.setIfInBounds_toArray, List.set_cons_zero, List.set_cons_succ]
      refine wpAnyG_takeL (i := 11) (oi := _) (v := ?vd11) rfl (by as_aux_lemma => kernel_rfl) (by as_aux_lemma => kernel_rfl) (by as_aux_lemma => kernel_rfl) (by as_aux_lemma => kernel_rfl) (fun _ _ _ h => h) (Or.inl ⟨by rfl, ?yd11⟩) hS ?rd11
      case yd11 => (intro W hSw; obtain ⟨⟨c0', c1', c2'⟩, -, -, -⟩ := wd_cells hSw i; rw [HK.out] at c0' c1' c2'; rw [HVL.out.1] at c1'; go_simp; try with_reducible rfl)
      try simp only [Act.put, List.setIfInBounds_toArray, List.set_cons_zero, List.set_cons_succ]
      refine wpAnyG_takeL (i := 12) (oi := _) (v := ?vd12) rfl (by as_aux_lemma => kernel_rfl) (by as_aux_lemma => kernel_rfl) (by as_aux_lemma => kernel_rfl) (by as_aux_lemma => kernel_rfl) (fun _ _ _ h => h) (Or.inl ⟨by rfl, ?yd12⟩) hS ?rd12
      case yd12 => (intro W hSw; obtain ⟨⟨c0', c1', c2'⟩, -, -, -⟩ := wd_cells hSw i; rw [HK.out] at c0' c1' c2'; rw [HVL.out.1] at c1'; go_simp; try with_reducible rfl)
      try simp only [Act.put, List.setIfInBounds_toArray, List.set_cons_zero, List.set_cons_succ]
      refine wpAnyG_takeL (i := 13) (oi := _) (v := ?vd13) rfl (by as_aux_lemma => kernel_rfl) (by as_aux_lemma => kernel_rfl) (by as_aux_lemma => kernel_rfl) (by as_aux_lemma => kernel_rfl) (fun _ _ _ h => h) (Or.inl ⟨by rfl, ?yd13⟩) hS ?rd13
      case yd13 => (intro W hSw; obtain ⟨⟨c0', c1', c2'⟩, -, -, -⟩ := wd_cells hSw i; rw [HK.out] at c0' c1' c2'; rw [HVL.out.1] at c1'; go_simp; try with_reducible rfl)
      try simp only [Act.put, List.setIfInBounds_toArray, List.set_cons_zero, List.set_cons_succ]
      refine wpAnyG_takeL (i := 14) (oi := _) (v := ?vd14) rfl (by as_aux_lemma => kernel_rfl) (by as_aux_lemma => kernel_rfl) (by as_aux_lemma => kernel_rfl) (by as_aux_lemma => kernel_rfl) (fun _ _ _ h => h) (Or.inl ⟨by rfl, ?yd14⟩) hS ?rd14
      case yd14 => (intro W hSw; obtain ⟨⟨c0', c1', c2'⟩, -, -, -⟩ := wd_cells hSw i; rw [HK.out] at c0' c1' c2'; rw [HVL.out.1] at c1'; go_simp; try with_reducible rfl)
      try simp only [Act.put, List.setIfInBounds_toArray, List.set_cons_zero, List.set_cons_succ]
      refine wpAnyG_takeL (i := 15) (oi := _) (v := ?vd15) rfl (by as_aux_lemma => kernel_rfl) (by as_aux_lemma => kernel_rfl) (by as_aux_lemma => kernel_rfl) (by as_aux_lemma => kernel_rfl) (fun _ _ _ h => h) (Or.inl ⟨by rfl, ?yd15⟩) hS ?rd15
      case yd15 => (intro W hSw; obtain ⟨⟨c0', c1', c2'⟩, -, -, -⟩ := wd_cells hSw i; rw [HK.out] at c0' c1' c2'; rw [HVL.out.1] at c1'; go_simp; try with_reducible rfl)
      try simp only [Act.put, List.setIfInBounds_toArray, List.set_cons_zero, List.set_cons_succ]
      obtain ⟨we, hwe⟩ : ∃ we, wd.alloc (.cells #[] 37) = we := ⟨_, rfl⟩
      have ke : Old wd we := by rw [← hwe]; exact (Keeps.refl _ _).alloc _
      have oe : OwnsR we wd.heap.size 37 5 Pv.cells (.slice (some ⟨wd.heap.size, 0, none⟩) 0 0) ([] : List Pv) := by rw [← hwe]; exact OwnsR.lit20 wd
      have hSe : we.heap[wb]? = some (.cells (wdCells lb V W.e mb).toArray 71 (0, 0)) := (ke.block _ (lt_of_block hS) (fun f => f)).trans hS
      have HE1 := Lib.hid (And.intro ke oe)
      clear ke oe
      refine wpAnyG_onlyL (i := 1) (o := _) (by as_aux_lemma => kernel_rfl) rfl (fun K hK => ?_)
      go_simp
      clear hwe
      refine hK.out _ _ (fun _ => hSe) ?_
      clear hK K
      try simp only [Act.put, List.setIfInBounds_toArray, List.set_cons_zero, List.set_cons_succ]
      have hlenX : (X i).length ≤ 20000 := by have h1 := G.out.2.2.1.way i; rw [G.out.1.way, List.length_map] at h1; have := H.out.2.2.2.1; omega
      have HC : Hid (∀ x : Pv, x ∈ X i → ∀ c ∈ Pv.cells x, c.oneCell' = true) := Lib.hid (fun x hx c hc => by
       obtain ⟨p, c', e, _, _⟩ := ((G.out.1.data wc (Keeps.refl _ _)).2 i x hx).1.len
       simp only [Pv.cells, e, List.mem_cons, List.not_mem_nil, or_false] at hc
       rcases hc with rfl | rfl | rfl | rfl | rfl <;> rfl)
      have HN := Lib.hid (And.intro (show ([] : List Pv).length + ((X i).take at_).length ≤ maxLen by rw [List.length_take]; simp only [List.length_nil]; unfold maxLen; omega) (And.intro (show (([] : List Pv).length + ((X i).take at_).length) * 56 ≤ 140737488355328 by rw [List.length_take]; simp only [List.length_nil]; omega) (And.intro HE1.out.1.size hlenX)))
      clear hlenX
      have HO := Lib.hid (HD.out.2.1 we ((HD.out.1.old KD.out).old HE1.out.1))
      refine wpAnyG_onlyL (i := 8) (o := _) (by as_aux_lemma => kernel_rfl) rfl (fun K hK => ?_)
      refine step_append_rows (P := Try.prog) rfl _ _ 45 rfl wd.heap.size 37 5 56 Pv.cells _ Try.underlying45 Try.infoPk rfl (by decide) _ ([] : List Pv) (by rfl) HE1.out.2 _ ((X i).take at_) (by rfl) HO.out (fun _ _ => rfl) (fun x hx => HC.out x (List.mem_of_mem_take hx)) HN.out.1 HN.out.2.1 HN.out.2.2.1 ?_
      intro v5 w5 ho5 hg5 hv5
      rw [List.nil_append] at ho5
      have k5 : Old wd w5 := HE1.out.1.then (T := fun b => (Value.slice (some ⟨wd.heap.size, 0, none⟩) 0 0).ownBlock = some b) ((Keeps.refl _ _).grown hg5 (fun b hb _ => hb)) (fun b hb e => by have := (HE1.out.2.block b e).1; omega)
      have hS5 : w5.heap[wb]? = some (.cells (wdCells lb V W.e mb).toArray 71 (0, 0)) := (k5.block _ (lt_of_block hS) (fun f => f)).trans hS
      obtain ⟨p5, c5, e5, _, _⟩ := (ho5.sees (fun _ => rfl) (by decide)).len
      obtain ⟨l5, hl5⟩ : ∃ l, ((X i).take at_).length = l := ⟨_, rfl⟩
      rw [hl5] at e5
      subst e5
      have HE2 := Lib.hid (And.intro k5 (And.intro ho5 hl5))
      clear k5 ho5 hg5 hv5 hl5
      refine hK.out _ _ (fun _ => hS5) ?_
      clear hK K
      try simp only [Act.put, List.setIfInBounds_toArray, List.set_cons_zero, List.set_cons_succ]
      have HO2 := Lib.hid (HD.out.2.2.1 w5 ((HD.out.1.old KD.out).old HE2.out.1))
      have HN2 := Lib.hid (And.intro (show ((X i).take at_).length + ((X i).drop (at_ + 1)).length ≤ maxLen by have := HN.out.2.2.2; rw [List.length_take, List.length_drop]; unfold maxLen; omega) (And.intro (show (((X i).take at_).length + ((X i).drop (at_ + 1)).length) * 56 ≤ 140737488355328 by have := HN.out.2.2.2; rw [List.length_take, List.length_drop]; omega) (show wd.heap.size ≤ w5.heap.size from HE2.out.1.size)))
      refine wpAnyG_onlyL (i := 16) (o := _) (by as_aux_lemma => kernel_rfl) rfl (fun K hK => ?_)
      refine step_append_rows (P := Try.prog) rfl _ _ 45 rfl wd.heap.size 37 5 56 Pv.cells _ Try.underlying45 Try.infoPk rfl (by decide) _ ((X i).take at_) (by rfl) HE2.out.2.1 _ ((X i).drop (at_ + 1)) (by rfl) HO2.out (fun _ _ => rfl) (fun x hx => HC.out x (List.mem_of_mem_drop hx)) HN2.out.1 HN2.out.2.1 HN2.out.2.2 ?_
      intro v6 w6 ho6 hg6 hv6
      have k6 : Old wd w6 := HE2.out.1.then (T := fun b => (Value.slice p5 l5 c5).ownBlock = some b) ((Keeps.refl _ _).grown hg6 (fun b hb _ => hb)) (fun b hb e => by have := (HE2.out.2.1.block b e).1; omega)
      have hS6 : w6.heap[wb]? = some (.cells (wdCells lb V W.e mb).toArray 71 (0, 0)) := (k6.block _ (lt_of_block hS) (fun f => f)).trans hS
      obtain ⟨p6, c6, e6, _, _⟩ := (ho6.sees (fun _ => rfl) (by decide)).len
      obtain ⟨l6, hl6⟩ : ∃ l, ((X i).take at_ ++ (X i).drop (at_ + 1)).length = l := ⟨_, rfl⟩
      rw [hl6] at e6
      subst e6
      have HE3 := Lib.hid (And.intro k6 ho6)
      clear k6 ho6 hg6 hv6 hl6
      refine hK.out _ _ (fun _ => hS6) ?_
      clear hK K
      try simp only [Act.put, List.setIfInBounds_toArray, List.set_cons_zero, List.set_cons_succ]
      obtain ⟨⟨z0', z1', z2'⟩, -, -, hfz6⟩ := wd_cells hS6 i
      rw [HK.out, HVL.out.1] at z1'
      have hfz1 := hfz6 (k * 3 + 1)
      clear z0' z2' hfz6
      refine wpAnyG_onlyL (i := 17) (o := _) (by as_aux_lemma => kernel_rfl) rfl (fun K hK => ?_)
      go_simp
      refine hK.out _ _ (fun h => absurd h (by decide)) ?_
      clear hK K
      try simp only [Act.put, List.setIfInBounds_toArray, List.set_cons_zero, List.set_cons_succ]
      refine wpAnyG_onlyL (i := 18) (o := _) (by as_aux_lemma => kernel_rfl) rfl (fun K hK => ?_)
      go_simp
      refine hK.out _ _ (fun h => absurd h (by decide)) ?_
      clear hK K
      try simp only [Act.put, List.setIfInBounds_toArray, List.set_cons_zero, List.set_cons_succ]
      refine wpAnyG_onlyL (i := 19) (o := _) (by as_aux_lemma => kernel_rfl) rfl (fun K hK => ?_)
      go_simp
      refine hK.out _ _ (fun h => absurd h (by decide)) ?_
      clear hK K
      try simp only [Act.put, List.setIfInBounds_toArray, List.set_cons_zero, List.set_cons_succ]
      refine wpAnyG_done (by as_aux_lemma => kernel_rfl) ?_ _
      clear hS hSe hS5 hS6 z1' hfz1 hsa hsz hwr ha1
      go_wp2_with fail
      go_meet
      case rel =>
       obtain ⟨own', V', X', g'⟩ := G.out.1.cutWay i at_ wd.heap.size (.slice p6 l6 c6) HE3.out.2 KD.out.size (KD.out.trans HE3.out.1) k HK.out
       have hwl : (W.way i).length = ln := by rw [G.out.1.way, List.length_map]; exact HVL.out.2
       rw [EW.out, hwl, ← HAT.out.1]
       exact ⟨⟨_, _, _, _, _, _, _, g'⟩, trivial⟩
    exact absurd HW0.out h5
  case rest =>
   obtain ⟨⟨lb', R', own', mb', F', V', X', g'⟩, _⟩ := hcut
   obtain ⟨⟨c0', -, -⟩, -, -, -⟩ := wd_cells g'.blk i
   rw [HK.out] at c0'
   obtain ⟨j', hj', _⟩ := G.out.2.1.step sx
   have hw8 := WB.win hj' i
   obtain ⟨wn, hwn⟩ : ∃ n, ((W.step sx).1.e i).win.length = n := ⟨_, rfl⟩
   have FC := Lib.hid (lk_flying (g'.duo i))
   rw [hwn] at FC hw8
   have h8 : decide ((wn : Int) ≤ 8) = true := by simp; omega
   have h8' : decide (wn ≤ 8) = true := by simp; omega
   have Q := Lib.hid g'
   clear g' hj' hwn hw8 c0 c1 c2 y0 y1 y2 y3
   go_wp2_with fail
   refine FC.out.mono ?_
   rintro e wz ⟨rfl, rfl⟩
   go_wp2_with fail
   go_ret
   exact ⟨rfl, _, _, _, _, _, _, _, Q.out⟩
end Go.Proofs.Ytllnlimbfoingaa

namespace Go.Proofs.Ytllnlimbfoingaa
open Go.RowKit Go.Conc

theorem wstep_any {w0 w : World} {wb : Nat} {lb : Bool → Nat} {R : Bool → Nat → Prop} {own : Own} {mb : Bool → Bool → Nat} {F : SeRows} {V : Bool → Value} {X : Bool → List Pv} {W : Wd} {j : Bool} {n : Nat} (x : St4) (h : Wm w0 w wb lb R own mb F V X W) (hi : Inv W j) (hb : WB W n) (hn : n ≤ 1000)
  (hs : Sees w0 x.2.2.2.1 x.2.2.2.2) (hd : x.2.2.2.2.length ≤ 140737488355328) :
  Calls Try.prog 27 #[.pointer (some ⟨wb, 0, none⟩), .agg (stL x).toArray] w fun e w' => e = .returned (.bool true) ∧ Wx w0 w' wb (W.step (stP x)).1 := by
 by_cases h0 : x.1 = 0
 ·exact wstep_a x h hi hb hn hs hd h0
 by_cases h3 : x.1 = 3 ∨ x.1 = 4
 ·exact wstep_c x h hi hb hn hs hd h3
 by_cases h5 : x.1 = 5
 ·exact wstep_d x h hi hb hn hs hd h5
 exact wstep_b x h hi hb hn hs hd ⟨h0, h3, h5⟩
end Go.Proofs.Ytllnlimbfoingaa

namespace Go.Proofs.Ytllnlimbfoingaa
open Go.RowKit Go.Conc

theorem take_frame (w : Wd) (i : Bool) (p : Pk) : (w.take i p).1.sent = w.sent ∧ (w.take i p).1.way = w.way := by
 unfold Wd.take
 cases (w.e i).take p with
 | mk e r => cases r <;> exact ⟨rfl, rfl⟩
theorem WB.more {W : Wd} {n : Nat} (h : WB W n) : WB W (n + 1) :=
 ⟨fun i k => Nat.le_succ_of_le (h.sent i k), fun i => Nat.le_succ_of_le (h.life i), fun i => Nat.le_trans (h.way i) (by omega)⟩
theorem WB.toE {W : Wd} {n : Nat} (h : WB W n) (i : Bool) (e : En) (hl : e.life = (W.e i).life) : WB { W with e := upd W.e i e } n :=
 ⟨h.sent, both i (by show (upd W.e i e i).life ≤ _; rw [upd_same, hl]; exact h.life i) (by show (upd W.e i e (!i)).life ≤ _; rw [upd_not]; exact h.life (!i)), h.way⟩
theorem WB.toW {W : Wd} {n : Nat} (h : WB W n) (i : Bool) (l : List Pk) (hl : l.length ≤ 20 * n) : WB { W with way := upd W.way i l } n :=
 ⟨h.sent, h.life, both i (by show (upd W.way i l i).length ≤ _; rw [upd_same]; exact hl) (by show (upd W.way i l (!i)).length ≤ _; rw [upd_not]; exact h.way (!i))⟩
theorem WB.take {W : Wd} {n : Nat} (h : WB W n) (i : Bool) (p : Pk) : WB (W.take i p).1 n := by
 obtain ⟨h1, h2⟩ := take_frame W i p
 refine ⟨by rw [h1]; exact h.sent, fun k => ?_, by rw [h2]; exact h.way⟩
 rw [take_e]
 refine both (p := fun k => (upd W.e i ((W.e i).take p).1 k).life ≤ n + 1) i ?_ ?_ k
 ·rw [upd_same, take_life]; exact h.life i
 ·rw [upd_not]; exact h.life (!i)
theorem WB.step {W : Wd} {n : Nat} {j : Bool} (h : WB W n) (hi : Inv W j) (x : Stp) : WB (W.step x).1 (n + 1) := by
 have he : ∀ i k, ((W.way i).eraseIdx k).length ≤ 20 * n := fun i k => Nat.le_trans (by rw [List.length_eraseIdx]; split <;> omega) (h.way i)
 unfold Wd.step
 dsimp only
 split
 ·split
  ·exact h.more
  ·refine ⟨both x.i (fun k => ?_) (fun k => ?_), both x.i ?_ ?_, h.more.way⟩
   ·show (upd W.sent x.i _ x.i k).length ≤ _
    rw [upd_same]
    unfold putKey
    split
    ·rename_i e; subst e; have := h.sent x.i (W.e x.i).key; simp; omega
    ·exact h.more.sent x.i k
   ·show (upd W.sent x.i _ (!x.i) k).length ≤ _
    rw [upd_not]; exact h.more.sent (!x.i) k
   ·show (upd W.e x.i _ x.i).life ≤ _
    rw [upd_same]; exact h.more.life x.i
   ·show (upd W.e x.i _ (!x.i)).life ≤ _
    rw [upd_not]; exact h.more.life (!x.i)
 split
 ·exact h.more.toE x.i _ rfl
 split
 ·refine ⟨h.more.sent, both x.i ?_ ?_, both x.i ?_ ?_⟩
  ·show (upd W.e x.i _ x.i).life ≤ _
   rw [upd_same]; exact h.more.life x.i
  ·show (upd W.e x.i _ (!x.i)).life ≤ _
   rw [upd_not]; exact h.more.life (!x.i)
  ·show (upd W.way (!x.i) _ x.i).length ≤ _
   rw [upd_nots]; exact h.more.way x.i
  ·show (upd W.way (!x.i) _ (!x.i)).length ≤ _
   rw [upd_same, List.length_append]
   have h1 := h.way (!x.i)
   have h2 := outs_len (WB.win hi x.i)
   omega
 split
 ·split
  ·exact h.more
  ·refine WB.more ?_
   split
   ·exact (h.toW x.i _ (he _ _)).take x.i _
   ·exact h.take x.i _
 split
 ·exact (h.toW x.i _ (he _ _)).more
 split
 ·refine ⟨h.more.sent, both x.i ?_ ?_, h.more.way⟩
  ·show (upd W.e x.i _ x.i).life ≤ _
   rw [upd_same]; have := h.life x.i; show (W.e x.i).life + 1 ≤ _; omega
  ·show (upd W.e x.i _ (!x.i)).life ≤ _
   rw [upd_not]; exact h.more.life (!x.i)
 ·exact h.more
theorem WB.fresh : WB Wd.fresh 0 := ⟨fun _ _ => Nat.zero_le _, fun _ => Nat.le_refl _, fun _ => Nat.zero_le _⟩
/-- what the steps read as -/
def StIn (w : World) (l : List St4) : Prop := ∀ x ∈ l, Sees w x.2.2.2.1 x.2.2.2.2 ∧ x.2.2.2.2.length ≤ 140737488355328
/-- the world behind i steps -/
def WxI (w0 w : World) (wb i : Nat) : Prop := ∃ (W : Wd) (j : Bool), Wx w0 w wb W ∧ Inv W j ∧ WB W i
theorem WxI.old0 {w0 w : World} {wb i : Nat} (h : WxI w0 w wb i) : Old w0 w := by
 obtain ⟨W, j, ⟨_, _, _, _, _, _, _, g⟩, _⟩ := h
 exact g.old
set_option maxRecDepth 100000 in
set_option maxHeartbeats 4000000 in
theorem order_any (v : Value) (l : List St4) (w : World) (hv : SeesR w 4 stL v l) (hl : StIn w l) : Calls Try.prog 4 #[v] w fun e w' => e = .returned (.bool true) ∧ Below w.heap.size w w' := by
 obtain ⟨vp, vc, rfl, hle, hmx⟩ := hv.len
 have hlm : l.length ≤ 9223372036854775807 := by unfold maxLen at hmx; omega
 have HI := Lib.hid (And.intro hv hl)
 have CA := Lib.hid (awake20 w)
 clear hv hl hle hmx
 go_enter Try.func4, Try.ntmps4
 go_wp2_with fail
 refine CA.out.mono ?_
 rintro e w0 ⟨rfl, o0⟩
 have O0 := Lib.hid o0
 clear o0 CA
 go_wp2_with fail
 refine (fresh_any w0).mono ?_
 rintro e w2 ⟨wb, rfl, hx0⟩
 have S0 : Hid (WxI w0 w2 wb 0) := Lib.hid ⟨_, _, hx0, Inv.fresh, WB.fresh⟩
 clear hx0
 go_wp2_with fail
 go_loopg [11] l.length (fun n v11 wm => ∃ i : Nat, i ≤ l.length ∧ i ≤ 300 ∧ n = l.length - i ∧ v11 = .int .i64 (i : Int) ∧ WxI w0 wm wb i)
 case atStart => exact ⟨0, Nat.zero_le _, by omega, rfl, rfl, S0.out⟩
 case round =>
  obtain ⟨i, hi, hi2, rfl, rfl, hS⟩ := hrel
  obtain ⟨wo, rfl⟩ : ∃ wo : World, wo = wr := ⟨_, rfl⟩
  have hold : Old w wo := O0.out.trans hS.old0
  by_cases hlt : i < l.length
  ·have q1 : decide ((i : Int) < (l.length : Int)) = true := by simp; omega
   obtain ⟨b, o, cc, he, _, _, hc⟩ := HI.out.1.at (by omega)
   simp only [Value.slice.injEq, true_and] at he
   obtain ⟨rfl, rfl⟩ := he
   obtain ⟨⟨xw, xe, xi, xv, xd⟩, hx⟩ : ∃ x, l[i]? = some x := ⟨_, List.getElem?_eq_getElem hlt⟩
   have sx := HI.out.2 _ (List.mem_of_getElem? hx)
   simp only at sx
   obtain ⟨pp, pc, rfl, _, _⟩ := sx.1.len
   have c0 : wo.cell? ⟨b, o + i * 4, none⟩ = some (.int .i64 xw) := by have := hold.cell (hc i _ hx 0 _ rfl) (fun f => f); simpa using this
   have c1 : wo.cell? ⟨b, o + i * 4 + 1, none⟩ = some (.int .i64 xe) := by have := hold.cell (hc i _ hx 1 _ rfl) (fun f => f); simpa using this
   have c2 : wo.cell? ⟨b, o + i * 4 + 2, none⟩ = some (.int .i64 xi) := by have := hold.cell (hc i _ hx 2 _ rfl) (fun f => f); simpa using this
   have c3 : wo.cell? ⟨b, o + i * 4 + 3, none⟩ = some (.slice pp xd.length pc) := by have := hold.cell (hc i _ hx 3 _ rfl) (fun f => f); simpa using this
   have q2 : (0 : Int) ≤ (i : Int) := by omega
   have q3 : (i : Int) < (l.length : Int) := by omega
   by_cases h300 : i = 300
   ·have q4 : ((i : Int) == 300) = true := by simp; omega
    have HO := Lib.hid hold
    clear hold hS hc hx sx h300 hi2
    go_wp2_with fail
    go_ret
    exact ⟨rfl, Old.below (HO.out.trans ((Keeps.refl _ _).alloc _))⟩
   ·have q4 : ((i : Int) == 300) = false := by simp; omega
    obtain ⟨w1, hw1⟩ : ∃ w1, wo.alloc (.cells #[.int .i64 xw, .int .i64 xe, .int .i64 xi, .slice pp xd.length pc] 62) = w1 := ⟨_, rfl⟩
    have o1 : Old wo w1 := by rw [← hw1]; exact (Keeps.refl _ _).alloc _
    have b1 : w1.heap[wo.heap.size]? = some (.cells #[.int .i64 xw, .int .i64 xe, .int .i64 xi, .slice pp xd.length pc] 62 (0, 0)) := by rw [← hw1]; exact heap_alloc_new _ _
    obtain ⟨y0, y1, y2, y3⟩ := blk4 b1
    obtain ⟨W, j, ⟨lb, R, own, mb, F, V, X, g⟩, hin, hwb⟩ := hS
    have CS := wstep_any (xw, xe, xi, ((.slice pp xd.length pc, xd) : Bv)) (g.oldW o1) hin hwb (by omega) (sx.1.old O0.out) sx.2
    simp only [stL] at CS
    have Z := Lib.hid (And.intro CS (And.intro hin (And.intro hwb (And.intro h300 hi2))))
    clear hold hc hx sx o1 b1 h300 hi2 g hin hwb CS
    go_wp2_with fail
    refine Z.out.1.mono ?_
    rintro e w3 ⟨rfl, hx3⟩
    have X3 := Lib.hid hx3
    clear hx3
    go_wp2_with fail
    go_roundg (l.length - (i + 1))
    case measure => omega
    case rel =>
     obtain ⟨_, hin, hwb, h300, hi2⟩ := Z.out
     obtain ⟨j', hin', _⟩ := hin.step (stP (xw, xe, xi, ((.slice pp xd.length pc, xd) : Bv)))
     exact ⟨i + 1, by omega, by omega, rfl, by go_num, _, j', X3.out, hin', hwb.step hin _⟩
  ·obtain rfl : i = l.length := by omega
   have HO := Lib.hid hold
   clear hold hS hlt
   go_wp2_with fail
   go_ret
   exact ⟨rfl, HO.out.below⟩
end Go.Proofs.Ytllnlimbfoingaa
