/- DERIVED. Chapter 20: the laws' step: a packet comes. -/
import Derived.Test.YtllnlimbfoingaaZLinkEnds04
import Derived.Deep.CutBlock
/- AUX -/
namespace Go.Proofs.Ytllnlimbfoingaa
open Go.RowKit Go.Conc

set_option maxRecDepth 100000 in
set_option maxHeartbeats 4000000 in
theorem wstep_c {w0 w : World} {wb : Nat} {lb : Bool → Nat} {R : Bool → Nat → Prop} {own : Own} {mb : Bool → Bool → Nat} {F : SeRows} {V : Bool → Value} {X : Bool → List Pv} {W : Wd} {j : Bool} {n : Nat} (x : St4) (h : Wm w0 w wb lb R own mb F V X W) (hi : Inv W j) (hb : WB W n) (hn : n ≤ 1000)
  (hs : Sees w0 x.2.2.2.1 x.2.2.2.2) (hd : x.2.2.2.2.length ≤ 140737488355328) (hw : x.1 = 3 ∨ x.1 = 4) :
  Calls Try.prog 27 #[.pointer (some ⟨wb, 0, none⟩), .agg (stL x).toArray] w fun e w' => e = .returned (.bool true) ∧ Wx w0 w' wb (W.step (stP x)).1 := by
 obtain ⟨wh, en, wi, xv, xd⟩ := x
 simp only at hs hd hw
 have HW0 := Lib.hid hw
 clear hw
 obtain ⟨xp, xc, rfl, _, _⟩ := hs.len
 simp only [stL]
 obtain ⟨sx, hsx⟩ : ∃ s, stP (wh, en, wi, ((.slice xp xd.length xc, xd) : Bv)) = s := ⟨_, rfl⟩
 rw [hsx]
 have HSX := Lib.hid hsx
 clear hsx
 obtain ⟨w1, hw1⟩ : ∃ w1, w.alloc (.cells #[.int .i64 wh, .int .i64 en, .int .i64 wi, .slice xp xd.length xc] 62) = w1 := ⟨_, rfl⟩
 have o1 : Old w w1 := by rw [← hw1]; exact (Keeps.refl _ _).alloc _
 have b1 : w1.heap[w.heap.size]? = some (.cells #[.int .i64 wh, .int .i64 en, .int .i64 wi, .slice xp xd.length xc] 62 (0, 0)) := by rw [← hw1]; exact heap_alloc_new _ _
 have h1 := h.oldW o1
 obtain ⟨bx, hbx⟩ : ∃ b, w.heap.size = b := ⟨_, rfl⟩
 have HBX := Lib.hid hbx
 obtain ⟨i, hii⟩ : ∃ i, decide (en % 2 = 1) = i := ⟨_, rfl⟩
 obtain ⟨⟨c0, c1, c2⟩, -, -, -⟩ := wd_cells h1.blk i
 obtain ⟨ue, hue⟩ : ∃ z, IntKind.u64.wrap en = z := ⟨_, rfl⟩
 have e1 : ue.tmod 2 = (iv i : Int) := by
  rw [← hue, Int.tmod_eq_emod_of_nonneg (by rw [IntKind.wrap_u64]; omega), IntKind.wrap_u64, ← hii]
  by_cases h : en % 2 = 1
  ·rw [decide_eq_true h]; show _ = (1 : Int); omega
  ·rw [decide_eq_false h]; show _ = (0 : Int); omega
 have q1 : (0 : Int) ≤ (iv i : Int) := by omega
 have q2 : (iv i : Int) < 2 := by have := iv_lt i; omega
 obtain ⟨vp, vc, hvv, _, _⟩ := ((h1.ways i).sees (fun _ => rfl) (by decide)).len
 rw [hvv] at c1
 obtain ⟨k, hk⟩ : ∃ k, iv i = k := ⟨_, rfl⟩
 obtain ⟨ln, hln⟩ : ∃ l, (X i).length = l := ⟨_, rfl⟩
 have hll : ln ≤ 20000 := by have := hb.way i; rw [h1.way, List.length_map, hln] at this; omega
 have e2 : IntKind.i64.wrap (k : Int) = (k : Int) := by have := iv_lt i; rw [IntKind.wrap_i64]; omega
 have HLT := Lib.hid (And.intro (show ∀ q, R i q → q < w.heap.size from (h.duo.lt i).1) (show ∀ q, ownB own q → q < w.heap.size from fun q m => (h.lt q m).1))
 have H := Lib.hid (And.intro h1 (And.intro hi (And.intro hb (And.intro hn (And.intro hs (And.intro hd (And.intro b1 (And.intro hii (And.intro hvv (And.intro hln o1))))))))))
 rw [hbx] at b1
 obtain ⟨y0, y1, y2, y3⟩ := blk4 b1
 rw [hk] at c0 c1 c2 q1 q2 e1
 rw [hln] at c1
 have HK := Lib.hid hk
 clear h h1 hi hb hn hs hd o1 b1 hii hvv hln hk
 go_enter Try.func27, Try.ntmps27
 go_upto_region 4 with fail
 clear e1 hue hw1 hbx
 obtain ⟨aw', haw⟩ : ∃ a, (wi % 18446744073709551616).toNat = a := ⟨_, rfl⟩
 have HAW := Lib.hid haw
 clear haw
 go_upto_if 26 with fail
 go_cut [7] (fun v7 wc => ∃ at_ : Nat, v7 = .int .i64 (at_ : Int) ∧ (0 < ln → at_ = aw' % ln) ∧ Old w1 wc)
 case first =>
  by_cases h0 : ln = 0
  ·have g1 : decide (0 < ln) = false := by simp; omega
   have g2 : decide ((ln : Int) > 0) = false := by simp; omega
   go_wp2_with fail
   go_meet
   case rel => exact ⟨0, rfl, fun h => by omega, Keeps.refl _ _⟩
  ·have hpos : 0 < ln := by omega
   have g1 : decide (0 < ln) = true := by simp; omega
   have g2 : decide ((ln : Int) > 0) = true := by simp; omega
   have g3 : ((ln : Int) == 0) = false := by simp; omega
   have e3 : IntKind.u64.wrap (ln : Int) = (ln : Int) := by rw [IntKind.wrap_u64]; omega
   obtain ⟨at_, hat⟩ : ∃ a, aw' % ln = a := ⟨_, rfl⟩
   have hatl : at_ < ln := by rw [← hat]; exact Nat.mod_lt _ hpos
   have e4 : (IntKind.u64.wrap wi).tmod (ln : Int) = (at_ : Int) := by
    rw [Int.tmod_eq_emod_of_nonneg (by rw [IntKind.wrap_u64]; omega), IntKind.wrap_u64, ← hat, ← HAW.out, Int.natCast_emod, Int.toNat_of_nonneg (by omega)]
   have e5 : IntKind.i64.wrap (at_ : Int) = (at_ : Int) := by rw [IntKind.wrap_i64]; omega
   have HA := Lib.hid hat
   clear hat h0
   go_wp2_with fail
   go_quiet (fail)
   go_wp2_with fail
   go_meet
   case rel => exact ⟨at_, by first | rfl | (rw [e5]) | (unfold wrap64; congr 1; omega), fun _ => HA.out.symm, (Keeps.refl (fun _ => False) w1).drewN _⟩
 case rest =>
  obtain ⟨at_, rfl, hat, kc⟩ := hcut
  clear c0 c1 c2 y0 y1 y2 y3
  have g := H.out.1.oldW kc
  have hi := H.out.2.1
  have hb := H.out.2.2.1
  have ek : sx.i = i := by rw [← HSX.out]; exact H.out.2.2.2.2.2.2.2.1
  have hsw : sx.what = wh := by rw [← HSX.out]; rfl
  have hsb : sx.b = xd := by rw [← HSX.out]; rfl
  have hsa : sx.which = aw' := by rw [← HSX.out]; exact HAW.out
  have bx1 := (kc.block _ (by have := lt_of_block H.out.2.2.2.2.2.2.1; exact this) (fun f => f)).trans H.out.2.2.2.2.2.2.1
  obtain ⟨y0, y1, y2, y3⟩ := blk4 bx1
  obtain ⟨⟨c0, c1, c2⟩, -, -, hfz⟩ := wd_cells g.blk i
  rw [H.out.2.2.2.2.2.2.2.2.1] at c1
  rw [HK.out] at c0 c1 c2
  have hlnX := H.out.2.2.2.2.2.2.2.2.2.1
  rw [hlnX] at c1
  have hbx := HBX.out
  rw [hbx] at y0 y1 y2 y3 bx1
  have G := Lib.hid (And.intro g (And.intro hi (And.intro hb (And.intro ek (And.intro hsw (And.intro hsb (And.intro hsa (And.intro hat (And.intro bx1 (And.intro hfz hbx))))))))))
  have hEl : 1 ≤ (W.e i).life := (hi.1 i).born
  have HE := Lib.hid hEl
  clear g hi hb ek hsw hsb hsa hat kc bx1 hfz hlnX hbx hEl
  go_upto_block 0 with fail
  go_cut [] (fun wf => Wx w0 wf wb (W.step sx).1 ∧ True)
  case first =>
   by_cases h1 : wh = 1
   ·rcases HW0.out with e | e <;> exact absurd (e.symm.trans h1) (by decide)
   ·have n1 : (wh == 1) = false := by simp [h1]
    by_cases h0 : wh = 0
    ·rcases HW0.out with e | e <;> exact absurd (e.symm.trans h0) (by decide)
    have n0 : (wh == 0) = false := by simp [h0]
    by_cases h2 : wh = 2
    ·rcases HW0.out with e | e <;> exact absurd (e.symm.trans h2) (by decide)
    have n2 : (wh == 2) = false := by simp [h2]
    by_cases h34 : wh = 3 ∨ wh = 4
    ·rcases h34 with h34 | h34
     ·have hHV := H.out.2.2.2.2.2.2.2.2.1
      have hHL := H.out.2.2.2.2.2.2.2.2.2.1
      rw [hHL] at hHV
      have HVL := Lib.hid (And.intro hHV hHL)
      have ew : (W.step sx).1 = (match (W.way i)[aw' % (W.way i).length]? with | none => W | some p => (Wd.take { W with way := upd W.way i ((W.way i).eraseIdx (aw' % (W.way i).length)) } i p).1) := by
       obtain ⟨_, _, _, ek, hsw, _, hsa, _⟩ := G.out
       unfold Wd.step
       rw [hsw, ek, hsa, h34]
       dsimp only
       rw [if_neg (by decide), if_neg (by decide), if_neg (by decide), if_pos (by decide)]
       generalize (W.way i)[aw' % (W.way i).length]? = q
       cases q with
       | none => rfl
       | some p => first | rw [if_pos rfl] | rw [if_neg (by decide)]
      have EW := Lib.hid ew
      have HW4 := Lib.hid h34
      subst h34
      clear hHV hHL ew n0 n1 n2 h0 h1 h2
      by_cases hl0 : ln = 0
      ·have g1 : decide (0 < ln) = false := by simp; omega
       have g2 : decide ((ln : Int) > 0) = false := by simp; omega
       have HL0 := Lib.hid hl0
       clear hl0
       go_wp2_with fail
       go_meet
       case rel =>
        have hw : W.way i = [] := by rw [G.out.1.way, List.length_eq_zero_iff.1 (HVL.out.2.trans HL0.out)]; rfl
        have ee : (W.step sx).1 = W := by rw [EW.out, hw]; rfl
        rw [ee]
        exact ⟨⟨_, _, _, _, _, _, _, G.out.1⟩, trivial⟩
      ·have g1 : decide (0 < ln) = true := by simp; omega
       have g2 : decide ((ln : Int) > 0) = true := by simp; omega
       have hpos : 0 < ln := by omega
       have HAT := Lib.hid (show at_ = aw' % ln ∧ at_ < ln from ⟨G.out.2.2.2.2.2.2.2.1 hpos, by rw [G.out.2.2.2.2.2.2.2.1 hpos]; exact Nat.mod_lt _ hpos⟩)
       have hsee : SeesR wc 5 Pv.cells (V i) (X i) := (G.out.1.ways i).sees (fun _ => rfl) (by decide)
       have hatX : at_ < (X i).length := by rw [HVL.out.2]; exact HAT.out.2
       obtain ⟨pv, hpv⟩ : ∃ pv, (X i)[at_]? = some pv := ⟨_, List.getElem?_eq_getElem hatX⟩
       have hpm : pv ∈ X i := List.mem_of_getElem? hpv
       obtain ⟨hps, hpl⟩ := (G.out.1.data wc (Keeps.refl _ _)).2 i pv hpm
       obtain ⟨rb, ro, rc, hrv, _, _, hat⟩ := hsee.at (by omega)
       rw [HVL.out.1, HVL.out.2] at hrv
       simp only [Value.slice.injEq, true_and] at hrv
       obtain ⟨rfl, rfl⟩ := hrv
       obtain ⟨x0, x1, x2, x3, xv, xdd⟩ := pv
       obtain ⟨dp, dc, hdv, hdc, hdm⟩ := hps.len
       simp only at hdv hps hpl
       subst hdv
       have e0 := hat at_ _ hpv 0 _ rfl
       rw [Nat.add_zero] at e0
       have e1 := hat at_ _ hpv 1 _ rfl
       have e2' := hat at_ _ hpv 2 _ rfl
       have e3 := hat at_ _ hpv 3 _ rfl
       have e4 := hat at_ _ hpv 4 _ rfl
       have ci0 : (0 : Int) ≤ (at_ : Int) := by omega
       have ci1 : (at_ : Int) < (ln : Int) := by have := HAT.out.2; omega
       simp only at e0 e1 e2' e3 e4
       have HP := Lib.hid (And.intro hpv (And.intro hps hpl))
       obtain ⟨w3, hw3⟩ : ∃ w3, wc.alloc (.cells #[.int .u64 (x0 : Int), .int .u64 (x1 : Int), .int .u64 (x2 : Int), .int .u64 (x3 : Int), .slice dp xdd.length dc] 37) = w3 := ⟨_, rfl⟩
       have k3 : Old wc w3 := by rw [← hw3]; exact (Keeps.refl _ _).alloc _
       have b3 : w3.heap[wc.heap.size]? = some (.cells #[.int .u64 (x0 : Int), .int .u64 (x1 : Int), .int .u64 (x2 : Int), .int .u64 (x3 : Int), .slice dp xdd.length dc] 37 (0, 0)) := by rw [← hw3]; exact heap_alloc_new _ _
       have hz3 : w3.heap.size = wc.heap.size + 1 := by rw [← hw3]; simp
       obtain ⟨bq, hbq⟩ : ∃ b, wc.heap.size = b := ⟨_, rfl⟩
       rw [hbq] at b3
       have ow3 : Owns (w3.alloc (.cells #[] 5)) w3.heap.size (.slice (some ⟨w3.heap.size, 0, none⟩) 0 0) [] := Owns.lit w3 w3.heap.size [] (Nat.le_refl _) (Nat.zero_le _)
       obtain ⟨w4, hw4⟩ : ∃ w4, w3.alloc (.cells #[] 5) = w4 := ⟨_, rfl⟩
       have k4 : Old w3 w4 := by rw [← hw4]; exact (Keeps.refl _ _).alloc _
       rw [hw4] at ow3
       have b4 := (k4.block _ (lt_of_block b3) (fun f => f)).trans b3
       obtain ⟨⟨-, -, -, -, z4⟩, -⟩ := blk5 b4
       have K3 := Lib.hid (And.intro k3 (And.intro b3 (And.intro hz3 (And.intro hbq (And.intro ((hps.old k3).old k4) (And.intro ow3 (And.intro hpl (And.intro k4 b4))))))))
       clear hl0 hpos hsee hatX hpv hpm hps hpl hat k3 b3 hz3 ow3 k4 b4
       go_upto_region 20 with fail
       clear hw3 e0 e1 e2' e3 e4 ci0 ci1 c0 c1 c2 y1 y2 y3
       have y0' := K3.out.2.2.2.2.2.2.2.1.cell (K3.out.1.cell y0 (fun f => f)) (fun f => f)
       clear y0
       go_upto_region 21 with (at_builtin; refine wpList_append_big rfl _ _ rfl w3.heap.size (.slice (some ⟨w3.heap.size, 0, none⟩) 0 0) [] rfl K3.out.2.2.2.2.2.1 _ xdd rfl K3.out.2.2.2.2.1 (by have := K3.out.2.2.2.2.2.2.1; simp; omega) (by rw [← hw4]; simp) ?_; intro vq wu hoq hgq; obtain ⟨pq, cq, eq, _, _⟩ := hoq.sees.len; subst eq; have kq : Old w3 wu := K3.out.2.2.2.2.2.2.2.1.then (T := fun b => (Value.slice (some ⟨w3.heap.size, 0, none⟩) 0 0).ownBlock = some b) ((Keeps.refl _ _).grown hgq (fun b hb _ => hb)) (fun b hb h => by simp [Value.ownBlock] at h; omega); have bq5 := (kq.block _ (lt_of_block K3.out.2.1) (fun f => f)).trans K3.out.2.1; obtain ⟨⟨-, -, -, -, z54⟩, -, -, -, -, hz54⟩ := blk5 bq5; have O5 := Lib.hid (And.intro hoq (And.intro kq bq5)); clear hoq hgq kq bq5)
       simp only [List.nil_append] at O5 ⊢
       obtain ⟨wv, hwv⟩ : ∃ wv, wu.setCell ⟨bq, 4, none⟩ (.slice pq xdd.length cq) = wv := ⟨_, rfl⟩
       rw [hwv]
       have kv : Keeps (fun b => b = bq) wu wv := by rw [← hwv]; exact setAt (Keeps.refl _ _) 4 _
       have bv : wv.heap[bq]? = some (.cells #[.int .u64 (x0 : Int), .int .u64 (x1 : Int), .int .u64 (x2 : Int), .int .u64 (x3 : Int), .slice pq xdd.length cq] 37 (0, 0)) := by
        have := heap_setCell_same _ bq 4 _ _ (.slice pq xdd.length cq) O5.out.2.2
        rw [hwv] at this
        rw [this]
        rfl
       have kcv : Old wc wv := (K3.out.1.trans O5.out.2.1).then kv (fun b hb e => by have := K3.out.2.2.2.1; omega)
       have hfr : ∀ b, (Value.slice pq xdd.length cq).ownBlock = some b → wc.heap.size < b := fun b hb => by
        have h1 := (O5.out.1.block b hb).1
        have h2 := K3.out.2.2.1
        omega
       have sv : Sees wv (.slice pq xdd.length cq) xdd := O5.out.1.sees.keeps kv (fun b hb e => by have h1 := hfr b hb; have := K3.out.2.2.2.1; omega)
       have hxb := (kcv.block bx (lt_of_block G.out.2.2.2.2.2.2.2.2.1) (fun f => f)).trans G.out.2.2.2.2.2.2.2.2.1
       obtain ⟨yv0, -, -, -⟩ := blk4 hxb
       have gv := G.out.1.oldW kcv
       obtain ⟨⟨c0, c1, c2⟩, -, -, -⟩ := wd_cells gv.blk i
       rw [HK.out] at c0 c1 c2
       rw [HVL.out.1] at c1
       have GP := Lib.hid (And.intro gv (And.intro kcv (And.intro bv (And.intro sv hfr))))
       clear kv bv kcv hfr sv hxb gv y0' z4 z54 hz54 hwv hw4
       have hq0 := K3.out.2.2.2.1
       go_upto_region 22 with fail
       have hsee : SeesR wv 5 Pv.cells (.slice (some ⟨rb, ro, none⟩) ln vc) (X i) := by rw [← HVL.out.1]; exact (GP.out.1.ways i).sees (fun _ => rfl) (by decide)
       obtain ⟨pa, ca, hsa, hsa2⟩ := SeesR.upto (T := 45) (E := 37) hsee at_ (by rw [HVL.out.2]; exact Nat.le_of_lt HAT.out.2) Try.underlying45 (by as_aux_lemma => kernel_rfl) .i64 (at_ : Int) rfl
       obtain ⟨pz, cz, hsz, hsz2⟩ := SeesR.from (T := 45) (E := 37) hsee (at_ + 1) (by rw [HVL.out.2]; exact HAT.out.2) Try.underlying45 (by as_aux_lemma => kernel_rfl) .i64 ((at_ : Int) + 1) (by omega)
       obtain ⟨lz, hlz⟩ : ∃ l, (X i).length - (at_ + 1) = l := ⟨_, rfl⟩
       rw [hlz] at hsz hsz2
       obtain ⟨a1, ha1⟩ : ∃ a, (at_ : Int) + 1 = a := ⟨_, rfl⟩
       have hwr : IntKind.i64.wrap a1 = a1 := by rw [← ha1, IntKind.wrap_i64]; have h1 := HAT.out.2; have h2 := H.out.2.2.2.1; have h3 := HVL.out.2; have h4 := G.out.2.2.1.way i; rw [G.out.1.way, List.length_map] at h4; omega
       rw [ha1] at hsz
       have HD := Lib.hid (And.intro hsee (And.intro hsa2 (And.intro hsz2 (And.intro hlz ha1))))
       clear hsee hsa2 hsz2 hlz
       refine wp_region_g (S := fun w' => w'.heap[wb]? = some (.cells (wdCells lb V W.e mb).toArray 71 (0, 0))) (M := List.range 17) (by as_aux_lemma => kernel_rfl) ?_
       obtain ⟨wd, hwd⟩ : ∃ wd, wv.drew = wd := ⟨_, rfl⟩
       have KD : Hid (Old wv wd) := Lib.hid (by rw [← hwd]; exact (Keeps.refl (fun _ => False) wv).drew)
       have hS : wd.heap[wb]? = some (.cells (wdCells lb V W.e mb).toArray 71 (0, 0)) := by rw [← hwd]; exact GP.out.1.blk
       rw [hwd]
       clear hwd c0 c1 c2
       refine wpAnyG_takeL (i := 0) (oi := _) (v := ?ve0) rfl (by as_aux_lemma => kernel_rfl) (by as_aux_lemma => kernel_rfl) (by as_aux_lemma => kernel_rfl) (by as_aux_lemma => kernel_rfl) (fun _ _ _ h => h) (Or.inl ⟨by rfl, ?ye0⟩) hS ?re0
       case ye0 => (intro W hSw; obtain ⟨⟨c0', c1', c2'⟩, -, -, -⟩ := wd_cells hSw i; rw [HK.out] at c0' c1' c2'; rw [HVL.out.1] at c1'; go_simp; try with_reducible rfl)
       try simp only [Act.put, List.setIfInBounds_toArray, List.set_cons_zero, List.set_cons_succ]
       refine wpAnyG_takeL (i := 2) (oi := _) (v := ?ve2) rfl (by as_aux_lemma => kernel_rfl) (by as_aux_lemma => kernel_rfl) (by as_aux_lemma => kernel_rfl) (by as_aux_lemma => kernel_rfl) (fun _ _ _ h => h) (Or.inl ⟨by rfl, ?ye2⟩) hS ?re2
       case ye2 => (intro W hSw; obtain ⟨⟨c0', c1', c2'⟩, -, -, -⟩ := wd_cells hSw i; rw [HK.out] at c0' c1' c2'; rw [HVL.out.1] at c1'; go_simp; try with_reducible rfl)
       try simp only [Act.put, List.setIfInBounds_toArray, List.set_cons_zero, List.set_cons_succ]
       refine wpAnyG_takeL (i := 3) (oi := _) (v := ?ve3) rfl (by as_aux_lemma => kernel_rfl) (by as_aux_lemma => kernel_rfl) (by as_aux_lemma => kernel_rfl) (by as_aux_lemma => kernel_rfl) (fun _ _ _ h => h) (Or.inl ⟨by rfl, ?ye3⟩) hS ?re3
       case ye3 => (intro W hSw; obtain ⟨⟨c0', c1', c2'⟩, -, -, -⟩ := wd_cells hSw i; rw [HK.out] at c0' c1' c2'; rw [HVL.out.1] at c1'; go_simp; try with_reducible rfl)
       try simp only [Act.put, List.setIfInBounds_toArray, List.set_cons_zero, List.set_cons_succ]
       refine wpAnyG_takeL (i := 4) (oi := _) (v := ?ve4) rfl (by as_aux_lemma => kernel_rfl) (by as_aux_lemma => kernel_rfl) (by as_aux_lemma => kernel_rfl) (by as_aux_lemma => kernel_rfl) (fun _ _ _ h => h) (Or.inl ⟨by rfl, ?ye4⟩) hS ?re4
       case ye4 => (intro W hSw; obtain ⟨⟨c0', c1', c2'⟩, -, -, -⟩ := wd_cells hSw i; rw [HK.out] at c0' c1' c2'; rw [HVL.out.1] at c1'; go_simp; try with_reducible rfl)
       try simp only [Act.put, List.setIfInBounds_toArray, List.set_cons_zero, List.set_cons_succ]
       refine wpAnyG_takeL (i := 5) (oi := _) (v := ?ve5) rfl (by as_aux_lemma => kernel_rfl) (by as_aux_lemma => kernel_rfl) (by as_aux_lemma => kernel_rfl) (by as_aux_lemma => kernel_rfl) (fun _ _ _ h => h) (Or.inl ⟨by rfl, ?ye5⟩) hS ?re5
       case ye5 => (intro W hSw; obtain ⟨⟨c0', c1', c2'⟩, -, -, -⟩ := wd_cells hSw i; rw [HK.out] at c0' c1' c2'; rw [HVL.out.1] at c1'; go_simp; try with_reducible rfl)
       try simp only [Act.put, List.setIfInBounds_toArray, List.set_cons_zero, List.set_cons_succ]
       refine wpAnyG_takeL (i := 6) (oi := _) (v := ?ve6) rfl (by as_aux_lemma => kernel_rfl) (by as_aux_lemma => kernel_rfl) (by as_aux_lemma => kernel_rfl) (by as_aux_lemma => kernel_rfl) (fun _ _ _ h => h) (Or.inl ⟨by rfl, ?ye6⟩) hS ?re6
       case ye6 => (intro W hSw; obtain ⟨⟨c0', c1', c2'⟩, -, -, -⟩ := wd_cells hSw i; rw [HK.out] at c0' c1' c2'; rw [HVL.out.1] at c1'; go_simp; try with_reducible rfl)
       try simp only [Act.put, List.setIfInBounds_toArray, List.set_cons_zero, List.set_cons_succ]
       refine wpAnyG_takeL (i := 7) (oi := _) (v := ?ve7) rfl (by as_aux_lemma => kernel_rfl) (by as_aux_lemma => kernel_rfl) (by as_aux_lemma => kernel_rfl) (by as_aux_lemma => kernel_rfl) (fun _ _ _ h => h) (Or.inl ⟨by rfl, ?ye7⟩) hS ?re7
       case ye7 => (intro W hSw; obtain ⟨⟨c0', c1', c2'⟩, -, -, -⟩ := wd_cells hSw i; rw [HK.out] at c0' c1' c2'; rw [HVL.out.1] at c1'; go_simp; try with_reducible rfl)
       try simp only [Act.put, List.setIfInBounds_toArray, List.set_cons_zero, List.set_cons_succ]
       refine wpAnyG_takeL (i := 9) (oi := _) (v := ?ve9) rfl (by as_aux_lemma => kernel_rfl) (by as_aux_lemma => kernel_rfl) (by as_aux_lemma => kernel_rfl) (by as_aux_lemma => kernel_rfl) (fun _ _ _ h => h) (Or.inl ⟨by rfl, ?ye9⟩) hS ?re9
       case ye9 => (intro W hSw; obtain ⟨⟨c0', c1', c2'⟩, -, -, -⟩ := wd_cells hSw i; rw [HK.out] at c0' c1' c2'; rw [HVL.out.1] at c1'; go_simp; try with_reducible rfl)
       try simp only [Act.put, List.setIfInBounds_toArray, List.set_cons_zero, List.set_cons_succ]
       refine wpAnyG_takeL (i := 10) (oi := _) (v := ?ve10) rfl (by as_aux_lemma => kernel_rfl) (by as_aux_lemma => kernel_rfl) (by as_aux_lemma => kernel_rfl) (by as_aux_lemma => kernel_rfl) (fun _ _ _ h => h) (Or.inl ⟨by rfl, ?ye10⟩) hS ?re10
       case ye10 => (intro W hSw; obtain ⟨⟨c0', c1', c2'⟩, -, -, -⟩ := wd_cells hSw i; rw [HK.out] at c0' c1' c2'; rw [HVL.out.1] at c1'; go_simp; try with_reducible rfl)
       try simp only [Act.put, List.setIfInBounds_toArray, List.set_cons_zero, List.set_cons_succ]
       refine wpAnyG_takeL (i := 11) (oi := _) (v := ?ve11) rfl (by as_aux_lemma => kernel_rfl) (by as_aux_lemma => kernel_rfl) (by as_aux_lemma => kernel_rfl) (by as_aux_lemma => kernel_rfl) (fun _ _ _ h => h) (Or.inl ⟨by rfl, ?ye11⟩) hS ?re11
       case ye11 => (intro W hSw; obtain ⟨⟨c0', c1', c2'⟩, -, -, -⟩ := wd_cells hSw i; rw [HK.out] at c0' c1' c2'; rw [HVL.out.1] at c1'; go_simp; try with_reducible rfl)
       try simp only [Act.put, List.setIfInBounds_toArray, List.set_cons_zero, List.set_cons_succ]
       refine wpAnyG_takeL (i := 12) (oi := _) (v := ?ve12) rfl (by as_aux_lemma => kernel_rfl) (by as_aux_lemma => kernel_rfl) (by as_aux_lemma => kernel_rfl) (by as_aux_lemma => kernel_rfl) (fun _ _ _ h => h) (Or.inl ⟨by rfl, ?ye12⟩) hS ?re12
       case ye12 => (intro W hSw; obtain ⟨⟨c0', c1', c2'⟩, -, -, -⟩ := wd_cells hSw i; rw [HK.out] at c0' c1' c2'; rw [HVL.out.1] at c1'; go_simp; try with_reducible rfl)
       try simp only [Act.put, List.setIfInBounds_toArray, List.set_cons_zero, List.set_cons_succ]
       refine wpAnyG_takeL (i := 13) (oi := _) (v := ?ve13) rfl (by as_aux_lemma => kernel_rfl) (by as_aux_lemma => kernel_rfl) (by as_aux_lemma => kernel_rfl) (by as_aux_lemma => kernel_rfl) (fun _ _ _ h => h) (Or.inl ⟨by rfl, ?ye13⟩) hS ?re13
       case ye13 => (intro W hSw; obtain ⟨⟨c0', c1', c2'⟩, -, -, -⟩ := wd_cells hSw i; rw [HK.out] at c0' c1' c2'; rw [HVL.out.1] at c1'; go_simp; try with_reducible rfl)
       try simp only [Act.put, List.setIfInBounds_toArray, List.set_cons_zero, List.set_cons_succ]
       refine wpAnyG_takeL (i := 14) (oi := _) (v := ?ve14) rfl (by as_aux_lemma => kernel_rfl) (by as_aux_lemma => kernel_rfl) (by as_aux_lemma => kernel_rfl) (by as_aux_lemma => kernel_rfl) (fun _ _ _ h => h) (Or.inl ⟨by rfl, ?ye14⟩) hS ?re14
       case ye14 => (intro W hSw; obtain ⟨⟨c0', c1', c2'⟩, -, -, -⟩ := wd_cells hSw i; rw [HK.out] at c0' c1' c2'; rw [HVL.out.1] at c1'; go_simp; try with_reducible rfl)
       try simp only [Act.put, List.setIfInBounds_toArray, List.set_cons_zero, List.set_cons_succ]
       refine wpAnyG_takeL (i := 15) (oi := _) (v := ?ve15) rfl (by as_aux_lemma => kernel_rfl) (by as_aux_lemma => kernel_rfl) (by as_aux_lemma => kernel_rfl) (by as_aux_lemma => kernel_rfl) (fun _ _ _ h => h) (Or.inl ⟨by rfl, ?ye15⟩) hS ?re15
       case ye15 => (intro W hSw; obtain ⟨⟨c0', c1', c2'⟩, -, -, -⟩ := wd_cells hSw i; rw [HK.out] at c0' c1' c2'; rw [HVL.out.1] at c1'; go_simp; try with_reducible rfl)
       try simp only [Act.put, List.setIfInBounds_toArray, List.set_cons_zero, List.set_cons_succ]
       obtain ⟨we, hwe⟩ : ∃ we, wd.alloc (.cells #[] 37) = we := ⟨_, rfl⟩
       have ke : Old wd we := by rw [← hwe]; exact (Keeps.refl _ _).alloc _
       have oe : OwnsR we wd.heap.size 37 5 Pv.cells (.slice (some ⟨wd.heap.size, 0, none⟩) 0 0) ([] : List Pv) := by rw [← hwe]; exact OwnsR.lit20 wd
       have hSe : we.heap[wb]? = some (.cells (wdCells lb V W.e mb).toArray 71 (0, 0)) := (ke.block _ (lt_of_block hS) (fun f => f)).trans hS
       have HE1 := Lib.hid (And.intro ke oe)
       clear ke oe
       refine wpAnyG_onlyL (i := 1) (o := _) (by as_aux_lemma => kernel_rfl) rfl (fun K hK => ?_)
       go_simp
       clear hwe
       refine hK.out _ _ (fun _ => hSe) ?_
       clear hK K
       try simp only [Act.put, List.setIfInBounds_toArray, List.set_cons_zero, List.set_cons_succ]
       have hlenX : (X i).length ≤ 20000 := by have h1 := G.out.2.2.1.way i; rw [G.out.1.way, List.length_map] at h1; have := H.out.2.2.2.1; omega
       have HC : Hid (∀ x : Pv, x ∈ X i → ∀ c ∈ Pv.cells x, c.oneCell' = true) := Lib.hid (fun x hx c hc => by
        obtain ⟨p, c', e, _, _⟩ := ((GP.out.1.data wv (Keeps.refl _ _)).2 i x hx).1.len
        simp only [Pv.cells, e, List.mem_cons, List.not_mem_nil, or_false] at hc
        rcases hc with rfl | rfl | rfl | rfl | rfl <;> rfl)
       have HN := Lib.hid (And.intro (show ([] : List Pv).length + ((X i).take at_).length ≤ maxLen by rw [List.length_take]; simp only [List.length_nil]; unfold maxLen; omega) (And.intro (show (([] : List Pv).length + ((X i).take at_).length) * 56 ≤ 140737488355328 by rw [List.length_take]; simp only [List.length_nil]; omega) (And.intro HE1.out.1.size hlenX)))
       clear hlenX
       have HO := Lib.hid (HD.out.2.1 we ((HD.out.1.old KD.out).old HE1.out.1))
       refine wpAnyG_onlyL (i := 8) (o := _) (by as_aux_lemma => kernel_rfl) rfl (fun K hK => ?_)
       refine step_append_rows (P := Try.prog) rfl _ _ 45 rfl wd.heap.size 37 5 56 Pv.cells _ Try.underlying45 Try.infoPk rfl (by decide) _ ([] : List Pv) (by rfl) HE1.out.2 _ ((X i).take at_) (by rfl) HO.out (fun _ _ => rfl) (fun x hx => HC.out x (List.mem_of_mem_take hx)) HN.out.1 HN.out.2.1 HN.out.2.2.1 ?_
       intro v5 w5 ho5 hg5 hv5
       rw [List.nil_append] at ho5
       have k5 : Old wd w5 := HE1.out.1.then (T := fun b => (Value.slice (some ⟨wd.heap.size, 0, none⟩) 0 0).ownBlock = some b) ((Keeps.refl _ _).grown hg5 (fun b hb _ => hb)) (fun b hb e => by have := (HE1.out.2.block b e).1; omega)
       have hS5 : w5.heap[wb]? = some (.cells (wdCells lb V W.e mb).toArray 71 (0, 0)) := (k5.block _ (lt_of_block hS) (fun f => f)).trans hS
       obtain ⟨p5, c5, e5, _, _⟩ := (ho5.sees (fun _ => rfl) (by decide)).len
       obtain ⟨l5, hl5⟩ : ∃ l, ((X i).take at_).length = l := ⟨_, rfl⟩
       rw [hl5] at e5
       subst e5
       have HE2 := Lib.hid (And.intro k5 (And.intro ho5 hl5))
       clear k5 ho5 hg5 hv5 hl5
       refine hK.out _ _ (fun _ => hS5) ?_
       clear hK K
       try simp only [Act.put, List.setIfInBounds_toArray, List.set_cons_zero, List.set_cons_succ]
       have HO2 := Lib.hid (HD.out.2.2.1 w5 ((HD.out.1.old KD.out).old HE2.out.1))
       have HN2 := Lib.hid (And.intro (show ((X i).take at_).length + ((X i).drop (at_ + 1)).length ≤ maxLen by have := HN.out.2.2.2; rw [List.length_take, List.length_drop]; unfold maxLen; omega) (And.intro (show (((X i).take at_).length + ((X i).drop (at_ + 1)).length) * 56 ≤ 140737488355328 by have := HN.out.2.2.2; rw [List.length_take, List.length_drop]; omega) (show wd.heap.size ≤ w5.heap.size from HE2.out.1.size)))
       refine wpAnyG_onlyL (i := 16) (o := _) (by as_aux_lemma => kernel_rfl) rfl (fun K hK => ?_)
       refine step_append_rows (P := Try.prog) rfl _ _ 45 rfl wd.heap.size 37 5 56 Pv.cells _ Try.underlying45 Try.infoPk rfl (by decide) _ ((X i).take at_) (by rfl) HE2.out.2.1 _ ((X i).drop (at_ + 1)) (by rfl) HO2.out (fun _ _ => rfl) (fun x hx => HC.out x (List.mem_of_mem_drop hx)) HN2.out.1 HN2.out.2.1 HN2.out.2.2 ?_
       intro v6 w6 ho6 hg6 hv6
       have k6 : Old wd w6 := HE2.out.1.then (T := fun b => (Value.slice p5 l5 c5).ownBlock = some b) ((Keeps.refl _ _).grown hg6 (fun b hb _ => hb)) (fun b hb e => by have := (HE2.out.2.1.block b e).1; omega)
       have hS6 : w6.heap[wb]? = some (.cells (wdCells lb V W.e mb).toArray 71 (0, 0)) := (k6.block _ (lt_of_block hS) (fun f => f)).trans hS
       obtain ⟨p6, c6, e6, _, _⟩ := (ho6.sees (fun _ => rfl) (by decide)).len
       obtain ⟨l6, hl6⟩ : ∃ l, ((X i).take at_ ++ (X i).drop (at_ + 1)).length = l := ⟨_, rfl⟩
       rw [hl6] at e6
       subst e6
       have HE3 := Lib.hid (And.intro k6 ho6)
       clear k6 ho6 hg6 hv6 hl6
       refine hK.out _ _ (fun _ => hS6) ?_
       clear hK K
       try simp only [Act.put, List.setIfInBounds_toArray, List.set_cons_zero, List.set_cons_succ]
       obtain ⟨⟨z0', z1', z2'⟩, -, -, hfz6⟩ := wd_cells hS6 i
       rw [HK.out, HVL.out.1] at z1'
       have hfz1 := hfz6 (k * 3 + 1)
       clear z0' z2' hfz6
       refine wpAnyG_onlyL (i := 17) (o := _) (by as_aux_lemma => kernel_rfl) rfl (fun K hK => ?_)
       go_simp
       refine hK.out _ _ (fun h => absurd h (by decide)) ?_
       clear hK K
       try simp only [Act.put, List.setIfInBounds_toArray, List.set_cons_zero, List.set_cons_succ]
       refine wpAnyG_onlyL (i := 18) (o := _) (by as_aux_lemma => kernel_rfl) rfl (fun K hK => ?_)
       go_simp
       refine hK.out _ _ (fun h => absurd h (by decide)) ?_
       clear hK K
       try simp only [Act.put, List.setIfInBounds_toArray, List.set_cons_zero, List.set_cons_succ]
       refine wpAnyG_onlyL (i := 19) (o := _) (by as_aux_lemma => kernel_rfl) rfl (fun K hK => ?_)
       go_simp
       refine hK.out _ _ (fun h => absurd h (by decide)) ?_
       clear hK K
       try simp only [Act.put, List.setIfInBounds_toArray, List.set_cons_zero, List.set_cons_succ]
       refine wpAnyG_done (by as_aux_lemma => kernel_rfl) ?_ _
       clear hS hSe hS5 hS6 z1' hfz1 hsa hsz hwr ha1
       obtain ⟨wz, hwz⟩ : ∃ wz, w6.setCell ⟨wb, k * 3 + 1, none⟩ (.slice p6 l6 c6) = wz := ⟨_, rfl⟩
       rw [hwz]
       have gz : ∃ own' V' X', Wm w0 wz wb lb R own' mb F V' X' { W with way := upd W.way i ((W.way i).eraseIdx at_) } := by
        rw [← hwz]
        exact GP.out.1.cutWay i at_ wd.heap.size (.slice p6 l6 c6) HE3.out.2 KD.out.size (KD.out.trans HE3.out.1) k HK.out
       have kwz : Keeps (fun b => b = wb) wv wz := by
        rw [← hwz]
        exact ((KD.out.trans HE3.out.1).weaken (fun _ _ f => f.elim)).trans (setAt (Keeps.refl _ _) (k * 3 + 1) _)
       clear hwz
       obtain ⟨own', V', X', gz⟩ := gz
       obtain ⟨hpv, hps, hpl⟩ := HP.out
       obtain ⟨gv, kcv, bv, sv, hfr⟩ := GP.out
       obtain ⟨_, hi, hb, _⟩ := G.out
       have hn := H.out.2.2.2.1
       have hwbl := lt_of_block G.out.1.blk
       have hzv := kcv.size
       have bz := (kwz.block bq (lt_of_block bv) (by omega)).trans bv
       obtain ⟨⟨z0, z1, z2, z3, z4⟩, -⟩ := blk5 bz
       have sz : Sees wz (.slice pq xdd.length cq) xdd := sv.keeps kwz (fun b hb' e => by have := hfr b hb'; omega)
       have hmem : (⟨x0, x1, x2, x3, xdd⟩ : Pk) ∈ W.way i := by
        rw [G.out.1.way]
        exact List.mem_map.2 ⟨_, List.mem_of_getElem? hpv, rfl⟩
       have hget : (W.way i)[aw' % (W.way i).length]? = some ⟨x0, x1, x2, x3, xdd⟩ := by
        have hwl : (W.way i).length = ln := by rw [G.out.1.way, List.length_map]; exact HVL.out.2
        rw [hwl, ← HAT.out.1, G.out.1.way, List.getElem?_map, hpv]
        rfl
       have hin := hi.take i ⟨x0, x1, x2, x3, xdd⟩ ((hi.1 i).way _ hmem) (.inl hmem)
       have hwl : (W.way i).length = ln := by rw [G.out.1.way, List.length_map]; exact HVL.out.2
       have hT : (Wd.take { W with way := upd W.way i ((W.way i).eraseIdx at_) } i ⟨x0, x1, x2, x3, xdd⟩).2 = true := by rw [take_way]; exact hin.2.1
       have TK := wtake_any i ⟨x0, x1, x2, x3, .slice pq xdd.length cq, xdd⟩ gz ⟨HE.out, WB.win hi i, by have := hb.waits hi i; show (W.e i).last < _; omega, by have := hb.next hi i; show (W.e i).next < _; omega, sz, hpl, fun b hb' hr => by have h1 := hfr b hb'; have h2 := (G.out.1.duo.lt i).1 b hr; omega, fun s q r => by
         cases s
         ·have h1 := hb.sent q r; rw [G.out.1.sent, List.length_map] at h1; omega
         ·have h1 := hb.told hi q r; rw [G.out.1.told, List.length_map] at h1; omega⟩ hT
       rw [HK.out] at TK
       simp only [Pv.cells, Pv.plain] at TK
       have TC := Lib.hid TK
       have ew : (W.step sx).1 = (Wd.take { W with way := upd W.way i ((W.way i).eraseIdx at_) } i ⟨x0, x1, x2, x3, xdd⟩).1 := by rw [EW.out, hget, hwl, ← HAT.out.1]
       have EW2 := Lib.hid ew
       clear gz hpv hps hpl gv kcv bv sv hfr hi hb hn hwbl hzv bz sz hmem hget hin hwl hT TK ew kwz hq0
       go_wp2_with fail
       refine TC.out.mono ?_
       rintro e w9 ⟨rfl, hx9⟩
       have X9 := Lib.hid hx9
       clear hx9
       go_wp2_with fail
       go_ret
       refine ⟨rfl, ?_⟩
       rw [EW2.out]
       exact X9.out
     ·have hHV := H.out.2.2.2.2.2.2.2.2.1
      have hHL := H.out.2.2.2.2.2.2.2.2.2.1
      rw [hHL] at hHV
      have HVL := Lib.hid (And.intro hHV hHL)
      have ew : (W.step sx).1 = (match (W.way i)[aw' % (W.way i).length]? with | none => W | some p => (Wd.take W i p).1) := by
       obtain ⟨_, _, _, ek, hsw, _, hsa, _⟩ := G.out
       unfold Wd.step
       rw [hsw, ek, hsa, h34]
       dsimp only
       rw [if_neg (by decide), if_neg (by decide), if_neg (by decide), if_pos (by decide)]
       generalize (W.way i)[aw' % (W.way i).length]? = q
       cases q with
       | none => rfl
       | some p => first | rw [if_pos rfl] | rw [if_neg (by decide)]
      have EW := Lib.hid ew
      have HW4 := Lib.hid h34
      subst h34
      clear hHV hHL ew n0 n1 n2 h0 h1 h2
      by_cases hl0 : ln = 0
      ·have g1 : decide (0 < ln) = false := by simp; omega
       have g2 : decide ((ln : Int) > 0) = false := by simp; omega
       have HL0 := Lib.hid hl0
       clear hl0
       go_wp2_with fail
       go_meet
       case rel =>
        have hw : W.way i = [] := by rw [G.out.1.way, List.length_eq_zero_iff.1 (HVL.out.2.trans HL0.out)]; rfl
        have ee : (W.step sx).1 = W := by rw [EW.out, hw]; rfl
        rw [ee]
        exact ⟨⟨_, _, _, _, _, _, _, G.out.1⟩, trivial⟩
      ·have g1 : decide (0 < ln) = true := by simp; omega
       have g2 : decide ((ln : Int) > 0) = true := by simp; omega
       have hpos : 0 < ln := by omega
       have HAT := Lib.hid (show at_ = aw' % ln ∧ at_ < ln from ⟨G.out.2.2.2.2.2.2.2.1 hpos, by rw [G.out.2.2.2.2.2.2.2.1 hpos]; exact Nat.mod_lt _ hpos⟩)
       have hsee : SeesR wc 5 Pv.cells (V i) (X i) := (G.out.1.ways i).sees (fun _ => rfl) (by decide)
       have hatX : at_ < (X i).length := by rw [HVL.out.2]; exact HAT.out.2
       obtain ⟨pv, hpv⟩ : ∃ pv, (X i)[at_]? = some pv := ⟨_, List.getElem?_eq_getElem hatX⟩
       have hpm : pv ∈ X i := List.mem_of_getElem? hpv
       obtain ⟨hps, hpl⟩ := (G.out.1.data wc (Keeps.refl _ _)).2 i pv hpm
       obtain ⟨rb, ro, rc, hrv, _, _, hat⟩ := hsee.at (by omega)
       rw [HVL.out.1, HVL.out.2] at hrv
       simp only [Value.slice.injEq, true_and] at hrv
       obtain ⟨rfl, rfl⟩ := hrv
       obtain ⟨x0, x1, x2, x3, xv, xdd⟩ := pv
       obtain ⟨dp, dc, hdv, hdc, hdm⟩ := hps.len
       simp only at hdv hps hpl
       subst hdv
       have e0 := hat at_ _ hpv 0 _ rfl
       rw [Nat.add_zero] at e0
       have e1 := hat at_ _ hpv 1 _ rfl
       have e2' := hat at_ _ hpv 2 _ rfl
       have e3 := hat at_ _ hpv 3 _ rfl
       have e4 := hat at_ _ hpv 4 _ rfl
       have ci0 : (0 : Int) ≤ (at_ : Int) := by omega
       have ci1 : (at_ : Int) < (ln : Int) := by have := HAT.out.2; omega
       simp only at e0 e1 e2' e3 e4
       have HP := Lib.hid (And.intro hpv (And.intro hps hpl))
       obtain ⟨w3, hw3⟩ : ∃ w3, wc.alloc (.cells #[.int .u64 (x0 : Int), .int .u64 (x1 : Int), .int .u64 (x2 : Int), .int .u64 (x3 : Int), .slice dp xdd.length dc] 37) = w3 := ⟨_, rfl⟩
       have k3 : Old wc w3 := by rw [← hw3]; exact (Keeps.refl _ _).alloc _
       have b3 : w3.heap[wc.heap.size]? = some (.cells #[.int .u64 (x0 : Int), .int .u64 (x1 : Int), .int .u64 (x2 : Int), .int .u64 (x3 : Int), .slice dp xdd.length dc] 37 (0, 0)) := by rw [← hw3]; exact heap_alloc_new _ _
       have hz3 : w3.heap.size = wc.heap.size + 1 := by rw [← hw3]; simp
       obtain ⟨bq, hbq⟩ : ∃ b, wc.heap.size = b := ⟨_, rfl⟩
       rw [hbq] at b3
       have ow3 : Owns (w3.alloc (.cells #[] 5)) w3.heap.size (.slice (some ⟨w3.heap.size, 0, none⟩) 0 0) [] := Owns.lit w3 w3.heap.size [] (Nat.le_refl _) (Nat.zero_le _)
       obtain ⟨w4, hw4⟩ : ∃ w4, w3.alloc (.cells #[] 5) = w4 := ⟨_, rfl⟩
       have k4 : Old w3 w4 := by rw [← hw4]; exact (Keeps.refl _ _).alloc _
       rw [hw4] at ow3
       have b4 := (k4.block _ (lt_of_block b3) (fun f => f)).trans b3
       obtain ⟨⟨-, -, -, -, z4⟩, -⟩ := blk5 b4
       have K3 := Lib.hid (And.intro k3 (And.intro b3 (And.intro hz3 (And.intro hbq (And.intro ((hps.old k3).old k4) (And.intro ow3 (And.intro hpl (And.intro k4 b4))))))))
       clear hl0 hpos hsee hatX hpv hpm hps hpl hat k3 b3 hz3 ow3 k4 b4
       go_upto_region 20 with fail
       clear hw3 e0 e1 e2' e3 e4 ci0 ci1 c0 c1 c2 y1 y2 y3
       have y0' := K3.out.2.2.2.2.2.2.2.1.cell (K3.out.1.cell y0 (fun f => f)) (fun f => f)
       clear y0
       go_upto_region 21 with (at_builtin; refine wpList_append_big rfl _ _ rfl w3.heap.size (.slice (some ⟨w3.heap.size, 0, none⟩) 0 0) [] rfl K3.out.2.2.2.2.2.1 _ xdd rfl K3.out.2.2.2.2.1 (by have := K3.out.2.2.2.2.2.2.1; simp; omega) (by rw [← hw4]; simp) ?_; intro vq wu hoq hgq; obtain ⟨pq, cq, eq, _, _⟩ := hoq.sees.len; subst eq; have kq : Old w3 wu := K3.out.2.2.2.2.2.2.2.1.then (T := fun b => (Value.slice (some ⟨w3.heap.size, 0, none⟩) 0 0).ownBlock = some b) ((Keeps.refl _ _).grown hgq (fun b hb _ => hb)) (fun b hb h => by simp [Value.ownBlock] at h; omega); have bq5 := (kq.block _ (lt_of_block K3.out.2.1) (fun f => f)).trans K3.out.2.1; obtain ⟨⟨-, -, -, -, z54⟩, -, -, -, -, hz54⟩ := blk5 bq5; have O5 := Lib.hid (And.intro hoq (And.intro kq bq5)); clear hoq hgq kq bq5)
       simp only [List.nil_append] at O5 ⊢
       obtain ⟨wv, hwv⟩ : ∃ wv, wu.setCell ⟨bq, 4, none⟩ (.slice pq xdd.length cq) = wv := ⟨_, rfl⟩
       rw [hwv]
       have kv : Keeps (fun b => b = bq) wu wv := by rw [← hwv]; exact setAt (Keeps.refl _ _) 4 _
       have bv : wv.heap[bq]? = some (.cells #[.int .u64 (x0 : Int), .int .u64 (x1 : Int), .int .u64 (x2 : Int), .int .u64 (x3 : Int), .slice pq xdd.length cq] 37 (0, 0)) := by
        have := heap_setCell_same _ bq 4 _ _ (.slice pq xdd.length cq) O5.out.2.2
        rw [hwv] at this
        rw [this]
        rfl
       have kcv : Old wc wv := (K3.out.1.trans O5.out.2.1).then kv (fun b hb e => by have := K3.out.2.2.2.1; omega)
       have hfr : ∀ b, (Value.slice pq xdd.length cq).ownBlock = some b → wc.heap.size < b := fun b hb => by
        have h1 := (O5.out.1.block b hb).1
        have h2 := K3.out.2.2.1
        omega
       have sv : Sees wv (.slice pq xdd.length cq) xdd := O5.out.1.sees.keeps kv (fun b hb e => by have h1 := hfr b hb; have := K3.out.2.2.2.1; omega)
       have hxb := (kcv.block bx (lt_of_block G.out.2.2.2.2.2.2.2.2.1) (fun f => f)).trans G.out.2.2.2.2.2.2.2.2.1
       obtain ⟨yv0, -, -, -⟩ := blk4 hxb
       have gv := G.out.1.oldW kcv
       obtain ⟨⟨c0, c1, c2⟩, -, -, -⟩ := wd_cells gv.blk i
       rw [HK.out] at c0 c1 c2
       rw [HVL.out.1] at c1
       have GP := Lib.hid (And.intro gv (And.intro kcv (And.intro bv (And.intro sv hfr))))
       clear kv bv kcv hfr sv hxb gv y0' z4 z54 hz54 hwv hw4
       have hq0 := K3.out.2.2.2.1
       have gz : ∃ own' V' X', Wm w0 wv wb lb R own' mb F V' X' W := ⟨_, _, _, GP.out.1⟩
       obtain ⟨wz, hwz⟩ : ∃ wz, wv = wz := ⟨_, rfl⟩
       have kwz : Keeps (fun b => b = wb) wv wz := by rw [← hwz]; exact Keeps.refl _ _
       rw [hwz] at gz yv0 ⊢
       clear hwz
       obtain ⟨own', V', X', gz⟩ := gz
       obtain ⟨hpv, hps, hpl⟩ := HP.out
       obtain ⟨gv, kcv, bv, sv, hfr⟩ := GP.out
       obtain ⟨_, hi, hb, _⟩ := G.out
       have hn := H.out.2.2.2.1
       have hwbl := lt_of_block G.out.1.blk
       have hzv := kcv.size
       have bz := (kwz.block bq (lt_of_block bv) (by omega)).trans bv
       obtain ⟨⟨z0, z1, z2, z3, z4⟩, -⟩ := blk5 bz
       have sz : Sees wz (.slice pq xdd.length cq) xdd := sv.keeps kwz (fun b hb' e => by have := hfr b hb'; omega)
       have hmem : (⟨x0, x1, x2, x3, xdd⟩ : Pk) ∈ W.way i := by
        rw [G.out.1.way]
        exact List.mem_map.2 ⟨_, List.mem_of_getElem? hpv, rfl⟩
       have hget : (W.way i)[aw' % (W.way i).length]? = some ⟨x0, x1, x2, x3, xdd⟩ := by
        have hwl : (W.way i).length = ln := by rw [G.out.1.way, List.length_map]; exact HVL.out.2
        rw [hwl, ← HAT.out.1, G.out.1.way, List.getElem?_map, hpv]
        rfl
       have hin := hi.take i ⟨x0, x1, x2, x3, xdd⟩ ((hi.1 i).way _ hmem) (.inl hmem)
       have hwl : (W.way i).length = ln := by rw [G.out.1.way, List.length_map]; exact HVL.out.2
       have hT : (Wd.take W i ⟨x0, x1, x2, x3, xdd⟩).2 = true := hin.2.1
       have TK := wtake_any i ⟨x0, x1, x2, x3, .slice pq xdd.length cq, xdd⟩ gz ⟨HE.out, WB.win hi i, by have := hb.waits hi i; show (W.e i).last < _; omega, by have := hb.next hi i; show (W.e i).next < _; omega, sz, hpl, fun b hb' hr => by have h1 := hfr b hb'; have h2 := (G.out.1.duo.lt i).1 b hr; omega, fun s q r => by
         cases s
         ·have h1 := hb.sent q r; rw [G.out.1.sent, List.length_map] at h1; omega
         ·have h1 := hb.told hi q r; rw [G.out.1.told, List.length_map] at h1; omega⟩ hT
       rw [HK.out] at TK
       simp only [Pv.cells, Pv.plain] at TK
       have TC := Lib.hid TK
       have ew : (W.step sx).1 = (Wd.take W i ⟨x0, x1, x2, x3, xdd⟩).1 := by rw [EW.out, hget]
       have EW2 := Lib.hid ew
       clear gz hpv hps hpl gv kcv bv sv hfr hi hb hn hwbl hzv bz sz hmem hget hin hwl hT TK ew kwz hq0
       go_wp2_with fail
       refine TC.out.mono ?_
       rintro e w9 ⟨rfl, hx9⟩
       have X9 := Lib.hid hx9
       clear hx9
       go_wp2_with fail
       go_ret
       refine ⟨rfl, ?_⟩
       rw [EW2.out]
       exact X9.out
    exact absurd HW0.out h34
  case rest =>
   obtain ⟨⟨lb', R', own', mb', F', V', X', g'⟩, _⟩ := hcut
   obtain ⟨⟨c0', -, -⟩, -, -, -⟩ := wd_cells g'.blk i
   rw [HK.out] at c0'
   obtain ⟨j', hj', _⟩ := G.out.2.1.step sx
   have hw8 := WB.win hj' i
   obtain ⟨wn, hwn⟩ : ∃ n, ((W.step sx).1.e i).win.length = n := ⟨_, rfl⟩
   have FC := Lib.hid (lk_flying (g'.duo i))
   rw [hwn] at FC hw8
   have h8 : decide ((wn : Int) ≤ 8) = true := by simp; omega
   have h8' : decide (wn ≤ 8) = true := by simp; omega
   have Q := Lib.hid g'
   clear g' hj' hwn hw8 c0 c1 c2 y0 y1 y2 y3
   go_wp2_with fail
   refine FC.out.mono ?_
   rintro e wz ⟨rfl, rfl⟩
   go_wp2_with fail
   go_ret
   exact ⟨rfl, _, _, _, _, _, _, _, Q.out⟩
end Go.Proofs.Ytllnlimbfoingaa
