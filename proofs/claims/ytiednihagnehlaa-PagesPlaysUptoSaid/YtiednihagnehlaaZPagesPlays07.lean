/- DERIVED. Chapter 25: the walk of PagesPlays. (gen_qw.py wrote it) -/
import Derived.Test.YtiednihagnehlaaZPagesPlays06
import Derived.BigQuiet
import Derived.Deep.QuietTactic
import Derived.Deep.CutBlock
import Derived.Deep.DeepCutAuto
import Derived.Deep.LoopGhost
import Derived.IntWalk
/- AUX -/
namespace Go.Proofs.Ytiednihagnehlaa
open Go.RowKit Go.Great

attribute [-go_sem] loadVar storeVar
/-- what the calls read as -/
def OpIn (w : World) (l : List Opq) : Prop := ∀ o ∈ l, o.m.fine w ∧ o.m.ps.length ≤ 1048576
set_option maxRecDepth 100000 in
theorem pplays_no (most : Int) (v : Value) (w : World) (h : most < 1 ∨ 4096 < most) : Calls Try.prog 4 #[.int .i64 most, v] w fun e w' => e = .returned (.bool true) ∧ Old w w' := by
 have C1 := Lib.hid (new_no most w h)
 have C2 := Lib.hid (rnew_no most w h)
 have C3 := Lib.hid (pwakes_any w)
 clear h
 go_enter Try.func4, Try.ntmps4
 go_wp2_with fail
 refine C1.out.mono ?_
 rintro e w1 ⟨rfl, rfl⟩
 go_wp2_with fail
 refine C2.out.mono ?_
 rintro e w1 ⟨rfl, rfl⟩
 go_wp2_with fail
 refine C3.out.mono ?_
 rintro e w1 ⟨rfl, o1⟩
 have O1 := Lib.hid o1
 clear o1
 go_wp2_with fail
 go_ret
 exact ⟨rfl, O1.out⟩
set_option maxRecDepth 100000 in
set_option maxHeartbeats 8000000 in
theorem pplays_yes (most : Nat) (v : Value) (ops : List Opq) (w : World) (hm : 1 ≤ most ∧ most ≤ 4096) (hv : SeesR w 20 opL v ops) (hin : OpIn w ops) : Calls Try.prog 4 #[.int .i64 (most : Int), v] w fun e w' => e = .returned (.bool true) ∧ Old w w' := by
 have q1 : ∀ a W, (loadVar 3 a).run Try.prog W = (load a).run Try.prog W := fun _ _ => by kernel_rfl
 have q2 : ∀ a W, (loadVar 28 a).run Try.prog W = (load a).run Try.prog W := fun _ _ => by kernel_rfl
 have q3 : ∀ a W, (loadVar 30 a).run Try.prog W = (load a).run Try.prog W := fun _ _ => by kernel_rfl
 have q4 : ∀ a W, (loadVar 76 a).run Try.prog W = (load a).run Try.prog W := fun _ _ => by kernel_rfl
 obtain ⟨vp, vc, rfl, hle, hmx⟩ := hv.len
 have hlm : ops.length ≤ 9223372036854775807 := by unfold maxLen at hmx; omega
 have HI := Lib.hid (And.intro hv hin)
 have C1 := Lib.hid (new_yes most w hm)
 have HM := Lib.hid hm
 clear hv hin hle hmx hm
 go_enter Try.func4, Try.ntmps4
 go_wp2_with fail
 refine C1.out.mono ?_
 rintro e w1 ⟨qb, rfl, hqe, o1, h1⟩
 have C2 := Lib.hid (rnew_yes most w1 HM.out)
 have F1 := Lib.hid (And.intro hqe (And.intro o1 h1))
 clear hqe o1 h1 C1
 go_wp2_with fail
 refine C2.out.mono ?_
 rintro e w2 ⟨rfl, o2, h2⟩
 obtain ⟨rb, hrb⟩ : ∃ rb, w1.heap.size = rb := ⟨_, rfl⟩
 have C3 := Lib.hid (pwakes_any w2)
 have S0 : Hid (TwoE w w2 qb rb most 0) := Lib.hid (by
  obtain ⟨hqe, o1, h1⟩ := F1.out
  have hq := h1 (fun _ => False) (fun _ f => f.elim)
  have z1 := o1.size
  have z2 := o2.size
  have hql := hq.lt
  have hd := h2 (fun k => (k = qb ∨ k = rb) ∧ k ≠ rb) (fun k t => by rcases t.1 with e | e; (subst e; omega); exact absurd e t.2)
  rw [hrb] at hd
  have hrl := hd.lt.1
  refine ⟨fun k => k = qb, fun k => k = qb ∨ k = rb, [], ⟨?_, hd, .inr rfl, by show ¬ rb = qb; omega, fun k s => by rcases s with s | s <;> omega, o1.trans o2⟩, Nat.le_refl _⟩
  have hq' : QuP (fun k => k = qb) (fun k => False ∨ k = qb) w1 qb most [] := ⟨[], rfl, hq⟩
  refine hq'.other (R1 := fun _ => False) o2 (fun _ f => f.elim) (fun _ _ f => f) (fun k s => by rcases s with s | s; exact s.elim; exact .inl s) (fun k s => by rcases s with s | s; exact .inl (.inr s); exact .inr (by omega)) (fun k s => by rcases s with s | s <;> omega))
 rw [hrb]
 clear hrb o2 h2 F1 C2
 go_wp2_with fail
 refine C3.out.mono ?_
 rintro e w3 ⟨rfl, o3⟩
 have S1 : Hid (TwoE w w3 qb rb most 0) := Lib.hid (S0.out.old o3)
 clear o3 C3 S0
 go_wp2_with fail
 go_loopg [5, 9] ops.length (fun n v5 v9 wm => ∃ i q : Nat, i ≤ ops.length ∧ i ≤ 80 ∧ n = ops.length - i ∧ v5 = .pointer (some ⟨q, 0, none⟩) ∧ v9 = .int .i64 (i : Int) ∧ TwoE w wm q rb most i)
 case atStart => exact ⟨0, qb, Nat.zero_le _, by omega, rfl, rfl, rfl, S1.out⟩
 case round =>
  obtain ⟨i, q, hi, hi2, rfl, rfl, rfl, hS⟩ := hrel
  obtain ⟨wo, rfl⟩ : ∃ wo : World, wo = wr := ⟨_, rfl⟩
  by_cases hlt : i < ops.length
  case neg =>
   have z1 : decide ((i : Int) < (ops.length : Int)) = false := by simp; omega
   have z1' : decide (i < ops.length) = false := by simp; omega
   have HO := Lib.hid hS.from
   clear hS hlt hi hi2
   go_wp2_with fail
   refine bodyPost_ret (v := .bool true) ?_ rfl ⟨rfl, HO.out⟩
   simp [results, Try.results4, go_sem]
  have z1 : decide ((i : Int) < (ops.length : Int)) = true := by simp; omega
  have z1' : decide (i < ops.length) = true := by simp; omega
  by_cases h80 : i < 80
  case neg =>
   have z2 : decide ((i : Int) < 80) = false := by simp; omega
   have z2' : decide (i < 80) = false := by simp; omega
   have HO := Lib.hid hS.from
   clear hS hlt hi hi2 h80
   go_wp2_with fail
   refine bodyPost_ret (v := .bool true) ?_ rfl ⟨rfl, HO.out⟩
   simp [results, Try.results4, go_sem]
  have z2 : decide ((i : Int) < 80) = true := by simp; omega
  have z2' : decide (i < 80) = true := by simp; omega
  obtain ⟨b, o, cc, he, _, _, hc⟩ := HI.out.1.at (by omega)
  simp only [Value.slice.injEq, true_and] at he
  obtain ⟨rfl, rfl⟩ := he
  obtain ⟨x, hx⟩ : ∃ x, ops[i]? = some x := ⟨_, List.getElem?_eq_getElem hlt⟩
  have hxi := HI.out.2 x (List.mem_of_getElem? hx)
  have hwo := hS.from
  have lo := load_opw (w := wo) (x := x) (b := b) (o := o + i * 20) (fun j u hu => hwo.cell (hc i x hx j u hu) (fun f => f))
  have hone : (opL x).toArray.all (·.oneCell') = true := by
   have := hxi.1.one
   rw [Array.all_eq_true_iff_forall_mem] at this ⊢
   intro u hu
   have hu : u = .int .i64 x.what ∨ u = .int .i64 x.link ∨ u ∈ x.m.cells := by simpa [opL] using hu
   rcases hu with rfl | rfl | hu
   ·rfl
   ·rfl
   ·exact this u (by simpa using hu)
  have i1 : (0 : Int) ≤ (i : Int) := by omega
  have i2 : (i : Int) < (ops.length : Int) := by omega
  obtain ⟨wa, hwa⟩ : ∃ W, wo.alloc (.cells (opL zeroOp).toArray 62) = W := ⟨_, rfl⟩
  have ba : wa.heap[wo.heap.size]? = some (.cells (opL zeroOp).toArray 62 (0, 0)) := by rw [← hwa]; exact heap_alloc_new _ _
  have oa : Old wo wa := by rw [← hwa]; exact (Keeps.refl _ _).alloc _
  obtain ⟨w2', hst, b2, kb⟩ := store_opw ba x hone
  have o2 : Old wo w2' := oa.then kb (fun j hj e => by omega)
  obtain ⟨⟨c0, c1, c6, c11, c12⟩, lm⟩ := op_parts b2
  obtain ⟨ob, hob⟩ : ∃ b, wo.heap.size = b := ⟨_, rfl⟩
  rw [hob] at hst c0 c1 c6 c11 c12 lm b2
  have hf2 : x.m.fine w2' := hxi.1.old (hwo.trans o2)
  have CO := Lib.hid (ours_any x.m w2' hf2)
  change wo.alloc (.cells #[.int .i64 0, .int .i64 0, .int .i64 0, .int .i64 0, .int .u64 0, .bool false, .slice none 0 0, .int .u64 0, .int .u64 0, .string ⟨#[]⟩, .slice none 0 0, .int .i64 0, .int .u64 0, .int .u64 0, .int .u64 0, .int .u64 0, .int .u64 0, .slice none 0 0, .slice none 0 0, .bool false] 62) = wa at hwa
  have G := Lib.hid (And.intro hS (And.intro o2 (And.intro b2 (And.intro hxi (And.intro hwo (And.intro hob (And.intro hi (And.intro hlt h80))))))))
  clear hS o2 b2 hxi hwo hx hc hone ba oa kb hf2 hi hi2 hlt h80
  go_upto_region 11 with fail
  clear hwa lo hst
  -- the program's message
  obtain ⟨w3', hw3⟩ : ∃ w, w = w2' := ⟨_, rfl⟩
  go_upto_region 12 with (go_at_call 17; refine CO.out.mono ?_; rintro e w4 ⟨rfl, o4⟩; obtain ⟨wb, hwb⟩ : ∃ W, w4.alloc (.cells zeroMs.cells.toArray 43) = W := ⟨_, rfl⟩; have bb : MAt wb w4.heap.size zeroMs := (by rw [← hwb]; exact heap_alloc_new _ _); have obb : Old w4 wb := (by rw [← hwb]; exact (Keeps.refl _ _).alloc _); have hm1 := (G.out.2.2.2.1.1.old (G.out.2.2.2.2.1.trans G.out.2.1)).one; obtain ⟨w5, hst5, b5, k5⟩ := store_msg bb x.m hm1; have o5 : Old w4 w5 := obb.then k5 (fun j hj e => by omega); obtain ⟨mb, hmb⟩ : ∃ b, w4.heap.size = b := ⟨_, rfl⟩; rw [hmb] at hst5 b5; change w4.alloc (.cells #[.int .i64 0, .int .i64 0, .int .u64 0, .bool false, .slice none 0 0, .int .u64 0, .int .u64 0, .string ⟨#[]⟩, .slice none 0 0, .int .i64 0, .int .u64 0, .int .u64 0, .int .u64 0, .int .u64 0, .int .u64 0, .slice none 0 0, .slice none 0 0, .bool false] 43) = wb at hwb; have G5 := Lib.hid (And.intro o4 (And.intro o5 (And.intro b5 hmb))); clear o4 bb obb hm1 b5 k5 o5)
  have k5 : Old wo w5 := G.out.2.1.trans (G5.out.1.trans G5.out.2.1)
  have k25 : Old w2' w5 := G5.out.1.trans G5.out.2.1
  have bo5 := (k25.block _ (lt_of_heap G.out.2.2.1) (fun f => f)).trans G.out.2.2.1
  obtain ⟨⟨d0, d1, d6, d11, d12⟩, lm5⟩ := op_parts bo5
  have hsee : SeesR w5 7 Con.cells x.m.pv x.m.ps := (G.out.2.2.2.1.1.old (G.out.2.2.2.2.1.trans k5)).1.1.1
  have h1c : ∀ y ∈ x.m.ps, ∀ u ∈ Con.cells y, u.oneCell' = true := fun y hy => con_one ((G.out.2.2.2.1.1.old (G.out.2.2.2.2.1.trans k5)).1.1.2 y hy)
  have lx : ([] : List Con).length + x.m.ps.length ≤ maxLen := by have := G.out.2.2.2.1.2; unfold maxLen; simp; omega
  have lx2 : (([] : List Con).length + x.m.ps.length) * 88 ≤ 140737488355328 := by have := G.out.2.2.2.1.2; simp; omega
  have G6 := Lib.hid (And.intro k5 (And.intro hsee (And.intro h1c (And.intro lx (And.intro lx2 bo5)))))
  clear k5 k25 bo5 hsee h1c lx lx2 c0 c1 c6 c11 c12 lm hw3 hwb hst5
  go_upto_region 13 with (at_builtin; go_loud (refine wpList_append_rows (P := Try.prog) rfl _ _ 30 rfl w5.heap.size 69 7 88 Con.cells _ Try.underlying30 Try.infoCon rfl (by decide) (.slice none 0 0) ([] : List Con) (by rfl) (OwnsR.nil _ _) _ x.m.ps (by rfl) G6.out.2.1 (fun _ _ => rfl) G6.out.2.2.1 G6.out.2.2.2.1 G6.out.2.2.2.2.1 (Nat.le_refl _) ?_; intro v7 w7 ho7 hg7 hv7; rw [List.nil_append] at ho7; have k7 : Old w5 w7 := (Keeps.refl (fun _ => False) w5).then (T := fun j => some j = (Value.slice none 0 0).ownBlock) ⟨hg7.os, hg7.tape, hg7.output, hg7.size, fun j hj hne => hg7.block j hj hne⟩ (fun j hj e => by cases e); obtain ⟨p7, c7, e7, _, _⟩ := (ho7.sees (fun _ => rfl) (by decide)).len; obtain ⟨n7, hn7⟩ : ∃ n, x.m.ps.length = n := ⟨_, rfl⟩; rw [hn7] at e7; subst e7; have bm7 := (k7.block _ (lt_of_heap G5.out.2.2.1) (fun f => f)).trans G5.out.2.2.1; obtain ⟨w8, hst8, b8, k8⟩ := store_pred bm7 p7 n7 c7 x.m.ps; have G7 := Lib.hid (And.intro ho7 (And.intro k7 (And.intro hn7 (And.intro bm7 (And.intro b8 k8))))); clear ho7 hg7 hv7 k7 hn7 bm7 b8 k8))
  -- what the switch needs
  have G8 : Hid (∃ R S P, TwoR R S w w8 q rb most P P ∧ P.length ≤ i ∧ (∀ bb, (Value.slice p7 n7 c7).ownBlock = some bb → S bb ∧ ¬ R bb ∧ bb ≠ rb) ∧ OwnsR w8 w5.heap.size 69 7 Con.cells (.slice p7 n7 c7) x.m.ps ∧
    MAt w8 mb { x.m with pv := .slice p7 n7 c7 } ∧ w8.heap[ob]? = some (.cells (opL x).toArray 62 (0, 0)) ∧ (∀ k, S k → k ≠ ob ∧ k ≠ mb) ∧ x.m.fine w ∧ n7 ≤ 1048576) := Lib.hid (by
   obtain ⟨hS, o2, b2, hxi, hwo, hob, hi, hlt, h80⟩ := G.out
   obtain ⟨o4, o5, b5, hmb⟩ := G5.out
   obtain ⟨k5, hsee, h1c, lx, lx2, bo5⟩ := G6.out
   obtain ⟨ho7, k7, hn7, bm7, b8, k8⟩ := G7.out
   obtain ⟨R, S, P, h, hl⟩ := hS
   have z5 := k5.size
   have z7 := k7.size
   have z2' := o2.size
   have z4 := o4.size
   have k57 : Old wo w7 := k5.trans k7
   have hmb5 : mb < w5.heap.size := lt_of_heap b5
   have hob2 : ob < w2'.heap.size := lt_of_heap b2
   have k78 : Old wo w8 := k57.then k8 (fun j hj e => by omega)
   have ho8 : OwnsR w8 w5.heap.size 69 7 Con.cells (.slice p7 n7 c7) x.m.ps := ho7.keeps k8 (fun bb hb e => by have := (ho7.block bb hb).1; omega)
   have hbl : ∀ bb, (Value.slice p7 n7 c7).ownBlock = some bb → w5.heap.size ≤ bb ∧ bb < w8.heap.size := fun bb hb => ho8.block bb hb
   have hR : ∀ k, R k → k < wo.heap.size := fun k r => h.lt.2 k (h.lt.1 k r)
   have hrb := h.doc.lt.1
   refine ⟨R, _, P, h.more k78 (fun bb => (Value.slice p7 n7 c7).ownBlock = some bb) (fun bb hb => ⟨by have := (hbl bb hb).1; omega, (hbl bb hb).2⟩), hl, fun bb hb => ⟨.inr hb, fun r => ?_, fun e => ?_⟩, ho8, b8, ?_, fun k s => ?_, hxi.1, by rw [← hn7]; exact hxi.2⟩
   ·have := hR bb r; have := (hbl bb hb).1; omega
   ·have := (hbl bb hb).1; omega
   ·exact (k8.block _ (by have := lt_of_heap bo5; omega) (by omega)).trans ((k7.block _ (lt_of_heap bo5) (fun f => f)).trans bo5)
   ·rcases s with s | s
    ·have := h.lt.2 k s; omega
    ·have := (hbl k s).1; omega)
  have hbo8 := (show w8.heap[ob]? = some (.cells (opL x).toArray 62 (0, 0)) by obtain ⟨_, _, _, _, _, _, _, _, h, _⟩ := G8.out; exact h)
  have hbm8 := (show MAt w8 mb { x.m with pv := .slice p7 n7 c7 } by obtain ⟨_, _, _, _, _, _, _, h, _⟩ := G8.out; exact h)
  have B8 := Lib.hid (And.intro hbo8 hbm8)
  obtain ⟨⟨d0, d1, d6, d11, d12⟩, lm8⟩ := op_parts hbo8
  obtain ⟨wh, hwh⟩ : ∃ z, x.what = z := ⟨_, rfl⟩
  rw [hwh] at d0
  obtain ⟨zA, hzA⟩ : ∃ z, decide (wh = 0 ∨ wh = 1 ∨ wh = 2) = z := ⟨_, rfl⟩
  have HZ := Lib.hid hzA
  have W8 := Lib.hid (Keeps.trans (G.out.2.2.2.2.1) (show Old wo w8 from (G6.out.1.trans G7.out.2.1).then G7.out.2.2.2.2.2 (fun j hj e => by
   have h1 := G5.out.2.2.2
   have h2 := G5.out.1.size
   have h3 := G.out.2.1.size
   omega)))
  clear hwh hzA hbo8 hbm8 lm5 hst8
  have hwle : (i : Int) < 80 := by have := G.out.2.2.2.2.2.2.2.2; omega
  go_upto_block 2 with fail
  go_cut [5] (fun v5 wf => ∃ q' : Nat, v5 = .pointer (some ⟨q', 0, none⟩) ∧ TwoE w wf q' rb most (i + 1))
  case first =>
   go_upto_if 66 with fail
   go_cut [66] (fun v wf => v = .bool zA ∧ w8 = wf)
   case first =>
    by_cases h0 : wh = 0
    ·subst h0
     go_wp2_with fail
     go_meet
     case rel => exact ⟨by rw [← HZ.out]; rfl, rfl⟩
    by_cases h1 : wh = 1
    ·subst h1
     go_wp2_with fail
     go_meet
     case rel => exact ⟨by rw [← HZ.out]; rfl, rfl⟩
    have n0 : (wh == 0) = false := by simp [h0]
    have n1 : (wh == 1) = false := by simp [h1]
    have e2 : (wh == 2) = zA := by rw [← HZ.out, Bool.eq_iff_iff]; simp; omega
    clear h0 h1
    go_wp2_with fail
    go_meet
    case rel => exact ⟨by first | rfl | rw [e2], rfl⟩
   case rest =>
    obtain ⟨rfl, rfl⟩ := hcut
    cases zA
    case true =>
     clear d6 d11 d12
     go_upto_region 17 with fail
     obtain ⟨R, S, P, h, hl, hbs, hro, hbm, hbo, hne, hxf, hn7⟩ := G8.out
     have hstm : Steady R w8 { x.m with pv := .slice p7 n7 c7 } := own_steady hxf h.old (fun k r => h.lo k (h.lt.1 k r)) hro (fun bb hb => (hbs bb hb).2.1)
     have hstd : Steady (fun k => (S k ∧ k ≠ rb) ∨ k = rb) w8 x.m := arg_steady hxf h.old (fun k t => by rcases t with t | t; exact h.lo k t.1; (subst t; exact h.lo _ h.inS))
     obtain ⟨P2, hP2⟩ : ∃ r, addP most P (x.link, x.m.plain) = r := ⟨_, rfl⟩
     obtain ⟨za, P2⟩ := P2
     have hpl : ({ x.m with pv := .slice p7 n7 c7 } : Ms).plain = x.m.plain := rfl
     have AQ := Lib.hid (add_q2 x.link { x.m with pv := .slice p7 n7 c7 } (h.prog.old ((Keeps.refl (fun _ => False) w8).drew)) HM.out.1 (by omega) (fun W hW => hstm W (((Keeps.refl R w8).drew).trans hW)))
     have hl80 : P.length ≤ 10000 := by have := G.out.2.2.2.2.2.2.2.2; omega
     have ZZ := Lib.hid (And.intro h (And.intro hl (And.intro hbs (And.intro hro (And.intro hbm (And.intro hbo (And.intro hne (And.intro hstd (And.intro hP2 (And.intro hl80 hn7))))))))))
     have zz : (za != za) = false := by simp
     clear h hl hbs hro hbm hbo hne hxf hstm hstd hP2 hl80 hpl
     refine wp_region_g (S := fun W => W.heap[ob]? = some (.cells (opL x).toArray 62 (0, 0)) ∧ MAt W mb { x.m with pv := .slice p7 n7 c7 }) (M := List.range 12) (by as_aux_lemma => kernel_rfl) ?_
     have hS0 : w8.drew.heap[ob]? = some (.cells (opL x).toArray 62 (0, 0)) ∧ MAt w8.drew mb { x.m with pv := .slice p7 n7 c7 } := B8.out
     clear d0 d1 lm8
     refine wpAnyG_takeL (i := 0) (oi := _) (v := ?va0) rfl (by as_aux_lemma => kernel_rfl) (by as_aux_lemma => kernel_rfl) (by as_aux_lemma => kernel_rfl) (by as_aux_lemma => kernel_rfl) (fun _ _ _ h => h) (Or.inl ⟨by rfl, ?ya0⟩) hS0 ?ra0
     case ya0 => (intro W hSw; go_simp; try with_reducible rfl)
     try simp only [Act.put, List.setIfInBounds_toArray, List.set_cons_zero, List.set_cons_succ]
     refine wpAnyG_takeL (i := 1) (oi := _) (v := ?va1) rfl (by as_aux_lemma => kernel_rfl) (by as_aux_lemma => kernel_rfl) (by as_aux_lemma => kernel_rfl) (by as_aux_lemma => kernel_rfl) (fun _ _ _ h => h) (Or.inl ⟨by rfl, ?ya1⟩) hS0 ?ra1
     case ya1 => (intro W hSw; go_simp; try with_reducible rfl)
     try simp only [Act.put, List.setIfInBounds_toArray, List.set_cons_zero, List.set_cons_succ]
     refine wpAnyG_takeL (i := 2) (oi := _) (v := ?va2) rfl (by as_aux_lemma => kernel_rfl) (by as_aux_lemma => kernel_rfl) (by as_aux_lemma => kernel_rfl) (by as_aux_lemma => kernel_rfl) (fun _ _ _ h => h) (Or.inl ⟨by rfl, ?ya2⟩) hS0 ?ra2
     case ya2 => (intro W hSw; obtain ⟨⟨-, d1, -, -, -⟩, -⟩ := op_parts hSw.1; go_simp; try with_reducible rfl)
     try simp only [Act.put, List.setIfInBounds_toArray, List.set_cons_zero, List.set_cons_succ]
     refine wpAnyG_takeL (i := 3) (oi := _) (v := ?va3) rfl (by as_aux_lemma => kernel_rfl) (by as_aux_lemma => kernel_rfl) (by as_aux_lemma => kernel_rfl) (by as_aux_lemma => kernel_rfl) (fun _ _ _ h => h) (Or.inl ⟨by rfl, ?ya3⟩) hS0 ?ra3
     case ya3 => (intro W hSw; have y1 := load_msg hSw.2 (by simp [Ms.cells]); go_simp; try with_reducible rfl)
     try simp only [Act.put, List.setIfInBounds_toArray, List.set_cons_zero, List.set_cons_succ]
     refine wpAnyG_takeL (i := 5) (oi := _) (v := ?va5) rfl (by as_aux_lemma => kernel_rfl) (by as_aux_lemma => kernel_rfl) (by as_aux_lemma => kernel_rfl) (by as_aux_lemma => kernel_rfl) (fun _ _ _ h => h) (Or.inl ⟨by rfl, ?ya5⟩) hS0 ?ra5
     case ya5 => (intro W hSw; go_simp; try with_reducible rfl)
     try simp only [Act.put, List.setIfInBounds_toArray, List.set_cons_zero, List.set_cons_succ]
     refine wpAnyG_takeL (i := 6) (oi := _) (v := ?va6) rfl (by as_aux_lemma => kernel_rfl) (by as_aux_lemma => kernel_rfl) (by as_aux_lemma => kernel_rfl) (by as_aux_lemma => kernel_rfl) (fun _ _ _ h => h) (Or.inl ⟨by rfl, ?ya6⟩) hS0 ?ra6
     case ya6 => (intro W hSw; go_simp; try with_reducible rfl)
     try simp only [Act.put, List.setIfInBounds_toArray, List.set_cons_zero, List.set_cons_succ]
     refine wpAnyG_takeL (i := 7) (oi := _) (v := ?va7) rfl (by as_aux_lemma => kernel_rfl) (by as_aux_lemma => kernel_rfl) (by as_aux_lemma => kernel_rfl) (by as_aux_lemma => kernel_rfl) (fun _ _ _ h => h) (Or.inl ⟨by rfl, ?ya7⟩) hS0 ?ra7
     case ya7 => (intro W hSw; obtain ⟨⟨-, d1, -, -, -⟩, -⟩ := op_parts hSw.1; go_simp; try with_reducible rfl)
     try simp only [Act.put, List.setIfInBounds_toArray, List.set_cons_zero, List.set_cons_succ]
     refine wpAnyG_takeL (i := 8) (oi := _) (v := ?va8) rfl (by as_aux_lemma => kernel_rfl) (by as_aux_lemma => kernel_rfl) (by as_aux_lemma => kernel_rfl) (by as_aux_lemma => kernel_rfl) (fun _ _ _ h => h) (Or.inl ⟨by rfl, ?ya8⟩) hS0 ?ra8
     case ya8 => (intro W hSw; go_simp; try with_reducible rfl)
     try simp only [Act.put, List.setIfInBounds_toArray, List.set_cons_zero, List.set_cons_succ]
     refine wpAnyG_takeL (i := 9) (oi := _) (v := ?va9) rfl (by as_aux_lemma => kernel_rfl) (by as_aux_lemma => kernel_rfl) (by as_aux_lemma => kernel_rfl) (by as_aux_lemma => kernel_rfl) (fun _ _ _ h => h) (Or.inl ⟨by rfl, ?ya9⟩) hS0 ?ra9
     case ya9 => (intro W hSw; obtain ⟨-, y1⟩ := op_parts hSw.1; go_simp; try with_reducible rfl)
     try simp only [Act.put, List.setIfInBounds_toArray, List.set_cons_zero, List.set_cons_succ]
     refine wpAnyG_onlyL (i := 4) (o := _) (by as_aux_lemma => kernel_rfl) rfl (fun K hK => ?_)
     go_simp
     refine AQ.out.mono ?_
     rintro e w9 ⟨R9, r1, r2, he9, hq9, k9⟩
     rw [show ({ x.m with pv := .slice p7 n7 c7 } : Ms).plain = x.m.plain from rfl, ZZ.out.2.2.2.2.2.2.2.2.1] at he9 hq9
     dsimp only at he9 hq9
     subst he9
     have h9 : TwoR R9 (fun k => S k ∨ R9 k) w w9 q rb most P2 P := (ZZ.out.1.toOld ((Keeps.refl (fun _ => False) w8).drew)).ofProg hq9 k9 (fun _ s => .inl s) (fun k s => s.elim .inl (fun r => (r1 k r).elim (fun r => .inl (ZZ.out.1.lt.1 k r)) .inr)) r1
     have hnR : ∀ k, R k → k ≠ ob ∧ k ≠ mb := fun k r => ZZ.out.2.2.2.2.2.2.1 k (ZZ.out.1.lt.1 k r)
     have hS9 : w9.heap[ob]? = some (.cells (opL x).toArray 62 (0, 0)) ∧ MAt w9 mb { x.m with pv := .slice p7 n7 c7 } := ⟨(k9.block _ (lt_of_heap hS0.1) (fun r => (hnR ob r).1 rfl)).trans hS0.1, (k9.block _ (lt_of_heap hS0.2) (fun r => (hnR mb r).2 rfl)).trans hS0.2⟩
     have hbl : ∀ bb, (Value.slice p7 n7 c7).ownBlock = some bb → ¬ R9 bb := fun bb hb r => by
      rcases r1 bb r with r | r
      ·exact (ZZ.out.2.2.1 bb hb).2.1 r
      ·have := (ZZ.out.2.2.2.1.block bb hb).2; simp at r; omega
     have hro9 : OwnsR w9 w5.heap.size 69 7 Con.cells (.slice p7 n7 c7) x.m.ps := (ZZ.out.2.2.2.1.old ((Keeps.refl (fun _ => False) w8).drew)).keeps k9 (fun bb hb r => (ZZ.out.2.2.1 bb hb).2.1 r)
     have hd9 : Dq (fun k => (S k ∨ R9 k) ∧ k ≠ rb) w9 rb most P := h9.doc
     have hst9 : Steady (fun k => ((S k ∨ R9 k) ∧ k ≠ rb) ∨ k = rb) w9 x.m := by
      obtain ⟨_, _, _, _, _, _, _, _, _, _, hxf, _⟩ := G8.out
      exact arg_steady hxf h9.old (fun k t => by rcases t with t | t; exact h9.lo k t.1; (subst t; exact h9.lo _ h9.inS))
     have RDQ := Lib.hid (radd_any x.link x.m hd9 ZZ.out.2.2.2.2.2.2.2.2.2.1 hst9)
     have V9 := Lib.hid (And.intro h9 (And.intro hbl (And.intro hro9 hS9)))
     clear h9 hnR hbl hro9 hd9 hst9 hq9 k9 r1 r2
     go_wp2_with fail
     refine hK.out _ _ (fun _ => hS9) ?_
     clear hK K
     try simp only [Act.put, List.setIfInBounds_toArray, List.set_cons_zero, List.set_cons_succ]
     refine wpAnyG_onlyL (i := 10) (o := _) (by as_aux_lemma => kernel_rfl) rfl (fun K hK => ?_)
     go_simp
     refine RDQ.out.mono ?_
     rintro e w10 ⟨he10, hd10, k10⟩
     rw [ZZ.out.2.2.2.2.2.2.2.2.1] at he10 hd10
     dsimp only at he10 hd10
     subst he10
     have h10 := V9.out.1.ofDoc hd10 k10
     have hnr : ob ≠ rb ∧ mb ≠ rb := ⟨fun e => (ZZ.out.2.2.2.2.2.2.1 rb ZZ.out.1.inS).1 e.symm, fun e => (ZZ.out.2.2.2.2.2.2.1 rb ZZ.out.1.inS).2 e.symm⟩
     have hS10 : w10.heap[ob]? = some (.cells (opL x).toArray 62 (0, 0)) ∧ MAt w10 mb { x.m with pv := .slice p7 n7 c7 } := ⟨(k10.block _ (lt_of_heap hS9.1) hnr.1).trans hS9.1, (k10.block _ (lt_of_heap hS9.2) hnr.2).trans hS9.2⟩
     have hro10 : OwnsR w10 w5.heap.size 69 7 Con.cells (.slice p7 n7 c7) x.m.ps := V9.out.2.2.1.keeps k10 (fun bb hb e => (ZZ.out.2.2.1 bb hb).2.2 e)
     have V10 := Lib.hid (And.intro h10 (And.intro hS10.2 hro10))
     clear hd10 k10 h10 hnr hro10
     go_wp2_with fail
     refine hK.out _ _ (fun _ => hS10) ?_
     clear hK K
     try simp only [Act.put, List.setIfInBounds_toArray, List.set_cons_zero, List.set_cons_succ]
     refine wpAnyG_onlyL (i := 11) (o := _) (by as_aux_lemma => kernel_rfl) rfl (fun K hK => ?_)
     go_simp
     refine hK.out _ _ (fun _ => hS10) ?_
     clear hK K
     try simp only [Act.put, List.setIfInBounds_toArray, List.set_cons_zero, List.set_cons_succ]
     refine wpAnyG_done (by as_aux_lemma => kernel_rfl) ?_ _
     clear hS0 hS9 hS10
     go_wp2_with fail
     go_loopg [12] n7 (fun n v12 wm => ∃ (k : Nat) (rows : List Con), k ≤ n7 ∧ n = n7 - k ∧ v12 = .int .i64 (k : Int) ∧ rows.length = n7 ∧ OwnsR wm w5.heap.size 69 7 Con.cells (.slice p7 n7 c7) rows ∧ Keeps (fun j => (Value.slice p7 n7 c7).ownBlock = some j) w10 wm)
     case atStart => exact ⟨0, x.m.ps, Nat.zero_le _, rfl, rfl, G7.out.2.2.1, V10.out.2.2, Keeps.refl _ _⟩
     case round =>
      obtain ⟨k, rows, hk, rfl, rfl, hrl, hor, hkr⟩ := hrel
      obtain ⟨wy, rfl⟩ : ∃ wy : World, wy = wr := ⟨_, rfl⟩
      have hmbn : ¬ (Value.slice p7 n7 c7).ownBlock = some mb := fun e => (ZZ.out.2.2.2.2.2.2.1 mb (ZZ.out.2.2.1 mb e).1).2 rfl
      have hmy := (hkr.block _ (lt_of_heap V10.out.2.1) hmbn).trans V10.out.2.1
      have cm4 : wy.cell? ⟨mb, 4, none⟩ = some (.slice p7 n7 c7) := by simp [World.cell?, hmy, Ms.cells]
      by_cases hlt : k < n7
      ·have z3 : decide ((k : Int) < (n7 : Int)) = true := by simp; omega
       have z3' : decide (k < n7) = true := by simp; omega
       have i3 : (0 : Int) ≤ (k : Int) := by omega
       have i4 : (k : Int) < (n7 : Int) := by omega
       have hw1 : IntKind.i64.wrap ((k : Int) + 1) = ((k + 1 : Nat) : Int) := by have := ZZ.out.2.2.2.2.2.2.2.2.2.2; rw [IntKind.wrap_i64]; omega
       obtain ⟨y, hy⟩ : ∃ y, rows[k]? = some y := ⟨_, List.getElem?_eq_getElem (by omega)⟩
       obtain ⟨g, cap, cur, e, _, hgg, _, _, _, _⟩ := hor.row (by
        rcases hor.2 with ⟨_, h0⟩ | ⟨g, cap, cur, e, _⟩
        ·omega
        ·rw [e]; simp [Value.ownBlock])
       simp only [Value.slice.injEq] at e
       obtain ⟨rfl, -, rfl⟩ := e
       have hor' : OwnsR wy w5.heap.size 69 7 Con.cells (.slice (some ⟨g, 0, none⟩) rows.length c7) rows := by rw [hrl]; exact hor
       have st9 := run_store_one (P := Try.prog) (ty := 9) (hor'.there (k * 7) 1 (by rw [hrl]; omega)) (.string ⟨#[120]⟩) rfl (by as_aux_lemma => kernel_rfl) rfl
       have o10 := OwnsR.setOne (k := 7) (enc := Con.cells) (fun _ => rfl) hor' k 0 y { y with name := ⟨#[120]⟩ } (.string ⟨#[120]⟩) (by decide) hy rfl
       rw [Nat.add_zero] at o10
       have YY := Lib.hid (And.intro hkr (And.intro o10 hrl))
       clear hkr hor hor' o10 hy hmy hrl
       go_wp2_with fail
       go_roundg (n7 - (k + 1))
       case measure => omega
       case rel =>
        obtain ⟨hkr, o10, hrl⟩ := YY.out
        refine ⟨k + 1, rows.set k { y with name := ⟨#[120]⟩ }, by omega, rfl, by go_num, by rw [List.length_set]; exact hrl, by rw [← hrl]; exact o10, hkr.trans ((show Keeps (fun j => j = g) wy (wy.setCell ⟨g, k * 7, none⟩ (.string ⟨#[120]⟩)) from keepS _ (Keeps.refl _ _)).weaken (fun j _ e => by subst e; rfl))⟩
      ·obtain rfl : k = n7 := by omega
       have z3 : decide ((k : Int) < (k : Int)) = false := by simp
       have YY := Lib.hid hkr
       clear hkr hor hmy hrl
       go_wp2_with fail
       go_meet
       case rel =>
        refine ⟨q, rfl, _, _, P2, V10.out.1.wrote _ YY.out (fun bb hb => ⟨.inl (ZZ.out.2.2.1 bb hb).1, V9.out.2.1 bb hb, (ZZ.out.2.2.1 bb hb).2.2⟩), ?_⟩
        have h1 := addP_len most P (x.link, x.m.plain)
        rw [ZZ.out.2.2.2.2.2.2.2.2.1] at h1
        have h2 := ZZ.out.2.1
        show P2.length ≤ _
        have h3 : P2.length ≤ P.length + 1 := h1
        omega
    case false =>
     have hnn : wh ≠ 0 ∧ wh ≠ 1 ∧ wh ≠ 2 := by have := of_decide_eq_false HZ.out; omega
     have NN := Lib.hid hnn
     clear hnn
     by_cases h3 : wh = 3
     ·subst h3
      clear d0 d1 d6 d11 d12 lm8
      obtain ⟨R, S, P, h, hl, hbs, hro, hbm, hbo, hne, hxf, hn7⟩ := G8.out
      have hl80 : P.length ≤ 10000 := by have := G.out.2.2.2.2.2.2.2.2; omega
      have ZZ := Lib.hid (And.intro h (And.intro hl hl80))
      clear h hl hbs hro hbm hbo hne hxf hn7 hl80
      cases P with
      | nil =>
       have AQ := Lib.hid (next_empty ZZ.out.1.prog HM.out.1)
       go_upto_region 25 with (go_at_call 14; refine AQ.out.mono ?_; rintro e w9 ⟨rfl, o9⟩; obtain ⟨wb9, hwb9⟩ : ∃ W, w9.alloc (.cells zeroMs.cells.toArray 43) = W := ⟨_, rfl⟩; have bb9 : MAt wb9 w9.heap.size zeroMs := (by rw [← hwb9]; exact heap_alloc_new _ _); have ob9 : Old w9 wb9 := (by rw [← hwb9]; exact (Keeps.refl _ _).alloc _); obtain ⟨w10, hst10, b10, k10⟩ := store_msg bb9 zeroMs (MsO.zero w9 0).one; have o10 : Old w9 w10 := ob9.then k10 (fun j hj e => by omega); change w9.alloc (.cells #[.int .i64 0, .int .i64 0, .int .u64 0, .bool false, .slice none 0 0, .int .u64 0, .int .u64 0, .string ⟨#[]⟩, .slice none 0 0, .int .i64 0, .int .u64 0, .int .u64 0, .int .u64 0, .int .u64 0, .int .u64 0, .slice none 0 0, .slice none 0 0, .bool false] 43) = wb9 at hwb9; have N10 := Lib.hid (And.intro (o9.trans o10) b10); clear o9 bb9 ob9 b10 k10 o10)
       have h10 := ZZ.out.1.toOld N10.out.1
       have RDQ := Lib.hid (rnext_none h10.doc)
       have V10 := Lib.hid h10
       clear h10 hwb9 hst10
       obtain ⟨m9, hm9⟩ : ∃ b, w9.heap.size = b := ⟨_, rfl⟩
       rw [hm9] at N10 ⊢
       clear hm9
       go_upto_region 26 with (go_at_call 19; refine RDQ.out.mono ?_; rintro e w11 ⟨rfl, o11⟩; obtain ⟨wb11, hwb11⟩ : ∃ W, w11.alloc (.cells zeroMs.cells.toArray 60) = W := ⟨_, rfl⟩; have bb11 : RAt wb11 w11.heap.size zeroMs := (by rw [← hwb11]; exact heap_alloc_new _ _); have ob11 : Old w11 wb11 := (by rw [← hwb11]; exact (Keeps.refl _ _).alloc _); obtain ⟨w12, hst12, b12, k12⟩ := store_msgR bb11 zeroMs (MsO.zero w11 0).one; have o12 : Old w11 w12 := ob11.then k12 (fun j hj e => by omega); change w11.alloc (.cells #[.int .i64 0, .int .i64 0, .int .u64 0, .bool false, .slice none 0 0, .int .u64 0, .int .u64 0, .string ⟨#[]⟩, .slice none 0 0, .int .i64 0, .int .u64 0, .int .u64 0, .int .u64 0, .int .u64 0, .int .u64 0, .slice none 0 0, .slice none 0 0, .bool false] 60) = wb11 at hwb11; have N12 := Lib.hid (And.intro (o11.trans o12) b12); clear o11 bb11 ob11 b12 k12 o12)
       have h12 := V10.out.toOld N12.out.1
       have fa : zeroMs.fine w12 := (MsO.zero w12 0).fine
       have fb : zeroMs.fine w12 := fa
       have bma := (N12.out.1.block _ (lt_of_heap N10.out.2) (fun f => f)).trans N10.out.2
       have V12 := Lib.hid (And.intro h12 (And.intro fa (And.intro fb (And.intro (rfl : zeroMs.plain = zeroMs.plain) (And.intro bma N12.out.2)))))
       have zz : ((0 : Int) != (0 : Int)) = false := rfl
       clear h12 fa fb bma hwb11 hst12
       obtain ⟨m11, hm11⟩ : ∃ b, w11.heap.size = b := ⟨_, rfl⟩
       rw [hm11] at V12 ⊢
       clear hm11
       have gA := fun p : OldOf w12 => load_whole ((p.old.block _ (lt_of_heap V12.out.2.2.2.2.1) (fun f => f)).trans V12.out.2.2.2.2.1) (by simp [Ms.cells]) Try.underlying43 (by as_aux_lemma => kernel_rfl)
       have gB := fun p : OldOf w12 => load_whole ((p.old.block _ (lt_of_heap V12.out.2.2.2.2.2) (fun f => f)).trans V12.out.2.2.2.2.2) (by simp [Ms.cells]) Try.underlying60 (by as_aux_lemma => kernel_rfl)
       have CT := Lib.hid (fun p : OldOf w12 => ptheirs_any zeroMs p.to (V12.out.2.1.old p.old))
       have CS0 := fun p : OldOf w12 => ref21_same_any zeroMs zeroMs p.to (V12.out.2.1.old p.old) (V12.out.2.2.1.old p.old)
       rw [(sameM_iff _ _).2 V12.out.2.2.2.1] at CS0
       have CS := Lib.hid CS0
       clear CS0
       refine wp_region_quiet_old (by as_aux_lemma => kernel_rfl) (by as_aux_lemma => kernel_rfl) ?_
       repeat (go_big_quiet_step (((first | (go_at_call 21; exact Calls.quiet_of_old (CT.out _)) | (go_at_call 20; exact Calls.quiet_of_old (CS.out _))))))
       refine wpQuiet_nil ?_
       intro _ hpq
       obtain ⟨pq, hpq'⟩ := hpq
       subst hpq'
       go_wp2_with fail
       go_meet
       case rel =>
        refine ⟨q, rfl, R, S, [], V12.out.1.toOld pq.old, Nat.zero_le _⟩
      | cons y P =>
       have AQ := Lib.hid (next_some ZZ.out.1.prog HM.out.1)
       go_upto_region 25 with (go_at_call 14; refine AQ.out.mono ?_; rintro e w9 ⟨ma, rfl, hpa, hsa, hq9, k9⟩; have h9 := ZZ.out.1.ofProg hq9 k9 (fun _ s => s) (fun k s => .inl s) (fun _ r => .inl r); obtain ⟨wb9, hwb9⟩ : ∃ W, w9.alloc (.cells zeroMs.cells.toArray 43) = W := ⟨_, rfl⟩; have bb9 : MAt wb9 w9.heap.size zeroMs := (by rw [← hwb9]; exact heap_alloc_new _ _); have ob9 : Old w9 wb9 := (by rw [← hwb9]; exact (Keeps.refl _ _).alloc _); obtain ⟨w10, hst10, b10, k10⟩ := store_msg bb9 ma hsa.fine.one; have o10 : Old w9 w10 := ob9.then k10 (fun j hj e => by omega); change w9.alloc (.cells #[.int .i64 0, .int .i64 0, .int .u64 0, .bool false, .slice none 0 0, .int .u64 0, .int .u64 0, .string ⟨#[]⟩, .slice none 0 0, .int .i64 0, .int .u64 0, .int .u64 0, .int .u64 0, .int .u64 0, .int .u64 0, .slice none 0 0, .slice none 0 0, .bool false] 43) = wb9 at hwb9; have N10 := Lib.hid (And.intro (h9.toOld o10) (And.intro b10 (And.intro hpa (And.intro (hsa.old o10) h9.doc.lt.1)))); clear hpa hsa hq9 k9 h9 bb9 ob9 b10 k10 o10)
       have RDQ := Lib.hid (rnext_some N10.out.1.doc (by have := ZZ.out.2.2; simp at this; omega))
       clear hwb9 hst10
       obtain ⟨m9, hm9⟩ : ∃ b, w9.heap.size = b := ⟨_, rfl⟩
       rw [hm9] at N10 ⊢
       clear hm9
       go_upto_region 26 with (go_at_call 19; refine RDQ.out.mono ?_; rintro e w11 ⟨mc, rfl, hpc, hsc, hd11, k11⟩; have h11 := N10.out.1.ofDoc hd11 k11; obtain ⟨wb11, hwb11⟩ : ∃ W, w11.alloc (.cells zeroMs.cells.toArray 60) = W := ⟨_, rfl⟩; have bb11 : RAt wb11 w11.heap.size zeroMs := (by rw [← hwb11]; exact heap_alloc_new _ _); have ob11 : Old w11 wb11 := (by rw [← hwb11]; exact (Keeps.refl _ _).alloc _); obtain ⟨w12, hst12, b12, k12⟩ := store_msgR bb11 mc hsc.fine.one; have o12 : Old w11 w12 := ob11.then k12 (fun j hj e => by omega); have kk12 : Keeps (fun k => k = rb) w10 w12 := k11.trans (o12.weaken (fun _ _ f => f.elim)); change w11.alloc (.cells #[.int .i64 0, .int .i64 0, .int .u64 0, .bool false, .slice none 0 0, .int .u64 0, .int .u64 0, .string ⟨#[]⟩, .slice none 0 0, .int .i64 0, .int .u64 0, .int .u64 0, .int .u64 0, .int .u64 0, .int .u64 0, .slice none 0 0, .slice none 0 0, .bool false] 60) = wb11 at hwb11; have N12 := Lib.hid (And.intro (h11.toOld o12) (And.intro b12 (And.intro hpc (And.intro (hsc.fine.old o12) kk12)))); clear hpc hsc hd11 k11 h11 bb11 ob11 b12 k12 o12 kk12)
       have h12 := N12.out.1
       have fa : ma.fine w12 := N10.out.2.2.2.1 w12 (N12.out.2.2.2.2.weaken (fun j _ e => by subst e; exact N10.out.1.inS))
       have fb : mc.fine w12 := N12.out.2.2.2.1
       have hmb9 : m9 ≠ rb := by have := N10.out.2.2.2.2; omega
       have bma := (N12.out.2.2.2.2.block _ (lt_of_heap N10.out.2.1) hmb9).trans N10.out.2.1
       have V12 := Lib.hid (And.intro h12 (And.intro fa (And.intro fb (And.intro (N10.out.2.2.1.trans N12.out.2.2.1.symm) (And.intro bma N12.out.2.1)))))
       have zz : (y.1 != y.1) = false := by simp
       clear h12 fa fb bma hwb11 hst12 hmb9
       obtain ⟨m11, hm11⟩ : ∃ b, w11.heap.size = b := ⟨_, rfl⟩
       rw [hm11] at V12 ⊢
       clear hm11
       have gA := fun p : OldOf w12 => load_whole ((p.old.block _ (lt_of_heap V12.out.2.2.2.2.1) (fun f => f)).trans V12.out.2.2.2.2.1) (by simp [Ms.cells]) Try.underlying43 (by as_aux_lemma => kernel_rfl)
       have gB := fun p : OldOf w12 => load_whole ((p.old.block _ (lt_of_heap V12.out.2.2.2.2.2) (fun f => f)).trans V12.out.2.2.2.2.2) (by simp [Ms.cells]) Try.underlying60 (by as_aux_lemma => kernel_rfl)
       have CT := Lib.hid (fun p : OldOf w12 => ptheirs_any ma p.to (V12.out.2.1.old p.old))
       have CS0 := fun p : OldOf w12 => ref21_same_any ma mc p.to (V12.out.2.1.old p.old) (V12.out.2.2.1.old p.old)
       rw [(sameM_iff _ _).2 V12.out.2.2.2.1] at CS0
       have CS := Lib.hid CS0
       clear CS0
       refine wp_region_quiet_old (by as_aux_lemma => kernel_rfl) (by as_aux_lemma => kernel_rfl) ?_
       repeat (go_big_quiet_step (((first | (go_at_call 21; exact Calls.quiet_of_old (CT.out _)) | (go_at_call 20; exact Calls.quiet_of_old (CS.out _))))))
       refine wpQuiet_nil ?_
       intro _ hpq
       obtain ⟨pq, hpq'⟩ := hpq
       subst hpq'
       go_wp2_with fail
       go_meet
       case rel =>
        refine ⟨q, rfl, R, S, P, V12.out.1.toOld pq.old, by have := ZZ.out.2.1; simp at this; omega⟩
     have n3 : (wh == 3) = false := by simp [h3]
     by_cases h4 : wh = 4
     ·subst h4
      clear h3 n3
      clear d6 d1
      go_upto_region 29 with fail
      obtain ⟨R, S, P, h, hl, hbs, hro, hbm, hbo, hne, hxf, hn7⟩ := G8.out
      have hl80 : P.length ≤ 10000 := by have := G.out.2.2.2.2.2.2.2.2; omega
      have AQ := Lib.hid (drop_q x.m.tb x.m.tl (h.prog.old ((Keeps.refl (fun _ => False) w8).drew)) HM.out.1)
      obtain ⟨za, hza⟩ : ∃ z : Nat, P.length - (P.filter fun y => !dropP x.m.tb x.m.tl y).length = z := ⟨_, rfl⟩
      rw [hza] at AQ
      have zz : ((za : Int) != (za : Int)) = false := by simp
      have ZZ := Lib.hid (And.intro h (And.intro hl (And.intro hne (And.intro hza hl80))))
      clear h hl hbs hro hbm hbo hne hxf hl80 hza hn7 d0 d11 d12 lm8
      refine wp_region_g (S := fun W => W.heap[ob]? = some (.cells (opL x).toArray 62 (0, 0))) (M := List.range 21) (by as_aux_lemma => kernel_rfl) ?_
      have hS0 : w8.drew.heap[ob]? = some (.cells (opL x).toArray 62 (0, 0)) := B8.out.1
      refine wpAnyG_takeL (i := 0) (oi := _) (v := ?vbd0) rfl (by as_aux_lemma => kernel_rfl) (by as_aux_lemma => kernel_rfl) (by as_aux_lemma => kernel_rfl) (by as_aux_lemma => kernel_rfl) (fun _ _ _ h => h) (Or.inl ⟨by rfl, ?ybd0⟩) hS0 ?rbd0
      case ybd0 => (intro W hSw; obtain ⟨⟨d0, d1, d6, d11, d12⟩, -⟩ := op_parts hSw; go_simp; try with_reducible rfl)
      try simp only [Act.put, List.setIfInBounds_toArray, List.set_cons_zero, List.set_cons_succ]
      refine wpAnyG_takeL (i := 1) (oi := _) (v := ?vbd1) rfl (by as_aux_lemma => kernel_rfl) (by as_aux_lemma => kernel_rfl) (by as_aux_lemma => kernel_rfl) (by as_aux_lemma => kernel_rfl) (fun _ _ _ h => h) (Or.inl ⟨by rfl, ?ybd1⟩) hS0 ?rbd1
      case ybd1 => (intro W hSw; obtain ⟨⟨d0, d1, d6, d11, d12⟩, -⟩ := op_parts hSw; go_simp; try with_reducible rfl)
      try simp only [Act.put, List.setIfInBounds_toArray, List.set_cons_zero, List.set_cons_succ]
      refine wpAnyG_takeL (i := 2) (oi := _) (v := ?vbd2) rfl (by as_aux_lemma => kernel_rfl) (by as_aux_lemma => kernel_rfl) (by as_aux_lemma => kernel_rfl) (by as_aux_lemma => kernel_rfl) (fun _ _ _ h => h) (Or.inl ⟨by rfl, ?ybd2⟩) hS0 ?rbd2
      case ybd2 => (intro W hSw; obtain ⟨⟨d0, d1, d6, d11, d12⟩, -⟩ := op_parts hSw; go_simp; try with_reducible rfl)
      try simp only [Act.put, List.setIfInBounds_toArray, List.set_cons_zero, List.set_cons_succ]
      refine wpAnyG_takeL (i := 3) (oi := _) (v := ?vbd3) rfl (by as_aux_lemma => kernel_rfl) (by as_aux_lemma => kernel_rfl) (by as_aux_lemma => kernel_rfl) (by as_aux_lemma => kernel_rfl) (fun _ _ _ h => h) (Or.inl ⟨by rfl, ?ybd3⟩) hS0 ?rbd3
      case ybd3 => (intro W hSw; obtain ⟨⟨d0, d1, d6, d11, d12⟩, -⟩ := op_parts hSw; go_simp; try with_reducible rfl)
      try simp only [Act.put, List.setIfInBounds_toArray, List.set_cons_zero, List.set_cons_succ]
      refine wpAnyG_takeL (i := 4) (oi := _) (v := ?vbd4) rfl (by as_aux_lemma => kernel_rfl) (by as_aux_lemma => kernel_rfl) (by as_aux_lemma => kernel_rfl) (by as_aux_lemma => kernel_rfl) (fun _ _ _ h => h) (Or.inl ⟨by rfl, ?ybd4⟩) hS0 ?rbd4
      case ybd4 => (intro W hSw; obtain ⟨⟨d0, d1, d6, d11, d12⟩, -⟩ := op_parts hSw; go_simp; try with_reducible rfl)
      try simp only [Act.put, List.setIfInBounds_toArray, List.set_cons_zero, List.set_cons_succ]
      refine wpAnyG_takeL (i := 5) (oi := _) (v := ?vbd5) rfl (by as_aux_lemma => kernel_rfl) (by as_aux_lemma => kernel_rfl) (by as_aux_lemma => kernel_rfl) (by as_aux_lemma => kernel_rfl) (fun _ _ _ h => h) (Or.inl ⟨by rfl, ?ybd5⟩) hS0 ?rbd5
      case ybd5 => (intro W hSw; obtain ⟨⟨d0, d1, d6, d11, d12⟩, -⟩ := op_parts hSw; go_simp; try with_reducible rfl)
      try simp only [Act.put, List.setIfInBounds_toArray, List.set_cons_zero, List.set_cons_succ]
      refine wpAnyG_takeL (i := 6) (oi := _) (v := ?vbd6) rfl (by as_aux_lemma => kernel_rfl) (by as_aux_lemma => kernel_rfl) (by as_aux_lemma => kernel_rfl) (by as_aux_lemma => kernel_rfl) (fun _ _ _ h => h) (Or.inl ⟨by rfl, ?ybd6⟩) hS0 ?rbd6
      case ybd6 => (intro W hSw; obtain ⟨⟨d0, d1, d6, d11, d12⟩, -⟩ := op_parts hSw; go_simp; try with_reducible rfl)
      try simp only [Act.put, List.setIfInBounds_toArray, List.set_cons_zero, List.set_cons_succ]
      refine wpAnyG_takeL (i := 7) (oi := _) (v := ?vbd7) rfl (by as_aux_lemma => kernel_rfl) (by as_aux_lemma => kernel_rfl) (by as_aux_lemma => kernel_rfl) (by as_aux_lemma => kernel_rfl) (fun _ _ _ h => h) (Or.inl ⟨by rfl, ?ybd7⟩) hS0 ?rbd7
      case ybd7 => (intro W hSw; obtain ⟨⟨d0, d1, d6, d11, d12⟩, -⟩ := op_parts hSw; go_simp; try with_reducible rfl)
      try simp only [Act.put, List.setIfInBounds_toArray, List.set_cons_zero, List.set_cons_succ]
      refine wpAnyG_takeL (i := 8) (oi := _) (v := ?vbd8) rfl (by as_aux_lemma => kernel_rfl) (by as_aux_lemma => kernel_rfl) (by as_aux_lemma => kernel_rfl) (by as_aux_lemma => kernel_rfl) (fun _ _ _ h => h) (Or.inl ⟨by rfl, ?ybd8⟩) hS0 ?rbd8
      case ybd8 => (intro W hSw; obtain ⟨⟨d0, d1, d6, d11, d12⟩, -⟩ := op_parts hSw; go_simp; try with_reducible rfl)
      try simp only [Act.put, List.setIfInBounds_toArray, List.set_cons_zero, List.set_cons_succ]
      refine wpAnyG_takeL (i := 10) (oi := _) (v := ?vbd10) rfl (by as_aux_lemma => kernel_rfl) (by as_aux_lemma => kernel_rfl) (by as_aux_lemma => kernel_rfl) (by as_aux_lemma => kernel_rfl) (fun _ _ _ h => h) (Or.inl ⟨by rfl, ?ybd10⟩) hS0 ?rbd10
      case ybd10 => (intro W hSw; obtain ⟨⟨d0, d1, d6, d11, d12⟩, -⟩ := op_parts hSw; go_simp; try with_reducible rfl)
      try simp only [Act.put, List.setIfInBounds_toArray, List.set_cons_zero, List.set_cons_succ]
      refine wpAnyG_takeL (i := 11) (oi := _) (v := ?vbd11) rfl (by as_aux_lemma => kernel_rfl) (by as_aux_lemma => kernel_rfl) (by as_aux_lemma => kernel_rfl) (by as_aux_lemma => kernel_rfl) (fun _ _ _ h => h) (Or.inl ⟨by rfl, ?ybd11⟩) hS0 ?rbd11
      case ybd11 => (intro W hSw; obtain ⟨⟨d0, d1, d6, d11, d12⟩, -⟩ := op_parts hSw; go_simp; try with_reducible rfl)
      try simp only [Act.put, List.setIfInBounds_toArray, List.set_cons_zero, List.set_cons_succ]
      refine wpAnyG_takeL (i := 12) (oi := _) (v := ?vbd12) rfl (by as_aux_lemma => kernel_rfl) (by as_aux_lemma => kernel_rfl) (by as_aux_lemma => kernel_rfl) (by as_aux_lemma => kernel_rfl) (fun _ _ _ h => h) (Or.inl ⟨by rfl, ?ybd12⟩) hS0 ?rbd12
      case ybd12 => (intro W hSw; obtain ⟨⟨d0, d1, d6, d11, d12⟩, -⟩ := op_parts hSw; go_simp; try with_reducible rfl)
      try simp only [Act.put, List.setIfInBounds_toArray, List.set_cons_zero, List.set_cons_succ]
      refine wpAnyG_takeL (i := 13) (oi := _) (v := ?vbd13) rfl (by as_aux_lemma => kernel_rfl) (by as_aux_lemma => kernel_rfl) (by as_aux_lemma => kernel_rfl) (by as_aux_lemma => kernel_rfl) (fun _ _ _ h => h) (Or.inl ⟨by rfl, ?ybd13⟩) hS0 ?rbd13
      case ybd13 => (intro W hSw; obtain ⟨⟨d0, d1, d6, d11, d12⟩, -⟩ := op_parts hSw; go_simp; try with_reducible rfl)
      try simp only [Act.put, List.setIfInBounds_toArray, List.set_cons_zero, List.set_cons_succ]
      refine wpAnyG_takeL (i := 14) (oi := _) (v := ?vbd14) rfl (by as_aux_lemma => kernel_rfl) (by as_aux_lemma => kernel_rfl) (by as_aux_lemma => kernel_rfl) (by as_aux_lemma => kernel_rfl) (fun _ _ _ h => h) (Or.inl ⟨by rfl, ?ybd14⟩) hS0 ?rbd14
      case ybd14 => (intro W hSw; obtain ⟨⟨d0, d1, d6, d11, d12⟩, -⟩ := op_parts hSw; go_simp; try with_reducible rfl)
      try simp only [Act.put, List.setIfInBounds_toArray, List.set_cons_zero, List.set_cons_succ]
      refine wpAnyG_takeL (i := 15) (oi := _) (v := ?vbd15) rfl (by as_aux_lemma => kernel_rfl) (by as_aux_lemma => kernel_rfl) (by as_aux_lemma => kernel_rfl) (by as_aux_lemma => kernel_rfl) (fun _ _ _ h => h) (Or.inl ⟨by rfl, ?ybd15⟩) hS0 ?rbd15
      case ybd15 => (intro W hSw; obtain ⟨⟨d0, d1, d6, d11, d12⟩, -⟩ := op_parts hSw; go_simp; try with_reducible rfl)
      try simp only [Act.put, List.setIfInBounds_toArray, List.set_cons_zero, List.set_cons_succ]
      refine wpAnyG_takeL (i := 16) (oi := _) (v := ?vbd16) rfl (by as_aux_lemma => kernel_rfl) (by as_aux_lemma => kernel_rfl) (by as_aux_lemma => kernel_rfl) (by as_aux_lemma => kernel_rfl) (fun _ _ _ h => h) (Or.inl ⟨by rfl, ?ybd16⟩) hS0 ?rbd16
      case ybd16 => (intro W hSw; obtain ⟨⟨d0, d1, d6, d11, d12⟩, -⟩ := op_parts hSw; go_simp; try with_reducible rfl)
      try simp only [Act.put, List.setIfInBounds_toArray, List.set_cons_zero, List.set_cons_succ]
      refine wpAnyG_takeL (i := 17) (oi := _) (v := ?vbd17) rfl (by as_aux_lemma => kernel_rfl) (by as_aux_lemma => kernel_rfl) (by as_aux_lemma => kernel_rfl) (by as_aux_lemma => kernel_rfl) (fun _ _ _ h => h) (Or.inl ⟨by rfl, ?ybd17⟩) hS0 ?rbd17
      case ybd17 => (intro W hSw; obtain ⟨⟨d0, d1, d6, d11, d12⟩, -⟩ := op_parts hSw; go_simp; try with_reducible rfl)
      try simp only [Act.put, List.setIfInBounds_toArray, List.set_cons_zero, List.set_cons_succ]
      refine wpAnyG_takeL (i := 18) (oi := _) (v := ?vbd18) rfl (by as_aux_lemma => kernel_rfl) (by as_aux_lemma => kernel_rfl) (by as_aux_lemma => kernel_rfl) (by as_aux_lemma => kernel_rfl) (fun _ _ _ h => h) (Or.inl ⟨by rfl, ?ybd18⟩) hS0 ?rbd18
      case ybd18 => (intro W hSw; obtain ⟨⟨d0, d1, d6, d11, d12⟩, -⟩ := op_parts hSw; go_simp; try with_reducible rfl)
      try simp only [Act.put, List.setIfInBounds_toArray, List.set_cons_zero, List.set_cons_succ]
      refine wpAnyG_onlyL (i := 9) (o := _) (by as_aux_lemma => kernel_rfl) rfl (fun K hK => ?_)
      go_simp
      refine AQ.out.mono ?_
      rintro e w9 ⟨rfl, hq9, k9⟩
      have h9 : TwoR R S w w9 q rb most (P.filter fun y => !dropP x.m.tb x.m.tl y) P := (ZZ.out.1.toOld ((Keeps.refl (fun _ => False) w8).drew)).ofProg hq9 k9 (fun _ s => s) (fun k s => .inl s) (fun _ r => .inl r)
      have hS9 : w9.heap[ob]? = some (.cells (opL x).toArray 62 (0, 0)) := (k9.block _ (lt_of_heap hS0) (fun r => (ZZ.out.2.2.1 ob (ZZ.out.1.lt.1 ob r)).1 rfl)).trans hS0
      have RDQ := Lib.hid (rdrop_any x.m.tb x.m.tl h9.doc ZZ.out.2.2.2.2)
      rw [ZZ.out.2.2.2.1] at RDQ
      have V9 := Lib.hid h9
      clear h9 hq9 k9
      go_wp2_with fail
      refine hK.out _ _ (fun _ => hS9) ?_
      clear hK K
      try simp only [Act.put, List.setIfInBounds_toArray, List.set_cons_zero, List.set_cons_succ]
      refine wpAnyG_onlyL (i := 19) (o := _) (by as_aux_lemma => kernel_rfl) rfl (fun K hK => ?_)
      go_simp
      refine RDQ.out.mono ?_
      rintro e w10 ⟨rfl, hd10, k10⟩
      have h10 := V9.out.ofDoc hd10 k10
      have hS10 : w10.heap[ob]? = some (.cells (opL x).toArray 62 (0, 0)) := (k10.block _ (lt_of_heap hS9) (fun e => (ZZ.out.2.2.1 rb ZZ.out.1.inS).1 e.symm)).trans hS9
      have V10 := Lib.hid h10
      clear hd10 k10 h10
      go_wp2_with fail
      refine hK.out _ _ (fun _ => hS10) ?_
      clear hK K
      try simp only [Act.put, List.setIfInBounds_toArray, List.set_cons_zero, List.set_cons_succ]
      refine wpAnyG_onlyL (i := 20) (o := _) (by as_aux_lemma => kernel_rfl) rfl (fun K hK => ?_)
      go_simp
      refine hK.out _ _ (fun _ => hS10) ?_
      clear hK K
      try simp only [Act.put, List.setIfInBounds_toArray, List.set_cons_zero, List.set_cons_succ]
      refine wpAnyG_done (by as_aux_lemma => kernel_rfl) ?_ _
      clear hS0 hS9 hS10
      go_wp2_with fail
      go_meet
      case rel => exact ⟨q, rfl, R, S, _, V10.out, by have := List.length_filter_le (fun y => !dropP x.m.tb x.m.tl y) P; have := ZZ.out.2.1; omega⟩
     have n4 : (wh == 4) = false := by simp [h4]
     by_cases h5 : wh = 5
     ·subst h5
      clear h3 h4 n3 n4
      clear d6
      go_upto_region 32 with fail
      obtain ⟨R, S, P, h, hl, hbs, hro, hbm, hbo, hne, hxf, hn7⟩ := G8.out
      have hl80 : P.length ≤ 10000 := by have := G.out.2.2.2.2.2.2.2.2; omega
      have AQ := Lib.hid (forget_q x.link (h.prog.old ((Keeps.refl (fun _ => False) w8).drew)) HM.out.1)
      obtain ⟨za, hza⟩ : ∃ z : Nat, P.length - (P.filter fun y => !linkP x.link y).length = z := ⟨_, rfl⟩
      rw [hza] at AQ
      have zz : ((za : Int) != (za : Int)) = false := by simp
      have ZZ := Lib.hid (And.intro h (And.intro hl (And.intro hne (And.intro hza hl80))))
      clear h hl hbs hro hbm hbo hne hxf hl80 hza hn7 d0 d11 d12 lm8
      refine wp_region_g (S := fun W => W.heap[ob]? = some (.cells (opL x).toArray 62 (0, 0))) (M := List.range 9) (by as_aux_lemma => kernel_rfl) ?_
      have hS0 : w8.drew.heap[ob]? = some (.cells (opL x).toArray 62 (0, 0)) := B8.out.1
      refine wpAnyG_takeL (i := 0) (oi := _) (v := ?vbf0) rfl (by as_aux_lemma => kernel_rfl) (by as_aux_lemma => kernel_rfl) (by as_aux_lemma => kernel_rfl) (by as_aux_lemma => kernel_rfl) (fun _ _ _ h => h) (Or.inl ⟨by rfl, ?ybf0⟩) hS0 ?rbf0
      case ybf0 => (intro W hSw; obtain ⟨⟨d0, d1, d6, d11, d12⟩, -⟩ := op_parts hSw; go_simp; try with_reducible rfl)
      try simp only [Act.put, List.setIfInBounds_toArray, List.set_cons_zero, List.set_cons_succ]
      refine wpAnyG_takeL (i := 1) (oi := _) (v := ?vbf1) rfl (by as_aux_lemma => kernel_rfl) (by as_aux_lemma => kernel_rfl) (by as_aux_lemma => kernel_rfl) (by as_aux_lemma => kernel_rfl) (fun _ _ _ h => h) (Or.inl ⟨by rfl, ?ybf1⟩) hS0 ?rbf1
      case ybf1 => (intro W hSw; obtain ⟨⟨d0, d1, d6, d11, d12⟩, -⟩ := op_parts hSw; go_simp; try with_reducible rfl)
      try simp only [Act.put, List.setIfInBounds_toArray, List.set_cons_zero, List.set_cons_succ]
      refine wpAnyG_takeL (i := 2) (oi := _) (v := ?vbf2) rfl (by as_aux_lemma => kernel_rfl) (by as_aux_lemma => kernel_rfl) (by as_aux_lemma => kernel_rfl) (by as_aux_lemma => kernel_rfl) (fun _ _ _ h => h) (Or.inl ⟨by rfl, ?ybf2⟩) hS0 ?rbf2
      case ybf2 => (intro W hSw; obtain ⟨⟨d0, d1, d6, d11, d12⟩, -⟩ := op_parts hSw; go_simp; try with_reducible rfl)
      try simp only [Act.put, List.setIfInBounds_toArray, List.set_cons_zero, List.set_cons_succ]
      refine wpAnyG_takeL (i := 4) (oi := _) (v := ?vbf4) rfl (by as_aux_lemma => kernel_rfl) (by as_aux_lemma => kernel_rfl) (by as_aux_lemma => kernel_rfl) (by as_aux_lemma => kernel_rfl) (fun _ _ _ h => h) (Or.inl ⟨by rfl, ?ybf4⟩) hS0 ?rbf4
      case ybf4 => (intro W hSw; obtain ⟨⟨d0, d1, d6, d11, d12⟩, -⟩ := op_parts hSw; go_simp; try with_reducible rfl)
      try simp only [Act.put, List.setIfInBounds_toArray, List.set_cons_zero, List.set_cons_succ]
      refine wpAnyG_takeL (i := 5) (oi := _) (v := ?vbf5) rfl (by as_aux_lemma => kernel_rfl) (by as_aux_lemma => kernel_rfl) (by as_aux_lemma => kernel_rfl) (by as_aux_lemma => kernel_rfl) (fun _ _ _ h => h) (Or.inl ⟨by rfl, ?ybf5⟩) hS0 ?rbf5
      case ybf5 => (intro W hSw; obtain ⟨⟨d0, d1, d6, d11, d12⟩, -⟩ := op_parts hSw; go_simp; try with_reducible rfl)
      try simp only [Act.put, List.setIfInBounds_toArray, List.set_cons_zero, List.set_cons_succ]
      refine wpAnyG_takeL (i := 6) (oi := _) (v := ?vbf6) rfl (by as_aux_lemma => kernel_rfl) (by as_aux_lemma => kernel_rfl) (by as_aux_lemma => kernel_rfl) (by as_aux_lemma => kernel_rfl) (fun _ _ _ h => h) (Or.inl ⟨by rfl, ?ybf6⟩) hS0 ?rbf6
      case ybf6 => (intro W hSw; obtain ⟨⟨d0, d1, d6, d11, d12⟩, -⟩ := op_parts hSw; go_simp; try with_reducible rfl)
      try simp only [Act.put, List.setIfInBounds_toArray, List.set_cons_zero, List.set_cons_succ]
      refine wpAnyG_onlyL (i := 3) (o := _) (by as_aux_lemma => kernel_rfl) rfl (fun K hK => ?_)
      go_simp
      refine AQ.out.mono ?_
      rintro e w9 ⟨rfl, hq9, k9⟩
      have h9 : TwoR R S w w9 q rb most (P.filter fun y => !linkP x.link y) P := (ZZ.out.1.toOld ((Keeps.refl (fun _ => False) w8).drew)).ofProg hq9 k9 (fun _ s => s) (fun k s => .inl s) (fun _ r => .inl r)
      have hS9 : w9.heap[ob]? = some (.cells (opL x).toArray 62 (0, 0)) := (k9.block _ (lt_of_heap hS0) (fun r => (ZZ.out.2.2.1 ob (ZZ.out.1.lt.1 ob r)).1 rfl)).trans hS0
      have RDQ := Lib.hid (rforget_any x.link h9.doc ZZ.out.2.2.2.2)
      rw [ZZ.out.2.2.2.1] at RDQ
      have V9 := Lib.hid h9
      clear h9 hq9 k9
      go_wp2_with fail
      refine hK.out _ _ (fun _ => hS9) ?_
      clear hK K
      try simp only [Act.put, List.setIfInBounds_toArray, List.set_cons_zero, List.set_cons_succ]
      refine wpAnyG_onlyL (i := 7) (o := _) (by as_aux_lemma => kernel_rfl) rfl (fun K hK => ?_)
      go_simp
      refine RDQ.out.mono ?_
      rintro e w10 ⟨rfl, hd10, k10⟩
      have h10 := V9.out.ofDoc hd10 k10
      have hS10 : w10.heap[ob]? = some (.cells (opL x).toArray 62 (0, 0)) := (k10.block _ (lt_of_heap hS9) (fun e => (ZZ.out.2.2.1 rb ZZ.out.1.inS).1 e.symm)).trans hS9
      have V10 := Lib.hid h10
      clear hd10 k10 h10
      go_wp2_with fail
      refine hK.out _ _ (fun _ => hS10) ?_
      clear hK K
      try simp only [Act.put, List.setIfInBounds_toArray, List.set_cons_zero, List.set_cons_succ]
      refine wpAnyG_onlyL (i := 8) (o := _) (by as_aux_lemma => kernel_rfl) rfl (fun K hK => ?_)
      go_simp
      refine hK.out _ _ (fun _ => hS10) ?_
      clear hK K
      try simp only [Act.put, List.setIfInBounds_toArray, List.set_cons_zero, List.set_cons_succ]
      refine wpAnyG_done (by as_aux_lemma => kernel_rfl) ?_ _
      clear hS0 hS9 hS10
      go_wp2_with fail
      go_meet
      case rel => exact ⟨q, rfl, R, S, _, V10.out, by have := List.length_filter_le (fun y => !linkP x.link y) P; have := ZZ.out.2.1; omega⟩
     have n5 : (wh == 5) = false := by simp [h5]
     by_cases h6 : wh = 6
     ·subst h6
      clear h3 h4 h5 n3 n4 n5
      clear d0 d6 d11 d12 lm8
      obtain ⟨R, S, P, h, hl, hbs, hro, hbm, hbo, hne, hxf, hn7⟩ := G8.out
      have hl80 : P.length ≤ 100000 := by have := G.out.2.2.2.2.2.2.2.2; omega
      have AQ := Lib.hid (copy_q h.prog HM.out.1 hl80)
      have ZZ := Lib.hid (And.intro h (And.intro hl hne))
      clear h hl hbs hro hbm hbo hne hxf hn7 hl80
      go_upto_region 37 with (go_at_call 12; refine AQ.out.mono ?_; rintro e w9 ⟨q2, R2, rfl, r2, hq2, hqo, o9⟩; have hm9 := ZZ.out.1.more o9 R2 (fun k r => ⟨r2 k r, hq2.facts.2.2 k (.inr r)⟩); have bo9 := (o9.block _ (lt_of_heap B8.out.1) (fun f => f)).trans B8.out.1; have N9 := Lib.hid (And.intro hm9 (And.intro hq2 (And.intro hqo (And.intro r2 bo9)))); clear r2 hq2 hqo o9 hm9 bo9 d1)
      have hT : TwoR R2 (fun k => S k ∨ R2 k) w w9 q2 rb most P P := ⟨N9.out.2.1, N9.out.1.doc, N9.out.1.inS, fun r => by have := N9.out.2.2.2.1 rb r; have := ZZ.out.1.doc.lt.1; omega, N9.out.1.lo, N9.out.1.old⟩
      have hM : ∀ k, R k → (S k ∨ R2 k) ∧ ¬ R2 k ∧ k ≠ rb := fun k r => by
       have h1 := ZZ.out.1.lt.2 k (ZZ.out.1.lt.1 k r)
       exact ⟨.inl (ZZ.out.1.lt.1 k r), fun r' => by have := N9.out.2.2.2.1 k r'; omega, fun e => ZZ.out.1.outR (e ▸ r)⟩
      have hnb : ∀ k, R k → k ≠ ob := fun k r e => by
       exact (ZZ.out.2.2 k (ZZ.out.1.lt.1 k r)).1 e
      have NX := Lib.hid (next_anyq (show QuP R (fun k => S k ∨ R2 k) w9 q most P from N9.out.2.2.1) HM.out.1)
      have N9b := Lib.hid (And.intro hT (And.intro hM hnb))
      clear hT hM hnb
      go_upto_region 38 with (go_at_call 14; refine NX.out.mono ?_; rintro e w10 ⟨az, am, ab, P3, rfl, hq10, k10⟩; have FX := Lib.hid (forget_q x.link hq10 HM.out.1); have hT10 := N9b.out.1.wrote R k10 N9b.out.2.1; have bo10 := (k10.block _ (lt_of_heap N9.out.2.2.2.2) (fun r => N9b.out.2.2 ob r rfl)).trans N9.out.2.2.2.2; have N10 := Lib.hid (And.intro hT10 (And.intro hq10 bo10)); clear hq10 k10 hT10 bo10)
      obtain ⟨⟨-, d1, -, -, -⟩, -⟩ := op_parts N10.out.2.2
      go_wp2_with fail
      refine FX.out.mono ?_
      rintro e w11 ⟨rfl, hq11, k11⟩
      have hT11 := N10.out.1.wrote R k11 N9b.out.2.1
      have V := Lib.hid hT11
      clear hq11 k11 hT11 d1
      go_wp2_with fail
      go_meet
      case rel => exact ⟨q2, rfl, _, _, P, V.out, by have := ZZ.out.2.1; omega⟩
     have n6 : (wh == 6) = false := by simp [h6]
     by_cases h7 : wh = 7
     ·subst h7
      clear h3 h4 h5 h6 n3 n4 n5 n6
      clear d0 d6 d11 d12 lm8
      obtain ⟨R, S, P, h, hl, hbs, hro, hbm, hbo, hne, hxf, hn7⟩ := G8.out
      have hl80 : P.length ≤ 100000 := by have := G.out.2.2.2.2.2.2.2.2; omega
      have AQ := Lib.hid (copy_q h.prog HM.out.1 hl80)
      have ZZ := Lib.hid (And.intro h (And.intro hl hne))
      clear h hl hbs hro hbm hbo hne hxf hn7 hl80
      go_upto_region 41 with (go_at_call 12; refine AQ.out.mono ?_; rintro e w9 ⟨q2, R2, rfl, r2, hq2, hqo, o9⟩; have hm9 := ZZ.out.1.more o9 R2 (fun k r => ⟨r2 k r, hq2.facts.2.2 k (.inr r)⟩); have bo9 := (o9.block _ (lt_of_heap B8.out.1) (fun f => f)).trans B8.out.1; have N9 := Lib.hid (And.intro hm9 (And.intro hq2 (And.intro hqo (And.intro r2 bo9)))); clear r2 hq2 hqo o9 hm9 bo9 d1)
      have hT : TwoR R (fun k => S k ∨ R2 k) w w9 q rb most P P := N9.out.1
      have hM : ∀ k, R2 k → (S k ∨ R2 k) ∧ ¬ R k ∧ k ≠ rb := fun k r => by
       have h1 := N9.out.2.2.2.1 k r
       exact ⟨.inr r, fun r' => by have := ZZ.out.1.lt.2 k (ZZ.out.1.lt.1 k r'); omega, fun e => by have := ZZ.out.1.doc.lt.1; omega⟩
      have hnb : ∀ k, R2 k → k ≠ ob := fun k r e => by
       have h1 := N9.out.2.2.2.1 k r
       have h2 := lt_of_heap B8.out.1
       omega
      have NX := Lib.hid (next_anyq (show QuP R2 (fun k => S k ∨ R2 k) w9 q2 most P from N9.out.2.1) HM.out.1)
      have N9b := Lib.hid (And.intro hT (And.intro hM hnb))
      clear hT hM hnb
      go_upto_region 42 with (go_at_call 14; refine NX.out.mono ?_; rintro e w10 ⟨az, am, ab, P3, rfl, hq10, k10⟩; have FX := Lib.hid (forget_q x.link hq10 HM.out.1); have hT10 := N9b.out.1.wrote R2 k10 N9b.out.2.1; have bo10 := (k10.block _ (lt_of_heap N9.out.2.2.2.2) (fun r => N9b.out.2.2 ob r rfl)).trans N9.out.2.2.2.2; have N10 := Lib.hid (And.intro hT10 (And.intro hq10 bo10)); clear hq10 k10 hT10 bo10)
      obtain ⟨⟨-, d1, -, -, -⟩, -⟩ := op_parts N10.out.2.2
      go_wp2_with fail
      refine FX.out.mono ?_
      rintro e w11 ⟨rfl, hq11, k11⟩
      have hT11 := N10.out.1.wrote R2 k11 N9b.out.2.1
      have V := Lib.hid hT11
      clear hq11 k11 hT11 d1
      go_wp2_with fail
      go_meet
      case rel => exact ⟨q, rfl, _, _, P, V.out, by have := ZZ.out.2.1; omega⟩
     have n7' : (wh == 7) = false := by simp [h7]
     clear h3 h4 h5 h6 h7
     go_wp2_with fail
     go_meet
     case rel =>
      obtain ⟨R, S, P, h, hl, _⟩ := G8.out
      exact ⟨q, rfl, R, S, P, h, Nat.le_succ_of_le hl⟩
  case rest =>
   obtain ⟨q', rfl, hE⟩ := hcut
   obtain ⟨wf, rfl⟩ : ∃ wf : World, wf = wc := ⟨_, rfl⟩
   have E := Lib.hid hE
   obtain ⟨R, S, P, h, hl⟩ := hE
   have hdoc := h.doc
   obtain ⟨pd, nd, cd, Ld, hLd, e1, e2, _⟩ := hdoc
   obtain ⟨p', c', e, _, _⟩ := e2.len
   simp only [Value.slice.injEq] at e
   obtain ⟨rfl, rfl, rfl⟩ := e
   have hLP : Ld.length = P.length := by rw [← hLd, List.length_map]
   rw [hLP] at e1
   obtain ⟨y0, y1, -, -⟩ := blkQu e1
   obtain ⟨np, hnp⟩ : ∃ n, P.length = n := ⟨_, rfl⟩
   have LQ0 : ∀ n, Calls Try.prog 13 #[.pointer (some ⟨q', 0, none⟩)] (wf.drewN n) fun e w' => e = .returned (.int .i64 (np : Int)) ∧ w' = wf.drewN n := fun n => by
    obtain ⟨L, hL, hq⟩ := h.prog
    have := len_q (hq.old (((Keeps.refl (fun _ => False) wf).drewN25 n))) HM.out.1
    rw [← List.length_map (f := Qy.plain), hL, hnp] at this
    exact this.mono (fun _ _ h => And.intro h.1 h.2.symm)
   have LQ := Lib.hid LQ0
   clear LQ0
   rw [hnp] at y1
   have hw1 : IntKind.i64.wrap ((i : Int) + 1) = ((i + 1 : Nat) : Int) := by rw [IntKind.wrap_i64]; omega
   clear h hl hLd e1 e2 hLP hnp d0 d1 d6 d11 d12 lm8
   go_upto_region 43 with fail
   go_quiet ((go_at_call 13; refine Calls.quiet_of_same (LQ.out _)))
   go_wp2_with fail
   go_roundg (ops.length - (i + 1))
   case measure => have := G.out.2.2.2.2.2.2.2.1; omega
   case rel =>
    obtain ⟨_, _, _, _, _, _, hi, hlt, h80⟩ := G.out
    exact ⟨i + 1, q', by omega, by omega, rfl, rfl, by go_num, E.out.old ((Keeps.refl (fun _ => False) wf).drewN25 _)⟩
end Go.Proofs.Ytiednihagnehlaa
