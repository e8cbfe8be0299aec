/- DERIVED. frame: the records, one behind the other. · DERIVED. TopTorn, plain: what is read of a torn file, whatever the crash. · DERIVED. TopTorn: read. · DERIVED. TopTorn: logged. · DERIVED. TopTorn, walked: forms in the file; what the loop keeps. -/
import Derived.Test.YtfnanbadbmmicaaGreatDoorZTopTorn07
import Derived.OwnWalkIn
import Derived.TacticsInMore
import Derived.Maps.OwnIn
import Derived.Deep.DeepCutAuto
import Derived.Deep.QuietTactic
import Derived.BigQuiet
import Derived.Maps.AppendAt
import Derived.RangeFuncBox
import Derived.Test.YtfnanbadbmmicaaGreatDoorZTopTorn06
import Derived.Test.YtfnanbadbmmicaaGreatDoorY12
import Derived.Test.YtfnanbadbmmicaaGreatDoorY11
namespace Go.Proofs.YtfnanbadbmmicaaGreatDoor
open Go.RowKit Torn
attribute [local go_sem] Oper.semAt_some

/-- the walk stands still here -/
def Stay (p : Prop) : Prop := p
theorem Stay.go {p : Prop} (h : Stay p) : p := h
theorem put_named {Q : Exit → Act → World → Prop} {W2 : World} {n : Nat} {o : Obj} {E : Exit} {A : Act} (h : ∀ W3, W3 = W2.putObj n o → Q E A W3) : Q E A (W2.putObj n o) := h _ rfl
theorem enters_frames2 : ∀ args W, (callFunc 68 args).run Tryz.prog W = .ok (.enter 68 args) W := fun args W => by simp [go_sem, callFunc, Tryz.func68]; rfl
theorem Tryz.infoBs : (Tryz.prog.info? 25).map (fun i => (i.zero, i.size, i.bytes)) = some (some (.slice none 0 0), 1, 24) := by kernel_rfl
theorem SpJ.turn {w : World} {R : Loop} {v : Value} {rs : List Rec} {a wh : Nat} {W : World} (h : SpJ w R v rs a wh W) (R' : Loop) : SpJ w R' v rs a wh (W.putObj (w.heap.size + 6) (.loop R')) := by
 obtain ⟨sv, h1, h2⟩ := h.l
 have hz := h.size
 have hk : Keeps (fun k => k = w.heap.size + 6) W (W.putObj (w.heap.size + 6) (.loop R')) := (Keeps.refl (fun k => k = w.heap.size + 6) W).putObj (fun _ => rfl) _
 exact ⟨h.old.then hk (fun i hi e => by omega), ⟨sv, (hk.block _ (by omega) (by omega)).trans h1, h2.keeps fineB_keeps hk (fun b hb _ e => by omega)⟩, (hk.block _ (by omega) (by omega)).trans h.wh, (hk.block _ (by omega) (by omega)).trans h.b, (hk.block _ (by omega) (by omega)).trans h.a,
  (hk.block _ (by omega) (by omega)).trans h.n, (hk.block _ (by omega) (by omega)).trans h.d, World.putObj_heap_same (by omega)⟩
theorem Came.turn {w : World} {R : Loop} {v : Value} {rs : List Rec} {a wh : Nat} {W : World} {x : Rec} (h : Came w R v rs a wh x W) (R' : Loop) : Came w R' v rs a wh x (W.putObj (w.heap.size + 6) (.loop R')) := by
 obtain ⟨h1, h2, g, c, h3, h4, h5, h6⟩ := h
 have hz := h1.size
 have hk : Keeps (fun k => k = w.heap.size + 6) W (W.putObj (w.heap.size + 6) (.loop R')) := (Keeps.refl (fun k => k = w.heap.size + 6) W).putObj (fun _ => rfl) _
 refine ⟨h1.turn R', h2.keeps hk (fun b hb e => by rw [h3] at hb; simp [Value.ownBlock] at hb; omega), g, c, h3, h4, Nat.lt_of_lt_of_le h5 hk.size, fun sv hsv => ?_⟩
 rw [hk.block _ (by omega) (by omega)] at hsv
 exact h6 sv hsv
theorem round_of {w : World} {v : Value} {rs : List Rec} {a wh : Nat} {x : Rec} {W2 : World} {fn : FuncId} {tmps : Array Value} {ps : Array Tmp} {assign body : Code} (hc : Came w (lrec fn tmps ps assign body (w.heap.size + 5) .ready) v rs a wh x W2) (hs : 2 = ps.size)
  (h : ∀ W3, Came w (lrec fn tmps ps assign body (w.heap.size + 5) .busy) v rs a wh x W3 → assign.wpIn (Fence.wide.inRound (w.heap.size + 6)) 0 Tryz.prog (Exit.then (fun a₁ w₁ => w₁ = W2 ∧
   body.wpIn (Fence.wide.inRound (w.heap.size + 6)) 0 Tryz.prog (fun e _ w₂ => e = .normal ∧ SpJ w (lrec fn tmps ps assign body (w.heap.size + 5) .busy) v (rs ++ [x]) a a w₂) a₁ W3) (fun _ _ _ => False))
   { tmps := (ps.zip #[.int .i64 (a : Int), x.1]).foldl (fun t (p, v) => t.setIfInBounds p v) tmps, defers := [] } W2) :
  Round Tryz.prog (w.heap.size + 6) #[.int .i64 (a : Int), x.1] W2 (SpJ w (lrec fn tmps ps assign body (w.heap.size + 5) .ready) v (rs ++ [x]) a a) := by
 refine Round.of hc.1.r (by simpa using hs) (wpIn_mono (h _ (hc.turn (lrec fn tmps ps assign body (w.heap.size + 5) .busy))) ?_)
 intro e a1 w1 hq
 cases e with
 | normal =>
  obtain ⟨rfl, hb⟩ := hq
  refine ⟨hc.1.r, wpIn_mono hb ?_⟩
  rintro e2 a2 w2 ⟨rfl, hj⟩
  exact ⟨rfl, hj.r, hj.turn _⟩
 | ret => exact hq.elim
 | exit id => exact hq.elim
 | goto t => exact hq.elim
 | panic ch => exact hq.elim
 | outgrown => exact hq.elim
theorem SpJ.push {w : World} {R : Loop} {v : Value} {rs : List Rec} {a wh : Nat} {W W1 : World} {x : Rec} {sv v' : Value} (h : SpJ w R v rs a wh W) (hs : Sees W x.1 x.2) (hx : ∀ b, x.1.ownBlock = some b → w.heap.size + 7 ≤ b ∧ b < W.heap.size ∧ sv.ownBlock ≠ some b)
  (hl : W.heap[w.heap.size]? = some (.cells #[sv] 71 (0, 0))) (own : OwnN W (w.heap.size + 7) 25 1 encB Prod.fst fineB sv rs) (ho : OwnsR W1 (w.heap.size + 7) 25 1 encB v' (rs ++ [x])) (hg : W.grownBy W1 sv.ownBlock)
  (hat : v'.ownBlock = sv.ownBlock ∨ v'.ownBlock = some W.heap.size) : SpJ w R v (rs ++ [x]) a a ((W1.setCell ⟨w.heap.size, 0, none⟩ v').setCell ⟨w.heap.size + 1, 0, none⟩ (.int .i64 (a : Int))) := by
 have hz := h.size
 have n1 := OwnN.snoc fineB_keeps own hs hx ho hg hat
 have k1 : Keeps (fun k => sv.ownBlock = some k) W W1 := (Keeps.refl (fun k => sv.ownBlock = some k) W).grown hg (fun k e _ => e)
 have hb : ∀ k, k < w.heap.size + 7 → ¬ sv.ownBlock = some k := fun k hk e => by have := (own.1.block k e).1; omega
 have k2 : Keeps (fun k => k = w.heap.size) W1 (W1.setCell ⟨w.heap.size, 0, none⟩ v') := keepC _ _ _ _
 have k3 : Keeps (fun k => k = w.heap.size + 1) (W1.setCell ⟨w.heap.size, 0, none⟩ v') ((W1.setCell ⟨w.heap.size, 0, none⟩ v').setCell ⟨w.heap.size + 1, 0, none⟩ (.int .i64 (a : Int))) := keepC _ _ _ _
 have z1 := k1.size
 have z2 := k2.size
 have at1 : ∀ k (o : Obj), k < w.heap.size + 7 → W.heap[k]? = some o → W1.heap[k]? = some o := fun k o hk e => (k1.block k (by omega) (hb k hk)).trans e
 have at3 : ∀ k (o : Obj), k < w.heap.size + 7 → k ≠ w.heap.size → k ≠ w.heap.size + 1 → W.heap[k]? = some o → ((W1.setCell ⟨w.heap.size, 0, none⟩ v').setCell ⟨w.heap.size + 1, 0, none⟩ (.int .i64 (a : Int))).heap[k]? = some o := fun k o hk e1 e2 e =>
  (k3.block k (by omega) e2).trans ((k2.block k (by omega) e1).trans (at1 k o hk e))
 refine ⟨((h.old.then k1 (fun i hi e => (hb i (by omega) e).elim)).then k2 (fun i hi e => by omega)).then k3 (fun i hi e => by omega), ⟨v', (k3.block _ (by omega) (by omega)).trans (blk1_set (at1 _ _ (by omega) hl) _), (n1.keeps fineB_keeps k2 (fun b hb _ e => by omega)).keeps fineB_keeps k3 (fun b hb _ e => by omega)⟩,
  blk1_set ((k2.block _ (by omega) (by omega)).trans (at1 _ _ (by omega) h.wh)) _, at3 _ _ (by omega) (by omega) (by omega) h.b, at3 _ _ (by omega) (by omega) (by omega) h.a, at3 _ _ (by omega) (by omega) (by omega) h.n, at3 _ _ (by omega) (by omega) (by omega) h.d, at3 _ _ (by omega) (by omega) (by omega) h.r⟩
set_option maxRecDepth 100000 in
set_option maxHeartbeats 1000000 in
theorem split_any (v : Value) (L : List UInt8) (w : World) (hv : Sees w v L) (hl : L.length ≤ 1000000000) : Calls Tryz.prog 33 #[v] w fun e w' => ∃ sv rs n, e = .returned (.tuple #[sv, .int .i64 n]) ∧ Old w w' ∧ OwnN w' w.heap.size 25 1 encB Prod.fst fineB sv rs ∧ ∀ K, split crcS (rs.length + K) L = rs.map Prod.snd := by
 obtain ⟨p, c, rfl, _, _⟩ := hv.len
 obtain ⟨W0, hW0⟩ : ∃ W0, (w.alloc (.cells #[.slice none 0 0] 71)).alloc (.cells #[.int .i64 0] 3) = W0 := ⟨_, rfl⟩
 have z0 : W0.heap.size = w.heap.size + 2 := by rw [← hW0]; simp
 have o0 : Old w W0 := by rw [← hW0]; exact ((Keeps.refl _ _).alloc _).alloc _
 have a1 : W0.heap[w.heap.size]? = some (.cells #[.slice none 0 0] 71 (0, 0)) := by rw [← hW0, Below.heap_alloc _ _ _ (by simp)]; exact heap_alloc_new _ _
 have a2 : W0.heap[w.heap.size + 1]? = some (.cells #[.int .i64 0] 3 (0, 0)) := by rw [← hW0]; have := heap_alloc_new (w.alloc (.cells #[.slice none 0 0] 71)) (.cells #[.int .i64 0] 3); rwa [World.size_alloc] at this
 have F0 := frames_any _ L W0 (hv.old o0)
 rw [z0] at F0
 simp only [Nat.add_assoc, Nat.reduceAdd] at F0
 have F := Lib.hid F0
 clear F0
 have A := Lib.hid (And.intro z0 (And.intro o0 (And.intro a1 (And.intro a2 hv))))
 have HW := Lib.hid hW0
 clear z0 o0 a1 a2 hv hW0
 refine calls_of_marks Tryz.func33 rfl ?_
 simp only [Tryz.ntmps33, List.size_toArray, List.length_cons, List.length_nil, Nat.reduceAdd, Nat.reduceSub, Array.replicate_succ, Array.replicate_zero, List.push_toArray, List.append_toArray, List.nil_append, List.cons_append]
 go_upto_region 3 with fail
 rw [HW.out]
 go_wp2_with fail
 refine F.out.mono ?_
 rintro e W1 ⟨rfl, o1, z1, b1, b2, b3⟩
 have B := Lib.hid (And.intro o1 (And.intro z1 (And.intro b1 (And.intro b2 b3))))
 clear o1 z1 b1 b2 b3
 go_wp2_with fail
 have h0 : ∀ R : Loop, SpJ w R (.slice p L.length c) [] 0 0 (loopW W1 R) := by
  intro R
  have k := loopW_old W1 R
  have hz : W1.heap.size = w.heap.size + 5 := B.out.2.1
  have e1 := (B.out.1.block _ (hp_lt A.out.2.2.1) (fun f => f)).trans A.out.2.2.1
  have e2 := (B.out.1.block _ (hp_lt A.out.2.2.2.1) (fun f => f)).trans A.out.2.2.2.1
  have dd := loopW_def W1 R
  have rr := loopW_rec W1 R
  rw [hz] at dd rr
  exact ⟨(A.out.2.1.trans B.out.1).trans k, ⟨_, (k.block _ (by omega) (fun f => f)).trans e1, OwnN.nil _ _⟩, (k.block _ (by omega) (fun f => f)).trans e2, (k.block _ (by omega) (fun f => f)).trans B.out.2.2.1,
   (k.block _ (by omega) (fun f => f)).trans B.out.2.2.2.1, (k.block _ (by omega) (fun f => f)).trans B.out.2.2.2.2, dd, rr⟩
 refine wp_rangeFunc (gf := 68) (lb := #[.pointer (some ⟨w.heap.size + 4, 0, none⟩), .pointer (some ⟨w.heap.size + 3, 0, none⟩)]) rfl enters_frames2 (fun fn => ?_)
 have z1 : W1.heap.size = w.heap.size + 5 := B.out.2.1
 rw [z1]
 refine (frames2_any w _ (.slice p L.length c) L _ (h0 _) A.out.2.2.2.2 hl ?_).mono ?_
 ·intro rs a wh x W2 hrs ha hc
  refine round_of hc rfl ?_
  intro W3 hc3
  obtain ⟨h3, s3, g, c', hx, hg1, hg2, hg3⟩ := hc3
  obtain ⟨xv, xl⟩ := x
  simp only at s3 hx hg3
  subst hx
  obtain ⟨sv, hl3, own3⟩ := h3.l
  have cl := blk1 hl3
  have cw := blk1 h3.wh
  have H3 := Lib.hid (And.intro h3 (And.intro s3 (And.intro hl3 (And.intro own3 (And.intro hg1 (And.intro hg2 (hg3 sv hl3)))))))
  have hr9 : rs.length ≤ 1000000000 := by omega
  clear h3 s3 hl3 own3 hg1 hg2 hg3 hc h0
  have hn1 := World.alloc_heap_new W3 (.cells #[.slice (some ⟨g, 4, none⟩) xl.length c'] 25)
  have HN1 := Lib.hid hn1
  obtain ⟨i0, hi, hz0, hz1, hz2⟩ := info_parts Tryz.infoBs
  have HI := Lib.hid (And.intro hi (And.intro hz0 (And.intro hz1 hz2)))
  have hown1 : Hid (OwnN (W3.alloc (.cells #[.slice (some ⟨g, 4, none⟩) xl.length c'] 25)) (w.heap.size + 7) 25 1 encB Prod.fst fineB sv rs) := Lib.hid (H3.out.2.2.2.1.keeps fineB_keeps ((Keeps.refl (fun _ => False) _).alloc _) (fun _ _ _ f => f))
  have hz3 := H3.out.1.size
  clear hn1 hi hz0 hz1 hz2
  gi_wp2_with (gi_at_builtin; refine Stay.go ?_)
  unfold Stay
  refine wpListIn_append_own_at _ rfl _ _ 71 rfl (w.heap.size + 7) 25 i0 (.slice none 0 0) 1 24 Tryz.underlying71 HI.out.1 HI.out.2.1 HI.out.2.2.1 HI.out.2.2.2 rfl (by decide) sv rs.length (rs.flatMap encB) rfl hown1.out.1 ⟨W3.heap.size, 0, none⟩ 1 1 [.slice (some ⟨g, 4, none⟩) xl.length c'] rfl rfl (cell_one_new _ _ _) (by simp [Value.oneCell']) (by unfold maxLen; omega) (by omega) (by simp; omega) ?_
  intro v' w1 hown' hgrow hnil hat
  obtain ⟨g', cap', rfl⟩ := ownsRow_succ hown'
  have hoR : OwnsR w1 (w.heap.size + 7) 25 1 encB (.slice (some ⟨g', 0, none⟩) (rs.length + 1) cap') (rs ++ [(.slice (some ⟨g, 4, none⟩) xl.length c', xl)]) := by
   unfold OwnsR
   simpa using hown'
  have k0 : Old W3 (W3.alloc (.cells #[.slice (some ⟨g, 4, none⟩) xl.length c'] 25)) := (Keeps.refl _ _).alloc _
  have HP := Lib.hid ((H3.out.1.to k0).push (x := (.slice (some ⟨g, 4, none⟩) xl.length c', xl)) (H3.out.2.1.old k0) (fun b hb => by
   simp only [Value.ownBlock, Option.some.injEq] at hb
   subst hb
   exact ⟨H3.out.2.2.2.2.1, by have := H3.out.2.2.2.2.2.1; simp; omega, H3.out.2.2.2.2.2.2⟩) ((k0.block _ (by omega) (fun f => f)).trans H3.out.2.2.1) hown1.out hoR hgrow hat)
  have hsv : ∀ k, k < w.heap.size + 7 → ¬ sv.ownBlock = some k := fun k hk e => by have := (H3.out.2.2.2.1.1.block k e).1; omega
  have k1 : Keeps (fun k => sv.ownBlock = some k) (W3.alloc (.cells #[.slice (some ⟨g, 4, none⟩) xl.length c'] 25)) w1 := (Keeps.refl (fun k => sv.ownBlock = some k) _).grown hgrow (fun k e _ => e)
  have b1 := (k1.block _ (by simp; omega) (hsv _ (by omega))).trans ((k0.block _ (by omega) (fun f => f)).trans H3.out.2.2.1)
  have b2 := (k1.block _ (by simp; omega) (hsv _ (by omega))).trans ((k0.block _ (by omega) (fun f => f)).trans H3.out.1.wh)
  clear cl cw
  have cl := blk1 b1
  have cw := blk1 b2
  have hne : (w.heap.size + 1) ≠ w.heap.size := by omega
  clear hown' hgrow hnil hat hoR k0 k1 hsv b1 b2
  gi_wp2
  exact HP.out
 ·rintro e W2 ⟨he, rs, a, hj, hK⟩
  refine ⟨he, hj.r, ?_⟩
  clear he
  refine put_named (fun W3 hW3 => ?_)
  have hz := hj.size
  have k3 : Keeps (fun k => k = w.heap.size + 6) W2 W3 := by rw [hW3]; exact (Keeps.refl (fun k => k = w.heap.size + 6) W2).putObj (fun _ => rfl) _
  obtain ⟨sv, h1, h2⟩ := hj.l
  have h2' := (h2.keeps fineB_keeps k3 (fun b hb _ e => by omega))
  have cl := blk1 ((k3.block _ (by omega) (by omega)).trans h1)
  have cw := blk1 ((k3.block _ (by omega) (by omega)).trans hj.wh)
  have hd := (k3.block _ (by omega) (by omega)).trans hj.d
  have HQ := Lib.hid (And.intro (hj.old.then k3 (fun i hi e => by omega)) (And.intro h2' (And.intro hd (And.intro hK (show w.heap.size + 5 < W3.heap.size by have := k3.size; omega)))))
  obtain ⟨ps, ns, cs, hsv⟩ : ∃ p n c, sv = .slice p n c := by obtain ⟨p, c, e, _⟩ := (h2.1.sees (fun _ => rfl) (by decide)).len; exact ⟨_, _, _, e⟩
  subst hsv
  clear hW3 hj hK h1 h2 h2' hd k3 hz
  go_wp2_with fail
  go_quiet (fail)
  go_wp2_with fail
  have k0 : Keeps (fun k => k = w.heap.size + 5) W3 (W3.drewN nq) := ⟨rfl, rfl, rfl, Nat.le_refl _, fun _ _ _ => rfl⟩
  have kd : Keeps (fun k => k = w.heap.size + 5) W3 ((W3.drewN nq).putObj (w.heap.size + 5) (.deferred none)) := k0.putObj (r := w.heap.size + 5) (fun _ => rfl) _
  have hb7 := HQ.out.2.1.keeps fineB_keeps kd (fun b hb _ e => by omega)
  exact post_mark (v := .tuple #[.slice ps ns cs, .int .i64 (a : Int)]) rfl HQ.out.2.2.1 (by simp [results, Tryz.results33, go_sem]) ⟨_, rs, _, rfl, HQ.out.1.then kd (fun i hi e => by omega), ⟨hb7.1.mono (by omega), fun x hx => ⟨(hb7.2 x hx).1, fun b hb => ⟨by have := ((hb7.2 x hx).2 b hb).1; omega, ((hb7.2 x hx).2 b hb).2⟩⟩⟩, HQ.out.2.2.2.1⟩
end Go.Proofs.YtfnanbadbmmicaaGreatDoor

namespace Go.Proofs.YtfnanbadbmmicaaGreatDoor
open Go.RowKit
namespace Torn
theorem split_mem {S : Bs → Nat} : ∀ (k : Nat) (b : Bs) (r : Bs), r ∈ split S k b → 1 ≤ r.length ∧ r.length ≤ 2048 := by
 intro k
 induction k with
 | zero => intro b r h; cases h
 | succ k ih =>
  intro b r h
  unfold split at h
  cases hf : first S b with
  | none => rw [hf] at h; cases h
  | some x =>
   rw [hf] at h
   rcases List.mem_cons.1 h with rfl | h
   ·have := first_len hf; omega
   ·exact ih _ _ h
theorem split_count {S : Bs → Nat} : ∀ (k : Nat) (b : Bs), (split S k b).length * 9 ≤ b.length := by
 intro k
 induction k with
 | zero => intro b; simp [split]
 | succ k ih =>
  intro b
  unfold split
  cases hf : first S b with
  | none => simp
  | some x =>
   have h1 := first_len hf
   have h2 := ih (b.drop (x.length + 8))
   rw [List.length_drop] at h2
   simp only [List.length_cons]
   omega
/-- whatever a crash leaves, a beginning is read, with all that is safe -/
def Good (S : Bs → Nat) (L : Bs) (fast : Nat) (F : List Bs) (m : Nat) : Prop :=
 fast ≤ L.length ∧ ∀ t s, s ≤ L.length - fast → ∀ K, ∃ j, m ≤ j ∧ j ≤ F.length ∧ split S (F.length + K) (left t s fast L) = F.take j
theorem Good.flat {S : Bs → Nat} (hS : ∀ b, S b < 4294967296) (F : List Bs) (m : Nat) (hF : ∀ r ∈ F, 1 ≤ r.length ∧ r.length ≤ 2048) (hm : m ≤ F.length) : Good S (Torn.flat S F) (Torn.flat S (F.take m)).length F m := by
 have hle : (Torn.flat S (F.take m)).length ≤ (Torn.flat S F).length := by
  have e : Torn.flat S F = Torn.flat S (F.take m) ++ Torn.flat S (F.drop m) := by
   unfold Torn.flat
   rw [← List.flatMap_append, List.take_append_drop]
  rw [e, List.length_append]; omega
 exact ⟨hle, fun t s hs K => left_split hS t F m s _ hF hm (by omega) (by omega)⟩
/-- read once, it stays -/
theorem Good.next {S : Bs → Nat} {L : Bs} {rs : List Bs} (h : ∀ K, split S (rs.length + K) L = rs) : Good S L L.length rs rs.length :=
 ⟨Nat.le_refl _, fun t s hs K => ⟨rs.length, Nat.le_refl _, Nat.le_refl _, by
  obtain rfl : s = 0 := by omega
  rw [left_all, h, List.take_length]⟩⟩
/-- the records of what a crash leaves -/
theorem Good.read {S : Bs → Nat} {L : Bs} {fast m : Nat} {F rs : List Bs} (h : Good S L fast F m) (t : UInt8) (s : Nat) (hs : s ≤ L.length - fast) (hr : ∀ K, split S (rs.length + K) (left t s fast L) = rs) : m ≤ rs.length ∧ rs.length ≤ F.length ∧ rs = F.take rs.length := by
 obtain ⟨j, h1, h2, e⟩ := h.2 t s hs rs.length
 have e2 := hr F.length
 rw [Nat.add_comm rs.length F.length, e] at e2
 have hl : rs.length = j := by rw [← e2, List.length_take]; omega
 rw [hl]
 exact ⟨h1, h2, e2.symm⟩
end Torn
open Torn
theorem itForm_lens {x : PIt} (h : itOk x = true) (hf : Fits x.es) : 1 ≤ (itForm x).length ∧ (itForm x).length ≤ 820 := by
 refine ⟨?_, itForm_le h hf⟩
 have := form_length_pos x.n
 unfold itForm
 simp only [List.length_append]
 omega
abbrev ItG (x : It) (W : World) : Prop := It.fine W x
theorem itG_k : FineK It.av ItG := fun _ _ _ _ h hk hS => ⟨SeesR.keeps h.1 hk hS, fun h0 k e => Nat.lt_of_lt_of_le (h.2.1 h0 k e) hk.size, h.2.2⟩
end Go.Proofs.YtfnanbadbmmicaaGreatDoor

namespace Go.Proofs.YtfnanbadbmmicaaGreatDoor
open Go.RowKit Torn

abbrev OwnsIt (w : World) (B : Nat) (v : Value) (l : List It) : Prop := OwnN w B 39 4 It.cells It.av ItG v l
set_option maxRecDepth 100000 in
set_option maxHeartbeats 2000000 in
theorem torn_read_any (B d m f : Nat) (v : Value) (q : Nat) (L : List UInt8) (fast : Nat) (w : World) (h : Dk w B d m f v q L fast) (hl : L.length ≤ 1000000000)
  (hF : ∀ rs : List Bs, (∀ K, split crcS (rs.length + K) L = rs) → ∃ ys : List PIt, rs.map takeI = ys.map some) :
  Calls Tryz.prog 12 #[.pointer (some ⟨d, 0, none⟩)] w fun e w' => ∃ p c gs rs, e = .returned (.tuple #[.slice p gs.length c, .bool true]) ∧ OwnsIt w' w.heap.size (.slice p gs.length c) gs ∧ (∀ K, split crcS (rs.length + K) L = rs) ∧ rs.map takeI = gs.map (fun x => some x.plain) ∧ Old w w' := by
 have RD := Lib.hid (read_any B d m f v q L fast w h hl)
 clear h
 go_enter Tryz.func12, Tryz.ntmps12
 go_wp2_with fail
 refine RD.out.mono ?_
 rintro e w1 ⟨p1, n1, c1, rfl, own1, o1⟩
 have SP := Lib.hid (split_any _ L w1 own1.sees hl)
 have H1 := Lib.hid o1
 clear own1 o1
 go_wp2_with fail
 refine SP.out.mono ?_
 rintro e w2 ⟨sv, rs, nn, rfl, o2, on2, hK⟩
 have sees2 := on2.1.sees (fun _ => rfl) (by decide)
 obtain ⟨p2, c2, rfl, _, hm2⟩ := sees2.len
 have hK' : ∀ K, split crcS ((rs.map Prod.snd).length + K) L = rs.map Prod.snd := by simpa using hK
 obtain ⟨ys, hys⟩ := hF _ hK'
 have hrl : rs.length ≤ 1000000000 := by
  have := split_count (S := crcS) (rs.length + 0) L
  rw [hK 0, List.length_map] at this
  omega
 have hmem : ∀ x ∈ rs, x.2.length ≤ 1000000000 := fun x hx => by
  have := split_mem (S := crcS) (rs.length + 0) L x.2 (by rw [hK 0]; exact List.mem_map_of_mem hx)
  omega
 have H2 := Lib.hid (And.intro (H1.out.trans o2) (And.intro sees2 (And.intro (fun x hx => (on2.2 x hx).1) (And.intro hK' (And.intro hys hmem)))))
 clear o2 on2 hK hK' hys hmem sees2 hm2
 have hr9 : rs.length ≤ 9223372036854775807 := by omega
 go_wp2_with fail
 go_loopw [8, 9] (fun v8 v9 wr => ∃ gs : List It, gs.length ≤ rs.length ∧ v9 = .int .i64 (gs.length : Int) ∧ gs.map (fun x => some x.plain) = ((rs.map Prod.snd).take gs.length).map takeI ∧ OwnsIt wr w2.heap.size v8 gs ∧ Old w2 wr) (fun _ v9 _ => rs.length - (intOf v9).toNat)
 case atStart => exact ⟨[], by simp, rfl, rfl, OwnN.nil _ _, Keeps.refl _ _⟩
 case round =>
  obtain ⟨gs, hg, rfl, hp, ho, hkw⟩ := hrel
  by_cases hlt : gs.length < rs.length
  ·obtain ⟨b, o, c', he, _, _, hc⟩ := H2.out.2.1.at (by omega)
   simp only [Value.slice.injEq, true_and] at he
   obtain ⟨rfl, rfl⟩ := he
   have hx : rs[gs.length]? = some rs[gs.length] := List.getElem?_eq_getElem hlt
   have q := hkw.cell (hc gs.length _ hx 0 _ rfl) (fun f => f)
   simp only [Nat.mul_one, Nat.add_zero] at q
   have hxm := List.getElem_mem hlt
   obtain ⟨x, hxe⟩ : ∃ x, rs[gs.length] = x := ⟨_, rfl⟩
   rw [hxe] at q hx hxm
   obtain ⟨y, hy⟩ : ∃ y, takeI x.2 = some y := by
    have h1 := congrArg (fun l => l[gs.length]?) H2.out.2.2.2.2.1
    simp only [List.getElem?_map, hx, Option.map_some] at h1
    cases hq : ys[gs.length]? with
    | none => rw [hq] at h1; cases h1
    | some y => rw [hq] at h1; exact ⟨y, by simpa using h1⟩
   have HT := Lib.hid (take_item_any x.1 x.2 wr ((H2.out.2.2.1 x hxm).old hkw) (H2.out.2.2.2.2.2 x hxm))
   have hp' : (rs.map Prod.snd).take (gs.length + 1) = (rs.map Prod.snd).take gs.length ++ [x.2] := by
    rw [List.take_add_one, List.getElem?_map, hx]; rfl
   have HR := Lib.hid (And.intro ho (And.intro hkw (And.intro hp (And.intro hy hp'))))
   clear hc hx hxm hxe ho hkw hp hy hp'
   go_upto_region 9 with fail
   go_wp2_with fail
   refine HT.out.mono ?_
   rintro e w3 ht
   rw [HR.out.2.2.2.1] at ht
   obtain ⟨k3, p3, n3, c3, rfl, ho3⟩ := ht
   go_upto_region 12 with fail
   obtain ⟨w4, hw4⟩ : ∃ w4, w3.alloc (.cells #[.int .u64 (y.n : Int), .int .u64 (y.time : Int), .string y.key, .slice p3 n3 c3] 39) = w4 := ⟨_, rfl⟩
   have k4 : Old w3 w4 := by rw [← hw4]; exact (Keeps.refl _ _).alloc _
   have z4 : w4.heap.size = w3.heap.size + 1 := by rw [← hw4]; simp
   have b4 : w4.heap[w3.heap.size]? = some (.cells #[.int .u64 (y.n : Int), .int .u64 (y.time : Int), .string y.key, .slice p3 n3 c3] 39 (0, 0)) := by rw [← hw4]; exact heap_alloc_new _ _
   rw [hw4]
   clear hw4
   have g4 := (blk4 b4).1
   have lawY := takeI_law HR.out.2.2.2.1
   obtain ⟨_, _, ⟨r, h3⟩, _⟩ := lawY
   obtain ⟨f1, f2, f3, _⟩ := pItem_inv h3
   have fineY : ItG (⟨y.n, y.time, y.key, .slice p3 n3 c3, y.es⟩ : It) w4 := ⟨(ho3.sees (fun _ => rfl) (by decide)).old k4, fun _ b hb => by have := ho3.block b hb; omega, f1, by simp only; omega, by simp only; omega⟩
   have onY : OwnsIt w4 w2.heap.size u8 gs := HR.out.1.keeps itG_k (k3.trans k4) (fun _ _ _ f => f)
   have hz2 := HR.out.2.1.size
   have hz3 := k3.size
   have SN := Lib.hid (SeesR.new (k := 4) (enc := It.cells) w4 39 (0, 0) [(⟨y.n, y.time, y.key, .slice p3 n3 c3, y.es⟩ : It)] #[.int .u64 (y.n : Int), .int .u64 (y.time : Int), .string y.key, .slice p3 n3 c3] (by simp [It.cells]) (fun _ => rfl) (by unfold maxLen; simp))
   have hnb : ∀ b, (It.av (⟨y.n, y.time, y.key, .slice p3 n3 c3, y.es⟩ : It)).ownBlock = some b → w2.heap.size ≤ b ∧ b < (w4.alloc (.cells #[.int .u64 (y.n : Int), .int .u64 (y.time : Int), .string y.key, .slice p3 n3 c3] 39)).heap.size ∧ u8.ownBlock ≠ some b := fun b hb => by
    have h1 := ho3.block b hb
    refine ⟨by omega, by simp; omega, fun e => ?_⟩
    have := HR.out.1.1.block b e
    omega
   have kA : Old w4 (w4.alloc (.cells #[.int .u64 (y.n : Int), .int .u64 (y.time : Int), .string y.key, .slice p3 n3 c3] 39)) := (Keeps.refl _ _).alloc _
   have NN := Lib.hid (And.intro (onY.keeps itG_k kA (fun _ _ _ f => f)) (And.intro (itG_k _ _ _ _ fineY kA (fun _ _ f => f)) (And.intro hnb (And.intro kA ((k3.trans k4).trans kA)))))
   have HN := Lib.hid (show gs.length + 1 ≤ maxLen ∧ (gs.length + 1) * 56 ≤ 140737488355328 ∧ w2.heap.size ≤ (w4.alloc (.cells #[.int .u64 (y.n : Int), .int .u64 (y.time : Int), .string y.key, .slice p3 n3 c3] 39)).heap.size from ⟨by unfold maxLen; omega, by omega, by simp; omega⟩)
   clear k3 ho3 k4 b4 h3 f1 f2 f3 fineY onY hnb kA hz3 z4
   go_wp2_with (at_builtin; go_loud (refine wpList_append_rows (P := Tryz.prog) rfl _ _ 22 rfl w2.heap.size 39 4 56 It.cells _ Tryz.underlying22 Tryz.infoItem rfl (by decide) u8 gs rfl NN.out.1.1 _ [(⟨y.n, y.time, y.key, .slice p3 n3 c3, y.es⟩ : It)] rfl SN.out (by simp [It.cells]) (by simp [It.cells, Value.oneCell']) HN.out.1 HN.out.2.1 HN.out.2.2 ?_; intro v' w5 ho5 hg5 hv5))
   have N5 := OwnN.snoc itG_k NN.out.1 NN.out.2.1 NN.out.2.2.1 ho5 hg5 hv5
   have R := Lib.hid (And.intro N5 ((HR.out.2.1.trans NN.out.2.2.2.2).grown hg5 (fun k e hlt => by have := NN.out.1.1.block k e; omega)))
   clear ho5 hg5 hv5 N5
   go_roundw
   case rel =>
    refine ⟨gs ++ [(⟨y.n, y.time, y.key, .slice p3 n3 c3, y.es⟩ : It)], by simp; omega, by simp, ?_, R.out.1, R.out.2⟩
    rw [List.length_append, List.length_singleton, HR.out.2.2.2.2, List.map_append, List.map_append, HR.out.2.2.1]
    simp only [List.map_cons, List.map_nil, HR.out.2.2.2.1]
    rfl
   case measure => simp [intOf]; omega
  ·have HR := Lib.hid (And.intro ho (And.intro hkw hp))
   clear ho hkw hp
   go_wp2_with fail
   obtain ⟨p', c', he, _, _⟩ := (HR.out.1.1.sees (fun _ => rfl) (by decide)).len
   subst he
   have hgl : gs.length = rs.length := by omega
   refine bodyPost_ret (v := .tuple #[.slice p' gs.length c', .bool true]) (by simp [results, Tryz.results12, go_sem]) rfl ⟨p', c', gs, rs.map Prod.snd, rfl, ?_, H2.out.2.2.2.1, ?_, H2.out.1.trans HR.out.2.1⟩
   ·exact ⟨HR.out.1.1.mono H2.out.1.size, fun x hx => ⟨(HR.out.1.2 x hx).1, fun b hb => ⟨Nat.le_trans H2.out.1.size ((HR.out.1.2 x hx).2 b hb).1, ((HR.out.1.2 x hx).2 b hb).2⟩⟩⟩
   ·rw [HR.out.2.2, hgl, List.take_of_length_le (by simp)]
end Go.Proofs.YtfnanbadbmmicaaGreatDoor

namespace Go.Proofs.YtfnanbadbmmicaaGreatDoor
open Go.RowKit Torn

def itL : It := ⟨5, 7, ⟨#[]⟩, .slice none 0 0, []⟩
theorem itL_fine (w : World) : itL.fine w := ⟨SeesR.nil _, fun h => by simp [itL] at h, fun _ h => (by cases h), by decide, by decide⟩
theorem itL_ok : itOk itL.plain = true := by decide
set_option maxRecDepth 100000 in
set_option maxHeartbeats 2000000 in
theorem logged_any (w : World) : Calls Tryz.prog 6 #[] w fun e w' => e = .returned (.bool true) ∧ Old w w' := by
 obtain ⟨F, hF⟩ : ∃ F, itForm itL.plain = F := ⟨_, rfl⟩
 have hFl : 1 ≤ F.length ∧ F.length ≤ 820 := by rw [← hF]; exact itForm_lens itL_ok (itL_fine w).2.2.1
 have hft : takeI F = some itL.plain := by rw [← hF]; exact takeI_form itL_ok (itL_fine w).2.2.1
 have hfl := frame_len crcS F
 go_enter Tryz.func6, Tryz.ntmps6
 go_wp2_with fail
 refine (disk_new_any 10000 w (by decide)).mono ?_
 rintro e w1 ⟨rfl, hd1, hm1, o1⟩
 have H1 := Lib.hid (And.intro hd1 (And.intro hm1 o1))
 clear hd1 hm1 o1
 go_wp2_with fail
 refine (put_item_u itL w1 (itL_fine w1)).mono ?_
 rintro e w2 ⟨p2, c2, z2, L2, rfl, o2, s2, ⟨_, hL2, rfl⟩ | ⟨hb, _⟩⟩
 case inr => rw [itL_ok] at hb; cases hb
 rw [hF] at hL2
 subst hL2
 have H2 := Lib.hid (And.intro o2 s2)
 clear o2 s2
 go_wp2_with fail
 refine (frame_put_any _ L2 w2 H2.out.2 hFl.1 (by omega)).mono ?_
 rintro e w3 ⟨v3, rfl, own3, o3⟩
 have hd3 := (H1.out.1.old H2.out.1).old o3
 have hm3 := (o3.block _ (Nat.lt_of_lt_of_le (hp_lt H1.out.2.1) H2.out.1.size) (fun f => f)).trans ((H2.out.1.block _ (hp_lt H1.out.2.1) (fun f => f)).trans H1.out.2.1)
 have H3 := Lib.hid (And.intro hd3 (And.intro hm3 (And.intro own3 ((H1.out.2.2.trans H2.out.1).trans o3))))
 clear hd3 hm3 own3 o3
 obtain ⟨p3, n3, c3, rfl⟩ : ∃ p n c, v3 = .slice p n c := by obtain ⟨p, c, e, _⟩ := H3.out.2.2.1.sees.len; exact ⟨_, _, _, e⟩
 go_wp2_with fail
 refine (create_any (w.heap.size + 1) w.heap.size 10000 w3 H3.out.1 H3.out.2.1 (by omega)).mono ?_
 rintro e w4 ⟨rfl, f, hf4, dk4, k4⟩
 go_wp2_with fail
 have z34 := k4.size
 have hub : ∀ k, (Value.slice p3 n3 c3).ownBlock = some k → k < w3.heap.size := fun k hk => (H3.out.2.2.1.block k hk).2
 have hmk : ∀ k, (Value.slice p3 n3 c3).ownBlock = some k → k ≠ w.heap.size := fun k hk e => H3.out.2.2.1.ne H3.out.2.1 (fun cur e => by cases e) (by rw [hk, e])
 have own4 := H3.out.2.2.1.keeps k4 (fun b hb => hmk b hb)
 have Hu := Lib.hid (And.intro hub own4)
 clear own4 hmk
 refine (append_any w3.heap.size _ _ f _ 10000 [] (frame crcS L2) 0 _ w4 dk4 Hu.out.2.sees (fun k hk e => by have := hub k hk; omega) z34 (by decide) (by simp; omega)).mono ?_
 rintro e w5 ⟨rfl, v5, dk5, hv5, k5⟩
 rw [List.nil_append] at dk5
 have o35 : Keeps (fun k => k = w.heap.size) w3 w5 := k4.then k5 (fun i hi e => by simp [Value.ownBlock] at e; omega)
 have s5 := Hu.out.2.keeps k5 (fun b hb e => by simp [Value.ownBlock] at e; have := hub b hb; omega)
 have H5 := Lib.hid (And.intro dk5 (And.intro s5 (And.intro o35 (And.intro hf4 (And.intro hv5 H3.out.2.2.2)))))
 clear dk4 dk5 k4 k5 hv5 s5 o35 hf4 hub z34
 go_wp2_with fail
 refine (sync_any _ _ _ f v5 10000 _ 0 w5 H5.out.1).mono ?_
 rintro e w6 ⟨rfl, dk6, k6⟩
 have H6 := Lib.hid (And.intro dk6 k6)
 clear dk6 k6
 go_wp2_with fail
 have hz6 := H6.out.2.size
 have hz5 := H5.out.2.2.1.size
 refine (append_any _ _ _ f v5 10000 _ (frame crcS L2) _ _ w6 H6.out.1 (H5.out.2.1.sees.keeps H6.out.2 (fun b hb e => by have := Hu.out.1 b hb; have := H5.out.2.2.2.1; omega)) (fun k hk e => by have := Hu.out.1 k hk; have := H5.out.2.2.2.1; omega) (by omega) (by decide) (by omega)).mono ?_
 rintro e w7 ⟨rfl, v7, dk7, hv7, k7⟩
 have H7 := Lib.hid (And.intro dk7 k7)
 clear dk7 k7 hv7
 have hz7 := H7.out.2.size
 go_wp2_with fail
 have hcr : crashed [] [] (frame crcS L2).length (frame crcS L2 ++ frame crcS L2) = frame crcS L2 := by
  unfold crashed stay
  simp only [List.length_nil, Nat.lt_irrefl, if_false]
  unfold left
  simp
 refine (crash_any _ _ _ f v7 10000 _ _ (.slice none 0 0) (.slice none 0 0) [] [] w7 H7.out.1 (by simp; omega) (by simp) (SeesR.nil _) (fun _ h => by cases h) (fun h => by simp at h) (Sees.nil _) (fun h => by simp at h) (by omega)).mono ?_
 rintro e w8 ⟨rfl, v8, dk8, hv8, k8⟩
 rw [hcr] at dk8
 have H8 := Lib.hid (And.intro dk8 k8)
 clear dk8 k8 hv8 hcr
 have hz8 := H8.out.2.size
 go_wp2_with fail
 have hone : ∀ rs : List Bs, (∀ K, split crcS (rs.length + K) (frame crcS L2) = rs) → rs = [L2] := by
  intro rs hrs
  have h1 := hrs 1
  have h2 := split_frame (S := crcS) crcS_lt hFl.1 (by omega : L2.length ≤ 2048) [] rs.length
  rw [List.append_nil] at h2
  rw [h2, split_none (by simp [first])] at h1
  exact h1.symm
 refine (torn_read_any _ _ _ f v8 10000 (frame crcS L2) _ w8 H8.out.1 (by omega) (fun rs hrs => ⟨[itL.plain], by rw [hone rs hrs]; simp [hft]⟩)).mono ?_
 rintro e w9 ⟨p9, c9, gs, rs, rfl, own9, hrs, hgs, o9⟩
 rw [hone rs hrs] at hgs
 obtain ⟨g, rfl⟩ : ∃ g, gs = [g] := by
  have := congrArg List.length hgs
  simp at this
  exact List.length_eq_one_iff.1 this.symm
 have hg : g.plain = itL.plain := by simpa [hft] using hgs.symm
 obtain ⟨gn, gt, gk, ga, ge⟩ := g
 simp only [It.plain, itL, PIt.mk.injEq] at hg
 obtain ⟨rfl, rfl, rfl, rfl⟩ := hg
 obtain ⟨b, o, cc, he, _, _, hc⟩ := (own9.1.sees (fun _ => rfl) (by decide)).at (by simp)
 simp only [Value.slice.injEq] at he
 obtain ⟨rfl, _, rfl⟩ := he
 have y0 := hc 0 _ rfl 0 _ rfl
 have y1 := hc 0 _ rfl 1 _ rfl
 simp only [Nat.zero_mul, Nat.add_zero] at y0 y1
 have H9 := Lib.hid o9
 clear own9 hrs hgs o9 hc
 simp only [List.length_cons, List.length_nil, Nat.zero_add] at *
 go_wp2_with fail
 go_ret
 have hz3 := H3.out.2.2.2.size
 have hf := H5.out.2.2.2.1
 refine ⟨rfl, (((((H3.out.2.2.2.then H5.out.2.2.1 (fun i hi e => ?_)).then H6.out.2 (fun i hi e => ?_)).then H7.out.2 (fun i hi e => ?_)).then H8.out.2 (fun i hi e => ?_)).trans H9.out)⟩
 ·omega
 ·omega
 ·rcases e with e | e
  ·omega
  ·have := (H6.out.1.own.block i e).1; omega
 ·rcases e with e | e <;> omega
end Go.Proofs.YtfnanbadbmmicaaGreatDoor

namespace Go.Proofs.YtfnanbadbmmicaaGreatDoor
open Go.RowKit Torn

abbrev formsOf (l : List It) : List Bs := l.map (fun x => itForm x.plain)
theorem forms_lens {l : List It} (h : ∀ x ∈ l, itOk x.plain = true ∧ Fits x.es) : ∀ r ∈ formsOf l, 1 ≤ r.length ∧ r.length ≤ 820 := by
 intro r hr
 obtain ⟨x, hx, rfl⟩ := List.mem_map.1 hr
 exact itForm_lens (h x hx).1 (h x hx).2
theorem flat_le828 : ∀ (l : List Bs), (∀ r ∈ l, r.length ≤ 820) → (flat crcS l).length ≤ 828 * l.length
 | [], _ => by simp [flat]
 | r :: l, h => by
  have h1 := flat_le828 l (fun x hx => h x (List.mem_cons_of_mem _ hx))
  have h2 := h r (List.mem_cons_self ..)
  have h3 := frame_len crcS r
  have e : flat crcS (r :: l) = frame crcS r ++ flat crcS l := by simp [flat]
  rw [e, List.length_append, List.length_cons]
  omega
theorem flat_snoc (l : List Bs) (r : Bs) : flat crcS (l ++ [r]) = flat crcS l ++ frame crcS r := by simp [flat]
def boolL (b : Bool) : List Value := [.bool b]
/-- a row of the call's own, and the disk beside it -/
structure J1 (w : World) (f : Nat) (its : List It) (xs : List It) (s : Nat) (v : Value) (vF : Value) (wr : World) : Prop where
 len : xs.length ≤ 20
 safe : s ≤ xs.length
 own : OwnsR wr w.heap.size 39 4 It.cells v xs
 mem : ∀ x ∈ xs, x ∈ its ∧ itOk x.plain = true
 dk : Dk wr w.heap.size (w.heap.size + 1) w.heap.size f vF 1048576 (flat crcS (formsOf xs)) (flat crcS ((formsOf xs).take s)).length
 old : Old w wr
 f : w.heap.size ≤ f
theorem OwnsR.neB {α : Type} {w : World} {B k : Nat} {E : TypeId} {enc : α → List Value} {v : Value} {l : List α} {i : Nat} {o : Obj} (h : OwnsR w B E k enc v l) (hk : w.heap[i]? = some o) (hno : ∀ cur, o ≠ .cells cur E (0, 0)) : v.ownBlock ≠ some i := by
 intro e
 rcases h.2 with ⟨rfl, _⟩ | ⟨g, cap, cur, rfl, _, hg, _⟩
 ·cases e
 ·simp only [Value.ownBlock, Option.some.injEq] at e
  subst e
  rw [hk] at hg
  exact hno cur (by simpa using hg)
/-- the row of items and the disk's blocks are apart -/
theorem Dk.apart {wr : World} {B B' d m f q fast : Nat} {L : List UInt8} {xs : List It} {v vF : Value} (h : Dk wr B d m f vF q L fast) (ho : OwnsR wr B' 39 4 It.cells v xs) : v.ownBlock ≠ some d ∧ v.ownBlock ≠ some m ∧ v.ownBlock ≠ some f ∧ ∀ k, v.ownBlock = some k → vF.ownBlock ≠ some k := by
 refine ⟨ho.neB h.dd (fun cur e => by simp only [Obj.cells.injEq] at e; exact absurd e.2.1 (by decide)), ho.neB h.dm (fun cur e => by cases e), ho.neB h.df (fun cur e => by simp only [Obj.cells.injEq] at e; exact absurd e.2.1 (by decide)), fun k e => ?_⟩
 rcases ho.2 with ⟨rfl, _⟩ | ⟨g, cap, cur, rfl, _, hg, _⟩
 ·cases e
 ·simp only [Value.ownBlock, Option.some.injEq] at e
  subst e
  exact h.own.ne hg (fun c e => by simp only [Obj.cells.injEq] at e; exact absurd e.2.1 (by decide))
/-- one item more in the row -/
theorem J1.more {w : World} {f : Nat} {its xs : List It} {s : Nat} {v vF v' : Value} {wr w' wA : World} {x : It} (hs : s ≤ xs.length) (hl : xs.length < 20) (hm : ∀ y ∈ xs ++ [x], y ∈ its ∧ itOk y.plain = true) (hd : Dk wr w.heap.size (w.heap.size + 1) w.heap.size f vF 1048576 (flat crcS (formsOf (xs ++ [x]))) (flat crcS ((formsOf xs).take s)).length)
  (ho : OwnsR wr w.heap.size 39 4 It.cells v xs) (hold : Old w wr) (hA : Old wr wA) (hg : wA.grownBy w' v.ownBlock) (hn : OwnsR w' w.heap.size 39 4 It.cells v' (xs ++ [x])) (hf : w.heap.size ≤ f) : J1 w f its (xs ++ [x]) s v' vF w' := by
 obtain ⟨a1, a2, a3, a4⟩ := hd.apart ho
 have k : Keeps (fun k => v.ownBlock = some k) wA w' := (Keeps.refl (fun k => v.ownBlock = some k) _).grown hg (fun k e _ => e)
 refine ⟨by simp; omega, by simp; omega, hn, hm, ?_, (hold.trans hA).then k (fun i hi e => by have := (ho.block i e).1; omega), hf⟩
 have h2 := (hd.old hA).keeps k a1 a2 a3 (fun b hb e => a4 b e hb)
 have e : (formsOf (xs ++ [x])).take s = (formsOf xs).take s := by
  unfold formsOf
  rw [List.map_append, List.take_append_of_le_length (by simpa using hs)]
 rw [e]
 exact h2
/-- all is safe -/
theorem J1.synced {w : World} {f : Nat} {its xs : List It} {s : Nat} {v vF : Value} {wr w' : World} (h : J1 w f its xs s v vF wr) (hd : Dk w' w.heap.size (w.heap.size + 1) w.heap.size f vF 1048576 (flat crcS (formsOf xs)) (flat crcS (formsOf xs)).length) (k : Keeps (fun k => k = f) wr w') : J1 w f its xs xs.length v vF w' := by
 obtain ⟨_, _, a3, _⟩ := h.dk.apart h.own
 refine ⟨h.len, Nat.le_refl _, h.own.keeps k (fun b hb e => a3 (by rw [hb, e])), h.mem, ?_, h.old.then k (fun i hi e => by have := h.f; omega), h.f⟩
 have e : (formsOf xs).take xs.length = formsOf xs := by rw [List.take_of_length_le (by simp)]
 rw [e]
 exact hd
theorem J1.old4 {w : World} {f : Nat} {its xs : List It} {s : Nat} {v vF : Value} {wr w' : World} (h : J1 w f its xs s v vF wr) (k : Old wr w') : J1 w f its xs s v vF w' := ⟨h.len, h.safe, h.own.old k, h.mem, h.dk.old k, h.old.trans k, h.f⟩
end Go.Proofs.YtfnanbadbmmicaaGreatDoor
