/- DERIVED. Chapter 20: LinkForms, walked. -/
import Derived.Test.YtllnlimbfoingaaZLinkForms04
import Derived.Test.YtllnlimbfoingaaY09
namespace Go.Proofs.Ytllnlimbfoingaa
open Go.RowKit

theorem encP_data (p : Pk) : p.data.length ≤ (encP p).length := by simp only [encP, List.length_append]; omega
/-- the four packets that the law keeps -/
def Four (b2 b6 b8 b10 : Nat) (a p q r : Pv) (W : World) : Prop :=
 W.heap[b2]? = some (.cells #[.int .u64 (a.src : Int), .int .u64 (a.dst : Int), .int .u64 (a.seq : Int), .int .u64 (a.ack : Int), a.v] 34 (0, 0)) ∧
 W.heap[b6]? = some (.cells #[.int .u64 (p.src : Int), .int .u64 (p.dst : Int), .int .u64 (p.seq : Int), .int .u64 (p.ack : Int), p.v] 37 (0, 0)) ∧
 W.heap[b8]? = some (.cells #[.int .u64 (q.src : Int), .int .u64 (q.dst : Int), .int .u64 (q.seq : Int), .int .u64 (q.ack : Int), q.v] 37 (0, 0)) ∧
 W.heap[b10]? = some (.cells #[.int .u64 (r.src : Int), .int .u64 (r.dst : Int), .int .u64 (r.seq : Int), .int .u64 (r.ack : Int), r.v] 34 (0, 0))
theorem Four.old {b2 b6 b8 b10 : Nat} {a p q r : Pv} {W W' : World} (h : Four b2 b6 b8 b10 a p q r W) (hk : Old W W') : Four b2 b6 b8 b10 a p q r W' :=
 ⟨(hk.block _ (lt_of_block h.1) (fun f => f)).trans h.1, (hk.block _ (lt_of_block h.2.1) (fun f => f)).trans h.2.1, (hk.block _ (lt_of_block h.2.2.1) (fun f => f)).trans h.2.2.1, (hk.block _ (lt_of_block h.2.2.2) (fun f => f)).trans h.2.2.2⟩
/-- what the law keeps -/
structure Kp (w W : World) (b2 b6 b8 b10 : Nat) (a p q r : Pv) : Prop where
 o : Old w W
 four : Four b2 b6 b8 b10 a p q r W
 sa : Sees W a.v a.d
 sp : Sees W p.v p.d
 sq : Sees W q.v q.d
 sr : Sees W r.v r.d
theorem Kp.old {w W W' : World} {b2 b6 b8 b10 : Nat} {a p q r : Pv} (h : Kp w W b2 b6 b8 b10 a p q r) (hk : Old W W') : Kp w W' b2 b6 b8 b10 a p q r :=
 ⟨h.o.trans hk, h.four.old hk, h.sa.old hk, h.sp.old hk, h.sq.old hk, h.sr.old hk⟩
theorem parP_len (l : List UInt8) : (parP l).1.data.length ≤ l.length := by
 by_cases h : (parP l).2 = 0
 ·have := encP_data (parP l).1
  rw [(enc_par h).1] at this
  exact this
 ·have : (parP l).1 = pk0 := by
   unfold parP at h ⊢
   split at h
   ·unfold parR at h ⊢
    split at h
    ·exact absurd rfl h
    ·rename_i hc
     rw [if_neg hc]
   ·rfl
  rw [this]
  exact Nat.zero_le _
theorem encP_le {p : Pk} (hp : p.small) (hd : p.data.length ≤ 10000000) : (encP p).length ≤ 20000000 := by
 have h1 := form_le10 hp.1
 have h2 := form_le10 hp.2.1
 have h3 := form_le10 hp.2.2.1
 have h4 := form_le10 hp.2.2.2
 have h5 := form_le10 (n := p.data.length) (by omega)
 simp only [encP, List.length_append]
 omega
theorem pkIn_of {x a : Pv} (h : x.plain = a.plain) (ha : PkIn a) : PkIn x := by
 unfold Pv.plain at h
 simp only [Pk.mk.injEq] at h
 obtain ⟨h1, h2, h3, h4, h5⟩ := h
 unfold PkIn
 rw [h1, h2, h3, h4, h5]
 exact ha
set_option maxRecDepth 100000 in
set_option maxHeartbeats 4000000 in
theorem forms_any (a : Pv) (v1 : Value) (l : List UInt8) (w : World) (hs : Sees w a.v a.d) (ha : PkIn a) (hl : Sees w v1 l) (hll : l.length ≤ 10000000) : Calls Try.prog 7 #[.agg a.cells.toArray, v1] w fun e w' => e = .returned (.bool true) ∧ Old w w' := by
 obtain ⟨av, ac, hv, _, _⟩ := hs.len
 obtain ⟨a0, a1, a2, a3, v, ad⟩ := a
 simp only at hv hs
 subst hv
 obtain ⟨w1, hw1⟩ : ∃ w1, w.alloc (.cells #[.int .u64 (a0 : Int), .int .u64 (a1 : Int), .int .u64 (a2 : Int), .int .u64 (a3 : Int), .slice av ad.length ac] 34) = w1 := ⟨_, rfl⟩
 have o1 : Old w w1 := by rw [← hw1]; exact (Keeps.refl _ _).alloc _
 have b1 : w1.heap[w.heap.size]? = some (.cells #[.int .u64 (a0 : Int), .int .u64 (a1 : Int), .int .u64 (a2 : Int), .int .u64 (a3 : Int), .slice av ad.length ac] 34 (0, 0)) := by rw [← hw1]; exact heap_alloc_new _ _
 obtain ⟨⟨c0, c1, c2, c3, c4⟩, -⟩ := blk5 b1
 have W1 := Lib.hid (And.intro o1 (And.intro b1 (And.intro (hs.old o1) (hl.old o1))))
 have H := Lib.hid (And.intro ha hll)
 clear hs hl ha hll o1 b1
 simp only [Pv.cells]
 go_enter Try.func7, Try.ntmps7
 go_wp2_with fail
 refine (ours_any ⟨a0, a1, a2, a3, .slice av ad.length ac, ad⟩ w1 W1.out.2.2.1 (by have := H.out.1.2.2.2.2; simp only at this ⊢; omega)).mono ?_
 rintro e w2 ⟨x, rfl, hx, hxs, hk⟩
 have W2 := Lib.hid (And.intro (W1.out.1.trans hk) (And.intro ((hk.block _ (lt_of_block W1.out.2.1) (fun f => f)).trans W1.out.2.1) (And.intro (W1.out.2.2.1.old hk) (And.intro (W1.out.2.2.2.old hk) (And.intro hxs hx)))))
 clear W1 hk hxs hx c0 c1 c2 c3 c4
 go_wp2_with fail
 have PX := pkIn_of W2.out.2.2.2.2.2 H.out.1
 refine (put_any x w2 W2.out.2.2.2.2.1 PX).mono ?_
 rintro e w3 ⟨bp, bn, bc, rfl, ho, hk⟩
 have W3 := Lib.hid (And.intro (W2.out.1.trans hk) (And.intro ((hk.block _ (lt_of_block W2.out.2.1) (fun f => f)).trans W2.out.2.1) (And.intro (W2.out.2.2.1.old hk) (And.intro (W2.out.2.2.2.1.old hk) ho.sees))))
 have HX := Lib.hid (And.intro PX W2.out.2.2.2.2.2)
 clear W2 hk ho PX
 go_wp2_with fail
 refine (parse_any _ (encP x.plain) w3 W3.out.2.2.2.2 (Nat.le_trans (encP_le HX.out.1.small HX.out.1.2.2.2.2) (by decide))).mono ?_
 rintro e w4 ⟨⟨p0, p1, p2, p3, pv, pd⟩, he, hp, hps, hk⟩
 rw [par_enc x.plain HX.out.1.small (Nat.le_trans HX.out.1.2.2.2.2 (by decide))] at he hp
 subst he
 simp only at hps hp
 obtain ⟨pp, pc, rfl, -, -⟩ := hps.len
 simp only [Pv.cells]
 obtain ⟨w5, hw5⟩ : ∃ w5, w4.alloc (.cells #[.int .u64 (p0 : Int), .int .u64 (p1 : Int), .int .u64 (p2 : Int), .int .u64 (p3 : Int), .slice pp pd.length pc] 37) = w5 := ⟨_, rfl⟩
 have ST : w5.heap[w4.heap.size]? = some (.cells #[.int .u64 (p0 : Int), .int .u64 (p1 : Int), .int .u64 (p2 : Int), .int .u64 (p3 : Int), .slice pp pd.length pc] 37 (0, 0)) ∧ Old w4 w5 := ⟨by rw [← hw5]; exact heap_alloc_new _ _, by rw [← hw5]; exact (Keeps.refl _ _).alloc _⟩
 have k5 := hk.trans ST.2
 have W5 := Lib.hid (And.intro (W3.out.1.trans k5) (And.intro ((k5.block _ (lt_of_block W3.out.2.1) (fun f => f)).trans W3.out.2.1) (And.intro (W3.out.2.2.1.old k5) (And.intro (W3.out.2.2.2.1.old k5) (And.intro (W3.out.2.2.2.2.old k5) (And.intro ST.1 (hps.old ST.2)))))))
 have HP := Lib.hid hp
 clear W3 hk k5 ST hps hp
 go_wp2_with fail
 clear hw5
 obtain ⟨b6, hb6⟩ : ∃ b, w4.heap.size = b := ⟨_, rfl⟩
 rw [hb6] at W5 ⊢
 clear hb6
 refine (parse_any _ l w5 W5.out.2.2.2.1 (Nat.le_trans H.out.2 (by decide))).mono ?_
 rintro e w6 ⟨⟨q0, q1, q2, q3, qv, qd⟩, rfl, hp, hps, hk⟩
 simp only at hps hp
 obtain ⟨qp, qc, rfl, -, -⟩ := hps.len
 simp only [Pv.cells]
 obtain ⟨w7, hw7⟩ : ∃ w7, w6.alloc (.cells #[.int .u64 (q0 : Int), .int .u64 (q1 : Int), .int .u64 (q2 : Int), .int .u64 (q3 : Int), .slice qp qd.length qc] 37) = w7 := ⟨_, rfl⟩
 have ST : w7.heap[w6.heap.size]? = some (.cells #[.int .u64 (q0 : Int), .int .u64 (q1 : Int), .int .u64 (q2 : Int), .int .u64 (q3 : Int), .slice qp qd.length qc] 37 (0, 0)) ∧ Old w6 w7 := ⟨by rw [← hw7]; exact heap_alloc_new _ _, by rw [← hw7]; exact (Keeps.refl _ _).alloc _⟩
 have k7 := hk.trans ST.2
 have W7 := Lib.hid (And.intro (W5.out.1.trans k7) (And.intro ((k7.block _ (lt_of_block W5.out.2.1) (fun f => f)).trans W5.out.2.1) (And.intro (W5.out.2.2.1.old k7) (And.intro (W5.out.2.2.2.1.old k7) (And.intro (W5.out.2.2.2.2.1.old k7) (And.intro ((k7.block _ (lt_of_block W5.out.2.2.2.2.2.1) (fun f => f)).trans W5.out.2.2.2.2.2.1) (And.intro (W5.out.2.2.2.2.2.2.old k7) (And.intro ST.1 (hps.old ST.2)))))))))
 have HQ := Lib.hid hp
 clear W5 hk k7 ST hps hp
 go_wp2_with fail
 clear hw7
 obtain ⟨b8, hb8⟩ : ∃ b, w6.heap.size = b := ⟨_, rfl⟩
 rw [hb8] at W7 ⊢
 clear hb8
 refine (rparse_any _ l w7 W7.out.2.2.2.1 (Nat.le_trans H.out.2 (by decide))).mono ?_
 rintro e w8 ⟨⟨r0, r1, r2, r3, rv, rd⟩, rfl, hp, hps, hk⟩
 simp only at hps hp
 obtain ⟨rp, rc, rfl, -, -⟩ := hps.len
 simp only [Pv.cells]
 obtain ⟨w9, hw9⟩ : ∃ w9, w8.alloc (.cells #[.int .u64 (r0 : Int), .int .u64 (r1 : Int), .int .u64 (r2 : Int), .int .u64 (r3 : Int), .slice rp rd.length rc] 34) = w9 := ⟨_, rfl⟩
 have ST : w9.heap[w8.heap.size]? = some (.cells #[.int .u64 (r0 : Int), .int .u64 (r1 : Int), .int .u64 (r2 : Int), .int .u64 (r3 : Int), .slice rp rd.length rc] 34 (0, 0)) ∧ Old w8 w9 := ⟨by rw [← hw9]; exact heap_alloc_new _ _, by rw [← hw9]; exact (Keeps.refl _ _).alloc _⟩
 have k9 := hk.trans ST.2
 have W9 := Lib.hid (And.intro (W7.out.1.trans k9) (And.intro ((k9.block _ (lt_of_block W7.out.2.1) (fun f => f)).trans W7.out.2.1) (And.intro (W7.out.2.2.1.old k9) (And.intro (W7.out.2.2.2.1.old k9) (And.intro (W7.out.2.2.2.2.1.old k9) (And.intro ((k9.block _ (lt_of_block W7.out.2.2.2.2.2.1) (fun f => f)).trans W7.out.2.2.2.2.2.1) (And.intro (W7.out.2.2.2.2.2.2.1.old k9) (And.intro ((k9.block _ (lt_of_block W7.out.2.2.2.2.2.2.2.1) (fun f => f)).trans W7.out.2.2.2.2.2.2.2.1) (And.intro (W7.out.2.2.2.2.2.2.2.2.old k9) (And.intro ST.1 (hps.old ST.2)))))))))))
 have HR := Lib.hid hp
 have hb8 := (k9.block _ (lt_of_block W7.out.2.2.2.2.2.2.2.1) (fun f => f)).trans W7.out.2.2.2.2.2.2.2.1
 obtain ⟨⟨c0, c1, c2, c3, c4⟩, -⟩ := blk5 hb8
 clear W7 hk k9 ST hps hp hb8
 obtain ⟨E, hE⟩ : ∃ E, (parP l).2 = E := ⟨_, rfl⟩
 rw [hE]
 go_upto_region 5 with fail
 go_cut [38] (fun v wc => v = .bool false ∧ Old w9 wc)
 case first =>
  by_cases h0 : E = 0
  ·subst h0
   have he := enc_par hE
   rw [← HQ.out] at he
   have hd := encP_data (Pv.plain ⟨q0, q1, q2, q3, .slice qp qd.length qc, qd⟩)
   rw [he.1] at hd
   have hin : PkIn ⟨q0, q1, q2, q3, .slice qp qd.length qc, qd⟩ := ⟨he.2.1, he.2.2.1, he.2.2.2.1, he.2.2.2.2, Nat.le_trans hd H.out.2⟩
   have HE := Lib.hid (And.intro he.1 hin)
   clear he hd hin hE
   go_wp2_with fail
   refine (put_any ⟨q0, q1, q2, q3, .slice qp qd.length qc, qd⟩ w9 W9.out.2.2.2.2.2.2.2.2.1 HE.out.2).mono ?_
   rintro e w10 ⟨yp, yn, yc, rfl, ho, hk⟩
   have WA := Lib.hid (And.intro hk (And.intro ho.sees (W9.out.2.2.2.1.old hk)))
   clear ho hk
   go_wp2_with fail
   refine (equal_any _ _ _ l w10 WA.out.2.1 WA.out.2.2).mono ?_
   rintro e w11 ⟨rfl, rfl⟩
   rw [HE.out.1, beq_self_eq_true]
   go_wp2_with fail
   go_meet
   case rel => exact ⟨rfl, WA.out.1⟩
  ·have d1 : ((E : Int) == 0) = false := by simp; omega
   clear hE
   go_wp2_with fail
   go_meet
   case rel => exact ⟨rfl, Keeps.refl _ _⟩
 obtain ⟨rfl, hcut⟩ := hcut
 have KP : Kp w wc w.heap.size b6 b8 w8.heap.size ⟨a0, a1, a2, a3, .slice av ad.length ac, ad⟩ ⟨p0, p1, p2, p3, .slice pp pd.length pc, pd⟩ ⟨q0, q1, q2, q3, .slice qp qd.length qc, qd⟩ ⟨r0, r1, r2, r3, .slice rp rd.length rc, rd⟩ := (show Kp w w9 w.heap.size b6 b8 w8.heap.size ⟨a0, a1, a2, a3, .slice av ad.length ac, ad⟩ ⟨p0, p1, p2, p3, .slice pp pd.length pc, pd⟩ ⟨q0, q1, q2, q3, .slice qp qd.length qc, qd⟩ ⟨r0, r1, r2, r3, .slice rp rd.length rc, rd⟩ from ⟨W9.out.1, ⟨W9.out.2.1, W9.out.2.2.2.2.2.1, W9.out.2.2.2.2.2.2.2.1, W9.out.2.2.2.2.2.2.2.2.2.1⟩, W9.out.2.2.1, W9.out.2.2.2.2.2.2.1, W9.out.2.2.2.2.2.2.2.2.1, W9.out.2.2.2.2.2.2.2.2.2.2⟩).old hcut
 have KB := Lib.hid (And.intro (W9.out.2.2.2.2.1.old hcut) KP)
 have HL : Hid (rd.length ≤ 140737488355328) := Lib.hid (by have h1 := parP_len l; rw [← HR.out] at h1; have h2 := H.out.2; simp only [Pv.plain] at h1; omega)
 clear W9 hcut KP c0 c1 c2 c3 c4
 obtain ⟨b10, hb10⟩ : ∃ b, w8.heap.size = b := ⟨_, rfl⟩
 rw [hb10] at KB
 go_upto_region 7 with fail
 rw [hb10]
 clear hb10
 have hS := KB.out.2.four.old (Keeps.refl (fun _ => False) wc).drew
 refine wp_region_g (S := Four w.heap.size b6 b8 b10 ⟨a0, a1, a2, a3, .slice av ad.length ac, ad⟩ ⟨p0, p1, p2, p3, .slice pp pd.length pc, pd⟩ ⟨q0, q1, q2, q3, .slice qp qd.length qc, qd⟩ ⟨r0, r1, r2, r3, .slice rp rd.length rc, rd⟩) (M := [0, 1, 2, 3, 4, 5, 6, 7, 8, 9, 10, 11, 12, 13, 14, 15, 16, 17, 18, 19, 20, 21, 22, 23, 24, 25, 26, 27, 28, 29, 30, 31, 32]) (by kernel_rfl) ?_
 refine wpAnyG_onlyL (i := 0) (o := _) (by kernel_rfl) rfl (fun K hK => ?_)
 go_simp
 refine (awake20 _).mono ?_
 rintro e u1 ⟨rfl, hk⟩
 have k1 := (Keeps.refl (fun _ => False) wc).drew.trans hk
 have K1 := Lib.hid (And.intro (KB.out.1.old k1) (KB.out.2.old k1))
 have hS1 := K1.out.2.four
 clear KB hk k1 hS
 go_wp2_with fail
 refine hK.out _ _ (fun _ => hS1) ?_
 clear hK K
 try simp only [Act.put, List.setIfInBounds_toArray, List.set_cons_zero, List.set_cons_succ]
 refine wpAnyG_takeL (i := 1) (oi := _) (v := ?vt1) rfl (by kernel_rfl) (by kernel_rfl) (by kernel_rfl) (by kernel_rfl) (fun _ _ _ h => h) (Or.inl ⟨by rfl, ?yt1⟩) hS1 ?rt1
 case yt1 => (intro W hSw; go_simp; try with_reducible rfl)
 try simp only [Act.put, List.setIfInBounds_toArray, List.set_cons_zero, List.set_cons_succ]
 refine wpAnyG_takeL (i := 2) (oi := _) (v := ?vt2) rfl (by kernel_rfl) (by kernel_rfl) (by kernel_rfl) (by kernel_rfl) (fun _ _ _ h => h) (Or.inl ⟨by rfl, ?yt2⟩) hS1 ?rt2
 case yt2 => (intro W hSw; go_simp; try with_reducible rfl)
 try simp only [Act.put, List.setIfInBounds_toArray, List.set_cons_zero, List.set_cons_succ]
 refine wpAnyG_takeL (i := 3) (oi := _) (v := ?vt3) rfl (by kernel_rfl) (by kernel_rfl) (by kernel_rfl) (by kernel_rfl) (fun _ _ _ h => h) (Or.inl ⟨by rfl, ?yt3⟩) hS1 ?rt3
 case yt3 => (intro W hSw; obtain ⟨⟨y0, y1, y2, y3, y4⟩, -⟩ := blk5 hSw.1; dsimp only at y0 y1 y2 y3 y4; go_simp; try with_reducible rfl)
 try simp only [Act.put, List.setIfInBounds_toArray, List.set_cons_zero, List.set_cons_succ]
 refine wpAnyG_onlyL (i := 4) (o := _) (by kernel_rfl) rfl (fun K hK => ?_)
 go_simp
 refine (rput_any ⟨a0, a1, a2, a3, .slice av ad.length ac, ad⟩ u1 K1.out.2.sa H.out.1).mono ?_
 rintro e u2 ⟨zp, zn, zc, rfl, ho, hk⟩
 have K2 := Lib.hid (And.intro (K1.out.1.old hk) (And.intro ho.sees (K1.out.2.old hk)))
 have hS2 := K2.out.2.2.four
 clear ho hk K1 hS1
 go_wp2_with fail
 refine hK.out _ _ (fun _ => hS2) ?_
 clear hK K
 try simp only [Act.put, List.setIfInBounds_toArray, List.set_cons_zero, List.set_cons_succ]
 refine wpAnyG_onlyL (i := 5) (o := _) (by kernel_rfl) rfl (fun K hK => ?_)
 go_simp
 refine (equal_any _ _ _ _ u2 K2.out.1 K2.out.2.1).mono ?_
 rintro e u3 ⟨rfl, rfl⟩
 rw [HX.out.2, beq_self_eq_true]
 go_wp2_with fail
 refine hK.out _ _ (fun _ => hS2) ?_
 clear hK K
 try simp only [Act.put, List.setIfInBounds_toArray, List.set_cons_zero, List.set_cons_succ]
 have KK := Lib.hid K2.out.2.2
 clear K2
 refine wpAnyG_takeL (i := 6) (oi := _) (v := ?vt6) rfl (by kernel_rfl) (by kernel_rfl) (by kernel_rfl) (by kernel_rfl) (fun _ _ _ h => h) (Or.inl ⟨by rfl, ?yt6⟩) hS2 ?rt6
 case yt6 => (intro W hSw; go_simp; try with_reducible rfl)
 try simp only [Act.put, List.setIfInBounds_toArray, List.set_cons_zero, List.set_cons_succ]
 refine wpAnyG_takeL (i := 7) (oi := _) (v := ?vt7) rfl (by kernel_rfl) (by kernel_rfl) (by kernel_rfl) (by kernel_rfl) (fun _ _ _ h => h) (Or.inl ⟨by rfl, ?yt7⟩) hS2 ?rt7
 case yt7 => (intro W hSw; go_simp; try with_reducible rfl)
 try simp only [Act.put, List.setIfInBounds_toArray, List.set_cons_zero, List.set_cons_succ]
 refine wpAnyG_takeL (i := 8) (oi := _) (v := ?vt8) rfl (by kernel_rfl) (by kernel_rfl) (by kernel_rfl) (by kernel_rfl) (fun _ _ _ h => h) (Or.inl ⟨by rfl, ?yt8⟩) hS2 ?rt8
 case yt8 => (intro W hSw; go_simp; try with_reducible rfl)
 try simp only [Act.put, List.setIfInBounds_toArray, List.set_cons_zero, List.set_cons_succ]
 refine wpAnyG_takeL (i := 9) (oi := _) (v := ?vt9) rfl (by kernel_rfl) (by kernel_rfl) (by kernel_rfl) (by kernel_rfl) (fun _ _ _ h => h) (Or.inl ⟨by rfl, ?yt9⟩) hS2 ?rt9
 case yt9 => (intro W hSw; go_simp; try with_reducible rfl)
 try simp only [Act.put, List.setIfInBounds_toArray, List.set_cons_zero, List.set_cons_succ]
 refine wpAnyG_takeL (i := 10) (oi := _) (v := ?vt10) rfl (by kernel_rfl) (by kernel_rfl) (by kernel_rfl) (by kernel_rfl) (fun _ _ _ h => h) (Or.inl ⟨by rfl, ?yt10⟩) hS2 ?rt10
 case yt10 => (intro W hSw; go_simp; try with_reducible rfl)
 try simp only [Act.put, List.setIfInBounds_toArray, List.set_cons_zero, List.set_cons_succ]
 refine wpAnyG_takeL (i := 11) (oi := _) (v := ?vt11) rfl (by kernel_rfl) (by kernel_rfl) (by kernel_rfl) (by kernel_rfl) (fun _ _ _ h => h) (Or.inl ⟨by rfl, ?yt11⟩) hS2 ?rt11
 case yt11 => (intro W hSw; go_simp; try with_reducible rfl)
 try simp only [Act.put, List.setIfInBounds_toArray, List.set_cons_zero, List.set_cons_succ]
 refine wpAnyG_takeL (i := 12) (oi := _) (v := ?vt12) rfl (by kernel_rfl) (by kernel_rfl) (by kernel_rfl) (by kernel_rfl) (fun _ _ _ h => h) (Or.inl ⟨by rfl, ?yt12⟩) hS2 ?rt12
 case yt12 => (intro W hSw; obtain ⟨⟨y0, y1, y2, y3, y4⟩, -⟩ := blk5 hSw.2.1; dsimp only at y0 y1 y2 y3 y4; go_simp; try with_reducible rfl)
 try simp only [Act.put, List.setIfInBounds_toArray, List.set_cons_zero, List.set_cons_succ]
 refine wpAnyG_takeL (i := 14) (oi := _) (v := ?vt14) rfl (by kernel_rfl) (by kernel_rfl) (by kernel_rfl) (by kernel_rfl) (fun _ _ _ h => h) (Or.inl ⟨by rfl, ?yt14⟩) hS2 ?rt14
 case yt14 => (intro W hSw; obtain ⟨⟨y0, y1, y2, y3, y4⟩, -⟩ := blk5 hSw.1; dsimp only at y0 y1 y2 y3 y4; go_simp; try with_reducible rfl)
 try simp only [Act.put, List.setIfInBounds_toArray, List.set_cons_zero, List.set_cons_succ]
 have Ku2 := KK
 refine wpAnyG_ready (rs := [13, 15]) (by kernel_rfl) (by simp) ?_
 refine AllReadyG.cons (o := _) rfl (fun K hK => ?_) (AllReadyG.cons (o := _) rfl (fun K hK => ?_) AllReadyG.nil)
 ·skip
  go_simp
  have rwa1 := new_row u2 ⟨p0, p1, p2, p3, .slice pp pd.length pc, pd⟩
  have owa1 := litPk u2 ⟨p0, p1, p2, p3, .slice pp pd.length pc, pd⟩
  obtain ⟨wa1, hwa1⟩ : ∃ wa1, u2.alloc (.cells (Pv.cells ⟨p0, p1, p2, p3, .slice pp pd.length pc, pd⟩).toArray 37) = wa1 := ⟨_, rfl⟩
  rw [hwa1] at rwa1 owa1
  simp only [Pv.cells] at hwa1
  rw [hwa1]
  clear hwa1
  have Kwa1 := Lib.hid (Ku2.out.old owa1)
  have hSwa1 := Kwa1.out.four
  refine hK.out _ _ (fun _ => hSwa1) ?_
  clear hK K
  try simp only [Act.put, List.setIfInBounds_toArray, List.set_cons_zero, List.set_cons_succ]
  refine wpAnyG_onlyL (i := 15) (o := _) (by kernel_rfl) rfl (fun K hK => ?_)
  go_simp
  refine (ours_any ⟨a0, a1, a2, a3, .slice av ad.length ac, ad⟩ wa1 Kwa1.out.sa (by have := H.out.1.2.2.2.2; simp only at this ⊢; omega)).mono ?_
  rintro e wb1 ⟨⟨x10, x11, x12, x13, x1v, x1d⟩, rfl, hx1, sx1, owb1⟩
  simp only at sx1
  obtain ⟨x1p, x1c, rfl, -, -⟩ := sx1.len
  simp only [Pv.cells]
  have Kwb1 := Lib.hid (Kwa1.out.old owb1)
  have hSwb1 := Kwb1.out.four
  go_wp2_with fail
  refine hK.out _ _ (fun _ => hSwb1) ?_
  clear hK K
  try simp only [Act.put, List.setIfInBounds_toArray, List.set_cons_zero, List.set_cons_succ]
  refine wpAnyG_onlyL (i := 16) (o := _) (by kernel_rfl) rfl (fun K hK => ?_)
  go_simp
  have rwc1 := new_row wb1 ⟨x10, x11, x12, x13, .slice x1p x1d.length x1c, x1d⟩
  have owc1 := litPk wb1 ⟨x10, x11, x12, x13, .slice x1p x1d.length x1c, x1d⟩
  obtain ⟨wc1, hwc1⟩ : ∃ wc1, wb1.alloc (.cells (Pv.cells ⟨x10, x11, x12, x13, .slice x1p x1d.length x1c, x1d⟩).toArray 37) = wc1 := ⟨_, rfl⟩
  rw [hwc1] at rwc1 owc1
  simp only [Pv.cells] at hwc1
  rw [hwc1]
  clear hwc1
  have Kwc1 := Lib.hid (Kwb1.out.old owc1)
  have hSwc1 := Kwc1.out.four
  refine hK.out _ _ (fun _ => hSwc1) ?_
  clear hK K
  try simp only [Act.put, List.setIfInBounds_toArray, List.set_cons_zero, List.set_cons_succ]
  refine wpAnyG_onlyL (i := 17) (o := _) (by kernel_rfl) rfl (fun K hK => ?_)
  go_simp
  refine (same_yes _ _ [⟨p0, p1, p2, p3, .slice pp pd.length pc, pd⟩] [⟨x10, x11, x12, x13, .slice x1p x1d.length x1c, x1d⟩] wc1 ((rwa1.old owb1).old owc1) rwc1 (fun z hz => ?_) (fun z hz => ?_) ?_).mono ?_
  ·obtain rfl := List.mem_singleton.1 hz
   exact Kwc1.out.sp
  ·obtain rfl := List.mem_singleton.1 hz
   exact sx1.old owc1
  ·simp only [List.map_cons, List.map_nil, hx1]
   exact congrArg (fun z => [z]) (HP.out.trans HX.out.2)
  rintro e v1 ⟨rfl, hk⟩
  have Kv1 := Lib.hid (Kwc1.out.old hk)
  have hSv1 := Kv1.out.four
  clear hk
  go_wp2_with fail
  refine hK.out _ _ (fun _ => hSv1) ?_
  clear hK K
  try simp only [Act.put, List.setIfInBounds_toArray, List.set_cons_zero, List.set_cons_succ]
  refine wpAnyG_takeL (i := 18) (oi := _) (v := ?vg1) rfl (by kernel_rfl) (by kernel_rfl) (by kernel_rfl) (by kernel_rfl) (fun _ _ _ h => h) (Or.inl ⟨by rfl, ?yg1⟩) hSv1 ?rg1
  case yg1 => (intro W hSw; go_simp; try with_reducible rfl)
  try simp only [Act.put, List.setIfInBounds_toArray, List.set_cons_zero, List.set_cons_succ]
  refine wpAnyG_takeL (i := 19) (oi := _) (v := ?vg2) rfl (by kernel_rfl) (by kernel_rfl) (by kernel_rfl) (by kernel_rfl) (fun _ _ _ h => h) (Or.inl ⟨by rfl, ?yg2⟩) hSv1 ?rg2
  case yg2 => (intro W hSw; go_simp; try with_reducible rfl)
  try simp only [Act.put, List.setIfInBounds_toArray, List.set_cons_zero, List.set_cons_succ]
  refine wpAnyG_takeL (i := 20) (oi := _) (v := ?vg3) rfl (by kernel_rfl) (by kernel_rfl) (by kernel_rfl) (by kernel_rfl) (fun _ _ _ h => h) (Or.inl ⟨by rfl, ?yg3⟩) hSv1 ?rg3
  case yg3 => (intro W hSw; go_simp; try with_reducible rfl)
  try simp only [Act.put, List.setIfInBounds_toArray, List.set_cons_zero, List.set_cons_succ]
  refine wpAnyG_takeL (i := 21) (oi := _) (v := ?vg4) rfl (by kernel_rfl) (by kernel_rfl) (by kernel_rfl) (by kernel_rfl) (fun _ _ _ h => h) (Or.inl ⟨by rfl, ?yg4⟩) hSv1 ?rg4
  case yg4 => (intro W hSw; go_simp; try with_reducible rfl)
  try simp only [Act.put, List.setIfInBounds_toArray, List.set_cons_zero, List.set_cons_succ]
  refine wpAnyG_takeL (i := 22) (oi := _) (v := ?vg5) rfl (by kernel_rfl) (by kernel_rfl) (by kernel_rfl) (by kernel_rfl) (fun _ _ _ h => h) (Or.inl ⟨by rfl, ?yg5⟩) hSv1 ?rg5
  case yg5 => (intro W hSw; go_simp; try with_reducible rfl)
  try simp only [Act.put, List.setIfInBounds_toArray, List.set_cons_zero, List.set_cons_succ]
  refine wpAnyG_takeL (i := 23) (oi := _) (v := ?vg6) rfl (by kernel_rfl) (by kernel_rfl) (by kernel_rfl) (by kernel_rfl) (fun _ _ _ h => h) (Or.inl ⟨by rfl, ?yg6⟩) hSv1 ?rg6
  case yg6 => (intro W hSw; go_simp; try with_reducible rfl)
  try simp only [Act.put, List.setIfInBounds_toArray, List.set_cons_zero, List.set_cons_succ]
  refine wpAnyG_takeL (i := 24) (oi := _) (v := ?vg7) rfl (by kernel_rfl) (by kernel_rfl) (by kernel_rfl) (by kernel_rfl) (fun _ _ _ h => h) (Or.inl ⟨by rfl, ?yg7⟩) hSv1 ?rg7
  case yg7 => (intro W hSw; go_simp; try with_reducible rfl)
  try simp only [Act.put, List.setIfInBounds_toArray, List.set_cons_zero, List.set_cons_succ]
  refine wpAnyG_takeL (i := 25) (oi := _) (v := ?vg8) rfl (by kernel_rfl) (by kernel_rfl) (by kernel_rfl) (by kernel_rfl) (fun _ _ _ h => h) (Or.inl ⟨by rfl, ?yg8⟩) hSv1 ?rg8
  case yg8 => (intro W hSw; obtain ⟨⟨y0, y1, y2, y3, y4⟩, -⟩ := blk5 hSw.2.2.1; dsimp only at y0 y1 y2 y3 y4; go_simp; try with_reducible rfl)
  try simp only [Act.put, List.setIfInBounds_toArray, List.set_cons_zero, List.set_cons_succ]
  refine wpAnyG_takeL (i := 27) (oi := _) (v := ?vg9) rfl (by kernel_rfl) (by kernel_rfl) (by kernel_rfl) (by kernel_rfl) (fun _ _ _ h => h) (Or.inl ⟨by rfl, ?yg9⟩) hSv1 ?rg9
  case yg9 => (intro W hSw; obtain ⟨⟨y0, y1, y2, y3, y4⟩, -⟩ := blk5 hSw.2.2.2; dsimp only at y0 y1 y2 y3 y4; go_simp; try with_reducible rfl)
  try simp only [Act.put, List.setIfInBounds_toArray, List.set_cons_zero, List.set_cons_succ]
  refine wpAnyG_ready (rs := [26, 28]) (by kernel_rfl) (by simp) ?_
  refine AllReadyG.cons (o := _) rfl (fun K hK => ?_) (AllReadyG.cons (o := _) rfl (fun K hK => ?_) AllReadyG.nil)
  ·skip
   go_simp
   have rwa2 := new_row v1 ⟨q0, q1, q2, q3, .slice qp qd.length qc, qd⟩
   have owa2 := litPk v1 ⟨q0, q1, q2, q3, .slice qp qd.length qc, qd⟩
   obtain ⟨wa2, hwa2⟩ : ∃ wa2, v1.alloc (.cells (Pv.cells ⟨q0, q1, q2, q3, .slice qp qd.length qc, qd⟩).toArray 37) = wa2 := ⟨_, rfl⟩
   rw [hwa2] at rwa2 owa2
   simp only [Pv.cells] at hwa2
   rw [hwa2]
   clear hwa2
   have Kwa2 := Lib.hid (Kv1.out.old owa2)
   have hSwa2 := Kwa2.out.four
   refine hK.out _ _ (fun _ => hSwa2) ?_
   clear hK K
   try simp only [Act.put, List.setIfInBounds_toArray, List.set_cons_zero, List.set_cons_succ]
   refine wpAnyG_onlyL (i := 28) (o := _) (by kernel_rfl) rfl (fun K hK => ?_)
   go_simp
   refine (ours_any ⟨r0, r1, r2, r3, .slice rp rd.length rc, rd⟩ wa2 Kwa2.out.sr HL.out).mono ?_
   rintro e wb2 ⟨⟨x20, x21, x22, x23, x2v, x2d⟩, rfl, hx2, sx2, owb2⟩
   simp only at sx2
   obtain ⟨x2p, x2c, rfl, -, -⟩ := sx2.len
   simp only [Pv.cells]
   have Kwb2 := Lib.hid (Kwa2.out.old owb2)
   have hSwb2 := Kwb2.out.four
   go_wp2_with fail
   refine hK.out _ _ (fun _ => hSwb2) ?_
   clear hK K
   try simp only [Act.put, List.setIfInBounds_toArray, List.set_cons_zero, List.set_cons_succ]
   refine wpAnyG_onlyL (i := 29) (o := _) (by kernel_rfl) rfl (fun K hK => ?_)
   go_simp
   have rwc2 := new_row wb2 ⟨x20, x21, x22, x23, .slice x2p x2d.length x2c, x2d⟩
   have owc2 := litPk wb2 ⟨x20, x21, x22, x23, .slice x2p x2d.length x2c, x2d⟩
   obtain ⟨wc2, hwc2⟩ : ∃ wc2, wb2.alloc (.cells (Pv.cells ⟨x20, x21, x22, x23, .slice x2p x2d.length x2c, x2d⟩).toArray 37) = wc2 := ⟨_, rfl⟩
   rw [hwc2] at rwc2 owc2
   simp only [Pv.cells] at hwc2
   rw [hwc2]
   clear hwc2
   have Kwc2 := Lib.hid (Kwb2.out.old owc2)
   have hSwc2 := Kwc2.out.four
   refine hK.out _ _ (fun _ => hSwc2) ?_
   clear hK K
   try simp only [Act.put, List.setIfInBounds_toArray, List.set_cons_zero, List.set_cons_succ]
   refine wpAnyG_onlyL (i := 30) (o := _) (by kernel_rfl) rfl (fun K hK => ?_)
   go_simp
   refine (same_yes _ _ [⟨q0, q1, q2, q3, .slice qp qd.length qc, qd⟩] [⟨x20, x21, x22, x23, .slice x2p x2d.length x2c, x2d⟩] wc2 ((rwa2.old owb2).old owc2) rwc2 (fun z hz => ?_) (fun z hz => ?_) ?_).mono ?_
   ·obtain rfl := List.mem_singleton.1 hz
    exact Kwc2.out.sq
   ·obtain rfl := List.mem_singleton.1 hz
    exact sx2.old owc2
   ·simp only [List.map_cons, List.map_nil, hx2]
    exact congrArg (fun z => [z]) (HQ.out.trans HR.out.symm)
   rintro e v2 ⟨rfl, hk⟩
   have Kv2 := Lib.hid (Kwc2.out.old hk)
   have hSv2 := Kv2.out.four
   clear hk
   go_wp2_with fail
   refine hK.out _ _ (fun _ => hSv2) ?_
   clear hK K
   try simp only [Act.put, List.setIfInBounds_toArray, List.set_cons_zero, List.set_cons_succ]
   refine wpAnyG_takeL (i := 31) (oi := _) (v := ?vg10) rfl (by kernel_rfl) (by kernel_rfl) (by kernel_rfl) (by kernel_rfl) (fun _ _ _ h => h) (Or.inl ⟨by rfl, ?yg10⟩) hSv2 ?rg10
   case yg10 => (intro W hSw; go_simp; try with_reducible rfl)
   try simp only [Act.put, List.setIfInBounds_toArray, List.set_cons_zero, List.set_cons_succ]
   refine wpAnyG_takeL (i := 32) (oi := _) (v := ?vg11) rfl (by kernel_rfl) (by kernel_rfl) (by kernel_rfl) (by kernel_rfl) (fun _ _ _ h => h) (Or.inl ⟨by rfl, ?yg11⟩) hSv2 ?rg11
   case yg11 => (intro W hSw; go_simp; try with_reducible rfl)
   try simp only [Act.put, List.setIfInBounds_toArray, List.set_cons_zero, List.set_cons_succ]
   refine wpAnyG_done (by kernel_rfl) ?_ _
   go_wp2_with fail
   go_ret
   exact ⟨rfl, Kv2.out.o⟩
  ·skip
   go_simp
   refine (ours_any ⟨r0, r1, r2, r3, .slice rp rd.length rc, rd⟩ v1 Kv1.out.sr HL.out).mono ?_
   rintro e wa2 ⟨⟨x20, x21, x22, x23, x2v, x2d⟩, rfl, hx2, sx2, owa2⟩
   simp only at sx2
   obtain ⟨x2p, x2c, rfl, -, -⟩ := sx2.len
   simp only [Pv.cells]
   have Kwa2 := Lib.hid (Kv1.out.old owa2)
   have hSwa2 := Kwa2.out.four
   go_wp2_with fail
   refine hK.out _ _ (fun _ => hSwa2) ?_
   clear hK K
   try simp only [Act.put, List.setIfInBounds_toArray, List.set_cons_zero, List.set_cons_succ]
   refine wpAnyG_ready (rs := [26, 29]) (by kernel_rfl) (by simp) ?_
   refine AllReadyG.cons (o := _) rfl (fun K hK => ?_) (AllReadyG.cons (o := _) rfl (fun K hK => ?_) AllReadyG.nil)
   ·skip
    go_simp
    have rwb2 := new_row wa2 ⟨q0, q1, q2, q3, .slice qp qd.length qc, qd⟩
    have owb2 := litPk wa2 ⟨q0, q1, q2, q3, .slice qp qd.length qc, qd⟩
    obtain ⟨wb2, hwb2⟩ : ∃ wb2, wa2.alloc (.cells (Pv.cells ⟨q0, q1, q2, q3, .slice qp qd.length qc, qd⟩).toArray 37) = wb2 := ⟨_, rfl⟩
    rw [hwb2] at rwb2 owb2
    simp only [Pv.cells] at hwb2
    rw [hwb2]
    clear hwb2
    have Kwb2 := Lib.hid (Kwa2.out.old owb2)
    have hSwb2 := Kwb2.out.four
    refine hK.out _ _ (fun _ => hSwb2) ?_
    clear hK K
    try simp only [Act.put, List.setIfInBounds_toArray, List.set_cons_zero, List.set_cons_succ]
    refine wpAnyG_onlyL (i := 29) (o := _) (by kernel_rfl) rfl (fun K hK => ?_)
    go_simp
    have rwc2 := new_row wb2 ⟨x20, x21, x22, x23, .slice x2p x2d.length x2c, x2d⟩
    have owc2 := litPk wb2 ⟨x20, x21, x22, x23, .slice x2p x2d.length x2c, x2d⟩
    obtain ⟨wc2, hwc2⟩ : ∃ wc2, wb2.alloc (.cells (Pv.cells ⟨x20, x21, x22, x23, .slice x2p x2d.length x2c, x2d⟩).toArray 37) = wc2 := ⟨_, rfl⟩
    rw [hwc2] at rwc2 owc2
    simp only [Pv.cells] at hwc2
    rw [hwc2]
    clear hwc2
    have Kwc2 := Lib.hid (Kwb2.out.old owc2)
    have hSwc2 := Kwc2.out.four
    refine hK.out _ _ (fun _ => hSwc2) ?_
    clear hK K
    try simp only [Act.put, List.setIfInBounds_toArray, List.set_cons_zero, List.set_cons_succ]
    refine wpAnyG_onlyL (i := 30) (o := _) (by kernel_rfl) rfl (fun K hK => ?_)
    go_simp
    refine (same_yes _ _ [⟨q0, q1, q2, q3, .slice qp qd.length qc, qd⟩] [⟨x20, x21, x22, x23, .slice x2p x2d.length x2c, x2d⟩] wc2 (rwb2.old owc2) rwc2 (fun z hz => ?_) (fun z hz => ?_) ?_).mono ?_
    ·obtain rfl := List.mem_singleton.1 hz
     exact Kwc2.out.sq
    ·obtain rfl := List.mem_singleton.1 hz
     exact (sx2.old owb2).old owc2
    ·simp only [List.map_cons, List.map_nil, hx2]
     exact congrArg (fun z => [z]) (HQ.out.trans HR.out.symm)
    rintro e v2 ⟨rfl, hk⟩
    have Kv2 := Lib.hid (Kwc2.out.old hk)
    have hSv2 := Kv2.out.four
    clear hk
    go_wp2_with fail
    refine hK.out _ _ (fun _ => hSv2) ?_
    clear hK K
    try simp only [Act.put, List.setIfInBounds_toArray, List.set_cons_zero, List.set_cons_succ]
    refine wpAnyG_takeL (i := 31) (oi := _) (v := ?vg12) rfl (by kernel_rfl) (by kernel_rfl) (by kernel_rfl) (by kernel_rfl) (fun _ _ _ h => h) (Or.inl ⟨by rfl, ?yg12⟩) hSv2 ?rg12
    case yg12 => (intro W hSw; go_simp; try with_reducible rfl)
    try simp only [Act.put, List.setIfInBounds_toArray, List.set_cons_zero, List.set_cons_succ]
    refine wpAnyG_takeL (i := 32) (oi := _) (v := ?vg13) rfl (by kernel_rfl) (by kernel_rfl) (by kernel_rfl) (by kernel_rfl) (fun _ _ _ h => h) (Or.inl ⟨by rfl, ?yg13⟩) hSv2 ?rg13
    case yg13 => (intro W hSw; go_simp; try with_reducible rfl)
    try simp only [Act.put, List.setIfInBounds_toArray, List.set_cons_zero, List.set_cons_succ]
    refine wpAnyG_done (by kernel_rfl) ?_ _
    go_wp2_with fail
    go_ret
    exact ⟨rfl, Kv2.out.o⟩
   ·skip
    go_simp
    have rwb2 := new_row wa2 ⟨x20, x21, x22, x23, .slice x2p x2d.length x2c, x2d⟩
    have owb2 := litPk wa2 ⟨x20, x21, x22, x23, .slice x2p x2d.length x2c, x2d⟩
    obtain ⟨wb2, hwb2⟩ : ∃ wb2, wa2.alloc (.cells (Pv.cells ⟨x20, x21, x22, x23, .slice x2p x2d.length x2c, x2d⟩).toArray 37) = wb2 := ⟨_, rfl⟩
    rw [hwb2] at rwb2 owb2
    simp only [Pv.cells] at hwb2
    rw [hwb2]
    clear hwb2
    have Kwb2 := Lib.hid (Kwa2.out.old owb2)
    have hSwb2 := Kwb2.out.four
    refine hK.out _ _ (fun _ => hSwb2) ?_
    clear hK K
    try simp only [Act.put, List.setIfInBounds_toArray, List.set_cons_zero, List.set_cons_succ]
    refine wpAnyG_onlyL (i := 26) (o := _) (by kernel_rfl) rfl (fun K hK => ?_)
    go_simp
    have rwc2 := new_row wb2 ⟨q0, q1, q2, q3, .slice qp qd.length qc, qd⟩
    have owc2 := litPk wb2 ⟨q0, q1, q2, q3, .slice qp qd.length qc, qd⟩
    obtain ⟨wc2, hwc2⟩ : ∃ wc2, wb2.alloc (.cells (Pv.cells ⟨q0, q1, q2, q3, .slice qp qd.length qc, qd⟩).toArray 37) = wc2 := ⟨_, rfl⟩
    rw [hwc2] at rwc2 owc2
    simp only [Pv.cells] at hwc2
    rw [hwc2]
    clear hwc2
    have Kwc2 := Lib.hid (Kwb2.out.old owc2)
    have hSwc2 := Kwc2.out.four
    refine hK.out _ _ (fun _ => hSwc2) ?_
    clear hK K
    try simp only [Act.put, List.setIfInBounds_toArray, List.set_cons_zero, List.set_cons_succ]
    refine wpAnyG_onlyL (i := 30) (o := _) (by kernel_rfl) rfl (fun K hK => ?_)
    go_simp
    refine (same_yes _ _ [⟨q0, q1, q2, q3, .slice qp qd.length qc, qd⟩] [⟨x20, x21, x22, x23, .slice x2p x2d.length x2c, x2d⟩] wc2 rwc2 (rwb2.old owc2) (fun z hz => ?_) (fun z hz => ?_) ?_).mono ?_
    ·obtain rfl := List.mem_singleton.1 hz
     exact Kwc2.out.sq
    ·obtain rfl := List.mem_singleton.1 hz
     exact (sx2.old owb2).old owc2
    ·simp only [List.map_cons, List.map_nil, hx2]
     exact congrArg (fun z => [z]) (HQ.out.trans HR.out.symm)
    rintro e v2 ⟨rfl, hk⟩
    have Kv2 := Lib.hid (Kwc2.out.old hk)
    have hSv2 := Kv2.out.four
    clear hk
    go_wp2_with fail
    refine hK.out _ _ (fun _ => hSv2) ?_
    clear hK K
    try simp only [Act.put, List.setIfInBounds_toArray, List.set_cons_zero, List.set_cons_succ]
    refine wpAnyG_takeL (i := 31) (oi := _) (v := ?vg14) rfl (by kernel_rfl) (by kernel_rfl) (by kernel_rfl) (by kernel_rfl) (fun _ _ _ h => h) (Or.inl ⟨by rfl, ?yg14⟩) hSv2 ?rg14
    case yg14 => (intro W hSw; go_simp; try with_reducible rfl)
    try simp only [Act.put, List.setIfInBounds_toArray, List.set_cons_zero, List.set_cons_succ]
    refine wpAnyG_takeL (i := 32) (oi := _) (v := ?vg15) rfl (by kernel_rfl) (by kernel_rfl) (by kernel_rfl) (by kernel_rfl) (fun _ _ _ h => h) (Or.inl ⟨by rfl, ?yg15⟩) hSv2 ?rg15
    case yg15 => (intro W hSw; go_simp; try with_reducible rfl)
    try simp only [Act.put, List.setIfInBounds_toArray, List.set_cons_zero, List.set_cons_succ]
    refine wpAnyG_done (by kernel_rfl) ?_ _
    go_wp2_with fail
    go_ret
    exact ⟨rfl, Kv2.out.o⟩
 ·skip
  go_simp
  refine (ours_any ⟨a0, a1, a2, a3, .slice av ad.length ac, ad⟩ u2 Ku2.out.sa (by have := H.out.1.2.2.2.2; simp only at this ⊢; omega)).mono ?_
  rintro e wa1 ⟨⟨x10, x11, x12, x13, x1v, x1d⟩, rfl, hx1, sx1, owa1⟩
  simp only at sx1
  obtain ⟨x1p, x1c, rfl, -, -⟩ := sx1.len
  simp only [Pv.cells]
  have Kwa1 := Lib.hid (Ku2.out.old owa1)
  have hSwa1 := Kwa1.out.four
  go_wp2_with fail
  refine hK.out _ _ (fun _ => hSwa1) ?_
  clear hK K
  try simp only [Act.put, List.setIfInBounds_toArray, List.set_cons_zero, List.set_cons_succ]
  refine wpAnyG_ready (rs := [13, 16]) (by kernel_rfl) (by simp) ?_
  refine AllReadyG.cons (o := _) rfl (fun K hK => ?_) (AllReadyG.cons (o := _) rfl (fun K hK => ?_) AllReadyG.nil)
  ·skip
   go_simp
   have rwb1 := new_row wa1 ⟨p0, p1, p2, p3, .slice pp pd.length pc, pd⟩
   have owb1 := litPk wa1 ⟨p0, p1, p2, p3, .slice pp pd.length pc, pd⟩
   obtain ⟨wb1, hwb1⟩ : ∃ wb1, wa1.alloc (.cells (Pv.cells ⟨p0, p1, p2, p3, .slice pp pd.length pc, pd⟩).toArray 37) = wb1 := ⟨_, rfl⟩
   rw [hwb1] at rwb1 owb1
   simp only [Pv.cells] at hwb1
   rw [hwb1]
   clear hwb1
   have Kwb1 := Lib.hid (Kwa1.out.old owb1)
   have hSwb1 := Kwb1.out.four
   refine hK.out _ _ (fun _ => hSwb1) ?_
   clear hK K
   try simp only [Act.put, List.setIfInBounds_toArray, List.set_cons_zero, List.set_cons_succ]
   refine wpAnyG_onlyL (i := 16) (o := _) (by kernel_rfl) rfl (fun K hK => ?_)
   go_simp
   have rwc1 := new_row wb1 ⟨x10, x11, x12, x13, .slice x1p x1d.length x1c, x1d⟩
   have owc1 := litPk wb1 ⟨x10, x11, x12, x13, .slice x1p x1d.length x1c, x1d⟩
   obtain ⟨wc1, hwc1⟩ : ∃ wc1, wb1.alloc (.cells (Pv.cells ⟨x10, x11, x12, x13, .slice x1p x1d.length x1c, x1d⟩).toArray 37) = wc1 := ⟨_, rfl⟩
   rw [hwc1] at rwc1 owc1
   simp only [Pv.cells] at hwc1
   rw [hwc1]
   clear hwc1
   have Kwc1 := Lib.hid (Kwb1.out.old owc1)
   have hSwc1 := Kwc1.out.four
   refine hK.out _ _ (fun _ => hSwc1) ?_
   clear hK K
   try simp only [Act.put, List.setIfInBounds_toArray, List.set_cons_zero, List.set_cons_succ]
   refine wpAnyG_onlyL (i := 17) (o := _) (by kernel_rfl) rfl (fun K hK => ?_)
   go_simp
   refine (same_yes _ _ [⟨p0, p1, p2, p3, .slice pp pd.length pc, pd⟩] [⟨x10, x11, x12, x13, .slice x1p x1d.length x1c, x1d⟩] wc1 (rwb1.old owc1) rwc1 (fun z hz => ?_) (fun z hz => ?_) ?_).mono ?_
   ·obtain rfl := List.mem_singleton.1 hz
    exact Kwc1.out.sp
   ·obtain rfl := List.mem_singleton.1 hz
    exact (sx1.old owb1).old owc1
   ·simp only [List.map_cons, List.map_nil, hx1]
    exact congrArg (fun z => [z]) (HP.out.trans HX.out.2)
   rintro e v1 ⟨rfl, hk⟩
   have Kv1 := Lib.hid (Kwc1.out.old hk)
   have hSv1 := Kv1.out.four
   clear hk
   go_wp2_with fail
   refine hK.out _ _ (fun _ => hSv1) ?_
   clear hK K
   try simp only [Act.put, List.setIfInBounds_toArray, List.set_cons_zero, List.set_cons_succ]
   refine wpAnyG_takeL (i := 18) (oi := _) (v := ?vg16) rfl (by kernel_rfl) (by kernel_rfl) (by kernel_rfl) (by kernel_rfl) (fun _ _ _ h => h) (Or.inl ⟨by rfl, ?yg16⟩) hSv1 ?rg16
   case yg16 => (intro W hSw; go_simp; try with_reducible rfl)
   try simp only [Act.put, List.setIfInBounds_toArray, List.set_cons_zero, List.set_cons_succ]
   refine wpAnyG_takeL (i := 19) (oi := _) (v := ?vg17) rfl (by kernel_rfl) (by kernel_rfl) (by kernel_rfl) (by kernel_rfl) (fun _ _ _ h => h) (Or.inl ⟨by rfl, ?yg17⟩) hSv1 ?rg17
   case yg17 => (intro W hSw; go_simp; try with_reducible rfl)
   try simp only [Act.put, List.setIfInBounds_toArray, List.set_cons_zero, List.set_cons_succ]
   refine wpAnyG_takeL (i := 20) (oi := _) (v := ?vg18) rfl (by kernel_rfl) (by kernel_rfl) (by kernel_rfl) (by kernel_rfl) (fun _ _ _ h => h) (Or.inl ⟨by rfl, ?yg18⟩) hSv1 ?rg18
   case yg18 => (intro W hSw; go_simp; try with_reducible rfl)
   try simp only [Act.put, List.setIfInBounds_toArray, List.set_cons_zero, List.set_cons_succ]
   refine wpAnyG_takeL (i := 21) (oi := _) (v := ?vg19) rfl (by kernel_rfl) (by kernel_rfl) (by kernel_rfl) (by kernel_rfl) (fun _ _ _ h => h) (Or.inl ⟨by rfl, ?yg19⟩) hSv1 ?rg19
   case yg19 => (intro W hSw; go_simp; try with_reducible rfl)
   try simp only [Act.put, List.setIfInBounds_toArray, List.set_cons_zero, List.set_cons_succ]
   refine wpAnyG_takeL (i := 22) (oi := _) (v := ?vg20) rfl (by kernel_rfl) (by kernel_rfl) (by kernel_rfl) (by kernel_rfl) (fun _ _ _ h => h) (Or.inl ⟨by rfl, ?yg20⟩) hSv1 ?rg20
   case yg20 => (intro W hSw; go_simp; try with_reducible rfl)
   try simp only [Act.put, List.setIfInBounds_toArray, List.set_cons_zero, List.set_cons_succ]
   refine wpAnyG_takeL (i := 23) (oi := _) (v := ?vg21) rfl (by kernel_rfl) (by kernel_rfl) (by kernel_rfl) (by kernel_rfl) (fun _ _ _ h => h) (Or.inl ⟨by rfl, ?yg21⟩) hSv1 ?rg21
   case yg21 => (intro W hSw; go_simp; try with_reducible rfl)
   try simp only [Act.put, List.setIfInBounds_toArray, List.set_cons_zero, List.set_cons_succ]
   refine wpAnyG_takeL (i := 24) (oi := _) (v := ?vg22) rfl (by kernel_rfl) (by kernel_rfl) (by kernel_rfl) (by kernel_rfl) (fun _ _ _ h => h) (Or.inl ⟨by rfl, ?yg22⟩) hSv1 ?rg22
   case yg22 => (intro W hSw; go_simp; try with_reducible rfl)
   try simp only [Act.put, List.setIfInBounds_toArray, List.set_cons_zero, List.set_cons_succ]
   refine wpAnyG_takeL (i := 25) (oi := _) (v := ?vg23) rfl (by kernel_rfl) (by kernel_rfl) (by kernel_rfl) (by kernel_rfl) (fun _ _ _ h => h) (Or.inl ⟨by rfl, ?yg23⟩) hSv1 ?rg23
   case yg23 => (intro W hSw; obtain ⟨⟨y0, y1, y2, y3, y4⟩, -⟩ := blk5 hSw.2.2.1; dsimp only at y0 y1 y2 y3 y4; go_simp; try with_reducible rfl)
   try simp only [Act.put, List.setIfInBounds_toArray, List.set_cons_zero, List.set_cons_succ]
   refine wpAnyG_takeL (i := 27) (oi := _) (v := ?vg24) rfl (by kernel_rfl) (by kernel_rfl) (by kernel_rfl) (by kernel_rfl) (fun _ _ _ h => h) (Or.inl ⟨by rfl, ?yg24⟩) hSv1 ?rg24
   case yg24 => (intro W hSw; obtain ⟨⟨y0, y1, y2, y3, y4⟩, -⟩ := blk5 hSw.2.2.2; dsimp only at y0 y1 y2 y3 y4; go_simp; try with_reducible rfl)
   try simp only [Act.put, List.setIfInBounds_toArray, List.set_cons_zero, List.set_cons_succ]
   refine wpAnyG_ready (rs := [26, 28]) (by kernel_rfl) (by simp) ?_
   refine AllReadyG.cons (o := _) rfl (fun K hK => ?_) (AllReadyG.cons (o := _) rfl (fun K hK => ?_) AllReadyG.nil)
   ·skip
    go_simp
    have rwa2 := new_row v1 ⟨q0, q1, q2, q3, .slice qp qd.length qc, qd⟩
    have owa2 := litPk v1 ⟨q0, q1, q2, q3, .slice qp qd.length qc, qd⟩
    obtain ⟨wa2, hwa2⟩ : ∃ wa2, v1.alloc (.cells (Pv.cells ⟨q0, q1, q2, q3, .slice qp qd.length qc, qd⟩).toArray 37) = wa2 := ⟨_, rfl⟩
    rw [hwa2] at rwa2 owa2
    simp only [Pv.cells] at hwa2
    rw [hwa2]
    clear hwa2
    have Kwa2 := Lib.hid (Kv1.out.old owa2)
    have hSwa2 := Kwa2.out.four
    refine hK.out _ _ (fun _ => hSwa2) ?_
    clear hK K
    try simp only [Act.put, List.setIfInBounds_toArray, List.set_cons_zero, List.set_cons_succ]
    refine wpAnyG_onlyL (i := 28) (o := _) (by kernel_rfl) rfl (fun K hK => ?_)
    go_simp
    refine (ours_any ⟨r0, r1, r2, r3, .slice rp rd.length rc, rd⟩ wa2 Kwa2.out.sr HL.out).mono ?_
    rintro e wb2 ⟨⟨x20, x21, x22, x23, x2v, x2d⟩, rfl, hx2, sx2, owb2⟩
    simp only at sx2
    obtain ⟨x2p, x2c, rfl, -, -⟩ := sx2.len
    simp only [Pv.cells]
    have Kwb2 := Lib.hid (Kwa2.out.old owb2)
    have hSwb2 := Kwb2.out.four
    go_wp2_with fail
    refine hK.out _ _ (fun _ => hSwb2) ?_
    clear hK K
    try simp only [Act.put, List.setIfInBounds_toArray, List.set_cons_zero, List.set_cons_succ]
    refine wpAnyG_onlyL (i := 29) (o := _) (by kernel_rfl) rfl (fun K hK => ?_)
    go_simp
    have rwc2 := new_row wb2 ⟨x20, x21, x22, x23, .slice x2p x2d.length x2c, x2d⟩
    have owc2 := litPk wb2 ⟨x20, x21, x22, x23, .slice x2p x2d.length x2c, x2d⟩
    obtain ⟨wc2, hwc2⟩ : ∃ wc2, wb2.alloc (.cells (Pv.cells ⟨x20, x21, x22, x23, .slice x2p x2d.length x2c, x2d⟩).toArray 37) = wc2 := ⟨_, rfl⟩
    rw [hwc2] at rwc2 owc2
    simp only [Pv.cells] at hwc2
    rw [hwc2]
    clear hwc2
    have Kwc2 := Lib.hid (Kwb2.out.old owc2)
    have hSwc2 := Kwc2.out.four
    refine hK.out _ _ (fun _ => hSwc2) ?_
    clear hK K
    try simp only [Act.put, List.setIfInBounds_toArray, List.set_cons_zero, List.set_cons_succ]
    refine wpAnyG_onlyL (i := 30) (o := _) (by kernel_rfl) rfl (fun K hK => ?_)
    go_simp
    refine (same_yes _ _ [⟨q0, q1, q2, q3, .slice qp qd.length qc, qd⟩] [⟨x20, x21, x22, x23, .slice x2p x2d.length x2c, x2d⟩] wc2 ((rwa2.old owb2).old owc2) rwc2 (fun z hz => ?_) (fun z hz => ?_) ?_).mono ?_
    ·obtain rfl := List.mem_singleton.1 hz
     exact Kwc2.out.sq
    ·obtain rfl := List.mem_singleton.1 hz
     exact sx2.old owc2
    ·simp only [List.map_cons, List.map_nil, hx2]
     exact congrArg (fun z => [z]) (HQ.out.trans HR.out.symm)
    rintro e v2 ⟨rfl, hk⟩
    have Kv2 := Lib.hid (Kwc2.out.old hk)
    have hSv2 := Kv2.out.four
    clear hk
    go_wp2_with fail
    refine hK.out _ _ (fun _ => hSv2) ?_
    clear hK K
    try simp only [Act.put, List.setIfInBounds_toArray, List.set_cons_zero, List.set_cons_succ]
    refine wpAnyG_takeL (i := 31) (oi := _) (v := ?vg25) rfl (by kernel_rfl) (by kernel_rfl) (by kernel_rfl) (by kernel_rfl) (fun _ _ _ h => h) (Or.inl ⟨by rfl, ?yg25⟩) hSv2 ?rg25
    case yg25 => (intro W hSw; go_simp; try with_reducible rfl)
    try simp only [Act.put, List.setIfInBounds_toArray, List.set_cons_zero, List.set_cons_succ]
    refine wpAnyG_takeL (i := 32) (oi := _) (v := ?vg26) rfl (by kernel_rfl) (by kernel_rfl) (by kernel_rfl) (by kernel_rfl) (fun _ _ _ h => h) (Or.inl ⟨by rfl, ?yg26⟩) hSv2 ?rg26
    case yg26 => (intro W hSw; go_simp; try with_reducible rfl)
    try simp only [Act.put, List.setIfInBounds_toArray, List.set_cons_zero, List.set_cons_succ]
    refine wpAnyG_done (by kernel_rfl) ?_ _
    go_wp2_with fail
    go_ret
    exact ⟨rfl, Kv2.out.o⟩
   ·skip
    go_simp
    refine (ours_any ⟨r0, r1, r2, r3, .slice rp rd.length rc, rd⟩ v1 Kv1.out.sr HL.out).mono ?_
    rintro e wa2 ⟨⟨x20, x21, x22, x23, x2v, x2d⟩, rfl, hx2, sx2, owa2⟩
    simp only at sx2
    obtain ⟨x2p, x2c, rfl, -, -⟩ := sx2.len
    simp only [Pv.cells]
    have Kwa2 := Lib.hid (Kv1.out.old owa2)
    have hSwa2 := Kwa2.out.four
    go_wp2_with fail
    refine hK.out _ _ (fun _ => hSwa2) ?_
    clear hK K
    try simp only [Act.put, List.setIfInBounds_toArray, List.set_cons_zero, List.set_cons_succ]
    refine wpAnyG_ready (rs := [26, 29]) (by kernel_rfl) (by simp) ?_
    refine AllReadyG.cons (o := _) rfl (fun K hK => ?_) (AllReadyG.cons (o := _) rfl (fun K hK => ?_) AllReadyG.nil)
    ·skip
     go_simp
     have rwb2 := new_row wa2 ⟨q0, q1, q2, q3, .slice qp qd.length qc, qd⟩
     have owb2 := litPk wa2 ⟨q0, q1, q2, q3, .slice qp qd.length qc, qd⟩
     obtain ⟨wb2, hwb2⟩ : ∃ wb2, wa2.alloc (.cells (Pv.cells ⟨q0, q1, q2, q3, .slice qp qd.length qc, qd⟩).toArray 37) = wb2 := ⟨_, rfl⟩
     rw [hwb2] at rwb2 owb2
     simp only [Pv.cells] at hwb2
     rw [hwb2]
     clear hwb2
     have Kwb2 := Lib.hid (Kwa2.out.old owb2)
     have hSwb2 := Kwb2.out.four
     refine hK.out _ _ (fun _ => hSwb2) ?_
     clear hK K
     try simp only [Act.put, List.setIfInBounds_toArray, List.set_cons_zero, List.set_cons_succ]
     refine wpAnyG_onlyL (i := 29) (o := _) (by kernel_rfl) rfl (fun K hK => ?_)
     go_simp
     have rwc2 := new_row wb2 ⟨x20, x21, x22, x23, .slice x2p x2d.length x2c, x2d⟩
     have owc2 := litPk wb2 ⟨x20, x21, x22, x23, .slice x2p x2d.length x2c, x2d⟩
     obtain ⟨wc2, hwc2⟩ : ∃ wc2, wb2.alloc (.cells (Pv.cells ⟨x20, x21, x22, x23, .slice x2p x2d.length x2c, x2d⟩).toArray 37) = wc2 := ⟨_, rfl⟩
     rw [hwc2] at rwc2 owc2
     simp only [Pv.cells] at hwc2
     rw [hwc2]
     clear hwc2
     have Kwc2 := Lib.hid (Kwb2.out.old owc2)
     have hSwc2 := Kwc2.out.four
     refine hK.out _ _ (fun _ => hSwc2) ?_
     clear hK K
     try simp only [Act.put, List.setIfInBounds_toArray, List.set_cons_zero, List.set_cons_succ]
     refine wpAnyG_onlyL (i := 30) (o := _) (by kernel_rfl) rfl (fun K hK => ?_)
     go_simp
     refine (same_yes _ _ [⟨q0, q1, q2, q3, .slice qp qd.length qc, qd⟩] [⟨x20, x21, x22, x23, .slice x2p x2d.length x2c, x2d⟩] wc2 (rwb2.old owc2) rwc2 (fun z hz => ?_) (fun z hz => ?_) ?_).mono ?_
     ·obtain rfl := List.mem_singleton.1 hz
      exact Kwc2.out.sq
     ·obtain rfl := List.mem_singleton.1 hz
      exact (sx2.old owb2).old owc2
     ·simp only [List.map_cons, List.map_nil, hx2]
      exact congrArg (fun z => [z]) (HQ.out.trans HR.out.symm)
     rintro e v2 ⟨rfl, hk⟩
     have Kv2 := Lib.hid (Kwc2.out.old hk)
     have hSv2 := Kv2.out.four
     clear hk
     go_wp2_with fail
     refine hK.out _ _ (fun _ => hSv2) ?_
     clear hK K
     try simp only [Act.put, List.setIfInBounds_toArray, List.set_cons_zero, List.set_cons_succ]
     refine wpAnyG_takeL (i := 31) (oi := _) (v := ?vg27) rfl (by kernel_rfl) (by kernel_rfl) (by kernel_rfl) (by kernel_rfl) (fun _ _ _ h => h) (Or.inl ⟨by rfl, ?yg27⟩) hSv2 ?rg27
     case yg27 => (intro W hSw; go_simp; try with_reducible rfl)
     try simp only [Act.put, List.setIfInBounds_toArray, List.set_cons_zero, List.set_cons_succ]
     refine wpAnyG_takeL (i := 32) (oi := _) (v := ?vg28) rfl (by kernel_rfl) (by kernel_rfl) (by kernel_rfl) (by kernel_rfl) (fun _ _ _ h => h) (Or.inl ⟨by rfl, ?yg28⟩) hSv2 ?rg28
     case yg28 => (intro W hSw; go_simp; try with_reducible rfl)
     try simp only [Act.put, List.setIfInBounds_toArray, List.set_cons_zero, List.set_cons_succ]
     refine wpAnyG_done (by kernel_rfl) ?_ _
     go_wp2_with fail
     go_ret
     exact ⟨rfl, Kv2.out.o⟩
    ·skip
     go_simp
     have rwb2 := new_row wa2 ⟨x20, x21, x22, x23, .slice x2p x2d.length x2c, x2d⟩
     have owb2 := litPk wa2 ⟨x20, x21, x22, x23, .slice x2p x2d.length x2c, x2d⟩
     obtain ⟨wb2, hwb2⟩ : ∃ wb2, wa2.alloc (.cells (Pv.cells ⟨x20, x21, x22, x23, .slice x2p x2d.length x2c, x2d⟩).toArray 37) = wb2 := ⟨_, rfl⟩
     rw [hwb2] at rwb2 owb2
     simp only [Pv.cells] at hwb2
     rw [hwb2]
     clear hwb2
     have Kwb2 := Lib.hid (Kwa2.out.old owb2)
     have hSwb2 := Kwb2.out.four
     refine hK.out _ _ (fun _ => hSwb2) ?_
     clear hK K
     try simp only [Act.put, List.setIfInBounds_toArray, List.set_cons_zero, List.set_cons_succ]
     refine wpAnyG_onlyL (i := 26) (o := _) (by kernel_rfl) rfl (fun K hK => ?_)
     go_simp
     have rwc2 := new_row wb2 ⟨q0, q1, q2, q3, .slice qp qd.length qc, qd⟩
     have owc2 := litPk wb2 ⟨q0, q1, q2, q3, .slice qp qd.length qc, qd⟩
     obtain ⟨wc2, hwc2⟩ : ∃ wc2, wb2.alloc (.cells (Pv.cells ⟨q0, q1, q2, q3, .slice qp qd.length qc, qd⟩).toArray 37) = wc2 := ⟨_, rfl⟩
     rw [hwc2] at rwc2 owc2
     simp only [Pv.cells] at hwc2
     rw [hwc2]
     clear hwc2
     have Kwc2 := Lib.hid (Kwb2.out.old owc2)
     have hSwc2 := Kwc2.out.four
     refine hK.out _ _ (fun _ => hSwc2) ?_
     clear hK K
     try simp only [Act.put, List.setIfInBounds_toArray, List.set_cons_zero, List.set_cons_succ]
     refine wpAnyG_onlyL (i := 30) (o := _) (by kernel_rfl) rfl (fun K hK => ?_)
     go_simp
     refine (same_yes _ _ [⟨q0, q1, q2, q3, .slice qp qd.length qc, qd⟩] [⟨x20, x21, x22, x23, .slice x2p x2d.length x2c, x2d⟩] wc2 rwc2 (rwb2.old owc2) (fun z hz => ?_) (fun z hz => ?_) ?_).mono ?_
     ·obtain rfl := List.mem_singleton.1 hz
      exact Kwc2.out.sq
     ·obtain rfl := List.mem_singleton.1 hz
      exact (sx2.old owb2).old owc2
     ·simp only [List.map_cons, List.map_nil, hx2]
      exact congrArg (fun z => [z]) (HQ.out.trans HR.out.symm)
     rintro e v2 ⟨rfl, hk⟩
     have Kv2 := Lib.hid (Kwc2.out.old hk)
     have hSv2 := Kv2.out.four
     clear hk
     go_wp2_with fail
     refine hK.out _ _ (fun _ => hSv2) ?_
     clear hK K
     try simp only [Act.put, List.setIfInBounds_toArray, List.set_cons_zero, List.set_cons_succ]
     refine wpAnyG_takeL (i := 31) (oi := _) (v := ?vg29) rfl (by kernel_rfl) (by kernel_rfl) (by kernel_rfl) (by kernel_rfl) (fun _ _ _ h => h) (Or.inl ⟨by rfl, ?yg29⟩) hSv2 ?rg29
     case yg29 => (intro W hSw; go_simp; try with_reducible rfl)
     try simp only [Act.put, List.setIfInBounds_toArray, List.set_cons_zero, List.set_cons_succ]
     refine wpAnyG_takeL (i := 32) (oi := _) (v := ?vg30) rfl (by kernel_rfl) (by kernel_rfl) (by kernel_rfl) (by kernel_rfl) (fun _ _ _ h => h) (Or.inl ⟨by rfl, ?yg30⟩) hSv2 ?rg30
     case yg30 => (intro W hSw; go_simp; try with_reducible rfl)
     try simp only [Act.put, List.setIfInBounds_toArray, List.set_cons_zero, List.set_cons_succ]
     refine wpAnyG_done (by kernel_rfl) ?_ _
     go_wp2_with fail
     go_ret
     exact ⟨rfl, Kv2.out.o⟩
  ·skip
   go_simp
   have rwb1 := new_row wa1 ⟨x10, x11, x12, x13, .slice x1p x1d.length x1c, x1d⟩
   have owb1 := litPk wa1 ⟨x10, x11, x12, x13, .slice x1p x1d.length x1c, x1d⟩
   obtain ⟨wb1, hwb1⟩ : ∃ wb1, wa1.alloc (.cells (Pv.cells ⟨x10, x11, x12, x13, .slice x1p x1d.length x1c, x1d⟩).toArray 37) = wb1 := ⟨_, rfl⟩
   rw [hwb1] at rwb1 owb1
   simp only [Pv.cells] at hwb1
   rw [hwb1]
   clear hwb1
   have Kwb1 := Lib.hid (Kwa1.out.old owb1)
   have hSwb1 := Kwb1.out.four
   refine hK.out _ _ (fun _ => hSwb1) ?_
   clear hK K
   try simp only [Act.put, List.setIfInBounds_toArray, List.set_cons_zero, List.set_cons_succ]
   refine wpAnyG_onlyL (i := 13) (o := _) (by kernel_rfl) rfl (fun K hK => ?_)
   go_simp
   have rwc1 := new_row wb1 ⟨p0, p1, p2, p3, .slice pp pd.length pc, pd⟩
   have owc1 := litPk wb1 ⟨p0, p1, p2, p3, .slice pp pd.length pc, pd⟩
   obtain ⟨wc1, hwc1⟩ : ∃ wc1, wb1.alloc (.cells (Pv.cells ⟨p0, p1, p2, p3, .slice pp pd.length pc, pd⟩).toArray 37) = wc1 := ⟨_, rfl⟩
   rw [hwc1] at rwc1 owc1
   simp only [Pv.cells] at hwc1
   rw [hwc1]
   clear hwc1
   have Kwc1 := Lib.hid (Kwb1.out.old owc1)
   have hSwc1 := Kwc1.out.four
   refine hK.out _ _ (fun _ => hSwc1) ?_
   clear hK K
   try simp only [Act.put, List.setIfInBounds_toArray, List.set_cons_zero, List.set_cons_succ]
   refine wpAnyG_onlyL (i := 17) (o := _) (by kernel_rfl) rfl (fun K hK => ?_)
   go_simp
   refine (same_yes _ _ [⟨p0, p1, p2, p3, .slice pp pd.length pc, pd⟩] [⟨x10, x11, x12, x13, .slice x1p x1d.length x1c, x1d⟩] wc1 rwc1 (rwb1.old owc1) (fun z hz => ?_) (fun z hz => ?_) ?_).mono ?_
   ·obtain rfl := List.mem_singleton.1 hz
    exact Kwc1.out.sp
   ·obtain rfl := List.mem_singleton.1 hz
    exact (sx1.old owb1).old owc1
   ·simp only [List.map_cons, List.map_nil, hx1]
    exact congrArg (fun z => [z]) (HP.out.trans HX.out.2)
   rintro e v1 ⟨rfl, hk⟩
   have Kv1 := Lib.hid (Kwc1.out.old hk)
   have hSv1 := Kv1.out.four
   clear hk
   go_wp2_with fail
   refine hK.out _ _ (fun _ => hSv1) ?_
   clear hK K
   try simp only [Act.put, List.setIfInBounds_toArray, List.set_cons_zero, List.set_cons_succ]
   refine wpAnyG_takeL (i := 18) (oi := _) (v := ?vg31) rfl (by kernel_rfl) (by kernel_rfl) (by kernel_rfl) (by kernel_rfl) (fun _ _ _ h => h) (Or.inl ⟨by rfl, ?yg31⟩) hSv1 ?rg31
   case yg31 => (intro W hSw; go_simp; try with_reducible rfl)
   try simp only [Act.put, List.setIfInBounds_toArray, List.set_cons_zero, List.set_cons_succ]
   refine wpAnyG_takeL (i := 19) (oi := _) (v := ?vg32) rfl (by kernel_rfl) (by kernel_rfl) (by kernel_rfl) (by kernel_rfl) (fun _ _ _ h => h) (Or.inl ⟨by rfl, ?yg32⟩) hSv1 ?rg32
   case yg32 => (intro W hSw; go_simp; try with_reducible rfl)
   try simp only [Act.put, List.setIfInBounds_toArray, List.set_cons_zero, List.set_cons_succ]
   refine wpAnyG_takeL (i := 20) (oi := _) (v := ?vg33) rfl (by kernel_rfl) (by kernel_rfl) (by kernel_rfl) (by kernel_rfl) (fun _ _ _ h => h) (Or.inl ⟨by rfl, ?yg33⟩) hSv1 ?rg33
   case yg33 => (intro W hSw; go_simp; try with_reducible rfl)
   try simp only [Act.put, List.setIfInBounds_toArray, List.set_cons_zero, List.set_cons_succ]
   refine wpAnyG_takeL (i := 21) (oi := _) (v := ?vg34) rfl (by kernel_rfl) (by kernel_rfl) (by kernel_rfl) (by kernel_rfl) (fun _ _ _ h => h) (Or.inl ⟨by rfl, ?yg34⟩) hSv1 ?rg34
   case yg34 => (intro W hSw; go_simp; try with_reducible rfl)
   try simp only [Act.put, List.setIfInBounds_toArray, List.set_cons_zero, List.set_cons_succ]
   refine wpAnyG_takeL (i := 22) (oi := _) (v := ?vg35) rfl (by kernel_rfl) (by kernel_rfl) (by kernel_rfl) (by kernel_rfl) (fun _ _ _ h => h) (Or.inl ⟨by rfl, ?yg35⟩) hSv1 ?rg35
   case yg35 => (intro W hSw; go_simp; try with_reducible rfl)
   try simp only [Act.put, List.setIfInBounds_toArray, List.set_cons_zero, List.set_cons_succ]
   refine wpAnyG_takeL (i := 23) (oi := _) (v := ?vg36) rfl (by kernel_rfl) (by kernel_rfl) (by kernel_rfl) (by kernel_rfl) (fun _ _ _ h => h) (Or.inl ⟨by rfl, ?yg36⟩) hSv1 ?rg36
   case yg36 => (intro W hSw; go_simp; try with_reducible rfl)
   try simp only [Act.put, List.setIfInBounds_toArray, List.set_cons_zero, List.set_cons_succ]
   refine wpAnyG_takeL (i := 24) (oi := _) (v := ?vg37) rfl (by kernel_rfl) (by kernel_rfl) (by kernel_rfl) (by kernel_rfl) (fun _ _ _ h => h) (Or.inl ⟨by rfl, ?yg37⟩) hSv1 ?rg37
   case yg37 => (intro W hSw; go_simp; try with_reducible rfl)
   try simp only [Act.put, List.setIfInBounds_toArray, List.set_cons_zero, List.set_cons_succ]
   refine wpAnyG_takeL (i := 25) (oi := _) (v := ?vg38) rfl (by kernel_rfl) (by kernel_rfl) (by kernel_rfl) (by kernel_rfl) (fun _ _ _ h => h) (Or.inl ⟨by rfl, ?yg38⟩) hSv1 ?rg38
   case yg38 => (intro W hSw; obtain ⟨⟨y0, y1, y2, y3, y4⟩, -⟩ := blk5 hSw.2.2.1; dsimp only at y0 y1 y2 y3 y4; go_simp; try with_reducible rfl)
   try simp only [Act.put, List.setIfInBounds_toArray, List.set_cons_zero, List.set_cons_succ]
   refine wpAnyG_takeL (i := 27) (oi := _) (v := ?vg39) rfl (by kernel_rfl) (by kernel_rfl) (by kernel_rfl) (by kernel_rfl) (fun _ _ _ h => h) (Or.inl ⟨by rfl, ?yg39⟩) hSv1 ?rg39
   case yg39 => (intro W hSw; obtain ⟨⟨y0, y1, y2, y3, y4⟩, -⟩ := blk5 hSw.2.2.2; dsimp only at y0 y1 y2 y3 y4; go_simp; try with_reducible rfl)
   try simp only [Act.put, List.setIfInBounds_toArray, List.set_cons_zero, List.set_cons_succ]
   refine wpAnyG_ready (rs := [26, 28]) (by kernel_rfl) (by simp) ?_
   refine AllReadyG.cons (o := _) rfl (fun K hK => ?_) (AllReadyG.cons (o := _) rfl (fun K hK => ?_) AllReadyG.nil)
   ·skip
    go_simp
    have rwa2 := new_row v1 ⟨q0, q1, q2, q3, .slice qp qd.length qc, qd⟩
    have owa2 := litPk v1 ⟨q0, q1, q2, q3, .slice qp qd.length qc, qd⟩
    obtain ⟨wa2, hwa2⟩ : ∃ wa2, v1.alloc (.cells (Pv.cells ⟨q0, q1, q2, q3, .slice qp qd.length qc, qd⟩).toArray 37) = wa2 := ⟨_, rfl⟩
    rw [hwa2] at rwa2 owa2
    simp only [Pv.cells] at hwa2
    rw [hwa2]
    clear hwa2
    have Kwa2 := Lib.hid (Kv1.out.old owa2)
    have hSwa2 := Kwa2.out.four
    refine hK.out _ _ (fun _ => hSwa2) ?_
    clear hK K
    try simp only [Act.put, List.setIfInBounds_toArray, List.set_cons_zero, List.set_cons_succ]
    refine wpAnyG_onlyL (i := 28) (o := _) (by kernel_rfl) rfl (fun K hK => ?_)
    go_simp
    refine (ours_any ⟨r0, r1, r2, r3, .slice rp rd.length rc, rd⟩ wa2 Kwa2.out.sr HL.out).mono ?_
    rintro e wb2 ⟨⟨x20, x21, x22, x23, x2v, x2d⟩, rfl, hx2, sx2, owb2⟩
    simp only at sx2
    obtain ⟨x2p, x2c, rfl, -, -⟩ := sx2.len
    simp only [Pv.cells]
    have Kwb2 := Lib.hid (Kwa2.out.old owb2)
    have hSwb2 := Kwb2.out.four
    go_wp2_with fail
    refine hK.out _ _ (fun _ => hSwb2) ?_
    clear hK K
    try simp only [Act.put, List.setIfInBounds_toArray, List.set_cons_zero, List.set_cons_succ]
    refine wpAnyG_onlyL (i := 29) (o := _) (by kernel_rfl) rfl (fun K hK => ?_)
    go_simp
    have rwc2 := new_row wb2 ⟨x20, x21, x22, x23, .slice x2p x2d.length x2c, x2d⟩
    have owc2 := litPk wb2 ⟨x20, x21, x22, x23, .slice x2p x2d.length x2c, x2d⟩
    obtain ⟨wc2, hwc2⟩ : ∃ wc2, wb2.alloc (.cells (Pv.cells ⟨x20, x21, x22, x23, .slice x2p x2d.length x2c, x2d⟩).toArray 37) = wc2 := ⟨_, rfl⟩
    rw [hwc2] at rwc2 owc2
    simp only [Pv.cells] at hwc2
    rw [hwc2]
    clear hwc2
    have Kwc2 := Lib.hid (Kwb2.out.old owc2)
    have hSwc2 := Kwc2.out.four
    refine hK.out _ _ (fun _ => hSwc2) ?_
    clear hK K
    try simp only [Act.put, List.setIfInBounds_toArray, List.set_cons_zero, List.set_cons_succ]
    refine wpAnyG_onlyL (i := 30) (o := _) (by kernel_rfl) rfl (fun K hK => ?_)
    go_simp
    refine (same_yes _ _ [⟨q0, q1, q2, q3, .slice qp qd.length qc, qd⟩] [⟨x20, x21, x22, x23, .slice x2p x2d.length x2c, x2d⟩] wc2 ((rwa2.old owb2).old owc2) rwc2 (fun z hz => ?_) (fun z hz => ?_) ?_).mono ?_
    ·obtain rfl := List.mem_singleton.1 hz
     exact Kwc2.out.sq
    ·obtain rfl := List.mem_singleton.1 hz
     exact sx2.old owc2
    ·simp only [List.map_cons, List.map_nil, hx2]
     exact congrArg (fun z => [z]) (HQ.out.trans HR.out.symm)
    rintro e v2 ⟨rfl, hk⟩
    have Kv2 := Lib.hid (Kwc2.out.old hk)
    have hSv2 := Kv2.out.four
    clear hk
    go_wp2_with fail
    refine hK.out _ _ (fun _ => hSv2) ?_
    clear hK K
    try simp only [Act.put, List.setIfInBounds_toArray, List.set_cons_zero, List.set_cons_succ]
    refine wpAnyG_takeL (i := 31) (oi := _) (v := ?vg40) rfl (by kernel_rfl) (by kernel_rfl) (by kernel_rfl) (by kernel_rfl) (fun _ _ _ h => h) (Or.inl ⟨by rfl, ?yg40⟩) hSv2 ?rg40
    case yg40 => (intro W hSw; go_simp; try with_reducible rfl)
    try simp only [Act.put, List.setIfInBounds_toArray, List.set_cons_zero, List.set_cons_succ]
    refine wpAnyG_takeL (i := 32) (oi := _) (v := ?vg41) rfl (by kernel_rfl) (by kernel_rfl) (by kernel_rfl) (by kernel_rfl) (fun _ _ _ h => h) (Or.inl ⟨by rfl, ?yg41⟩) hSv2 ?rg41
    case yg41 => (intro W hSw; go_simp; try with_reducible rfl)
    try simp only [Act.put, List.setIfInBounds_toArray, List.set_cons_zero, List.set_cons_succ]
    refine wpAnyG_done (by kernel_rfl) ?_ _
    go_wp2_with fail
    go_ret
    exact ⟨rfl, Kv2.out.o⟩
   ·skip
    go_simp
    refine (ours_any ⟨r0, r1, r2, r3, .slice rp rd.length rc, rd⟩ v1 Kv1.out.sr HL.out).mono ?_
    rintro e wa2 ⟨⟨x20, x21, x22, x23, x2v, x2d⟩, rfl, hx2, sx2, owa2⟩
    simp only at sx2
    obtain ⟨x2p, x2c, rfl, -, -⟩ := sx2.len
    simp only [Pv.cells]
    have Kwa2 := Lib.hid (Kv1.out.old owa2)
    have hSwa2 := Kwa2.out.four
    go_wp2_with fail
    refine hK.out _ _ (fun _ => hSwa2) ?_
    clear hK K
    try simp only [Act.put, List.setIfInBounds_toArray, List.set_cons_zero, List.set_cons_succ]
    refine wpAnyG_ready (rs := [26, 29]) (by kernel_rfl) (by simp) ?_
    refine AllReadyG.cons (o := _) rfl (fun K hK => ?_) (AllReadyG.cons (o := _) rfl (fun K hK => ?_) AllReadyG.nil)
    ·skip
     go_simp
     have rwb2 := new_row wa2 ⟨q0, q1, q2, q3, .slice qp qd.length qc, qd⟩
     have owb2 := litPk wa2 ⟨q0, q1, q2, q3, .slice qp qd.length qc, qd⟩
     obtain ⟨wb2, hwb2⟩ : ∃ wb2, wa2.alloc (.cells (Pv.cells ⟨q0, q1, q2, q3, .slice qp qd.length qc, qd⟩).toArray 37) = wb2 := ⟨_, rfl⟩
     rw [hwb2] at rwb2 owb2
     simp only [Pv.cells] at hwb2
     rw [hwb2]
     clear hwb2
     have Kwb2 := Lib.hid (Kwa2.out.old owb2)
     have hSwb2 := Kwb2.out.four
     refine hK.out _ _ (fun _ => hSwb2) ?_
     clear hK K
     try simp only [Act.put, List.setIfInBounds_toArray, List.set_cons_zero, List.set_cons_succ]
     refine wpAnyG_onlyL (i := 29) (o := _) (by kernel_rfl) rfl (fun K hK => ?_)
     go_simp
     have rwc2 := new_row wb2 ⟨x20, x21, x22, x23, .slice x2p x2d.length x2c, x2d⟩
     have owc2 := litPk wb2 ⟨x20, x21, x22, x23, .slice x2p x2d.length x2c, x2d⟩
     obtain ⟨wc2, hwc2⟩ : ∃ wc2, wb2.alloc (.cells (Pv.cells ⟨x20, x21, x22, x23, .slice x2p x2d.length x2c, x2d⟩).toArray 37) = wc2 := ⟨_, rfl⟩
     rw [hwc2] at rwc2 owc2
     simp only [Pv.cells] at hwc2
     rw [hwc2]
     clear hwc2
     have Kwc2 := Lib.hid (Kwb2.out.old owc2)
     have hSwc2 := Kwc2.out.four
     refine hK.out _ _ (fun _ => hSwc2) ?_
     clear hK K
     try simp only [Act.put, List.setIfInBounds_toArray, List.set_cons_zero, List.set_cons_succ]
     refine wpAnyG_onlyL (i := 30) (o := _) (by kernel_rfl) rfl (fun K hK => ?_)
     go_simp
     refine (same_yes _ _ [⟨q0, q1, q2, q3, .slice qp qd.length qc, qd⟩] [⟨x20, x21, x22, x23, .slice x2p x2d.length x2c, x2d⟩] wc2 (rwb2.old owc2) rwc2 (fun z hz => ?_) (fun z hz => ?_) ?_).mono ?_
     ·obtain rfl := List.mem_singleton.1 hz
      exact Kwc2.out.sq
     ·obtain rfl := List.mem_singleton.1 hz
      exact (sx2.old owb2).old owc2
     ·simp only [List.map_cons, List.map_nil, hx2]
      exact congrArg (fun z => [z]) (HQ.out.trans HR.out.symm)
     rintro e v2 ⟨rfl, hk⟩
     have Kv2 := Lib.hid (Kwc2.out.old hk)
     have hSv2 := Kv2.out.four
     clear hk
     go_wp2_with fail
     refine hK.out _ _ (fun _ => hSv2) ?_
     clear hK K
     try simp only [Act.put, List.setIfInBounds_toArray, List.set_cons_zero, List.set_cons_succ]
     refine wpAnyG_takeL (i := 31) (oi := _) (v := ?vg42) rfl (by kernel_rfl) (by kernel_rfl) (by kernel_rfl) (by kernel_rfl) (fun _ _ _ h => h) (Or.inl ⟨by rfl, ?yg42⟩) hSv2 ?rg42
     case yg42 => (intro W hSw; go_simp; try with_reducible rfl)
     try simp only [Act.put, List.setIfInBounds_toArray, List.set_cons_zero, List.set_cons_succ]
     refine wpAnyG_takeL (i := 32) (oi := _) (v := ?vg43) rfl (by kernel_rfl) (by kernel_rfl) (by kernel_rfl) (by kernel_rfl) (fun _ _ _ h => h) (Or.inl ⟨by rfl, ?yg43⟩) hSv2 ?rg43
     case yg43 => (intro W hSw; go_simp; try with_reducible rfl)
     try simp only [Act.put, List.setIfInBounds_toArray, List.set_cons_zero, List.set_cons_succ]
     refine wpAnyG_done (by kernel_rfl) ?_ _
     go_wp2_with fail
     go_ret
     exact ⟨rfl, Kv2.out.o⟩
    ·skip
     go_simp
     have rwb2 := new_row wa2 ⟨x20, x21, x22, x23, .slice x2p x2d.length x2c, x2d⟩
     have owb2 := litPk wa2 ⟨x20, x21, x22, x23, .slice x2p x2d.length x2c, x2d⟩
     obtain ⟨wb2, hwb2⟩ : ∃ wb2, wa2.alloc (.cells (Pv.cells ⟨x20, x21, x22, x23, .slice x2p x2d.length x2c, x2d⟩).toArray 37) = wb2 := ⟨_, rfl⟩
     rw [hwb2] at rwb2 owb2
     simp only [Pv.cells] at hwb2
     rw [hwb2]
     clear hwb2
     have Kwb2 := Lib.hid (Kwa2.out.old owb2)
     have hSwb2 := Kwb2.out.four
     refine hK.out _ _ (fun _ => hSwb2) ?_
     clear hK K
     try simp only [Act.put, List.setIfInBounds_toArray, List.set_cons_zero, List.set_cons_succ]
     refine wpAnyG_onlyL (i := 26) (o := _) (by kernel_rfl) rfl (fun K hK => ?_)
     go_simp
     have rwc2 := new_row wb2 ⟨q0, q1, q2, q3, .slice qp qd.length qc, qd⟩
     have owc2 := litPk wb2 ⟨q0, q1, q2, q3, .slice qp qd.length qc, qd⟩
     obtain ⟨wc2, hwc2⟩ : ∃ wc2, wb2.alloc (.cells (Pv.cells ⟨q0, q1, q2, q3, .slice qp qd.length qc, qd⟩).toArray 37) = wc2 := ⟨_, rfl⟩
     rw [hwc2] at rwc2 owc2
     simp only [Pv.cells] at hwc2
     rw [hwc2]
     clear hwc2
     have Kwc2 := Lib.hid (Kwb2.out.old owc2)
     have hSwc2 := Kwc2.out.four
     refine hK.out _ _ (fun _ => hSwc2) ?_
     clear hK K
     try simp only [Act.put, List.setIfInBounds_toArray, List.set_cons_zero, List.set_cons_succ]
     refine wpAnyG_onlyL (i := 30) (o := _) (by kernel_rfl) rfl (fun K hK => ?_)
     go_simp
     refine (same_yes _ _ [⟨q0, q1, q2, q3, .slice qp qd.length qc, qd⟩] [⟨x20, x21, x22, x23, .slice x2p x2d.length x2c, x2d⟩] wc2 rwc2 (rwb2.old owc2) (fun z hz => ?_) (fun z hz => ?_) ?_).mono ?_
     ·obtain rfl := List.mem_singleton.1 hz
      exact Kwc2.out.sq
     ·obtain rfl := List.mem_singleton.1 hz
      exact (sx2.old owb2).old owc2
     ·simp only [List.map_cons, List.map_nil, hx2]
      exact congrArg (fun z => [z]) (HQ.out.trans HR.out.symm)
     rintro e v2 ⟨rfl, hk⟩
     have Kv2 := Lib.hid (Kwc2.out.old hk)
     have hSv2 := Kv2.out.four
     clear hk
     go_wp2_with fail
     refine hK.out _ _ (fun _ => hSv2) ?_
     clear hK K
     try simp only [Act.put, List.setIfInBounds_toArray, List.set_cons_zero, List.set_cons_succ]
     refine wpAnyG_takeL (i := 31) (oi := _) (v := ?vg44) rfl (by kernel_rfl) (by kernel_rfl) (by kernel_rfl) (by kernel_rfl) (fun _ _ _ h => h) (Or.inl ⟨by rfl, ?yg44⟩) hSv2 ?rg44
     case yg44 => (intro W hSw; go_simp; try with_reducible rfl)
     try simp only [Act.put, List.setIfInBounds_toArray, List.set_cons_zero, List.set_cons_succ]
     refine wpAnyG_takeL (i := 32) (oi := _) (v := ?vg45) rfl (by kernel_rfl) (by kernel_rfl) (by kernel_rfl) (by kernel_rfl) (fun _ _ _ h => h) (Or.inl ⟨by rfl, ?yg45⟩) hSv2 ?rg45
     case yg45 => (intro W hSw; go_simp; try with_reducible rfl)
     try simp only [Act.put, List.setIfInBounds_toArray, List.set_cons_zero, List.set_cons_succ]
     refine wpAnyG_done (by kernel_rfl) ?_ _
     go_wp2_with fail
     go_ret
     exact ⟨rfl, Kv2.out.o⟩
end Go.Proofs.Ytllnlimbfoingaa
