/- DERIVED. Chapter 21, the document's May. -/
import Derived.Test.YtiednihagnehlaaZPagesPlays01
import Derived.Deep.DeepCutAuto
namespace Go.Proofs.Ytiednihagnehlaa
open Go.RowKit Go.Great

attribute [-go_sem] loadVar storeVar
set_option maxRecDepth 100000 in
set_option maxHeartbeats 4000000 in
theorem ref21_may_any (m : Ms) (w : World) (h : m.fine w) : Calls Try.prog 38 #[.agg m.cells.toArray] w fun e w' => e = .returned (.bool (mayM m.plain)) ∧ Old w w' := by
 rw [← mayR_eq]
 have CB := Lib.hid (fun W (k : Old w W) => ref21_bare_any m W (Ms.fine.old h k))
 have CS := fun W (k : Old w W) => ref21_same_any (bareR m) m W (bareR_fine (Ms.fine.old h k)) (Ms.fine.old h k)
 have CH := Lib.hid (fun W => ref21_home_any m.pub W h.2.2.2.1.2.1)
 have CI := fun W (k : Old w W) => ref_may_item_any m.it W (It.fine.old h.2.1 k)
 have CG := fun W (k : Old w W) => ref_may_page_any m.pg W (Pg.fine.old h.2.2.1 k)
 have CP := fun W (k : Old w W) => ref_may_pred_any m.pv m.ps W (h.1.1.old k)
 rw [bareR_plain] at CS
 rw [predOk_plain] at CP
 have hmr : mayR m.plain = ((decide (1 ≤ m.kind) && (decide (m.kind ≤ 6) && (sameM (bareP m.plain) m.plain && decide (0 ≤ homeZ m.pub)))) && ((!(m.kind == 1) || (decide (1 ≤ m.ver) && decide (m.ver ≤ 1099511627776))) && ((!(decide (5 ≤ m.kind)) || (decide (0 ≤ m.tb) && (decide (m.tb ≤ 63) && ((decide (1 ≤ m.tl) && decide (m.tl ≤ 1099511627776)) && (decide (1 ≤ m.tc) && decide (m.tc ≤ 1099511627776)))))) && (((!(m.kind == 4) || itOk m.it.plain) && ((!(m.kind == 6) || pgOk m.pg.plain) && (!(m.kind == 5) || (decide (1 ≤ m.frm) && decide (m.frm ≤ 1099511627777))))) && okP (m.ps.map Con.plain))))) := rfl
 rw [hmr]
 clear hmr
 generalize sameM (bareP m.plain) m.plain = s at CS ⊢
 generalize itOk m.it.plain = yi at CI ⊢
 generalize pgOk m.pg.plain = yg at CG ⊢
 generalize okP (m.ps.map Con.plain) = yp at CP ⊢
 obtain ⟨k1, a1⟩ : ∃ b, decide (1 ≤ m.kind) = b := ⟨_, rfl⟩
 obtain ⟨k6, a6⟩ : ∃ b, decide (m.kind ≤ 6) = b := ⟨_, rfl⟩
 obtain ⟨zh, ah⟩ : ∃ b, decide (0 ≤ homeZ m.pub) = b := ⟨_, rfl⟩
 obtain ⟨q1, c1⟩ : ∃ b, (m.kind == 1) = b := ⟨_, rfl⟩
 obtain ⟨v1, d1⟩ : ∃ b, decide (1 ≤ m.ver) = b := ⟨_, rfl⟩
 obtain ⟨v2, d2⟩ : ∃ b, decide (m.ver ≤ 1099511627776) = b := ⟨_, rfl⟩
 obtain ⟨q5, c5⟩ : ∃ b, decide (5 ≤ m.kind) = b := ⟨_, rfl⟩
 obtain ⟨t1, f1⟩ : ∃ b, decide (0 ≤ m.tb) = b := ⟨_, rfl⟩
 obtain ⟨t2, f2⟩ : ∃ b, decide (m.tb ≤ 63) = b := ⟨_, rfl⟩
 obtain ⟨t3, f3⟩ : ∃ b, decide (1 ≤ m.tl) = b := ⟨_, rfl⟩
 obtain ⟨t4, f4⟩ : ∃ b, decide (m.tl ≤ 1099511627776) = b := ⟨_, rfl⟩
 obtain ⟨t5, f5⟩ : ∃ b, decide (1 ≤ m.tc) = b := ⟨_, rfl⟩
 obtain ⟨t6, f6⟩ : ∃ b, decide (m.tc ≤ 1099511627776) = b := ⟨_, rfl⟩
 obtain ⟨e4, g4⟩ : ∃ b, (m.kind == 4) = b := ⟨_, rfl⟩
 obtain ⟨e6, g6⟩ : ∃ b, (m.kind == 6) = b := ⟨_, rfl⟩
 obtain ⟨e5, g5⟩ : ∃ b, (m.kind == 5) = b := ⟨_, rfl⟩
 obtain ⟨x1, n1⟩ : ∃ b, decide (1 ≤ m.frm) = b := ⟨_, rfl⟩
 obtain ⟨x2, n2⟩ : ∃ b, decide (m.frm ≤ 1099511627777) = b := ⟨_, rfl⟩
 rw [a1, a6, ah, c1, d1, d2, c5, f1, f2, f3, f4, f5, f6, g4, g6, g5, n1, n2]
 have a1' : decide (m.kind < 1) = !k1 := by rw [← a1, Bool.eq_iff_iff]; simp
 have a6' : decide (6 < m.kind) = !k6 := by rw [← a6, Bool.eq_iff_iff]; simp
 have ah' : decide (homeZ m.pub < 0) = !zh := by rw [← ah, Bool.eq_iff_iff]; simp
 have d1' : decide ((m.ver : Int) < 1) = !v1 := by rw [← d1, Bool.eq_iff_iff]; simp; omega
 have d2' : decide (1099511627776 < (m.ver : Int)) = !v2 := by rw [← d2, Bool.eq_iff_iff]; simp; omega
 have f1' : decide (m.tb < 0) = !t1 := by rw [← f1, Bool.eq_iff_iff]; simp
 have f2' : decide (63 < m.tb) = !t2 := by rw [← f2, Bool.eq_iff_iff]; simp
 have f3' : decide ((m.tl : Int) < 1) = !t3 := by rw [← f3, Bool.eq_iff_iff]; simp; omega
 have f4' : decide (1099511627776 < (m.tl : Int)) = !t4 := by rw [← f4, Bool.eq_iff_iff]; simp; omega
 have f5' : decide ((m.tc : Int) < 1) = !t5 := by rw [← f5, Bool.eq_iff_iff]; simp; omega
 have f6' : decide (1099511627776 < (m.tc : Int)) = !t6 := by rw [← f6, Bool.eq_iff_iff]; simp; omega
 have n1' : decide ((m.frm : Int) < 1) = !x1 := by rw [← n1, Bool.eq_iff_iff]; simp; omega
 have n2' : decide (1099511627777 < (m.frm : Int)) = !x2 := by rw [← n2, Bool.eq_iff_iff]; simp; omega
 obtain ⟨W0, hW0⟩ : ∃ W0, w.alloc (.cells m.cells.toArray 60) = W0 := ⟨_, rfl⟩
 have k0 : Old w W0 := by rw [← hW0]; exact (Keeps.refl _ _).alloc _
 have b0 : RAt W0 w.heap.size m := by rw [← hW0]; exact heap_alloc_new _ _
 have B := Lib.hid (And.intro k0 b0)
 have HC := Lib.hid (And.intro CS (And.intro CI (And.intro CG CP)))
 have LW := Lib.hid (fun W (o : Old W0 W) => (load_whole ((o.block _ (lt_of_heap b0) (fun f => f)).trans b0) (by simp [Ms.cells]) Try.underlying60 (by kernel_rfl) : (loadVar 60 ⟨w.heap.size, 0, none⟩).run Try.prog W = .ok (.agg m.cells.toArray) W))
 have LP := Lib.hid (fun W (o : Old W0 W) => partsR ((o.block _ (lt_of_heap b0) (fun f => f)).trans b0))
 clear k0 b0 CS CI CG CP h a1 a6 ah d1 d2 f1 f2 f3 f4 f5 f6 n1 n2
 go_enter Try.func38, Try.ntmps38
 go_upto_region 1 with fail
 go_cut [24] (fun v wc => v = .bool (!(k1 && (k6 && (s && zh)))) ∧ Old W0 wc)
 case first =>
  as_aux_lemma =>
   have gK := fun q : OldOf W0 => (LP.out q.to q.old).kind
   have gP := fun q : OldOf W0 => (LP.out q.to q.old).pub
   have gW := fun q : OldOf W0 => LW.out q.to q.old
   have QB := Lib.hid (fun q : OldOf W0 => Calls.quiet_of_old (p := q) (CB.out q.to (B.out.1.trans q.old)))
   have QS := Lib.hid (fun q : OldOf W0 => Calls.quiet_of_old (p := q) (HC.out.1 q.to (B.out.1.trans q.old)))
   have QH := Lib.hid (fun q : OldOf W0 => Calls.quiet_of_old (p := q) ((CH.out q.to).mono fun e w' he => (⟨he.1, he.2 ▸ Keeps.refl _ _⟩ : e = .returned (.int .i64 (homeZ m.pub)) ∧ Old q.to w')))
   clear c1 c5 d1' d2' f1' f2' f3' f4' f5' f6' n1' n2' g4 g5 g6
   cases k1
   ·refine wp_region_quiet_old (by kernel_rfl) (by kernel_rfl) ?_
    repeat (go_big_quiet_step (((fail))))
    refine wpQuiet_nil ?_
    intro _ hpq
    obtain ⟨pq, hpq'⟩ := hpq
    subst hpq'
    go_wp2_with fail
    go_meet
    case rel => exact ⟨rfl, pq.old⟩
   cases k6
   ·refine wp_region_quiet_old (by kernel_rfl) (by kernel_rfl) ?_
    repeat (go_big_quiet_step (((fail))))
    refine wpQuiet_nil ?_
    intro _ hpq
    obtain ⟨pq, hpq'⟩ := hpq
    subst hpq'
    go_wp2_with fail
    go_meet
    case rel => exact ⟨rfl, pq.old⟩
   cases s
   ·refine wp_region_quiet_old (by kernel_rfl) (by kernel_rfl) ?_
    repeat (go_big_quiet_step (((first | (go_at_call 55; exact QB.out _) | (go_at_call 20; exact QS.out _)))))
    refine wpQuiet_nil ?_
    intro _ hpq
    obtain ⟨pq, hpq'⟩ := hpq
    subst hpq'
    go_wp2_with fail
    go_meet
    case rel => exact ⟨rfl, pq.old⟩
   refine wp_region_quiet_old (by kernel_rfl) (by kernel_rfl) ?_
   repeat (go_big_quiet_step (((first | (go_at_call 55; exact QB.out _) | (go_at_call 20; exact QS.out _) | (go_at_call 56; exact QH.out _)))))
   refine wpQuiet_nil ?_
   intro _ hpq
   obtain ⟨pq, hpq'⟩ := hpq
   subst hpq'
   go_wp2_with fail
   go_meet
   case rel => exact ⟨by simp, pq.old⟩
 obtain ⟨rfl, o1⟩ := hcut
 have K1 := Lib.hid o1
 clear o1
 obtain ⟨y1, hy1⟩ : ∃ y, (k1 && (k6 && (s && zh))) = y := ⟨_, rfl⟩
 rw [hy1]
 have HY1 := Lib.hid hy1
 clear hy1 a1' a6' ah'
 -- SECOND
 cases y1
 ·go_wp2_with fail
  go_ret
  exact ⟨by rw [HY1.out]; simp, B.out.1.trans K1.out⟩
 have PW := LP.out wc K1.out
 have pk := PW.kind
 have pv := PW.ver
 go_upto_region 3 with fail
 go_cut [37] (fun v wd => v = .bool (!(!q1 || (v1 && v2))) ∧ wc = wd)
 case first =>
  as_aux_lemma =>
   clear c5 f1' f2' f3' f4' f5' f6' n1' n2' g4 g5 g6
   cases q1
   ·go_wp2_with fail
    go_meet
    case rel => exact ⟨by simp, rfl⟩
   cases v1
   ·go_wp2_with fail
    go_meet
    case rel => exact ⟨by simp, rfl⟩
   cases v2
   ·go_wp2_with fail
    go_meet
    case rel => exact ⟨by simp, rfl⟩
   go_wp2_with fail
   go_meet
   case rel => exact ⟨by simp, rfl⟩
 obtain ⟨rfl, rfl⟩ := hcut
 obtain ⟨y2, hy2⟩ : ∃ y, (!q1 || (v1 && v2)) = y := ⟨_, rfl⟩
 rw [hy2]
 have HY2 := Lib.hid hy2
 clear hy2 d1' d2' c1 pv
 cases y2
 ·go_wp2_with fail
  go_ret
  exact ⟨by rw [HY1.out, HY2.out]; simp, B.out.1.trans K1.out⟩
 have PT := PW.tok
 obtain ⟨Wa, hWa⟩ : ∃ W, wc.alloc (.cells #[.int .i64 0, .int .u64 0, .int .u64 0] 45) = W := ⟨_, rfl⟩
 have ba : Wa.heap[wc.heap.size]? = some (.cells #[.int .i64 0, .int .u64 0, .int .u64 0] 45 (0, 0)) := by rw [← hWa]; exact heap_alloc_new _ _
 have oa : Old wc Wa := by rw [← hWa]; exact (Keeps.refl _ _).alloc _
 obtain ⟨Wb, hst, bb, kb⟩ := store_cells ba (ty := 45) #[.int .i64 m.tb, .int .u64 m.tl, .int .u64 m.tc] (by simp) (by kernel_rfl) (by simp [Value.oneCell']) (putRange_whole (by simp))
 have ob : Old wc Wb := oa.then kb (fun i hi e => by omega)
 have l0 : (loadVar 3 ⟨wc.heap.size, 0, none⟩).run Try.prog Wb = .ok (.int .i64 m.tb) Wb := (show (load _).run Try.prog Wb = _ from load_cell1 (by simp [World.cell?, bb]))
 have l1 : (loadVar 28 ⟨wc.heap.size, 1, none⟩).run Try.prog Wb = .ok (.int .u64 m.tl) Wb := (show (load _).run Try.prog Wb = _ from load_cell1 (by simp [World.cell?, bb]))
 have l2 : (loadVar 28 ⟨wc.heap.size, 2, none⟩).run Try.prog Wb = .ok (.int .u64 m.tc) Wb := (show (load _).run Try.prog Wb = _ from load_cell1 (by simp [World.cell?, bb]))
 have KB := Lib.hid (K1.out.trans ob)
 have OB := Lib.hid ob
 clear ba oa bb kb ob
 have c5' : decide (m.kind ≥ 5) = q5 := c5
 go_upto_if 40 with fail
 go_cut [] (fun wd => Old wc wd ∧ (!q5 || (t1 && (t2 && ((t3 && t4) && (t5 && t6))))) = true)
 case first =>
  as_aux_lemma =>
   clear n1' n2' g4 g5 g6
   cases q5
   ·go_wp2_with fail
    go_meet
    case rel => exact ⟨Keeps.refl _ _, rfl⟩
   cases t1
   ·go_wp2_with fail
    go_ret
    exact ⟨by rw [HY1.out, HY2.out]; simp, B.out.1.trans KB.out⟩
   cases t2
   ·go_wp2_with fail
    go_ret
    exact ⟨by rw [HY1.out, HY2.out]; simp, B.out.1.trans KB.out⟩
   cases t3
   ·go_wp2_with fail
    go_ret
    exact ⟨by rw [HY1.out, HY2.out]; simp, B.out.1.trans KB.out⟩
   cases t4
   ·go_wp2_with fail
    go_ret
    exact ⟨by rw [HY1.out, HY2.out]; simp, B.out.1.trans KB.out⟩
   cases t5
   ·go_wp2_with fail
    go_ret
    exact ⟨by rw [HY1.out, HY2.out]; simp, B.out.1.trans KB.out⟩
   cases t6
   ·go_wp2_with fail
    go_ret
    exact ⟨by rw [HY1.out, HY2.out]; simp, B.out.1.trans KB.out⟩
   go_wp2_with fail
   go_meet
   case rel => exact ⟨OB.out, rfl⟩
 obtain ⟨o3, hy3⟩ := hcut
 have K3 := Lib.hid (K1.out.trans o3)
 have HY3 := Lib.hid hy3
 clear o3 hy3 hWa hst l0 l1 l2 KB OB c5 c5' f1' f2' f3' f4' f5' f6' pk PT PW
 have PW := LP.out _ K3.out
 have pk := PW.kind
 have pi := PW.item
 have pg := PW.page
 have pf := PW.frm
 go_upto_region 9 with fail
 go_cut [105] (fun v we => v = .bool (!((!e4 || yi) && ((!e6 || yg) && (!e5 || (x1 && x2))))) ∧ Old W0 we)
 case first =>
  as_aux_lemma =>
   cases e4
   ·skip
    cases e6
    ·skip
     cases e5
     ·go_wp2_with fail
      go_meet
      case rel => exact ⟨by simp, K3.out⟩
     cases x1
     ·go_wp2_with fail
      go_meet
      case rel => exact ⟨by simp, K3.out⟩
     cases x2
     ·go_wp2_with fail
      go_meet
      case rel => exact ⟨by simp, K3.out⟩
     go_wp2_with fail
     go_meet
     case rel => exact ⟨by simp, K3.out⟩
    ·go_wp2_with fail
     refine (HC.out.2.2.1 _ (B.out.1.trans (K3.out))).mono ?_
     rintro e w5 ⟨rfl, k5⟩
     have N5 := Lib.hid ((K3.out).trans k5)
     have PN := LP.out _ N5.out
     have pk := PN.kind
     have pf := PN.frm
     clear k5 PN pi pg
     cases yg
     ·go_wp2_with fail
      go_meet
      case rel => exact ⟨by simp, N5.out⟩
     cases e5
     ·go_wp2_with fail
      go_meet
      case rel => exact ⟨by simp, N5.out⟩
     cases x1
     ·go_wp2_with fail
      go_meet
      case rel => exact ⟨by simp, N5.out⟩
     cases x2
     ·go_wp2_with fail
      go_meet
      case rel => exact ⟨by simp, N5.out⟩
     go_wp2_with fail
     go_meet
     case rel => exact ⟨by simp, N5.out⟩
   ·go_wp2_with fail
    refine (HC.out.2.1 _ (B.out.1.trans K3.out)).mono ?_
    rintro e w6 ⟨rfl, k6'⟩
    have N6 := Lib.hid (K3.out.trans k6')
    have PN := LP.out _ N6.out
    have pk := PN.kind
    have pf := PN.frm
    have pg := PN.page
    clear k6' PN pi
    have pi := True.intro
    cases yi
    ·go_wp2_with fail
     go_meet
     case rel => exact ⟨by simp, N6.out⟩
    cases e6
    ·skip
     cases e5
     ·go_wp2_with fail
      go_meet
      case rel => exact ⟨by simp, N6.out⟩
     cases x1
     ·go_wp2_with fail
      go_meet
      case rel => exact ⟨by simp, N6.out⟩
     cases x2
     ·go_wp2_with fail
      go_meet
      case rel => exact ⟨by simp, N6.out⟩
     go_wp2_with fail
     go_meet
     case rel => exact ⟨by simp, N6.out⟩
    ·go_wp2_with fail
     refine (HC.out.2.2.1 _ (B.out.1.trans (N6.out))).mono ?_
     rintro e w7 ⟨rfl, k7⟩
     have N7 := Lib.hid ((N6.out).trans k7)
     have PN := LP.out _ N7.out
     have pk := PN.kind
     have pf := PN.frm
     clear k7 PN pi pg
     cases yg
     ·go_wp2_with fail
      go_meet
      case rel => exact ⟨by simp, N7.out⟩
     cases e5
     ·go_wp2_with fail
      go_meet
      case rel => exact ⟨by simp, N7.out⟩
     cases x1
     ·go_wp2_with fail
      go_meet
      case rel => exact ⟨by simp, N7.out⟩
     cases x2
     ·go_wp2_with fail
      go_meet
      case rel => exact ⟨by simp, N7.out⟩
     go_wp2_with fail
     go_meet
     case rel => exact ⟨by simp, N7.out⟩
 obtain ⟨rfl, o4⟩ := hcut
 obtain ⟨y4, hy4⟩ : ∃ y, ((!e4 || yi) && ((!e6 || yg) && (!e5 || (x1 && x2)))) = y := ⟨_, rfl⟩
 rw [hy4]
 have HY4 := Lib.hid hy4
 have K4 := Lib.hid o4
 clear hy4 o4 g4 g5 g6 n1' n2' pk pi pg pf PW
 cases y4
 ·go_wp2_with fail
  go_ret
  exact ⟨by rw [HY1.out, HY2.out, HY3.out, HY4.out]; simp, B.out.1.trans K4.out⟩
 have pp := (LP.out _ K4.out).pred
 go_wp2_with fail
 refine (HC.out.2.2.2 _ (B.out.1.trans K4.out)).mono ?_
 rintro e w8 ⟨rfl, k8⟩
 have K8 := Lib.hid (K4.out.trans k8)
 clear k8 pp
 go_wp2_with fail
 go_ret
 exact ⟨by rw [HY1.out, HY2.out, HY3.out, HY4.out]; simp, B.out.1.trans K8.out⟩
end Go.Proofs.Ytiednihagnehlaa
