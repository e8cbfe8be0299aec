/- DERIVED. Chapter 20: LinkEnds, walked. -/
import Derived.Test.YtllnlimbfoingaaZLinkEnds08
import Derived.Deep.CutBlock
/- AUX -/
namespace Go.Proofs.Ytllnlimbfoingaa
open Go.RowKit Go.Conc

theorem takes_snoc (o : Bool) (p : Pk) : ∀ (l : List Pk) (w : Wd), (Wd.takes w o l).2 = true → Wd.takes w o (l ++ [p]) = (Wd.takes w o l).1.take o p := by
 intro l
 induction l with
 | nil =>
  intro w _
  show (if (w.take o p).2 then Wd.takes (w.take o p).1 o [] else ((w.take o p).1, false)) = _
  cases h : (w.take o p).2 with
  | true => rw [if_pos rfl]; show ((w.take o p).1, true) = _; rw [← h]; rfl
  | false => rw [if_neg (by simp)]; show ((w.take o p).1, false) = _; rw [← h]; rfl
 | cons x l ih =>
  intro w h
  show (if (w.take o x).2 then Wd.takes (w.take o x).1 o (l ++ [p]) else ((w.take o x).1, false)) = _
  have h0 : (if (w.take o x).2 then Wd.takes (w.take o x).1 o l else ((w.take o x).1, false)).2 = true := h
  by_cases hx : (w.take o x).2 = true
  ·rw [if_pos hx] at h0 ⊢
   rw [ih _ h0]
   show _ = (if (w.take o x).2 then Wd.takes (w.take o x).1 o l else ((w.take o x).1, false)).1.take o p
   rw [if_pos hx]
  ·rw [if_neg hx] at h0; cases h0
theorem WB.takes {n : Nat} (o : Bool) : ∀ (l : List Pk) (w : Wd), WB w n → WB (w.takes o l).1 n := by
 intro l
 induction l with
 | nil => exact fun _ h => h
 | cons x l ih =>
  intro w h
  show WB (if (w.take o x).2 then Wd.takes (w.take o x).1 o l else ((w.take o x).1, false)).1 n
  split
  ·exact ih _ (h.take o x)
  ·exact h.take o x
def Wd.sent1 (w : Wd) (i : Bool) : Wd := { w with e := upd w.e i (w.e i).tick.out }
theorem turn_facts {w : Wd} {j : Bool} (h : Inv w j) (i : Bool) : Inv (w.sent1 i) j ∧ ∀ p ∈ (w.e i).tick.outs, Good (w.sent1 i) (!i) p ∧ p.src = ((w.sent1 i).e (!(!i))).life := by
 have h1 := h.tick i
 have h2 := h1.outE i
 have hg := h1.outs i
 simp only [upd_same, upd_upd] at h2 hg
 refine ⟨h2, fun p hp => ?_⟩
 obtain ⟨g1, g2, g3⟩ := hg p hp
 refine ⟨g1.mono ?_ ?_ ?_ (fun q => List.prefix_refl _) (fun q => List.prefix_refl _), ?_⟩ <;> simp [Wd.sent1, En.out, g2]
theorem WB.turn {w : Wd} {n : Nat} (h : WB w n) (i : Bool) : WB (w.turn i).1 n := WB.takes (!i) _ _ (h.toE i _ rfl)
theorem WB.rounds {w : Wd} {n : Nat} (h : WB w n) : ∀ m, WB (w.rounds m) n
 | 0 => h
 | m + 1 => (((WB.rounds h m).turn false).turn true)
/-- one round, k of the two ends done -/
def half (w : Wd) : Nat → Wd
 | 0 => w
 | 1 => (w.turn false).1
 | _ => w.round
theorem half_next (w : Wd) (i : Bool) (k : Nat) (hk : iv i = k) : half w (k + 1) = ((half w k).turn i).1 := by subst hk; cases i <;> rfl
theorem half_facts {w : Wd} {n : Nat} {jj : Bool} (h : Inv w jj) (hb : WB w n) (k : Nat) : Inv (half w k) jj ∧ WB (half w k) n := by
 match k with
 | 0 => exact ⟨h, hb⟩
 | 1 => exact ⟨(h.turn false).1, hb.turn false⟩
 | _ + 2 => exact ⟨h.round, (hb.turn false).turn true⟩
/-- behind the steps: s messages were sent -/
def EnS (w0 w : World) (wb s : Nat) : Prop := ∃ (W : Wd) (j : Bool), Wx w0 w wb W ∧ Inv W j ∧ WB W 100 ∧ ∀ k, (W.e k).waits.length ≤ s
theorem blk3 {w : World} {b : Nat} {t : TypeId} {a0 a1 a2 : Value} (h : w.heap[b]? = some (.cells #[a0, a1, a2] t (0, 0))) :
  (w.cell? ⟨b, 0, none⟩ = some a0 ∧ w.cell? ⟨b, 1, none⟩ = some a1 ∧ w.cell? ⟨b, 2, none⟩ = some a2) ∧ (w.frozen? ⟨b, 0, none⟩ = false ∧ w.frozen? ⟨b, 1, none⟩ = false ∧ w.frozen? ⟨b, 2, none⟩ = false) := by simp [World.cell?, World.frozen?, h]
/-- two sides laid into their new blocks -/
theorem sides_laid {ws : World} {ba bb : Nat} {t : TypeId} {z0 z1 z2 z0' z1' z2' : Value} (hne : ba ≠ bb) (h1 : ws.heap[ba]? = some (.cells #[z0, z1, z2] t (0, 0))) (h2 : ws.heap[bb]? = some (.cells #[z0', z1', z2'] t (0, 0))) (x0 x1 x2 y0 y1 y2 : Value) :
  let wf := (((((ws.setCell ⟨ba, 0, none⟩ x0).setCell ⟨ba, 1, none⟩ x1).setCell ⟨ba, 2, none⟩ x2).setCell ⟨bb, 0, none⟩ y0).setCell ⟨bb, 1, none⟩ y1).setCell ⟨bb, 2, none⟩ y2
  wf.heap[ba]? = some (.cells #[x0, x1, x2] t (0, 0)) ∧ wf.heap[bb]? = some (.cells #[y0, y1, y2] t (0, 0)) ∧ Keeps (fun k => k = ba ∨ k = bb) ws wf := by
 intro wf
 have a1 := heap_setCell_same _ ba 2 _ _ x2 (heap_setCell_same _ ba 1 _ _ x1 (heap_setCell_same _ ba 0 _ _ x0 h1))
 have k1 : Keeps (fun k => k = ba) ws (((ws.setCell ⟨ba, 0, none⟩ x0).setCell ⟨ba, 1, none⟩ x1).setCell ⟨ba, 2, none⟩ x2) := setAt (setAt (setAt (Keeps.refl _ _) 0 _) 1 _) 2 _
 have b1 := (k1.block bb (lt_of_block h2) (fun e => hne e.symm)).trans h2
 obtain ⟨wm, hwm⟩ : ∃ wm, ((ws.setCell ⟨ba, 0, none⟩ x0).setCell ⟨ba, 1, none⟩ x1).setCell ⟨ba, 2, none⟩ x2 = wm := ⟨_, rfl⟩
 rw [hwm] at a1 k1 b1
 have k2 : Keeps (fun k => k = bb) wm (((wm.setCell ⟨bb, 0, none⟩ y0).setCell ⟨bb, 1, none⟩ y1).setCell ⟨bb, 2, none⟩ y2) := setAt (setAt (setAt (Keeps.refl _ _) 0 _) 1 _) 2 _
 have b2 := heap_setCell_same _ bb 2 _ _ y2 (heap_setCell_same _ bb 1 _ _ y1 (heap_setCell_same _ bb 0 _ _ y0 b1))
 have hwf : wf = ((wm.setCell ⟨bb, 0, none⟩ y0).setCell ⟨bb, 1, none⟩ y1).setCell ⟨bb, 2, none⟩ y2 := by rw [← hwm]
 rw [hwf]
 refine ⟨(k2.block ba (lt_of_block a1) hne).trans (by simpa using a1), by simpa using b2, (k1.weaken (fun _ _ e => .inl e)).trans (k2.weaken (fun _ _ e => .inr e))⟩
theorem wm_tick {w0 w : World} {wb : Nat} {lb : Bool → Nat} {R : Bool → Nat → Prop} {own : Own} {mb : Bool → Bool → Nat} {F : SeRows} {V : Bool → Value} {X : Bool → List Pv} {W : Wd} (g : Wm w0 w wb lb R own mb F V X W) (i : Bool) (hl : 1 ≤ (W.e i).life) :
  Calls Try.prog 21 #[.pointer (some ⟨lb i, 0, none⟩)] w fun e w' => e = .returned (.int .i64 0) ∧ Wm w0 w' wb lb R own mb F V X { W with e := upd W.e i (W.e i).tick } := by
 refine (duo_tick i g.duo hl).mono ?_
 rintro e w3 ⟨rfl, d3, k3⟩
 refine ⟨rfl, ?_⟩
 have := g.link i (R' := R i) (e := (W.e i).tick) k3 (fun _ r => .inl r) rfl (by rw [upd_self]; exact d3)
 rwa [upd_self] at this
theorem wm_out_tick {w0 w : World} {wb : Nat} {lb : Bool → Nat} {R : Bool → Nat → Prop} {own : Own} {mb : Bool → Bool → Nat} {F : SeRows} {V : Bool → Value} {X : Bool → List Pv} {W : Wd} {i j : Bool} {n : Nat} (g : Wm w0 w wb lb R own mb F V X { W with e := upd W.e i (W.e i).tick }) (hi : Inv W j) (hb : WB W n) (hn : n ≤ 1000) :
  Calls Try.prog 17 #[.pointer (some ⟨lb i, 0, none⟩)] w fun e w' => ∃ (Xo : List Pv) (vo : Value), e = .returned vo ∧ Outs w' w.heap.size vo Xo ∧ Xo.map Pv.plain = (W.e i).tick.outs ∧ (∀ x ∈ Xo, x.d.length ≤ 140737488355328) ∧ Wm w0 w' wb lb R own mb F V X (W.sent1 i) := by
 have hw := hb.waits hi i
 have d := g.duo
 have C := duo_out i d (by show 1 ≤ (upd W.e i (W.e i).tick i).life; rw [upd_same]; exact (hi.1 i).born) (by show (upd W.e i (W.e i).tick i).win.length ≤ 8; rw [upd_same]; exact WB.win hi i) (by show (upd W.e i (W.e i).tick i).waits.length ≤ 1000; rw [upd_same]; show (W.e i).waits.length ≤ 1000; omega)
  (by show (upd W.e i (W.e i).tick i).last + (upd W.e i (W.e i).tick i).waits.length < _; rw [upd_same]; show (W.e i).last + (W.e i).waits.length < _; omega)
 have B := bounds_lk (d i)
 simp only [upd_same, upd_upd] at C B
 refine C.mono ?_
 rintro e w4 ⟨Xo, vo, rfl, hXo, hXp, k4, hd4⟩
 refine ⟨Xo, vo, rfl, hXo, hXp, fun x hx => B x.plain (by rw [← hXp]; exact List.mem_map_of_mem hx), ?_⟩
 have h4 := hd4 (ownB own) (fun _ h => .inl h) (fun q h => Nat.lt_of_lt_of_le (g.lt q h).1 k4.size)
 have := g.link i (R' := R i) (e := (W.e i).tick.out) k4 (fun _ r => .inl r) (by show _ = (upd W.e i (W.e i).tick i).life; rw [upd_same]; rfl) (by show Duo _ _ _ _ (upd (upd W.e i (W.e i).tick) i (W.e i).tick.out); rw [upd_self, upd_upd]; exact h4)
 rw [upd_self] at this
 simp only [upd_upd] at this
 exact this
set_option maxRecDepth 100000 in
set_option maxHeartbeats 4000000 in
theorem ends_any (v : Value) (l : List St4) (w : World) (hv : SeesR w 4 stL v l) (hl : StIn w l) : Calls Try.prog 5 #[v] w fun e w' => e = .returned (.bool true) ∧ Below w.heap.size w w' := by
 obtain ⟨vp, vc, rfl, hle, hmx⟩ := hv.len
 have hlm : l.length ≤ 9223372036854775807 := by unfold maxLen at hmx; omega
 have HI := Lib.hid (And.intro hv hl)
 have CA := Lib.hid (awake20 w)
 clear hv hl hle hmx
 go_enter Try.func5, Try.ntmps5
 go_wp2_with fail
 refine CA.out.mono ?_
 rintro e w0 ⟨rfl, o0⟩
 have O0 := Lib.hid o0
 clear o0 CA
 go_wp2_with fail
 refine (fresh_any w0).mono ?_
 rintro e w2 ⟨wb, rfl, hx0⟩
 have S0 : Hid (Wx w0 w2 wb Wd.fresh) := Lib.hid hx0
 clear hx0
 go_upto_block 0 with fail
 go_cut [4] (fun v4 wf => ∃ s : Nat, v4 = .int .i64 (s : Int) ∧ s ≤ 100 ∧ EnS w0 wf wb s)
 case first =>
  go_wp2_with fail
  go_loopg [4, 19] l.length (fun n v4 v19 wm => ∃ i s : Nat, i ≤ l.length ∧ i ≤ 100 ∧ s ≤ i ∧ n = l.length - i ∧ v4 = .int .i64 (s : Int) ∧ v19 = .int .i64 (i : Int) ∧ ∃ (W : Wd) (j : Bool), Wx w0 wm wb W ∧ Inv W j ∧ WB W i ∧ ∀ k, (W.e k).waits.length ≤ s)
  case atStart => exact ⟨0, 0, Nat.zero_le _, by omega, Nat.le_refl _, rfl, rfl, rfl, _, _, S0.out, Inv.fresh, WB.fresh, fun _ => Nat.le_refl _⟩
  case round =>
   obtain ⟨i, s, hi, hi2, hsi, rfl, rfl, rfl, W, j, hx, hin, hwb, hwt⟩ := hrel
   obtain ⟨wo, rfl⟩ : ∃ wo : World, wo = wr := ⟨_, rfl⟩
   by_cases hlt : i < l.length
   ·have q1 : decide ((i : Int) < (l.length : Int)) = true := by simp; omega
    obtain ⟨b, o, cc, he, _, _, hc⟩ := HI.out.1.at (by omega)
    simp only [Value.slice.injEq, true_and] at he
    obtain ⟨rfl, rfl⟩ := he
    obtain ⟨⟨xw, xe, xi, xv, xd⟩, hxx⟩ : ∃ x, l[i]? = some x := ⟨_, List.getElem?_eq_getElem hlt⟩
    have sx := HI.out.2 _ (List.mem_of_getElem? hxx)
    simp only at sx
    obtain ⟨pp, pc, rfl, _, _⟩ := sx.1.len
    obtain ⟨lb, R, own, mb, F, V, X, g⟩ := hx
    have hold : Old w wo := O0.out.trans g.old
    have c0 : wo.cell? ⟨b, o + i * 4, none⟩ = some (.int .i64 xw) := by have := hold.cell (hc i _ hxx 0 _ rfl) (fun f => f); simpa using this
    have c1 : wo.cell? ⟨b, o + i * 4 + 1, none⟩ = some (.int .i64 xe) := by have := hold.cell (hc i _ hxx 1 _ rfl) (fun f => f); simpa using this
    have c2 : wo.cell? ⟨b, o + i * 4 + 2, none⟩ = some (.int .i64 xi) := by have := hold.cell (hc i _ hxx 2 _ rfl) (fun f => f); simpa using this
    have c3 : wo.cell? ⟨b, o + i * 4 + 3, none⟩ = some (.slice pp xd.length pc) := by have := hold.cell (hc i _ hxx 3 _ rfl) (fun f => f); simpa using this
    have q2 : (0 : Int) ≤ (i : Int) := by omega
    have q3 : (i : Int) < (l.length : Int) := by omega
    obtain ⟨w1, hw1⟩ : ∃ w1, wo.alloc (.cells #[.int .i64 xw, .int .i64 xe, .int .i64 xi, .slice pp xd.length pc] 62) = w1 := ⟨_, rfl⟩
    have o1 : Old wo w1 := by rw [← hw1]; exact (Keeps.refl _ _).alloc _
    have b1 : w1.heap[wo.heap.size]? = some (.cells #[.int .i64 xw, .int .i64 xe, .int .i64 xi, .slice pp xd.length pc] 62 (0, 0)) := by rw [← hw1]; exact heap_alloc_new _ _
    by_cases h100 : i = 100
    ·have q4 : ((i : Int) == 100) = true := by simp; omega
     have Z := Lib.hid (And.intro (g.oldW o1) (And.intro hin (And.intro hwb (And.intro hwt (And.intro hsi hi2)))))
     clear hold g hin hwb hwt hc hxx sx h100 hi2 hsi o1 b1
     go_wp2_with fail
     go_meet
     case rel =>
      obtain ⟨g, hin, hwb, hwt, hsi, hi2⟩ := Z.out
      exact ⟨s, rfl, by omega, W, j, ⟨_, _, _, _, _, _, _, g⟩, hin, ⟨fun a b => Nat.le_trans (hwb.sent a b) hi2, fun a => by have := hwb.life a; omega, fun a => by have := hwb.way a; omega⟩, hwt⟩
    ·have q4 : ((i : Int) == 100) = false := by simp; omega
     obtain ⟨y0, y1, y2, y3⟩ := blk4 b1
     have CS := wstep_any (xw, xe, xi, ((.slice pp xd.length pc, xd) : Bv)) (g.oldW o1) hin hwb (by omega) (sx.1.old O0.out) sx.2
     simp only [stL] at CS
     have hstep := step_waits W (stP (xw, xe, xi, ((.slice pp xd.length pc, xd) : Bv)))
     have hwhat : (stP (xw, xe, xi, ((.slice pp xd.length pc, xd) : Bv))).what = xw := rfl
     rw [hwhat] at hstep
     have Z := Lib.hid (And.intro CS (And.intro hin (And.intro hwb (And.intro h100 (And.intro hi2 (And.intro hwt (And.intro hsi hstep)))))))
     clear hold hc hxx sx o1 b1 h100 hi2 g hin hwb CS hwt hsi hstep hwhat
     by_cases hx0 : xw = 0
     ·have hs1 : IntKind.i64.wrap ((s : Int) + 1) = ((s + 1 : Nat) : Int) := by have h1 := Z.out.2.2.2.2.1; have h2 := Z.out.2.2.2.2.2.2.1; rw [IntKind.wrap_i64]; omega
      have HX0 := Lib.hid hx0
      subst hx0
      go_wp2_with fail
      refine Z.out.1.mono ?_
      rintro e w3 ⟨rfl, hx3⟩
      have X3 := Lib.hid hx3
      clear hx3
      go_wp2_with fail
      go_roundg (l.length - (i + 1))
      case measure => omega
      case rel =>
       obtain ⟨_, hin, hwb, h100, hi2, hwt, hsi, hst⟩ := Z.out
       obtain ⟨j', hin', _⟩ := hin.step (stP (0, xe, xi, ((.slice pp xd.length pc, xd) : Bv)))
       exact ⟨i + 1, s + 1, by omega, by omega, by omega, rfl, by first | rfl | (rw [hs1]) | go_num, by go_num, _, j', X3.out, hin', hwb.step hin _, fun k => by have h1 := hst k; have h2 := hwt k; (first | rw [if_pos trivial] at h1 | rw [if_pos rfl] at h1); omega⟩
     ·have q5 : (xw == 0) = false := by simp [hx0]
      have HX0 := Lib.hid hx0
      clear hx0
      go_wp2_with fail
      refine Z.out.1.mono ?_
      rintro e w3 ⟨rfl, hx3⟩
      have X3 := Lib.hid hx3
      clear hx3
      go_wp2_with fail
      go_roundg (l.length - (i + 1))
      case measure => omega
      case rel =>
       obtain ⟨_, hin, hwb, h100, hi2, hwt, hsi, hst⟩ := Z.out
       obtain ⟨j', hin', _⟩ := hin.step (stP (xw, xe, xi, ((.slice pp xd.length pc, xd) : Bv)))
       exact ⟨i + 1, s, by omega, by omega, by omega, rfl, rfl, by go_num, _, j', X3.out, hin', hwb.step hin _, fun k => by have h1 := hst k; have h2 := hwt k; rw [if_neg HX0.out] at h1; omega⟩
   ·obtain rfl : i = l.length := by omega
    have Z := Lib.hid (And.intro hx (And.intro hin (And.intro hwb (And.intro hwt (And.intro hsi hi2)))))
    clear hx hin hwb hwt hsi hi2 hlt
    go_wp2_with fail
    go_meet
    case rel =>
     obtain ⟨hx, hin, hwb, hwt, hsi, hi2⟩ := Z.out
     exact ⟨s, rfl, by omega, W, j, hx, hin, ⟨fun a b => Nat.le_trans (hwb.sent a b) hi2, fun a => by have := hwb.life a; omega, fun a => by have := hwb.way a; omega⟩, hwt⟩
 case rest =>
  obtain ⟨s, rfl, hs100, W, j, hxW, hin, hwb, hwt⟩ := hcut
  have EN := Lib.hid (ends hin s hwt)
  have IN := Lib.hid (And.intro hin hwb)
  have hs4 : IntKind.i64.wrap ((s : Int) + 4) = ((s + 4 : Nat) : Int) := by rw [IntKind.wrap_i64]; omega
  obtain ⟨s4, hs4e⟩ : ∃ n, s + 4 = n := ⟨_, rfl⟩
  rw [hs4e] at hs4
  have S4 := Lib.hid hs4e
  have XW := Lib.hid hxW
  clear hin hwb hwt hxW hs4e
  obtain ⟨wo, rfl⟩ : ∃ wo : World, wo = wc := ⟨_, rfl⟩
  go_upto_block 2 with fail
  go_cut [] (fun wf => Wx w0 wf wb (W.rounds s4) ∧ True)
  case first =>
   go_wp2_with fail
   go_loopg [37] s4 (fun n v37 wm => ∃ m : Nat, m ≤ s4 ∧ n = s4 - m ∧ v37 = .int .i64 (m : Int) ∧ Wx w0 wm wb (W.rounds m))
   case atStart => exact ⟨0, Nat.zero_le _, rfl, rfl, XW.out⟩
   case round =>
    obtain ⟨m, hm, rfl, rfl, hx⟩ := hrel
    obtain ⟨wo2, rfl⟩ : ∃ wo2 : World, wo2 = wr := ⟨_, rfl⟩
    have hms : (m : Int) ≤ 104 := by have h1 := S4.out; omega
    by_cases hlt : m < s4
    ·have q1 : decide ((m : Int) < (s4 : Int)) = true := by simp; omega
     have q1' : decide (m < s4) = true := by simp; omega
     have X1 := Lib.hid hx
     clear hx
     go_wp2_with fail
     go_loopg [39] 2 (fun n v39 wm => ∃ k : Nat, k ≤ 2 ∧ n = 2 - k ∧ v39 = .int .i64 (k : Int) ∧ Wx w0 wm wb (half (W.rounds m) k))
     case atStart => exact ⟨0, by omega, rfl, rfl, X1.out⟩
     case round =>
      obtain ⟨k, hk, rfl, rfl, hx⟩ := hrel
      obtain ⟨wi, rfl⟩ : ∃ wi : World, wi = wr := ⟨_, rfl⟩
      by_cases hlt2 : k < 2
      ·have q2 : decide ((k : Int) < 2) = true := by simp; omega
       have q2' : decide (k < 2) = true := by simp; omega
       obtain ⟨i, hki⟩ : ∃ i, iv i = k := by
        rcases (show k = 0 ∨ k = 1 by omega) with rfl | rfl
        ·exact ⟨false, rfl⟩
        ·exact ⟨true, rfl⟩
       obtain ⟨U, hU⟩ : ∃ U, half (W.rounds m) k = U := ⟨_, rfl⟩
       have hUf := half_facts (IN.out.1.rounds m) (IN.out.2.rounds m) k
       rw [hU] at hUf hx
       obtain ⟨lb, R, own, mb, F, V, X, g⟩ := hx
       obtain ⟨⟨c0, c1, c2⟩, -, -, -⟩ := wd_cells g.blk i
       rw [hki] at c0 c1 c2
       obtain ⟨vp, vc, hvv, _, _⟩ := ((g.ways i).sees (fun _ => rfl) (by decide)).len
       rw [hvv] at c1
       obtain ⟨jn, hjn⟩ : ∃ q, iv (!i) = q := ⟨_, rfl⟩
       have hsub : IntKind.i64.wrap (1 - (k : Int)) = (jn : Int) := by
        have h1 := iv_not i
        rw [hjn, hki] at h1
        rw [← h1, IntKind.wrap_i64]
        have := iv_lt (!i)
        omega
       have p1 : (0 : Int) ≤ (k : Int) := by omega
       have p2 : (k : Int) < 2 := by omega
       have C1 := Lib.hid (wm_tick g i (hUf.1.1 i).born)
       have Z := Lib.hid (And.intro hUf (And.intro hki (And.intro hU (And.intro hjn (And.intro hk hlt2)))))
       clear hUf hki hU hjn hk hlt2 g hvv
       go_upto_region 19 with (go_at_call 21; refine C1.out.mono ?_; rintro e w3 ⟨rfl, g3⟩)
       clear c0 c1 c2
       obtain ⟨⟨c0, c1, c2⟩, -, -, -⟩ := wd_cells g3.blk i
       rw [Z.out.2.1] at c0
       have C2 := Lib.hid (wm_out_tick g3 Z.out.1.1 Z.out.1.2 (by omega))
       have hR3 : ∀ b, ownB own b ∨ R false b ∨ R true b → b < w3.heap.size := fun b e => by
        rcases e with e | e | e
        ·exact (g3.lt b e).1
        ·exact (g3.duo.lt false).1 b e
        ·exact (g3.duo.lt true).1 b e
       have HR3 := Lib.hid hR3
       clear c1 c2 g3 hR3
       go_wp2_with fail
       refine C2.out.mono ?_
       rintro e w4 ⟨Xo, vo, rfl, hXo, hXp, hXl, g4⟩
       obtain ⟨po, co, rfl, _, _⟩ := hXo.len
       obtain ⟨lo, hlo⟩ : ∃ l, Xo.length = l := ⟨_, rfl⟩
       have hlo17 : lo ≤ 17 := by rw [← hlo, ← List.length_map (f := Pv.plain), hXp]; exact outs_len (e := (U.e i).tick) (WB.win Z.out.1.1 i)
       rw [hlo] at hXo
       have Z4 := Lib.hid (And.intro hXo (And.intro hXp (And.intro hXl (And.intro g4 hlo))))
       rw [hlo]
       clear hXo hXp hXl g4 hlo
       go_wp2_with fail
       go_loopg [59] lo (fun n v59 wm => ∃ q : Nat, q ≤ lo ∧ n = lo - q ∧ v59 = .int .i64 (q : Int) ∧ Wy w0 w4 wm wb own R (Wd.takes (U.sent1 i) (!i) ((U.e i).tick.outs.take q)).1)
       case atStart => exact ⟨0, Nat.zero_le _, rfl, rfl, by rw [List.take_zero]; exact ⟨_, _, _, _, _, _, _, Z4.out.2.2.2.1, Grew.refl _⟩⟩
       case round =>
        obtain ⟨q, hq, rfl, rfl, hy⟩ := hrel
        obtain ⟨wq, rfl⟩ : ∃ wq : World, wq = wr := ⟨_, rfl⟩
        by_cases hlt3 : q < lo
        ·have q3 : decide ((q : Int) < (lo : Int)) = true := by simp; omega
         have q3' : decide (q < lo) = true := by simp; omega
         obtain ⟨hXo, hXp, hXl, g4, hlo⟩ := Z4.out
         obtain ⟨⟨x0, x1, x2, x3, xv, xd⟩, hx⟩ : ∃ x, Xo[q]? = some x := ⟨_, List.getElem?_eq_getElem (by rw [hlo]; exact hlt3)⟩
         have hmem := List.mem_of_getElem? hx
         obtain ⟨lb', R', own', mb', F', V', X', g', gw⟩ := hy
         have hXq : Outs wq w3.heap.size (.slice po lo co) Xo := hXo.keeps gw.2 (fun b hb1 hb2 e => by have := HR3.out b e; omega)
         obtain ⟨rb, ro, rc, hrv, _, _, hat⟩ := (hXq.1.1.sees (fun _ => rfl) (by decide)).at (by omega)
         simp only [Value.slice.injEq] at hrv
         obtain ⟨rfl, hlx, rfl⟩ := hrv
         clear hlx
         have hox := (hXq.1.2 _ hmem).1
         have hox4 := (hXo.1.2 _ hmem).1
         simp only at hox hox4
         obtain ⟨xp, xc, rfl, _, hxmx⟩ := hox.sees.len
         have e0 := hat q _ hx 0 _ rfl
         have e1 := hat q _ hx 1 _ rfl
         have e2 := hat q _ hx 2 _ rfl
         have e3 := hat q _ hx 3 _ rfl
         have e4 := hat q _ hx 4 _ rfl
         rw [Nat.add_zero] at e0
         simp only at e0 e1 e2 e3 e4
         have i1 : (0 : Int) ≤ (q : Int) := by omega
         have i2 : (q : Int) < (lo : Int) := by omega
         obtain ⟨w8, hw8⟩ : ∃ w8, wq.alloc (.cells #[.int .u64 (x0 : Int), .int .u64 (x1 : Int), .int .u64 (x2 : Int), .int .u64 (x3 : Int), .slice xp xd.length xc] 37) = w8 := ⟨_, rfl⟩
         have o8 : Old wq w8 := by rw [← hw8]; exact (Keeps.refl _ _).alloc _
         have b8 : w8.heap[wq.heap.size]? = some (.cells #[.int .u64 (x0 : Int), .int .u64 (x1 : Int), .int .u64 (x2 : Int), .int .u64 (x3 : Int), .slice xp xd.length xc] 37 (0, 0)) := by rw [← hw8]; exact heap_alloc_new _ _
         obtain ⟨bp, hbp⟩ : ∃ b, wq.heap.size = b := ⟨_, rfl⟩
         rw [hbp] at b8
         obtain ⟨⟨f0, f1, f2, f3, f4⟩, -⟩ := blk5 b8
         have hTF := turn_facts Z.out.1.1 i
         have hWB : WB (Wd.takes (U.sent1 i) (!i) ((U.e i).tick.outs.take q)).1 100 := WB.takes (!i) _ _ (Z.out.1.2.toE i _ rfl)
         have hpi := takes_inv ((U.e i).tick.outs.take q) (U.sent1 i) j (!i) hTF.1 (fun p hp => hTF.2 p (List.mem_of_mem_take hp))
         have hpl : (U.e i).tick.outs[q]? = some ⟨x0, x1, x2, x3, xd⟩ := by rw [← hXp, List.getElem?_map, hx]; rfl
         have htk : (U.e i).tick.outs.take (q + 1) = (U.e i).tick.outs.take q ++ [⟨x0, x1, x2, x3, xd⟩] := by rw [List.take_add_one, hpl]; rfl
         have hpi1 := takes_inv ((U.e i).tick.outs.take (q + 1)) (U.sent1 i) j (!i) hTF.1 (fun p hp => hTF.2 p (List.mem_of_mem_take hp))
         have hsn := takes_snoc (!i) ⟨x0, x1, x2, x3, xd⟩ ((U.e i).tick.outs.take q) (U.sent1 i) hpi.2.1
         have hT : ((Wd.takes (U.sent1 i) (!i) ((U.e i).tick.outs.take q)).1.take (!i) ⟨x0, x1, x2, x3, xd⟩).2 = true := by rw [← hsn, ← htk]; exact hpi1.2.1
         have hpb : ∀ b, (Value.slice xp xd.length xc).ownBlock = some b → ¬ R' (!i) b := fun b hb r => by
          obtain ⟨h1, h2⟩ := hox4.block b hb
          have hr : ownB own' b ∨ R' false b ∨ R' true b := by cases i; exact .inr (.inr r); exact .inr (.inl r)
          rcases gw.1 b hr with e | e
          ·have := HR3.out b e; omega
          ·omega
         have TK := wtake_y (!i) ⟨x0, x1, x2, x3, .slice xp xd.length xc, xd⟩ (g'.oldW o8) ⟨(hpi.1.1 (!i)).born, WB.win hpi.1 (!i), by have := hWB.waits hpi.1 (!i); omega, by have := hWB.next hpi.1 (!i); omega, hox.sees.old o8, hXl _ hmem, hpb, fun s q r => by
           cases s
           ·have h1 := hWB.sent q r; rw [g'.sent, List.length_map] at h1; omega
           ·have h1 := hWB.told hpi.1 q r; rw [g'.told, List.length_map] at h1; omega⟩ hT
         rw [Z.out.2.2.2.1] at TK
         simp only [Pv.cells, Pv.plain] at TK
         have TC := Lib.hid (And.intro TK (And.intro (gw.old o8) (And.intro htk hsn)))
         clear hXo hXp hXl g4 hlo hx hmem g' gw hXq hat hox hox4 o8 b8 hTF hWB hpi hpl htk hpi1 hsn hT hpb TK
         go_wp2_with fail
         refine TC.out.1.mono ?_
         rintro e w9 ⟨rfl, hy9⟩
         have X9 := Lib.hid hy9
         clear hy9
         go_wp2_with fail
         go_roundg (lo - (q + 1))
         case measure => omega
         case rel =>
          obtain ⟨lb9, R9, own9, mb9, F9, V9, X9', g9, gw9⟩ := X9.out
          refine ⟨q + 1, by omega, rfl, by go_num, lb9, R9, own9, mb9, F9, V9, X9', ?_, TC.out.2.1.trans gw9⟩
          rw [TC.out.2.2.1, TC.out.2.2.2]
          exact g9
        ·obtain rfl : q = lo := by omega
         have q3 : decide ((q : Int) < (q : Int)) = false := by simp
         have Y := Lib.hid hy
         clear hy hlt3
         go_wp2_with fail
         go_roundg (2 - (k + 1))
         case measure => have := Z.out.2.2.2.2.2; omega
         case rel =>
          have h2 := Z.out.2.2.2.2.2
          refine ⟨k + 1, by omega, rfl, by go_num, ?_⟩
          rw [half_next _ i k Z.out.2.1, Z.out.2.2.1]
          have hfull : (U.e i).tick.outs.take q = (U.e i).tick.outs := List.take_of_length_le (by rw [← Z4.out.2.1, List.length_map, Z4.out.2.2.2.2]; exact Nat.le_refl _)
          have := Y.out.x
          rw [hfull] at this
          exact this
      ·obtain rfl : k = 2 := by omega
       have X2 := Lib.hid hx
       clear hx hlt2 hk
       go_wp2_with fail
       go_roundg (s4 - (m + 1))
       case measure => omega
       case rel => exact ⟨m + 1, by omega, rfl, by go_num, X2.out⟩
    ·obtain rfl : m = s4 := by omega
     have X2 := Lib.hid hx
     clear hx hlt
     go_wp2_with fail
     go_meet
     case rel => exact ⟨X2.out, trivial⟩
  case rest =>
   obtain ⟨hxE, _⟩ := hcut
   obtain ⟨WE, hWE⟩ : ∃ WE, W.rounds s4 = WE := ⟨_, rfl⟩
   have EN2 := EN.out
   rw [S4.out, hWE] at EN2
   have hWBE : WB WE 100 := by rw [← hWE]; exact IN.out.2.rounds _
   have hIE : Inv WE j := by rw [← hWE]; exact IN.out.1.rounds _
   rw [hWE] at hxE
   clear hWE
   obtain ⟨lb, R, own, mb, F, V, X, g⟩ := hxE
   obtain ⟨wz, rfl⟩ : ∃ wz : World, wz = wc := ⟨_, rfl⟩
   have E := Lib.hid (And.intro g (And.intro EN2 (And.intro hWBE hIE)))
   clear g EN2 hWBE hIE
   go_wp2_with fail
   go_loopg [72] 2 (fun n v72 wm => ∃ k : Nat, k ≤ 2 ∧ n = 2 - k ∧ v72 = .int .i64 (k : Int) ∧ Old wz wm)
   case atStart => exact ⟨0, by omega, rfl, rfl, Keeps.refl _ _⟩
   case round =>
    obtain ⟨k, hk, rfl, rfl, hwo⟩ := hrel
    obtain ⟨wi, rfl⟩ : ∃ wi : World, wi = wr := ⟨_, rfl⟩
    by_cases hlt2 : k < 2
    ·have q2 : decide ((k : Int) < 2) = true := by simp; omega
     have q2' : decide (k < 2) = true := by simp; omega
     obtain ⟨i, hki⟩ : ∃ i, iv i = k := by
      rcases (show k = 0 ∨ k = 1 by omega) with rfl | rfl
      ·exact ⟨false, rfl⟩
      ·exact ⟨true, rfl⟩
     obtain ⟨jn, hjn⟩ : ∃ q, iv (!i) = q := ⟨_, rfl⟩
     have hsub : IntKind.i64.wrap (1 - (k : Int)) = (jn : Int) := by
      have h1 := iv_not i
      rw [hjn, hki] at h1
      rw [← h1, IntKind.wrap_i64]
      have := iv_lt (!i)
      omega
     have p1 : (0 : Int) ≤ (k : Int) := by omega
     have p2 : (k : Int) < 2 := by omega
     have hj1 : (0 : Int) ≤ (jn : Int) := by omega
     have hj2 : (jn : Int) < 2 := by have := iv_lt (!i); omega
     have gi := E.out.1.oldW hwo
     obtain ⟨vp, vc, hvv, _, _⟩ := ((gi.ways i).sees (fun _ => rfl) (by decide)).len
     obtain ⟨vp2, vc2, hvv2, _, _⟩ := ((gi.ways (!i)).sees (fun _ => rfl) (by decide)).len
     obtain ⟨n1, hn1⟩ : ∃ n, (X i).length = n := ⟨_, rfl⟩
     obtain ⟨n2, hn2⟩ : ∃ n, (X (!i)).length = n := ⟨_, rfl⟩
     rw [hn1] at hvv
     rw [hn2] at hvv2
     obtain ⟨l1, hl1⟩ : ∃ l, (WE.e i).life = l := ⟨_, rfl⟩
     obtain ⟨l2, hl2⟩ : ∃ l, (WE.e (!i)).life = l := ⟨_, rfl⟩
     have Z := Lib.hid (And.intro gi (And.intro hki (And.intro hjn (And.intro hvv (And.intro hvv2 (And.intro hl1 (And.intro hl2 (And.intro hwo (And.intro hk hlt2)))))))))
     clear gi hki hjn hvv hvv2 hl1 hl2 hwo hk hlt2 hn1 hn2
     go_upto_region 30 with fail
     go_cut [11, 12] (fun v11 v12 wf => ∃ ba bb, v11 = .pointer (some ⟨ba, 0, none⟩) ∧ v12 = .pointer (some ⟨bb, 0, none⟩) ∧ wf.heap[ba]? = some (.cells #[.pointer (some ⟨lb i, 0, none⟩), .slice vp n1 vc, .int .u64 (l1 : Int)] 66 (0, 0)) ∧ wf.heap[bb]? = some (.cells #[.pointer (some ⟨lb (!i), 0, none⟩), .slice vp2 n2 vc2, .int .u64 (l2 : Int)] 66 (0, 0)) ∧ Old wi wf)
     case first =>
      refine wp_region_g (S := fun w' => w'.heap[wb]? = some (.cells (wdCells lb V WE.e mb).toArray 71 (0, 0))) (M := List.range 17) (by as_aux_lemma => kernel_rfl) ?_
      obtain ⟨wd, hwd⟩ : ∃ wd, wi.drew = wd := ⟨_, rfl⟩
      have KD : Hid (Old wi wd) := Lib.hid (by rw [← hwd]; exact (Keeps.refl (fun _ => False) wi).drew)
      have hS : wd.heap[wb]? = some (.cells (wdCells lb V WE.e mb).toArray 71 (0, 0)) := by rw [← hwd]; exact Z.out.1.blk
      rw [hwd]
      clear hwd
      refine wpAnyG_takeL (i := 0) (oi := _) (v := ?vt0) rfl (by as_aux_lemma => kernel_rfl) (by as_aux_lemma => kernel_rfl) (by as_aux_lemma => kernel_rfl) (by as_aux_lemma => kernel_rfl) (fun _ _ _ h => h) (Or.inl ⟨by rfl, ?yt0⟩) hS ?rt0
      case yt0 => (intro W hSw; obtain ⟨⟨c0', c1', c2'⟩, -, -, -⟩ := wd_cells hSw i; rw [Z.out.2.1] at c0' c1' c2'; rw [Z.out.2.2.2.1] at c1'; rw [Z.out.2.2.2.2.2.1] at c2'; obtain ⟨⟨a0', a1', a2'⟩, -, -, -⟩ := wd_cells hSw (!i); rw [Z.out.2.2.1] at a0' a1' a2'; rw [Z.out.2.2.2.2.1] at a1'; rw [Z.out.2.2.2.2.2.2.1] at a2'; go_simp; try with_reducible rfl)
      try simp only [Act.put, List.setIfInBounds_toArray, List.set_cons_zero, List.set_cons_succ]
      refine wpAnyG_takeL (i := 1) (oi := _) (v := ?vt1) rfl (by as_aux_lemma => kernel_rfl) (by as_aux_lemma => kernel_rfl) (by as_aux_lemma => kernel_rfl) (by as_aux_lemma => kernel_rfl) (fun _ _ _ h => h) (Or.inl ⟨by rfl, ?yt1⟩) hS ?rt1
      case yt1 => (intro W hSw; obtain ⟨⟨c0', c1', c2'⟩, -, -, -⟩ := wd_cells hSw i; rw [Z.out.2.1] at c0' c1' c2'; rw [Z.out.2.2.2.1] at c1'; rw [Z.out.2.2.2.2.2.1] at c2'; obtain ⟨⟨a0', a1', a2'⟩, -, -, -⟩ := wd_cells hSw (!i); rw [Z.out.2.2.1] at a0' a1' a2'; rw [Z.out.2.2.2.2.1] at a1'; rw [Z.out.2.2.2.2.2.2.1] at a2'; go_simp; try with_reducible rfl)
      try simp only [Act.put, List.setIfInBounds_toArray, List.set_cons_zero, List.set_cons_succ]
      refine wpAnyG_takeL (i := 2) (oi := _) (v := ?vt2) rfl (by as_aux_lemma => kernel_rfl) (by as_aux_lemma => kernel_rfl) (by as_aux_lemma => kernel_rfl) (by as_aux_lemma => kernel_rfl) (fun _ _ _ h => h) (Or.inl ⟨by rfl, ?yt2⟩) hS ?rt2
      case yt2 => (intro W hSw; obtain ⟨⟨c0', c1', c2'⟩, -, -, -⟩ := wd_cells hSw i; rw [Z.out.2.1] at c0' c1' c2'; rw [Z.out.2.2.2.1] at c1'; rw [Z.out.2.2.2.2.2.1] at c2'; obtain ⟨⟨a0', a1', a2'⟩, -, -, -⟩ := wd_cells hSw (!i); rw [Z.out.2.2.1] at a0' a1' a2'; rw [Z.out.2.2.2.2.1] at a1'; rw [Z.out.2.2.2.2.2.2.1] at a2'; go_simp; try with_reducible rfl)
      try simp only [Act.put, List.setIfInBounds_toArray, List.set_cons_zero, List.set_cons_succ]
      refine wpAnyG_takeL (i := 3) (oi := _) (v := ?vt3) rfl (by as_aux_lemma => kernel_rfl) (by as_aux_lemma => kernel_rfl) (by as_aux_lemma => kernel_rfl) (by as_aux_lemma => kernel_rfl) (fun _ _ _ h => h) (Or.inl ⟨by rfl, ?yt3⟩) hS ?rt3
      case yt3 => (intro W hSw; obtain ⟨⟨c0', c1', c2'⟩, -, -, -⟩ := wd_cells hSw i; rw [Z.out.2.1] at c0' c1' c2'; rw [Z.out.2.2.2.1] at c1'; rw [Z.out.2.2.2.2.2.1] at c2'; obtain ⟨⟨a0', a1', a2'⟩, -, -, -⟩ := wd_cells hSw (!i); rw [Z.out.2.2.1] at a0' a1' a2'; rw [Z.out.2.2.2.2.1] at a1'; rw [Z.out.2.2.2.2.2.2.1] at a2'; go_simp; try with_reducible rfl)
      try simp only [Act.put, List.setIfInBounds_toArray, List.set_cons_zero, List.set_cons_succ]
      refine wpAnyG_takeL (i := 4) (oi := _) (v := ?vt4) rfl (by as_aux_lemma => kernel_rfl) (by as_aux_lemma => kernel_rfl) (by as_aux_lemma => kernel_rfl) (by as_aux_lemma => kernel_rfl) (fun _ _ _ h => h) (Or.inl ⟨by rfl, ?yt4⟩) hS ?rt4
      case yt4 => (intro W hSw; obtain ⟨⟨c0', c1', c2'⟩, -, -, -⟩ := wd_cells hSw i; rw [Z.out.2.1] at c0' c1' c2'; rw [Z.out.2.2.2.1] at c1'; rw [Z.out.2.2.2.2.2.1] at c2'; obtain ⟨⟨a0', a1', a2'⟩, -, -, -⟩ := wd_cells hSw (!i); rw [Z.out.2.2.1] at a0' a1' a2'; rw [Z.out.2.2.2.2.1] at a1'; rw [Z.out.2.2.2.2.2.2.1] at a2'; go_simp; try with_reducible rfl)
      try simp only [Act.put, List.setIfInBounds_toArray, List.set_cons_zero, List.set_cons_succ]
      refine wpAnyG_takeL (i := 5) (oi := _) (v := ?vt5) rfl (by as_aux_lemma => kernel_rfl) (by as_aux_lemma => kernel_rfl) (by as_aux_lemma => kernel_rfl) (by as_aux_lemma => kernel_rfl) (fun _ _ _ h => h) (Or.inl ⟨by rfl, ?yt5⟩) hS ?rt5
      case yt5 => (intro W hSw; obtain ⟨⟨c0', c1', c2'⟩, -, -, -⟩ := wd_cells hSw i; rw [Z.out.2.1] at c0' c1' c2'; rw [Z.out.2.2.2.1] at c1'; rw [Z.out.2.2.2.2.2.1] at c2'; obtain ⟨⟨a0', a1', a2'⟩, -, -, -⟩ := wd_cells hSw (!i); rw [Z.out.2.2.1] at a0' a1' a2'; rw [Z.out.2.2.2.2.1] at a1'; rw [Z.out.2.2.2.2.2.2.1] at a2'; go_simp; try with_reducible rfl)
      try simp only [Act.put, List.setIfInBounds_toArray, List.set_cons_zero, List.set_cons_succ]
      refine wpAnyG_takeL (i := 6) (oi := _) (v := ?vt6) rfl (by as_aux_lemma => kernel_rfl) (by as_aux_lemma => kernel_rfl) (by as_aux_lemma => kernel_rfl) (by as_aux_lemma => kernel_rfl) (fun _ _ _ h => h) (Or.inl ⟨by rfl, ?yt6⟩) hS ?rt6
      case yt6 => (intro W hSw; obtain ⟨⟨c0', c1', c2'⟩, -, -, -⟩ := wd_cells hSw i; rw [Z.out.2.1] at c0' c1' c2'; rw [Z.out.2.2.2.1] at c1'; rw [Z.out.2.2.2.2.2.1] at c2'; obtain ⟨⟨a0', a1', a2'⟩, -, -, -⟩ := wd_cells hSw (!i); rw [Z.out.2.2.1] at a0' a1' a2'; rw [Z.out.2.2.2.2.1] at a1'; rw [Z.out.2.2.2.2.2.2.1] at a2'; go_simp; try with_reducible rfl)
      try simp only [Act.put, List.setIfInBounds_toArray, List.set_cons_zero, List.set_cons_succ]
      refine wpAnyG_takeL (i := 7) (oi := _) (v := ?vt7) rfl (by as_aux_lemma => kernel_rfl) (by as_aux_lemma => kernel_rfl) (by as_aux_lemma => kernel_rfl) (by as_aux_lemma => kernel_rfl) (fun _ _ _ h => h) (Or.inl ⟨by rfl, ?yt7⟩) hS ?rt7
      case yt7 => (intro W hSw; obtain ⟨⟨c0', c1', c2'⟩, -, -, -⟩ := wd_cells hSw i; rw [Z.out.2.1] at c0' c1' c2'; rw [Z.out.2.2.2.1] at c1'; rw [Z.out.2.2.2.2.2.1] at c2'; obtain ⟨⟨a0', a1', a2'⟩, -, -, -⟩ := wd_cells hSw (!i); rw [Z.out.2.2.1] at a0' a1' a2'; rw [Z.out.2.2.2.2.1] at a1'; rw [Z.out.2.2.2.2.2.2.1] at a2'; go_simp; try with_reducible rfl)
      try simp only [Act.put, List.setIfInBounds_toArray, List.set_cons_zero, List.set_cons_succ]
      refine wpAnyG_takeL (i := 8) (oi := _) (v := ?vt8) rfl (by as_aux_lemma => kernel_rfl) (by as_aux_lemma => kernel_rfl) (by as_aux_lemma => kernel_rfl) (by as_aux_lemma => kernel_rfl) (fun _ _ _ h => h) (Or.inl ⟨by rfl, ?yt8⟩) hS ?rt8
      case yt8 => (intro W hSw; obtain ⟨⟨c0', c1', c2'⟩, -, -, -⟩ := wd_cells hSw i; rw [Z.out.2.1] at c0' c1' c2'; rw [Z.out.2.2.2.1] at c1'; rw [Z.out.2.2.2.2.2.1] at c2'; obtain ⟨⟨a0', a1', a2'⟩, -, -, -⟩ := wd_cells hSw (!i); rw [Z.out.2.2.1] at a0' a1' a2'; rw [Z.out.2.2.2.2.1] at a1'; rw [Z.out.2.2.2.2.2.2.1] at a2'; go_simp; try with_reducible rfl)
      try simp only [Act.put, List.setIfInBounds_toArray, List.set_cons_zero, List.set_cons_succ]
      refine wpAnyG_takeL (i := 9) (oi := _) (v := ?vt9) rfl (by as_aux_lemma => kernel_rfl) (by as_aux_lemma => kernel_rfl) (by as_aux_lemma => kernel_rfl) (by as_aux_lemma => kernel_rfl) (fun _ _ _ h => h) (Or.inl ⟨by rfl, ?yt9⟩) hS ?rt9
      case yt9 => (intro W hSw; obtain ⟨⟨c0', c1', c2'⟩, -, -, -⟩ := wd_cells hSw i; rw [Z.out.2.1] at c0' c1' c2'; rw [Z.out.2.2.2.1] at c1'; rw [Z.out.2.2.2.2.2.1] at c2'; obtain ⟨⟨a0', a1', a2'⟩, -, -, -⟩ := wd_cells hSw (!i); rw [Z.out.2.2.1] at a0' a1' a2'; rw [Z.out.2.2.2.2.1] at a1'; rw [Z.out.2.2.2.2.2.2.1] at a2'; go_simp; try with_reducible rfl)
      try simp only [Act.put, List.setIfInBounds_toArray, List.set_cons_zero, List.set_cons_succ]
      refine wpAnyG_takeL (i := 10) (oi := _) (v := ?vt10) rfl (by as_aux_lemma => kernel_rfl) (by as_aux_lemma => kernel_rfl) (by as_aux_lemma => kernel_rfl) (by as_aux_lemma => kernel_rfl) (fun _ _ _ h => h) (Or.inl ⟨by rfl, ?yt10⟩) hS ?rt10
      case yt10 => (intro W hSw; obtain ⟨⟨c0', c1', c2'⟩, -, -, -⟩ := wd_cells hSw i; rw [Z.out.2.1] at c0' c1' c2'; rw [Z.out.2.2.2.1] at c1'; rw [Z.out.2.2.2.2.2.1] at c2'; obtain ⟨⟨a0', a1', a2'⟩, -, -, -⟩ := wd_cells hSw (!i); rw [Z.out.2.2.1] at a0' a1' a2'; rw [Z.out.2.2.2.2.1] at a1'; rw [Z.out.2.2.2.2.2.2.1] at a2'; go_simp; try with_reducible rfl)
      try simp only [Act.put, List.setIfInBounds_toArray, List.set_cons_zero, List.set_cons_succ]
      refine wpAnyG_takeL (i := 11) (oi := _) (v := ?vt11) rfl (by as_aux_lemma => kernel_rfl) (by as_aux_lemma => kernel_rfl) (by as_aux_lemma => kernel_rfl) (by as_aux_lemma => kernel_rfl) (fun _ _ _ h => h) (Or.inl ⟨by rfl, ?yt11⟩) hS ?rt11
      case yt11 => (intro W hSw; obtain ⟨⟨c0', c1', c2'⟩, -, -, -⟩ := wd_cells hSw i; rw [Z.out.2.1] at c0' c1' c2'; rw [Z.out.2.2.2.1] at c1'; rw [Z.out.2.2.2.2.2.1] at c2'; obtain ⟨⟨a0', a1', a2'⟩, -, -, -⟩ := wd_cells hSw (!i); rw [Z.out.2.2.1] at a0' a1' a2'; rw [Z.out.2.2.2.2.1] at a1'; rw [Z.out.2.2.2.2.2.2.1] at a2'; go_simp; try with_reducible rfl)
      try simp only [Act.put, List.setIfInBounds_toArray, List.set_cons_zero, List.set_cons_succ]
      refine wpAnyG_takeL (i := 12) (oi := _) (v := ?vt12) rfl (by as_aux_lemma => kernel_rfl) (by as_aux_lemma => kernel_rfl) (by as_aux_lemma => kernel_rfl) (by as_aux_lemma => kernel_rfl) (fun _ _ _ h => h) (Or.inl ⟨by rfl, ?yt12⟩) hS ?rt12
      case yt12 => (intro W hSw; obtain ⟨⟨c0', c1', c2'⟩, -, -, -⟩ := wd_cells hSw i; rw [Z.out.2.1] at c0' c1' c2'; rw [Z.out.2.2.2.1] at c1'; rw [Z.out.2.2.2.2.2.1] at c2'; obtain ⟨⟨a0', a1', a2'⟩, -, -, -⟩ := wd_cells hSw (!i); rw [Z.out.2.2.1] at a0' a1' a2'; rw [Z.out.2.2.2.2.1] at a1'; rw [Z.out.2.2.2.2.2.2.1] at a2'; go_simp; try with_reducible rfl)
      try simp only [Act.put, List.setIfInBounds_toArray, List.set_cons_zero, List.set_cons_succ]
      obtain ⟨u1, hu1⟩ : ∃ u1, wd.alloc (.cells #[.pointer none, .slice none 0 0, .int .u64 0] 66) = u1 := ⟨_, rfl⟩
      obtain ⟨u2, hu2⟩ : ∃ u2, u1.alloc (.cells #[.pointer none, .slice none 0 0, .int .u64 0] 66) = u2 := ⟨_, rfl⟩
      obtain ⟨b1, hb1⟩ : ∃ b, wd.heap.size = b := ⟨_, rfl⟩
      obtain ⟨b2, hb2⟩ : ∃ b, u1.heap.size = b := ⟨_, rfl⟩
      have hb12 : b1 < b2 := by rw [← hb2, ← hu1, ← hb1]; simp
      have hne : b1 ≠ b2 := by omega
      have k1 : Old wd u1 := by rw [← hu1]; exact (Keeps.refl _ _).alloc _
      have k2 : Old u1 u2 := by rw [← hu2]; exact (Keeps.refl _ _).alloc _
      have h11 : u1.heap[b1]? = some (.cells #[.pointer none, .slice none 0 0, .int .u64 0] 66 (0, 0)) := by rw [← hu1, ← hb1]; exact heap_alloc_new _ _
      have h12 := (k2.block _ (lt_of_block h11) (fun f => f)).trans h11
      have h22 : u2.heap[b2]? = some (.cells #[.pointer none, .slice none 0 0, .int .u64 0] 66 (0, 0)) := by rw [← hu2, ← hb2]; exact heap_alloc_new _ _
      have hS1 : u1.heap[wb]? = some (.cells (wdCells lb V WE.e mb).toArray 71 (0, 0)) := (k1.block _ (lt_of_block hS) (fun f => f)).trans hS
      have hS2 : u2.heap[wb]? = some (.cells (wdCells lb V WE.e mb).toArray 71 (0, 0)) := (k2.block _ (lt_of_block hS1) (fun f => f)).trans hS1
      have hwbl : wb < b1 := by rw [← hb1]; exact lt_of_block hS
      have hwbl2 : wb < b2 := by rw [← hb2]; exact lt_of_block hS1
      obtain ⟨⟨r0, r1, r2⟩, ⟨f0, f1, f2⟩⟩ := blk3 h12
      obtain ⟨⟨s0, s1, s2⟩, ⟨g0, g1, g2⟩⟩ := blk3 h22
      have hne' := hne.symm
      have SL := Lib.hid (sides_laid hne h12 h22 (.pointer (some ⟨lb i, 0, none⟩)) (.slice vp n1 vc) (.int .u64 (l1 : Int)) (.pointer (some ⟨lb (!i), 0, none⟩)) (.slice vp2 n2 vc2) (.int .u64 (l2 : Int)))
      have SR := Lib.hid (sides_laid hne.symm h22 h12 (.pointer (some ⟨lb i, 0, none⟩)) (.slice vp n1 vc) (.int .u64 (l1 : Int)) (.pointer (some ⟨lb (!i), 0, none⟩)) (.slice vp2 n2 vc2) (.int .u64 (l2 : Int)))
      have q1 := (Keeps.block (S := fun q => q = b1) (setAt (setAt (setAt (Keeps.refl _ u2) 0 (.pointer (some ⟨lb i, 0, none⟩))) 1 (.slice vp n1 vc)) 2 (.int .u64 (l1 : Int))) wb (lt_of_block hS2) (by omega)).trans hS2
      have q2 := (Keeps.block (S := fun q => q = b2) (setAt (setAt (setAt (Keeps.refl _ u2) 0 (.pointer (some ⟨lb i, 0, none⟩))) 1 (.slice vp n1 vc)) 2 (.int .u64 (l1 : Int))) wb (lt_of_block hS2) (by omega)).trans hS2
      have q3 := (SL.out.2.2.block wb (lt_of_block hS2) (by omega)).trans hS2
      have q4 := (SR.out.2.2.block wb (lt_of_block hS2) (by omega)).trans hS2
      have HK2 := Lib.hid (And.intro (k1.trans k2) (And.intro hb1 (And.intro hb2 (And.intro hwbl (And.intro hb12 (And.intro hS2 (And.intro q1 (And.intro q2 (And.intro q3 q4)))))))))
      clear q1 q2 q3 q4
      clear k1 k2 h11 h12 h22 hwbl hwbl2 hb12
      refine wpAnyG_ready (rs := [13, 14]) (by as_aux_lemma => kernel_rfl) (by simp) ?_
      refine AllReadyG.cons (o := _) rfl (fun K hK => ?_) (AllReadyG.cons (o := _) rfl (fun K hK => ?_) AllReadyG.nil)
      ·skip
       go_simp
       refine hK.out _ _ (fun _ => hS1) ?_
       clear hK K
       try simp only [Act.put, List.setIfInBounds_toArray, List.set_cons_zero, List.set_cons_succ]
       refine wpAnyG_onlyL (i := 14) (o := _) (by as_aux_lemma => kernel_rfl) rfl (fun K hK => ?_)
       go_simp
       refine hK.out _ _ (fun _ => hS2) ?_
       clear hK K
       try simp only [Act.put, List.setIfInBounds_toArray, List.set_cons_zero, List.set_cons_succ]
       refine wpAnyG_onlyL (i := 15) (o := _) (by as_aux_lemma => kernel_rfl) rfl (fun K hK => ?_)
       go_simp
       refine hK.out _ _ (fun _ => HK2.out.2.2.2.2.2.2.1) ?_
       clear hK K
       try simp only [Act.put, List.setIfInBounds_toArray, List.set_cons_zero, List.set_cons_succ]
       refine wpAnyG_onlyL (i := 16) (o := _) (by as_aux_lemma => kernel_rfl) rfl (fun K hK => ?_)
       go_simp
       refine hK.out _ _ (fun _ => HK2.out.2.2.2.2.2.2.2.2.1) ?_
       clear hK K
       try simp only [Act.put, List.setIfInBounds_toArray, List.set_cons_zero, List.set_cons_succ]
       refine wpAnyG_done (by as_aux_lemma => kernel_rfl) ?_ _
       clear hS hS1 hS2
       go_wp2_with fail
       go_meet
       case rel => exact ⟨b1, b2, rfl, rfl, SL.out.1, SL.out.2.1, (KD.out.trans HK2.out.1).then SL.out.2.2 (fun q hq e => by have := HK2.out.2.1; have := HK2.out.2.2.1; have := KD.out.size; have := HK2.out.2.2.2.2.1; omega)⟩
      ·skip
       go_simp
       refine hK.out _ _ (fun _ => hS1) ?_
       clear hK K
       try simp only [Act.put, List.setIfInBounds_toArray, List.set_cons_zero, List.set_cons_succ]
       refine wpAnyG_onlyL (i := 13) (o := _) (by as_aux_lemma => kernel_rfl) rfl (fun K hK => ?_)
       go_simp
       refine hK.out _ _ (fun _ => hS2) ?_
       clear hK K
       try simp only [Act.put, List.setIfInBounds_toArray, List.set_cons_zero, List.set_cons_succ]
       refine wpAnyG_onlyL (i := 15) (o := _) (by as_aux_lemma => kernel_rfl) rfl (fun K hK => ?_)
       go_simp
       refine hK.out _ _ (fun _ => HK2.out.2.2.2.2.2.2.2.1) ?_
       clear hK K
       try simp only [Act.put, List.setIfInBounds_toArray, List.set_cons_zero, List.set_cons_succ]
       refine wpAnyG_onlyL (i := 16) (o := _) (by as_aux_lemma => kernel_rfl) rfl (fun K hK => ?_)
       go_simp
       refine hK.out _ _ (fun _ => HK2.out.2.2.2.2.2.2.2.2.2) ?_
       clear hK K
       try simp only [Act.put, List.setIfInBounds_toArray, List.set_cons_zero, List.set_cons_succ]
       refine wpAnyG_done (by as_aux_lemma => kernel_rfl) ?_ _
       clear hS hS1 hS2
       go_wp2_with fail
       go_meet
       case rel => exact ⟨b2, b1, rfl, rfl, SR.out.1, SR.out.2.1, (KD.out.trans HK2.out.1).then SR.out.2.2 (fun q hq e => by have := HK2.out.2.1; have := HK2.out.2.2.1; have := KD.out.size; have := HK2.out.2.2.2.2.1; omega)⟩
     case rest =>
      obtain ⟨ba, bb, rfl, rfl, hba, hbb, kc⟩ := hcut
      obtain ⟨gi, hki, hjn, hvv, hvv2, hl1, hl2, hwo, hk, hlt2⟩ := Z.out
      obtain ⟨⟨r0, r1, r2⟩, -⟩ := blk3 hba
      obtain ⟨⟨s0, s1, s2⟩, -⟩ := blk3 hbb
      obtain ⟨w5, hw5⟩ : ∃ w5, wc.alloc (.cells #[.int .u64 (l1 : Int), .int .u64 (l2 : Int)] 74) = w5 := ⟨_, rfl⟩
      have k5 : Old wc w5 := by rw [← hw5]; exact (Keeps.refl _ _).alloc _
      have b5 : w5.heap[wc.heap.size]? = some (.cells #[.int .u64 (l1 : Int), .int .u64 (l2 : Int)] 74 (0, 0)) := by rw [← hw5]; exact heap_alloc_new _ _
      obtain ⟨bs, hbs⟩ : ∃ b, wc.heap.size = b := ⟨_, rfl⟩
      rw [hbs] at b5
      have g5 := gi.oldW (kc.trans k5)
      have KK := Lib.hid (hwo.trans (kc.trans k5))
      clear kc hvv hvv2
      go_upto_region 32 with fail
      clear r0 r1 r2 s0 s1 s2 hw5 hbs
      obtain ⟨⟨r0, r1, r2⟩, -⟩ := blk3 ((k5.block _ (lt_of_block hba) (fun f => f)).trans hba)
      obtain ⟨⟨s0, s1, s2⟩, -⟩ := blk3 ((k5.block _ (lt_of_block hbb) (fun f => f)).trans hbb)
      obtain ⟨⟨t0, t1⟩, -⟩ := blk2 b5
      obtain ⟨-, d6, -, -⟩ := wd_cells g5.blk i
      obtain ⟨-, -, d8, -⟩ := wd_cells g5.blk (!i)
      obtain ⟨ms, hms⟩ : ∃ x, mb false i = x := ⟨_, rfl⟩
      obtain ⟨mt, hmt⟩ : ∃ x, mb true (!i) = x := ⟨_, rfl⟩
      rw [hms, hki] at d6
      rw [hmt, hjn] at d8
      obtain ⟨hp1, hp2, hp3, hp4⟩ := E.out.2.1 i
      rw [hl2] at hp1
      rw [hl1, hl2] at hp4
      have e1 := congrArg List.length (g5.sent i (l1, l2))
      have e2 := congrArg List.length (g5.told (!i) (l2, l1))
      rw [List.length_map] at e1 e2
      obtain ⟨p6, c6, hv6, _, _⟩ := ((g5.rows false i (l1, l2)).sees (fun _ => rfl) (by decide)).len
      obtain ⟨p7, c7, hv7, _, _⟩ := ((g5.rows true (!i) (l2, l1)).sees (fun _ => rfl) (by decide)).len
      rw [← e1] at hv6
      rw [← e2, ← hp4] at hv7
      obtain ⟨nn, hnn⟩ : ∃ n, (WE.sent i (l1, l2)).length = n := ⟨_, rfl⟩
      rw [hnn] at hv6 hv7
      have m1 := g5.maps false i
      have m2 := g5.maps true (!i)
      have L7 : ∀ n, (Instr.lookup 68 (.map (some ms)) (.agg #[.int .u64 (l1 : Int), .int .u64 (l2 : Int)]) false).run Try.prog (w5.drewN n) = .ok (.slice p6 nn c6) (w5.drewN n) := fun n => by
       have := lookup_ses (m1.keeps ((Keeps.refl (fun _ => False) w5).drewN n) (fun f => f)) (l1, l2)
       rw [hms, hv6] at this
       exact this
      have L8 : ∀ n, (Instr.lookup 68 (.map (some mt)) (.agg #[.int .u64 (l2 : Int), .int .u64 (l1 : Int)]) false).run Try.prog (w5.drewN n) = .ok (.slice p7 nn c7) (w5.drewN n) := fun n => by
       have := lookup_ses (m2.keeps ((Keeps.refl (fun _ => False) w5).drewN n) (fun f => f)) (l2, l1)
       rw [hmt, hv7] at this
       exact this
      have C1 := Lib.hid (fun n => (lk_peer ((g5.duo.old ((Keeps.refl (fun _ => False) w5).drewN n)) i)).mono (fun _ _ h => And.intro h.1 h.2.symm))
      have C2 := Lib.hid (fun n => (lk_waiting ((g5.duo.old ((Keeps.refl (fun _ => False) w5).drewN n)) i)).mono (fun _ _ h => And.intro h.1 h.2.symm))
      have C3 := Lib.hid (fun n => (lk_flying ((g5.duo.old ((Keeps.refl (fun _ => False) w5).drewN n)) i)).mono (fun _ _ h => And.intro h.1 h.2.symm))
      rw [hp1] at C1
      rw [hp2] at C2
      rw [hp3] at C3
      simp only [List.length_nil] at C2 C3
      have HK3 := Lib.hid (And.intro hk hlt2)
      clear gi hki hjn hl1 hl2 hwo hk hlt2 hba hbb k5 b5 g5 hms hmt hp1 hp2 hp3 hp4 e1 e2 hv6 hv7 hnn m1 m2
      go_quiet (first | (go_at_call 23; refine Calls.quiet_of_same (C1.out _)) | (go_at_call 24; refine Calls.quiet_of_same (C2.out _)) | (go_at_call 25; refine Calls.quiet_of_same (C3.out _)))
      go_wp2_with fail
      go_roundg (2 - (k + 1))
      case measure => have := HK3.out.2; omega
      case rel =>
       have := HK3.out.2
       exact ⟨k + 1, by omega, rfl, by go_num, KK.out.trans ((Keeps.refl (fun _ => False) w5).drewN _)⟩
    ·obtain rfl : k = 2 := by omega
     have HO := Lib.hid (hwo)
     clear hwo hlt2 hk
     go_wp2_with fail
     go_ret
     exact ⟨rfl, Old.below ((O0.out.trans E.out.1.old).trans HO.out)⟩
end Go.Proofs.Ytllnlimbfoingaa
