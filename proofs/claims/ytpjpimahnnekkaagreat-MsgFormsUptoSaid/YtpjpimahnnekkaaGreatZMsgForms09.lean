/- DERIVED. MsgForms, walked. · DERIVED. MsgForms, from how its arguments read. -/
import Derived.Test.YtpjpimahnnekkaaGreatZMsgForms08
import Derived.Test.YtpjpimahnnekkaaGreatZMsgForms03
import Derived.Test.YtpjpimahnnekkaaGreatYpMsgForms37
import Derived.Test.YtpjpimahnnekkaaGreatYpMsgForms38
import Derived.Test.YtpjpimahnnekkaaGreatYpMsgForms25
import Derived.Deep.DeepCutAuto
import Derived.Test.YtpjpimahnnekkaaGreatRows
import Derived.ProofKit
import Derived.OpenShut
import Derived.JoinedCond
import Derived.ChangeOld
set_option maxRecDepth 100000
set_option maxHeartbeats 8000000
namespace Go.Proofs.YtpjpimahnnekkaaGreat
section
open Go.RowKit Go.Great
attribute [-go_sem] loadVar storeVar
theorem mforms_any (m n : Ms) (bv : Value) (l : List UInt8) (pub : Int) (w : World) (hm : m.fine w) (hn : n.fine w) (hb : Sees w bv l) (hl : l.length ≤ 900000000) (hp : I64 pub) :
  Calls Tryz.prog 3 #[.agg m.cells.toArray, .agg n.cells.toArray, bv, .int .i64 pub] w fun e w' => e = .returned (.bool true) ∧ Old w w' := by
 have O1 := Lib.hid (fun W (o : Old w W) => ours_any m W (hm.old o))
 have O2 := Lib.hid (fun W (o : Old w W) => ours_any n W (hn.old o))
 have P1 := Lib.hid (fun W (o : Old w W) => msg_put_any m W (hm.old o))
 have P2 := Lib.hid (fun W (o : Old w W) => ref21_put_any m W (hm.old o))
 have T2 := Lib.hid (fun W (o : Old w W) => ref21_take_any bv l W (hb.old o))
 have M1 := fun W (o : Old w W) => msg_may_any m W (hm.old o)
 have M2 := fun W (o : Old w W) => ref21_may_any m W (hm.old o)
 have S1 := fun W (o : Old w W) => msg_same_any m n W (hm.old o) (hn.old o)
 have S2 := fun W (o : Old w W) => ref21_same_any m n W (hm.old o) (hn.old o)
 generalize sameM m.plain n.plain = ts at S1 S2
 have HS := Lib.hid (And.intro S1 S2)
 have H1 := Lib.hid (fun W => home_any pub W hp)
 have H2 := Lib.hid (fun W => ref21_home_any pub W hp)
 have MP := Lib.hid (And.intro M1 M2)
 clear M1 M2 S1 S2
 obtain ⟨a2, c2, rfl, _, hmx⟩ := hb.len
 obtain ⟨W0, hW0⟩ : ∃ W0, (w.alloc (.cells m.cells.toArray 37)).alloc (.cells n.cells.toArray 37) = W0 := ⟨_, rfl⟩
 have k0 : Old w W0 := by rw [← hW0]; exact ((Keeps.refl _ _).alloc _).alloc _
 obtain ⟨b0, b1⟩ := two_blocks w (.cells m.cells.toArray 37) (.cells n.cells.toArray 37)
 rw [hW0] at b0 b1
 have B := Lib.hid (And.intro k0 (And.intro b0 b1))
 have HB := Lib.hid (And.intro (hb.old k0) hb)
 have HN := Lib.hid (show ([] : List UInt8).length + l.length ≤ 1152921504606 by simp; omega)
 have hl63 : l.length ≤ 9223372036854775807 := by omega
 have hl9 := Lib.hid (show l.length ≤ 1000000000 by omega)
 clear hm hn hb k0 b0 b1 hmx hl hp
 go_enter Tryz.func3, Tryz.ntmps3
 go_upto_region 2 with (at_builtin; (refine wpList_append_sees rfl _ _ rfl W0.heap.size (.slice none 0 0) [] rfl (Owns.nil _ _) _ l rfl HB.out.1 HN.out (Nat.le_refl _) ?_; intro v1 w1 ho1 hg1; have A1 := Lib.hid (And.intro ho1 hg1); clear ho1 hg1))
 have ho1 : Owns w1 W0.heap.size v1 l := A1.out.1
 have k1 : Old W0 w1 := (Keeps.refl (fun _ => False) W0).grown A1.out.2 (fun k hk _ => by cases hk)
 obtain ⟨p1, d1, e1, _, _⟩ := ho1.sees.len
 subst e1
 have KM := Lib.hid (And.intro ho1 k1)
 have LM := Lib.hid (fun W (o : Old W0 W) => (load_whole ((o.block _ (lt_of_heap B.out.2.1) (fun f => f)).trans B.out.2.1) (by simp [Ms.cells]) Tryz.underlying37 (by kernel_rfl) : (loadVar 37 ⟨w.heap.size, 0, none⟩).run Tryz.prog W = .ok (.agg m.cells.toArray) W))
 have LN := Lib.hid (fun W (o : Old W0 W) => (load_whole ((o.block _ (lt_of_heap B.out.2.2) (fun f => f)).trans B.out.2.2) (by simp [Ms.cells]) Tryz.underlying37 (by kernel_rfl) : (loadVar 37 ⟨w.heap.size + 1, 0, none⟩).run Tryz.prog W = .ok (.agg n.cells.toArray) W))
 have g1 := LM.out w1 k1
 clear ho1 k1 A1
 go_wp2_with fail
 refine (O1.out _ (B.out.1.trans KM.out.2)).mono ?_
 rintro e x1 ⟨rfl, kx⟩
 have X1 := Lib.hid (KM.out.2.trans kx)
 have Y1 := Lib.hid kx
 clear kx g1
 go_wp2_with fail
 refine (P1.out _ (B.out.1.trans X1.out)).mono ?_
 rintro e w2 ⟨p2, d2, z2, L2, rfl, k2, o2, hL2, hz2⟩
 have R2 := Lib.hid (And.intro (X1.out.trans k2) (And.intro o2.sees (And.intro hL2 (And.intro hz2 (Y1.out.trans k2)))))
 have B2 := Lib.hid (fun g (h : (Value.slice p2 L2.length d2).ownBlock = some g) => (Nat.le_trans Y1.out.size (o2.block g h).1 : w1.heap.size ≤ g))
 have g2 := LM.out w2 (X1.out.trans k2)
 clear k2 o2 hL2 hz2
 go_wp2_with fail
 refine (P2.out _ (B.out.1.trans R2.out.1)).mono ?_
 rintro e w3 ⟨p3, d3, z3, L3, rfl, k3, o3, hL3, hz3⟩
 obtain rfl : L3 = L2 := hL3.trans R2.out.2.2.1.symm
 obtain rfl : z3 = z2 := hz3.trans R2.out.2.2.2.1.symm
 have B3 := Lib.hid (fun g (h : (Value.slice p3 L3.length d3).ownBlock = some g) => (Nat.le_trans R2.out.2.2.2.2.size (o3.block g h).1 : w1.heap.size ≤ g))
 have R3 := Lib.hid (And.intro (R2.out.1.trans k3) (And.intro (R2.out.2.1.old k3) (And.intro o3.sees (R2.out.2.2.2.2.trans k3))))
 have T1 := Lib.hid (msg_take_any _ l w3 (KM.out.1.sees.old (R2.out.2.2.2.2.trans k3)) hl9.out)
 clear k3 o3 hL3 hz3 g2
 go_wp2_with fail
 refine T1.out.mono ?_
 rintro e w4 ⟨mu, zu, rfl, k4, hou, hru⟩
 obtain ⟨Wb, hWb⟩ : ∃ W, w4.alloc (.cells zeroMs.cells.toArray 44) = W := ⟨_, rfl⟩
 have bb : MAt Wb w4.heap.size zeroMs := by rw [← hWb]; exact heap_alloc_new _ _
 have ob : Old w4 Wb := by rw [← hWb]; exact (Keeps.refl _ _).alloc _
 obtain ⟨W5, hst5, b5, kb5⟩ := store_msg bb mu hou.one
 have o5 : Old w4 W5 := ob.then kb5 (fun i hi e => by omega)
 change w4.alloc (.cells #[.int .i64 0, .int .i64 0, .int .u64 0, .bool false, .slice none 0 0, .int .u64 0, .int .u64 0, .string ⟨#[]⟩, .slice none 0 0, .int .i64 0, .int .u64 0, .int .u64 0, .int .u64 0, .int .u64 0, .int .u64 0, .slice none 0 0, .slice none 0 0, .bool false] 44) = Wb at hWb
 have k5 : Old w3 W5 := k4.trans o5
 have MN := Lib.hid (KM.out.1.old (R3.out.2.2.2.trans k5))
 have MBk := Lib.hid (fun g (h : (Value.slice p1 l.length d1).ownBlock = some g) => (And.intro (KM.out.1.block g h).1 (And.intro (KM.out.1.block g h).2 (Nat.lt_of_lt_of_le (KM.out.1.block g h).2 R3.out.2.2.2.size)) : W0.heap.size ≤ g ∧ g < w1.heap.size ∧ g < w3.heap.size))
 have R5 := Lib.hid (And.intro (R3.out.1.trans k5) (And.intro (R3.out.2.1.old k5) (And.intro (R3.out.2.2.1.old k5) (And.intro (hou.old o5) b5))))
 have HU := Lib.hid hru
 have k4z := k4.size
 have Z4 := Lib.hid k4z
 clear k4 hou hru bb ob kb5 o5 k5 b5 T1 k4z
 go_wp2_with fail
 clear hst5 hWb
 go_loopw [16] (fun v16 wr => ∃ (i : Nat) (q : List UInt8), i ≤ l.length ∧ v16 = .int .i64 i ∧ q.length = l.length ∧ Owns wr W0.heap.size (.slice p1 l.length d1) q ∧ Keeps (fun k => (Value.slice p1 l.length d1).ownBlock = some k) W5 wr) (fun v16 _ => l.length - (intOf v16).toNat)
 case atStart => exact ⟨0, l, Nat.zero_le _, rfl, rfl, MN.out, Keeps.refl _ _⟩
 case round =>
  obtain ⟨i, q, hi, rfl, hml, hmo, hk⟩ := hrel
  by_cases hlt : i < l.length
  ·obtain ⟨g, hg⟩ : ∃ g, p1 = some ⟨g, 0, none⟩ := by
    rcases hmo.2 with ⟨e, h⟩ | ⟨g, cap, cur, e, _⟩
    ·simp only [Value.slice.injEq] at e; omega
    ·simp only [Value.slice.injEq] at e; exact ⟨g, e.1⟩
   subst hg
   obtain ⟨x, hx⟩ : ∃ x, q[i]? = some x := ⟨_, List.getElem?_eq_getElem (by omega)⟩
   have hm' : wr.ownsRow W0.heap.size 5 1 (.slice (some ⟨g, 0, none⟩) l.length d1) l.length (q.map u8) := by have h : Owns wr W0.heap.size (.slice (some ⟨g, 0, none⟩) l.length d1) q := hmo; unfold Owns at h; rwa [hml] at h
   have qc : wr.cell? ⟨g, i, none⟩ = some (.int .u8 (x.toNat : Int)) := by rw [World.ownsRow.cellAt hm' i (by omega), List.getElem?_map, hx]; rfl
   have qf := World.ownsRow.frozenAt hm' i
   have i1 : (0 : Int) ≤ (i : Int) := by omega
   have i2 : (i : Int) < (l.length : Int) := by omega
   have hxor := xor255 x
   have hx256 := UInt8.toNat_lt x
   have hst := (World.ownsRow.stored hm' i (.int .u8 ((UInt8.ofNat (255 - x.toNat)).toNat : Int))).1
   have ST : Hid (Owns (wr.setCell ⟨g, i, none⟩ (.int .u8 ((UInt8.ofNat (255 - x.toNat)).toNat : Int))) W0.heap.size (.slice (some ⟨g, 0, none⟩) l.length d1) (q.set i (UInt8.ofNat (255 - x.toNat)))) := Lib.hid (by
    unfold Owns
    rw [List.length_set, hml, List.map_set]
    exact hst)
   have KK := Lib.hid (And.intro hml (hk.setCell (p := ⟨g, i, none⟩) (fun _ => rfl) (.int .u8 ((UInt8.ofNat (255 - x.toNat)).toNat : Int))))
   have ld : ∀ a W, (loadVar 5 a).run Tryz.prog W = (load a).run Tryz.prog W := fun _ _ => by kernel_rfl
   have sd : ∀ a v W, (storeVar 5 a (.int .u8 v)).run Tryz.prog W = (store a (.int .u8 v)).run Tryz.prog W := fun _ _ _ => by kernel_rfl
   generalize hy : ((UInt8.ofNat (255 - x.toNat)).toNat : Int) = y at hxor ST KK
   clear hy hmo hm' hst hx hk hml
   go_wp2_with fail
   go_roundw
   case rel => exact ⟨i + 1, q.set i (UInt8.ofNat (255 - x.toNat)), by omega, by go_num, by rw [List.length_set]; exact KK.out.1, ST.out, KK.out.2⟩
   case measure => simp [intOf]; omega
  ·have hz0 := B.out.1.size
   have kw : Old w wr := (B.out.1.trans R5.out.1).then hk (fun i hi e => by have := (MBk.out i e).1; omega)
   have k0r : Old W0 wr := R5.out.1.then hk (fun i hi e => by have := (MBk.out i e).1; omega)
   have sx : Sees wr (.slice p2 L3.length d2) L3 := R5.out.2.1.keeps hk (fun g hg e => by have := B2.out g hg; have := (MBk.out g e).2.1; omega)
   have sy : Sees wr (.slice p3 L3.length d3) L3 := R5.out.2.2.1.keeps hk (fun g hg e => by have := B3.out g hg; have := (MBk.out g e).2.1; omega)
   have mu' : MsO wr w3.heap.size mu := R5.out.2.2.2.1.keeps hk (fun g hg _ e => by have := (MBk.out g e).2.2; omega)
   have bu : MAt wr w4.heap.size mu := (hk.block _ (lt_of_heap R5.out.2.2.2.2) (fun e => by have := (MBk.out _ e).2.2; have := Z4.out; omega)).trans R5.out.2.2.2.2
   have U := Lib.hid (And.intro kw (And.intro k0r (And.intro sx (And.intro sy (And.intro mu' bu)))))
   clear hz0 kw k0r sx sy mu' bu hk hmo hml R5 R3 R2 MN MBk B2 B3 X1 Y1 KM Z4 P1 P2
   go_wp2_with fail
   refine (T2.out _ U.out.1).mono ?_
   rintro e w6 ⟨mv, zv, rfl, k6, hov, hrv⟩
   obtain ⟨heq, rfl⟩ : mv.plain = mu.plain ∧ zv = zu := by
    rcases HU.out with ⟨e1, e2⟩ | ⟨e1, e2, e3⟩
    ·rcases hrv with ⟨f1, f2⟩ | ⟨f1, _⟩
     ·rw [e1] at f1; exact ⟨(Option.some.inj f1).symm, f2.trans e2.symm⟩
     ·rw [e1] at f1; cases f1
    ·rcases hrv with ⟨f1, _⟩ | ⟨f1, f2, f3⟩
     ·rw [e1] at f1; cases f1
     ·rw [e2, f2]; exact ⟨rfl, f3.trans e3.symm⟩
   obtain ⟨Wd, hWd⟩ : ∃ W, w6.alloc (.cells zeroMs.cells.toArray 37) = W := ⟨_, rfl⟩
   have bd : RAt Wd w6.heap.size zeroMs := by rw [← hWd]; exact heap_alloc_new _ _
   have od : Old w6 Wd := by rw [← hWd]; exact (Keeps.refl _ _).alloc _
   obtain ⟨W7, hst7, b7, kb7⟩ := store_msgR bd mv hov.one
   have o7 : Old w6 W7 := od.then kb7 (fun i hi e => by omega)
   change w6.alloc (.cells #[.int .i64 0, .int .i64 0, .int .u64 0, .bool false, .slice none 0 0, .int .u64 0, .int .u64 0, .string ⟨#[]⟩, .slice none 0 0, .int .i64 0, .int .u64 0, .int .u64 0, .int .u64 0, .int .u64 0, .int .u64 0, .slice none 0 0, .slice none 0 0, .bool false] 37) = Wd at hWd
   have K7 := Lib.hid (And.intro (k6.trans o7) (And.intro (hov.old o7) b7))
   clear bd od kb7 o7 k6 hov hrv b7 HU
   have kA : Old w W7 := U.out.1.trans K7.out.1
   have kB : Old W0 W7 := U.out.2.1.trans K7.out.1
   have t1 := fun q : OldOf W7 => (U.out.2.2.1.old (K7.out.1.trans q.old)).text
   have t2 := fun q : OldOf W7 => (U.out.2.2.2.1.old (K7.out.1.trans q.old)).text
   have bs := bytes_self
   have gm := fun q : OldOf W7 => LM.out q.to (kB.trans q.old)
   have gn := fun q : OldOf W7 => LN.out q.to (kB.trans q.old)
   have gu := fun q : OldOf W7 => load_msg (((K7.out.1.trans q.old).block _ (lt_of_heap U.out.2.2.2.2.2) (fun f => f)).trans U.out.2.2.2.2.2) rfl
   have gv := fun q : OldOf W7 => load_whole ((q.old.block _ (lt_of_heap K7.out.2.2) (fun f => f)).trans K7.out.2.2) (by simp [Ms.cells]) Tryz.underlying37 (by kernel_rfl)
   have QT := Lib.hid (fun q : OldOf W7 => Calls.quiet_of_old (p := q) (theirs_any mu q.to ((U.out.2.2.2.2.1.old (K7.out.1.trans q.old)).fine)))
   have CS0 := fun q : OldOf W7 => Calls.quiet_of_old (p := q) (ref21_same_any mu mv q.to ((U.out.2.2.2.2.1.old (K7.out.1.trans q.old)).fine) ((K7.out.2.1.old q.old).fine))
   rw [heq, (sameM_iff _ _).2 rfl] at CS0
   have QS0 := Lib.hid CS0
   have QA := Lib.hid (fun q : OldOf W7 => Calls.quiet_of_old (p := q) (O1.out q.to (kA.trans q.old)))
   have QB := Lib.hid (fun q : OldOf W7 => Calls.quiet_of_old (p := q) (O2.out q.to (kA.trans q.old)))
   obtain ⟨tm, htm⟩ : ∃ t, mayM m.plain = t := ⟨_, rfl⟩
   have CM1 := fun q : OldOf W7 => Calls.quiet_of_old (p := q) (MP.out.1 q.to (kA.trans q.old))
   have CM2 := fun q : OldOf W7 => Calls.quiet_of_old (p := q) (MP.out.2 q.to (kA.trans q.old))
   rw [htm] at CM1
   rw [htm] at CM2
   have QM1 := Lib.hid CM1
   have QM2 := Lib.hid CM2
   have QS1 := Lib.hid (fun q : OldOf W7 => Calls.quiet_of_old (p := q) (HS.out.1 q.to (kA.trans q.old)))
   have QS2 := Lib.hid (fun q : OldOf W7 => Calls.quiet_of_old (p := q) (HS.out.2 q.to (kA.trans q.old)))
   have QH1 := Lib.hid (fun q : OldOf W7 => Calls.quiet_of_old (p := q) ((H1.out q.to).mono fun e w' he => (⟨he.1, he.2 ▸ Keeps.refl _ _⟩ : e = .returned (.int .i64 (homeZ pub)) ∧ Old q.to w')))
   have QH2 := Lib.hid (fun q : OldOf W7 => Calls.quiet_of_old (p := q) ((H2.out q.to).mono fun e w' he => (⟨he.1, he.2 ▸ Keeps.refl _ _⟩ : e = .returned (.int .i64 (homeZ pub)) ∧ Old q.to w')))
   have QW := Lib.hid (fun q : OldOf W7 => Calls.quiet_of_old (p := q) (mwakes_any q.to))
   have KA := Lib.hid kA
   clear kA kB CS0 CM1 CM2 htm heq O1 O2 T2 HS MP H1 H2 LM LN K7 U
   cases tm
   all_goals
    cases ts
    all_goals
     go_wp2_with fail
     refine wp_region_quiet_old (by kernel_rfl) (by kernel_rfl) ?_
     iterate 12 (go_big_quiet_step (fail))
     go_big_quiet_step ((go_at_call 14; exact QT.out _))
     go_big_quiet_step (fail)
     go_big_quiet_step ((go_at_call 13; exact QS0.out _))
     iterate 8 (go_big_quiet_step (fail))
     go_big_quiet_step ((go_at_call 9; exact QA.out _))
     go_big_quiet_step ((go_at_call 15; exact QM1.out _))
     go_big_quiet_step (fail)
     go_big_quiet_step ((go_at_call 16; exact QM2.out _))
     iterate 4 (go_big_quiet_step (fail))
     go_big_quiet_step ((go_at_call 9; exact QA.out _))
     go_big_quiet_step (fail)
     go_big_quiet_step ((go_at_call 9; exact QB.out _))
     go_big_quiet_step ((go_at_call 17; exact QS1.out _))
     iterate 2 (go_big_quiet_step (fail))
     go_big_quiet_step ((go_at_call 13; exact QS2.out _))
     iterate 4 (go_big_quiet_step (fail))
     go_big_quiet_step ((go_at_call 18; exact QH1.out _))
     go_big_quiet_step (fail)
     go_big_quiet_step ((go_at_call 19; exact QH2.out _))
     iterate 3 (go_big_quiet_step (fail))
     go_big_quiet_step ((go_at_call 20; exact QW.out _))
     repeat (go_big_quiet_step (fail))
     refine wpQuiet_nil ?_
     intro _ hpq
     obtain ⟨pq, hpq'⟩ := hpq
     subst hpq'
     go_wp2_with fail
     go_ret
     exact ⟨rfl, KA.out.trans pq.old⟩
end
section
open Go.ChangeShapes Go.WideShapes Go.ChangeAt Go.RowKit
theorem walk_MsgForms {H : Type} (enc : TypeId × Value → H) (W : World) (base : Nat) {v0 v1 v2 v3 : Value} {d0 d1 d2 d3 : DataW H} {p0 p1 p2 p3 : List MemPlace}
  (hv0 : Value.okWide Tryz.prog W .any base 37 v0) (h0 : DataW.Trod enc Tryz.prog W 0 (fun _ => true) true 37 v0 d0 p0)
  (hv1 : Value.okWide Tryz.prog W .any base 37 v1) (h1 : DataW.Trod enc Tryz.prog W 0 (fun _ => true) true 37 v1 d1 p1)
  (hv2 : Value.okWide Tryz.prog W .any base 38 v2) (h2 : DataW.Trod enc Tryz.prog W 0 (fun _ => true) true 38 v2 d2 p2)
  (hv3 : Value.okWide Tryz.prog W .any base 3 v3) (h3 : DataW.Trod enc Tryz.prog W 0 (fun _ => true) true 3 v3 d3 p3)
  (hk : Rows.uptoBulkAll [d0, d1, d2, d3] ≤ 1048576) :
  Calls Tryz.prog 3 #[v0, v1, v2, v3] W fun e W' => e = .returned (.bool true) ∧ Below W.heap.size W W' := by
 obtain ⟨m, rfl, hm⟩ := read_msg hv0 h0
 obtain ⟨n, rfl, hn⟩ := read_msg hv1 h1
 obtain ⟨b, hb, hlb⟩ := read_bytes hv2 h2
 obtain ⟨z, rfl, rfl, rfl, wz⟩ := open_int Tryz.underlying3 hv3 h3
 simp only [Rows.uptoBulkAll] at hk
 exact (mforms_any m n v2 b z W hm hn hb (by omega) (i64_range wz)).mono fun _e _W' h => ⟨h.1, Old.below h.2⟩
end
end Go.Proofs.YtpjpimahnnekkaaGreat
namespace Go.Proofs.YtpjpimahnnekkaaGreat.msgForms
open Go.ChangeShapes Go.WideShapes Go.ChangeAt Go.RowKit
theorem own : ownKnob Tryz.prog.godebug = none := by kernel_rfl
theorem laidOut : laidOutB Tryz.prog = true := by kernel_rfl
theorem lifted (os : Os) (started : os.Started) (H : Type) (enc : TypeId × Value → H) (F : Stop.Interp) :
  ReturnsInHanded {} Tryz.checked os 3 .any ((Rows.OpenSpec.upto Rows.msgFormsSpec).pre6 enc Tryz.prog Tryz.f3 Rows.msgFormsUptoRow.domain false) (((Rows.OpenSpec.upto Rows.msgFormsSpec).at F).post enc Tryz.prog Tryz.f3 false true false false) := by
 refine returnsInHanded_of_cond (C := Tryz.checked) (s := Rows.OpenSpec.upto Rows.msgFormsSpec) (k := Rows.uptoSmall) rfl own started (by kernel_rfl) Tryz.func3
  (OpenSpec.witness (enc := enc) (C := Tryz.checked) (s := Rows.OpenSpec.upto Rows.msgFormsSpec) (k := Rows.uptoSmall) rfl false ⟨#[], #[.agg #[.int .i64 0, .int .i64 0, .int .u64 0, .bool false, .slice none 0 0, .int .u64 0, .int .u64 0, .string ⟨#[]⟩, .slice none 0 0, .int .i64 0, .int .u64 0, .int .u64 0, .int .u64 0, .int .u64 0, .int .u64 0, .slice none 0 0, .slice none 0 0, .bool false], .agg #[.int .i64 0, .int .i64 0, .int .u64 0, .bool false, .slice none 0 0, .int .u64 0, .int .u64 0, .string ⟨#[]⟩, .slice none 0 0, .int .i64 0, .int .u64 0, .int .u64 0, .int .u64 0, .int .u64 0, .int .u64 0, .slice none 0 0, .slice none 0 0, .bool false], .slice none 0 0, .int .i64 0], []⟩ 8 (by kernel_rfl) (by kernel_rfl) (by kernel_rfl)
   (x := ([.agg [.lit (.int .i64 0), .lit (.int .i64 0), .lit (.int .u64 0), .lit (.bool false), .nil, .agg [.lit (.int .u64 0), .lit (.int .u64 0), .agg [.lit (.string []), .nil]], .agg [.lit (.int .i64 0), .lit (.int .u64 0), .lit (.int .u64 0)], .lit (.int .u64 0), .agg [.lit (.int .u64 0), .lit (.int .u64 0), .nil, .nil, .lit (.bool false)]], .agg [.lit (.int .i64 0), .lit (.int .i64 0), .lit (.int .u64 0), .lit (.bool false), .nil, .agg [.lit (.int .u64 0), .lit (.int .u64 0), .agg [.lit (.string []), .nil]], .agg [.lit (.int .i64 0), .lit (.int .u64 0), .lit (.int .u64 0)], .lit (.int .u64 0), .agg [.lit (.int .u64 0), .lit (.int .u64 0), .nil, .nil, .lit (.bool false)]], .nil, .lit (.int .i64 0)], [], [])) (by kernel_rfl) rfl (by kernel_rfl)) ?_
 intro W base args ds gs before hval0 hW _ hk0 _
 have hval : ∀ (j : Nat) t v, Tryz.f3.params[j]? = some t → args[j]? = some v → Value.okWide Tryz.prog W .any base t v := hval0
 have hW' := hW
 obtain ⟨p, q, hA0, hV, rfl, hfz, hnd⟩ := hW
 have hA : DataW.TrodAll enc Tryz.prog W 0 (fun _ => true) true Tryz.f3.params.toList args.toList ds p := hA0
 rw [Tryz.params3] at hA hval
 obtain ⟨v0, vs0, d0, ds0, p0, q0, hargs, rfl, rfl, h0, r0⟩ := trodAll_cons hA
 obtain ⟨v1, vs1, d1, ds1, p1, q1, rfl, rfl, rfl, h1, r1⟩ := trodAll_cons r0
 obtain ⟨v2, vs2, d2, ds2, p2, q2, rfl, rfl, rfl, h2, r2⟩ := trodAll_cons r1
 obtain ⟨v3, vs3, d3, ds3, p3, q3, rfl, rfl, rfl, h3, r3⟩ := trodAll_cons r2
 obtain ⟨rfl, rfl, rfl⟩ := trodAll_nil r3
 obtain rfl : args = #[v0, v1, v2, v3] := by cases args; simp_all
 obtain ⟨rfl, rfl⟩ := trodVars_none hV
 have lt0 : ∀ x ∈ p0, x.block < W.heap.size := by obtain ⟨m, hm⟩ := h0; exact DataW.trod_lt m _ _ _ hm
 have lt1 : ∀ x ∈ p1, x.block < W.heap.size := by obtain ⟨m, hm⟩ := h1; exact DataW.trod_lt m _ _ _ hm
 have lt2 : ∀ x ∈ p2, x.block < W.heap.size := by obtain ⟨m, hm⟩ := h2; exact DataW.trod_lt m _ _ _ hm
 have lt3 : ∀ x ∈ p3, x.block < W.heap.size := by obtain ⟨m, hm⟩ := h3; exact DataW.trod_lt m _ _ _ hm
 have hk : Rows.uptoBulkAll [d0, d1, d2, d3] ≤ 1048576 := of_decide_eq_true hk0
 clear hA0 hval0
 refine (walk_MsgForms enc W base (hval 0 37 v0 rfl rfl) h0 (hval 1 37 v1 rfl rfl) h1 (hval 2 38 v2 rfl rfl) h2 (hval 3 3 v3 rfl rfl) h3 hk).mono fun e W' ⟨he, bel⟩ => ?_
 subst he
 exact ⟨_, rfl, _, _, _, [], _, [], hW', trodAll_mk1 (shut_bool Tryz.underlying4 _), (trodAll_cons_mk (Below.trod laidOut (by kernel_rfl) (of_decide_eq_true (by kernel_rfl)) h0 bel lt0) (trodAll_cons_mk (Below.trod laidOut (by kernel_rfl) (of_decide_eq_true (by kernel_rfl)) h1 bel lt1) (trodAll_cons_mk (Below.trod laidOut (by kernel_rfl) (of_decide_eq_true (by kernel_rfl)) h2 bel lt2) (trodAll_cons_mk (Below.trod laidOut (by kernel_rfl) (of_decide_eq_true (by kernel_rfl)) h3 bel lt3) trodAll_mk0)))), rfl, bel.frame _, fun h => by cases h⟩
theorem proved : Rows.MsgFormsUptoSaid :=
 OpenClaim.holds_of_cond 3 Tryz.f3 rfl rfl rfl rfl rfl rfl rfl ⟨rfl, rfl, rfl, rfl, rfl⟩ rfl rfl rfl rfl rfl (by kernel_rfl) Tryz.func3 (by kernel_rfl)
  (of_decide_eq_true (by kernel_rfl)) (by unfold Func.isWrapper; first | (rw [if_pos (by decide +kernel)]; kernel_rfl) | (rw [if_neg (by decide +kernel)]; exact ⟨rfl, rfl⟩))
  (fun os started H enc _ F => lifted os started H enc F)
end Go.Proofs.YtpjpimahnnekkaaGreat.msgForms
