/- DERIVED. Chapter 25: the walk of PagesApart. (gen_qm.py wrote it) -/
import Derived.Test.YtiednihagnehlaaZPagesOrder02
import Derived.Test.YtiednihagnehlaaZPagesOrder03
import Derived.Deep.DeepCutAuto
import Derived.Deep.LoopGhost
import Derived.IntWalk
namespace Go.Proofs.Ytiednihagnehlaa
open Go.RowKit Go.Great

theorem and_small (x : Int) (m : Nat) (hm : m < 256) : 0 ≤ bits .and .i64 x (m : Int) ∧ bits .and .i64 x (m : Int) ≤ m := by
 have hk : IntKind.bits .i64 = 64 := rfl
 have e : (BitVec.ofInt (IntKind.bits .i64) (m : Int)).toNat = m := by
  rw [BitVec.toNat_ofInt, hk]
  omega
 have h : (BitVec.ofInt (IntKind.bits .i64) x &&& BitVec.ofInt (IntKind.bits .i64) (m : Int)).toNat ≤ m := by
  rw [BitVec.toNat_and, e]
  exact Nat.and_le_right
 have hw : bits .and .i64 x (m : Int) = IntKind.i64.wrap ((BitVec.ofInt (IntKind.bits .i64) x &&& BitVec.ofInt (IntKind.bits .i64) (m : Int)).toNat : Int) := rfl
 rw [hw]
 generalize (BitVec.ofInt (IntKind.bits .i64) x &&& BitVec.ofInt (IntKind.bits .i64) (m : Int)).toNat = n at h
 rw [IntWalk.i64_in _ (by omega)]
 omega
/-- another queue was at work, which may have grown -/
theorem QuP.beside {R R1 X S : Nat → Prop} {W W' : World} {qb most : Nat} {P : List (Int × PMs)} (h : QuP R S W qb most P) (hk : Keeps R1 W W') (h1 : ∀ k, R1 k → S k) (hd : ∀ k, R k → ¬ R1 k) (hx : ∀ k, X k → S k ∨ W.heap.size ≤ k) (hb : ∀ k, X k → k < W'.heap.size) :
  QuP R (fun k => S k ∨ X k) W' qb most P := by
 obtain ⟨L, e, h⟩ := h
 exact ⟨L, e, h.other hk h1 hd (fun k hk => .inl hk) (fun k hk => by rcases hk with h | h; exact .inl h; exact hx k h) (fun k hk' => by rcases hk' with h' | h'; exact Nat.lt_of_lt_of_le (h.facts.2.2 k h') hk.size; exact hb k h')⟩
theorem QuP.stays {R R1 S : Nat → Prop} {W W' : World} {qb most : Nat} {P : List (Int × PMs)} (h : QuP R S W qb most P) (hk : Keeps R1 W W') (h1 : ∀ k, R1 k → S k) (hd : ∀ k, R k → ¬ R1 k) : QuP R S W' qb most P := by
 obtain ⟨L, e, h⟩ := h
 exact ⟨L, e, h.other hk h1 hd (fun k hk => hk) (fun k hk => .inl hk) (fun k hk' => Nat.lt_of_lt_of_le (h.facts.2.2 k hk') hk.size)⟩
/-- three queues, apart from each other, of which all memory is new since w -/
def Tri (w W : World) (b1 b2 b3 : Nat) (P P0 P1 : List (Int × PMs)) : Prop := ∃ R1 R2 R3 S : Nat → Prop, QuP R1 S W b1 200 P ∧ QuP R2 S W b2 200 P0 ∧ QuP R3 S W b3 200 P1 ∧ (∀ k, R1 k → ¬ R2 k ∧ ¬ R3 k) ∧ (∀ k, R2 k → ¬ R3 k) ∧
 (∀ k, R1 k ∨ R2 k ∨ R3 k → w.heap.size ≤ k) ∧ Old w W
attribute [-go_sem] loadVar storeVar
set_option maxRecDepth 100000 in
set_option maxHeartbeats 8000000 in
theorem apart_any (vl : Value) (ts : List Tk) (w : World) (hl : SeesR w 3 tokL vl ts) (hr : ∀ t ∈ ts, I64 t.b ∧ U64 t.l ∧ U64 t.c) :
  Calls Try.prog 6 #[vl] w fun e w' => e = .returned (.bool true) ∧ Old w w' := by
 have q1 : ∀ a W, (loadVar 3 a).run Try.prog W = (load a).run Try.prog W := fun _ _ => by kernel_rfl
 have q2 : ∀ a W, (loadVar 28 a).run Try.prog W = (load a).run Try.prog W := fun _ _ => by kernel_rfl
 obtain ⟨pl, cl, rfl, hle, hmx⟩ := hl.len
 have hlm : ts.length ≤ 9223372036854775807 := by unfold maxLen at hmx; omega
 have HL := Lib.hid hl
 have HR := Lib.hid hr
 have C1 := Lib.hid (new_yes 200 w ⟨by decide, by decide⟩)
 clear hl hr hle hmx
 go_enter Try.func6, Try.ntmps6
 go_wp2_with fail
 refine C1.out.mono ?_
 rintro e w1 ⟨b1, rfl, hb1, k1, hq1⟩
 have C2 := Lib.hid (new_yes 200 w1 ⟨by decide, by decide⟩)
 have Q1 := Lib.hid (And.intro hb1 (And.intro k1 hq1))
 clear hb1 k1 hq1 C1
 go_wp2_with fail
 refine C2.out.mono ?_
 rintro e w2 ⟨b2, rfl, hb2, k2, hq2⟩
 have C3 := Lib.hid (new_yes 200 w2 ⟨by decide, by decide⟩)
 have Q2 := Lib.hid (And.intro hb2 (And.intro k2 hq2))
 clear hb2 k2 hq2 C2
 go_wp2_with fail
 refine C3.out.mono ?_
 rintro e w3 ⟨b3, rfl, hb3, k3, hq3⟩
 have T0 := Lib.hid (show Tri w w3 b1 b2 b3 [] [] [] by
  obtain ⟨hb1, k1, hq1⟩ := Q1.out
  obtain ⟨hb2, k2, hq2⟩ := Q2.out
  have s1 := k1.size
  have s2 := k2.size
  have g1 : QuP _ _ w1 b1 200 [] := ⟨[], rfl, hq1 (fun _ => False) (fun _ f => f.elim)⟩
  have g1l := g1.facts
  have g2 : QuP _ _ w2 b2 200 [] := ⟨[], rfl, hq2 (fun k => False ∨ k = b1) (fun k hk => by rcases hk with f | rfl; exact f.elim; exact g1l.2.2 _ (.inr rfl))⟩
  have g2l := g2.facts
  have g1' : QuP (fun k => k = b1) (fun k => (False ∨ k = b1) ∨ k = b2) w2 b1 200 [] := g1.beside (R1 := fun _ => False) (X := fun k => k = b2) k2 (fun _ f => f.elim) (fun _ _ f => f) (fun k hk => .inr (by omega)) (fun k hk => by subst hk; exact g2l.2.2 _ (.inr rfl))
  have g3 : QuP _ _ w3 b3 200 [] := ⟨[], rfl, hq3 (fun k => (False ∨ k = b1) ∨ k = b2) (fun k hk => g2l.2.2 k hk)⟩
  have g3l := g3.facts
  have g1'' := g1'.beside (R1 := fun _ => False) (X := fun k => k = b3) k3 (fun _ f => f.elim) (fun _ _ f => f) (fun k hk => .inr (by omega)) (fun k hk => by subst hk; exact g3l.2.2 _ (.inr rfl))
  have g2'' := g2.beside (R1 := fun _ => False) (X := fun k => k = b3) k3 (fun _ f => f.elim) (fun _ _ f => f) (fun k hk => .inr (by omega)) (fun k hk => by subst hk; exact g3l.2.2 _ (.inr rfl))
  have l1 : b1 < w1.heap.size := g1l.2.2 _ (.inr rfl)
  have l2 : b2 < w2.heap.size := g2l.2.2 _ (.inr rfl)
  exact ⟨_, _, _, _, g1'', g2'', g3, fun k hk => ⟨by omega, by omega⟩, fun k hk => by omega, fun k hk => by omega, k1.trans (k2.trans k3)⟩)
 clear hb3 k3 hq3 C3 Q1 Q2
 go_wp2_with fail
 go_loopw [9] (fun v9 wr => ∃ (i : Nat) (P : List (Int × PMs)), v9 = .int .i64 i ∧ i ≤ ts.length ∧ i ≤ 60 ∧ P.length ≤ i ∧ (∀ x ∈ P, x.2.tb = 0 ∨ x.2.tb = 1) ∧ Tri w wr b1 b2 b3 P (P.filter (ofB 0)) (P.filter (ofB 1))) (fun v9 _ => 60 - (intOf v9).toNat)
 case atStart => exact ⟨0, [], rfl, by omega, by omega, by simp, (fun x hx => by cases hx), T0.out⟩
 case round =>
  obtain ⟨i, P, rfl, hi, hi60, hPi, hPb, hT⟩ := hrel
  have RR := Lib.hid (And.intro hPi hPb)
  have TT := Lib.hid hT
  clear hPi hPb hT
  by_cases hgo : i < ts.length ∧ i < 60
  case neg =>
   have hex : ¬ (i < ts.length) ∨ (i < ts.length ∧ ¬ i < 60) := by omega
   obtain ⟨n, hn⟩ : ∃ n, P.length = n := ⟨_, rfl⟩
   obtain ⟨n0, hn0⟩ : ∃ n, (P.filter (ofB 0)).length = n := ⟨_, rfl⟩
   obtain ⟨n1, hn1⟩ : ∃ n, (P.filter (ofB 1)).length = n := ⟨_, rfl⟩
   have hsum := ap_len P RR.out.2
   rw [hn, hn0, hn1] at hsum
   have hnb : n ≤ 60 := by rw [← hn]; have := RR.out.1; omega
   have hb0 : n0 ≤ 60 := by omega
   have hb1' : n1 ≤ 60 := by omega
   have hne : ((n : Int) != (n0 : Int) + (n1 : Int)) = false := by simp; omega
   obtain ⟨R1, R2, R3, S, hqb, hq2', hq3', _⟩ := TT.out
   have L1 := lenP_q hqb (by decide)
   have L2 := lenP_q hq2' (by decide)
   have L3 := lenP_q hq3' (by decide)
   rw [hn] at L1
   rw [hn0] at L2
   rw [hn1] at L3
   have LL := Lib.hid (And.intro L1 (And.intro L2 L3))
   clear hqb hq2' hq3' L1 L2 L3 hn hn0 hn1 hsum hnb hgo
   rcases hex with hlt | ⟨hlt, h60⟩
   ·go_wp2_with fail
    refine LL.out.1.mono ?_
    rintro e w' ⟨rfl, rfl⟩
    go_wp2_with fail
    refine LL.out.2.1.mono ?_
    rintro e w' ⟨rfl, rfl⟩
    go_wp2_with fail
    refine LL.out.2.2.mono ?_
    rintro e w' ⟨rfl, rfl⟩
    go_wp2_with fail
    go_loopg [15] P.length (fun k _ wm => ∃ P' : List (Int × PMs), k = P'.length ∧ (∀ x ∈ P', x.2.tb = 0 ∨ x.2.tb = 1) ∧ Tri w wm b1 b2 b3 P' (P'.filter (ofB 0)) (P'.filter (ofB 1)))
    case atStart => exact ⟨P, rfl, RR.out.2, TT.out⟩
    case round =>
     obtain ⟨P', hk, hpb, hT⟩ := hrel
     have HK := Lib.hid hk
     have HP := Lib.hid hpb
     obtain ⟨R1, R2, R3, S, hqb, hq2', hq3', hd⟩ := hT
     have TQ := Lib.hid (And.intro hqb (And.intro hq2' (And.intro hq3' hd)))
     have CL := Lib.hid (lenP_q hqb (by decide))
     cases P' with
     | nil =>
      clear hk hpb hqb hq2' hq3' hd
      go_wp2_with fail
      refine CL.out.mono ?_
      rintro e w' ⟨rfl, rfl⟩
      go_wp2_with fail
      refine (pwakes_any _).mono ?_
      rintro e wz ⟨rfl, kz⟩
      have F := Lib.hid (TQ.out.2.2.2.2.2.2.trans kz)
      clear kz
      go_wp2_with fail
      go_ret
      exact ⟨rfl, F.out⟩
     | cons x Pr =>
      have CN := Lib.hid (next_some hqb (by decide))
      have hxb := hpb x (List.mem_cons_self ..)
      clear hk hpb hqb hq2' hq3' hd
      go_wp2_with fail
      refine CL.out.mono ?_
      rintro e w' ⟨rfl, rfl⟩
      go_wp2_with fail
      refine CN.out.mono ?_
      rintro e w10 ⟨m1, rfl, hp1, hst1, hq10, k10⟩
      obtain ⟨Wa, hWa⟩ : ∃ W, w10.alloc (.cells zeroMs.cells.toArray 43) = W := ⟨_, rfl⟩
      have ba : MAt Wa w10.heap.size zeroMs := by rw [← hWa]; exact heap_alloc_new _ _
      have oa : Old w10 Wa := by rw [← hWa]; exact (Keeps.refl _ _).alloc _
      obtain ⟨W11, hst11, b11, kb11⟩ := store_msg ba m1 hst1.fine.one
      have o11 : Old w10 W11 := oa.then kb11 (fun j hj e => by omega)
      change w10.alloc (.cells #[.int .i64 0, .int .i64 0, .int .u64 0, .bool false, .slice none 0 0, .int .u64 0, .int .u64 0, .string ⟨#[]⟩, .slice none 0 0, .int .i64 0, .int .u64 0, .int .u64 0, .int .u64 0, .int .u64 0, .int .u64 0, .slice none 0 0, .slice none 0 0, .bool false] 43) = Wa at hWa
      rcases hxb with hxb | hxb
      ·have e1 : m1.tb = 0 := (congrArg PMs.tb hp1).trans hxb
       have hfo : (x :: Pr).filter (ofB 0) = x :: Pr.filter (ofB 0) := by rw [List.filter_cons, if_pos (by unfold ofB; simp [hxb])]
       have hfd : (x :: Pr).filter (ofB 1) = Pr.filter (ofB 1) := by rw [List.filter_cons, if_neg (by unfold ofB; simp [hxb])]
       have c9 := (tok_cells b11).1
       rw [e1] at c9
       have qx := TQ.out.2.1
       rw [hfo] at qx
       have CO := Lib.hid (next_some ((qx.stays k10 TQ.out.1.facts.2.1 (fun k hk h => (TQ.out.2.2.2.1 k h).1 hk)).old o11) (by decide))
       have V := Lib.hid (And.intro hp1 (And.intro hst1 (And.intro hq10 (And.intro k10 (And.intro o11 (And.intro b11 hfd))))))
       clear e1 hfo hfd qx hp1 hst1 hq10 k10 ba oa b11 kb11 o11 hxb
       go_wp2_with fail
       refine CO.out.mono ?_
       rintro e w12 ⟨m2, rfl, hp2, hst2, hq12, k12⟩
       obtain ⟨Wb, hWb⟩ : ∃ W, w12.alloc (.cells zeroMs.cells.toArray 43) = W := ⟨_, rfl⟩
       have bb : MAt Wb w12.heap.size zeroMs := by rw [← hWb]; exact heap_alloc_new _ _
       have obb : Old w12 Wb := by rw [← hWb]; exact (Keeps.refl _ _).alloc _
       obtain ⟨W13, hst13, b13, kb13⟩ := store_msg bb m2 hst2.fine.one
       have o13 : Old w12 W13 := obb.then kb13 (fun j hj e => by omega)
       change w12.alloc (.cells #[.int .i64 0, .int .i64 0, .int .u64 0, .bool false, .slice none 0 0, .int .u64 0, .int .u64 0, .string ⟨#[]⟩, .slice none 0 0, .int .i64 0, .int .u64 0, .int .u64 0, .int .u64 0, .int .u64 0, .int .u64 0, .slice none 0 0, .slice none 0 0, .bool false] 43) = Wb at hWb
       have no1 : ¬ R2 w10.heap.size := fun h => by have := hq12.facts; have h2 := TQ.out.2.1.facts.2.2 _ (TQ.out.2.1.facts.2.1 _ h); have := V.out.2.2.2.1.size; omega
       have b11' := (o13.block _ (by have := lt_of_heap V.out.2.2.2.2.2.1; have := k12.size; omega) (fun f => f)).trans ((k12.block _ (lt_of_heap V.out.2.2.2.2.2.1) no1).trans V.out.2.2.2.2.2.1)
       have lm1 := load_msg b11' (by simp [Ms.cells])
       have lm2 := load_msg b13 (by simp [Ms.cells])
       have hRoS : ∀ k, R2 k → S k := TQ.out.2.1.facts.2.1
       have f1 : m1.fine W13 := ((((V.out.2.1.old V.out.2.2.2.2.1).to (k12.weaken (fun j _ h => hRoS j h)))).old o13).fine
       have f2 : m2.fine W13 := (hst2.old o13).fine
       have CS := msg_same_any m1 m2 W13 f1 f2
       rw [V.out.1, hp2, (sameM_iff _ _).2 rfl] at CS
       have CSS := Lib.hid CS
       have hne : (x.1 != x.1) = false := by simp
       have G := Lib.hid (And.intro hq12 (And.intro k12 o13))
       clear hst2 hp2 hq12 k12 bb obb b13 kb13 o13 no1 b11' hRoS f1 f2 CS
       go_wp2_with fail
       refine CSS.out.mono ?_
       rintro e w14 ⟨rfl, k14⟩
       have K14 := Lib.hid k14
       clear k14
       go_wp2_with fail
       go_roundg Pr.length
       case measure => rw [HK.out]; simp
       case rel =>
        have dO : ∀ k, R1 k → ¬ R2 k := fun k hk => (TQ.out.2.2.2.1 k hk).1
        have kall : Keeps R2 w10 w12 := (V.out.2.2.2.2.1.weaken (T := R2) (fun _ _ f => f.elim)).trans G.out.2.1
        have hb := ((V.out.2.2.1.stays kall TQ.out.2.1.facts.2.1 dO).old G.out.2.2).old K14.out
        have ho := (G.out.1.old G.out.2.2).old K14.out
        have hxq := TQ.out.2.2.1
        rw [V.out.2.2.2.2.2.2] at hxq
        have hx2 := (((hxq.stays V.out.2.2.2.1 TQ.out.1.facts.2.1 (fun k hk h => (TQ.out.2.2.2.1 k h).2 hk)).stays kall TQ.out.2.1.facts.2.1 (fun k hk h => TQ.out.2.2.2.2.1 k h hk)).old G.out.2.2).old K14.out
        refine ⟨Pr, rfl, fun y hy => HP.out y (List.mem_cons_of_mem _ hy), R1, R2, R3, S, hb, ho, hx2, TQ.out.2.2.2.1, TQ.out.2.2.2.2.1, TQ.out.2.2.2.2.2.1, ?_⟩
        have hRw := TQ.out.2.2.2.2.2.1
        exact (((TQ.out.2.2.2.2.2.2.then V.out.2.2.2.1 (fun j hj h => by have := hRw j (.inl h); omega)).then kall (fun j hj h => by have := hRw j (.inr (.inl h)); omega)).trans G.out.2.2).trans K14.out
      ·have e1 : m1.tb = 1 := (congrArg PMs.tb hp1).trans hxb
       have hfo : (x :: Pr).filter (ofB 1) = x :: Pr.filter (ofB 1) := by rw [List.filter_cons, if_pos (by unfold ofB; simp [hxb])]
       have hfd : (x :: Pr).filter (ofB 0) = Pr.filter (ofB 0) := by rw [List.filter_cons, if_neg (by unfold ofB; simp [hxb])]
       have c9 := (tok_cells b11).1
       rw [e1] at c9
       have qx := TQ.out.2.2.1
       rw [hfo] at qx
       have CO := Lib.hid (next_some ((qx.stays k10 TQ.out.1.facts.2.1 (fun k hk h => (TQ.out.2.2.2.1 k h).2 hk)).old o11) (by decide))
       have V := Lib.hid (And.intro hp1 (And.intro hst1 (And.intro hq10 (And.intro k10 (And.intro o11 (And.intro b11 hfd))))))
       clear e1 hfo hfd qx hp1 hst1 hq10 k10 ba oa b11 kb11 o11 hxb
       go_wp2_with fail
       refine CO.out.mono ?_
       rintro e w12 ⟨m2, rfl, hp2, hst2, hq12, k12⟩
       obtain ⟨Wb, hWb⟩ : ∃ W, w12.alloc (.cells zeroMs.cells.toArray 43) = W := ⟨_, rfl⟩
       have bb : MAt Wb w12.heap.size zeroMs := by rw [← hWb]; exact heap_alloc_new _ _
       have obb : Old w12 Wb := by rw [← hWb]; exact (Keeps.refl _ _).alloc _
       obtain ⟨W13, hst13, b13, kb13⟩ := store_msg bb m2 hst2.fine.one
       have o13 : Old w12 W13 := obb.then kb13 (fun j hj e => by omega)
       change w12.alloc (.cells #[.int .i64 0, .int .i64 0, .int .u64 0, .bool false, .slice none 0 0, .int .u64 0, .int .u64 0, .string ⟨#[]⟩, .slice none 0 0, .int .i64 0, .int .u64 0, .int .u64 0, .int .u64 0, .int .u64 0, .int .u64 0, .slice none 0 0, .slice none 0 0, .bool false] 43) = Wb at hWb
       have no1 : ¬ R3 w10.heap.size := fun h => by have := hq12.facts; have h2 := TQ.out.2.2.1.facts.2.2 _ (TQ.out.2.2.1.facts.2.1 _ h); have := V.out.2.2.2.1.size; omega
       have b11' := (o13.block _ (by have := lt_of_heap V.out.2.2.2.2.2.1; have := k12.size; omega) (fun f => f)).trans ((k12.block _ (lt_of_heap V.out.2.2.2.2.2.1) no1).trans V.out.2.2.2.2.2.1)
       have lm1 := load_msg b11' (by simp [Ms.cells])
       have lm2 := load_msg b13 (by simp [Ms.cells])
       have hRoS : ∀ k, R3 k → S k := TQ.out.2.2.1.facts.2.1
       have f1 : m1.fine W13 := ((((V.out.2.1.old V.out.2.2.2.2.1).to (k12.weaken (fun j _ h => hRoS j h)))).old o13).fine
       have f2 : m2.fine W13 := (hst2.old o13).fine
       have CS := msg_same_any m1 m2 W13 f1 f2
       rw [V.out.1, hp2, (sameM_iff _ _).2 rfl] at CS
       have CSS := Lib.hid CS
       have hne : (x.1 != x.1) = false := by simp
       have G := Lib.hid (And.intro hq12 (And.intro k12 o13))
       clear hst2 hp2 hq12 k12 bb obb b13 kb13 o13 no1 b11' hRoS f1 f2 CS
       go_wp2_with fail
       refine CSS.out.mono ?_
       rintro e w14 ⟨rfl, k14⟩
       have K14 := Lib.hid k14
       clear k14
       go_wp2_with fail
       go_roundg Pr.length
       case measure => rw [HK.out]; simp
       case rel =>
        have dO : ∀ k, R1 k → ¬ R3 k := fun k hk => (TQ.out.2.2.2.1 k hk).2
        have kall : Keeps R3 w10 w12 := (V.out.2.2.2.2.1.weaken (T := R3) (fun _ _ f => f.elim)).trans G.out.2.1
        have hb := ((V.out.2.2.1.stays kall TQ.out.2.2.1.facts.2.1 dO).old G.out.2.2).old K14.out
        have ho := (G.out.1.old G.out.2.2).old K14.out
        have hxq := TQ.out.2.1
        rw [V.out.2.2.2.2.2.2] at hxq
        have hx2 := (((hxq.stays V.out.2.2.2.1 TQ.out.1.facts.2.1 (fun k hk h => (TQ.out.2.2.2.1 k h).1 hk)).stays kall TQ.out.2.2.1.facts.2.1 (fun k hk h => TQ.out.2.2.2.2.1 k hk h)).old G.out.2.2).old K14.out
        refine ⟨Pr, rfl, fun y hy => HP.out y (List.mem_cons_of_mem _ hy), R1, R2, R3, S, hb, hx2, ho, TQ.out.2.2.2.1, TQ.out.2.2.2.2.1, TQ.out.2.2.2.2.2.1, ?_⟩
        have hRw := TQ.out.2.2.2.2.2.1
        exact (((TQ.out.2.2.2.2.2.2.then V.out.2.2.2.1 (fun j hj h => by have := hRw j (.inl h); omega)).then kall (fun j hj h => by have := hRw j (.inr (.inr h)); omega)).trans G.out.2.2).trans K14.out
   ·go_wp2_with fail
    refine LL.out.1.mono ?_
    rintro e w' ⟨rfl, rfl⟩
    go_wp2_with fail
    refine LL.out.2.1.mono ?_
    rintro e w' ⟨rfl, rfl⟩
    go_wp2_with fail
    refine LL.out.2.2.mono ?_
    rintro e w' ⟨rfl, rfl⟩
    go_wp2_with fail
    go_loopg [15] P.length (fun k _ wm => ∃ P' : List (Int × PMs), k = P'.length ∧ (∀ x ∈ P', x.2.tb = 0 ∨ x.2.tb = 1) ∧ Tri w wm b1 b2 b3 P' (P'.filter (ofB 0)) (P'.filter (ofB 1)))
    case atStart => exact ⟨P, rfl, RR.out.2, TT.out⟩
    case round =>
     obtain ⟨P', hk, hpb, hT⟩ := hrel
     have HK := Lib.hid hk
     have HP := Lib.hid hpb
     obtain ⟨R1, R2, R3, S, hqb, hq2', hq3', hd⟩ := hT
     have TQ := Lib.hid (And.intro hqb (And.intro hq2' (And.intro hq3' hd)))
     have CL := Lib.hid (lenP_q hqb (by decide))
     cases P' with
     | nil =>
      clear hk hpb hqb hq2' hq3' hd
      go_wp2_with fail
      refine CL.out.mono ?_
      rintro e w' ⟨rfl, rfl⟩
      go_wp2_with fail
      refine (pwakes_any _).mono ?_
      rintro e wz ⟨rfl, kz⟩
      have F := Lib.hid (TQ.out.2.2.2.2.2.2.trans kz)
      clear kz
      go_wp2_with fail
      go_ret
      exact ⟨rfl, F.out⟩
     | cons x Pr =>
      have CN := Lib.hid (next_some hqb (by decide))
      have hxb := hpb x (List.mem_cons_self ..)
      clear hk hpb hqb hq2' hq3' hd
      go_wp2_with fail
      refine CL.out.mono ?_
      rintro e w' ⟨rfl, rfl⟩
      go_wp2_with fail
      refine CN.out.mono ?_
      rintro e w10 ⟨m1, rfl, hp1, hst1, hq10, k10⟩
      obtain ⟨Wa, hWa⟩ : ∃ W, w10.alloc (.cells zeroMs.cells.toArray 43) = W := ⟨_, rfl⟩
      have ba : MAt Wa w10.heap.size zeroMs := by rw [← hWa]; exact heap_alloc_new _ _
      have oa : Old w10 Wa := by rw [← hWa]; exact (Keeps.refl _ _).alloc _
      obtain ⟨W11, hst11, b11, kb11⟩ := store_msg ba m1 hst1.fine.one
      have o11 : Old w10 W11 := oa.then kb11 (fun j hj e => by omega)
      change w10.alloc (.cells #[.int .i64 0, .int .i64 0, .int .u64 0, .bool false, .slice none 0 0, .int .u64 0, .int .u64 0, .string ⟨#[]⟩, .slice none 0 0, .int .i64 0, .int .u64 0, .int .u64 0, .int .u64 0, .int .u64 0, .int .u64 0, .slice none 0 0, .slice none 0 0, .bool false] 43) = Wa at hWa
      rcases hxb with hxb | hxb
      ·have e1 : m1.tb = 0 := (congrArg PMs.tb hp1).trans hxb
       have hfo : (x :: Pr).filter (ofB 0) = x :: Pr.filter (ofB 0) := by rw [List.filter_cons, if_pos (by unfold ofB; simp [hxb])]
       have hfd : (x :: Pr).filter (ofB 1) = Pr.filter (ofB 1) := by rw [List.filter_cons, if_neg (by unfold ofB; simp [hxb])]
       have c9 := (tok_cells b11).1
       rw [e1] at c9
       have qx := TQ.out.2.1
       rw [hfo] at qx
       have CO := Lib.hid (next_some ((qx.stays k10 TQ.out.1.facts.2.1 (fun k hk h => (TQ.out.2.2.2.1 k h).1 hk)).old o11) (by decide))
       have V := Lib.hid (And.intro hp1 (And.intro hst1 (And.intro hq10 (And.intro k10 (And.intro o11 (And.intro b11 hfd))))))
       clear e1 hfo hfd qx hp1 hst1 hq10 k10 ba oa b11 kb11 o11 hxb
       go_wp2_with fail
       refine CO.out.mono ?_
       rintro e w12 ⟨m2, rfl, hp2, hst2, hq12, k12⟩
       obtain ⟨Wb, hWb⟩ : ∃ W, w12.alloc (.cells zeroMs.cells.toArray 43) = W := ⟨_, rfl⟩
       have bb : MAt Wb w12.heap.size zeroMs := by rw [← hWb]; exact heap_alloc_new _ _
       have obb : Old w12 Wb := by rw [← hWb]; exact (Keeps.refl _ _).alloc _
       obtain ⟨W13, hst13, b13, kb13⟩ := store_msg bb m2 hst2.fine.one
       have o13 : Old w12 W13 := obb.then kb13 (fun j hj e => by omega)
       change w12.alloc (.cells #[.int .i64 0, .int .i64 0, .int .u64 0, .bool false, .slice none 0 0, .int .u64 0, .int .u64 0, .string ⟨#[]⟩, .slice none 0 0, .int .i64 0, .int .u64 0, .int .u64 0, .int .u64 0, .int .u64 0, .int .u64 0, .slice none 0 0, .slice none 0 0, .bool false] 43) = Wb at hWb
       have no1 : ¬ R2 w10.heap.size := fun h => by have := hq12.facts; have h2 := TQ.out.2.1.facts.2.2 _ (TQ.out.2.1.facts.2.1 _ h); have := V.out.2.2.2.1.size; omega
       have b11' := (o13.block _ (by have := lt_of_heap V.out.2.2.2.2.2.1; have := k12.size; omega) (fun f => f)).trans ((k12.block _ (lt_of_heap V.out.2.2.2.2.2.1) no1).trans V.out.2.2.2.2.2.1)
       have lm1 := load_msg b11' (by simp [Ms.cells])
       have lm2 := load_msg b13 (by simp [Ms.cells])
       have hRoS : ∀ k, R2 k → S k := TQ.out.2.1.facts.2.1
       have f1 : m1.fine W13 := ((((V.out.2.1.old V.out.2.2.2.2.1).to (k12.weaken (fun j _ h => hRoS j h)))).old o13).fine
       have f2 : m2.fine W13 := (hst2.old o13).fine
       have CS := msg_same_any m1 m2 W13 f1 f2
       rw [V.out.1, hp2, (sameM_iff _ _).2 rfl] at CS
       have CSS := Lib.hid CS
       have hne : (x.1 != x.1) = false := by simp
       have G := Lib.hid (And.intro hq12 (And.intro k12 o13))
       clear hst2 hp2 hq12 k12 bb obb b13 kb13 o13 no1 b11' hRoS f1 f2 CS
       go_wp2_with fail
       refine CSS.out.mono ?_
       rintro e w14 ⟨rfl, k14⟩
       have K14 := Lib.hid k14
       clear k14
       go_wp2_with fail
       go_roundg Pr.length
       case measure => rw [HK.out]; simp
       case rel =>
        have dO : ∀ k, R1 k → ¬ R2 k := fun k hk => (TQ.out.2.2.2.1 k hk).1
        have kall : Keeps R2 w10 w12 := (V.out.2.2.2.2.1.weaken (T := R2) (fun _ _ f => f.elim)).trans G.out.2.1
        have hb := ((V.out.2.2.1.stays kall TQ.out.2.1.facts.2.1 dO).old G.out.2.2).old K14.out
        have ho := (G.out.1.old G.out.2.2).old K14.out
        have hxq := TQ.out.2.2.1
        rw [V.out.2.2.2.2.2.2] at hxq
        have hx2 := (((hxq.stays V.out.2.2.2.1 TQ.out.1.facts.2.1 (fun k hk h => (TQ.out.2.2.2.1 k h).2 hk)).stays kall TQ.out.2.1.facts.2.1 (fun k hk h => TQ.out.2.2.2.2.1 k h hk)).old G.out.2.2).old K14.out
        refine ⟨Pr, rfl, fun y hy => HP.out y (List.mem_cons_of_mem _ hy), R1, R2, R3, S, hb, ho, hx2, TQ.out.2.2.2.1, TQ.out.2.2.2.2.1, TQ.out.2.2.2.2.2.1, ?_⟩
        have hRw := TQ.out.2.2.2.2.2.1
        exact (((TQ.out.2.2.2.2.2.2.then V.out.2.2.2.1 (fun j hj h => by have := hRw j (.inl h); omega)).then kall (fun j hj h => by have := hRw j (.inr (.inl h)); omega)).trans G.out.2.2).trans K14.out
      ·have e1 : m1.tb = 1 := (congrArg PMs.tb hp1).trans hxb
       have hfo : (x :: Pr).filter (ofB 1) = x :: Pr.filter (ofB 1) := by rw [List.filter_cons, if_pos (by unfold ofB; simp [hxb])]
       have hfd : (x :: Pr).filter (ofB 0) = Pr.filter (ofB 0) := by rw [List.filter_cons, if_neg (by unfold ofB; simp [hxb])]
       have c9 := (tok_cells b11).1
       rw [e1] at c9
       have qx := TQ.out.2.2.1
       rw [hfo] at qx
       have CO := Lib.hid (next_some ((qx.stays k10 TQ.out.1.facts.2.1 (fun k hk h => (TQ.out.2.2.2.1 k h).2 hk)).old o11) (by decide))
       have V := Lib.hid (And.intro hp1 (And.intro hst1 (And.intro hq10 (And.intro k10 (And.intro o11 (And.intro b11 hfd))))))
       clear e1 hfo hfd qx hp1 hst1 hq10 k10 ba oa b11 kb11 o11 hxb
       go_wp2_with fail
       refine CO.out.mono ?_
       rintro e w12 ⟨m2, rfl, hp2, hst2, hq12, k12⟩
       obtain ⟨Wb, hWb⟩ : ∃ W, w12.alloc (.cells zeroMs.cells.toArray 43) = W := ⟨_, rfl⟩
       have bb : MAt Wb w12.heap.size zeroMs := by rw [← hWb]; exact heap_alloc_new _ _
       have obb : Old w12 Wb := by rw [← hWb]; exact (Keeps.refl _ _).alloc _
       obtain ⟨W13, hst13, b13, kb13⟩ := store_msg bb m2 hst2.fine.one
       have o13 : Old w12 W13 := obb.then kb13 (fun j hj e => by omega)
       change w12.alloc (.cells #[.int .i64 0, .int .i64 0, .int .u64 0, .bool false, .slice none 0 0, .int .u64 0, .int .u64 0, .string ⟨#[]⟩, .slice none 0 0, .int .i64 0, .int .u64 0, .int .u64 0, .int .u64 0, .int .u64 0, .int .u64 0, .slice none 0 0, .slice none 0 0, .bool false] 43) = Wb at hWb
       have no1 : ¬ R3 w10.heap.size := fun h => by have := hq12.facts; have h2 := TQ.out.2.2.1.facts.2.2 _ (TQ.out.2.2.1.facts.2.1 _ h); have := V.out.2.2.2.1.size; omega
       have b11' := (o13.block _ (by have := lt_of_heap V.out.2.2.2.2.2.1; have := k12.size; omega) (fun f => f)).trans ((k12.block _ (lt_of_heap V.out.2.2.2.2.2.1) no1).trans V.out.2.2.2.2.2.1)
       have lm1 := load_msg b11' (by simp [Ms.cells])
       have lm2 := load_msg b13 (by simp [Ms.cells])
       have hRoS : ∀ k, R3 k → S k := TQ.out.2.2.1.facts.2.1
       have f1 : m1.fine W13 := ((((V.out.2.1.old V.out.2.2.2.2.1).to (k12.weaken (fun j _ h => hRoS j h)))).old o13).fine
       have f2 : m2.fine W13 := (hst2.old o13).fine
       have CS := msg_same_any m1 m2 W13 f1 f2
       rw [V.out.1, hp2, (sameM_iff _ _).2 rfl] at CS
       have CSS := Lib.hid CS
       have hne : (x.1 != x.1) = false := by simp
       have G := Lib.hid (And.intro hq12 (And.intro k12 o13))
       clear hst2 hp2 hq12 k12 bb obb b13 kb13 o13 no1 b11' hRoS f1 f2 CS
       go_wp2_with fail
       refine CSS.out.mono ?_
       rintro e w14 ⟨rfl, k14⟩
       have K14 := Lib.hid k14
       clear k14
       go_wp2_with fail
       go_roundg Pr.length
       case measure => rw [HK.out]; simp
       case rel =>
        have dO : ∀ k, R1 k → ¬ R3 k := fun k hk => (TQ.out.2.2.2.1 k hk).2
        have kall : Keeps R3 w10 w12 := (V.out.2.2.2.2.1.weaken (T := R3) (fun _ _ f => f.elim)).trans G.out.2.1
        have hb := ((V.out.2.2.1.stays kall TQ.out.2.2.1.facts.2.1 dO).old G.out.2.2).old K14.out
        have ho := (G.out.1.old G.out.2.2).old K14.out
        have hxq := TQ.out.2.1
        rw [V.out.2.2.2.2.2.2] at hxq
        have hx2 := (((hxq.stays V.out.2.2.2.1 TQ.out.1.facts.2.1 (fun k hk h => (TQ.out.2.2.2.1 k h).1 hk)).stays kall TQ.out.2.2.1.facts.2.1 (fun k hk h => TQ.out.2.2.2.2.1 k hk h)).old G.out.2.2).old K14.out
        refine ⟨Pr, rfl, fun y hy => HP.out y (List.mem_cons_of_mem _ hy), R1, R2, R3, S, hb, hx2, ho, TQ.out.2.2.2.1, TQ.out.2.2.2.2.1, TQ.out.2.2.2.2.2.1, ?_⟩
        have hRw := TQ.out.2.2.2.2.2.1
        exact (((TQ.out.2.2.2.2.2.2.then V.out.2.2.2.1 (fun j hj h => by have := hRw j (.inl h); omega)).then kall (fun j hj h => by have := hRw j (.inr (.inr h)); omega)).trans G.out.2.2).trans K14.out

  obtain ⟨hlt, h60⟩ := hgo
  have hx : ts[i]? = some ts[i] := List.getElem?_eq_getElem hlt
  generalize ts[i] = t at hx
  obtain ⟨lb, lo, lc, e, _, _, hcell⟩ := HL.out.at (by omega)
  simp only [Value.slice.injEq] at e
  obtain ⟨rfl, -, rfl⟩ := e
  have hrt := HR.out t (List.mem_of_getElem? hx)
  obtain ⟨R1, R2, R3, S, hqb, hq2', hq3', hd1, hd2, hR, ho⟩ := TT.out
  have CO := Lib.hid (fun W (k : Old wr W) => (⟨(ho.trans k).cell (hcell i t hx 0 _ rfl) (fun f => f), (ho.trans k).cell (hcell i t hx 1 _ rfl) (fun f => f), (ho.trans k).cell (hcell i t hx 2 _ rfl) (fun f => f)⟩ :
   W.cell? ⟨lb, lo + i * 3, none⟩ = some (.int .i64 t.b) ∧ W.cell? ⟨lb, lo + i * 3 + 1, none⟩ = some (.int .u64 (t.l : Int)) ∧ W.cell? ⟨lb, lo + i * 3 + 2, none⟩ = some (.int .u64 (t.c : Int))))
  obtain ⟨b, hand, hb⟩ : ∃ b : Int, bits .and .i64 t.b 1 = b ∧ (b = 0 ∨ b = 1) := ⟨_, rfl, by have := and_small t.b 1 (by decide); simp at this; omega⟩
  have CA := Lib.hid (fun W (_ : Old wr W) => ask_any b t.l t.c W (by rcases hb with rfl | rfl <;> (unfold I64; decide)) hrt.2.1 hrt.2.2)
  have X := Lib.hid (And.intro hrt hx)
  have HB := Lib.hid hb
  have TD := Lib.hid (And.intro hqb (And.intro hq2' (And.intro hq3' (And.intro hd1 (And.intro hd2 (And.intro hR ho))))))
  clear hx hrt hcell hqb hq2' hq3' hd1 hd2 hR ho hb TT
  go_upto_region 9 with fail
  refine wp_region_r (n := 18) (S := fun W => Old wr W) (R := fun a b => Old a b) (B := fun b W => Old wr W ∧ W.heap[b]? = some (.cells #[.int .i64 0, .int .i64 0, .int .u64 0, .bool false, .slice none 0 0, .int .u64 0, .int .u64 0, .string ⟨#[]⟩, .slice none 0 0, .int .i64 0, .int .u64 0, .int .u64 0, .int .u64 0, .int .u64 0, .int .u64 0, .slice none 0 0, .slice none 0 0, .bool false] 43 (0, 0)) ∧ wr.heap.size ≤ b) (Q := fun a => ∀ b w, (Old wr w ∧ w.heap[b]? = some (.cells #[.int .i64 0, .int .i64 0, .int .u64 0, .bool false, .slice none 0 0, .int .u64 0, .int .u64 0, .string ⟨#[]⟩, .slice none 0 0, .int .i64 0, .int .u64 0, .int .u64 0, .int .u64 0, .int .u64 0, .int .u64 0, .slice none 0 0, .slice none 0 0, .bool false] 43 (0, 0)) ∧ wr.heap.size ≤ b) → wpOp Try.prog _ _ 18 _ (a.put (some 10) (.pointer (some ⟨b, 0, none⟩))) w) 17 18 (by kernel_rfl) (by kernel_rfl) rfl rfl (by kernel_rfl) (by kernel_rfl) (by kernel_rfl) (by kernel_rfl) (by kernel_rfl) (fun b w hB => hB.1) (fun b w w' hB hr => ⟨hB.1.trans hr, (hr.block _ (lt_of_heap hB.2.1) (fun f => f)).trans hB.2.1, hB.2.2⟩) (fun w w' hS hr => hS.trans hr) (fun w => Keeps.refl _ w) (fun a w K hS hK => wpOp_value rfl rfl (v := .pointer (some ⟨w.heap.size, 0, none⟩)) (w' := w.alloc (.cells #[.int .i64 0, .int .i64 0, .int .u64 0, .bool false, .slice none 0 0, .int .u64 0, .int .u64 0, .string ⟨#[]⟩, .slice none 0 0, .int .i64 0, .int .u64 0, .int .u64 0, .int .u64 0, .int .u64 0, .int .u64 0, .slice none 0 0, .slice none 0 0, .bool false] 43)) (by kernel_rfl) (hK _ _ ⟨hS.alloc _, heap_alloc_new _ _, hS.size⟩)) (fun a b w hB hQ => hQ b w hB) (Keeps.refl _ _).drew ?_
  intro hNS hSW
  refine wpAnyR_take (i := 0) (oi := _) (v := .slice (some ⟨lb, lo, none⟩) ts.length cl) rfl hNS hSW rfl (by kernel_rfl) (by kernel_rfl) (YR.value (by kernel_rfl) (fun w _ => by kernel_rfl)) ?_
  refine wpAnyR_take (i := 1) (oi := _) (v := .int .i64 (i : Int)) rfl hNS hSW rfl (by kernel_rfl) (by kernel_rfl) (YR.value (by kernel_rfl) (fun w _ => by kernel_rfl)) ?_
  refine wpAnyR_take (i := 2) (oi := _) (v := .pointer (some ⟨lb, lo + i * 3, none⟩)) rfl hNS hSW rfl (by kernel_rfl) (by kernel_rfl) (YR.value (by kernel_rfl) (fun w _ => by simp [execOp, go_sem, hlt])) ?_
  refine wpAnyR_take (i := 3) (oi := _) (v := .pointer (some ⟨lb, lo + i * 3, none⟩)) rfl hNS hSW rfl (by kernel_rfl) (by kernel_rfl) (YR.value (by kernel_rfl) (fun w _ => by simp [execOp, go_sem])) ?_
  refine wpAnyR_take (i := 4) (oi := _) (v := .int .i64 t.b) rfl hNS hSW rfl (by kernel_rfl) (by kernel_rfl) (YR.value (by kernel_rfl) (fun w hS => run_load_any (x := .tmp 54) (load_plain q1 (CO.out w hS).1) rfl (by kernel_rfl))) ?_
  refine wpAnyR_take (i := 5) (oi := _) (v := .int .i64 b) rfl hNS hSW rfl (by kernel_rfl) (by kernel_rfl) (YR.value (by kernel_rfl) (fun w _ => by simp [execOp, go_sem, hand])) ?_
  refine wpAnyR_take (i := 6) (oi := _) (v := .slice (some ⟨lb, lo, none⟩) ts.length cl) rfl hNS hSW rfl (by kernel_rfl) (by kernel_rfl) (YR.value (by kernel_rfl) (fun w _ => by kernel_rfl)) ?_
  refine wpAnyR_take (i := 7) (oi := _) (v := .int .i64 (i : Int)) rfl hNS hSW rfl (by kernel_rfl) (by kernel_rfl) (YR.value (by kernel_rfl) (fun w _ => by kernel_rfl)) ?_
  refine wpAnyR_take (i := 8) (oi := _) (v := .pointer (some ⟨lb, lo + i * 3, none⟩)) rfl hNS hSW rfl (by kernel_rfl) (by kernel_rfl) (YR.value (by kernel_rfl) (fun w _ => by simp [execOp, go_sem, hlt])) ?_
  refine wpAnyR_take (i := 9) (oi := _) (v := .pointer (some ⟨lb, lo + i * 3 + 1, none⟩)) rfl hNS hSW rfl (by kernel_rfl) (by kernel_rfl) (YR.value (by kernel_rfl) (fun w _ => by simp [execOp, go_sem])) ?_
  refine wpAnyR_take (i := 10) (oi := _) (v := .int .u64 (t.l : Int)) rfl hNS hSW rfl (by kernel_rfl) (by kernel_rfl) (YR.value (by kernel_rfl) (fun w hS => run_load_any (x := .tmp 60) (load_plain q2 (CO.out w hS).2.1) rfl (by kernel_rfl))) ?_
  refine wpAnyR_take (i := 11) (oi := _) (v := .slice (some ⟨lb, lo, none⟩) ts.length cl) rfl hNS hSW rfl (by kernel_rfl) (by kernel_rfl) (YR.value (by kernel_rfl) (fun w _ => by kernel_rfl)) ?_
  refine wpAnyR_take (i := 12) (oi := _) (v := .int .i64 (i : Int)) rfl hNS hSW rfl (by kernel_rfl) (by kernel_rfl) (YR.value (by kernel_rfl) (fun w _ => by kernel_rfl)) ?_
  refine wpAnyR_take (i := 13) (oi := _) (v := .pointer (some ⟨lb, lo + i * 3, none⟩)) rfl hNS hSW rfl (by kernel_rfl) (by kernel_rfl) (YR.value (by kernel_rfl) (fun w _ => by simp [execOp, go_sem, hlt])) ?_
  refine wpAnyR_take (i := 14) (oi := _) (v := .pointer (some ⟨lb, lo + i * 3 + 2, none⟩)) rfl hNS hSW rfl (by kernel_rfl) (by kernel_rfl) (YR.value (by kernel_rfl) (fun w _ => by simp [execOp, go_sem])) ?_
  refine wpAnyR_take (i := 15) (oi := _) (v := .int .u64 (t.c : Int)) rfl hNS hSW rfl (by kernel_rfl) (by kernel_rfl) (YR.value (by kernel_rfl) (fun w hS => run_load_any (x := .tmp 65) (load_plain q2 (CO.out w hS).2.2) rfl (by kernel_rfl))) ?_
  refine wpAnyR_take (i := 16) (oi := _) (v := .agg (askMs b t.l t.c).cells.toArray) rfl hNS hSW rfl (by kernel_rfl) (by kernel_rfl) (YR.call (by kernel_rfl) (fun w _ => by kernel_rfl) (fun w hS => CA.out w hS)) ?_
  refine wpAnyR_stop (by kernel_rfl) ?_
  intro mb w5 hB
  obtain ⟨W6, hst6, b6, k6⟩ := store_msg (show MAt w5 mb zeroMs from hB.2.1) (askMs b t.l t.c) (ask_bare b t.l t.c (by rcases HB.out with rfl | rfl <;> (unfold I64; decide)) X.out.1.2.1 X.out.1.2.2 (fun _ => False) w5).fine.one
  refine wpOp_skip rfl (by kernel_rfl) (run_store_any (x := .tmp 10) (y := .tmp 67) hst6 rfl (by kernel_rfl) (by kernel_rfl)) ?_
  clear hNS hSW
  try simp only [Act.put, List.setIfInBounds_toArray, List.set_cons_zero, List.set_cons_succ]
  have o6 : Old wr W6 := hB.1.then k6 (fun j hj e => by have := hB.2.2; omega)
  have Y := Lib.hid (And.intro TD.out.1 (And.intro TD.out.2.1 (And.intro TD.out.2.2.1 (And.intro (And.intro TD.out.2.2.2.1 TD.out.2.2.2.2) (And.intro o6 hB.2.2)))))
  clear hst6 k6 hB CA CO hand o6 TD
  rcases HB.out with hbb | hbb
  ·subst hbb
   have hbt : (((0 : Int)) == 1) = false := by decide
   have c9 := (tok_cells b6).1
   have E := Lib.hid (fun (W : World) (R : Nat → Prop) (k : Keeps R W6 W) (h : ¬ R mb) => (k.block _ (lt_of_heap b6) h).trans b6)
   have A := Lib.hid (add_ask (i : Int) 0 t.l t.c (by unfold I64; decide) X.out.1.2.1 X.out.1.2.2 ((Y.out.1.old Y.out.2.2.2.2.1).old (Keeps.refl (fun _ => False) W6).drew) (by decide) (by have := RR.out.1; omega))
   have AP := Lib.hid (ap_add (b := 0) (d := 1) (l := t.l) (c := t.c) (P := P) (k := (i : Int)) (by have := RR.out.1; omega) (by decide))
   have AM := Lib.hid (ap_mem (b := 0) (l := t.l) (c := t.c) (k := (i : Int)) (by decide) RR.out.2)
   have hSd : MAt W6.drew mb (askMs 0 t.l t.c) := b6
   clear b6
   go_wp2_with fail
   refine wp_region_g (S := fun W => MAt W mb (askMs 0 t.l t.c)) (M := [0, 1, 2, 3, 4, 5, 6, 7, 8]) (by kernel_rfl) ?_
   refine wpAnyG_takeL (i := 0) (oi := _) (v := ?va00) rfl (by kernel_rfl) (by kernel_rfl) (by kernel_rfl) (by kernel_rfl) (fun _ _ _ h => h) (Or.inl ⟨by rfl, ?ya00⟩) hSd ?ra00
   case ya00 => (intro W hSw; go_simp; try with_reducible rfl)
   try simp only [Act.put, List.setIfInBounds_toArray, List.set_cons_zero, List.set_cons_succ]
   refine wpAnyG_takeL (i := 1) (oi := _) (v := ?va01) rfl (by kernel_rfl) (by kernel_rfl) (by kernel_rfl) (by kernel_rfl) (fun _ _ _ h => h) (Or.inl ⟨by rfl, ?ya01⟩) hSd ?ra01
   case ya01 => (intro W hSw; go_simp; try with_reducible rfl)
   try simp only [Act.put, List.setIfInBounds_toArray, List.set_cons_zero, List.set_cons_succ]
   refine wpAnyG_takeL (i := 2) (oi := _) (v := ?va02) rfl (by kernel_rfl) (by kernel_rfl) (by kernel_rfl) (by kernel_rfl) (fun _ _ _ h => h) (Or.inl ⟨by rfl, ?ya02⟩) hSd ?ra02
   case ya02 => (intro W hSw; have y1 := load_msg hSw (by simp [Ms.cells]); go_simp; try with_reducible rfl)
   try simp only [Act.put, List.setIfInBounds_toArray, List.set_cons_zero, List.set_cons_succ]
   refine wpAnyG_takeL (i := 4) (oi := _) (v := ?va04) rfl (by kernel_rfl) (by kernel_rfl) (by kernel_rfl) (by kernel_rfl) (fun _ _ _ h => h) (Or.inl ⟨by rfl, ?ya04⟩) hSd ?ra04
   case ya04 => (intro W hSw; go_simp; try with_reducible rfl)
   try simp only [Act.put, List.setIfInBounds_toArray, List.set_cons_zero, List.set_cons_succ]
   refine wpAnyG_takeL (i := 5) (oi := _) (v := ?va05) rfl (by kernel_rfl) (by kernel_rfl) (by kernel_rfl) (by kernel_rfl) (fun _ _ _ h => h) (Or.inl ⟨by rfl, ?ya05⟩) hSd ?ra05
   case ya05 => (intro W hSw; go_simp; try with_reducible rfl)
   try simp only [Act.put, List.setIfInBounds_toArray, List.set_cons_zero, List.set_cons_succ]
   refine wpAnyG_takeL (i := 6) (oi := _) (v := ?va06) rfl (by kernel_rfl) (by kernel_rfl) (by kernel_rfl) (by kernel_rfl) (fun _ _ _ h => h) (Or.inl ⟨by rfl, ?ya06⟩) hSd ?ra06
   case ya06 => (intro W hSw; have y1 := load_msg hSw (by simp [Ms.cells]); go_simp; try with_reducible rfl)
   try simp only [Act.put, List.setIfInBounds_toArray, List.set_cons_zero, List.set_cons_succ]
   refine wpAnyG_onlyL (i := 3) (o := _) (by kernel_rfl) rfl (fun K hK => ?_)
   go_simp
   refine A.out.mono ?_
   rintro e w7 ⟨R1', g1, g1s, he, hq7, k7⟩
   obtain ⟨z, hz⟩ : ∃ z, (addP 200 P ((i : Int), pAsk 0 t.l t.c)).1 = z := ⟨_, rfl⟩
   have ap1 := AP.out.1
   rw [hz] at he ap1
   subst he
   have hlW : ∀ k, S k → k < wr.heap.size := Y.out.1.facts.2.2
   have hoS : ∀ k, R2 k → S k := Y.out.2.1.facts.2.1
   have hxS : ∀ k, R3 k → S k := Y.out.2.2.1.facts.2.1
   have h1S : ∀ k, R1 k → S k := Y.out.1.facts.2.1
   have dO : ∀ k, R2 k → ¬ R1 k := fun k hk h => (Y.out.2.2.2.1.1 k h).1 hk
   have dX : ∀ k, R3 k → ¬ R1 k := fun k hk h => (Y.out.2.2.2.1.1 k h).2 hk
   have kw7 : Keeps R1 wr w7 := ((Y.out.2.2.2.2.1.weaken (T := R1) (fun _ _ f => f.elim)).trans (Keeps.refl R1 W6).drew).trans k7
   have hx7 : ∀ k, R1' k → S k ∨ wr.heap.size ≤ k := fun k hk => by
    rcases g1 k hk with h | h
    ·exact .inl (h1S k h)
    ·have := Y.out.2.2.2.2.1.size; simp at h; exact .inr (by omega)
   have hb7 : ∀ k, R1' k → k < w7.heap.size := fun k hk => hq7.facts.2.2 k (.inr hk)
   have qo7 := (Y.out.2.1).beside (R1 := R1) (X := R1') kw7 h1S dO hx7 hb7
   have qx7 := (Y.out.2.2.1).beside (R1 := R1) (X := R1') kw7 h1S dX hx7 hb7
   have nm1 : ¬ R1 mb := fun h => by have := hlW mb (h1S mb h); have := Y.out.2.2.2.2.2; omega
   have em7 : MAt w7 mb (askMs 0 t.l t.c) := E.out w7 R1 ((Keeps.refl R1 W6).drew.trans k7) nm1
   have A2 := Lib.hid (add_ask (i : Int) 0 t.l t.c (by unfold I64; decide) X.out.1.2.1 X.out.1.2.2 qo7 (by decide) (by have := RR.out.1; have := List.length_filter_le (ofB 0) P; omega))
   have nm2 : ¬ R2 mb := fun h => by have := hlW mb (hoS mb h); have := Y.out.2.2.2.2.2; omega
   have Z := Lib.hid (And.intro hq7 (And.intro qx7 (And.intro k7 (And.intro g1 (And.intro kw7 (And.intro em7 nm2))))))
   have ZZ := Lib.hid (And.intro hlW (And.intro hoS (And.intro hxS (And.intro h1S (And.intro dO (And.intro dX ap1))))))
   clear hq7 qo7 qx7 g1 g1s k7 hz hlW hoS hxS h1S dO dX kw7 hx7 hb7 ap1 nm1 nm2 A
   go_wp2_with fail
   refine hK.out _ _ (fun _ => em7) ?_
   clear hK K
   try simp only [Act.put, List.setIfInBounds_toArray, List.set_cons_zero, List.set_cons_succ]
   refine wpAnyG_onlyL (i := 7) (o := _) (by kernel_rfl) rfl (fun K hK => ?_)
   go_simp
   refine A2.out.mono ?_
   rintro e w8 ⟨R2', g2, g2s, he, hq8, k8⟩
   rw [← ZZ.out.2.2.2.2.2.2] at he
   subst he
   have em8 : MAt w8 mb (askMs 0 t.l t.c) := (k8.block _ (lt_of_heap em7) Z.out.2.2.2.2.2.2).trans em7
   have U := Lib.hid (And.intro g2 (And.intro hq8 k8))
   clear g2 g2s hq8 k8 A2
   go_wp2_with fail
   refine hK.out _ _ (fun _ => em8) ?_
   clear hK K
   try simp only [Act.put, List.setIfInBounds_toArray, List.set_cons_zero, List.set_cons_succ]
   refine wpAnyG_takeL (i := 8) (oi := _) (v := ?va08) rfl (by kernel_rfl) (by kernel_rfl) (by kernel_rfl) (by kernel_rfl) (fun _ _ _ h => h) (Or.inl ⟨by rfl, ?ya08⟩) em8 ?ra08
   case ya08 => (intro W hSw; go_simp; try with_reducible rfl)
   try simp only [Act.put, List.setIfInBounds_toArray, List.set_cons_zero, List.set_cons_succ]
   refine wpAnyG_done (by kernel_rfl) ?_ _
   go_simp
   have hzz : (z != z) = false := by simp
   go_wp2_with fail
   have hd1 := Y.out.2.2.2.1.1
   have hd2 := Y.out.2.2.2.1.2.1
   have hRw := Y.out.2.2.2.1.2.2.1
   have hoW := Y.out.2.2.2.1.2.2.2
   have s6 := Y.out.2.2.2.2.1.size
   have d1o : ∀ k, R1' k → ¬ R2 k := fun k hk h => by
    rcases Z.out.2.2.2.1 k hk with h1 | h1
    ·exact ZZ.out.2.2.2.2.1 k h h1
    ·have := ZZ.out.1 k (ZZ.out.2.1 k h); simp at h1; omega
   have d1x : ∀ k, R1' k → ¬ R3 k := fun k hk h => by
    rcases Z.out.2.2.2.1 k hk with h1 | h1
    ·exact ZZ.out.2.2.2.2.2.1 k h h1
    ·have := ZZ.out.1 k (ZZ.out.2.2.1 k h); simp at h1; omega
   have dxo : ∀ k, R3 k → ¬ R2 k := fun k h h' => hd2 k h' h
   have hX : ∀ k, R2' k → (S k ∨ R1' k) ∨ w7.heap.size ≤ k := fun k hk => by
    rcases U.out.1 k hk with h | h
    ·exact .inl (.inl (ZZ.out.2.1 k h))
    ·exact .inr h
   have hXb : ∀ k, R2' k → k < w8.heap.size := fun k hk => U.out.2.1.facts.2.2 k (.inr hk)
   have qb8 := Z.out.1.beside (R1 := R2) (X := R2') U.out.2.2 (fun k h => .inl (ZZ.out.2.1 k h)) d1o hX hXb
   have qx8 := Z.out.2.1.beside (R1 := R2) (X := R2') U.out.2.2 (fun k h => .inl (ZZ.out.2.1 k h)) dxo hX hXb
   have qo8 := U.out.2.1
   rw [AP.out.2.1] at qo8
   rw [AP.out.2.2.1] at qx8
   have sz7 : wr.heap.size ≤ w7.heap.size := Z.out.2.2.2.2.1.size
   have new1 : ∀ k, R1' k → w.heap.size ≤ k := fun k hk => by
    rcases Z.out.2.2.2.1 k hk with h | h
    ·exact hRw k (.inl h)
    ·have := hoW.size; simp at h; omega
   have newo : ∀ k, R2' k → w.heap.size ≤ k := fun k hk => by
    rcases U.out.1 k hk with h | h
    ·exact hRw k (by exact .inr (.inl h))
    ·have := hoW.size; omega
   have dd1 : ∀ k, R1' k → ¬ R2' k := fun k hk h => by
    rcases U.out.1 k h with h1 | h1
    ·exact d1o k hk h1
    ·have := Z.out.1.facts.2.2 k (.inr hk); omega
   have ddx : ∀ k, R2' k → ¬ R3 k := fun k hk h => by
    rcases U.out.1 k hk with h1 | h1
    ·exact dxo k h h1
    ·have := ZZ.out.1 k (ZZ.out.2.2.1 k h); omega
   have o8 : Old w w8 := (hoW.then Z.out.2.2.2.2.1 (fun j hj h => by have := hRw j (.inl h); omega)).then U.out.2.2 (fun j hj h => by have := hRw j (.inr (.inl h)); omega)
   have TRI : Tri w w8 b1 b2 b3 (addP 200 P ((i : Int), pAsk 0 t.l t.c)).2 ((addP 200 P ((i : Int), pAsk 0 t.l t.c)).2.filter (ofB 0)) ((addP 200 P ((i : Int), pAsk 0 t.l t.c)).2.filter (ofB 1)) :=
    ⟨R1', R2', R3, _, qb8, qo8, qx8, fun k hk => ⟨dd1 k hk, d1x k hk⟩, ddx, fun k hk => by rcases hk with h | h | h; exact new1 k h; exact newo k h; exact hRw k (.inr (.inr h)), o8⟩
   have FF := Lib.hid (And.intro TRI (And.intro AM.out AP.out.2.2.2))
   clear hd1 hd2 hRw hoW s6 d1o d1x dxo hX hXb qb8 qx8 qo8 sz7 new1 newo dd1 ddx o8 TRI em7 em8 hzz
   go_roundw
   case rel => exact ⟨i + 1, _, by go_num, by omega, by omega, by have := FF.out.2.2; have := RR.out.1; omega, FF.out.2.1, FF.out.1⟩
   case measure => simp [intOf]; omega
  ·subst hbb
   have hbt : (((1 : Int)) == 1) = true := by decide
   have c9 := (tok_cells b6).1
   have E := Lib.hid (fun (W : World) (R : Nat → Prop) (k : Keeps R W6 W) (h : ¬ R mb) => (k.block _ (lt_of_heap b6) h).trans b6)
   have A := Lib.hid (add_ask (i : Int) 1 t.l t.c (by unfold I64; decide) X.out.1.2.1 X.out.1.2.2 ((Y.out.1.old Y.out.2.2.2.2.1).old (Keeps.refl (fun _ => False) W6).drew) (by decide) (by have := RR.out.1; omega))
   have AP := Lib.hid (ap_add (b := 1) (d := 0) (l := t.l) (c := t.c) (P := P) (k := (i : Int)) (by have := RR.out.1; omega) (by decide))
   have AM := Lib.hid (ap_mem (b := 1) (l := t.l) (c := t.c) (k := (i : Int)) (by decide) RR.out.2)
   have hSd : MAt W6.drew mb (askMs 1 t.l t.c) := b6
   clear b6
   go_wp2_with fail
   refine wp_region_g (S := fun W => MAt W mb (askMs 1 t.l t.c)) (M := [0, 1, 2, 3, 4, 5, 6, 7, 8]) (by kernel_rfl) ?_
   refine wpAnyG_takeL (i := 0) (oi := _) (v := ?va10) rfl (by kernel_rfl) (by kernel_rfl) (by kernel_rfl) (by kernel_rfl) (fun _ _ _ h => h) (Or.inl ⟨by rfl, ?ya10⟩) hSd ?ra10
   case ya10 => (intro W hSw; go_simp; try with_reducible rfl)
   try simp only [Act.put, List.setIfInBounds_toArray, List.set_cons_zero, List.set_cons_succ]
   refine wpAnyG_takeL (i := 1) (oi := _) (v := ?va11) rfl (by kernel_rfl) (by kernel_rfl) (by kernel_rfl) (by kernel_rfl) (fun _ _ _ h => h) (Or.inl ⟨by rfl, ?ya11⟩) hSd ?ra11
   case ya11 => (intro W hSw; go_simp; try with_reducible rfl)
   try simp only [Act.put, List.setIfInBounds_toArray, List.set_cons_zero, List.set_cons_succ]
   refine wpAnyG_takeL (i := 2) (oi := _) (v := ?va12) rfl (by kernel_rfl) (by kernel_rfl) (by kernel_rfl) (by kernel_rfl) (fun _ _ _ h => h) (Or.inl ⟨by rfl, ?ya12⟩) hSd ?ra12
   case ya12 => (intro W hSw; have y1 := load_msg hSw (by simp [Ms.cells]); go_simp; try with_reducible rfl)
   try simp only [Act.put, List.setIfInBounds_toArray, List.set_cons_zero, List.set_cons_succ]
   refine wpAnyG_takeL (i := 4) (oi := _) (v := ?va14) rfl (by kernel_rfl) (by kernel_rfl) (by kernel_rfl) (by kernel_rfl) (fun _ _ _ h => h) (Or.inl ⟨by rfl, ?ya14⟩) hSd ?ra14
   case ya14 => (intro W hSw; go_simp; try with_reducible rfl)
   try simp only [Act.put, List.setIfInBounds_toArray, List.set_cons_zero, List.set_cons_succ]
   refine wpAnyG_takeL (i := 5) (oi := _) (v := ?va15) rfl (by kernel_rfl) (by kernel_rfl) (by kernel_rfl) (by kernel_rfl) (fun _ _ _ h => h) (Or.inl ⟨by rfl, ?ya15⟩) hSd ?ra15
   case ya15 => (intro W hSw; go_simp; try with_reducible rfl)
   try simp only [Act.put, List.setIfInBounds_toArray, List.set_cons_zero, List.set_cons_succ]
   refine wpAnyG_takeL (i := 6) (oi := _) (v := ?va16) rfl (by kernel_rfl) (by kernel_rfl) (by kernel_rfl) (by kernel_rfl) (fun _ _ _ h => h) (Or.inl ⟨by rfl, ?ya16⟩) hSd ?ra16
   case ya16 => (intro W hSw; have y1 := load_msg hSw (by simp [Ms.cells]); go_simp; try with_reducible rfl)
   try simp only [Act.put, List.setIfInBounds_toArray, List.set_cons_zero, List.set_cons_succ]
   refine wpAnyG_onlyL (i := 3) (o := _) (by kernel_rfl) rfl (fun K hK => ?_)
   go_simp
   refine A.out.mono ?_
   rintro e w7 ⟨R1', g1, g1s, he, hq7, k7⟩
   obtain ⟨z, hz⟩ : ∃ z, (addP 200 P ((i : Int), pAsk 1 t.l t.c)).1 = z := ⟨_, rfl⟩
   have ap1 := AP.out.1
   rw [hz] at he ap1
   subst he
   have hlW : ∀ k, S k → k < wr.heap.size := Y.out.1.facts.2.2
   have hoS : ∀ k, R3 k → S k := Y.out.2.2.1.facts.2.1
   have hxS : ∀ k, R2 k → S k := Y.out.2.1.facts.2.1
   have h1S : ∀ k, R1 k → S k := Y.out.1.facts.2.1
   have dO : ∀ k, R3 k → ¬ R1 k := fun k hk h => (Y.out.2.2.2.1.1 k h).2 hk
   have dX : ∀ k, R2 k → ¬ R1 k := fun k hk h => (Y.out.2.2.2.1.1 k h).1 hk
   have kw7 : Keeps R1 wr w7 := ((Y.out.2.2.2.2.1.weaken (T := R1) (fun _ _ f => f.elim)).trans (Keeps.refl R1 W6).drew).trans k7
   have hx7 : ∀ k, R1' k → S k ∨ wr.heap.size ≤ k := fun k hk => by
    rcases g1 k hk with h | h
    ·exact .inl (h1S k h)
    ·have := Y.out.2.2.2.2.1.size; simp at h; exact .inr (by omega)
   have hb7 : ∀ k, R1' k → k < w7.heap.size := fun k hk => hq7.facts.2.2 k (.inr hk)
   have qo7 := (Y.out.2.2.1).beside (R1 := R1) (X := R1') kw7 h1S dO hx7 hb7
   have qx7 := (Y.out.2.1).beside (R1 := R1) (X := R1') kw7 h1S dX hx7 hb7
   have nm1 : ¬ R1 mb := fun h => by have := hlW mb (h1S mb h); have := Y.out.2.2.2.2.2; omega
   have em7 : MAt w7 mb (askMs 1 t.l t.c) := E.out w7 R1 ((Keeps.refl R1 W6).drew.trans k7) nm1
   have A2 := Lib.hid (add_ask (i : Int) 1 t.l t.c (by unfold I64; decide) X.out.1.2.1 X.out.1.2.2 qo7 (by decide) (by have := RR.out.1; have := List.length_filter_le (ofB 1) P; omega))
   have nm2 : ¬ R3 mb := fun h => by have := hlW mb (hoS mb h); have := Y.out.2.2.2.2.2; omega
   have Z := Lib.hid (And.intro hq7 (And.intro qx7 (And.intro k7 (And.intro g1 (And.intro kw7 (And.intro em7 nm2))))))
   have ZZ := Lib.hid (And.intro hlW (And.intro hoS (And.intro hxS (And.intro h1S (And.intro dO (And.intro dX ap1))))))
   clear hq7 qo7 qx7 g1 g1s k7 hz hlW hoS hxS h1S dO dX kw7 hx7 hb7 ap1 nm1 nm2 A
   go_wp2_with fail
   refine hK.out _ _ (fun _ => em7) ?_
   clear hK K
   try simp only [Act.put, List.setIfInBounds_toArray, List.set_cons_zero, List.set_cons_succ]
   refine wpAnyG_onlyL (i := 7) (o := _) (by kernel_rfl) rfl (fun K hK => ?_)
   go_simp
   refine A2.out.mono ?_
   rintro e w8 ⟨R3', g2, g2s, he, hq8, k8⟩
   rw [← ZZ.out.2.2.2.2.2.2] at he
   subst he
   have em8 : MAt w8 mb (askMs 1 t.l t.c) := (k8.block _ (lt_of_heap em7) Z.out.2.2.2.2.2.2).trans em7
   have U := Lib.hid (And.intro g2 (And.intro hq8 k8))
   clear g2 g2s hq8 k8 A2
   go_wp2_with fail
   refine hK.out _ _ (fun _ => em8) ?_
   clear hK K
   try simp only [Act.put, List.setIfInBounds_toArray, List.set_cons_zero, List.set_cons_succ]
   refine wpAnyG_takeL (i := 8) (oi := _) (v := ?va18) rfl (by kernel_rfl) (by kernel_rfl) (by kernel_rfl) (by kernel_rfl) (fun _ _ _ h => h) (Or.inl ⟨by rfl, ?ya18⟩) em8 ?ra18
   case ya18 => (intro W hSw; go_simp; try with_reducible rfl)
   try simp only [Act.put, List.setIfInBounds_toArray, List.set_cons_zero, List.set_cons_succ]
   refine wpAnyG_done (by kernel_rfl) ?_ _
   go_simp
   have hzz : (z != z) = false := by simp
   go_wp2_with fail
   have hd1 := Y.out.2.2.2.1.1
   have hd2 := Y.out.2.2.2.1.2.1
   have hRw := Y.out.2.2.2.1.2.2.1
   have hoW := Y.out.2.2.2.1.2.2.2
   have s6 := Y.out.2.2.2.2.1.size
   have d1o : ∀ k, R1' k → ¬ R3 k := fun k hk h => by
    rcases Z.out.2.2.2.1 k hk with h1 | h1
    ·exact ZZ.out.2.2.2.2.1 k h h1
    ·have := ZZ.out.1 k (ZZ.out.2.1 k h); simp at h1; omega
   have d1x : ∀ k, R1' k → ¬ R2 k := fun k hk h => by
    rcases Z.out.2.2.2.1 k hk with h1 | h1
    ·exact ZZ.out.2.2.2.2.2.1 k h h1
    ·have := ZZ.out.1 k (ZZ.out.2.2.1 k h); simp at h1; omega
   have dxo : ∀ k, R2 k → ¬ R3 k := fun k h h' => hd2 k h h'
   have hX : ∀ k, R3' k → (S k ∨ R1' k) ∨ w7.heap.size ≤ k := fun k hk => by
    rcases U.out.1 k hk with h | h
    ·exact .inl (.inl (ZZ.out.2.1 k h))
    ·exact .inr h
   have hXb : ∀ k, R3' k → k < w8.heap.size := fun k hk => U.out.2.1.facts.2.2 k (.inr hk)
   have qb8 := Z.out.1.beside (R1 := R3) (X := R3') U.out.2.2 (fun k h => .inl (ZZ.out.2.1 k h)) d1o hX hXb
   have qx8 := Z.out.2.1.beside (R1 := R3) (X := R3') U.out.2.2 (fun k h => .inl (ZZ.out.2.1 k h)) dxo hX hXb
   have qo8 := U.out.2.1
   rw [AP.out.2.1] at qo8
   rw [AP.out.2.2.1] at qx8
   have sz7 : wr.heap.size ≤ w7.heap.size := Z.out.2.2.2.2.1.size
   have new1 : ∀ k, R1' k → w.heap.size ≤ k := fun k hk => by
    rcases Z.out.2.2.2.1 k hk with h | h
    ·exact hRw k (.inl h)
    ·have := hoW.size; simp at h; omega
   have newo : ∀ k, R3' k → w.heap.size ≤ k := fun k hk => by
    rcases U.out.1 k hk with h | h
    ·exact hRw k (by exact .inr (.inr h))
    ·have := hoW.size; omega
   have dd1 : ∀ k, R1' k → ¬ R3' k := fun k hk h => by
    rcases U.out.1 k h with h1 | h1
    ·exact d1o k hk h1
    ·have := Z.out.1.facts.2.2 k (.inr hk); omega
   have ddx : ∀ k, R3' k → ¬ R2 k := fun k hk h => by
    rcases U.out.1 k hk with h1 | h1
    ·exact dxo k h h1
    ·have := ZZ.out.1 k (ZZ.out.2.2.1 k h); omega
   have o8 : Old w w8 := (hoW.then Z.out.2.2.2.2.1 (fun j hj h => by have := hRw j (.inl h); omega)).then U.out.2.2 (fun j hj h => by have := hRw j (.inr (.inr h)); omega)
   have TRI : Tri w w8 b1 b2 b3 (addP 200 P ((i : Int), pAsk 1 t.l t.c)).2 ((addP 200 P ((i : Int), pAsk 1 t.l t.c)).2.filter (ofB 0)) ((addP 200 P ((i : Int), pAsk 1 t.l t.c)).2.filter (ofB 1)) :=
    ⟨R1', R2, R3', _, qb8, qx8, qo8, fun k hk => ⟨d1x k hk, dd1 k hk⟩, fun k h h' => ddx k h' h, fun k hk => by rcases hk with h | h | h; exact new1 k h; exact hRw k (.inr (.inl h)); exact newo k h, o8⟩
   have FF := Lib.hid (And.intro TRI (And.intro AM.out AP.out.2.2.2))
   clear hd1 hd2 hRw hoW s6 d1o d1x dxo hX hXb qb8 qx8 qo8 sz7 new1 newo dd1 ddx o8 TRI em7 em8 hzz
   go_roundw
   case rel => exact ⟨i + 1, _, by go_num, by omega, by omega, by have := FF.out.2.2; have := RR.out.1; omega, FF.out.2.1, FF.out.1⟩
   case measure => simp [intOf]; omega
end Go.Proofs.Ytiednihagnehlaa
