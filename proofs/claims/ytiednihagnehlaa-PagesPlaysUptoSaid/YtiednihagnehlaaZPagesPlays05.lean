/- DERIVED. Chapter 25: a query of a broker; the chapter's rows. · DERIVED. Chapter 25: the chapter's rows. (gen_qi.py wrote it) · DERIVED. Chapter 25: theirs. (gen_ow.py wrote its like for chapter 21) · DERIVED. How arguments read: bytes; and what the bound on their bulk gives. -/
import Derived.Test.YtiednihagnehlaaY24
import Derived.Test.YtiednihagnehlaaY20
import Derived.Test.YtiednihagnehlaaRows
import Derived.Test.YtiednihagnehlaaY01
import Derived.ProofKit
import Derived.OpenShut
namespace Go.Proofs.Ytiednihagnehlaa
open Go.RowKit

/-- the query that 'ask' makes -/
def askMs (b : Int) (l c : Nat) : Ms := { zeroMs with kind := 5, tb := b, tl := l, tc := c, frm := 1 }
abbrev pAsk (b : Int) (l c : Nat) : PMs := (askMs b l c).plain
theorem ask_bare (b : Int) (l c : Nat) (hb : I64 b) (hl : U64 l) (hc : U64 c) : BareMs (askMs b l c) :=
 bare_of fun w => fine_nums (zero_fine w) 5 0 b 0 l c 1 ⟨by unfold I64; decide, by unfold I64; decide, hb⟩ ⟨by unfold U64; decide, hl, hc, by unfold U64; decide⟩ false
attribute [-go_sem] loadVar storeVar
set_option maxRecDepth 100000 in
theorem ask_any (b : Int) (l c : Nat) (w : World) (hb : I64 b) (hl : U64 l) (hc : U64 c) : Calls Try.prog 9 #[.int .i64 b, .int .u64 (l : Int), .int .u64 (c : Int)] w fun e w' => e = .returned (.agg (askMs b l c).cells.toArray) ∧ Old w w' := by
 have hone := (ask_bare b l c hb hl hc (fun _ => False) w).fine.one
 obtain ⟨Wa, hWa⟩ : ∃ W, w.alloc (.cells zeroMs.cells.toArray 43) = W := ⟨_, rfl⟩
 have ba : MAt Wa w.heap.size zeroMs := by rw [← hWa]; exact heap_alloc_new _ _
 have oa : Old w Wa := by rw [← hWa]; exact (Keeps.refl _ _).alloc _
 obtain ⟨W2, hst, b2, kb⟩ := store_msg ba (askMs b l c) hone
 have o2 : Old w W2 := oa.then kb (fun i hi e => by omega)
 have gl := load_msg b2 rfl
 change (storeVar 43 ⟨w.heap.size, 0, none⟩ (.agg #[.int .i64 5, .int .i64 0, .int .u64 0, .bool false, .slice none 0 0, .int .u64 0, .int .u64 0, .string ⟨#[]⟩, .slice none 0 0, .int .i64 b, .int .u64 (l : Int), .int .u64 (c : Int), .int .u64 1, .int .u64 0, .int .u64 0, .slice none 0 0, .slice none 0 0, .bool false])).run Try.prog Wa = .ok () W2 at hst
 change w.alloc (.cells #[.int .i64 0, .int .i64 0, .int .u64 0, .bool false, .slice none 0 0, .int .u64 0, .int .u64 0, .string ⟨#[]⟩, .slice none 0 0, .int .i64 0, .int .u64 0, .int .u64 0, .int .u64 0, .int .u64 0, .int .u64 0, .slice none 0 0, .slice none 0 0, .bool false] 43) = Wa at hWa
 have K := Lib.hid (And.intro o2 gl)
 clear ba oa b2 kb o2 gl hone hb hl hc
 go_enter Try.func9, Try.ntmps9
 go_wp2_with fail
 have gl := K.out.2
 refine bodyPost_ret (v := .agg (askMs b l c).cells.toArray) ?_ rfl ⟨rfl, K.out.1⟩
 simp [results, Try.results9, go_sem, gl]

theorem may_ask (b : Int) (l c : Nat) : mayM (pAsk b l c) = (decide (0 ≤ b) && (decide (b < 64) && (numOk l && numOk c))) := by
 have h0 : partsL (pAsk b l c).kind = [5, 0, 3, 6] := rfl
 unfold mayM
 have hp : ∀ p : Int, partOk (pAsk b l c) p = if p = 5 ∨ p = 0 ∨ p = 3 ∨ p = 6 then rightM (pAsk b l c) p else bareM (pAsk b l c) p := by
  intro p
  unfold partOk
  rw [h0]
  simp
 have e5 : rightM (pAsk b l c) 5 = (decide (0 ≤ b) && (decide (b < 64) && (numOk l && numOk c))) := rfl
 have e0 : rightM (pAsk b l c) 0 = true := rfl
 have e3 : rightM (pAsk b l c) 3 = true := rfl
 have e6 : rightM (pAsk b l c) 6 = true := rfl
 have f1 : bareM (pAsk b l c) 1 = true := rfl
 have f2 : bareM (pAsk b l c) 2 = true := rfl
 have f4 : bareM (pAsk b l c) 4 = true := (show sameI zeroMs.plain.it noItem = true by decide +kernel)
 have f7 : bareM (pAsk b l c) 7 = true := (show sameG zeroMs.plain.pg noPage = true by decide +kernel)
 have hr : List.range 8 = [0, 1, 2, 3, 4, 5, 6, 7] := rfl
 rw [hr, h0]
 simp only [List.all_cons, List.all_nil, hp]
 simp [e5, e0, e3, e6, f1, f2, f4, f7]

theorem add_ask {R S : Nat → Prop} {w : World} {qb most : Nat} {P : List (Int × PMs)} (link b : Int) (l c : Nat) (hb : I64 b) (hl : U64 l) (hc : U64 c) (h : QuP R S w qb most P) (hm : 1 ≤ most) (hlen : P.length ≤ 10000) :
  Calls Try.prog 10 #[.pointer (some ⟨qb, 0, none⟩), .int .i64 link, .agg (askMs b l c).cells.toArray] w (AddPost R S w qb most P (link, pAsk b l c)) :=
 add_q link (askMs b l c) h hm hlen (ask_bare b l c hb hl hc S w)
theorem addP_ask (most : Nat) (P : List (Int × PMs)) (link b : Int) (l c : Nat) : addP most P (link, pAsk b l c) =
  if (decide (0 ≤ b) && (decide (b < 64) && (numOk l && numOk c))) = true then
   if P.any (staleP b l c) = true then (9, P)
   else if decide (most ≤ (P.filter fun y => !dropP b l y).length) = true then (7, P.filter fun y => !dropP b l y)
   else (0, (P.filter fun y => !dropP b l y) ++ [(link, pAsk b l c)])
  else (30, P) := by
 unfold addP
 rw [if_pos (show ((link, pAsk b l c).2.kind == 5) = true from rfl), show (link, pAsk b l c).2 = pAsk b l c from rfl, may_ask]
 rfl
/-- a queue of which all memory is new since the world w -/
def QN (w : World) (W : World) (qb most : Nat) (P : List (Int × PMs)) : Prop := ∃ R S : Nat → Prop, QuP R S W qb most P ∧ (∀ k, R k → w.heap.size ≤ k) ∧ Old w W
theorem QN.add {w W W' : World} {qb most : Nat} {P : List (Int × PMs)} {x : Int × PMs} {e : Ending} {R S : Nat → Prop} (hR : ∀ k, R k → w.heap.size ≤ k) (ho : Old w W) (h : AddPost R S W qb most P x e W') : e = .returned (.int .i64 (addP most P x).1) ∧ QN w W' qb most (addP most P x).2 := by
 obtain ⟨R', h1, h2, he, hq, hk⟩ := h
 refine ⟨he, R', _, hq, fun k hk => ?_, ho.then hk (fun i hi hr => by have := hR i hr; omega)⟩
 rcases h1 k hk with h | h
 ·exact hR k h
 ·exact Nat.le_trans ho.size h
end Go.Proofs.Ytiednihagnehlaa

namespace Go.Proofs.Ytiednihagnehlaa
open Go.RowKit

theorem QN.next_yes {w W W' : World} {qb most : Nat} {x : Int × PMs} {P : List (Int × PMs)} {e : Ending} {R S : Nat → Prop} (hR : ∀ k, R k → w.heap.size ≤ k) (ho : Old w W) (h : NextYes R S W qb most x P e W') : ∃ m : Ms, e = .returned (.tuple #[.int .i64 x.1, .agg m.cells.toArray, .bool true]) ∧ m.plain = x.2 ∧ m.fine W' ∧ QN w W' qb most P := by
 obtain ⟨m, he, hp, hs, hq, hk⟩ := h
 exact ⟨m, he, hp, hs.fine, R, S, hq, hR, ho.then hk (fun i hi hr => by have := hR i hr; omega)⟩
theorem QN.old {w W W' : World} {qb most : Nat} {P : List (Int × PMs)} (h : QN w W qb most P) (hk : Old W W') : QN w W' qb most P := by
 obtain ⟨R, S, hq, hR, ho⟩ := h
 exact ⟨R, S, hq.old hk, hR, ho.trans hk⟩
theorem QN.to {w W : World} {qb most : Nat} {P : List (Int × PMs)} (h : QN w W qb most P) : Old w W := by
 obtain ⟨R, S, hq, hR, ho⟩ := h
 exact ho
theorem tok_cells {w : World} {b : Nat} {m : Ms} {t : TypeId} (h : w.heap[b]? = some (.cells m.cells.toArray t (0, 0))) :
  w.cell? ⟨b, 9, none⟩ = some (.int .i64 m.tb) ∧ w.cell? ⟨b, 10, none⟩ = some (.int .u64 (m.tl : Int)) ∧ w.cell? ⟨b, 11, none⟩ = some (.int .u64 (m.tc : Int)) := by simp [World.cell?, h, Ms.cells]

attribute [-go_sem] loadVar storeVar
set_option maxRecDepth 100000 in
set_option maxHeartbeats 4000000 in
theorem pwakes_any (w : World) : Calls Try.prog 15 #[] w fun e w' => e = .returned (.bool true) ∧ Old w w' := by
 have q2 : ∀ a W, (loadVar 28 a).run Try.prog W = (load a).run Try.prog W := fun _ _ => by kernel_rfl
 have C0 := Lib.hid (new_yes 2 w ⟨by decide, by decide⟩)
 go_enter Try.func15, Try.ntmps15
 go_wp2_with fail
 refine C0.out.mono ?_
 rintro e w0 ⟨qb, rfl, rfl, k1, hq1⟩
 have Q0 := Lib.hid (show QN w w0 w.heap.size 2 [] from ⟨_, _, ⟨[], rfl, hq1 (fun _ => False) (fun _ f => f.elim)⟩, fun k hk => by subst hk; exact Nat.le_refl _, k1⟩)
 clear k1 hq1 C0
 go_wp2_with fail
 refine (ask_any 3 1 1 _ (by unfold I64; decide) (by unfold U64; decide) (by unfold U64; decide)).mono ?_
 rintro e w0a ⟨rfl, k0⟩
 obtain ⟨R0, S0, hq0, hR0, ho0⟩ := Q0.out.old k0
 have A0 := Lib.hid (add_ask 0 3 1 1 (by unfold I64; decide) (by unfold U64; decide) (by unfold U64; decide) hq0 (by decide) (by decide))
 have hv0 : addP 2 [] (0, pAsk 3 1 1) = (0, [(0, pAsk 3 1 1)]) := by rw [addP_ask]; rfl
 have Y0 := Lib.hid (And.intro hR0 (And.intro ho0 hv0))
 clear k0 hq0 hR0 ho0 hv0
 go_wp2_with fail
 refine A0.out.mono ?_
 rintro e w1 h
 obtain ⟨he, hq⟩ := QN.add Y0.out.1 Y0.out.2.1 h
 rw [Y0.out.2.2] at he hq
 dsimp only at he hq
 subst he
 have Q1 := Lib.hid hq
 clear h hq A0 Q0
 go_wp2_with fail
 refine (ask_any 3 1 1 _ (by unfold I64; decide) (by unfold U64; decide) (by unfold U64; decide)).mono ?_
 rintro e w1a ⟨rfl, k1⟩
 obtain ⟨R1, S1, hq1, hR1, ho1⟩ := Q1.out.old k1
 have A1 := Lib.hid (add_ask 0 3 1 1 (by unfold I64; decide) (by unfold U64; decide) (by unfold U64; decide) hq1 (by decide) (by decide))
 have hv1 : addP 2 [(0, pAsk 3 1 1)] (0, pAsk 3 1 1) = (9, [(0, pAsk 3 1 1)]) := by rw [addP_ask]; rfl
 have Y1 := Lib.hid (And.intro hR1 (And.intro ho1 hv1))
 clear k1 hq1 hR1 ho1 hv1
 go_wp2_with fail
 refine A1.out.mono ?_
 rintro e w2 h
 obtain ⟨he, hq⟩ := QN.add Y1.out.1 Y1.out.2.1 h
 rw [Y1.out.2.2] at he hq
 dsimp only at he hq
 subst he
 have Q2 := Lib.hid hq
 clear h hq A1 Q1
 go_wp2_with fail
 refine (ask_any 3 1 2 _ (by unfold I64; decide) (by unfold U64; decide) (by unfold U64; decide)).mono ?_
 rintro e w2a ⟨rfl, k2⟩
 obtain ⟨R2, S2, hq2, hR2, ho2⟩ := Q2.out.old k2
 have A2 := Lib.hid (add_ask 1 3 1 2 (by unfold I64; decide) (by unfold U64; decide) (by unfold U64; decide) hq2 (by decide) (by decide))
 have hv2 : addP 2 [(0, pAsk 3 1 1)] (1, pAsk 3 1 2) = (0, [(0, pAsk 3 1 1), (1, pAsk 3 1 2)]) := by rw [addP_ask]; rfl
 have Y2 := Lib.hid (And.intro hR2 (And.intro ho2 hv2))
 clear k2 hq2 hR2 ho2 hv2
 go_wp2_with fail
 refine A2.out.mono ?_
 rintro e w3 h
 obtain ⟨he, hq⟩ := QN.add Y2.out.1 Y2.out.2.1 h
 rw [Y2.out.2.2] at he hq
 dsimp only at he hq
 subst he
 have Q3 := Lib.hid hq
 clear h hq A2 Q2
 go_wp2_with fail
 refine (ask_any 3 1 3 _ (by unfold I64; decide) (by unfold U64; decide) (by unfold U64; decide)).mono ?_
 rintro e w3a ⟨rfl, k3⟩
 obtain ⟨R3, S3, hq3, hR3, ho3⟩ := Q3.out.old k3
 have A3 := Lib.hid (add_ask 0 3 1 3 (by unfold I64; decide) (by unfold U64; decide) (by unfold U64; decide) hq3 (by decide) (by decide))
 have hv3 : addP 2 [(0, pAsk 3 1 1), (1, pAsk 3 1 2)] (0, pAsk 3 1 3) = (7, [(0, pAsk 3 1 1), (1, pAsk 3 1 2)]) := by rw [addP_ask]; rfl
 have Y3 := Lib.hid (And.intro hR3 (And.intro ho3 hv3))
 clear k3 hq3 hR3 ho3 hv3
 go_wp2_with fail
 refine A3.out.mono ?_
 rintro e w4 h
 obtain ⟨he, hq⟩ := QN.add Y3.out.1 Y3.out.2.1 h
 rw [Y3.out.2.2] at he hq
 dsimp only at he hq
 subst he
 have Q4 := Lib.hid hq
 clear h hq A3 Q3
 go_wp2_with fail
 refine (ask_any 3 2 1 _ (by unfold I64; decide) (by unfold U64; decide) (by unfold U64; decide)).mono ?_
 rintro e w4a ⟨rfl, k4⟩
 obtain ⟨R4, S4, hq4, hR4, ho4⟩ := Q4.out.old k4
 have A4 := Lib.hid (add_ask 7 3 2 1 (by unfold I64; decide) (by unfold U64; decide) (by unfold U64; decide) hq4 (by decide) (by decide))
 have hv4 : addP 2 [(0, pAsk 3 1 1), (1, pAsk 3 1 2)] (7, pAsk 3 2 1) = (0, [(7, pAsk 3 2 1)]) := by rw [addP_ask]; rfl
 have Y4 := Lib.hid (And.intro hR4 (And.intro ho4 hv4))
 clear k4 hq4 hR4 ho4 hv4
 go_wp2_with fail
 refine A4.out.mono ?_
 rintro e w5 h
 obtain ⟨he, hq⟩ := QN.add Y4.out.1 Y4.out.2.1 h
 rw [Y4.out.2.2] at he hq
 dsimp only at he hq
 subst he
 have Q5 := Lib.hid hq
 clear h hq A4 Q4
 go_wp2_with fail
 obtain ⟨R, S, ⟨L, hL, hq⟩, _, _⟩ := Q5.out
 have hl := congrArg List.length hL
 rw [List.length_map] at hl
 refine (len_q hq (by decide)).mono ?_
 rintro e w' ⟨rfl, rfl⟩
 rw [hl]
 clear hL hq hl
 go_wp2_with fail
 refine (ask_any 3 1 9 _ (by unfold I64; decide) (by unfold U64; decide) (by unfold U64; decide)).mono ?_
 rintro e w5a ⟨rfl, k5⟩
 obtain ⟨R5, S5, hq5, hR5, ho5⟩ := Q5.out.old k5
 have A5 := Lib.hid (add_ask 0 3 1 9 (by unfold I64; decide) (by unfold U64; decide) (by unfold U64; decide) hq5 (by decide) (by decide))
 have hv5 : addP 2 [(7, pAsk 3 2 1)] (0, pAsk 3 1 9) = (9, [(7, pAsk 3 2 1)]) := by rw [addP_ask]; rfl
 have Y5 := Lib.hid (And.intro hR5 (And.intro ho5 hv5))
 clear k5 hq5 hR5 ho5 hv5
 go_wp2_with fail
 refine A5.out.mono ?_
 rintro e w6 h
 obtain ⟨he, hq⟩ := QN.add Y5.out.1 Y5.out.2.1 h
 rw [Y5.out.2.2] at he hq
 dsimp only at he hq
 subst he
 have Q6 := Lib.hid hq
 clear h hq A5 Q5
 go_wp2_with fail
 obtain ⟨R, S, hq, hR, ho⟩ := Q6.out
 have X := Lib.hid (And.intro hR ho)
 have N1 := Lib.hid (next_some hq (by decide))
 clear hq hR ho
 refine N1.out.mono ?_
 rintro e w20 h
 obtain ⟨m, rfl, hp, hf, hq⟩ := QN.next_yes X.out.1 X.out.2 h
 have htl : m.tl = 2 := congrArg PMs.tl hp
 have hone := hf.one
 obtain ⟨Wa, hWa⟩ : ∃ W, w20.alloc (.cells zeroMs.cells.toArray 43) = W := ⟨_, rfl⟩
 have ba : MAt Wa w20.heap.size zeroMs := by rw [← hWa]; exact heap_alloc_new _ _
 have oa : Old w20 Wa := by rw [← hWa]; exact (Keeps.refl _ _).alloc _
 obtain ⟨W2, hst, b2, kb⟩ := store_msg ba m hone
 have o2 : Old w20 W2 := oa.then kb (fun i hi e => by omega)
 change w20.alloc (.cells #[.int .i64 0, .int .i64 0, .int .u64 0, .bool false, .slice none 0 0, .int .u64 0, .int .u64 0, .string ⟨#[]⟩, .slice none 0 0, .int .i64 0, .int .u64 0, .int .u64 0, .int .u64 0, .int .u64 0, .int .u64 0, .slice none 0 0, .slice none 0 0, .bool false] 43) = Wa at hWa
 obtain ⟨_, _, hq2, hR2, ho2⟩ := hq.old o2
 dsimp only
 have Y := Lib.hid (And.intro hR2 (And.intro ho2 (And.intro b2 htl)))
 have N2 := Lib.hid (next_empty hq2 (by decide))
 have QZ := Lib.hid (hq.old o2)
 clear h hp hf hq htl hone ba oa b2 kb o2 hq2 hR2 ho2 N1
 go_wp2_with fail
 refine N2.out.mono ?_
 rintro e w21 ⟨rfl, k21⟩
 obtain ⟨Wb, hWb⟩ : ∃ W, w21.alloc (.cells zeroMs.cells.toArray 43) = W := ⟨_, rfl⟩
 have bb : MAt Wb w21.heap.size zeroMs := by rw [← hWb]; exact heap_alloc_new _ _
 have ob : Old w21 Wb := by rw [← hWb]; exact (Keeps.refl _ _).alloc _
 obtain ⟨W3, hst3, b3, kb3⟩ := store_msg bb zeroMs (MsO.zero w21 0).one
 have o3 : Old w21 W3 := ob.then kb3 (fun i hi e => by omega)
 change w21.alloc (.cells #[.int .i64 0, .int .i64 0, .int .u64 0, .bool false, .slice none 0 0, .int .u64 0, .int .u64 0, .string ⟨#[]⟩, .slice none 0 0, .int .i64 0, .int .u64 0, .int .u64 0, .int .u64 0, .int .u64 0, .int .u64 0, .slice none 0 0, .slice none 0 0, .bool false] 43) = Wb at hWb
 have kk := k21.trans o3
 have b4 := (kk.block _ (lt_of_heap Y.out.2.2.1) (fun f => f)).trans Y.out.2.2.1
 obtain ⟨t0, t1, t2⟩ := tok_cells b4
 rw [Y.out.2.2.2] at t1
 have QE := Lib.hid (QZ.out.old kk)
 clear k21 bb ob b3 kb3 o3 kk b4 N2
 go_wp2_with fail
 obtain ⟨R, S, ⟨L, hL, hq⟩, _, _⟩ := QE.out
 have hl := congrArg List.length hL
 rw [List.length_map] at hl
 refine (len_q hq (by decide)).mono ?_
 rintro e w' ⟨rfl, rfl⟩
 rw [hl]
 clear hL hq hl
 go_wp2_with fail
 go_ret
 exact ⟨rfl, QE.out.to⟩
end Go.Proofs.Ytiednihagnehlaa

namespace Go.Proofs.Ytiednihagnehlaa
open Go.RowKit
attribute [-go_sem] loadVar storeVar

set_option maxRecDepth 100000 in
set_option maxHeartbeats 1000000 in
theorem ptheirs_any (m : Ms) (w : World) (h : m.fine w) : Calls Try.prog 21 #[.agg m.cells.toArray] w fun e w' => e = .returned (.agg m.cells.toArray) ∧ Old w w' := by
 have hone := h.one
 obtain ⟨kind, pub, ver, there, pv, ps, ⟨n, tm, key, av, es⟩, tb, tl, tc, frm, ⟨fr, en, iv, its, gv, gs, last⟩⟩ := m
 obtain ⟨p1, c1, e1, _, r1⟩ := h.1.1.1.len
 obtain ⟨p2, c2, e2, _, _⟩ := h.2.1.1.len
 obtain ⟨p3, c3, e3, _, _⟩ := h.2.2.1.1.1.len
 obtain ⟨p4, c4, e4, _, _⟩ := h.2.2.1.1.2.2.len
 simp only at e1 e2 e3 e4
 subst e1 e2 e3 e4
 clear h r1
 obtain ⟨m, hm⟩ : ∃ m : Ms, m = ⟨kind, pub, ver, there, .slice p1 ps.length c1, ps, ⟨n, tm, key, .slice p2 es.length c2, es⟩, tb, tl, tc, frm, ⟨fr, en, .slice p3 its.length c3, its, .slice p4 gs.length c4, gs, last⟩⟩ := ⟨_, rfl⟩
 rw [← hm] at hone ⊢
 have hmc : m.cells.toArray = #[.int .i64 kind, .int .i64 pub, .int .u64 ver, .bool there, .slice p1 ps.length c1, .int .u64 n, .int .u64 tm, .string key, .slice p2 es.length c2, .int .i64 tb, .int .u64 tl, .int .u64 tc, .int .u64 frm, .int .u64 fr, .int .u64 en, .slice p3 its.length c3, .slice p4 gs.length c4, .bool last] := by rw [hm]; rfl
 obtain ⟨W0, hW0⟩ : ∃ W0, (w.alloc (.cells m.cells.toArray 43)).alloc (.cells zeroMs.cells.toArray 60) = W0 := ⟨_, rfl⟩
 have k0 : Old w W0 := by rw [← hW0]; exact ((Keeps.refl _ _).alloc _).alloc _
 obtain ⟨b0, b1⟩ := two_blocks w (.cells m.cells.toArray 43) (.cells zeroMs.cells.toArray 60)
 rw [hW0] at b0 b1
 obtain ⟨W1, hst, b2, kb⟩ := store_msgR b1 m hone
 have k1 : Old w W1 := k0.then kb (fun i hi e => by omega)
 have gl := load_whole b2 (by rw [hmc]; rfl) Try.underlying60 (by kernel_rfl)
 rw [hmc] at b0 hW0 hst gl ⊢
 have g0 := blkM b0
 have l5 := load_sub (W := W0) (b := w.heap.size) (o := 5) (cs := #[.int .u64 n, .int .u64 tm, .string key, .slice p2 es.length c2]) (ty := 35) (by
  intro j v hv
  rcases j with _ | _ | _ | _ | _ | j <;> simp at hv
  all_goals (subst hv; first | exact g0.2.2.2.2.2.1 | exact g0.2.2.2.2.2.2.1 | exact g0.2.2.2.2.2.2.2.1 | exact g0.2.2.2.2.2.2.2.2.1)) Try.underlying35 rfl (by kernel_rfl)
 have l9 := load_sub (W := W0) (b := w.heap.size) (o := 9) (cs := #[.int .i64 tb, .int .u64 tl, .int .u64 tc]) (ty := 37) (by
  intro j v hv
  rcases j with _ | _ | _ | _ | _ | j <;> simp at hv
  all_goals (subst hv; first | exact g0.2.2.2.2.2.2.2.2.2.1 | exact g0.2.2.2.2.2.2.2.2.2.2.1 | exact g0.2.2.2.2.2.2.2.2.2.2.2.1)) Try.underlying37 rfl (by kernel_rfl)
 have l13 := load_sub (W := W0) (b := w.heap.size) (o := 13) (cs := #[.int .u64 fr, .int .u64 en, .slice p3 its.length c3, .slice p4 gs.length c4, .bool last]) (ty := 41) (by
  intro j v hv
  rcases j with _ | _ | _ | _ | _ | j <;> simp at hv
  all_goals (subst hv; first | exact g0.2.2.2.2.2.2.2.2.2.2.2.2.2.1 | exact g0.2.2.2.2.2.2.2.2.2.2.2.2.2.2.1 | exact g0.2.2.2.2.2.2.2.2.2.2.2.2.2.2.2.1 | exact g0.2.2.2.2.2.2.2.2.2.2.2.2.2.2.2.2.1 | exact g0.2.2.2.2.2.2.2.2.2.2.2.2.2.2.2.2.2)) Try.underlying41 rfl (by kernel_rfl)
 have q1 : ∀ a W, (loadVar 3 a).run Try.prog W = (load a).run Try.prog W := fun _ _ => by kernel_rfl
 have q2 : ∀ a W, (loadVar 28 a).run Try.prog W = (load a).run Try.prog W := fun _ _ => by kernel_rfl
 have q3 : ∀ a W, (loadVar 4 a).run Try.prog W = (load a).run Try.prog W := fun _ _ => by kernel_rfl
 have q4 : ∀ a W, (loadVar 30 a).run Try.prog W = (load a).run Try.prog W := fun _ _ => by kernel_rfl
 have K := Lib.hid (And.intro k1 gl)
 clear b0 b1 k0 k1 kb gl hm hmc b2 hone
 change (w.alloc (.cells #[.int .i64 kind, .int .i64 pub, .int .u64 ver, .bool there, .slice p1 ps.length c1, .int .u64 n, .int .u64 tm, .string key, .slice p2 es.length c2, .int .i64 tb, .int .u64 tl, .int .u64 tc, .int .u64 frm, .int .u64 fr, .int .u64 en, .slice p3 its.length c3, .slice p4 gs.length c4, .bool last] 43)).alloc (.cells #[.int .i64 0, .int .i64 0, .int .u64 0, .bool false, .slice none 0 0, .int .u64 0, .int .u64 0, .string ⟨#[]⟩, .slice none 0 0, .int .i64 0, .int .u64 0, .int .u64 0, .int .u64 0, .int .u64 0, .int .u64 0, .slice none 0 0, .slice none 0 0, .bool false] 60) = W0 at hW0
 go_enter Try.func21, Try.ntmps21
 go_wp2_with fail
 have gl := K.out.2
 exact bodyPost_ret (by simp [results, Try.results21, go_sem, gl]) rfl ⟨rfl, K.out.1⟩
end Go.Proofs.Ytiednihagnehlaa

namespace Go.Proofs.Ytiednihagnehlaa
open Go.ChangeShapes Go.WideShapes Go.ChangeAt Go.RowKit

theorem one_le_bulk {H : Type} (d : DataW H) : 1 ≤ Rows.uptoBulk d := by
 cases d with
 | lit l => cases l <;> simp [Rows.uptoBulk]
 | nil => simp [Rows.uptoBulk]
 | ptr d => simp [Rows.uptoBulk]
 | slice elems spare => simp [Rows.uptoBulk]
 | agg parts => simp [Rows.uptoBulk]
 | iface t d => simp [Rows.uptoBulk]
 | map entries => simp [Rows.uptoBulk]
 | held h => simp [Rows.uptoBulk]
theorem part_bulk {H : Type} {d : DataW H} {l : List (DataW H)} (h : d ∈ l) : Rows.uptoBulk d ≤ Rows.uptoBulkAll l := by
 induction l with
 | nil => cases h
 | cons x r ih =>
  simp only [Rows.uptoBulkAll]
  cases List.mem_cons.1 h with
  | inl e => subst e; omega
  | inr e => have := ih e; omega
theorem length_bulk {H : Type} (l : List (DataW H)) : l.length ≤ Rows.uptoBulkAll l := by
 induction l with
 | nil => simp [Rows.uptoBulkAll]
 | cons x r ih => have := one_le_bulk x; simp only [Rows.uptoBulkAll, List.length_cons]; omega
theorem elems_bulk {H : Type} (elems spare : List (DataW H)) : Rows.uptoBulkAll elems + 1 ≤ Rows.uptoBulk (.slice elems spare) := by
 simp only [Rows.uptoBulk]; omega

/-- a []byte among what came in, at whatever depth -/
theorem trod_bytes {H : Type} {enc : TypeId × Value → H} {W : World} {fuel : Nat} {cs : List Value} {x : DataW H × List MemPlace} (hf : DataW.trod enc Try.prog W 0 (fun _ => true) true fuel 146 cs = some x) :
  ∃ (v : Value) (l : List UInt8), cs = [v] ∧ Sees W v l ∧ l.length < Rows.uptoBulk x.1 := by
 rcases open_ints Try.underlying146 Try.underlying5 (by kernel_rfl) hf with ⟨hcs, hx⟩ | ⟨a, len, cap, zs, hcs, _, hl, hm, hz, hx, hcell, hwz⟩
 ·exact ⟨_, [], hcs, Sees.nil W, one_le_bulk x.1⟩
 ·subst hx
  have hz' : zs.length = cap := by simpa using hz
  have hlen : ((zs.take len).map fun z => UInt8.ofNat z.toNat).length = len := by simp; omega
  refine ⟨_, (zs.take len).map fun z => UInt8.ofNat z.toNat, hcs, ⟨some a, cap, by rw [hlen], by rw [hlen]; exact hl, hm, fun h => (by cases h), fun a' ha => ?_⟩, ?_⟩
  ·cases ha
   refine ⟨fun hc => ?_, fun j b hj => ?_⟩
   ·have := hcell 0 (by omega)
    have hs := World.cell?_spot this
    simpa [Addr.add] using hs
   ·rw [List.getElem?_map, Option.map_eq_some_iff] at hj
    obtain ⟨z, hz1, rfl⟩ := hj
    rw [List.getElem?_take] at hz1
    split at hz1
    ·have hjl := (List.getElem?_eq_some_iff.1 hz1).1
     rw [hcell j hjl]
     have hzz : zs.getD j 0 = z := by simp [List.getD, hz1]
     have hw := hwz z (List.mem_of_getElem? hz1)
     have hr : 0 ≤ z ∧ z ≤ 255 := by simpa [Lit.wf, IntKind.min, IntKind.max, IntKind.signed, IntKind.bits] using hw
     rw [hzz]
     unfold u8
     rw [UInt8.toNat_ofNat']
     congr 2
     omega
    ·cases hz1
  ·rw [hlen]
   have h1 := elems_bulk (lits (H := H) .u8 (zs.take len)) (lits .u8 (zs.drop len))
   have h2 := length_bulk (lits (H := H) .u8 (zs.take len))
   have h3 : (lits (H := H) .u8 (zs.take len)).length = len := by simp [lits]; omega
   simp only at h1 ⊢
   omega
set_option maxRecDepth 100000 in
theorem read_bytes {H : Type} {enc : TypeId × Value → H} {W : World} {base : Nat} {v : Value} {d : DataW H} {p : List MemPlace} (hv : Value.okWide Try.prog W .any base 146 v)
  (h : DataW.Trod enc Try.prog W 0 (fun _ => true) true 146 v d p) : ∃ l : List UInt8, Sees W v l ∧ l.length < Rows.uptoBulk d := by
 obtain ⟨a, len, cap, rfl⟩ := okWide_slice Try.underlying146 hv
 obtain ⟨fuel, hf⟩ := h
 obtain ⟨v, l, hc, hs, hl⟩ := trod_bytes hf
 simp only [Value.cells, List.cons.injEq, and_true] at hc
 subst hc
 exact ⟨l, hs, hl⟩
end Go.Proofs.Ytiednihagnehlaa
