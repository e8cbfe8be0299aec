/- DERIVED. disk: Crash. -/
import Derived.Test.YtfnanbadbmmicaaGreatDoorZTopTorn05
import Derived.Deep.DeepCutAuto
import Derived.IntWalk
namespace Go.Proofs.YtfnanbadbmmicaaGreatDoor
open Go.RowKit Torn

theorem SeesR.keepsP {α : Type} {k : Nat} {enc : α → List Value} {v : Value} {l : List α} {S : Nat → Prop} {w w' : World} (h : SeesR w k enc v l) (hk : Keeps S w w') (hS : 0 < l.length → ∀ b, v.ownBlock = some b → ¬ S b) : SeesR w' k enc v l := by
 cases l with
 | nil =>
  obtain ⟨p, c, h1, h2, h3, h4, h5⟩ := h
  exact ⟨p, c, h1, h2, h3, h4, fun a ha => ⟨(h5 a ha).1, fun i x hx => by simp at hx⟩⟩
 | cons x l => exact h.keeps hk (hS (by simp))
theorem Sees.keepsP {v : Value} {l : List UInt8} {S : Nat → Prop} {w w' : World} (h : Sees w v l) (hk : Keeps S w w') (hS : 0 < l.length → ∀ b, v.ownBlock = some b → ¬ S b) : Sees w' v l := by
 cases l with
 | nil =>
  obtain ⟨p, c, h1, h2, h3, h4, h5⟩ := h
  exact ⟨p, c, h1, h2, h3, h4, fun a ha => ⟨(h5 a ha).1, fun i x hx => by simp at hx⟩⟩
 | cons x l => exact h.keeps hk (hS (by simp))
abbrev encH (x : Nat) : List Value := [.int .u16 (x : Int)]
/-- what stays -/
def stay (P : List Nat) (loose : Nat) : Nat := if 0 < P.length then P.headD 0 % (loose + 1) else 0
theorem stay_le (P : List Nat) (loose : Nat) : stay P loose ≤ loose := by
 unfold stay
 split
 ·have := Nat.mod_lt (P.headD 0) (show 0 < loose + 1 by omega); omega
 ·omega
/-- what a crash leaves of a file -/
def crashed (P : List Nat) (T : List UInt8) (fast : Nat) (L : List UInt8) : List UInt8 := left (T.headD 0) (stay P (L.length - fast)) fast L
theorem crashed_len (P : List Nat) (T : List UInt8) (fast : Nat) (L : List UInt8) (h : fast ≤ L.length) : (crashed P T fast L).length ≤ L.length := by
 unfold crashed left
 have := stay_le P (L.length - fast)
 split
 ·rw [List.length_take]; omega
 ·rw [turn_len, List.length_take]; omega
theorem Owns.form {w : World} {B n c : Nat} {p : Option Addr} {l : List UInt8} (h : Owns w B (.slice p n c) l) (hl : 0 < l.length) : ∃ g, p = some ⟨g, 0, none⟩ := by
 obtain ⟨h1, ⟨e, h0⟩ | ⟨g, cap, cur, e, _⟩⟩ := h
 ·omega
 ·simp only [Value.slice.injEq] at e; exact ⟨g, e.1⟩
set_option maxRecDepth 100000 in
set_option maxHeartbeats 4000000 in
theorem crash_any (B d m f : Nat) (v : Value) (q : Nat) (L : List UInt8) (fast : Nat) (vp vt : Value) (P : List Nat) (T : List UInt8) (w : World) (h : Dk w B d m f v q L fast) (hl : L.length ≤ 1000000000) (hf : fast ≤ L.length)
  (hp : SeesR w 1 encH vp P) (hp16 : ∀ x ∈ P, x < 65536) (hpb : 0 < P.length → ∀ k, vp.ownBlock = some k → k ≠ d ∧ k ≠ f) (ht : Sees w vt T) (htb : 0 < T.length → ∀ k, vt.ownBlock = some k → k ≠ d ∧ k ≠ f) (hB : B ≤ w.heap.size) :
  Calls Tryz.prog 11 #[.pointer (some ⟨d, 0, none⟩), vp, vt] w fun e w' => e = .returned (.int .i64 0) ∧ ∃ v', Dk w' B d m f v' q (crashed P T fast L) (crashed P T fast L).length ∧ (∀ k, v'.ownBlock = some k → v.ownBlock = some k ∨ w.heap.size ≤ k) ∧ Keeps (fun k => k = d ∨ k = f) w w' := by
 obtain ⟨pp, cp, rfl, hpl, hpm⟩ := hp.len
 obtain ⟨pt, ct, rfl, htl, htm⟩ := ht.len
 have A := Lib.hid (answers_any d m q w h.dd)
 obtain ⟨⟨c0, c1, c2, c3⟩, ⟨f0, f1, f2, f3⟩⟩ := blk4 h.dd
 have k1 : Keeps (fun k => k = d) w ((w.setCell ⟨d, 3, none⟩ (.bool false)).setCell ⟨d, 2, none⟩ (.int .i64 (-1))) := (keepC w d 3 _).trans (keepC _ d 2 _)
 have d1 : DkD ((w.setCell ⟨d, 3, none⟩ (.bool false)).setCell ⟨d, 2, none⟩ (.int .i64 (-1))) d m q := heap_setCell_same _ d 2 _ _ _ (heap_setCell_same w d 3 _ _ _ h.dd)
 have h1 : Dk ((w.setCell ⟨d, 3, none⟩ (.bool false)).setCell ⟨d, 2, none⟩ (.int .i64 (-1))) B d m f v q L fast := Dk.make d1 ((k1.block _ (hp_lt h.dm) (fun e => h.ne.1 e.symm)).trans h.dm) ((k1.block _ (hp_lt h.df) (fun e => h.ne.2.1 e.symm)).trans h.df) (h.own.keeps k1 (fun b hb e => h.ne.2.2.2.1 (by rw [hb, e])))
 have N := Lib.hid (names_any d m f q _ h1.dd h1.dm)
 have H1 := Lib.hid (And.intro h1 (And.intro k1 (And.intro (hp.keepsP k1 (fun h0 b hb e => (hpb h0 b hb).1 e)) (And.intro (ht.keepsP k1 (fun h0 b hb e => (htb h0 b hb).1 e)) (And.intro hp16 (And.intro h (And.intro hpb (And.intro htb hB))))))))
 have hpl9 : P.length ≤ 9223372036854775807 := by unfold maxLen at hpm; omega
 have htl9 : T.length ≤ 9223372036854775807 := by unfold maxLen at htm; omega
 clear h hp hp16 hpb ht htb hB k1 d1 h1 hpl hpm htl htm
 go_enter Tryz.func11, Tryz.ntmps11
 go_wp2_with fail
 refine A.out.mono ?_
 rintro e w1 ⟨rfl, rfl⟩
 go_wp2_with fail
 refine N.out.mono ?_
 rintro e w2 ⟨g, c, rfl, hc, o2⟩
 have hd2 := H1.out.1.old o2
 have H2 := Lib.hid (And.intro hd2 (And.intro o2 (And.intro (H1.out.2.2.1.old o2) (H1.out.2.2.2.1.old o2))))
 clear o2 c0 c1 c2 c3 f0 f1 f2 f3
 obtain ⟨p, cv, rfl, hv1, hv2⟩ := hd2.own.sees.len
 have lk := hd2.dm.look
 have c0 := (blk4 hd2.dd).1.1
 obtain ⟨⟨x0, x1⟩, ⟨y0, y1⟩⟩ := blk2 hd2.df
 clear hd2
 go_wp2_with fail
 go_loopw [7, 25] (fun k i wr => (k = .int .i64 0 ∧ i = .int .i64 0 ∧ wr = w2) ∨ (i = .int .i64 1 ∧ ∃ v', Dk wr B d m f v' q (crashed P T fast L) (crashed P T fast L).length ∧ (∀ k, v'.ownBlock = some k → (Value.slice p L.length cv).ownBlock = some k ∨ w.heap.size ≤ k) ∧ Keeps (fun k => k = d ∨ k = f) w wr)) (fun _ i _ => 1 - (intOf i).toNat)
 case atStart => exact .inl ⟨rfl, rfl, rfl⟩
 case round =>
  rcases hrel with ⟨rfl, rfl, rfl⟩ | ⟨rfl, hres⟩
  case inr =>
   have HR := Lib.hid hres
   clear hres
   go_wp2_with fail
   go_ret
   exact ⟨rfl, HR.out⟩
  go_upto_region 9 with fail
  go_quiet (fail)
  obtain ⟨w3, hw3⟩ : ∃ w3, wr.drewN nq = w3 := ⟨_, rfl⟩
  have o3 : Old wr w3 := by rw [← hw3]; exact Old.drewN (Keeps.refl _ _) _
  rw [hw3]
  have hd3 := H2.out.1.old o3
  have H3 := Lib.hid (And.intro hd3 (And.intro (H1.out.2.1.then (H2.out.2.1.trans o3) (fun i _ x => x.elim)) (And.intro (H2.out.2.2.1.old o3) (H2.out.2.2.2.old o3))))
  clear c0 x0 x1 y0 y1 lk hw3 o3
  obtain ⟨⟨x0, x1⟩, ⟨y0, y1⟩⟩ := blk2 hd3.df
  clear hd3
  by_cases hz : L.length = fast
  ·have t0 : ((L.length : Int) - (fast : Int) == 0) = true := beq_iff_eq.2 (by omega)
   have HZ := Lib.hid hz
   clear hz hf
   go_wp2_with fail
   go_roundw
   case rel =>
    refine .inr ⟨by go_num, .slice p L.length cv, ?_, fun k hk => .inl hk, H3.out.2.1.weaken (fun _ _ e => .inl e)⟩
    have e : crashed P T fast L = L := by
     unfold crashed
     have := stay_le P (L.length - fast)
     rw [show stay P (L.length - fast) = 0 by have := HZ.out; omega, ← HZ.out, left_all]
    rw [e]
    have h := H3.out.1
    rw [← HZ.out] at h
    exact h
   case measure => simp [intOf]
  have t0 : ((L.length : Int) - (fast : Int) == 0) = false := beq_eq_false_iff_ne.2 (by omega)
  have i1 : (fast : Int) < (L.length : Int) := by omega
  have i2 : (L.length : Int) ≤ 1000000000 := by omega
  obtain ⟨s, hs⟩ : ∃ s : Nat, stay P (L.length - fast) = s := ⟨_, rfl⟩
  have hsl : s ≤ L.length - fast := by rw [← hs]; exact stay_le _ _
  have i3 : (s : Int) ≤ (L.length : Int) - (fast : Int) := by omega
  have hlk : (L.take (fast + s)).length = fast + s := by rw [List.length_take]; omega
  have HS := Lib.hid (And.intro hs (And.intro hsl hlk))
  have hT : w3.drew.cell? ⟨f, 0, none⟩ = some (.slice p L.length cv) ∧ w3.drew.cell? ⟨f, 1, none⟩ = some (.int .i64 (fast : Int)) := ⟨x0, x1⟩
  by_cases hP : 0 < P.length
  ·obtain ⟨b, o, c', e, _, _, hat⟩ := H3.out.2.2.1.at hP
   simp only [Value.slice.injEq] at e
   obtain ⟨rfl, _, rfl⟩ := e
   have q0 := hat 0 P[0] (by simp) 0 _ rfl
   simp only [Nat.zero_mul, Nat.add_zero] at q0
   have q1 : P[0] < 65536 := H1.out.2.2.2.2.1 _ (List.getElem_mem hP)
   have q2 : (P[0] : Int) < 65536 := by omega
   have q3 : (P[0] : Int) % ((L.length : Int) - (fast : Int) + 1) = (s : Int) := by
    rw [← hs]
    unfold stay
    rw [if_pos hP, List.headD_eq_head?_getD, List.head?_eq_getElem?, List.getElem?_eq_getElem hP, Option.getD_some]
    rw [show (L.length : Int) - (fast : Int) + 1 = ((L.length - fast + 1 : Nat) : Int) by omega]
    rfl
   clear hs hat q1
   go_upto_region 14 with fail
   rw [q3]
   clear q0 q2 q3
   have hw : IntKind.i64.wrap ((fast : Int) + (s : Int)) = (fast : Int) + (s : Int) := IntWalk.i64_in _ (by omega)
   obtain ⟨pk, ck, rk, sk, _⟩ := H3.out.1.own.sees.upto (fast + s) (by omega) .i64 ((fast : Int) + (s : Int)) (by omega)
   have CL := Lib.hid (bytes_clone_any _ (L.take (fast + s)) w3.drew (sk.old (Keeps.refl _ _).drew) (by have := HS.out.2.2; omega))
   clear sk
   refine wp_region_g (S := fun W => W.cell? ⟨f, 0, none⟩ = some (.slice p L.length cv) ∧ W.cell? ⟨f, 1, none⟩ = some (.int .i64 (fast : Int))) (M := [0, 1, 2, 3, 4, 5, 6, 7, 8, 9, 10, 11, 12]) (by kernel_rfl) ?_
   refine wpAnyG_takeL (i := 0) (oi := _) (v := ?vpa0) rfl (by kernel_rfl) (by kernel_rfl) (by kernel_rfl) (by kernel_rfl) (fun _ _ _ h => h) (Or.inl ⟨by rfl, ?ypa0⟩) hT ?rpa0
   case ypa0 => (intro W hSw; go_simp; try with_reducible rfl)
   try simp only [Act.put, List.setIfInBounds_toArray, List.set_cons_zero, List.set_cons_succ]
   refine wpAnyG_takeL (i := 1) (oi := _) (v := ?vpa1) rfl (by kernel_rfl) (by kernel_rfl) (by kernel_rfl) (by kernel_rfl) (fun _ _ _ h => h) (Or.inl ⟨by rfl, ?ypa1⟩) hT ?rpa1
   case ypa1 => (intro W hSw; go_simp; try with_reducible rfl)
   try simp only [Act.put, List.setIfInBounds_toArray, List.set_cons_zero, List.set_cons_succ]
   refine wpAnyG_takeL (i := 2) (oi := _) (v := ?vpa2) rfl (by kernel_rfl) (by kernel_rfl) (by kernel_rfl) (by kernel_rfl) (fun _ _ _ h => h) (Or.inl ⟨by rfl, ?ypa2⟩) hT ?rpa2
   case ypa2 => (intro W hSw; go_simp; try with_reducible rfl)
   try simp only [Act.put, List.setIfInBounds_toArray, List.set_cons_zero, List.set_cons_succ]
   refine wpAnyG_takeL (i := 3) (oi := _) (v := ?vpa3) rfl (by kernel_rfl) (by kernel_rfl) (by kernel_rfl) (by kernel_rfl) (fun _ _ _ h => h) (Or.inl ⟨by rfl, ?ypa3⟩) hT ?rpa3
   case ypa3 => (intro W hSw; go_simp; try with_reducible rfl)
   try simp only [Act.put, List.setIfInBounds_toArray, List.set_cons_zero, List.set_cons_succ]
   refine wpAnyG_takeL (i := 4) (oi := _) (v := ?vpa4) rfl (by kernel_rfl) (by kernel_rfl) (by kernel_rfl) (by kernel_rfl) (fun _ _ _ h => h) (Or.inl ⟨by rfl, ?ypa4⟩) hT ?rpa4
   case ypa4 => (intro W hSw; obtain ⟨z1, z2⟩ := hSw; go_simp; try with_reducible rfl)
   try simp only [Act.put, List.setIfInBounds_toArray, List.set_cons_zero, List.set_cons_succ]
   refine wpAnyG_takeL (i := 5) (oi := _) (v := ?vpa5) rfl (by kernel_rfl) (by kernel_rfl) (by kernel_rfl) (by kernel_rfl) (fun _ _ _ h => h) (Or.inl ⟨by rfl, ?ypa5⟩) hT ?rpa5
   case ypa5 => (intro W hSw; go_simp; try with_reducible rfl)
   try simp only [Act.put, List.setIfInBounds_toArray, List.set_cons_zero, List.set_cons_succ]
   refine wpAnyG_takeL (i := 6) (oi := _) (v := ?vpa6) rfl (by kernel_rfl) (by kernel_rfl) (by kernel_rfl) (by kernel_rfl) (fun _ _ _ h => h) (Or.inl ⟨by rfl, ?ypa6⟩) hT ?rpa6
   case ypa6 => (intro W hSw; go_simp; try with_reducible rfl)
   try simp only [Act.put, List.setIfInBounds_toArray, List.set_cons_zero, List.set_cons_succ]
   refine wpAnyG_takeL (i := 7) (oi := _) (v := ?vpa7) rfl (by kernel_rfl) (by kernel_rfl) (by kernel_rfl) (by kernel_rfl) (fun _ _ _ h => h) (Or.inl ⟨by rfl, ?ypa7⟩) hT ?rpa7
   case ypa7 => (intro W hSw; go_simp; try with_reducible rfl)
   try simp only [Act.put, List.setIfInBounds_toArray, List.set_cons_zero, List.set_cons_succ]
   refine wpAnyG_takeL (i := 8) (oi := _) (v := ?vpa8) rfl (by kernel_rfl) (by kernel_rfl) (by kernel_rfl) (by kernel_rfl) (fun _ _ _ h => h) (Or.inl ⟨by rfl, ?ypa8⟩) hT ?rpa8
   case ypa8 => (intro W hSw; obtain ⟨z1, z2⟩ := hSw; go_simp; try with_reducible rfl)
   try simp only [Act.put, List.setIfInBounds_toArray, List.set_cons_zero, List.set_cons_succ]
   refine wpAnyG_takeL (i := 9) (oi := _) (v := ?vpa9) rfl (by kernel_rfl) (by kernel_rfl) (by kernel_rfl) (by kernel_rfl) (fun _ _ _ h => h) (Or.inl ⟨by rfl, ?ypa9⟩) hT ?rpa9
   case ypa9 => (intro W hSw; go_simp; try with_reducible rfl)
   try simp only [Act.put, List.setIfInBounds_toArray, List.set_cons_zero, List.set_cons_succ]
   refine wpAnyG_takeL (i := 10) (oi := _) (v := ?vpa10) rfl (by kernel_rfl) (by kernel_rfl) (by kernel_rfl) (by kernel_rfl) (fun _ _ _ h => h) (Or.inl ⟨by rfl, ?ypa10⟩) hT ?rpa10
   case ypa10 => (intro W hSw; go_simp; try with_reducible rfl)
   try simp only [Act.put, List.setIfInBounds_toArray, List.set_cons_zero, List.set_cons_succ]
   refine wpAnyG_takeL (i := 11) (oi := _) (v := ?vpa11) rfl (by kernel_rfl) (by kernel_rfl) (by kernel_rfl) (by kernel_rfl) (fun _ _ _ h => h) (Or.inl ⟨by rfl, ?ypa11⟩) hT ?rpa11
   case ypa11 => (intro W hSw; go_simp; try with_reducible rfl)
   try simp only [Act.put, List.setIfInBounds_toArray, List.set_cons_zero, List.set_cons_succ]
   refine wpAnyG_onlyL (i := 12) (o := _) (by kernel_rfl) rfl (fun K hK => ?_)
   go_simp
   refine CL.out.mono ?_
   rintro e w4 ⟨p4, n4, c4, rfl, own4, o4⟩
   have hT4 : w4.cell? ⟨f, 0, none⟩ = some (.slice p L.length cv) ∧ w4.cell? ⟨f, 1, none⟩ = some (.int .i64 (fast : Int)) := ⟨o4.cell hT.1 (fun x => x), o4.cell hT.2 (fun x => x)⟩
   have hd4 := H3.out.1.old ((Keeps.refl (fun _ => False) w3).drew.trans o4)
   obtain ⟨⟨v0, v1⟩, ⟨v2, v3⟩⟩ := blk2 hd4.df
   have H4 := Lib.hid (And.intro own4 (And.intro hd4 (And.intro (H3.out.2.1.then ((Keeps.refl (fun _ => False) w3).drew.trans o4) (fun i _ x => x.elim)) (H3.out.2.2.2.old ((Keeps.refl (fun _ => False) w3).drew.trans o4)))))
   clear hd4 own4 o4 x0 x1 y0 y1
   go_wp2_with fail
   refine hK.out _ _ (fun _ => hT4) ?_
   clear hK K
   try simp only [Act.put, List.setIfInBounds_toArray, List.set_cons_zero, List.set_cons_succ]
   refine wpAnyG_onlyL (i := 13) (o := _) (by kernel_rfl) rfl (fun K hK => ?_)
   go_simp
   refine hK.out _ _ (fun h => absurd h (by decide)) ?_
   clear hK K
   try simp only [Act.put, List.setIfInBounds_toArray, List.set_cons_zero, List.set_cons_succ]
   refine wpAnyG_onlyL (i := 14) (o := _) (by kernel_rfl) rfl (fun K hK => ?_)
   go_simp
   refine hK.out _ _ (fun h => absurd h (by decide)) ?_
   clear hK K
   try simp only [Act.put, List.setIfInBounds_toArray, List.set_cons_zero, List.set_cons_succ]
   refine wpAnyG_onlyL (i := 15) (o := _) (by kernel_rfl) rfl (fun K hK => ?_)
   go_simp
   refine hK.out _ _ (fun h => absurd h (by decide)) ?_
   clear hK K
   try simp only [Act.put, List.setIfInBounds_toArray, List.set_cons_zero, List.set_cons_succ]
   refine wpAnyG_done (by kernel_rfl) ?_ _
   go_simp
   obtain ⟨w5, hw5⟩ : ∃ w5, w4.setCell ⟨f, 0, none⟩ (.slice p4 n4 c4) = w5 := ⟨_, rfl⟩
   have k5 : Keeps (fun k => k = f) w4 w5 := by rw [← hw5]; exact keepC _ _ _ _
   have f5 : w5.heap[f]? = some (.cells #[.slice p4 n4 c4, .int .i64 (fast : Int)] 56 (0, 0)) := by rw [← hw5]; exact heap_setCell_same w4 f 0 _ _ _ H4.out.2.1.df
   have hz4 : w.heap.size ≤ w3.heap.size := H3.out.2.1.size
   have hne := H4.out.2.1.ne
   have hv4 := H4.out.1.ne H4.out.2.1.df (fun cur e => by simp only [Obj.cells.injEq] at e; exact absurd e.2.1 (by decide))
   have hn4 : n4 = fast + s := by obtain ⟨_, _, e, _⟩ := H4.out.1.sees.len; simp only [Value.slice.injEq] at e; rw [HS.out.2.2] at e; exact e.2.1
   have own5 : Owns w5 w3.heap.size (.slice p4 n4 c4) (L.take (fast + s)) := H4.out.1.keeps k5 (fun b hb e => hv4 (by rw [hb, e]))
   have H5 := Lib.hid (And.intro (And.intro k5 f5) (And.intro hn4 (And.intro own5 (And.intro ((k5.block _ (hp_lt H4.out.2.1.dd) hne.2.1).trans H4.out.2.1.dd) (And.intro ((k5.block _ (hp_lt H4.out.2.1.dm) hne.2.2.1).trans H4.out.2.1.dm) (And.intro hz4 (H4.out.2.2.2.keepsP k5 (fun h0 b hb e => (H1.out.2.2.2.2.2.2.2.1 h0 b hb).2 e))))))))
   obtain ⟨⟨z0, z1⟩, ⟨z2, z3⟩⟩ := blk2 f5
   rw [hw5]
   clear hw5 k5 f5 hz4 hne hv4 hn4 own5 v0 v1 v2 v3 hT hT4
   by_cases h0 : s = 0
   ·have t1 : decide ((0 : Int) < (s : Int)) = false := decide_eq_false (by omega)
    have t2 : decide (0 < s) = false := decide_eq_false (by omega)
    have HE := Lib.hid (show crashed P T fast L = L.take (fast + s) by unfold crashed; rw [HS.out.1, h0, left_zero])
    clear h0
    have HF := Lib.hid (show Dk (w5.setCell ⟨f, 1, none⟩ (.int .i64 (n4 : Int))) B d m f (.slice p4 n4 c4) q (crashed P T fast L) (crashed P T fast L).length ∧ (∀ k, (Value.slice p4 n4 c4).ownBlock = some k → (Value.slice p L.length cv).ownBlock = some k ∨ w.heap.size ≤ k) ∧ Keeps (fun k => k = d ∨ k = f) w (w5.setCell ⟨f, 1, none⟩ (.int .i64 (n4 : Int))) from by
     have k6 := keepC w5 f 1 (.int .i64 (n4 : Int))
     have hne := H4.out.2.1.ne
     have hv5 := H5.out.2.2.1.ne H5.out.1.2 (fun cur e => by simp only [Obj.cells.injEq] at e; exact absurd e.2.1 (by decide))
     have own := H5.out.2.2.1
     rw [HE.out, HS.out.2.2]
     rw [← H5.out.2.1] at own ⊢
     refine ⟨Dk.make ((k6.block _ (hp_lt H5.out.2.2.2.1) hne.2.1).trans H5.out.2.2.2.1) ((k6.block _ (hp_lt H5.out.2.2.2.2.1) hne.2.2.1).trans H5.out.2.2.2.2.1) (heap_setCell_same w5 f 1 _ _ _ H5.out.1.2) ((own.mono (by have := H5.out.2.2.2.2.2.1; have := H1.out.2.2.2.2.2.2.2.2; omega)).keeps k6 (fun b hb e => hv5 (by rw [hb, e]))), fun k hk => .inr ?_, ?_⟩
     ·have := (H5.out.2.2.1.block k hk).1; have := H5.out.2.2.2.2.2.1; omega
     ·exact (((H4.out.2.2.1.weaken (T := fun k => k = d ∨ k = f) (fun _ _ e => .inl e)).then H5.out.1.1 (fun i _ e => .inr e)).then k6 (fun i _ e => .inr e)))
    go_wp2_with fail
    go_roundw
    case rel => exact .inr ⟨by go_num, .slice p4 n4 c4, HF.out.1, HF.out.2.1, HF.out.2.2⟩
    case measure => simp [intOf]
   have t1 : decide ((0 : Int) < (s : Int)) = true := decide_eq_true (by omega)
   have t2 : decide (0 < s) = true := decide_eq_true (by omega)
   by_cases hT0 : 0 < T.length
   ·have t3 : decide ((0 : Int) < (T.length : Int)) = true := decide_eq_true (by omega)
    have t4 : decide (0 < T.length) = true := decide_eq_true hT0
    have hlen : (L.take (fast + s)).length = n4 := by rw [HS.out.2.2, H5.out.2.1]
    have hpos : 0 < n4 := by have := H5.out.2.1; omega
    obtain ⟨g4, rfl⟩ := H5.out.2.2.1.form (by omega)
    obtain ⟨i, hi⟩ : ∃ i, n4 = i + 1 := ⟨n4 - 1, by omega⟩
    have hw1 : IntKind.i64.wrap ((n4 : Int) - 1) = (i : Int) := by rw [IntWalk.i64_in _ (by omega)]; omega
    have hi1 : (i : Int) < (n4 : Int) := by omega
    have hi2 : i < n4 := by omega
    obtain ⟨cB, fB⟩ := H5.out.2.2.1.cellAt i (by omega)
    obtain ⟨xb, hxb⟩ : ∃ xb, (L.take (fast + s))[i]'(by omega) = xb := ⟨_, rfl⟩
    rw [hxb] at cB
    obtain ⟨bt, ot, c', e, _, _, hat⟩ := H5.out.2.2.2.2.2.2.at hT0
    simp only [Value.slice.injEq] at e
    obtain ⟨rfl, _, rfl⟩ := e
    have cT := hat 0 T[0] (by simp)
    rw [Nat.add_zero] at cT
    have hxr := xor_eq xb T[0]
    have HE := Lib.hid (show crashed P T fast L = (L.take (fast + s)).set i (xb ^^^ T[0]) by
     unfold crashed left
     rw [HS.out.1, if_neg h0, List.headD_eq_head?_getD, List.head?_eq_getElem?, List.getElem?_eq_getElem hT0, Option.getD_some]
     unfold turn
     rw [hlen, show n4 - 1 = i by omega, List.getD_eq_getElem?_getD, List.getElem?_eq_getElem (by omega), Option.getD_some, hxb])
    have HI := Lib.hid (And.intro hi (And.intro hlen hpos))
    unfold u8 at cB cT
    have hT5 : w5.drew.cell? ⟨f, 0, none⟩ = some (.slice (some ⟨g4, 0, none⟩) n4 c4) ∧ w5.drew.cell? ⟨g4, i, none⟩ = some (.int .u8 (xb.toNat : Int)) ∧ w5.drew.cell? ⟨bt, ot, none⟩ = some (.int .u8 (T[0].toNat : Int)) := ⟨z0, cB, cT⟩
    have hgf : g4 ≠ f := fun e => by have := H5.out.2.2.1.ne H5.out.1.2 (fun cur e => by simp only [Obj.cells.injEq] at e; exact absurd e.2.1 (by decide)); exact this (by rw [← e]; rfl)
    clear hi hlen hpos hat hxb cT
    go_wp2_with fail
    refine wp_region_g (S := fun W => W.cell? ⟨f, 0, none⟩ = some (.slice (some ⟨g4, 0, none⟩) n4 c4) ∧ W.cell? ⟨g4, i, none⟩ = some (.int .u8 (xb.toNat : Int)) ∧ W.cell? ⟨bt, ot, none⟩ = some (.int .u8 (T[0].toNat : Int))) (M := [0, 1, 2, 3, 4, 5, 6, 7, 8, 9, 10, 11, 12, 13, 14, 15, 16]) (by kernel_rfl) ?_
    refine wpAnyG_takeL (i := 0) (oi := _) (v := ?vtb0) rfl (by kernel_rfl) (by kernel_rfl) (by kernel_rfl) (by kernel_rfl) (fun _ _ _ h => h) (Or.inl ⟨by rfl, ?ytb0⟩) hT5 ?rtb0
    case ytb0 => (intro W hSw; go_simp; try with_reducible rfl)
    try simp only [Act.put, List.setIfInBounds_toArray, List.set_cons_zero, List.set_cons_succ]
    refine wpAnyG_takeL (i := 1) (oi := _) (v := ?vtb1) rfl (by kernel_rfl) (by kernel_rfl) (by kernel_rfl) (by kernel_rfl) (fun _ _ _ h => h) (Or.inl ⟨by rfl, ?ytb1⟩) hT5 ?rtb1
    case ytb1 => (intro W hSw; go_simp; try with_reducible rfl)
    try simp only [Act.put, List.setIfInBounds_toArray, List.set_cons_zero, List.set_cons_succ]
    refine wpAnyG_takeL (i := 2) (oi := _) (v := ?vtb2) rfl (by kernel_rfl) (by kernel_rfl) (by kernel_rfl) (by kernel_rfl) (fun _ _ _ h => h) (Or.inl ⟨by rfl, ?ytb2⟩) hT5 ?rtb2
    case ytb2 => (intro W hSw; go_simp; try with_reducible rfl)
    try simp only [Act.put, List.setIfInBounds_toArray, List.set_cons_zero, List.set_cons_succ]
    refine wpAnyG_takeL (i := 3) (oi := _) (v := ?vtb3) rfl (by kernel_rfl) (by kernel_rfl) (by kernel_rfl) (by kernel_rfl) (fun _ _ _ h => h) (Or.inl ⟨by rfl, ?ytb3⟩) hT5 ?rtb3
    case ytb3 => (intro W hSw; obtain ⟨r1, r2, r3⟩ := hSw; go_simp; try with_reducible rfl)
    try simp only [Act.put, List.setIfInBounds_toArray, List.set_cons_zero, List.set_cons_succ]
    refine wpAnyG_takeL (i := 4) (oi := _) (v := ?vtb4) rfl (by kernel_rfl) (by kernel_rfl) (by kernel_rfl) (by kernel_rfl) (fun _ _ _ h => h) (Or.inl ⟨by rfl, ?ytb4⟩) hT5 ?rtb4
    case ytb4 => (intro W hSw; go_simp; try with_reducible rfl)
    try simp only [Act.put, List.setIfInBounds_toArray, List.set_cons_zero, List.set_cons_succ]
    refine wpAnyG_takeL (i := 5) (oi := _) (v := ?vtb5) rfl (by kernel_rfl) (by kernel_rfl) (by kernel_rfl) (by kernel_rfl) (fun _ _ _ h => h) (Or.inl ⟨by rfl, ?ytb5⟩) hT5 ?rtb5
    case ytb5 => (intro W hSw; go_simp; try with_reducible rfl)
    try simp only [Act.put, List.setIfInBounds_toArray, List.set_cons_zero, List.set_cons_succ]
    refine wpAnyG_takeL (i := 6) (oi := _) (v := ?vtb6) rfl (by kernel_rfl) (by kernel_rfl) (by kernel_rfl) (by kernel_rfl) (fun _ _ _ h => h) (Or.inl ⟨by rfl, ?ytb6⟩) hT5 ?rtb6
    case ytb6 => (intro W hSw; go_simp; try with_reducible rfl)
    try simp only [Act.put, List.setIfInBounds_toArray, List.set_cons_zero, List.set_cons_succ]
    refine wpAnyG_takeL (i := 7) (oi := _) (v := ?vtb7) rfl (by kernel_rfl) (by kernel_rfl) (by kernel_rfl) (by kernel_rfl) (fun _ _ _ h => h) (Or.inl ⟨by rfl, ?ytb7⟩) hT5 ?rtb7
    case ytb7 => (intro W hSw; obtain ⟨r1, r2, r3⟩ := hSw; go_simp; try with_reducible rfl)
    try simp only [Act.put, List.setIfInBounds_toArray, List.set_cons_zero, List.set_cons_succ]
    refine wpAnyG_takeL (i := 8) (oi := _) (v := ?vtb8) rfl (by kernel_rfl) (by kernel_rfl) (by kernel_rfl) (by kernel_rfl) (fun _ _ _ h => h) (Or.inl ⟨by rfl, ?ytb8⟩) hT5 ?rtb8
    case ytb8 => (intro W hSw; go_simp; try with_reducible rfl)
    try simp only [Act.put, List.setIfInBounds_toArray, List.set_cons_zero, List.set_cons_succ]
    refine wpAnyG_takeL (i := 9) (oi := _) (v := ?vtb9) rfl (by kernel_rfl) (by kernel_rfl) (by kernel_rfl) (by kernel_rfl) (fun _ _ _ h => h) (Or.inl ⟨by rfl, ?ytb9⟩) hT5 ?rtb9
    case ytb9 => (intro W hSw; go_simp; try with_reducible rfl)
    try simp only [Act.put, List.setIfInBounds_toArray, List.set_cons_zero, List.set_cons_succ]
    refine wpAnyG_takeL (i := 10) (oi := _) (v := ?vtb10) rfl (by kernel_rfl) (by kernel_rfl) (by kernel_rfl) (by kernel_rfl) (fun _ _ _ h => h) (Or.inl ⟨by rfl, ?ytb10⟩) hT5 ?rtb10
    case ytb10 => (intro W hSw; go_simp; try with_reducible rfl)
    try simp only [Act.put, List.setIfInBounds_toArray, List.set_cons_zero, List.set_cons_succ]
    refine wpAnyG_takeL (i := 11) (oi := _) (v := ?vtb11) rfl (by kernel_rfl) (by kernel_rfl) (by kernel_rfl) (by kernel_rfl) (fun _ _ _ h => h) (Or.inl ⟨by rfl, ?ytb11⟩) hT5 ?rtb11
    case ytb11 => (intro W hSw; obtain ⟨r1, r2, r3⟩ := hSw; go_simp; try with_reducible rfl)
    try simp only [Act.put, List.setIfInBounds_toArray, List.set_cons_zero, List.set_cons_succ]
    refine wpAnyG_takeL (i := 12) (oi := _) (v := ?vtb12) rfl (by kernel_rfl) (by kernel_rfl) (by kernel_rfl) (by kernel_rfl) (fun _ _ _ h => h) (Or.inl ⟨by rfl, ?ytb12⟩) hT5 ?rtb12
    case ytb12 => (intro W hSw; go_simp; try with_reducible rfl)
    try simp only [Act.put, List.setIfInBounds_toArray, List.set_cons_zero, List.set_cons_succ]
    refine wpAnyG_takeL (i := 13) (oi := _) (v := ?vtb13) rfl (by kernel_rfl) (by kernel_rfl) (by kernel_rfl) (by kernel_rfl) (fun _ _ _ h => h) (Or.inl ⟨by rfl, ?ytb13⟩) hT5 ?rtb13
    case ytb13 => (intro W hSw; go_simp; try with_reducible rfl)
    try simp only [Act.put, List.setIfInBounds_toArray, List.set_cons_zero, List.set_cons_succ]
    refine wpAnyG_takeL (i := 14) (oi := _) (v := ?vtb14) rfl (by kernel_rfl) (by kernel_rfl) (by kernel_rfl) (by kernel_rfl) (fun _ _ _ h => h) (Or.inl ⟨by rfl, ?ytb14⟩) hT5 ?rtb14
    case ytb14 => (intro W hSw; go_simp; try with_reducible rfl)
    try simp only [Act.put, List.setIfInBounds_toArray, List.set_cons_zero, List.set_cons_succ]
    refine wpAnyG_takeL (i := 15) (oi := _) (v := ?vtb15) rfl (by kernel_rfl) (by kernel_rfl) (by kernel_rfl) (by kernel_rfl) (fun _ _ _ h => h) (Or.inl ⟨by rfl, ?ytb15⟩) hT5 ?rtb15
    case ytb15 => (intro W hSw; obtain ⟨r1, r2, r3⟩ := hSw; go_simp; try with_reducible rfl)
    try simp only [Act.put, List.setIfInBounds_toArray, List.set_cons_zero, List.set_cons_succ]
    refine wpAnyG_takeL (i := 16) (oi := _) (v := ?vtb16) rfl (by kernel_rfl) (by kernel_rfl) (by kernel_rfl) (by kernel_rfl) (fun _ _ _ h => h) (Or.inl ⟨by rfl, ?ytb16⟩) hT5 ?rtb16
    case ytb16 => (intro W hSw; go_simp; try with_reducible rfl)
    try simp only [Act.put, List.setIfInBounds_toArray, List.set_cons_zero, List.set_cons_succ]
    refine wpAnyG_onlyL (i := 17) (o := _) (by kernel_rfl) rfl (fun K hK => ?_)
    go_simp
    refine hK.out _ _ (fun h => absurd h (by decide)) ?_
    clear hK K
    try simp only [Act.put, List.setIfInBounds_toArray, List.set_cons_zero, List.set_cons_succ]
    refine wpAnyG_onlyL (i := 18) (o := _) (by kernel_rfl) rfl (fun K hK => ?_)
    go_simp
    refine hK.out _ _ (fun h => absurd h (by decide)) ?_
    clear hK K
    try simp only [Act.put, List.setIfInBounds_toArray, List.set_cons_zero, List.set_cons_succ]
    refine wpAnyG_done (by kernel_rfl) ?_ _
    go_simp
    obtain ⟨w6, hw6⟩ : ∃ w6, (w5.setCell ⟨g4, i, none⟩ (.int .u8 ((xb.toNat ^^^ T[0].toNat : Nat) : Int))).drew = w6 := ⟨_, rfl⟩
    rw [hw6]
    have k6 : Keeps (fun k => k = g4) w5 w6 := by rw [← hw6]; exact (keepC _ _ _ _).drew
    have own6 : Owns w6 w3.heap.size (.slice (some ⟨g4, 0, none⟩) n4 c4) ((L.take (fast + s)).set i (xb ^^^ T[0])) := by
     have hs := H5.out.2.2.1.setByte i (by have := HI.out; omega) (xb ^^^ T[0])
     unfold u8 at hs
     rw [UInt8.toNat_xor] at hs
     have hs2 := hs.keeps (S := fun _ => False) (Keeps.refl _ _).drew (fun _ _ e => e)
     rw [hw6] at hs2
     exact hs2
    have f6 := (k6.block f (hp_lt H5.out.1.2) (fun e => hgf e.symm)).trans H5.out.1.2
    clear z0 z1 z2 z3
    obtain ⟨⟨z0, z1⟩, ⟨z2, z3⟩⟩ := blk2 f6
    have HF := Lib.hid (show Dk (w6.setCell ⟨f, 1, none⟩ (.int .i64 (n4 : Int))) B d m f (.slice (some ⟨g4, 0, none⟩) n4 c4) q (crashed P T fast L) (crashed P T fast L).length ∧ (∀ k, (Value.slice (some ⟨g4, 0, none⟩) n4 c4).ownBlock = some k → (Value.slice p L.length cv).ownBlock = some k ∨ w.heap.size ≤ k) ∧ Keeps (fun k => k = d ∨ k = f) w (w6.setCell ⟨f, 1, none⟩ (.int .i64 (n4 : Int))) from by
     have k7 := keepC w6 f 1 (.int .i64 (n4 : Int))
     have hne := H4.out.2.1.ne
     have hg3 := H5.out.2.2.1.block g4 rfl
     have hd5 := H5.out.2.2.2.1
     have hm5 := H5.out.2.2.2.2.1
     have hw35 := H5.out.2.2.2.2.2.1
     have hgd := H5.out.2.2.1.ne hd5 (fun cur e => by simp only [Obj.cells.injEq] at e; exact absurd e.2.1 (by decide))
     have hgm := H5.out.2.2.1.ne hm5 (fun cur e => by cases e)
     rw [HE.out, List.length_set, HI.out.2.1]
     refine ⟨Dk.make ((k7.block _ (Nat.lt_of_lt_of_le (hp_lt hd5) k6.size) hne.2.1).trans ((k6.block _ (hp_lt hd5) (fun e => hgd (by rw [e]; rfl))).trans hd5)) ((k7.block _ (Nat.lt_of_lt_of_le (hp_lt hm5) k6.size) hne.2.2.1).trans ((k6.block _ (hp_lt hm5) (fun e => hgm (by rw [e]; rfl))).trans hm5)) (heap_setCell_same w6 f 1 _ _ _ f6) ((own6.mono (by have := H1.out.2.2.2.2.2.2.2.2; omega)).keeps k7 (fun b hb e => by simp only [Value.ownBlock, Option.some.injEq] at hb; exact hgf (by rw [hb, e]))), fun k hk => .inr ?_, ?_⟩
     ·simp only [Value.ownBlock, Option.some.injEq] at hk; omega
     ·exact ((((H4.out.2.2.1.weaken (T := fun k => k = d ∨ k = f) (fun _ _ e => .inl e)).then H5.out.1.1 (fun i _ e => .inr e)).then k6 (fun i hi e => by omega)).then k7 (fun i _ e => .inr e)))
    clear k6 own6 f6 hw6 hgf cB fB hxr hT5
    go_wp2_with fail
    go_roundw
    case rel => exact .inr ⟨by go_num, .slice (some ⟨g4, 0, none⟩) n4 c4, HF.out.1, HF.out.2.1, HF.out.2.2⟩
    case measure => simp [intOf]
   ·have t3 : decide ((0 : Int) < (T.length : Int)) = false := decide_eq_false (by omega)
    have t4 : decide (0 < T.length) = false := decide_eq_false hT0
    have HE := Lib.hid (show crashed P T fast L = L.take (fast + s) by
     have : T = [] := List.eq_nil_of_length_eq_zero (by omega)
     unfold crashed; rw [HS.out.1, this]; exact left_none _ _ _)
    clear hT0 h0
    have HF := Lib.hid (show Dk (w5.setCell ⟨f, 1, none⟩ (.int .i64 (n4 : Int))) B d m f (.slice p4 n4 c4) q (crashed P T fast L) (crashed P T fast L).length ∧ (∀ k, (Value.slice p4 n4 c4).ownBlock = some k → (Value.slice p L.length cv).ownBlock = some k ∨ w.heap.size ≤ k) ∧ Keeps (fun k => k = d ∨ k = f) w (w5.setCell ⟨f, 1, none⟩ (.int .i64 (n4 : Int))) from by
     have k6 := keepC w5 f 1 (.int .i64 (n4 : Int))
     have hne := H4.out.2.1.ne
     have hv5 := H5.out.2.2.1.ne H5.out.1.2 (fun cur e => by simp only [Obj.cells.injEq] at e; exact absurd e.2.1 (by decide))
     have own := H5.out.2.2.1
     rw [HE.out, HS.out.2.2]
     rw [← H5.out.2.1] at own ⊢
     refine ⟨Dk.make ((k6.block _ (hp_lt H5.out.2.2.2.1) hne.2.1).trans H5.out.2.2.2.1) ((k6.block _ (hp_lt H5.out.2.2.2.2.1) hne.2.2.1).trans H5.out.2.2.2.2.1) (heap_setCell_same w5 f 1 _ _ _ H5.out.1.2) ((own.mono (by have := H5.out.2.2.2.2.2.1; have := H1.out.2.2.2.2.2.2.2.2; omega)).keeps k6 (fun b hb e => hv5 (by rw [hb, e]))), fun k hk => .inr ?_, ?_⟩
     ·have := (H5.out.2.2.1.block k hk).1; have := H5.out.2.2.2.2.2.1; omega
     ·exact (((H4.out.2.2.1.weaken (T := fun k => k = d ∨ k = f) (fun _ _ e => .inl e)).then H5.out.1.1 (fun i _ e => .inr e)).then k6 (fun i _ e => .inr e)))
    go_wp2_with fail
    go_roundw
    case rel => exact .inr ⟨by go_num, .slice p4 n4 c4, HF.out.1, HF.out.2.1, HF.out.2.2⟩
    case measure => simp [intOf]
  ·have hs0 : s = 0 := by rw [← hs]; unfold stay; rw [if_neg hP]
   have t9 : decide (0 < P.length) = false := decide_eq_false hP
   have t8 : decide ((0 : Int) < (P.length : Int)) = false := decide_eq_false (by omega)
   have HE := Lib.hid (show crashed P T fast L = L.take (fast + s) by unfold crashed; rw [HS.out.1, hs0, left_zero])
   have HS0 := Lib.hid hs0
   clear hs hs0
   go_upto_region 14 with fail
   clear t8 t9
   obtain ⟨pk, ck, rk, sk, _⟩ := H3.out.1.own.sees.upto (fast + s) (by omega) .i64 ((fast : Int)) (by have := HS0.out; omega)
   have hw : IntKind.i64.wrap ((fast : Int)) = (fast : Int) := IntWalk.i64_in _ (by omega)
   have CL := Lib.hid (bytes_clone_any _ (L.take (fast + s)) w3.drew (sk.old (Keeps.refl _ _).drew) (by have := HS.out.2.2; omega))
   clear sk
   refine wp_region_g (S := fun W => W.cell? ⟨f, 0, none⟩ = some (.slice p L.length cv) ∧ W.cell? ⟨f, 1, none⟩ = some (.int .i64 (fast : Int))) (M := [0, 1, 2, 3, 4, 5, 6, 7, 8, 9, 10, 11, 12]) (by kernel_rfl) ?_
   refine wpAnyG_takeL (i := 0) (oi := _) (v := ?vna0) rfl (by kernel_rfl) (by kernel_rfl) (by kernel_rfl) (by kernel_rfl) (fun _ _ _ h => h) (Or.inl ⟨by rfl, ?yna0⟩) hT ?rna0
   case yna0 => (intro W hSw; go_simp; try with_reducible rfl)
   try simp only [Act.put, List.setIfInBounds_toArray, List.set_cons_zero, List.set_cons_succ]
   refine wpAnyG_takeL (i := 1) (oi := _) (v := ?vna1) rfl (by kernel_rfl) (by kernel_rfl) (by kernel_rfl) (by kernel_rfl) (fun _ _ _ h => h) (Or.inl ⟨by rfl, ?yna1⟩) hT ?rna1
   case yna1 => (intro W hSw; go_simp; try with_reducible rfl)
   try simp only [Act.put, List.setIfInBounds_toArray, List.set_cons_zero, List.set_cons_succ]
   refine wpAnyG_takeL (i := 2) (oi := _) (v := ?vna2) rfl (by kernel_rfl) (by kernel_rfl) (by kernel_rfl) (by kernel_rfl) (fun _ _ _ h => h) (Or.inl ⟨by rfl, ?yna2⟩) hT ?rna2
   case yna2 => (intro W hSw; go_simp; try with_reducible rfl)
   try simp only [Act.put, List.setIfInBounds_toArray, List.set_cons_zero, List.set_cons_succ]
   refine wpAnyG_takeL (i := 3) (oi := _) (v := ?vna3) rfl (by kernel_rfl) (by kernel_rfl) (by kernel_rfl) (by kernel_rfl) (fun _ _ _ h => h) (Or.inl ⟨by rfl, ?yna3⟩) hT ?rna3
   case yna3 => (intro W hSw; go_simp; try with_reducible rfl)
   try simp only [Act.put, List.setIfInBounds_toArray, List.set_cons_zero, List.set_cons_succ]
   refine wpAnyG_takeL (i := 4) (oi := _) (v := ?vna4) rfl (by kernel_rfl) (by kernel_rfl) (by kernel_rfl) (by kernel_rfl) (fun _ _ _ h => h) (Or.inl ⟨by rfl, ?yna4⟩) hT ?rna4
   case yna4 => (intro W hSw; obtain ⟨z1, z2⟩ := hSw; go_simp; try with_reducible rfl)
   try simp only [Act.put, List.setIfInBounds_toArray, List.set_cons_zero, List.set_cons_succ]
   refine wpAnyG_takeL (i := 5) (oi := _) (v := ?vna5) rfl (by kernel_rfl) (by kernel_rfl) (by kernel_rfl) (by kernel_rfl) (fun _ _ _ h => h) (Or.inl ⟨by rfl, ?yna5⟩) hT ?rna5
   case yna5 => (intro W hSw; go_simp; try with_reducible rfl)
   try simp only [Act.put, List.setIfInBounds_toArray, List.set_cons_zero, List.set_cons_succ]
   refine wpAnyG_takeL (i := 6) (oi := _) (v := ?vna6) rfl (by kernel_rfl) (by kernel_rfl) (by kernel_rfl) (by kernel_rfl) (fun _ _ _ h => h) (Or.inl ⟨by rfl, ?yna6⟩) hT ?rna6
   case yna6 => (intro W hSw; go_simp; try with_reducible rfl)
   try simp only [Act.put, List.setIfInBounds_toArray, List.set_cons_zero, List.set_cons_succ]
   refine wpAnyG_takeL (i := 7) (oi := _) (v := ?vna7) rfl (by kernel_rfl) (by kernel_rfl) (by kernel_rfl) (by kernel_rfl) (fun _ _ _ h => h) (Or.inl ⟨by rfl, ?yna7⟩) hT ?rna7
   case yna7 => (intro W hSw; go_simp; try with_reducible rfl)
   try simp only [Act.put, List.setIfInBounds_toArray, List.set_cons_zero, List.set_cons_succ]
   refine wpAnyG_takeL (i := 8) (oi := _) (v := ?vna8) rfl (by kernel_rfl) (by kernel_rfl) (by kernel_rfl) (by kernel_rfl) (fun _ _ _ h => h) (Or.inl ⟨by rfl, ?yna8⟩) hT ?rna8
   case yna8 => (intro W hSw; obtain ⟨z1, z2⟩ := hSw; go_simp; try with_reducible rfl)
   try simp only [Act.put, List.setIfInBounds_toArray, List.set_cons_zero, List.set_cons_succ]
   refine wpAnyG_takeL (i := 9) (oi := _) (v := ?vna9) rfl (by kernel_rfl) (by kernel_rfl) (by kernel_rfl) (by kernel_rfl) (fun _ _ _ h => h) (Or.inl ⟨by rfl, ?yna9⟩) hT ?rna9
   case yna9 => (intro W hSw; go_simp; try with_reducible rfl)
   try simp only [Act.put, List.setIfInBounds_toArray, List.set_cons_zero, List.set_cons_succ]
   refine wpAnyG_takeL (i := 10) (oi := _) (v := ?vna10) rfl (by kernel_rfl) (by kernel_rfl) (by kernel_rfl) (by kernel_rfl) (fun _ _ _ h => h) (Or.inl ⟨by rfl, ?yna10⟩) hT ?rna10
   case yna10 => (intro W hSw; go_simp; try with_reducible rfl)
   try simp only [Act.put, List.setIfInBounds_toArray, List.set_cons_zero, List.set_cons_succ]
   refine wpAnyG_takeL (i := 11) (oi := _) (v := ?vna11) rfl (by kernel_rfl) (by kernel_rfl) (by kernel_rfl) (by kernel_rfl) (fun _ _ _ h => h) (Or.inl ⟨by rfl, ?yna11⟩) hT ?rna11
   case yna11 => (intro W hSw; go_simp; try with_reducible rfl)
   try simp only [Act.put, List.setIfInBounds_toArray, List.set_cons_zero, List.set_cons_succ]
   refine wpAnyG_onlyL (i := 12) (o := _) (by kernel_rfl) rfl (fun K hK => ?_)
   go_simp
   refine CL.out.mono ?_
   rintro e w4 ⟨p4, n4, c4, rfl, own4, o4⟩
   have hT4 : w4.cell? ⟨f, 0, none⟩ = some (.slice p L.length cv) ∧ w4.cell? ⟨f, 1, none⟩ = some (.int .i64 (fast : Int)) := ⟨o4.cell hT.1 (fun x => x), o4.cell hT.2 (fun x => x)⟩
   have hd4 := H3.out.1.old ((Keeps.refl (fun _ => False) w3).drew.trans o4)
   obtain ⟨⟨v0, v1⟩, ⟨v2, v3⟩⟩ := blk2 hd4.df
   have H4 := Lib.hid (And.intro own4 (And.intro hd4 (And.intro (H3.out.2.1.then ((Keeps.refl (fun _ => False) w3).drew.trans o4) (fun i _ x => x.elim)) (H3.out.2.2.2.old ((Keeps.refl (fun _ => False) w3).drew.trans o4)))))
   clear hd4 own4 o4 x0 x1 y0 y1
   go_wp2_with fail
   refine hK.out _ _ (fun _ => hT4) ?_
   clear hK K
   try simp only [Act.put, List.setIfInBounds_toArray, List.set_cons_zero, List.set_cons_succ]
   refine wpAnyG_onlyL (i := 13) (o := _) (by kernel_rfl) rfl (fun K hK => ?_)
   go_simp
   refine hK.out _ _ (fun h => absurd h (by decide)) ?_
   clear hK K
   try simp only [Act.put, List.setIfInBounds_toArray, List.set_cons_zero, List.set_cons_succ]
   refine wpAnyG_onlyL (i := 14) (o := _) (by kernel_rfl) rfl (fun K hK => ?_)
   go_simp
   refine hK.out _ _ (fun h => absurd h (by decide)) ?_
   clear hK K
   try simp only [Act.put, List.setIfInBounds_toArray, List.set_cons_zero, List.set_cons_succ]
   refine wpAnyG_onlyL (i := 15) (o := _) (by kernel_rfl) rfl (fun K hK => ?_)
   go_simp
   refine hK.out _ _ (fun h => absurd h (by decide)) ?_
   clear hK K
   try simp only [Act.put, List.setIfInBounds_toArray, List.set_cons_zero, List.set_cons_succ]
   refine wpAnyG_done (by kernel_rfl) ?_ _
   go_simp
   obtain ⟨w5, hw5⟩ : ∃ w5, w4.setCell ⟨f, 0, none⟩ (.slice p4 n4 c4) = w5 := ⟨_, rfl⟩
   have k5 : Keeps (fun k => k = f) w4 w5 := by rw [← hw5]; exact keepC _ _ _ _
   have f5 : w5.heap[f]? = some (.cells #[.slice p4 n4 c4, .int .i64 (fast : Int)] 56 (0, 0)) := by rw [← hw5]; exact heap_setCell_same w4 f 0 _ _ _ H4.out.2.1.df
   have hz4 : w.heap.size ≤ w3.heap.size := H3.out.2.1.size
   have hne := H4.out.2.1.ne
   have hv4 := H4.out.1.ne H4.out.2.1.df (fun cur e => by simp only [Obj.cells.injEq] at e; exact absurd e.2.1 (by decide))
   have hn4 : n4 = fast + s := by obtain ⟨_, _, e, _⟩ := H4.out.1.sees.len; simp only [Value.slice.injEq] at e; rw [HS.out.2.2] at e; exact e.2.1
   have own5 : Owns w5 w3.heap.size (.slice p4 n4 c4) (L.take (fast + s)) := H4.out.1.keeps k5 (fun b hb e => hv4 (by rw [hb, e]))
   have H5 := Lib.hid (And.intro (And.intro k5 f5) (And.intro hn4 (And.intro own5 (And.intro ((k5.block _ (hp_lt H4.out.2.1.dd) hne.2.1).trans H4.out.2.1.dd) (And.intro ((k5.block _ (hp_lt H4.out.2.1.dm) hne.2.2.1).trans H4.out.2.1.dm) (And.intro hz4 (H4.out.2.2.2.keepsP k5 (fun h0 b hb e => (H1.out.2.2.2.2.2.2.2.1 h0 b hb).2 e))))))))
   obtain ⟨⟨z0, z1⟩, ⟨z2, z3⟩⟩ := blk2 f5
   rw [hw5]
   clear hw5 k5 f5 hz4 hne hv4 hn4 own5 v0 v1 v2 v3 hT hT4
   have HF := Lib.hid (show Dk (w5.setCell ⟨f, 1, none⟩ (.int .i64 (n4 : Int))) B d m f (.slice p4 n4 c4) q (crashed P T fast L) (crashed P T fast L).length ∧ (∀ k, (Value.slice p4 n4 c4).ownBlock = some k → (Value.slice p L.length cv).ownBlock = some k ∨ w.heap.size ≤ k) ∧ Keeps (fun k => k = d ∨ k = f) w (w5.setCell ⟨f, 1, none⟩ (.int .i64 (n4 : Int))) from by
    have k6 := keepC w5 f 1 (.int .i64 (n4 : Int))
    have hne := H4.out.2.1.ne
    have hv5 := H5.out.2.2.1.ne H5.out.1.2 (fun cur e => by simp only [Obj.cells.injEq] at e; exact absurd e.2.1 (by decide))
    have own := H5.out.2.2.1
    rw [HE.out, HS.out.2.2]
    rw [← H5.out.2.1] at own ⊢
    refine ⟨Dk.make ((k6.block _ (hp_lt H5.out.2.2.2.1) hne.2.1).trans H5.out.2.2.2.1) ((k6.block _ (hp_lt H5.out.2.2.2.2.1) hne.2.2.1).trans H5.out.2.2.2.2.1) (heap_setCell_same w5 f 1 _ _ _ H5.out.1.2) ((own.mono (by have := H5.out.2.2.2.2.2.1; have := H1.out.2.2.2.2.2.2.2.2; omega)).keeps k6 (fun b hb e => hv5 (by rw [hb, e]))), fun k hk => .inr ?_, ?_⟩
    ·have := (H5.out.2.2.1.block k hk).1; have := H5.out.2.2.2.2.2.1; omega
    ·exact (((H4.out.2.2.1.weaken (T := fun k => k = d ∨ k = f) (fun _ _ e => .inl e)).then H5.out.1.1 (fun i _ e => .inr e)).then k6 (fun i _ e => .inr e)))
   go_wp2_with fail
   go_roundw
   case rel => exact .inr ⟨by go_num, .slice p4 n4 c4, HF.out.1, HF.out.2.1, HF.out.2.2⟩
   case measure => simp [intOf]
end Go.Proofs.YtfnanbadbmmicaaGreatDoor
