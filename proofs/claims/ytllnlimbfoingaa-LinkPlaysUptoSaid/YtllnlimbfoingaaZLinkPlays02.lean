/- DERIVED. Chapter 20, plain: the document's link is the program's end. · DERIVED. Chapter 20: the document's Take. -/
import Derived.Test.YtllnlimbfoingaaZLinkPlays01
namespace Go.Proofs.Ytllnlimbfoingaa

/-- messages, numbered from k on -/
def num (k : Nat) : List Bs → List (Nat × Bs)
 | [] => []
 | x :: r => (k, x) :: num (k + 1) r
theorem num_length (k : Nat) (L : List Bs) : (num k L).length = L.length := by
 induction L generalizing k with
 | nil => rfl
 | cons x r ih => simp [num, ih]
theorem num_filter (L : List Bs) (k t : Nat) : (num (k + 1) L).filter (fun f => decide (t ≤ f.1)) = num (k + min (t - 1 - k) L.length + 1) (L.drop (min (t - 1 - k) L.length)) := by
 induction L generalizing k with
 | nil => simp [num]
 | cons x r ih =>
  have h := ih (k + 1)
  by_cases ht : t ≤ k + 1
  ·have e1 : t - 1 - (k + 1) = 0 := by omega
   have e2 : t - 1 - k = 0 := by omega
   rw [e1, Nat.zero_min, Nat.add_zero, List.drop_zero] at h
   simp only [num]
   rw [List.filter_cons, if_pos (by simpa using ht), h, e2, Nat.zero_min, List.drop_zero]
   rfl
  ·have e2 : min (t - 1 - k) (x :: r).length = min (t - 1 - (k + 1)) r.length + 1 := by simp only [List.length_cons]; omega
   simp only [num]
   rw [List.filter_cons, if_neg (by simpa using ht), h, e2, List.drop_succ_cons, show k + 1 + min (t - 1 - (k + 1)) r.length + 1 = k + (min (t - 1 - (k + 1)) r.length + 1) + 1 from by omega]
/-- the end that the document's link is -/
def Dp.en (P : Dp) : En := ⟨P.life, P.peer, P.W, num (P.done + 1) (P.F.drop P.done), P.F.length, P.next, P.again, P.owes, P.heard⟩
theorem en_new (life : Nat) : (Dp.new life).en = En.new life := rfl
theorem en_send (P : Dp) (d : Bs) : (P.send d).en = P.en.send d := rfl
theorem en_tick (P : Dp) : P.tick.en = P.en.tick := by
 unfold Dp.tick Dp.en En.tick
 cases P.heard <;> simp
def Dp.acked (P : Dp) (ack : Nat) : Dp := { P with heard := true, done := max P.done (min (ack - 1) P.F.length) }
theorem en_acked (P : Dp) (ack : Nat) (h : P.done ≤ P.F.length) : (P.acked ack).en = P.en.acked ack := by
 unfold Dp.acked Dp.en En.acked
 simp only [En.mk.injEq, true_and, and_true]
 rw [num_filter, List.length_drop, List.drop_drop]
 have e : max P.done (min (ack - 1) P.F.length) = P.done + min (min ack (P.F.length + 1) - 1 - P.done) (P.F.length - P.done) := by omega
 rw [e]
def Dp.begun (P : Dp) (p : Pk) : Dp := if P.peer < p.src then { Dp.new P.life with peer := p.src } else P
theorem en_begun (P : Dp) (p : Pk) : (P.begun p).en = P.en.begun p := by
 unfold Dp.begun En.begun
 show _ = if P.peer < p.src then _ else _
 split <;> rfl
/-- what is taken -/
def Dp.take (P : Dp) (p : Pk) : Dp × Option Bs :=
 if p.src = 0 ∨ p.src < P.peer then (P, none)
 else if p.dst ≠ (P.begun p).life then ({ P.begun p with owes := true }, none)
 else if p.seq = 0 then ((P.begun p).acked p.ack, none)
 else if p.seq ≠ (P.begun p).next then ({ (P.begun p).acked p.ack with owes := true }, none)
 else ({ (P.begun p).acked p.ack with owes := true, next := (P.begun p).next + 1 }, some p.data)
theorem begun_done (P : Dp) (p : Pk) (h : P.done ≤ P.F.length) : (P.begun p).done ≤ (P.begun p).F.length := by
 unfold Dp.begun
 split
 ·exact Nat.le_refl _
 ·exact h
theorem en_take (P : Dp) (p : Pk) (h : P.done ≤ P.F.length) : ((P.take p).1.en, (P.take p).2) = P.en.take p := by
 have hb := en_begun P p
 have ha := en_acked (P.begun p) p.ack (begun_done P p h)
 rw [hb] at ha
 unfold Dp.take En.take
 rw [← hb, show P.en.peer = P.peer from rfl, show (P.begun p).en.life = (P.begun p).life from rfl, show (P.begun p).en.next = (P.begun p).next from rfl, hb, ← ha]
 by_cases h1 : p.src = 0 ∨ p.src < P.peer
 ·rw [if_pos h1, if_pos h1]
 ·rw [if_neg h1, if_neg h1]
  by_cases h2 : p.dst ≠ (P.begun p).life
  ·rw [if_pos h2, if_pos h2, ← hb]
   rfl
  ·rw [if_neg h2, if_neg h2]
   by_cases h3 : p.seq = 0
   ·rw [if_pos h3, if_pos h3]
   ·rw [if_neg h3, if_neg h3]
    by_cases h4 : p.seq ≠ (P.begun p).next
    ·rw [if_pos h4, if_pos h4]
     rfl
    ·rw [if_neg h4, if_neg h4]
     rfl
theorem num_append (k : Nat) (A B : List Bs) : num k (A ++ B) = num k A ++ num (k + A.length) B := by
 induction A generalizing k with
 | nil => simp [num]
 | cons x r ih =>
  simp only [List.cons_append, num, ih, List.length_cons]
  rw [show k + 1 + r.length = k + (r.length + 1) from by omega]
theorem num_zip (k : Nat) (L : List Bs) : num k L = L.zipIdx.map fun x => (k + x.2, x.1) := by
 induction L generalizing k with
 | nil => rfl
 | cons x r ih =>
  simp only [num, ih, List.zipIdx_cons, List.map_cons, Nat.add_zero, Nat.zero_add, List.cons.injEq, true_and]
  rw [List.zipIdx_succ, List.map_map]
  refine List.map_congr_left (fun z _ => ?_)
  simp only [Function.comp, Prod.mk.injEq, and_true]
  omega
def Dp.room (P : Dp) : Nat := min (8 - (P.F.length - P.done)) P.W.length
def Dp.out (P : Dp) : Dp := { P with W := P.W.drop P.room, F := P.F ++ P.W.take P.room, again := false, owes := false }
theorem en_room (P : Dp) : P.en.room = P.room := by
 unfold En.room Dp.room Dp.en
 simp only [num_length, List.length_drop]
theorem en_fresh (P : Dp) : P.en.fresh = num (P.F.length + 1) (P.W.take P.room) := by
 unfold En.fresh
 rw [en_room, num_zip]
 rfl
theorem en_out (P : Dp) (h : P.done ≤ P.F.length) : P.out.en = P.en.out := by
 have hf := en_fresh P
 have hr := en_room P
 unfold En.out
 rw [hf, hr]
 unfold Dp.out Dp.en
 simp only [En.mk.injEq, true_and, and_true]
 constructor
 ·rw [List.drop_append_of_le_length h, num_append, List.length_drop, show P.done + 1 + (P.F.length - P.done) = P.F.length + 1 from by omega]
 ·unfold Dp.room
  simp only [List.length_append, List.length_take]
  omega
/-- what goes out -/
def Dp.pkt (P : Dp) (f : Nat × Bs) : Pk := ⟨P.life, P.peer, f.1, P.next, f.2⟩
def Dp.olds (P : Dp) : List (Nat × Bs) := if P.again then num (P.done + 1) (P.F.drop P.done) else []
def Dp.outs (P : Dp) : List Pk :=
 let l := (P.olds ++ num (P.F.length + 1) (P.W.take P.room)).map P.pkt
 if l.isEmpty && P.owes then [P.pkt (0, [])] else l
theorem en_outs (P : Dp) : P.outs = P.en.outs := by
 have hf := en_fresh P
 unfold En.outs
 rw [hf]
 rfl
theorem take_done (P : Dp) (p : Pk) (h : P.done ≤ P.F.length) : (P.take p).1.done ≤ (P.take p).1.F.length := by
 have hb := begun_done P p h
 have ha : ((P.begun p).acked p.ack).done ≤ ((P.begun p).acked p.ack).F.length := by
  show max (P.begun p).done (min (p.ack - 1) (P.begun p).F.length) ≤ (P.begun p).F.length
  omega
 unfold Dp.take
 split
 ·exact h
 split
 ·exact hb
 split
 ·exact ha
 split
 ·exact ha
 ·exact ha
theorem out_done (P : Dp) (h : P.done ≤ P.F.length) : P.out.done ≤ P.out.F.length := by
 show P.done ≤ (P.F ++ _).length
 rw [List.length_append]
 omega
end Go.Proofs.Ytllnlimbfoingaa

namespace Go.Proofs.Ytllnlimbfoingaa
open Go.RowKit Go.Conc

/-- is it begun anew? -/
def Dp.anewB (P : Dp) (p : Pk) : Bool := !(decide (p.src = 0 ∨ p.src < P.peer)) && decide (P.peer < p.src)
/-- what Take hands back and leaves -/
def TakD (T : Nat → Prop) (w : World) (db : Nat) (P : Dp) (p : Pk) (e : Ending) (w' : World) : Prop := ∃ q n c, e = .returned (.tuple #[.slice q n c, .bool (P.take p).2.isSome, .bool (P.anewB p)]) ∧
 Owns w' w.heap.size (.slice q n c) ((P.take p).2.getD []) ∧ Dk T w' db (P.take p).1 ∧ Keeps (fun k => k = db) w w'
set_option maxRecDepth 100000 in
set_option maxHeartbeats 1000000 in
theorem dk_take_refuse {T : Nat → Prop} {w : World} {db : Nat} {P : Dp} (p : Pv) (h : Dk T w db P) (hp : p.src = 0 ∨ p.src < P.peer) (hv : Sees w p.v p.d) :
  Calls Try.prog 15 #[.pointer (some ⟨db, 0, none⟩), .agg p.cells.toArray] w (TakD T w db P p.plain) := by
 have hk := h.old ((Keeps.refl (fun _ => False) w).alloc (.cells p.cells.toArray 34))
 obtain ⟨D, rfl, h0, h1, h2, h6⟩ := h
 obtain ⟨life, peer, wv, W, fv, F, done, next, again, owes, heard⟩ := D
 obtain ⟨src, dst, seq, ack, v, d⟩ := p
 simp only at hp hv
 obtain ⟨vp, vc, rfl, _, _⟩ := hv.len
 have hp : src = 0 ∨ src < peer := hp
 have RF : Hid (∀ n, TakD T w db (Dv.plain ⟨life, peer, wv, W, fv, F, done, next, again, owes, heard⟩) (Pv.plain ⟨src, dst, seq, ack, .slice vp d.length vc, d⟩) (.returned (.tuple #[.slice none 0 0, .bool false, .bool false])) ((w.alloc (.cells (Pv.cells ⟨src, dst, seq, ack, .slice vp d.length vc, d⟩).toArray 34)).drewN n)) := by
  refine Lib.hid fun n => ?_
  have e : (Dv.plain ⟨life, peer, wv, W, fv, F, done, next, again, owes, heard⟩).take (Pv.plain ⟨src, dst, seq, ack, .slice vp d.length vc, d⟩) = (Dv.plain ⟨life, peer, wv, W, fv, F, done, next, again, owes, heard⟩, none) := by unfold Dp.take; exact if_pos hp
  have e2 : (Dv.plain ⟨life, peer, wv, W, fv, F, done, next, again, owes, heard⟩).anewB (Pv.plain ⟨src, dst, seq, ack, .slice vp d.length vc, d⟩) = false := by
   unfold Dp.anewB
   rw [show decide ((Pv.plain ⟨src, dst, seq, ack, .slice vp d.length vc, d⟩).src = 0 ∨ (Pv.plain ⟨src, dst, seq, ack, .slice vp d.length vc, d⟩).src < (Dv.plain ⟨life, peer, wv, W, fv, F, done, next, again, owes, heard⟩).peer) = true from decide_eq_true hp]
   rfl
  unfold TakD
  rw [e, e2]
  exact ⟨none, 0, 0, rfl, Owns.nil _ _, hk.old ((Keeps.refl (fun _ => False) _).drewN n), (((Keeps.refl _ _).alloc _).drewN n)⟩
 have hlt := lt_of_block h0
 obtain ⟨w1, hw1⟩ : ∃ w1, w.alloc (.cells #[.int .u64 (src : Int), .int .u64 (dst : Int), .int .u64 (seq : Int), .int .u64 (ack : Int), .slice vp d.length vc] 34) = w1 := ⟨_, rfl⟩
 have o1 : Old w w1 := by rw [← hw1]; exact (Keeps.refl _ _).alloc _
 have b1 : w1.heap[w.heap.size]? = some (.cells #[.int .u64 (src : Int), .int .u64 (dst : Int), .int .u64 (seq : Int), .int .u64 (ack : Int), .slice vp d.length vc] 34 (0, 0)) := by rw [← hw1]; exact heap_alloc_new _ _
 obtain ⟨⟨z0, z1, z2, z3, z4⟩, _⟩ := blk5 b1
 obtain ⟨⟨c0, c1, c2, c3, c4, c5, c6, c7, c8⟩, _⟩ := blk9 ((o1.block _ hlt (fun f => f)).trans h0)
 simp only [Pv.cells] at RF ⊢
 rw [hw1] at RF
 clear hk h0 h1 h2 h6 hv
 by_cases h0 : src = 0
 ·have d0 : ((src : Int) == 0) = true := by simp [h0]
  clear h0 hp
  go_enter Try.func15, Try.ntmps15
  go_wp2_with fail
  go_quiet (fail)
  go_wp2_with fail
  go_ret3
  exact RF.out _
 ·have d0 : ((src : Int) == 0) = false := by simp; omega
  have d1 : decide ((src : Int) < (peer : Int)) = true := by simp; omega
  go_enter Try.func15, Try.ntmps15
  go_wp2_with fail
  go_quiet (fail)
  go_wp2_with fail
  go_ret3
  exact RF.out _
/-- behind the test whether it begins anew -/
def Dv.begun (D : Dv) (src : Nat) : Dv := if D.peer < src then ⟨D.life, src, .slice none 0 0, [], .slice none 0 0, [], 0, 1, false, true, false⟩ else D
theorem Dv.begun_plain (D : Dv) (p : Pk) : (D.begun p.src).plain = D.plain.begun p := by
 unfold Dv.begun Dp.begun
 show _ = if D.peer < p.src then _ else _
 split <;> rfl
theorem Dv.begun_reads {D : Dv} {W : World} (src : Nat) (h : D.reads W) : (D.begun src).reads W := by
 unfold Dv.begun
 split
 ·exact ⟨SeesR.nil _, SeesR.nil _, fun _ h => (by cases h), fun _ h => (by cases h)⟩
 ·exact h
theorem Dv.begun_done {D : Dv} (src : Nat) (h : D.done ≤ D.F.length) : (D.begun src).done ≤ (D.begun src).F.length := by
 unfold Dv.begun
 split
 ·exact Nat.le_refl _
 ·exact h
theorem Dv.begun_life (D : Dv) (src : Nat) : (D.begun src).life = D.life := by unfold Dv.begun; split <;> rfl
theorem Dv.begun_next {D : Dv} (src : Nat) (h : D.next < 18446744073709551615) : (D.begun src).next < 18446744073709551615 := by
 unfold Dv.begun
 split
 ·show 1 < _; omega
 ·exact h
theorem takD_of {T : Nat → Prop} {w w' : World} {db : Nat} {P : Dp} {p : Pk} {e : Ending} {R : Dp × Option Bs} {b : Bool} (hT : P.take p = R) (hb : P.anewB p = b) (q : Option Addr) (n c : Nat)
  (he : e = .returned (.tuple #[.slice q n c, .bool R.2.isSome, .bool b])) (ho : Owns w' w.heap.size (.slice q n c) (R.2.getD [])) (hm : Dk T w' db R.1) (hk : Keeps (fun k => k = db) w w') : TakD T w db P p e w' := by
 subst hT hb
 exact ⟨q, n, c, he, ho, hm, hk⟩
theorem Dp.take_of {P : Dp} {p : Pk} (h : ¬ (p.src = 0 ∨ p.src < P.peer)) : P.take p = if p.dst ≠ (P.begun p).life then ({ P.begun p with owes := true }, none)
 else if p.seq = 0 then ((P.begun p).acked p.ack, none)
 else if p.seq ≠ (P.begun p).next then ({ (P.begun p).acked p.ack with owes := true }, none)
 else ({ (P.begun p).acked p.ack with owes := true, next := (P.begun p).next + 1 }, some p.data) := by unfold Dp.take; exact if_neg h
theorem Dm_drewN {w : World} {db : Nat} {D : Dv} (h : DkM w db D) (n : Nat) : DkM (w.drewN n) db D := h
theorem DkM.all {w : World} {db : Nat} {D : Dv} (h : DkM w db D) (D' : Dv) : DkM (((((((((w.setCell ⟨db, 0, none⟩ (.int .u64 (D'.life : Int))).setCell ⟨db, 1, none⟩ (.int .u64 (D'.peer : Int))).setCell ⟨db, 2, none⟩ D'.wv).setCell ⟨db, 3, none⟩ D'.fv).setCell ⟨db, 4, none⟩ (.int .i64 (D'.done : Int))).setCell ⟨db, 5, none⟩ (.int .u64 (D'.next : Int))).setCell ⟨db, 6, none⟩ (.bool D'.again)).setCell ⟨db, 7, none⟩ (.bool D'.owes)).setCell ⟨db, 8, none⟩ (.bool D'.heard)) db D' := by
 have h1 := heap_setCell_same _ db 0 _ _ (.int .u64 (D'.life : Int)) h
 have h2 := heap_setCell_same _ db 1 _ _ (.int .u64 (D'.peer : Int)) h1
 have h3 := heap_setCell_same _ db 2 _ _ D'.wv h2
 have h4 := heap_setCell_same _ db 3 _ _ D'.fv h3
 have h5 := heap_setCell_same _ db 4 _ _ (.int .i64 (D'.done : Int)) h4
 have h6 := heap_setCell_same _ db 5 _ _ (.int .u64 (D'.next : Int)) h5
 have h7 := heap_setCell_same _ db 6 _ _ (.bool D'.again) h6
 have h8 := heap_setCell_same _ db 7 _ _ (.bool D'.owes) h7
 have h9 := heap_setCell_same _ db 8 _ _ (.bool D'.heard) h8
 simp only [Dv.cells, List.setIfInBounds_toArray, List.set_cons_zero, List.set_cons_succ] at h9
 exact h9
theorem acked_end {done F ack k : Nat} (h1 : done ≤ k) (h2 : k = done ∨ k ≤ F ∧ k < ack) (h3 : ¬ (k < F ∧ k + 1 < ack)) : k = max done (min (ack - 1) F) := by omega
set_option maxRecDepth 100000 in
set_option maxHeartbeats 1000000 in
theorem dk_take {T : Nat → Prop} {w : World} {db : Nat} {P : Dp} (p : Pv) (h : Dk T w db P) (hdn : P.done ≤ P.F.length) (hne : P.next < 18446744073709551615) (hvb : ∀ W, Keeps (fun k => k = db) w W → Sees W p.v p.d) (hd : p.d.length ≤ 140737488355328) :
  Calls Try.prog 15 #[.pointer (some ⟨db, 0, none⟩), .agg p.cells.toArray] w (TakD T w db P p.plain) := by
 have hv := hvb w (Keeps.refl _ _)
 by_cases hp : p.src = 0 ∨ p.src < P.peer
 ·exact dk_take_refuse p h hp hv
 obtain ⟨D, rfl, h0, h1, h2, h6⟩ := h
 obtain ⟨src, dst, seq, ack, v, d⟩ := p
 simp only at hp hv hd hvb
 obtain ⟨vp, vc, rfl, _, _⟩ := hv.len
 simp only [Pv.cells]
 obtain ⟨w1, hw1⟩ : ∃ w1, w.alloc (.cells #[.int .u64 (src : Int), .int .u64 (dst : Int), .int .u64 (seq : Int), .int .u64 (ack : Int), .slice vp d.length vc] 34) = w1 := ⟨_, rfl⟩
 have o1 : Old w w1 := by rw [← hw1]; exact (Keeps.refl _ _).alloc _
 have b1 : w1.heap[w.heap.size]? = some (.cells #[.int .u64 (src : Int), .int .u64 (dst : Int), .int .u64 (seq : Int), .int .u64 (ack : Int), .slice vp d.length vc] 34 (0, 0)) := by rw [← hw1]; exact heap_alloc_new _ _
 have hlt := lt_of_block h0
 have m1 : DkM w1 db D := (o1.block _ hlt (fun f => f)).trans h0
 have hp : ¬ (src = 0 ∨ src < D.peer) := hp
 obtain ⟨⟨z0, z1, z2, z3, z4⟩, _⟩ := blk5 b1
 obtain ⟨⟨c0, c1, c2, c3, c4, c5, c6, c7, c8⟩, ⟨f0, f1, f2, f3, f4, f5, f6, f7, f8⟩⟩ := blk9 m1
 have d1 : (((src : Nat) : Int) == 0) = false := by simp; omega
 have d2 : decide ((src : Int) < (D.peer : Int)) = false := by simp; omega
 have d2' : decide (src < D.peer) = false := by simp; omega
 obtain ⟨zb, hzb⟩ : ∃ z, decide (D.peer < src) = z := ⟨_, rfl⟩
 have d3 : decide ((src : Int) > (D.peer : Int)) = zb := by rw [← hzb]; simp
 have d4 : decide (D.peer < src) = zb := hzb
 have hab : D.plain.anewB ⟨src, dst, seq, ack, d⟩ = zb := by
  unfold Dp.anewB
  rw [show decide ((⟨src, dst, seq, ack, d⟩ : Pk).src = 0 ∨ (⟨src, dst, seq, ack, d⟩ : Pk).src < D.plain.peer) = false from decide_eq_false hp]
  exact hzb
 have H := Lib.hid (And.intro h0 (And.intro h1 (And.intro h2 (And.intro h6 (And.intro hv (And.intro hd (And.intro o1 (And.intro b1 (And.intro hzb (And.intro hp (And.intro hlt (And.intro hvb (And.intro m1 (And.intro hdn (And.intro hne hab)))))))))))))))
 clear h0 h1 h2 h6 hv hd o1 b1 hp hzb hlt hvb m1 hdn hne hab
 go_enter Try.func15, Try.ntmps15
 go_wp2_with fail
 go_quiet (fail)
 go_wp2_with fail
 go_quiet (fail)
 go_upto_if 27 with fail
 go_cut [7] from 28 to 37 (fun v7 wc => v7 = .bool zb ∧ DkM wc db (D.begun src) ∧ Keeps (fun k => k = db) w1 wc)
 case first =>
  cases zb with
  | true =>
   go_wp2_with fail
   go_meet
   case rel =>
    have hb : D.begun src = ⟨D.life, src, .slice none 0 0, [], .slice none 0 0, [], 0, 1, false, true, false⟩ := by
     unfold Dv.begun
     exact if_pos (of_decide_eq_true d4)
    refine ⟨rfl, ?_, ?_⟩
    ·rw [hb]
     exact DkM.all (Dm_drewN H.out.2.2.2.2.2.2.2.2.2.2.2.2.1 _) ⟨D.life, src, .slice none 0 0, [], .slice none 0 0, [], 0, 1, false, true, false⟩
    ·exact setAt (setAt (setAt (setAt (setAt (setAt (setAt (setAt (setAt ((Keeps.refl (fun k => k = db) w1).drewN _) 0 _) 1 _) 2 _) 3 _) 4 _) 5 _) 6 _) 7 _) 8 _
  | false =>
   go_wp2_with fail
   go_meet
   case rel =>
    have hb : D.begun src = D := by
     unfold Dv.begun
     exact if_neg (of_decide_eq_false d4)
    refine ⟨rfl, ?_, ?_⟩
    ·rw [hb]
     exact Dm_drewN (Dm_drewN H.out.2.2.2.2.2.2.2.2.2.2.2.2.1 _) _
    ·exact ((Keeps.refl (fun k => k = db) w1).drewN _).drewN _
 case rest =>
  obtain ⟨h0, h1, h2, h6, hv, hd, o1, b1, hzb, hp, hlt, hvb, m1, hdn, hne, hab⟩ := H.out
  obtain ⟨rfl, mb, kb⟩ := hcut
  have e1 := D.begun_life src
  have e2 := Dv.begun_done (D := D) src (by simpa [Dv.plain] using hdn)
  have e3 := Dv.begun_next (D := D) src hne
  have e4 := D.begun_plain ⟨src, dst, seq, ack, d⟩
  have e5 := fun W h => Dv.begun_reads (W := W) (D := D) src h
  have hT := Dp.take_of (P := D.plain) (p := ⟨src, dst, seq, ack, d⟩) hp
  rw [← e4] at hT
  obtain ⟨B, hB⟩ : ∃ B, D.begun src = B := ⟨_, rfl⟩
  simp only [hB] at e1 e2 e3 hT e5 mb
  have hwl : w.heap.size < w1.heap.size := lt_of_block b1
  have hwne : w.heap.size ≠ db := by omega
  have z1' := kb.cell z1 hwne
  have z2' := kb.cell z2 hwne
  have z3' := kb.cell z3 hwne
  have z4' := kb.cell z4 hwne
  have hvc := hvb wc ((o1.weaken (fun _ _ f => f.elim)).trans kb)
  obtain ⟨⟨x0, x1, x2, x3, x4, x5, x6, x7, x8⟩, ⟨y0, y1, y2, y3, y4, y5, y6, y7, y8⟩⟩ := blk9 mb
  have ko : Keeps (fun k => k = db) w wc := (o1.weaken (fun _ _ f => f.elim)).trans kb
  have K := Lib.hid (And.intro mb (And.intro ko (And.intro e2 (And.intro e3 (And.intro hT (And.intro e5 (And.intro hvc hwne)))))))
  clear e2 e3 e4 e5 hT mb kb ko hvc h0 h1 h2 h6 hv hd o1 b1 hp hzb hlt hvb m1 hdn hne z0 z1 z2 z3 z4 c0 c1 c2 c3 c4 c5 c6 c7 c8 f0 f1 f2 f3 f4 f5 f6 f7 f8 d1 d2 d2' d3 d4 hw1 hwl hwne hB hab e1
  by_cases q1 : dst = B.life
  ·subst q1
   have g1 : ((B.life : Int) == (B.life : Int)) = true := by simp
   have g2 : ((B.life : Int) != (B.life : Int)) = false := by simp
   go_wp2_with fail
   go_quiet (fail)
   go_wp2_with fail
   have hFl : B.F.length ≤ 9223372036854775807 := by
    obtain ⟨_, _, _, h6, _⟩ := H.out
    obtain ⟨p0, c0, _, hle, hmx⟩ := (K.out.2.2.2.2.2.1 w (h6 w (Keeps.refl _ _))).2.1.len
    unfold maxLen at hmx
    omega
   obtain ⟨w3, hw3⟩ : ∃ w3, (wc.drewN nq).setCell ⟨db, 8, none⟩ (.bool true) = w3 := ⟨_, rfl⟩
   have m3 : DkM w3 db { B with heard := true } := by rw [← hw3]; exact (Dm_drewN K.out.1 nq).set 8 (.bool true) _ rfl
   have k3 : Keeps (fun k => k = db) w w3 := by rw [← hw3]; exact K.out.2.1.trans (setAt ((Keeps.refl (fun k => k = db) wc).drewN nq) 8 (.bool true))
   have M3 := Lib.hid (And.intro m3 (And.intro k3 hFl))
   have hkc : Keeps (fun k => k = db) wc w3 := by rw [← hw3]; exact setAt ((Keeps.refl (fun k => k = db) wc).drewN nq) 8 (.bool true)
   have KC := Lib.hid hkc
   rw [hw3]
   clear hw3 m3 k3 hkc hFl x0 x1 x2 x3 x4 x5 x6 x7 x8 y0 y1 y2 y3 y4 y5 y6 y7 y8
   go_loopg [] (B.F.length - B.done) (fun n wm => ∃ k : Nat, B.done ≤ k ∧ (k = B.done ∨ k ≤ B.F.length ∧ k < ack) ∧ k ≤ B.F.length ∧ n = B.F.length - k ∧ DkM wm db { B with heard := true, done := k } ∧ Keeps (fun k => k = db) w3 wm)
   case atStart => exact ⟨B.done, Nat.le_refl _, .inl rfl, K.out.2.2.1, rfl, M3.out.1, Keeps.refl _ _⟩
   case round =>
    obtain ⟨k, hk1, hk2, hk3, rfl, hm, hkw⟩ := hrel
    have hbr : B.reads w := by
     obtain ⟨_, _, _, h6, _⟩ := H.out
     exact K.out.2.2.2.2.2.1 w (h6 w (Keeps.refl _ _))
    obtain ⟨fp, fc, hfv, _, _⟩ := hbr.2.1.len
    obtain ⟨⟨x0, x1, x2, x3, x4, x5, x6, x7, x8⟩, ⟨y0, y1, y2, y3, y4, y5, y6, y7, y8⟩⟩ := blk9 hm
    simp only at x3 x4 x5
    rw [hfv] at x3
    have hwne := K.out.2.2.2.2.2.2.2
    have kcr : Keeps (fun k => k = db) wc wr := KC.out.trans hkw
    have z2r := kcr.cell z2' hwne
    have z3r := kcr.cell z3' hwne
    have z4r := kcr.cell z4' hwne
    have hFl := M3.out.2.2
    obtain ⟨fn, hfn⟩ : ∃ n, B.F.length = n := ⟨_, rfl⟩
    simp only [hfn] at x3 hFl
    have G := Lib.hid (And.intro hk1 (And.intro hk2 (And.intro hk3 (And.intro hm (And.intro hkw hfn)))))
    clear hk1 hk2 hk3 hm hkw hfn hbr hfv kcr hwne
    go_upto_region 12 with fail
    go_cut [72] (fun v72 wt => ∃ t : Bool, v72 = .bool t ∧ (t = true ↔ k < fn ∧ k + 1 < ack) ∧ DkM wt db { B with heard := true, done := k } ∧ Keeps (fun k => k = db) wr wt)
    case first =>
     by_cases q2 : k < fn
     ·have hw1 : IntKind.i64.wrap ((k : Int) + 1) = (k : Int) + 1 := by rw [IntKind.wrap_i64]; omega
      have hw2 : IntKind.u64.wrap ((k : Int) + 1) = (k : Int) + 1 := by rw [IntKind.wrap_u64]; omega
      have g3 : decide ((k : Int) < (fn : Int)) = true := by simp; omega
      have g3' : decide (k < fn) = true := by simp; omega
      obtain ⟨t, ht⟩ : ∃ t, decide ((k : Int) + 1 < (ack : Int)) = t := ⟨_, rfl⟩
      have QQ := Lib.hid (And.intro q2 ht)
      clear q2
      go_quiet (fail)
      go_wp2_with fail
      go_meet
      case rel =>
       refine ⟨t, rfl, ?_, Dm_drewN G.out.2.2.2.1 _, (Keeps.refl (fun k => k = db) wr).drewN _⟩
       have := QQ.out
       rw [← this.2, decide_eq_true_iff]
       constructor
       ·exact fun h => ⟨this.1, by omega⟩
       ·exact fun h => by have := h.2; omega
     ·have g3 : decide ((k : Int) < (fn : Int)) = false := by simp; omega
      have g3' : decide (k < fn) = false := by simp; omega
      have QQ := Lib.hid q2
      clear q2
      go_quiet (fail)
      go_wp2_with fail
      go_meet
      case rel =>
       refine ⟨false, rfl, ⟨fun h => (by cases h), fun h => absurd h.1 QQ.out⟩, Dm_drewN G.out.2.2.2.1 _, (Keeps.refl (fun k => k = db) wr).drewN _⟩
    case rest =>
     obtain ⟨t, rfl, ht, hm2, hk2⟩ := hcut
     have hwne := K.out.2.2.2.2.2.2.2
     have z2t := hk2.cell z2r hwne
     have z3t := hk2.cell z3r hwne
     have z4t := hk2.cell z4r hwne
     obtain ⟨⟨p0, p1, p2, p3, p4, p5, p6, p7, p8⟩, ⟨r0, r1, r2, r3, r4, r5, r6, r7, r8⟩⟩ := blk9 hm2
     simp only at p4 p5
     have G2 := Lib.hid (And.intro ht (And.intro hm2 hk2))
     clear ht hm2 hk2 z2' z3' z4' z2r z3r z4r x0 x1 x2 x3 x4 x5 x6 x7 x8 y0 y1 y2 y3 y4 y5 y6 y7 y8 hwne
     cases t with
     | true =>
      have hw1 : IntKind.i64.wrap ((k : Int) + 1) = (k : Int) + 1 := by have := G2.out.1.1 (by trivial); rw [IntKind.wrap_i64]; omega
      go_wp2_with fail
      go_roundg (B.F.length - (k + 1))
      case measure =>
       have h1 := G2.out.1.1 (by trivial)
       have h2 := G.out.2.2.2.2.2
       omega
      case rel =>
       obtain ⟨ht, hm2, hk2⟩ := G2.out
       obtain ⟨hk1, _, hk3, hm, hkw, hfn⟩ := G.out
       have h1 := ht.1 (by trivial)
       refine ⟨k + 1, by omega, .inr ⟨by omega, h1.2⟩, by omega, rfl, ?_, hkw.trans (hk2.trans ?_)⟩
       ·exact hm2.set 4 (.int .i64 ((k : Int) + 1)) _ (by simp [Dv.cells])
       ·exact setAt (Keeps.refl (fun k => k = db) _) 4 _
     | false =>
      have hk : k = max B.done (min (ack - 1) B.F.length) := by
       have h3 := G.out
       refine acked_end h3.1 h3.2.1 (fun h => ?_)
       rw [h3.2.2.2.2.2] at h
       exact absurd (G2.out.1.2 h) (by simp)
      obtain ⟨A, hA⟩ : ∃ A, ({ B with heard := true, done := k } : Dv) = A := ⟨_, rfl⟩
      have eA : B.plain.acked ack = A.plain := by
       rw [← hA, hk]
       simp [Dp.acked, Dv.plain]
      have nA : A.next = B.next := by rw [← hA]
      have rA : ∀ W, B.reads W → A.reads W := by rw [← hA]; exact fun _ h => h
      have mA : DkM wc db A := by rw [← hA]; exact G2.out.2.1
      have kA : Keeps (fun k => k = db) w wc := M3.out.2.1.trans (G.out.2.2.2.2.1.trans G2.out.2.2)
      rw [← nA] at p5
      have hT := K.out.2.2.2.2.1
      rw [if_neg (by show ¬ (B.life ≠ B.life); simp)] at hT
      rw [show B.plain.acked ({ src := src, dst := B.life, seq := seq, ack := ack, data := d } : Pk).ack = A.plain from eA, show B.plain.next = A.next from nA.symm] at hT
      have hne := K.out.2.2.2.1
      rw [← nA] at hne
      have KW := Lib.hid (And.intro hT (And.intro mA (And.intro kA (And.intro hne (fun W h => rA W (K.out.2.2.2.2.2.1 W h))))))
      clear hk eA nA rA mA kA hT hne hA p0 p1 p2 p3 p4 p6 p8 r0 r1 r2 r3 r4 r6 r8 z3t G2
      by_cases q2 : seq = 0
      ·have g3 : ((seq : Int) == 0) = true := by simp [q2]
       have Q2 := Lib.hid q2
       clear q2
       go_wp2_with fail
       go_ret3
       obtain ⟨hT, mA, kA, hne, rA⟩ := KW.out
       obtain ⟨h0, h1, h2, h6, hv, hd, o1, b1, hzb, hp, hlt, hvb, m1, hdn, _, hab⟩ := H.out
       rw [if_pos Q2.out] at hT
       exact takD_of hT hab none 0 0 rfl (Owns.nil _ _) (Dk.of h1 h2 h6 mA kA rA) kA
      ·have g3 : ((seq : Int) == 0) = false := by simp [q2]
       by_cases q3 : seq = A.next
       ·have g4 : ((seq : Int) == (A.next : Int)) = true := by simp; omega
        have g5 : ((seq : Int) != (A.next : Int)) = false := by simp; omega
        have gb : (A.next : Int) + 1 < 18446744073709551616 := by have := KW.out.2.2.2.1; omega
        have gu : IntKind.u64.wrap ((A.next : Int) + 1) = (A.next : Int) + 1 := by rw [IntKind.wrap_u64]; omega
        have CL := Lib.hid (fun W (k : Keeps (fun k => k = db) wc W) => own20 (.slice vp d.length vc) d W (H.out.2.2.2.2.2.2.2.2.2.2.2.1 W (KW.out.2.2.1.trans k)) H.out.2.2.2.2.2.1)
        have Q3 := Lib.hid q3
        have Q2 := Lib.hid q2
        clear q2 q3
        go_wp2_with fail
        go_quiet (fail)
        go_wp2_with fail
        have k5 : Keeps (fun k => k = db) wc (((wc.setCell ⟨db, 7, none⟩ (.bool true)).drewN nq).setCell ⟨db, 5, none⟩ (.int .u64 ((A.next : Int) + 1))) := setAt ((setAt (Keeps.refl (fun k => k = db) wc) 7 (.bool true)).drewN nq) 5 _
        have m5 : DkM (((wc.setCell ⟨db, 7, none⟩ (.bool true)).drewN nq).setCell ⟨db, 5, none⟩ (.int .u64 ((A.next : Int) + 1))) db { A with owes := true, next := A.next + 1 } := (Dm_drewN (KW.out.2.1.set 7 (.bool true) { A with owes := true } rfl) nq).set 5 (.int .u64 ((A.next : Int) + 1)) _ (by simp [Dv.cells])
        refine (CL.out _ k5).mono ?_
        rintro e w6 ⟨p6, n6, c6, rfl, ho6, k6⟩
        have F6 := Lib.hid (And.intro ho6 (And.intro k6 (And.intro k5 m5)))
        clear ho6 k6 k5 m5
        go_wp2_with fail
        go_ret3
        obtain ⟨hT, mA, kA, hne, rA⟩ := KW.out
        obtain ⟨h0, h1, h2, h6, hv, hd, o1, b1, hzb, hp, hlt, hvb, m1, hdn, _, hab⟩ := H.out
        obtain ⟨ho6, k6, k5, m5⟩ := F6.out
        rw [if_neg Q2.out, if_neg (fun h => h Q3.out)] at hT
        have kk := (kA.trans k5).trans (k6.weaken (fun _ _ f => f.elim))
        exact takD_of hT hab p6 n6 c6 rfl (ho6.mono (kA.trans k5).size) (Dk.of (D' := { A with owes := true, next := A.next + 1 }) h1 h2 h6 ((k6.block db (lt_of_block m5) (fun f => f)).trans m5) kk rA) kk
       ·have g4 : ((seq : Int) == (A.next : Int)) = false := by simp; omega
        have g5 : ((seq : Int) != (A.next : Int)) = true := by simp; omega
        go_wp2_with fail
        go_quiet (fail)
        go_wp2_with fail
        go_ret3
        obtain ⟨hT, mA, kA, hne, rA⟩ := KW.out
        obtain ⟨h0, h1, h2, h6, hv, hd, o1, b1, hzb, hp, hlt, hvb, m1, hdn, _, hab⟩ := H.out
        rw [if_neg q2, if_pos q3] at hT
        have kk : Keeps (fun k => k = db) w _ := kA.trans ((setAt (Keeps.refl (fun k => k = db) wc) 7 (.bool true)).drewN nq)
        exact takD_of hT hab none 0 0 rfl (Owns.nil _ _) (Dk.of (D' := { A with owes := true }) h1 h2 h6 (Dm_drewN (mA.set 7 (.bool true) { A with owes := true } rfl) nq) kk rA) kk
  ·have g1 : ((dst : Int) == (B.life : Int)) = false := by simp; omega
   have g2 : ((dst : Int) != (B.life : Int)) = true := by simp; omega
   go_wp2_with fail
   go_quiet (fail)
   go_wp2_with fail
   go_ret3
   obtain ⟨mb, ko, e2, e3, hT, e5, hvc, hwne⟩ := K.out
   obtain ⟨h0, h1, h2, h6, hv, hd, o1, b1, hzb, hp, hlt, hvb, m1, hdn, hne, hab⟩ := H.out
   rw [if_pos (show dst ≠ B.plain.life from q1)] at hT
   have kk : Keeps (fun k => k = db) w _ := ko.trans (setAt ((Keeps.refl (fun k => k = db) wc).drewN nq) 7 (.bool true))
   exact takD_of hT hab none 0 0 rfl (Owns.nil _ _) (Dk.of (D' := { B with owes := true }) h1 h2 h6 ((Dm_drewN mb nq).set 7 (.bool true) _ rfl) kk (fun W h => e5 W h)) kk
end Go.Proofs.Ytllnlimbfoingaa
