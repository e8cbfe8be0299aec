/- DERIVED. The contracts of wire.Reader's Int and Bytes. · DERIVED. The contract of the reference's reader's Num. -/
import Derived.Test.YtllnlimbfoingaaZLinkEnds11
import Derived.Deep.RegionHeld3
import Derived.Deep.RegionWith
import Derived.Deep.RegionLaw
namespace Go.Proofs.Ytllnlimbfoingaa
open Go.RowKit

/-- what a read of bytes leaves -/
def BytesPost (w : World) (B rb bb : Nat) (l : List UInt8) (most : Int) (e : Ending) (w' : World) : Prop :=
 ∃ p n c, e = .returned (.tuple #[.slice p n c, .int .i64 (readBytes l most).2.1]) ∧ Owns w' w.heap.size (.slice p n c) (readBytes l most).1 ∧ Rd w' B rb bb (readBytes l most).2.2 ∧ Keeps (fun k => k = rb) w w'

theorem bytes_results (tmps : Array Value) (eb : Nat) (p : Option Addr) (m c : Nat) (n : Int) (w : World) (h4 : tmps.getD 4 undef = .slice p m c) (h5 : tmps.getD 5 undef = .pointer (some ⟨eb, 0, none⟩)) (hc : w.cell? ⟨eb, 0, none⟩ = some (.int .i64 n)) :
  (results Try.f46 tmps).run Try.prog w = .ok (.tuple #[.slice p m c, .int .i64 n]) w := by
 simp only [Array.getD_eq_getD_getElem?] at h4 h5
 simp [results, Try.results46, go_sem, h4, h5, hc]
theorem bytes_door_bad {w wd : World} {B rb bb : Nat} (hB : B ≤ w.heap.size) {l : List UInt8} {most : Int} {n : Nat} (hr : readBytes l most = ([], n, l)) (hn : n ≠ 0) (old v : Value) (p : Option Addr) (m c : Nat) (hv : v = .slice p m c)
  (h1 : wd.heap[rb]? = some (.cells #[old, .bool true] 117 (0, 0))) (hs : Sees w v l) (hl : l.length ≤ 1000000000) (hb : ∀ k, v.ownBlock = some k → k = bb ∧ k < B) (hne : bb ≠ rb)
  (hk : Keeps (fun k => k = rb) w wd) (he : wd.cell? ⟨w.heap.size, 0, none⟩ = some (.int .i64 n)) (tmps : Array Value) (h4 : tmps.getD 4 undef = .slice none 0 0) (h5 : tmps.getD 5 undef = .pointer (some ⟨w.heap.size, 0, none⟩))
  (hrb : rb ≠ w.heap.size) :
  Leaves Try.prog Try.f46 tmps (BytesPost w B rb bb l most)
   [{ target := .fn (.func 55) #[], args := #[.pointer (some ⟨rb, 0, none⟩), v, .pointer (some ⟨w.heap.size, 0, none⟩)] }] .returning wd := by
 have hk2 : Keeps (fun k => k = rb) w (wd.setCell ⟨rb, 0, none⟩ v) := hk.setCell (fun _ => rfl) v
 refine leaves_cons (f := 55) (args := #[.pointer (some ⟨rb, 0, none⟩), v, .pointer (some ⟨w.heap.size, 0, none⟩)]) (by simp) (by simp [go_sem]) ?_
 refine (keep_bad rb v w.heap.size n (by simp; omega) .returning wd he old (by simp [World.cell?, h1]) (by simp [World.frozen?, h1]) p m c hv).mono ?_
 rintro e u' w'' ⟨rfl, rfl, rfl⟩
 refine ⟨_, bytes_results tmps w.heap.size none 0 0 n _ h4 h5 ((World.cell?_setCell_other _ _ _ _ (by simp)).trans he), none, 0, 0, ?_, ?_, ?_, hk2⟩
 ·rw [hr]
 ·rw [hr]; exact Owns.nil _ _
 ·rw [hr]
  exact rd_of (Nat.le_trans hB hk2.size) (rd_set h1) (hs.keeps hk2 (fun k hk => by rw [(hb k hk).1]; exact hne)) hl hb hne
theorem bytes_door_ok {w wd : World} {B rb bb : Nat} (hB : B ≤ w.heap.size) {l r x : List UInt8} {most : Int} (hr : readBytes l most = (x, 0, r)) (v1 v : Value) (p : Option Addr) (n c : Nat) (hx : Owns wd w.heap.size (.slice p n c) x)
  (h1 : wd.heap[rb]? = some (.cells #[v1, .bool true] 117 (0, 0))) (hs : Sees wd v1 r) (hl : r.length ≤ 1000000000) (hb : ∀ k, v1.ownBlock = some k → k = bb ∧ k < B) (hne : bb ≠ rb)
  (hk : Keeps (fun k => k = rb) w wd) (he : wd.cell? ⟨w.heap.size, 0, none⟩ = some (.int .i64 0)) (tmps : Array Value) (h4 : tmps.getD 4 undef = .slice p n c) (h5 : tmps.getD 5 undef = .pointer (some ⟨w.heap.size, 0, none⟩)) :
  Leaves Try.prog Try.f46 tmps (BytesPost w B rb bb l most)
   [{ target := .fn (.func 55) #[], args := #[.pointer (some ⟨rb, 0, none⟩), v, .pointer (some ⟨w.heap.size, 0, none⟩)] }] .returning wd := by
 refine leaves_cons (f := 55) (args := #[.pointer (some ⟨rb, 0, none⟩), v, .pointer (some ⟨w.heap.size, 0, none⟩)]) (by simp) (by simp [go_sem]) ?_
 refine (keep_ok _ v w.heap.size .returning wd he).mono ?_
 rintro e u' w'' ⟨rfl, rfl, rfl⟩
 refine ⟨_, bytes_results tmps w.heap.size p n c 0 _ h4 h5 he, p, n, c, ?_, ?_, ?_, hk⟩
 ·rw [hr]; rfl
 ·rw [hr]; exact hx
 ·rw [hr]
  exact rd_of (Nat.le_trans hB hk.size) h1 hs hl hb hne

/-- the door behind a string that was read -/
theorem rbytes_ok {w W w2 : World} {B rb bb n : Nat} (hB : B ≤ w.heap.size) {l rest : List UInt8} {most : Int} (hr : readBytes l most = (rest.take n, 0, rest.drop n)) {v1 v : Value} {p1 p3 p4 : Option Addr} {m1 m3 c1 c3 n4 c4 : Nat}
  (t1 : W.heap[rb]? = some (.cells #[v1, .bool true] 117 (0, 0))) (hW : Keeps (fun k => k = rb) w W) (hsz : w.heap.size < W.heap.size) (s3 : Sees W (.slice p3 m3 c3) (rest.drop n)) (s4 : ∀ b, (Value.slice p3 m3 c3).ownBlock = some b → (Value.slice p1 m1 c1).ownBlock = some b)
  (hl : rest.length ≤ 1000000000) (r6 : ∀ k, (Value.slice p1 m1 c1).ownBlock = some k → k = bb ∧ k < B) (hne : bb ≠ rb) (ho : Owns w2 W.drew.heap.size (.slice p4 n4 c4) (rest.take n)) (hk : Old W.drew w2)
  (he : w2.cell? ⟨w.heap.size, 0, none⟩ = some (.int .i64 0)) (tmps : Array Value) (h4 : tmps.getD 4 undef = .slice p4 n4 c4) (h5 : tmps.getD 5 undef = .pointer (some ⟨w.heap.size, 0, none⟩)) (hrb : rb ≠ w.heap.size) :
  Leaves Try.prog Try.f46 tmps (BytesPost w B rb bb l most)
   [{ target := .fn (.func 55) #[], args := #[.pointer (some ⟨rb, 0, none⟩), v, .pointer (some ⟨w.heap.size, 0, none⟩)] }] .returning
    ((w2.setCell ⟨rb, 0, none⟩ (.slice p3 m3 c3)).setCell ⟨w.heap.size, 0, none⟩ (.int .i64 0)) := by
 have hrbW := lt_of_block t1
 have kk : Keeps (fun k => k = rb ∨ k = w.heap.size) w2 ((w2.setCell ⟨rb, 0, none⟩ (.slice p3 m3 c3)).setCell ⟨w.heap.size, 0, none⟩ (.int .i64 0)) :=
  ((Keeps.refl _ _).setCell (fun _ => .inl rfl) _).setCell (fun _ => .inr rfl) _
 have t2 : w2.heap[rb]? = some (.cells #[v1, .bool true] 117 (0, 0)) := (hk.block rb hrbW (fun f => f)).trans t1
 have hb4 := ho.block
 have hk0 : Old W w2 := ⟨hk.os, hk.tape, hk.output, hk.size, hk.block⟩
 have kW : Keeps (fun k => k = rb) w w2 := hW.then hk0 (fun _ _ f => False.elim f)
 refine bytes_door_ok hB hr (.slice p3 m3 c3) v p4 n4 c4 ?_ ?_ ?_ (by simp; omega) (fun k h => r6 k (s4 k h)) hne ?_ ?_ tmps h4 h5
 ·refine (ho.mono (Nat.le_of_lt hsz)).keeps kk ?_
  intro k hk'
  have := (hb4 k hk').1
  have e : W.drew.heap.size = W.heap.size := rfl
  omega
 ·exact (heap_setCell_other _ _ _ _ hrb).trans (rd_set t2)
 ·refine (Sees.old (w := W.drew) s3 hk).keeps kk ?_
  intro k hk'
  have := r6 k (s4 k hk')
  omega
 ·exact (kW.setCell (fun _ => rfl) _).setCell (fun h => absurd h (by simp)) _
 ·rw [World.cell?_setCell_same _ _ _ ((World.cell?_setCell_other _ _ _ _ (by simp)).trans he)]

set_option maxRecDepth 100000 in
set_option maxHeartbeats 4000000 in
theorem rbytes_any (B rb bb : Nat) (l : List UInt8) (most : Int) (w : World) (h : Rd w B rb bb l) (hm : most ≤ 9223372036854775807) :
  Calls Try.prog 46 #[.pointer (some ⟨rb, 0, none⟩), .int .i64 most] w (BytesPost w B rb bb l most) := by
 obtain ⟨hB, v0, g1, g2, g3, g4, g5⟩ := id h
 obtain ⟨p, c, rfl, _, _⟩ := g2.len
 have hrb := lt_of_block g1
 have hne : rb ≠ w.heap.size := by omega
 have k1 : (w.alloc (.cells #[.int .i64 0] 26)).cell? ⟨rb, 0, none⟩ = some (.slice p l.length c) := by
  rw [World.cell?_alloc_past _ _ _ hrb]; simp [World.cell?, g1]
 have k2 : (w.alloc (.cells #[.int .i64 0] 26)).cell? ⟨rb, 1, none⟩ = some (.bool true) := by
  rw [World.cell?_alloc_past _ _ _ hrb]; simp [World.cell?, g1]
 have G := Lib.hid (And.intro g1 (And.intro g2 (And.intro g3 (And.intro g4 (And.intro g5 (And.intro hm hB))))))
 clear g1 g2 g3 g4 g5 hB
 by_cases h0 : most < 0
 ·clear h hm
  go_enter_defers Try.func46, Try.ntmps46
  go_wp2_with fail
  obtain ⟨g1, g2, g3, g4, g5, hm, hB⟩ := G.out
  have hr : readBytes l most = ([], 1, l) := by unfold readBytes; rw [if_pos h0]
  refine ⟨_, bytes_results _ w.heap.size none 0 0 1 _ rfl rfl ?_, none, 0, 0, ?_, ?_, ?_, (Keeps.refl _ _).alloc _⟩
  ·rw [World.cell?_alloc_at _ _ _ _ rfl]; rfl
  ·rw [hr]; rfl
  ·rw [hr]; exact Owns.nil _ _
  ·rw [hr]; exact rd_of (by simp; omega) ((heap_alloc_old _ _ hrb).trans g1) (g2.alloc _) g3 g4 g5
 ·obtain ⟨m, rfl⟩ := Int.eq_ofNat_of_zero_le (show 0 ≤ most by omega)
  have hR : Rd (w.alloc (.cells #[.int .i64 0] 26)) B rb bb l := by
   obtain ⟨g1, g2, g3, g4, g5, hm, hB⟩ := G.out
   exact rd_of (by simp; omega) ((heap_alloc_old _ _ hrb).trans g1) (g2.alloc _) g3 g4 g5
  have hC := rnum_any B rb bb l m _ hR (by omega)
  have hle := readNum_le l m
  have herr := @readNum_bad l m
  have hmb : (m : Int) ≤ 9223372036854775807 := hm
  obtain ⟨n, hn⟩ : ∃ n, n = (readNum l m).1 := ⟨_, rfl⟩
  obtain ⟨er, her⟩ : ∃ n, n = (readNum l m).2.1 := ⟨_, rfl⟩
  obtain ⟨rest, hrest⟩ : ∃ n, n = (readNum l m).2.2 := ⟨_, rfl⟩
  have hrb' : readBytes l (m : Int) = if er ≠ 0 then ([], er, l) else if rest.length < n then ([], 4, l) else (rest.take n, 0, rest.drop n) := by
   unfold readBytes; rw [if_neg h0, Int.toNat_natCast, hn, her, hrest]
  unfold NumPost at hC
  rw [← hn, ← her, ← hrest] at hC
  rw [← hn, ← her, ← hrest] at herr
  rw [← hn] at hle
  have HC := Lib.hid hC
  have HB := Lib.hid (And.intro hrb' (And.intro hle herr))
  clear hC hrb' hle herr hn her hrest hm h hR
  by_cases e0 : er = 0
  ·subst e0
   by_cases hfit : rest.length < n
   ·go_enter_defers Try.func46, Try.ntmps46
    go_wp2_with fail
    refine HC.out.mono ?_
    rintro e w1 ⟨rfl, h1, h2⟩
    have q0 : w1.heap[w.heap.size]? = some (.cells #[.int .i64 0] 26 (0, 0)) := (h2.block _ (by simp) (by omega)).trans (heap_alloc_new _ _)
    have q1 : w1.cell? ⟨w.heap.size, 0, none⟩ = some (.int .i64 0) := cell_of_one q0
    have q2 : w1.frozen? ⟨w.heap.size, 0, none⟩ = false := free_of_one q0
    obtain ⟨p1, c1, r1, r2, r3, r4, r5, r6, r7⟩ := h1.cells
    have H := Lib.hid (And.intro h1 (And.intro h2 (And.intro q0 (And.intro r4 (And.intro r6 r7)))))
    clear h1 h2 q0 r4 r6 r7
    go_wp2_with fail
    obtain ⟨h1, h2, q0, r4, r6, r7⟩ := H.out
    obtain ⟨g1, g2, g3, g4, g5, _, hB⟩ := G.out
    have hk : Keeps (fun k => k = rb) w w1 := ((Keeps.refl _ w).alloc _).trans h2
    obtain ⟨_, v1, t1, _⟩ := h1
    refine bytes_door_bad hB (n := 4) (by rw [HB.out.1, if_neg (by simp), if_pos hfit]) (by decide) v1 (.slice p l.length c) p _ c rfl ?_ g2 g3 g4 g5 ?_ ?_ _ rfl rfl hne
    ·exact (heap_setCell_other _ _ _ _ hne).trans ((heap_setCell_other _ _ _ _ hne).trans t1)
    ·exact (hk.setCell (fun h => absurd h (by simp)) _).setCell (fun h => absurd h (by simp)) _
    ·rw [World.cell?_setCell_same _ _ _ (World.cell?_setCell_same _ _ _ q1)]; rfl
   ·go_enter_defers Try.func46, Try.ntmps46
    go_wp2_with fail
    refine HC.out.mono ?_
    rintro e w1 ⟨rfl, h1, h2⟩
    have q0 : w1.heap[w.heap.size]? = some (.cells #[.int .i64 0] 26 (0, 0)) := (h2.block _ (by simp) (by omega)).trans (heap_alloc_new _ _)
    have q1 : w1.cell? ⟨w.heap.size, 0, none⟩ = some (.int .i64 0) := cell_of_one q0
    have q2 : w1.frozen? ⟨w.heap.size, 0, none⟩ = false := free_of_one q0
    obtain ⟨p1, c1, r1, r2, r3, r4, r5, r6, r7⟩ := h1.cells
    have H := Lib.hid (And.intro h1 (And.intro h2 (And.intro q0 (And.intro r4 (And.intro r6 r7)))))
    clear h1 h2 q0 r4 r6 r7
    go_wp2_with fail
    obtain ⟨h1, h2, q0, r4, r6, r7⟩ := H.out
    have hB := G.out.2.2.2.2.2.2
    have r4' := r4.keeps ((Keeps.refl (fun k => k = w.heap.size) w1).setCell (p := ⟨w.heap.size, 0, none⟩) (fun _ => rfl) (.int .i64 0)) (fun k hk => by have := r6 k hk; show ¬ k = w.heap.size; omega)
    have r1' : (w1.setCell ⟨w.heap.size, 0, none⟩ (.int .i64 0)).cell? ⟨rb, 0, none⟩ = some (.slice p1 rest.length c1) := (World.cell?_setCell_other _ _ _ _ (by simp)).trans r1
    have r3' : (w1.setCell ⟨w.heap.size, 0, none⟩ (.int .i64 0)).frozen? ⟨rb, 0, none⟩ = false := (World.frozen?_setCell _ _ _ _).trans r3
    have q1' : (w1.setCell ⟨w.heap.size, 0, none⟩ (.int .i64 0)).cell? ⟨w.heap.size, 0, none⟩ = some (.int .i64 0) := World.cell?_setCell_same _ _ _ q1
    have q2' : (w1.setCell ⟨w.heap.size, 0, none⟩ (.int .i64 0)).frozen? ⟨w.heap.size, 0, none⟩ = false := (World.frozen?_setCell _ _ _ _).trans q2
    obtain ⟨g1, g2, g3, g4, g5, _, _⟩ := G.out
    obtain ⟨_, v1, t1, _⟩ := h1
    have t1' : (w1.setCell ⟨w.heap.size, 0, none⟩ (.int .i64 0)).heap[rb]? = some (.cells #[v1, .bool true] 117 (0, 0)) := (heap_setCell_other _ _ _ _ hne).trans t1
    have hW : Keeps (fun k => k = rb) w (w1.setCell ⟨w.heap.size, 0, none⟩ (.int .i64 0)) := (((Keeps.refl _ w).alloc _).trans h2).setCell (fun h => absurd h (by simp)) _
    have hsz : w.heap.size < (w1.setCell ⟨w.heap.size, 0, none⟩ (.int .i64 0)).heap.size := World.block_lt_of_cell? _ _ q1'
    obtain ⟨p2, c2, hs1, s1, s2⟩ := r4'.upto n (by omega) .u64 n rfl
    obtain ⟨p3, c3, hs2, s3, s4⟩ := r4'.from n (by omega) .u64 n rfl
    generalize w1.setCell ⟨w.heap.size, 0, none⟩ (.int .i64 0) = W at *
    have F := Lib.hid (And.intro t1' (And.intro hW (And.intro hsz (And.intro s2 (And.intro s3 (And.intro s4 (And.intro r5 r6)))))))
    clear t1' hW hsz s2 s3 s4 r4 r4' t1 h2 q0 g1 g2 g4 q1 q2 r1 r2 r3 r6 k1 k2
    refine wp_region_noPanic ?_
    go_region_with ((go_at_call 37; refine (bytes_clone_any _ (rest.take n) _ ?_ ?_).mono ?_; exact s1; (simp; omega); rintro e w2 ⟨p4, n4, c4, rfl, ho2, hk2⟩; have hq := hk2.cf ⟨r1', r3'⟩ (fun f => f); obtain ⟨hq1, hq2⟩ := hq; have hz := hk2.cf ⟨q1', q2'⟩ (fun f => f); obtain ⟨hz1, hz2⟩ := hz))
    all_goals refine NoPanic.normal ?_
    all_goals go_wp2_with fail
    all_goals exact rbytes_ok hB (by rw [HB.out.1, if_neg (by simp), if_neg hfit]) F.out.1 F.out.2.1 F.out.2.2.1 F.out.2.2.2.2.1 F.out.2.2.2.2.2.1 F.out.2.2.2.2.2.2.1 F.out.2.2.2.2.2.2.2 g5 ho2 hk2 hz1 _ rfl rfl hne
  ·have hd : ((er : Int) != 0) = true := by simp; omega
   go_enter_defers Try.func46, Try.ntmps46
   go_wp2_with fail
   refine HC.out.mono ?_
   rintro e w1 ⟨rfl, h1, h2⟩
   have q0 : w1.heap[w.heap.size]? = some (.cells #[.int .i64 0] 26 (0, 0)) := (h2.block _ (by simp) (by omega)).trans (heap_alloc_new _ _)
   have q1 : w1.cell? ⟨w.heap.size, 0, none⟩ = some (.int .i64 0) := cell_of_one q0
   have q2 : w1.frozen? ⟨w.heap.size, 0, none⟩ = false := free_of_one q0
   have H := Lib.hid (And.intro h1 (And.intro h2 q0))
   clear h1 h2 q0
   go_wp2_with fail
   go_region
   go_wp2_with fail
   obtain ⟨h1, h2, q0⟩ := H.out
   obtain ⟨g1, g2, g3, g4, g5, _, hB⟩ := G.out
   have hk : Keeps (fun k => k = rb) w w1 := ((Keeps.refl _ w).alloc _).trans h2
   obtain ⟨_, v1, t1, _⟩ := h1
   refine bytes_door_bad hB (n := er) (by rw [HB.out.1, if_pos e0]) e0 v1 (.slice p l.length c) p _ c rfl ?_ g2 g3 g4 g5 ?_ ?_ _ rfl rfl hne
   ·exact (heap_setCell_other _ _ _ _ hne).trans ((heap_setCell_other _ _ _ _ hne).trans t1)
   ·exact ((hk.setCell (fun h => absurd h (by simp)) _).setCell (fun h => absurd h (by simp)) _).drew
   ·rw [World.cell?_drew, World.cell?_setCell_same _ _ _ (World.cell?_setCell_same _ _ _ q1)]
end Go.Proofs.Ytllnlimbfoingaa

namespace Go.Proofs.Ytllnlimbfoingaa
open Go.RowKit

/-- a reader of the reference at block qb, what is left at the slice v -/
def Qd (w : World) (qb : Nat) (v : Value) (l : List UInt8) : Prop :=
 w.heap[qb]? = some (.cells #[v] 109 (0, 0)) ∧ Sees w v l ∧ l.length ≤ 1000000000 ∧ ∀ k, v.ownBlock = some k → k ≠ qb ∧ k < w.heap.size
/-- what a read of a number leaves -/
def QNumPost (w : World) (qb : Nat) (v : Value) (l : List UInt8) (most : Nat) (e : Ending) (w' : World) : Prop :=
 e = .returned (.tuple #[.int .u64 (readNum l most).1, .int .i64 (readNum l most).2.1]) ∧
 ∃ v', Qd w' qb v' (readNum l most).2.2 ∧ (∀ k, v'.ownBlock = some k → v.ownBlock = some k ∨ w.heap.size ≤ k) ∧ Keeps (fun k => k = qb) w w'

theorem qnum_bad {w : World} {qb : Nat} {v : Value} {l : List UInt8} {most e : Nat} (h : Qd w qb v l) (hr : readNum l most = (0, e, l)) : QNumPost w qb v l most (.returned (.tuple #[.int .u64 0, .int .i64 e])) w :=
 ⟨by rw [hr]; rfl, v, by rw [hr]; exact h, fun k hk => .inl hk, Keeps.refl _ _⟩

theorem q_set {w : World} {qb : Nat} {old v : Value} (h1 : w.heap[qb]? = some (.cells #[old] 109 (0, 0))) : (w.setCell ⟨qb, 0, none⟩ v).heap[qb]? = some (.cells #[v] 109 (0, 0)) := one_setCell h1
/-- the reader's field is set to a new slice -/
theorem q_new {w w2 : World} {qb : Nat} {v : Value} {l rest : List UInt8} (h : Qd w qb v l) (hl : rest.length ≤ 1000000000) {B : Nat} (hB : w.heap.size ≤ B) {v4 : Value} (ho : Owns w2 B v4 rest) (hk : Keeps (fun k => k = qb) w w2) (old : Value)
  (ht : w2.heap[qb]? = some (.cells #[old] 109 (0, 0))) :
  Qd (w2.setCell ⟨qb, 0, none⟩ v4) qb v4 rest ∧ (∀ k, v4.ownBlock = some k → v.ownBlock = some k ∨ w.heap.size ≤ k) ∧ Keeps (fun k => k = qb) w (w2.setCell ⟨qb, 0, none⟩ v4) := by
 have hq := lt_of_block h.1
 have hb := ho.block
 have hn : ∀ k, v4.ownBlock = some k → k ≠ qb := fun k hk' => by have := (hb k hk').1; omega
 refine ⟨⟨q_set ht, ho.sees.keeps ((Keeps.refl (fun k => k = qb) _).setCell (fun _ => rfl) _) hn, hl, fun k hk' => ⟨hn k hk', Nat.lt_of_lt_of_le (hb k hk').2 ((Keeps.refl (fun k => k = qb) w2).setCell (p := ⟨qb, 0, none⟩) (fun _ => rfl) v4).size⟩⟩, fun k hk' => .inr (by have := (hb k hk').1; omega), hk.setCell (fun _ => rfl) _⟩
theorem qnum_good {w w2 : World} {qb : Nat} {v : Value} {l rest : List UInt8} {most S : Nat} (h : Qd w qb v l) (hr : readNum l most = (S, 0, rest)) (hl : rest.length ≤ 1000000000) {p4 : Option Addr} {n4 c4 : Nat} (ho : Owns w2 w.heap.size (.slice p4 n4 c4) rest) (hk : Old w w2) :
  QNumPost w qb v l most (.returned (.tuple #[.int .u64 S, .int .i64 0])) (w2.setCell ⟨qb, 0, none⟩ (.slice p4 n4 c4)) := by
 refine ⟨by rw [hr]; rfl, .slice p4 n4 c4, ?_⟩
 rw [hr]
 exact q_new h hl (Nat.le_refl _) ho (hk.weaken (fun _ _ f => f.elim)) v ((hk.block qb (lt_of_block h.1) (fun f => f)).trans h.1)

set_option maxRecDepth 100000 in
set_option maxHeartbeats 4000000 in
theorem qnum_any (qb : Nat) (v : Value) (l : List UInt8) (most : Nat) (w : World) (h : Qd w qb v l) (hm : most < 18446744073709551616) :
  Calls Try.prog 48 #[.pointer (some ⟨qb, 0, none⟩), .int .u64 most] w (QNumPost w qb v l most) := by
 obtain ⟨g1, g2, g3, g4⟩ := id h
 obtain ⟨p, c, rfl, hc1, hc2⟩ := g2.len
 have k1 : w.cell? ⟨qb, 0, none⟩ = some (.slice p l.length c) := cell_of_one g1
 have k2 : w.frozen? ⟨qb, 0, none⟩ = false := free_of_one g1
 have hll := lead_le l
 have hat := lead_at l
 have hen := lead_end l
 have rd1 := @read_many l most
 have rd2 := @read_short l most
 have rd3 := @read_none l most
 have rd4 := @read_good l most
 generalize lead l = n at *
 have R := Lib.hid (And.intro rd1 (And.intro rd2 (And.intro @rd3 (And.intro @rd4 (And.intro hat hen)))))
 have G := Lib.hid (And.intro h (And.intro g2 (And.intro g4 hm)))
 clear g1 g2 g4 h hm rd1 rd2 rd3 rd4 hat hen
 go_enter Try.func48, Try.ntmps48
 go_wp2_with fail
 go_loop [6] (fun v6 => ∃ k : Nat, k ≤ n ∧ v6 = .int .i64 k) (fun v6 => n - (intOf v6).toNat)
 case atStart => exact ⟨0, Nat.zero_le _, rfl⟩
 case round =>
  obtain ⟨k, hk, rfl⟩ := hrel
  by_cases hlt : k < n
  ·obtain ⟨ch, h1, h2⟩ := R.out.2.2.2.2.1 k hlt
   obtain ⟨b, o, c', he, _, _, hcell⟩ := G.out.2.1.at (by omega)
   simp only [Value.slice.injEq, true_and] at he
   obtain ⟨rfl, rfl⟩ := he
   have hcc : w.cell? ⟨b, o + k, none⟩ = some (.int .u8 ch.toNat) := hcell k ch h1
   have hkl : k < l.length := by omega
   clear hcell h1
   go_wp2_with fail
   go_round
   case rel => exact ⟨k + 1, by omega, by go_num⟩
   case measure => simp [intOf]; omega
  ·obtain rfl : k = n := by omega
   clear hlt hk
   by_cases hend : k = l.length
   ·have hnl : ¬ k < l.length := by omega
    have HE := Lib.hid hend
    clear hend
    by_cases hten : 10 ≤ k
    ·go_wp2_with fail
     go_ret2
     exact qnum_bad G.out.1 (R.out.1 hten)
    ·have heq : ((k : Int) == (l.length : Int)) = true := by have := HE.out; simp; omega
     go_wp2_with fail
     go_ret2
     exact qnum_bad G.out.1 (R.out.2.1 (by omega) HE.out)
   ·obtain ⟨ch, h1, h2⟩ := R.out.2.2.2.2.2 (by omega)
    obtain ⟨b, o, c', he, _, _, hcell⟩ := G.out.2.1.at (by omega)
    simp only [Value.slice.injEq, true_and] at he
    obtain ⟨rfl, rfl⟩ := he
    have hcc : w.cell? ⟨b, o + k, none⟩ = some (.int .u8 ch.toNat) := hcell k ch h1
    have hkl : k < l.length := by omega
    have heq : ((k : Int) == (l.length : Int)) = false := by simp; omega
    have HC := Lib.hid (And.intro hcell h1)
    clear hcell h1 hend
    by_cases hten : 10 ≤ k
    ·go_wp2_with fail
     go_ret2
     exact qnum_bad G.out.1 (R.out.1 hten)
    ·have t10 : decide (10 ≤ (k : Int)) = false := by simp; omega
     have t128 : decide (128 ≤ (ch.toNat : Int)) = false := by simp; omega
     go_wp2_with fail
     go_loop [7, 8, 9] (fun v7 v8 _ => ∃ x : Int, v8 = .int .i64 x ∧ -1 ≤ x ∧ x ≤ k ∧ v7 = .int .u64 (lev ((l.take (k + 1)).drop (x + 1).toNat) : Nat) ∧ ((k = 9 ∧ 1 < ch.toNat) → x = k)) (fun _ v8 _ => (intOf v8 + 1).toNat)
     case atStart => exact ⟨k, rfl, by omega, by omega, by rw [show ((k : Int) + 1).toNat = k + 1 from by omega, List.drop_eq_nil_of_le (by simp; omega)]; rfl, fun _ => rfl⟩
     case round =>
      obtain ⟨x, rfl, hx1, hx2, rfl, hb9⟩ := hrel
      by_cases hx : 0 ≤ x
      ·obtain ⟨i, rfl⟩ := Int.eq_ofNat_of_zero_le hx
       obtain ⟨ci, hci⟩ : ∃ ci, l[i]? = some ci := ⟨l[i]'(by omega), by simp⟩
       have hcell : w.cell? ⟨b, o + i, none⟩ = some (.int .u8 ci.toNat) := HC.out.1 i ci hci
       have h1 := HC.out.2
       have hil : i < l.length := by omega
       by_cases bad : k = 9 ∧ 1 < ch.toNat
       ·obtain rfl : i = k := by have := hb9 bad; omega
        obtain rfl : ci = ch := by rw [hci] at h1; exact Option.some.inj h1
        have t9 : ((i : Int) == 9) = true := by simp; omega
        have tg : (1 : Int) < (ci.toNat : Int) % 128 := by omega
        have BB := Lib.hid bad
        clear bad hb9 h1 hci hcell
        go_wp2_with fail
        go_ret2
        exact qnum_bad G.out.1 (R.out.2.2.1 (by omega) HC.out.2 (.inl BB.out))
       ·have hst : lev ((l.take (k + 1)).drop i) = ci.toNat % 128 + 128 * lev ((l.take (k + 1)).drop (i + 1)) := lev_step _ i ci (by rw [List.getElem?_take, if_pos (by omega)]; exact hci)
        have hfit := lev_fits l k (by omega) ch h1 (by omega)
        have hle := lev_drop (l.take (k + 1)) i
        have h9 : ((i : Int) == 9) = true → ci.toNat % 128 ≤ 1 := by
         intro h
         obtain rfl : i = 9 := by simp at h; omega
         obtain rfl : k = 9 := by omega
         obtain rfl : ci = ch := by rw [hci] at h1; exact Option.some.inj h1
         omega
        rw [show ((i : Int) + 1).toNat = i + 1 from by omega]
        generalize lev ((l.take (k + 1)).drop (i + 1)) = S at *
        generalize hS' : lev ((l.take (k + 1)).drop i) = S' at *
        have hb1 : ci.toNat % 128 + 128 * S < 18446744073709551616 := by omega
        have ST := Lib.hid (And.intro hst (And.intro hS' bad))
        clear hst hS' hfit hle h1 hci bad hb9
        by_cases t9 : ((i : Int) == 9) = true
        ·have tg : ¬ (1 : Int) < (ci.toNat : Int) % 128 := by have := h9 t9; omega
         clear h9
         go_wp2_with fail
         go_round
         case rel => exact ⟨(i : Int) - 1, rfl, by omega, by omega, by rw [show ((i : Int) - 1 + 1).toNat = i from by omega, ST.out.2.1, ST.out.1]; exact congrArg (Value.int .u64) (by omega), fun h => absurd h ST.out.2.2⟩
         case measure => simp [intOf]
        ·have t9' : ((i : Int) == 9) = false := by simpa using t9
         clear h9 t9
         go_wp2_with fail
         go_round
         case rel => exact ⟨(i : Int) - 1, rfl, by omega, by omega, by rw [show ((i : Int) - 1 + 1).toNat = i from by omega, ST.out.2.1, ST.out.1]; exact congrArg (Value.int .u64) (by omega), fun h => absurd h ST.out.2.2⟩
         case measure => simp [intOf]
      ·obtain rfl : x = -1 := by omega
       have nb : ¬ (k = 9 ∧ 1 < ch.toNat) := fun h => by have := hb9 h; omega
       have h1 := HC.out.2
       rw [show ((-1 : Int) + 1).toNat = 0 from rfl, List.drop_zero]
       by_cases hz : 0 < k ∧ ch.toNat = 0
       ·have tz : ((ch.toNat : Int) == 0) = true := by simp; omega
        have hk0 := hz.1
        have HZ := Lib.hid hz
        have NB := Lib.hid nb
        clear hz nb hb9 h1
        go_wp2_with fail
        go_ret2
        exact qnum_bad G.out.1 (R.out.2.2.1 (by omega) HC.out.2 (.inr HZ.out))
       ·have hR := R.out.2.2.2.1 (by omega) h1 (by omega)
        have hfit := lev_fits l k (by omega) ch h1 (by omega)
        generalize hS : lev (l.take (k + 1)) = S at *
        have HR := Lib.hid hR
        have hk1 : k + 1 ≤ l.length := by omega
        obtain ⟨p3, c3, hs2, s3, s4⟩ := G.out.2.1.from (k + 1) hk1 .i64 ((k : Int) + 1) (by omega)
        have F := Lib.hid (And.intro s3 s4)
        clear hR nb hb9 h1 hS s3 s4
        have t0 : 0 < k ∧ ((ch.toNat : Int) == 0) = false ∨ ¬ 0 < k := by simp; omega
        clear hz
        by_cases hlong : most < S
        ·rcases t0 with ⟨t0, tz⟩ | t0
         all_goals go_wp2_with fail
         all_goals go_ret2
         all_goals exact qnum_bad G.out.1 (by rw [HR.out, if_pos hlong])
        ·rcases t0 with ⟨t0, tz⟩ | t0
         all_goals go_wp2_with (go_at_call 35; refine (own_any _ (l.drop (k + 1)) _ F.out.1 (by simp; omega)).mono ?_; rintro e w2 ⟨p4, n4, c4, rfl, ho2, hk2⟩; have hq := hk2.cf ⟨k1, k2⟩ (fun f => f); obtain ⟨hq1, hq2⟩ := hq)
         all_goals go_ret2
         all_goals exact qnum_good G.out.1 (by rw [HR.out, if_neg hlong]) (by simp; omega) ho2 hk2

def QIntPost (w : World) (qb : Nat) (v : Value) (l : List UInt8) (e : Ending) (w' : World) : Prop :=
 e = .returned (.tuple #[.int .i64 (readInt l).1, .int .i64 (readInt l).2.1]) ∧
 ∃ v', Qd w' qb v' (readInt l).2.2 ∧ (∀ k, v'.ownBlock = some k → v.ownBlock = some k ∨ w.heap.size ≤ k) ∧ Keeps (fun k => k = qb) w w'

/-- what a read of bytes leaves -/
def QBytesPost (w : World) (qb : Nat) (v : Value) (l : List UInt8) (most : Int) (e : Ending) (w' : World) : Prop :=
 ∃ p n c, e = .returned (.tuple #[.slice p n c, .int .i64 (readBytes l most).2.1]) ∧ Owns w' w.heap.size (.slice p n c) (readBytes l most).1 ∧
 ∃ v', Qd w' qb v' (readBytes l most).2.2 ∧ (∀ k, v'.ownBlock = some k → v.ownBlock = some k ∨ w.heap.size ≤ k) ∧ Keeps (fun k => k = qb) w w'
theorem qbytes_bad {w w' : World} {qb : Nat} {v : Value} {l : List UInt8} {most : Int} {e : Nat} (hr : readBytes l most = ([], e, l)) (v' : Value) (h : Qd w' qb v' l) (hv : ∀ k, v'.ownBlock = some k → v.ownBlock = some k ∨ w.heap.size ≤ k) (hk : Keeps (fun k => k = qb) w w') :
  QBytesPost w qb v l most (.returned (.tuple #[.slice none 0 0, .int .i64 e])) w' :=
 ⟨none, 0, 0, by rw [hr], by rw [hr]; exact Owns.nil _ _, v', by rw [hr]; exact h, hv, hk⟩

theorem qbytes_good {w w1 w2 w3 : World} {qb n : Nat} {v v1 : Value} {l rest : List UInt8} {most : Int} {p4 p5 : Option Addr} {n4 c4 n5 c5 : Nat} (h : Qd w qb v l) (hr : readBytes l most = (rest.take n, 0, rest.drop n)) (hl : (rest.drop n).length ≤ 1000000000)
  (h1 : Qd w1 qb v1 rest) (h3 : Keeps (fun k => k = qb) w w1) (ho2 : Owns w2 w1.heap.size (.slice p4 n4 c4) (rest.take n)) (hk2 : Old w1 w2) (ho3 : Owns w3 w2.heap.size (.slice p5 n5 c5) (rest.drop n)) (hk3 : Old w2 w3) :
  QBytesPost w qb v l most (.returned (.tuple #[.slice p4 n4 c4, .int .i64 0])) (w3.setCell ⟨qb, 0, none⟩ (.slice p5 n5 c5)) := by
 have k2 : Old w1 w3 := hk2.trans hk3
 have kk : Keeps (fun k => k = qb) w w3 := h3.then k2 (fun _ _ f => f.elim)
 have hq := lt_of_block h.1
 have hb := ho2.block
 have hs := h3.size
 have hs2 := hk2.size
 refine ⟨p4, n4, c4, by rw [hr]; rfl, ?_, .slice p5 n5 c5, ?_⟩
 ·rw [hr]
  exact ((ho2.mono hs).old hk3).keeps ((Keeps.refl (fun k => k = qb) _).setCell (fun _ => rfl) _) (fun k hk' => by have := (hb k hk').1; omega)
 ·rw [hr]
  exact q_new h hl (by omega) ho3 kk v1 ((k2.block qb (lt_of_block h1.1) (fun f => f)).trans h1.1)

set_option maxRecDepth 100000 in
set_option maxHeartbeats 4000000 in
theorem qbytes_any (qb : Nat) (v : Value) (l : List UInt8) (most : Int) (w : World) (h : Qd w qb v l) (hm : most ≤ 9223372036854775807) :
  Calls Try.prog 49 #[.pointer (some ⟨qb, 0, none⟩), .int .i64 most] w (QBytesPost w qb v l most) := by
 obtain ⟨g1, g2, g3, g4⟩ := id h
 obtain ⟨p, c, rfl, hc1, hc2⟩ := g2.len
 have k1 : w.cell? ⟨qb, 0, none⟩ = some (.slice p l.length c) := cell_of_one g1
 by_cases h0 : most < 0
 ·have H := Lib.hid h
  clear h g1 g2 g4
  go_enter Try.func49, Try.ntmps49
  go_wp2_with fail
  go_ret2
  exact qbytes_bad (by unfold readBytes; rw [if_pos h0]) _ H.out (fun k hk => .inl hk) (Keeps.refl _ _)
 ·obtain ⟨m, rfl⟩ := Int.eq_ofNat_of_zero_le (show 0 ≤ most by omega)
  have hC := qnum_any qb (.slice p l.length c) l m w h (by omega)
  have hle := readNum_le l m
  have herr := @readNum_bad l m
  have hrl := readNum_rest l m
  have hmb : (m : Int) ≤ 9223372036854775807 := hm
  obtain ⟨n, hn⟩ : ∃ n, n = (readNum l m).1 := ⟨_, rfl⟩
  obtain ⟨er, her⟩ : ∃ n, n = (readNum l m).2.1 := ⟨_, rfl⟩
  obtain ⟨rest, hrest⟩ : ∃ n, n = (readNum l m).2.2 := ⟨_, rfl⟩
  have hrb' : readBytes l (m : Int) = if er ≠ 0 then ([], er, l) else if rest.length < n then ([], 4, l) else (rest.take n, 0, rest.drop n) := by
   unfold readBytes; rw [if_neg h0, Int.toNat_natCast, hn, her, hrest]
  unfold QNumPost at hC
  rw [← hn, ← her, ← hrest] at hC
  rw [← hn, ← her, ← hrest] at herr
  rw [← hn] at hle
  rw [← hrest] at hrl
  have HC := Lib.hid hC
  have HB := Lib.hid (And.intro hrb' (And.intro hle (And.intro herr (And.intro h (And.intro g2 g4)))))
  clear hC hrb' hle herr hn her hrest hm h g1 g2 g4
  by_cases e0 : er = 0
  ·subst e0
   by_cases hfit : rest.length < n
   ·go_enter Try.func49, Try.ntmps49
    go_wp2_with fail
    refine HC.out.mono ?_
    rintro e w1 ⟨rfl, v1, h1, h2, h3⟩
    obtain ⟨q1, q2, q3, q4⟩ := id h1
    obtain ⟨p1, c1, rfl, _, _⟩ := q2.len
    have k3 : w1.cell? ⟨qb, 0, none⟩ = some (.slice p1 rest.length c1) := cell_of_one q1
    have k4 : w1.frozen? ⟨qb, 0, none⟩ = false := free_of_one q1
    have H := Lib.hid (And.intro h1 (And.intro h2 h3))
    clear h1 h2 h3 q1 q2 q4
    go_wp2_with fail
    go_ret2
    obtain ⟨h1, h2, h3⟩ := H.out
    have hk := h3.setCell (p := ⟨qb, 0, none⟩) (fun _ => rfl) (.slice p l.length c)
    refine qbytes_bad (by rw [HB.out.1, if_neg (by simp), if_pos hfit]) (.slice p l.length c) ⟨q_set h1.1, HB.out.2.2.2.2.1.keeps hk (fun k hk => (HB.out.2.2.2.2.2 k hk).1), g3, fun k hk' => ⟨(HB.out.2.2.2.2.2 k hk').1, Nat.lt_of_lt_of_le (HB.out.2.2.2.2.2 k hk').2 hk.size⟩⟩ (fun k hk => .inl hk) hk
   ·go_enter Try.func49, Try.ntmps49
    go_wp2_with fail
    refine HC.out.mono ?_
    rintro e w1 ⟨rfl, v1, h1, h2, h3⟩
    obtain ⟨q1, q2, q3, q4⟩ := id h1
    obtain ⟨p1, c1, rfl, _, _⟩ := q2.len
    have k3 : w1.cell? ⟨qb, 0, none⟩ = some (.slice p1 rest.length c1) := cell_of_one q1
    have k4 : w1.frozen? ⟨qb, 0, none⟩ = false := free_of_one q1
    have hn : n ≤ rest.length := by omega
    obtain ⟨p2, c2, hs1, s1, s2⟩ := q2.upto n hn .u64 n rfl
    obtain ⟨p3, c3, hs2, s3, s4⟩ := q2.from n hn .u64 n rfl
    have H := Lib.hid (And.intro h1 (And.intro h2 (And.intro h3 (And.intro s1 s3))))
    clear h1 h2 h3 q1 q2 q4 s1 s2 s3 s4
    go_wp2_with fail
    refine (own_any _ (rest.take n) _ H.out.2.2.2.1 (by simp; omega)).mono ?_
    rintro e w2 ⟨p4, n4, c4, rfl, ho2, hk2⟩
    obtain ⟨hq1, hq2⟩ := hk2.cf ⟨k3, k4⟩ (fun f => f)
    have H2 := Lib.hid (And.intro ho2 hk2)
    clear ho2 hk2
    go_wp2_with fail
    refine (own_any _ (rest.drop n) _ (H.out.2.2.2.2.old H2.out.2) (by simp; omega)).mono ?_
    rintro e w3 ⟨p5, n5, c5, rfl, ho3, hk3⟩
    obtain ⟨hr1, hr2⟩ := hk3.cf ⟨hq1, hq2⟩ (fun f => f)
    have H3 := Lib.hid (And.intro ho3 hk3)
    clear ho3 hk3
    go_wp2_with fail
    go_ret2
    exact qbytes_good HB.out.2.2.2.1 (by rw [HB.out.1, if_neg (by simp), if_neg hfit]) (by simp; omega) H.out.1 H.out.2.2.1 H2.out.1 H2.out.2 H3.out.1 H3.out.2
  ·have hd : ((er : Int) != 0) = true := by simp; omega
   go_enter Try.func49, Try.ntmps49
   go_wp2_with fail
   refine HC.out.mono ?_
   rintro e w1 ⟨rfl, v1, h1, h2, h3⟩
   have H := Lib.hid (And.intro h1 (And.intro h2 h3))
   clear h1 h2 h3
   go_wp2_with fail
   go_ret2
   obtain ⟨h1, h2, h3⟩ := H.out
   rw [(HB.out.2.2.1 e0).2] at h1
   exact qbytes_bad (by rw [HB.out.1, if_pos e0]) v1 h1 h2 h3
end Go.Proofs.Ytllnlimbfoingaa
