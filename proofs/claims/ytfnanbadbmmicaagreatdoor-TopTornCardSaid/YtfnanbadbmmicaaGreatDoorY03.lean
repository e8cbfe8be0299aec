/- DERIVED. The contracts of wire.Reader's Int and Bytes. · DERIVED. A region that draws its order, whose own operations only read, whose callees read and MAKE memory: one walk, over the class of the worlds in which all that was is as it was. · DERIVED. Names: what may be one (layer 2), the program's and the document's answer. · DERIVED. Slices whose elements take several cells: how they read. · DERIVED. Values: what may be (layer 1), the program's and the document's answer. · DERIVED. '==' on the program's values. -/
import Derived.Test.YtfnanbadbmmicaaGreatDoorY02
import Derived.Deep.RegionHeld3
import Derived.Deep.RegionWith
import Derived.Deep.RegionLaw
import Derived.Test.YtfnanbadbmmicaaGreatDoorY01
import Derived.BigQuiet
namespace Go.Proofs.YtfnanbadbmmicaaGreatDoor
open Go.RowKit

theorem rint_any (B rb bb : Nat) (l : List UInt8) (w : World) (h : Rd w B rb bb l) :
  Calls Tryz.prog 119 #[.pointer (some ⟨rb, 0, none⟩)] w fun e w' =>
   e = .returned (.tuple #[.int .i64 (readInt l).1, .int .i64 (readInt l).2.1]) ∧ Rd w' B rb bb (readInt l).2.2 ∧ Keeps (fun k => k = rb) w w' := by
 have hle := readNum_le l 18446744073709551615
 have hc := rnum_any B rb bb l 18446744073709551615 w h (by decide)
 unfold readInt
 obtain ⟨n, hn⟩ : ∃ n, n = (readNum l 18446744073709551615).1 := ⟨_, rfl⟩
 obtain ⟨er, her⟩ : ∃ n, n = (readNum l 18446744073709551615).2.1 := ⟨_, rfl⟩
 obtain ⟨rest, hrest⟩ : ∃ n, n = (readNum l 18446744073709551615).2.2 := ⟨_, rfl⟩
 unfold NumPost at hc
 rw [show (readNum l 18446744073709551615).2 = (er, rest) from by rw [her, hrest]]
 rw [← hn] at hle hc ⊢
 rw [← her, ← hrest] at hc
 simp only []
 have HC := Lib.hid hc
 have HL := Lib.hid hle
 clear hc hle h hn her hrest
 by_cases h0 : er = 0
 ·subst h0
  go_enter Tryz.func119, Tryz.ntmps119
  go_wp2_with (first | (go_at_call 95; refine HC.out.mono ?_; rintro e w1 ⟨rfl, h1, h2⟩) | (go_at_call 130; refine (zag_any n w1 (by have := HL.out; omega)).mono ?_; rintro e w2 ⟨rfl, rfl⟩))
  go_ret2
  exact ⟨by simp, h1, h2⟩
 ·have hd : ((er : Int) != 0) = true := by simp; omega
  go_enter Tryz.func119, Tryz.ntmps119
  go_wp2_with (first | (go_at_call 95; refine HC.out.mono ?_; rintro e w1 ⟨rfl, h1, h2⟩))
  go_ret2
  exact ⟨by simp, h1, h2⟩

/-- what a read of bytes leaves -/
def BytesPost (w : World) (B rb bb : Nat) (l : List UInt8) (most : Int) (e : Ending) (w' : World) : Prop :=
 ∃ p n c, e = .returned (.tuple #[.slice p n c, .int .i64 (readBytes l most).2.1]) ∧ Owns w' w.heap.size (.slice p n c) (readBytes l most).1 ∧ Rd w' B rb bb (readBytes l most).2.2 ∧ Keeps (fun k => k = rb) w w'

theorem bytes_results (tmps : Array Value) (eb : Nat) (p : Option Addr) (m c : Nat) (n : Int) (w : World) (h4 : tmps.getD 4 undef = .slice p m c) (h5 : tmps.getD 5 undef = .pointer (some ⟨eb, 0, none⟩)) (hc : w.cell? ⟨eb, 0, none⟩ = some (.int .i64 n)) :
  (results Tryz.f118 tmps).run Tryz.prog w = .ok (.tuple #[.slice p m c, .int .i64 n]) w := by
 simp only [Array.getD_eq_getD_getElem?] at h4 h5
 simp [results, Tryz.results118, go_sem, h4, h5, hc]
theorem bytes_door_bad {w wd : World} {B rb bb : Nat} (hB : B ≤ w.heap.size) {l : List UInt8} {most : Int} {n : Nat} (hr : readBytes l most = ([], n, l)) (hn : n ≠ 0) (old v : Value) (p : Option Addr) (m c : Nat) (hv : v = .slice p m c)
  (h1 : wd.heap[rb]? = some (.cells #[old, .bool true] 143 (0, 0))) (hs : Sees w v l) (hl : l.length ≤ 1000000000) (hb : ∀ k, v.ownBlock = some k → k = bb ∧ k < B) (hne : bb ≠ rb)
  (hk : Keeps (fun k => k = rb) w wd) (he : wd.cell? ⟨w.heap.size, 0, none⟩ = some (.int .i64 n)) (tmps : Array Value) (h4 : tmps.getD 4 undef = .slice none 0 0) (h5 : tmps.getD 5 undef = .pointer (some ⟨w.heap.size, 0, none⟩))
  (hrb : rb ≠ w.heap.size) :
  Leaves Tryz.prog Tryz.f118 tmps (BytesPost w B rb bb l most)
   [{ target := .fn (.func 117) #[], args := #[.pointer (some ⟨rb, 0, none⟩), v, .pointer (some ⟨w.heap.size, 0, none⟩)] }] .returning wd := by
 have hk2 : Keeps (fun k => k = rb) w (wd.setCell ⟨rb, 0, none⟩ v) := hk.setCell (fun _ => rfl) v
 refine leaves_cons (f := 117) (args := #[.pointer (some ⟨rb, 0, none⟩), v, .pointer (some ⟨w.heap.size, 0, none⟩)]) (by simp) (by simp [go_sem]) ?_
 refine (keep_bad rb v w.heap.size n (by simp; omega) .returning wd he old (by simp [World.cell?, h1]) (by simp [World.frozen?, h1]) p m c hv).mono ?_
 rintro e u' w'' ⟨rfl, rfl, rfl⟩
 refine ⟨_, bytes_results tmps w.heap.size none 0 0 n _ h4 h5 ((World.cell?_setCell_other _ _ _ _ (by simp)).trans he), none, 0, 0, ?_, ?_, ?_, hk2⟩
 ·rw [hr]
 ·rw [hr]; exact Owns.nil _ _
 ·rw [hr]
  exact rd_of (Nat.le_trans hB hk2.size) (rd_set h1) (hs.keeps hk2 (fun k hk => by rw [(hb k hk).1]; exact hne)) hl hb hne
theorem bytes_door_ok {w wd : World} {B rb bb : Nat} (hB : B ≤ w.heap.size) {l r x : List UInt8} {most : Int} (hr : readBytes l most = (x, 0, r)) (v1 v : Value) (p : Option Addr) (n c : Nat) (hx : Owns wd w.heap.size (.slice p n c) x)
  (h1 : wd.heap[rb]? = some (.cells #[v1, .bool true] 143 (0, 0))) (hs : Sees wd v1 r) (hl : r.length ≤ 1000000000) (hb : ∀ k, v1.ownBlock = some k → k = bb ∧ k < B) (hne : bb ≠ rb)
  (hk : Keeps (fun k => k = rb) w wd) (he : wd.cell? ⟨w.heap.size, 0, none⟩ = some (.int .i64 0)) (tmps : Array Value) (h4 : tmps.getD 4 undef = .slice p n c) (h5 : tmps.getD 5 undef = .pointer (some ⟨w.heap.size, 0, none⟩)) :
  Leaves Tryz.prog Tryz.f118 tmps (BytesPost w B rb bb l most)
   [{ target := .fn (.func 117) #[], args := #[.pointer (some ⟨rb, 0, none⟩), v, .pointer (some ⟨w.heap.size, 0, none⟩)] }] .returning wd := by
 refine leaves_cons (f := 117) (args := #[.pointer (some ⟨rb, 0, none⟩), v, .pointer (some ⟨w.heap.size, 0, none⟩)]) (by simp) (by simp [go_sem]) ?_
 refine (keep_ok _ v w.heap.size .returning wd he).mono ?_
 rintro e u' w'' ⟨rfl, rfl, rfl⟩
 refine ⟨_, bytes_results tmps w.heap.size p n c 0 _ h4 h5 he, p, n, c, ?_, ?_, ?_, hk⟩
 ·rw [hr]; rfl
 ·rw [hr]; exact hx
 ·rw [hr]
  exact rd_of (Nat.le_trans hB hk.size) h1 hs hl hb hne

/-- the door behind a string that was read -/
theorem rbytes_ok {w W w2 : World} {B rb bb n : Nat} (hB : B ≤ w.heap.size) {l rest : List UInt8} {most : Int} (hr : readBytes l most = (rest.take n, 0, rest.drop n)) {v1 v : Value} {p1 p3 p4 : Option Addr} {m1 m3 c1 c3 n4 c4 : Nat}
  (t1 : W.heap[rb]? = some (.cells #[v1, .bool true] 143 (0, 0))) (hW : Keeps (fun k => k = rb) w W) (hsz : w.heap.size < W.heap.size) (s3 : Sees W (.slice p3 m3 c3) (rest.drop n)) (s4 : ∀ b, (Value.slice p3 m3 c3).ownBlock = some b → (Value.slice p1 m1 c1).ownBlock = some b)
  (hl : rest.length ≤ 1000000000) (r6 : ∀ k, (Value.slice p1 m1 c1).ownBlock = some k → k = bb ∧ k < B) (hne : bb ≠ rb) (ho : Owns w2 W.drew.heap.size (.slice p4 n4 c4) (rest.take n)) (hk : Old W.drew w2)
  (he : w2.cell? ⟨w.heap.size, 0, none⟩ = some (.int .i64 0)) (tmps : Array Value) (h4 : tmps.getD 4 undef = .slice p4 n4 c4) (h5 : tmps.getD 5 undef = .pointer (some ⟨w.heap.size, 0, none⟩)) (hrb : rb ≠ w.heap.size) :
  Leaves Tryz.prog Tryz.f118 tmps (BytesPost w B rb bb l most)
   [{ target := .fn (.func 117) #[], args := #[.pointer (some ⟨rb, 0, none⟩), v, .pointer (some ⟨w.heap.size, 0, none⟩)] }] .returning
    ((w2.setCell ⟨rb, 0, none⟩ (.slice p3 m3 c3)).setCell ⟨w.heap.size, 0, none⟩ (.int .i64 0)) := by
 have hrbW := lt_of_block t1
 have kk : Keeps (fun k => k = rb ∨ k = w.heap.size) w2 ((w2.setCell ⟨rb, 0, none⟩ (.slice p3 m3 c3)).setCell ⟨w.heap.size, 0, none⟩ (.int .i64 0)) :=
  ((Keeps.refl _ _).setCell (fun _ => .inl rfl) _).setCell (fun _ => .inr rfl) _
 have t2 : w2.heap[rb]? = some (.cells #[v1, .bool true] 143 (0, 0)) := (hk.block rb hrbW (fun f => f)).trans t1
 have hb4 := ho.block
 have hk0 : Old W w2 := ⟨hk.os, hk.tape, hk.output, hk.size, hk.block⟩
 have kW : Keeps (fun k => k = rb) w w2 := hW.then hk0 (fun _ _ f => False.elim f)
 refine bytes_door_ok hB hr (.slice p3 m3 c3) v p4 n4 c4 ?_ ?_ ?_ (by simp; omega) (fun k h => r6 k (s4 k h)) hne ?_ ?_ tmps h4 h5
 ·refine (ho.mono (Nat.le_of_lt hsz)).keeps kk ?_
  intro k hk'
  have := (hb4 k hk').1
  have e : W.drew.heap.size = W.heap.size := rfl
  omega
 ·exact (heap_setCell_other _ _ _ _ hrb).trans (rd_set t2)
 ·refine (Sees.old (w := W.drew) s3 hk).keeps kk ?_
  intro k hk'
  have := r6 k (s4 k hk')
  omega
 ·exact (kW.setCell (fun _ => rfl) _).setCell (fun h => absurd h (by simp)) _
 ·rw [World.cell?_setCell_same _ _ _ ((World.cell?_setCell_other _ _ _ _ (by simp)).trans he)]

set_option maxRecDepth 100000 in
set_option maxHeartbeats 4000000 in
theorem rbytes_any (B rb bb : Nat) (l : List UInt8) (most : Int) (w : World) (h : Rd w B rb bb l) (hm : most ≤ 9223372036854775807) :
  Calls Tryz.prog 118 #[.pointer (some ⟨rb, 0, none⟩), .int .i64 most] w (BytesPost w B rb bb l most) := by
 obtain ⟨hB, v0, g1, g2, g3, g4, g5⟩ := id h
 obtain ⟨p, c, rfl, _, _⟩ := g2.len
 have hrb := lt_of_block g1
 have hne : rb ≠ w.heap.size := by omega
 have k1 : (w.alloc (.cells #[.int .i64 0] 27)).cell? ⟨rb, 0, none⟩ = some (.slice p l.length c) := by
  rw [World.cell?_alloc_past _ _ _ hrb]; simp [World.cell?, g1]
 have k2 : (w.alloc (.cells #[.int .i64 0] 27)).cell? ⟨rb, 1, none⟩ = some (.bool true) := by
  rw [World.cell?_alloc_past _ _ _ hrb]; simp [World.cell?, g1]
 have G := Lib.hid (And.intro g1 (And.intro g2 (And.intro g3 (And.intro g4 (And.intro g5 (And.intro hm hB))))))
 clear g1 g2 g3 g4 g5 hB
 by_cases h0 : most < 0
 ·clear h hm
  go_enter_defers Tryz.func118, Tryz.ntmps118
  go_wp2_with fail
  obtain ⟨g1, g2, g3, g4, g5, hm, hB⟩ := G.out
  have hr : readBytes l most = ([], 1, l) := by unfold readBytes; rw [if_pos h0]
  refine ⟨_, bytes_results _ w.heap.size none 0 0 1 _ rfl rfl ?_, none, 0, 0, ?_, ?_, ?_, (Keeps.refl _ _).alloc _⟩
  ·rw [World.cell?_alloc_at _ _ _ _ rfl]; rfl
  ·rw [hr]; rfl
  ·rw [hr]; exact Owns.nil _ _
  ·rw [hr]; exact rd_of (by simp; omega) ((heap_alloc_old _ _ hrb).trans g1) (g2.alloc _) g3 g4 g5
 ·obtain ⟨m, rfl⟩ := Int.eq_ofNat_of_zero_le (show 0 ≤ most by omega)
  have hR : Rd (w.alloc (.cells #[.int .i64 0] 27)) B rb bb l := by
   obtain ⟨g1, g2, g3, g4, g5, hm, hB⟩ := G.out
   exact rd_of (by simp; omega) ((heap_alloc_old _ _ hrb).trans g1) (g2.alloc _) g3 g4 g5
  have hC := rnum_any B rb bb l m _ hR (by omega)
  have hle := readNum_le l m
  have herr := @readNum_bad l m
  have hmb : (m : Int) ≤ 9223372036854775807 := hm
  obtain ⟨n, hn⟩ : ∃ n, n = (readNum l m).1 := ⟨_, rfl⟩
  obtain ⟨er, her⟩ : ∃ n, n = (readNum l m).2.1 := ⟨_, rfl⟩
  obtain ⟨rest, hrest⟩ : ∃ n, n = (readNum l m).2.2 := ⟨_, rfl⟩
  have hrb' : readBytes l (m : Int) = if er ≠ 0 then ([], er, l) else if rest.length < n then ([], 4, l) else (rest.take n, 0, rest.drop n) := by
   unfold readBytes; rw [if_neg h0, Int.toNat_natCast, hn, her, hrest]
  unfold NumPost at hC
  rw [← hn, ← her, ← hrest] at hC
  rw [← hn, ← her, ← hrest] at herr
  rw [← hn] at hle
  have HC := Lib.hid hC
  have HB := Lib.hid (And.intro hrb' (And.intro hle herr))
  clear hC hrb' hle herr hn her hrest hm h hR
  by_cases e0 : er = 0
  ·subst e0
   by_cases hfit : rest.length < n
   ·go_enter_defers Tryz.func118, Tryz.ntmps118
    go_wp2_with fail
    refine HC.out.mono ?_
    rintro e w1 ⟨rfl, h1, h2⟩
    have q0 : w1.heap[w.heap.size]? = some (.cells #[.int .i64 0] 27 (0, 0)) := (h2.block _ (by simp) (by omega)).trans (heap_alloc_new _ _)
    have q1 : w1.cell? ⟨w.heap.size, 0, none⟩ = some (.int .i64 0) := cell_of_one q0
    have q2 : w1.frozen? ⟨w.heap.size, 0, none⟩ = false := free_of_one q0
    obtain ⟨p1, c1, r1, r2, r3, r4, r5, r6, r7⟩ := h1.cells
    have H := Lib.hid (And.intro h1 (And.intro h2 (And.intro q0 (And.intro r4 (And.intro r6 r7)))))
    clear h1 h2 q0 r4 r6 r7
    go_wp2_with fail
    obtain ⟨h1, h2, q0, r4, r6, r7⟩ := H.out
    obtain ⟨g1, g2, g3, g4, g5, _, hB⟩ := G.out
    have hk : Keeps (fun k => k = rb) w w1 := ((Keeps.refl _ w).alloc _).trans h2
    obtain ⟨_, v1, t1, _⟩ := h1
    refine bytes_door_bad hB (n := 4) (by rw [HB.out.1, if_neg (by simp), if_pos hfit]) (by decide) v1 (.slice p l.length c) p _ c rfl ?_ g2 g3 g4 g5 ?_ ?_ _ rfl rfl hne
    ·exact (heap_setCell_other _ _ _ _ hne).trans ((heap_setCell_other _ _ _ _ hne).trans t1)
    ·exact (hk.setCell (fun h => absurd h (by simp)) _).setCell (fun h => absurd h (by simp)) _
    ·rw [World.cell?_setCell_same _ _ _ (World.cell?_setCell_same _ _ _ q1)]; rfl
   ·go_enter_defers Tryz.func118, Tryz.ntmps118
    go_wp2_with fail
    refine HC.out.mono ?_
    rintro e w1 ⟨rfl, h1, h2⟩
    have q0 : w1.heap[w.heap.size]? = some (.cells #[.int .i64 0] 27 (0, 0)) := (h2.block _ (by simp) (by omega)).trans (heap_alloc_new _ _)
    have q1 : w1.cell? ⟨w.heap.size, 0, none⟩ = some (.int .i64 0) := cell_of_one q0
    have q2 : w1.frozen? ⟨w.heap.size, 0, none⟩ = false := free_of_one q0
    obtain ⟨p1, c1, r1, r2, r3, r4, r5, r6, r7⟩ := h1.cells
    have H := Lib.hid (And.intro h1 (And.intro h2 (And.intro q0 (And.intro r4 (And.intro r6 r7)))))
    clear h1 h2 q0 r4 r6 r7
    go_wp2_with fail
    obtain ⟨h1, h2, q0, r4, r6, r7⟩ := H.out
    have hB := G.out.2.2.2.2.2.2
    have r4' := r4.keeps ((Keeps.refl (fun k => k = w.heap.size) w1).setCell (p := ⟨w.heap.size, 0, none⟩) (fun _ => rfl) (.int .i64 0)) (fun k hk => by have := r6 k hk; show ¬ k = w.heap.size; omega)
    have r1' : (w1.setCell ⟨w.heap.size, 0, none⟩ (.int .i64 0)).cell? ⟨rb, 0, none⟩ = some (.slice p1 rest.length c1) := (World.cell?_setCell_other _ _ _ _ (by simp)).trans r1
    have r3' : (w1.setCell ⟨w.heap.size, 0, none⟩ (.int .i64 0)).frozen? ⟨rb, 0, none⟩ = false := (World.frozen?_setCell _ _ _ _).trans r3
    have q1' : (w1.setCell ⟨w.heap.size, 0, none⟩ (.int .i64 0)).cell? ⟨w.heap.size, 0, none⟩ = some (.int .i64 0) := World.cell?_setCell_same _ _ _ q1
    have q2' : (w1.setCell ⟨w.heap.size, 0, none⟩ (.int .i64 0)).frozen? ⟨w.heap.size, 0, none⟩ = false := (World.frozen?_setCell _ _ _ _).trans q2
    obtain ⟨g1, g2, g3, g4, g5, _, _⟩ := G.out
    obtain ⟨_, v1, t1, _⟩ := h1
    have t1' : (w1.setCell ⟨w.heap.size, 0, none⟩ (.int .i64 0)).heap[rb]? = some (.cells #[v1, .bool true] 143 (0, 0)) := (heap_setCell_other _ _ _ _ hne).trans t1
    have hW : Keeps (fun k => k = rb) w (w1.setCell ⟨w.heap.size, 0, none⟩ (.int .i64 0)) := (((Keeps.refl _ w).alloc _).trans h2).setCell (fun h => absurd h (by simp)) _
    have hsz : w.heap.size < (w1.setCell ⟨w.heap.size, 0, none⟩ (.int .i64 0)).heap.size := World.block_lt_of_cell? _ _ q1'
    obtain ⟨p2, c2, hs1, s1, s2⟩ := r4'.upto n (by omega) .u64 n rfl
    obtain ⟨p3, c3, hs2, s3, s4⟩ := r4'.from n (by omega) .u64 n rfl
    generalize w1.setCell ⟨w.heap.size, 0, none⟩ (.int .i64 0) = W at *
    have F := Lib.hid (And.intro t1' (And.intro hW (And.intro hsz (And.intro s2 (And.intro s3 (And.intro s4 (And.intro r5 r6)))))))
    clear t1' hW hsz s2 s3 s4 r4 r4' t1 h2 q0 g1 g2 g4 q1 q2 r1 r2 r3 r6 k1 k2
    refine wp_region_noPanic ?_
    go_region_with ((go_at_call 31; refine (bytes_clone_any _ (rest.take n) _ ?_ ?_).mono ?_; exact s1; (simp; omega); rintro e w2 ⟨p4, n4, c4, rfl, ho2, hk2⟩; have hq := hk2.cf ⟨r1', r3'⟩ (fun f => f); obtain ⟨hq1, hq2⟩ := hq; have hz := hk2.cf ⟨q1', q2'⟩ (fun f => f); obtain ⟨hz1, hz2⟩ := hz))
    all_goals refine NoPanic.normal ?_
    all_goals go_wp2_with fail
    all_goals exact rbytes_ok hB (by rw [HB.out.1, if_neg (by simp), if_neg hfit]) F.out.1 F.out.2.1 F.out.2.2.1 F.out.2.2.2.2.1 F.out.2.2.2.2.2.1 F.out.2.2.2.2.2.2.1 F.out.2.2.2.2.2.2.2 g5 ho2 hk2 hz1 _ rfl rfl hne
  ·have hd : ((er : Int) != 0) = true := by simp; omega
   go_enter_defers Tryz.func118, Tryz.ntmps118
   go_wp2_with fail
   refine HC.out.mono ?_
   rintro e w1 ⟨rfl, h1, h2⟩
   have q0 : w1.heap[w.heap.size]? = some (.cells #[.int .i64 0] 27 (0, 0)) := (h2.block _ (by simp) (by omega)).trans (heap_alloc_new _ _)
   have q1 : w1.cell? ⟨w.heap.size, 0, none⟩ = some (.int .i64 0) := cell_of_one q0
   have q2 : w1.frozen? ⟨w.heap.size, 0, none⟩ = false := free_of_one q0
   have H := Lib.hid (And.intro h1 (And.intro h2 q0))
   clear h1 h2 q0
   go_wp2_with fail
   go_region
   go_wp2_with fail
   obtain ⟨h1, h2, q0⟩ := H.out
   obtain ⟨g1, g2, g3, g4, g5, _, hB⟩ := G.out
   have hk : Keeps (fun k => k = rb) w w1 := ((Keeps.refl _ w).alloc _).trans h2
   obtain ⟨_, v1, t1, _⟩ := h1
   refine bytes_door_bad hB (n := er) (by rw [HB.out.1, if_pos e0]) e0 v1 (.slice p l.length c) p _ c rfl ?_ g2 g3 g4 g5 ?_ ?_ _ rfl rfl hne
   ·exact (heap_setCell_other _ _ _ _ hne).trans ((heap_setCell_other _ _ _ _ hne).trans t1)
   ·exact ((hk.setCell (fun h => absurd h (by simp)) _).setCell (fun h => absurd h (by simp)) _).drew
   ·rw [World.cell?_drew, World.cell?_setCell_same _ _ _ (World.cell?_setCell_same _ _ _ q1)]
end Go.Proofs.YtfnanbadbmmicaaGreatDoor

namespace Go.Proofs.YtfnanbadbmmicaaGreatDoor
open Go.RowKit

/-- a world in which all old memory is as it was -/
structure OldOf (w : World) where
 to : World
 old : Old w to

instance (w : World) : Nonempty (OldOf w) := ⟨⟨w, Keeps.refl _ _⟩⟩

theorem wp_region_quiet_old {P : Program} {id : Nat} {Q : Exit → Act → World → Prop} {a : Act} {w : World} {l : List Oper} (hm : P.follows .mixedOrders = true) (hB : Region.lexB .any l.toArray = true)
  (h : wpQuiet P l.toArray (fun w' => ∃ p : OldOf w, w' = p.to) (fun a' => ∀ w', (∃ p : OldOf w, w' = p.to) → Q .normal a' w') l a) : (Code.region id l.toArray true).wp P Q a w :=
 wp_region_quiet (C := fun w' => ∃ p : OldOf w, w' = p.to) hm hB ⟨⟨w.drew, (Keeps.refl _ _).drew⟩, rfl⟩ (by simpa using h)
theorem Calls.quiet_of_old {P : Program} {f : FuncId} {args : Array Value} {w : World} {p : OldOf w} {v : Value}
  (h : Calls P f args p.to fun e w' => e = .returned v ∧ Old p.to w') : Calls P f args p.to fun e w'' => e = .returned v ∧ ∃ q : OldOf w, w'' = q.to :=
 h.mono fun _ w'' ⟨he, hm⟩ => ⟨he, ⟨w'', p.old.trans hm⟩, rfl⟩
theorem OldOf.cell {w : World} {a : Addr} {v : Value} (h : w.cell? a = some v) : ∀ p : OldOf w, p.to.cell? a = some v := fun p => p.old.cell h (fun f => f)
end Go.Proofs.YtfnanbadbmmicaaGreatDoor

namespace Go.Proofs.YtfnanbadbmmicaaGreatDoor
open Go.RowKit

/-- a byte of a name -/
def goodB (c : Nat) : Bool := (decide (97 ≤ c) && decide (c ≤ 122)) || (decide (48 ≤ c) && decide (c ≤ 57)) || c == 45 || c == 46 || c == 95

theorem ret_bool {a b : Bool} (h : a = b) : Ending.returned (.bool a) = .returned (.bool b) := by rw [h]

theorem name1_any (c : Nat) (w : World) : Calls Tryz.prog 79 #[.int .u8 (c : Int)] w fun e w' => e = .returned (.bool (!goodB c)) ∧ w = w' := by
 go_enter Tryz.func79, Tryz.ntmps79
 go_wp2_with fail
 all_goals go_ret
 all_goals refine ⟨ret_bool ?_, rfl⟩
 all_goals unfold goodB
 all_goals rw [Bool.eq_iff_iff]
 all_goals simp
 all_goals omega

/-- an index was found, or not -/
def Found (w : World) (ok : Bool) (e : Ending) (w' : World) : Prop := (∃ i : Int, e = .returned (.int .i64 i) ∧ decide (0 ≤ i) = ok) ∧ w = w'

theorem all_take_succ {α : Type} {f : α → Bool} {l : List α} {k : Nat} {x : α} (hx : l[k]? = some x) : (l.take (k + 1)).all f = ((l.take k).all f && f x) := by
 rw [List.take_add_one, hx]; simp

theorem all_false_of {α : Type} {f : α → Bool} {l : List α} {k : Nat} {x : α} (hx : l[k]? = some x) (h : f x = false) : l.all f = false := by
 rw [List.all_eq_false]; exact ⟨x, List.mem_of_getElem? hx, by simp [h]⟩

theorem index1_any (v : Value) (l : List UInt8) (w : World) (h : Sees w v l) :
  Calls Tryz.prog 104 #[v, .func (.func 79) #[] #[]] w (Found w (!(l.all fun c => goodB c.toNat))) := by
 by_cases hl : 0 < l.length
 ·obtain ⟨b, o, c, rfl, h1, h2, hc⟩ := h.at hl
  have hm : l.length ≤ 9223372036854775807 := by unfold maxLen at h2; omega
  have HC := Lib.hid hc
  clear h1 h2 h hc hl
  go_enter Tryz.func104, Tryz.ntmps104
  go_wp2_with fail
  go_loop [8] (fun v8 => ∃ k : Nat, k ≤ l.length ∧ v8 = .int .i64 k ∧ (l.take k).all (fun c => goodB c.toNat) = true) (fun v8 => l.length - (intOf v8).toNat)
  case atStart => exact ⟨0, by omega, rfl, by simp⟩
  case round =>
   obtain ⟨k, hk, rfl, hr⟩ := hrel
   have HR := Lib.hid hr
   clear hr
   by_cases hlt : k < l.length
   ·have hx : l[k]? = some l[k] := List.getElem?_eq_getElem hlt
    have hcell := HC.out k _ hx
    unfold u8 at hcell
    have HX := Lib.hid hx
    clear hx
    cases hg : goodB (l[k].toNat)
    ·have N := name1_any l[k].toNat w
     rw [hg] at N
     have HN := Lib.hid N
     have HG := Lib.hid hg
     clear N hg
     go_wp2_with (refine (HN.out).mono ?_; rintro e w' ⟨rfl, rfl⟩)
     go_ret
     exact ⟨⟨k, rfl, by rw [all_false_of HX.out HG.out]; simp⟩, rfl⟩
    ·have N := name1_any l[k].toNat w
     rw [hg] at N
     have HN := Lib.hid N
     have HG := Lib.hid hg
     clear N hg
     go_wp2_with (refine (HN.out).mono ?_; rintro e w' ⟨rfl, rfl⟩)
     go_round
     case rel => exact ⟨k + 1, by omega, by go_num, by rw [all_take_succ HX.out, HR.out, HG.out]; rfl⟩
     case measure => simp [intOf]; omega
   ·go_wp2_with fail
    go_ret
    refine ⟨⟨-1, rfl, ?_⟩, rfl⟩
    have := HR.out
    rw [List.take_of_length_le (by omega)] at this
    rw [this]
    rfl
 ·obtain ⟨p, c, rfl, h1, h2⟩ := h.len
  have h0 : l.length = 0 := by omega
  have : l = [] := List.eq_nil_of_length_eq_zero h0
  subst this
  clear h h1 h2 hl h0
  go_enter Tryz.func104, Tryz.ntmps104
  go_wp2_with fail
  go_loop [8] (fun v8 => v8 = .int .i64 0) (fun v8 => 0)
  case atStart => rfl
  case round =>
   obtain rfl := hrel
   go_wp2_with fail
   go_ret
   exact ⟨⟨-1, rfl, rfl⟩, rfl⟩

theorem contains1_any (v : Value) (l : List UInt8) (w : World) (h : Sees w v l) :
  Calls Tryz.prog 80 #[v, .func (.func 79) #[] #[]] w fun e w' => e = .returned (.bool (!(l.all fun c => goodB c.toNat))) ∧ w = w' := by
 obtain ⟨p, c, rfl, h1, h2⟩ := h.len
 have C := Lib.hid (index1_any _ l w h)
 clear h h1 h2
 go_enter Tryz.func80, Tryz.ntmps80
 go_wp2_with fail
 refine C.out.mono ?_
 rintro e w' ⟨⟨i, rfl, hi⟩, rfl⟩
 have HI := Lib.hid hi
 clear hi
 go_wp2_with fail
 go_ret
 exact ⟨ret_bool HI.out, rfl⟩

/-- may it be a name? -/
def nameOk (l : List UInt8) : Bool := decide (1 ≤ l.length) && decide (l.length ≤ 16) && l.all fun c => goodB c.toNat

set_option maxRecDepth 100000 in
theorem name_any (s : ByteArray) (w : World) : Calls Tryz.prog 56 #[.string s] w fun e w' => e = .returned (.bool (nameOk s.toList)) ∧ Old w w' := by
 have hsz : s.toList.length = s.size := by rw [ByteArray.toList_eq]; simp
 by_cases h0 : 1 ≤ s.size
 ·have t1 : s.toList.isEmpty = false := by cases h : s.toList with | nil => rw [h] at hsz; simp at hsz; omega | cons => rfl
  have t1' : (!s.toList.isEmpty) = true := by rw [t1]; rfl
  by_cases h1 : s.size ≤ 16
  ·have d1 : decide ((s.size : Int) ≤ 16) = true := by simp; omega
   obtain ⟨p, c, w1, hconv, hsee, hk, _⟩ := conv_str w s (by unfold maxLen; omega)
   have C := Lib.hid (contains1_any _ _ w1 hsee)
   have HK := Lib.hid hk
   have HS := Lib.hid hsz
   clear hsz hsee hk
   go_enter Tryz.func56, Tryz.ntmps56
   go_wp2_with fail
   refine C.out.mono ?_
   rintro e w' ⟨rfl, rfl⟩
   go_wp2_with fail
   go_ret
   refine ⟨ret_bool ?_, HK.out⟩
   simp [nameOk, HS.out, h1, h0]
  ·have d1 : decide ((s.size : Int) ≤ 16) = false := by simp; omega
   have HS := Lib.hid hsz
   clear hsz
   go_enter Tryz.func56, Tryz.ntmps56
   go_wp2_with fail
   go_ret
   refine ⟨ret_bool ?_, Keeps.refl _ _⟩
   simp [nameOk, HS.out, h1]
 ·have t1 : s.toList = [] := List.eq_nil_of_length_eq_zero (by omega)
  clear h0 hsz
  have t2 : s.toList.isEmpty = true := by rw [t1]; rfl
  have H := Lib.hid t1
  clear t1
  go_enter Tryz.func56, Tryz.ntmps56
  go_wp2_with fail
  go_ret
  exact ⟨ret_bool (by rw [H.out]; rfl), Keeps.refl _ _⟩
end Go.Proofs.YtfnanbadbmmicaaGreatDoor

namespace Go.Proofs.YtfnanbadbmmicaaGreatDoor
open Go.RowKit

/-- the slice value v reads as the things l, each of k cells -/
def SeesR {α : Type} (w : World) (k : Nat) (enc : α → List Value) (v : Value) (l : List α) : Prop :=
 ∃ p c, v = .slice p l.length c ∧ l.length ≤ c ∧ c ≤ maxLen ∧ (p = none → c = 0) ∧
  ∀ a, p = some a → (0 < c → a.spot = none) ∧ ∀ j x, l[j]? = some x → ∀ i u, (enc x)[i]? = some u → w.cell? (a.add (j * k + i)) = some u

variable {α : Type} {w w' : World} {k : Nat} {enc : α → List Value} {v : Value} {l : List α}

theorem block_add (a : Addr) (j : Nat) : (a.add j).block = a.block := by unfold Addr.add; split <;> rfl
theorem SeesR.nil (w : World) : SeesR w k enc (.slice none 0 0) [] := ⟨none, 0, rfl, Nat.le_refl _, Nat.zero_le _, fun _ => rfl, fun _ h => by cases h⟩
theorem SeesR.keeps {S : Nat → Prop} (h : SeesR w k enc v l) (hk : Keeps S w w') (hS : ∀ b, v.ownBlock = some b → ¬ S b) : SeesR w' k enc v l := by
 obtain ⟨p, c, rfl, h1, h2, h3, h4⟩ := h
 refine ⟨p, c, rfl, h1, h2, h3, fun a ha => ⟨(h4 a ha).1, fun j x hj i u hu => ?_⟩⟩
 refine hk.cell ((h4 a ha).2 j x hj i u hu) ?_
 rw [block_add]
 exact hS _ (by subst ha; rfl)
theorem SeesR.old (h : SeesR w k enc v l) (hk : Old w w') : SeesR w' k enc v l := h.keeps hk (fun _ _ f => f)
theorem SeesR.alloc (h : SeesR w k enc v l) (o : Obj) : SeesR (w.alloc o) k enc v l := h.old ((Keeps.refl _ _).alloc o)
theorem SeesR.drew (h : SeesR w k enc v l) : SeesR w.drew k enc v l := h
theorem SeesR.len (h : SeesR w k enc v l) : ∃ p c, v = .slice p l.length c ∧ l.length ≤ c ∧ c ≤ maxLen := by
 obtain ⟨p, c, h0, h1, h2, _⟩ := h; exact ⟨p, c, h0, h1, h2⟩
/-- the cells of a slice that is not empty -/
theorem SeesR.at (h : SeesR w k enc v l) (hl : 0 < l.length) : ∃ b o c, v = .slice (some ⟨b, o, none⟩) l.length c ∧ l.length ≤ c ∧ c ≤ maxLen ∧
  ∀ j x, l[j]? = some x → ∀ i u, (enc x)[i]? = some u → w.cell? ⟨b, o + j * k + i, none⟩ = some u := by
 obtain ⟨p, c, rfl, h1, h2, h3, h4⟩ := h
 cases p with
 | none => have := h3 rfl; omega
 | some a =>
  obtain ⟨b, o, s⟩ := a
  obtain ⟨hs, hc⟩ := h4 _ rfl
  obtain rfl : s = none := hs (by omega)
  refine ⟨b, o, c, rfl, h1, h2, fun j x hj i u hu => ?_⟩
  have := hc j x hj i u hu
  rwa [show (⟨b, o, none⟩ : Addr).add (j * k + i) = ⟨b, o + j * k + i, none⟩ from by unfold Addr.add; split <;> simp_all <;> omega] at this
theorem SeesR.at0 (h : SeesR w k enc v l) (hl : l.length = 0) : l = [] ∧ ∃ p c, v = .slice p 0 c := by
 obtain ⟨p, c, rfl, _⟩ := h.len
 exact ⟨List.eq_nil_of_length_eq_zero hl, p, c, by rw [hl]⟩

/-- x[lo:hi] -/
theorem SeesR.sliced {p : Option Addr} {c : Nat} (h : SeesR w k enc (.slice p l.length c) l) (lo hi : Nat) (h1 : lo ≤ hi) (h2 : hi ≤ l.length) :
  SeesR w k enc (Go.sliced p lo hi c k) ((l.take hi).drop lo) ∧ ∀ b, (Go.sliced p lo hi c k).ownBlock = some b → (Value.slice p l.length c).ownBlock = some b := by
 obtain ⟨p', c', he, hc1, hc2, hc3, hc4⟩ := h
 simp only [Value.slice.injEq, true_and] at he
 obtain ⟨rfl, rfl⟩ := he
 have hlen : ((l.take hi).drop lo).length = hi - lo := by simp; omega
 unfold Go.sliced
 refine ⟨⟨_, c - lo, by rw [hlen], by rw [hlen]; omega, by omega, ?_, ?_⟩, ?_⟩
 ·intro hn
  split at hn
  ·have := hc3 hn; omega
  ·cases p with
   | none => have := hc3 rfl; omega
   | some a => simp at hn
 ·intro a ha
  split at ha
  ·rename_i e
   subst ha
   refine ⟨fun h => by omega, fun j x hj => ?_⟩
   have hz : ((l.take hi).drop lo).length = 0 := by rw [hlen]; omega
   rw [List.length_eq_zero_iff.1 hz] at hj
   cases hj
  ·cases p with
   | none => simp at ha
   | some a' =>
    simp only [Option.map_some, Option.some.injEq] at ha
    subst ha
    obtain ⟨hs, hc⟩ := hc4 a' rfl
    obtain ⟨b', o', s'⟩ := a'
    rename_i hcl
    obtain rfl : s' = none := hs (by omega)
    refine ⟨fun _ => by unfold Addr.add; split <;> rfl, fun j x hj i u hu => ?_⟩
    have hj' : l[lo + j]? = some x := by
     rw [List.getElem?_drop, List.getElem?_take] at hj
     split at hj
     ·exact hj
     ·cases hj
    have := hc (lo + j) x hj' i u hu
    rw [← this]
    congr 1
    have e : (lo + j) * k + i = lo * k + (j * k + i) := by rw [Nat.add_mul]; omega
    rw [e]
    unfold Addr.add
    split <;> split <;> split <;> simp_all <;> omega
 ·intro b hb
  simp only [Value.ownBlock] at hb ⊢
  split at hb
  ·rename_i a _ _ heq
   simp only [Value.slice.injEq] at heq
   obtain ⟨heq, _, _⟩ := heq
   split at heq
   ·subst heq; exact hb
   ·cases p with
    | none => simp at heq
    | some a' =>
     simp only [Option.map_some, Option.some.injEq] at heq
     subst heq
     simp only [Option.some.injEq] at hb ⊢
     rw [← hb]
     unfold Addr.add
     split <;> rfl
  ·cases hb

theorem flat_at (hk : ∀ x, (enc x).length = k) : ∀ (l : List α) (j : Nat) (x : α), l[j]? = some x → ∀ i, i < k → (l.flatMap enc)[j * k + i]? = (enc x)[i]?
 | [], j, x, h => by simp at h
 | y :: r, 0, x, h => by
  intro i hi
  simp only [List.getElem?_cons_zero, Option.some.injEq] at h
  subst h
  rw [List.flatMap_cons, Nat.zero_mul, Nat.zero_add, List.getElem?_append_left (by rw [hk]; exact hi)]
 | y :: r, j + 1, x, h => by
  intro i hi
  simp only [List.getElem?_cons_succ] at h
  have ih := flat_at hk r j x h i hi
  rw [List.flatMap_cons, List.getElem?_append_right (by rw [hk, Nat.succ_mul]; omega), hk]
  rw [show (j + 1) * k + i - k = j * k + i from by rw [Nat.succ_mul]; omega]
  exact ih
theorem flat_at' {k : Nat} {enc : α → List Value} {l : List α} (hk : ∀ x ∈ l, (enc x).length = k) : ∀ (j : Nat) (x : α), l[j]? = some x → ∀ i, i < k → (l.flatMap enc)[j * k + i]? = (enc x)[i]? := by
 induction l with
 | nil => intro j x h; simp at h
 | cons y r ih =>
  intro j x h i hi
  rw [List.flatMap_cons]
  rcases j with _ | j
  ·simp only [List.getElem?_cons_zero, Option.some.injEq] at h
   subst h
   rw [Nat.zero_mul, Nat.zero_add, List.getElem?_append_left (by rw [hk y (by simp)]; exact hi)]
  ·simp only [List.getElem?_cons_succ] at h
   rw [List.getElem?_append_right (by rw [hk y (by simp), Nat.succ_mul]; omega), hk y (by simp), show (j + 1) * k + i - k = j * k + i from by rw [Nat.succ_mul]; omega]
   exact ih (fun z hz => hk z (by simp [hz])) j x h i hi
/-- a new block of rows -/
theorem SeesR.new (w : World) (t : TypeId) (fr : Nat × Nat) (l : List α) (cs : Array Value) (hcs : cs.toList = l.flatMap enc) (hk : ∀ x, (enc x).length = k) (hm : l.length ≤ maxLen) :
  SeesR (w.alloc (.cells cs t fr)) k enc (.slice (some ⟨w.heap.size, 0, none⟩) l.length l.length) l := by
 refine ⟨_, _, rfl, Nat.le_refl _, hm, fun h => (by cases h), fun a ha => ?_⟩
 cases ha
 refine ⟨fun _ => rfl, fun j x hj i u hu => ?_⟩
 have hi : i < k := by rw [← hk x]; exact (List.getElem?_eq_some_iff.1 hu).1
 rw [show (⟨w.heap.size, 0, none⟩ : Addr).add (j * k + i) = ⟨w.heap.size, j * k + i, none⟩ from by unfold Addr.add; split <;> simp_all]
 rw [World.cell?_alloc_mark]
 rw [← Array.getElem?_toList, hcs, flat_at hk l j x hj i hi]
 exact hu
end Go.Proofs.YtfnanbadbmmicaaGreatDoor

namespace Go.Proofs.YtfnanbadbmmicaaGreatDoor
open Go.RowKit

/-- a value as the program holds it -/
structure Val where
 kind : Int
 num : Int
 str : ByteArray
 is : Bool
def Val.cells (v : Val) : Array Value := #[.int .i64 v.kind, .int .i64 v.num, .string v.str, .bool v.is]
/-- may it be? -/
def Val.ok (v : Val) : Bool :=
 if v.kind = 1 then v.str.toList.isEmpty && !v.is
 else if v.kind = 2 then decide (v.str.size ≤ 32) && decide (v.num = 0) && !v.is
 else decide (v.kind = 3) && decide (v.num = 0) && v.str.toList.isEmpty

theorem number_any (n : Int) (w : World) : Calls Tryz.prog 82 #[.int .i64 n] w fun e w' => e = .returned (.agg #[.int .i64 1, .int .i64 n, .string ⟨#[]⟩, .bool false]) ∧ Old w w' := by
 go_enter Tryz.func82, Tryz.ntmps82
 go_wp2_with fail
 refine bodyPost_ret (v := .agg #[.int .i64 1, .int .i64 n, .string ⟨#[]⟩, .bool false]) (by simp [results, Tryz.results82, go_sem]) rfl ?_
 exact ⟨rfl, (Keeps.refl _ _).alloc _⟩
theorem word_any (s : ByteArray) (w : World) : Calls Tryz.prog 83 #[.string s] w fun e w' => e = .returned (.agg #[.int .i64 2, .int .i64 0, .string s, .bool false]) ∧ Old w w' := by
 go_enter Tryz.func83, Tryz.ntmps83
 go_wp2_with fail
 refine bodyPost_ret (v := .agg #[.int .i64 2, .int .i64 0, .string s, .bool false]) (by simp [results, Tryz.results83, go_sem]) rfl ?_
 exact ⟨rfl, (Keeps.refl _ _).alloc _⟩
theorem truth_any (b : Bool) (w : World) : Calls Tryz.prog 84 #[.bool b] w fun e w' => e = .returned (.agg #[.int .i64 3, .int .i64 0, .string ⟨#[]⟩, .bool b]) ∧ Old w w' := by
 go_enter Tryz.func84, Tryz.ntmps84
 go_wp2_with fail
 refine bodyPost_ret (v := .agg #[.int .i64 3, .int .i64 0, .string ⟨#[]⟩, .bool b]) (by simp [results, Tryz.results84, go_sem]) rfl ?_
 exact ⟨rfl, (Keeps.refl _ _).alloc _⟩
theorem has_any (v : Val) (w : World) : Calls Tryz.prog 81 #[.agg v.cells] w fun e w' => e = .returned (if v.kind = 1 then .iface 2 (.int .i64 v.num) else if v.kind = 2 then .iface 9 (.string v.str) else if v.kind = 3 then .iface 4 (.bool v.is) else .nilIface) ∧ Old w w' := by
 obtain ⟨k, n, s, b⟩ := v
 unfold Val.cells
 by_cases h1 : k = 1
 ·subst h1
  go_enter Tryz.func81, Tryz.ntmps81
  go_wp2_with fail
  go_ret
  exact ⟨by simp, (Keeps.refl _ _).alloc _⟩
 ·have t1 : ((k : Int) == 1) = false := by simp; omega
  by_cases h2 : k = 2
  ·subst h2
   go_enter Tryz.func81, Tryz.ntmps81
   go_wp2_with fail
   go_ret
   exact ⟨by simp, (Keeps.refl _ _).alloc _⟩
  ·have t2 : ((k : Int) == 2) = false := by simp; omega
   by_cases h3 : k = 3
   ·subst h3
    go_enter Tryz.func81, Tryz.ntmps81
    go_wp2_with fail
    go_ret
    exact ⟨by simp, (Keeps.refl _ _).alloc _⟩
   ·have t3 : ((k : Int) == 3) = false := by simp; omega
    go_enter Tryz.func81, Tryz.ntmps81
    go_wp2_with fail
    go_ret
    exact ⟨by simp, (Keeps.refl _ _).alloc _⟩
end Go.Proofs.YtfnanbadbmmicaaGreatDoor

namespace Go.Proofs.YtfnanbadbmmicaaGreatDoor
open Go.RowKit

theorem eq_int (d : Nat) (x y : Int) (W : World) : (Op.equalIn (d+1) 3 (.int .i64 x) (.int .i64 y)).run Tryz.prog W = .ok (x == y) W := by
 unfold Op.equalIn; simp [go_sem]
theorem eq_i64 (d : Nat) (x y : Int) (W : World) : (Op.equalIn (d+1) 2 (.int .i64 x) (.int .i64 y)).run Tryz.prog W = .ok (x == y) W := by
 unfold Op.equalIn; simp [go_sem]
theorem eq_bool (d : Nat) (x y : Bool) (W : World) : (Op.equalIn (d+1) 4 (.bool x) (.bool y)).run Tryz.prog W = .ok (x == y) W := by
 unfold Op.equalIn; simp [go_sem]
theorem eq_string (d : Nat) (x y : ByteArray) (W : World) : (Op.equalIn (d+1) 9 (.string x) (.string y)).run Tryz.prog W = .ok (x == y) W := by
 unfold Op.equalIn; simp [go_sem]

set_option maxHeartbeats 2000000 in
theorem eq_val_in (m : Nat) (F3 : ∀ x y W, (Op.equalIn m 3 (.int .i64 x) (.int .i64 y)).run Tryz.prog W = .ok (x == y) W) (F2 : ∀ x y W, (Op.equalIn m 2 (.int .i64 x) (.int .i64 y)).run Tryz.prog W = .ok (x == y) W)
  (F9 : ∀ x y W, (Op.equalIn m 9 (.string x) (.string y)).run Tryz.prog W = .ok (x == y) W) (F4 : ∀ x y W, (Op.equalIn m 4 (.bool x) (.bool y)).run Tryz.prog W = .ok (x == y) W)
  (k k' n n' : Int) (s s' : ByteArray) (b b' : Bool) (W : World) :
  (Op.equalIn (m+1) 100 (.agg #[.int .i64 k, .int .i64 n, .string s, .bool b]) (.agg #[.int .i64 k', .int .i64 n', .string s', .bool b'])).run Tryz.prog W = .ok (k == k' && (n == n' && (s == s' && b == b'))) W := by
 have hst : Tryz.prog.stoodInHeld 100 = false := by kernel_rfl
 unfold Op.equalIn
 cases h1 : (k == k')
 ·simp [go_sem, hst, F3, h1]
 ·cases h2 : (n == n')
  ·simp [go_sem, hst, F3, F2, h1, h2]
  ·cases h3 : (s == s')
   ·simp [go_sem, hst, F3, F2, F9, h1, h2, h3]
   ·cases h4 : (b == b') <;> simp [go_sem, hst, F3, F2, F9, F4, h1, h2, h3, h4]

theorem eql_val (k k' n n' : Int) (s s' : ByteArray) (b b' : Bool) (W : World) :
  (binOp .eql 100 (.agg #[.int .i64 k, .int .i64 n, .string s, .bool b]) (.agg #[.int .i64 k', .int .i64 n', .string s', .bool b'])).run Tryz.prog W = .ok (.bool (k == k' && (n == n' && (s == s' && b == b')))) W := by
 have h := eq_val_in 9999 (eq_int 9998) (eq_i64 9998) (eq_string 9998) (eq_bool 9998) k k' n n' s s' b b' W
 simp [binOp, go_sem, Op.equal, Op.maxDepth, h]
end Go.Proofs.YtfnanbadbmmicaaGreatDoor
