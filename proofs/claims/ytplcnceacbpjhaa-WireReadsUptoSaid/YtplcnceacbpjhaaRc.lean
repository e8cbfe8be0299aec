/- DERIVED. The contracts of wire.Reader's Int and Bytes. -/
import Derived.Test.YtplcnceacbpjhaaRb
import Derived.Deep.RegionHeld3
import Derived.Deep.RegionWith
import Derived.Deep.RegionLaw
namespace Go.Proofs.Ytplcnceacbpjhaa
open Go.RowKit

theorem rint_any (B rb bb : Nat) (l : List UInt8) (w : World) (h : Rd w B rb bb l) :
    Calls Try.prog 20 #[.pointer (some ⟨rb, 0, none⟩)] w fun e w' =>
      e = .returned (.tuple #[.int .i64 (readInt l).1, .int .i64 (readInt l).2.1]) ∧ Rd w' B rb bb (readInt l).2.2 ∧ Keeps (fun k => k = rb) w w' := by
  have hle := readNum_le l 18446744073709551615
  have hc := rnum_any B rb bb l 18446744073709551615 w h (by decide)
  unfold readInt
  obtain ⟨n, hn⟩ : ∃ n, n = (readNum l 18446744073709551615).1 := ⟨_, rfl⟩
  obtain ⟨er, her⟩ : ∃ n, n = (readNum l 18446744073709551615).2.1 := ⟨_, rfl⟩
  obtain ⟨rest, hrest⟩ : ∃ n, n = (readNum l 18446744073709551615).2.2 := ⟨_, rfl⟩
  unfold NumPost at hc
  rw [show (readNum l 18446744073709551615).2 = (er, rest) from by rw [her, hrest]]
  rw [← hn] at hle hc ⊢
  rw [← her, ← hrest] at hc
  simp only []
  have HC := Lib.hid hc
  have HL := Lib.hid hle
  clear hc hle h hn her hrest
  by_cases h0 : er = 0
  · subst h0
    go_enter Try.func20, Try.ntmps20
    go_wp2_with (first | (go_at_call 18; refine HC.out.mono ?_; rintro e w1 ⟨rfl, h1, h2⟩) | (go_at_call 35; refine (zag_any n w1 (by have := HL.out; omega)).mono ?_; rintro e w2 ⟨rfl, rfl⟩))
    go_ret2
    exact ⟨by simp, h1, h2⟩
  · have hd : ((er : Int) != 0) = true := by simp; omega
    go_enter Try.func20, Try.ntmps20
    go_wp2_with (first | (go_at_call 18; refine HC.out.mono ?_; rintro e w1 ⟨rfl, h1, h2⟩))
    go_ret2
    exact ⟨by simp, h1, h2⟩

/-- what a read of bytes leaves -/
def BytesPost (w : World) (B rb bb : Nat) (l : List UInt8) (most : Int) (e : Ending) (w' : World) : Prop :=
  ∃ p n c, e = .returned (.tuple #[.slice p n c, .int .i64 (readBytes l most).2.1]) ∧ Owns w' w.heap.size (.slice p n c) (readBytes l most).1 ∧ Rd w' B rb bb (readBytes l most).2.2 ∧ Keeps (fun k => k = rb) w w'

theorem bytes_results (tmps : Array Value) (eb : Nat) (p : Option Addr) (m c : Nat) (n : Int) (w : World) (h4 : tmps.getD 4 undef = .slice p m c) (h5 : tmps.getD 5 undef = .pointer (some ⟨eb, 0, none⟩)) (hc : w.cell? ⟨eb, 0, none⟩ = some (.int .i64 n)) :
    (results Try.f22 tmps).run Try.prog w = .ok (.tuple #[.slice p m c, .int .i64 n]) w := by
  simp only [Array.getD_eq_getD_getElem?] at h4 h5
  simp [results, Try.results22, go_sem, h4, h5, hc]
theorem bytes_door_bad {w wd : World} {B rb bb : Nat} (hB : B ≤ w.heap.size) {l : List UInt8} {most : Int} {n : Nat} (hr : readBytes l most = ([], n, l)) (hn : n ≠ 0) (old v : Value) (p : Option Addr) (m c : Nat) (hv : v = .slice p m c)
    (h1 : wd.heap[rb]? = some (.cells #[old, .bool true] 69 (0, 0))) (hs : Sees w v l) (hl : l.length ≤ 1000000000) (hb : ∀ k, v.ownBlock = some k → k = bb ∧ k < B) (hne : bb ≠ rb)
    (hk : Keeps (fun k => k = rb) w wd) (he : wd.cell? ⟨w.heap.size, 0, none⟩ = some (.int .i64 n)) (tmps : Array Value) (h4 : tmps.getD 4 undef = .slice none 0 0) (h5 : tmps.getD 5 undef = .pointer (some ⟨w.heap.size, 0, none⟩))
    (hrb : rb ≠ w.heap.size) :
    Leaves Try.prog Try.f22 tmps (BytesPost w B rb bb l most)
      [{ target := .fn (.func 34) #[], args := #[.pointer (some ⟨rb, 0, none⟩), v, .pointer (some ⟨w.heap.size, 0, none⟩)] }] .returning wd := by
  have hk2 : Keeps (fun k => k = rb) w (wd.setCell ⟨rb, 0, none⟩ v) := hk.setCell (fun _ => rfl) v
  refine leaves_cons (f := 34) (args := #[.pointer (some ⟨rb, 0, none⟩), v, .pointer (some ⟨w.heap.size, 0, none⟩)]) (by simp) (by simp [go_sem]) ?_
  refine (keep_bad rb v w.heap.size n (by simp; omega) .returning wd he old (by simp [World.cell?, h1]) (by simp [World.frozen?, h1]) p m c hv).mono ?_
  rintro e u' w'' ⟨rfl, rfl, rfl⟩
  refine ⟨_, bytes_results tmps w.heap.size none 0 0 n _ h4 h5 ((World.cell?_setCell_other _ _ _ _ (by simp)).trans he), none, 0, 0, ?_, ?_, ?_, hk2⟩
  · rw [hr]
  · rw [hr]; exact Owns.nil _ _
  · rw [hr]
    exact rd_of (Nat.le_trans hB hk2.size) (rd_set h1) (hs.keeps hk2 (fun k hk => by rw [(hb k hk).1]; exact hne)) hl hb hne
theorem bytes_door_ok {w wd : World} {B rb bb : Nat} (hB : B ≤ w.heap.size) {l r x : List UInt8} {most : Int} (hr : readBytes l most = (x, 0, r)) (v1 v : Value) (p : Option Addr) (n c : Nat) (hx : Owns wd w.heap.size (.slice p n c) x)
    (h1 : wd.heap[rb]? = some (.cells #[v1, .bool true] 69 (0, 0))) (hs : Sees wd v1 r) (hl : r.length ≤ 1000000000) (hb : ∀ k, v1.ownBlock = some k → k = bb ∧ k < B) (hne : bb ≠ rb)
    (hk : Keeps (fun k => k = rb) w wd) (he : wd.cell? ⟨w.heap.size, 0, none⟩ = some (.int .i64 0)) (tmps : Array Value) (h4 : tmps.getD 4 undef = .slice p n c) (h5 : tmps.getD 5 undef = .pointer (some ⟨w.heap.size, 0, none⟩)) :
    Leaves Try.prog Try.f22 tmps (BytesPost w B rb bb l most)
      [{ target := .fn (.func 34) #[], args := #[.pointer (some ⟨rb, 0, none⟩), v, .pointer (some ⟨w.heap.size, 0, none⟩)] }] .returning wd := by
  refine leaves_cons (f := 34) (args := #[.pointer (some ⟨rb, 0, none⟩), v, .pointer (some ⟨w.heap.size, 0, none⟩)]) (by simp) (by simp [go_sem]) ?_
  refine (keep_ok _ v w.heap.size .returning wd he).mono ?_
  rintro e u' w'' ⟨rfl, rfl, rfl⟩
  refine ⟨_, bytes_results tmps w.heap.size p n c 0 _ h4 h5 he, p, n, c, ?_, ?_, ?_, hk⟩
  · rw [hr]; rfl
  · rw [hr]; exact hx
  · rw [hr]
    exact rd_of (Nat.le_trans hB hk.size) h1 hs hl hb hne

/-- the door behind a string that was read -/
theorem rbytes_ok {w W w2 : World} {B rb bb n : Nat} (hB : B ≤ w.heap.size) {l rest : List UInt8} {most : Int} (hr : readBytes l most = (rest.take n, 0, rest.drop n)) {v1 v : Value} {p1 p3 p4 : Option Addr} {m1 m3 c1 c3 n4 c4 : Nat}
    (t1 : W.heap[rb]? = some (.cells #[v1, .bool true] 69 (0, 0))) (hW : Keeps (fun k => k = rb) w W) (hsz : w.heap.size < W.heap.size) (s3 : Sees W (.slice p3 m3 c3) (rest.drop n)) (s4 : ∀ b, (Value.slice p3 m3 c3).ownBlock = some b → (Value.slice p1 m1 c1).ownBlock = some b)
    (hl : rest.length ≤ 1000000000) (r6 : ∀ k, (Value.slice p1 m1 c1).ownBlock = some k → k = bb ∧ k < B) (hne : bb ≠ rb) (ho : Owns w2 W.drew.heap.size (.slice p4 n4 c4) (rest.take n)) (hk : Old W.drew w2)
    (he : w2.cell? ⟨w.heap.size, 0, none⟩ = some (.int .i64 0)) (tmps : Array Value) (h4 : tmps.getD 4 undef = .slice p4 n4 c4) (h5 : tmps.getD 5 undef = .pointer (some ⟨w.heap.size, 0, none⟩)) (hrb : rb ≠ w.heap.size) :
    Leaves Try.prog Try.f22 tmps (BytesPost w B rb bb l most)
      [{ target := .fn (.func 34) #[], args := #[.pointer (some ⟨rb, 0, none⟩), v, .pointer (some ⟨w.heap.size, 0, none⟩)] }] .returning
        ((w2.setCell ⟨rb, 0, none⟩ (.slice p3 m3 c3)).setCell ⟨w.heap.size, 0, none⟩ (.int .i64 0)) := by
  have hrbW := lt_of_block t1
  have kk : Keeps (fun k => k = rb ∨ k = w.heap.size) w2 ((w2.setCell ⟨rb, 0, none⟩ (.slice p3 m3 c3)).setCell ⟨w.heap.size, 0, none⟩ (.int .i64 0)) :=
    ((Keeps.refl _ _).setCell (fun _ => .inl rfl) _).setCell (fun _ => .inr rfl) _
  have t2 : w2.heap[rb]? = some (.cells #[v1, .bool true] 69 (0, 0)) := (hk.block rb hrbW (fun f => f)).trans t1
  have hb4 := ho.block
  have hk0 : Old W w2 := ⟨hk.os, hk.tape, hk.output, hk.size, hk.block⟩
  have kW : Keeps (fun k => k = rb) w w2 := hW.then hk0 (fun _ _ f => False.elim f)
  refine bytes_door_ok hB hr (.slice p3 m3 c3) v p4 n4 c4 ?_ ?_ ?_ (by simp; omega) (fun k h => r6 k (s4 k h)) hne ?_ ?_ tmps h4 h5
  · refine (ho.mono (Nat.le_of_lt hsz)).keeps kk ?_
    intro k hk'
    have := (hb4 k hk').1
    have e : W.drew.heap.size = W.heap.size := rfl
    omega
  · exact (heap_setCell_other _ _ _ _ hrb).trans (rd_set t2)
  · refine (Sees.old (w := W.drew) s3 hk).keeps kk ?_
    intro k hk'
    have := r6 k (s4 k hk')
    omega
  · exact (kW.setCell (fun _ => rfl) _).setCell (fun h => absurd h (by simp)) _
  · rw [World.cell?_setCell_same _ _ _ ((World.cell?_setCell_other _ _ _ _ (by simp)).trans he)]

set_option maxRecDepth 100000 in
set_option maxHeartbeats 4000000 in
theorem rbytes_any (B rb bb : Nat) (l : List UInt8) (most : Int) (w : World) (h : Rd w B rb bb l) (hm : most ≤ 9223372036854775807) :
    Calls Try.prog 22 #[.pointer (some ⟨rb, 0, none⟩), .int .i64 most] w (BytesPost w B rb bb l most) := by
  obtain ⟨hB, v0, g1, g2, g3, g4, g5⟩ := id h
  obtain ⟨p, c, rfl, _, _⟩ := g2.len
  have hrb := lt_of_block g1
  have hne : rb ≠ w.heap.size := by omega
  have k1 : (w.alloc (.cells #[.int .i64 0] 40)).cell? ⟨rb, 0, none⟩ = some (.slice p l.length c) := by
    rw [World.cell?_alloc_past _ _ _ hrb]; simp [World.cell?, g1]
  have k2 : (w.alloc (.cells #[.int .i64 0] 40)).cell? ⟨rb, 1, none⟩ = some (.bool true) := by
    rw [World.cell?_alloc_past _ _ _ hrb]; simp [World.cell?, g1]
  have G := Lib.hid (And.intro g1 (And.intro g2 (And.intro g3 (And.intro g4 (And.intro g5 (And.intro hm hB))))))
  clear g1 g2 g3 g4 g5 hB
  by_cases h0 : most < 0
  · clear h hm
    go_enter_defers Try.func22, Try.ntmps22
    go_wp2_with fail
    obtain ⟨g1, g2, g3, g4, g5, hm, hB⟩ := G.out
    have hr : readBytes l most = ([], 1, l) := by unfold readBytes; rw [if_pos h0]
    refine ⟨_, bytes_results _ w.heap.size none 0 0 1 _ rfl rfl ?_, none, 0, 0, ?_, ?_, ?_, (Keeps.refl _ _).alloc _⟩
    · rw [World.cell?_alloc_at _ _ _ _ rfl]; rfl
    · rw [hr]; rfl
    · rw [hr]; exact Owns.nil _ _
    · rw [hr]; exact rd_of (by simp; omega) ((heap_alloc_old _ _ hrb).trans g1) (g2.alloc _) g3 g4 g5
  · obtain ⟨m, rfl⟩ := Int.eq_ofNat_of_zero_le (show 0 ≤ most by omega)
    have hR : Rd (w.alloc (.cells #[.int .i64 0] 40)) B rb bb l := by
      obtain ⟨g1, g2, g3, g4, g5, hm, hB⟩ := G.out
      exact rd_of (by simp; omega) ((heap_alloc_old _ _ hrb).trans g1) (g2.alloc _) g3 g4 g5
    have hC := rnum_any B rb bb l m _ hR (by omega)
    have hle := readNum_le l m
    have herr := @readNum_bad l m
    have hmb : (m : Int) ≤ 9223372036854775807 := hm
    obtain ⟨n, hn⟩ : ∃ n, n = (readNum l m).1 := ⟨_, rfl⟩
    obtain ⟨er, her⟩ : ∃ n, n = (readNum l m).2.1 := ⟨_, rfl⟩
    obtain ⟨rest, hrest⟩ : ∃ n, n = (readNum l m).2.2 := ⟨_, rfl⟩
    have hrb' : readBytes l (m : Int) = if er ≠ 0 then ([], er, l) else if rest.length < n then ([], 4, l) else (rest.take n, 0, rest.drop n) := by
      unfold readBytes; rw [if_neg h0, Int.toNat_natCast, hn, her, hrest]
    unfold NumPost at hC
    rw [← hn, ← her, ← hrest] at hC
    rw [← hn, ← her, ← hrest] at herr
    rw [← hn] at hle
    have HC := Lib.hid hC
    have HB := Lib.hid (And.intro hrb' (And.intro hle herr))
    clear hC hrb' hle herr hn her hrest hm h hR
    by_cases e0 : er = 0
    · subst e0
      by_cases hfit : rest.length < n
      · go_enter_defers Try.func22, Try.ntmps22
        go_wp2_with fail
        refine HC.out.mono ?_
        rintro e w1 ⟨rfl, h1, h2⟩
        have q0 : w1.heap[w.heap.size]? = some (.cells #[.int .i64 0] 40 (0, 0)) := (h2.block _ (by simp) (by omega)).trans (heap_alloc_new _ _)
        have q1 : w1.cell? ⟨w.heap.size, 0, none⟩ = some (.int .i64 0) := cell_of_one q0
        have q2 : w1.frozen? ⟨w.heap.size, 0, none⟩ = false := free_of_one q0
        obtain ⟨p1, c1, r1, r2, r3, r4, r5, r6, r7⟩ := h1.cells
        have H := Lib.hid (And.intro h1 (And.intro h2 (And.intro q0 (And.intro r4 (And.intro r6 r7)))))
        clear h1 h2 q0 r4 r6 r7
        go_wp2_with fail
        obtain ⟨h1, h2, q0, r4, r6, r7⟩ := H.out
        obtain ⟨g1, g2, g3, g4, g5, _, hB⟩ := G.out
        have hk : Keeps (fun k => k = rb) w w1 := ((Keeps.refl _ w).alloc _).trans h2
        obtain ⟨_, v1, t1, _⟩ := h1
        refine bytes_door_bad hB (n := 4) (by rw [HB.out.1, if_neg (by simp), if_pos hfit]) (by decide) v1 (.slice p l.length c) p _ c rfl ?_ g2 g3 g4 g5 ?_ ?_ _ rfl rfl hne
        · exact (heap_setCell_other _ _ _ _ hne).trans ((heap_setCell_other _ _ _ _ hne).trans t1)
        · exact (hk.setCell (fun h => absurd h (by simp)) _).setCell (fun h => absurd h (by simp)) _
        · rw [World.cell?_setCell_same _ _ _ (World.cell?_setCell_same _ _ _ q1)]; rfl
      · go_enter_defers Try.func22, Try.ntmps22
        go_wp2_with fail
        refine HC.out.mono ?_
        rintro e w1 ⟨rfl, h1, h2⟩
        have q0 : w1.heap[w.heap.size]? = some (.cells #[.int .i64 0] 40 (0, 0)) := (h2.block _ (by simp) (by omega)).trans (heap_alloc_new _ _)
        have q1 : w1.cell? ⟨w.heap.size, 0, none⟩ = some (.int .i64 0) := cell_of_one q0
        have q2 : w1.frozen? ⟨w.heap.size, 0, none⟩ = false := free_of_one q0
        obtain ⟨p1, c1, r1, r2, r3, r4, r5, r6, r7⟩ := h1.cells
        have H := Lib.hid (And.intro h1 (And.intro h2 (And.intro q0 (And.intro r4 (And.intro r6 r7)))))
        clear h1 h2 q0 r4 r6 r7
        go_wp2_with fail
        obtain ⟨h1, h2, q0, r4, r6, r7⟩ := H.out
        have hB := G.out.2.2.2.2.2.2
        have r4' := r4.keeps ((Keeps.refl (fun k => k = w.heap.size) w1).setCell (p := ⟨w.heap.size, 0, none⟩) (fun _ => rfl) (.int .i64 0)) (fun k hk => by have := r6 k hk; show ¬ k = w.heap.size; omega)
        have r1' : (w1.setCell ⟨w.heap.size, 0, none⟩ (.int .i64 0)).cell? ⟨rb, 0, none⟩ = some (.slice p1 rest.length c1) := (World.cell?_setCell_other _ _ _ _ (by simp)).trans r1
        have r3' : (w1.setCell ⟨w.heap.size, 0, none⟩ (.int .i64 0)).frozen? ⟨rb, 0, none⟩ = false := (World.frozen?_setCell _ _ _ _).trans r3
        have q1' : (w1.setCell ⟨w.heap.size, 0, none⟩ (.int .i64 0)).cell? ⟨w.heap.size, 0, none⟩ = some (.int .i64 0) := World.cell?_setCell_same _ _ _ q1
        have q2' : (w1.setCell ⟨w.heap.size, 0, none⟩ (.int .i64 0)).frozen? ⟨w.heap.size, 0, none⟩ = false := (World.frozen?_setCell _ _ _ _).trans q2
        obtain ⟨g1, g2, g3, g4, g5, _, _⟩ := G.out
        obtain ⟨_, v1, t1, _⟩ := h1
        have t1' : (w1.setCell ⟨w.heap.size, 0, none⟩ (.int .i64 0)).heap[rb]? = some (.cells #[v1, .bool true] 69 (0, 0)) := (heap_setCell_other _ _ _ _ hne).trans t1
        have hW : Keeps (fun k => k = rb) w (w1.setCell ⟨w.heap.size, 0, none⟩ (.int .i64 0)) := (((Keeps.refl _ w).alloc _).trans h2).setCell (fun h => absurd h (by simp)) _
        have hsz : w.heap.size < (w1.setCell ⟨w.heap.size, 0, none⟩ (.int .i64 0)).heap.size := World.block_lt_of_cell? _ _ q1'
        obtain ⟨p2, c2, hs1, s1, s2⟩ := r4'.upto n (by omega) .u64 n rfl
        obtain ⟨p3, c3, hs2, s3, s4⟩ := r4'.from n (by omega) .u64 n rfl
        generalize w1.setCell ⟨w.heap.size, 0, none⟩ (.int .i64 0) = W at *
        have F := Lib.hid (And.intro t1' (And.intro hW (And.intro hsz (And.intro s2 (And.intro s3 (And.intro s4 (And.intro r5 r6)))))))
        clear t1' hW hsz s2 s3 s4 r4 r4' t1 h2 q0 g1 g2 g4 q1 q2 r1 r2 r3 r6 k1 k2
        refine wp_region_noPanic ?_
        go_region_with ((go_at_call 33; refine (bytes_clone_any _ (rest.take n) _ ?_ ?_).mono ?_; exact s1; (simp; omega); rintro e w2 ⟨p4, n4, c4, rfl, ho2, hk2⟩; have hq := hk2.cf ⟨r1', r3'⟩ (fun f => f); obtain ⟨hq1, hq2⟩ := hq; have hz := hk2.cf ⟨q1', q2'⟩ (fun f => f); obtain ⟨hz1, hz2⟩ := hz))
        all_goals refine NoPanic.normal ?_
        all_goals go_wp2_with fail
        all_goals exact rbytes_ok hB (by rw [HB.out.1, if_neg (by simp), if_neg hfit]) F.out.1 F.out.2.1 F.out.2.2.1 F.out.2.2.2.2.1 F.out.2.2.2.2.2.1 F.out.2.2.2.2.2.2.1 F.out.2.2.2.2.2.2.2 g5 ho2 hk2 hz1 _ rfl rfl hne
    · have hd : ((er : Int) != 0) = true := by simp; omega
      go_enter_defers Try.func22, Try.ntmps22
      go_wp2_with fail
      refine HC.out.mono ?_
      rintro e w1 ⟨rfl, h1, h2⟩
      have q0 : w1.heap[w.heap.size]? = some (.cells #[.int .i64 0] 40 (0, 0)) := (h2.block _ (by simp) (by omega)).trans (heap_alloc_new _ _)
      have q1 : w1.cell? ⟨w.heap.size, 0, none⟩ = some (.int .i64 0) := cell_of_one q0
      have q2 : w1.frozen? ⟨w.heap.size, 0, none⟩ = false := free_of_one q0
      have H := Lib.hid (And.intro h1 (And.intro h2 q0))
      clear h1 h2 q0
      go_wp2_with fail
      go_region
      go_wp2_with fail
      obtain ⟨h1, h2, q0⟩ := H.out
      obtain ⟨g1, g2, g3, g4, g5, _, hB⟩ := G.out
      have hk : Keeps (fun k => k = rb) w w1 := ((Keeps.refl _ w).alloc _).trans h2
      obtain ⟨_, v1, t1, _⟩ := h1
      refine bytes_door_bad hB (n := er) (by rw [HB.out.1, if_pos e0]) e0 v1 (.slice p l.length c) p _ c rfl ?_ g2 g3 g4 g5 ?_ ?_ _ rfl rfl hne
      · exact (heap_setCell_other _ _ _ _ hne).trans ((heap_setCell_other _ _ _ _ hne).trans t1)
      · exact ((hk.setCell (fun h => absurd h (by simp)) _).setCell (fun h => absurd h (by simp)) _).drew
      · rw [World.cell?_drew, World.cell?_setCell_same _ _ _ (World.cell?_setCell_same _ _ _ q1)]
end Go.Proofs.Ytplcnceacbpjhaa
