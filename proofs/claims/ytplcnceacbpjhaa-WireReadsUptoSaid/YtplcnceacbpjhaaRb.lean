/- DERIVED. The contract of wire.Reader's Num. -/
import Derived.Test.YtplcnceacbpjhaaRa
namespace Go.Proofs.Ytplcnceacbpjhaa
open Go.RowKit

/-- what a read of a number leaves -/
def NumPost (w : World) (B rb bb : Nat) (l : List UInt8) (most : Nat) (e : Ending) (w' : World) : Prop :=
  e = .returned (.tuple #[.int .u64 (readNum l most).1, .int .i64 (readNum l most).2.1]) ∧ Rd w' B rb bb (readNum l most).2.2 ∧ Keeps (fun k => k = rb) w w'

theorem rd_of {w : World} {B rb bb : Nat} {l : List UInt8} {v : Value} (h0 : B ≤ w.heap.size) (h1 : w.heap[rb]? = some (.cells #[v, .bool true] 69 (0, 0))) (h2 : Sees w v l) (h3 : l.length ≤ 1000000000) (h4 : ∀ k, v.ownBlock = some k → k = bb ∧ k < B) (h5 : bb ≠ rb) : Rd w B rb bb l :=
  ⟨h0, v, h1, h2, h3, h4, h5⟩
theorem rd_set {w : World} {rb : Nat} {old v : Value} (h1 : w.heap[rb]? = some (.cells #[old, .bool true] 69 (0, 0))) : (w.setCell ⟨rb, 0, none⟩ v).heap[rb]? = some (.cells #[v, .bool true] 69 (0, 0)) := by
  have h := heap_setCell_same w rb 0 _ _ v h1
  simpa using h
theorem own_blk {B b o n c k : Nat} (hb : b < B) (h : (Value.slice (some ⟨b, o, none⟩) n c).ownBlock = some k) : k = b ∧ k < B := by
  simp [Value.ownBlock] at h; subst h; exact ⟨rfl, hb⟩
theorem num_results (tmps : Array Value) (eb : Nat) (x n : Int) (w : World) (h4 : tmps.getD 4 undef = .int .u64 x) (h5 : tmps.getD 5 undef = .pointer (some ⟨eb, 0, none⟩)) (hc : w.cell? ⟨eb, 0, none⟩ = some (.int .i64 n)) :
    (results Try.f18 tmps).run Try.prog w = .ok (.tuple #[.int .u64 x, .int .i64 n]) w := by
  simp only [Array.getD_eq_getD_getElem?] at h4 h5
  simp [results, Try.results18, go_sem, h4, h5, hc]

/-- the door behind an error: the old bytes are back -/
theorem num_door_bad {w wd : World} {B rb bb : Nat} (hB : B ≤ w.heap.size) {l : List UInt8} {most : Nat} {n : Nat} (hr : readNum l most = (0, n, l)) (hn : n ≠ 0) (old v : Value) (p : Option Addr) (m c : Nat) (hv : v = .slice p m c)
    (h1 : wd.heap[rb]? = some (.cells #[old, .bool true] 69 (0, 0))) (hs : Sees w v l) (hl : l.length ≤ 1000000000) (hb : ∀ k, v.ownBlock = some k → k = bb ∧ k < B) (hne : bb ≠ rb)
    (hk : Keeps (fun k => k = rb) w wd) (he : wd.cell? ⟨w.heap.size, 0, none⟩ = some (.int .i64 n)) (tmps : Array Value) (h4 : tmps.getD 4 undef = .int .u64 0) (h5 : tmps.getD 5 undef = .pointer (some ⟨w.heap.size, 0, none⟩))
    (hrb : rb ≠ w.heap.size) :
    Leaves Try.prog Try.f18 tmps (NumPost w B rb bb l most)
      [{ target := .fn (.func 34) #[], args := #[.pointer (some ⟨rb, 0, none⟩), v, .pointer (some ⟨w.heap.size, 0, none⟩)] }] .returning wd := by
  have hk2 : Keeps (fun k => k = rb) w (wd.setCell ⟨rb, 0, none⟩ v) := hk.setCell (fun _ => rfl) v
  refine leaves_cons (f := 34) (args := #[.pointer (some ⟨rb, 0, none⟩), v, .pointer (some ⟨w.heap.size, 0, none⟩)]) (by simp) (by simp [go_sem]) ?_
  refine (keep_bad rb v w.heap.size n (by simp; omega) .returning wd he old (by simp [World.cell?, h1]) (by simp [World.frozen?, h1]) p m c hv).mono ?_
  rintro e u' w'' ⟨rfl, rfl, rfl⟩
  refine ⟨_, num_results tmps w.heap.size 0 n _ h4 h5 ((World.cell?_setCell_other _ _ _ _ (by simp)).trans he), ?_, ?_, hk2⟩
  · rw [hr]; rfl
  · rw [hr]
    exact rd_of (Nat.le_trans hB hk2.size) (rd_set h1) (hs.keeps hk2 (fun k hk => by rw [(hb k hk).1]; exact hne)) hl hb hne
theorem num_door_ok {w wd : World} {B rb bb : Nat} (hB : B ≤ w.heap.size) {l r : List UInt8} {most : Nat} {x : Nat} (hr : readNum l most = (x, 0, r)) (v1 v : Value)
    (h1 : wd.heap[rb]? = some (.cells #[v1, .bool true] 69 (0, 0))) (hs : Sees wd v1 r) (hl : r.length ≤ 1000000000) (hb : ∀ k, v1.ownBlock = some k → k = bb ∧ k < B) (hne : bb ≠ rb)
    (hk : Keeps (fun k => k = rb) w wd) (he : wd.cell? ⟨w.heap.size, 0, none⟩ = some (.int .i64 0)) (tmps : Array Value) (h4 : tmps.getD 4 undef = .int .u64 x) (h5 : tmps.getD 5 undef = .pointer (some ⟨w.heap.size, 0, none⟩)) :
    Leaves Try.prog Try.f18 tmps (NumPost w B rb bb l most)
      [{ target := .fn (.func 34) #[], args := #[.pointer (some ⟨rb, 0, none⟩), v, .pointer (some ⟨w.heap.size, 0, none⟩)] }] .returning wd := by
  refine leaves_cons (f := 34) (args := #[.pointer (some ⟨rb, 0, none⟩), v, .pointer (some ⟨w.heap.size, 0, none⟩)]) (by simp) (by simp [go_sem]) ?_
  refine (keep_ok _ v w.heap.size .returning wd he).mono ?_
  rintro e u' w'' ⟨rfl, rfl, rfl⟩
  refine ⟨_, num_results tmps w.heap.size x 0 _ h4 h5 he, ?_, ?_, hk⟩
  · rw [hr]; rfl
  · rw [hr]
    exact rd_of (Nat.le_trans hB hk.size) h1 hs hl hb hne

set_option maxRecDepth 100000 in
set_option maxHeartbeats 1000000 in
theorem rnum_any (B rb bb : Nat) (l : List UInt8) (most : Nat) (w : World) (h : Rd w B rb bb l) (hm : most < 18446744073709551616) :
    Calls Try.prog 18 #[.pointer (some ⟨rb, 0, none⟩), .int .u64 most] w (NumPost w B rb bb l most) := by
  obtain ⟨hB, v0, g1, g2, g3, g4, g5⟩ := h
  obtain ⟨p, c, rfl, _, _⟩ := g2.len
  have hrb := lt_of_block g1
  have hne : rb ≠ w.heap.size := by omega
  have k1 : (w.alloc (.cells #[.int .i64 0] 40)).cell? ⟨rb, 0, none⟩ = some (.slice p l.length c) := by
    rw [World.cell?_alloc_past _ _ _ hrb]; simp [World.cell?, g1]
  have k2 : (w.alloc (.cells #[.int .i64 0] 40)).cell? ⟨rb, 1, none⟩ = some (.bool true) := by
    rw [World.cell?_alloc_past _ _ _ hrb]; simp [World.cell?, g1]
  have G := Lib.hid (And.intro g1 (And.intro g2 (And.intro g3 (And.intro g4 (And.intro g5 (And.intro hm hB))))))
  clear g1 g2 g3 g4 g5 hm hB
  go_enter_defers Try.func18, Try.ntmps18
  go_wp2_with fail
  go_loopw [4, 6, 7] (fun v4 v6 _ wr => ∃ i acc l1 v1, v6 = .int .i64 (i : Nat) ∧ v4 = .int .u64 (acc : Nat) ∧ i ≤ 9 ∧ acc < 128 ^ i ∧ scan 0 0 l = scan i acc l1 ∧
      wr.heap[rb]? = some (.cells #[v1, .bool true] 69 (0, 0)) ∧ Sees wr v1 l1 ∧ (∀ k, v1.ownBlock = some k → k = bb ∧ k < B) ∧ l1.length ≤ l.length ∧
      wr.heap[w.heap.size]? = some (.cells #[.int .i64 0] 40 (0, 0)) ∧ Keeps (fun k => k = rb) w wr) (fun _ v6 _ _ => 10 - (intOf v6).toNat)
  case atStart =>
    obtain ⟨g1, g2, g3, g4, g5, hm, hB⟩ := G.out
    exact ⟨0, 0, l, _, rfl, rfl, by omega, by decide, rfl, (heap_alloc_old _ _ hrb).trans g1, g2.alloc _, g4, Nat.le_refl _, heap_alloc_new _ _, (Keeps.refl _ _).alloc _⟩
  case round =>
    obtain ⟨i, acc, l1, v1, rfl, rfl, hi, hacc, hscan, r1, r2, r3, r4, r5, r6⟩ := hrel
    have SC := Lib.hid hscan
    clear hscan k1 k2
    have q1 : wr.cell? ⟨rb, 0, none⟩ = some v1 := by simp [World.cell?, r1]
    have q2 : wr.cell? ⟨w.heap.size, 0, none⟩ = some (.int .i64 0) := by simp [World.cell?, r5]
    have q3 : wr.frozen? ⟨rb, 0, none⟩ = false := by simp [World.frozen?, r1]
    have q4 : wr.frozen? ⟨w.heap.size, 0, none⟩ = false := by simp [World.frozen?, r5]
    cases l1 with
    | nil =>
      obtain ⟨p1, c1, rfl, _, _⟩ := r2.len
      have R := Lib.hid (And.intro r1 (And.intro r5 r6))
      clear r1 r5 r6 r2 r3
      go_wp2_with fail
      obtain ⟨r1, r5, r6⟩ := R.out
      obtain ⟨g1, g2, g3, g4, g5, hm, hB⟩ := G.out
      refine num_door_bad hB (n := 4) (read_bad SC.out (by decide)) (by decide) (.slice p1 0 c1) (.slice p l.length c) p _ c rfl ((heap_setCell_other _ _ _ _ hne).trans r1) g2 g3 g4 g5
        (r6.setCell (fun h => absurd h (by simp)) _) (by rw [World.cell?_setCell_same _ _ _ q2]; rfl) _ rfl rfl hne
    | cons ch r =>
      obtain ⟨b1, o1, c1, rfl, hc1, hc2, hc3⟩ := r2.at (by simp)
      have hch : wr.cell? ⟨b1, o1, none⟩ = some (.int .u8 ch.toNat) := hc3 0 ch (by simp)
      have hbw := (r3 b1 rfl).2
      have hnb : bb = b1 := (r3 b1 rfl).1.symm
      subst hnb
      obtain ⟨p2, c2, hsl, s1, s2⟩ := r2.from 1 (by simp) .i64 1 rfl
      simp only [List.length_cons, Nat.add_sub_cancel, List.drop_succ_cons, List.drop_zero] at s1 s2 hsl
      clear r2 r3 hc3
      have hA : (((i : Int) == 9) = true ∧ 1 < ch.toNat) ∨ (((i : Int) == 9) = true ∧ ¬ 1 < ch.toNat ∧ 0 < i ∧ ((ch.toNat : Int) == 0) = true) ∨ (((i : Int) == 9) = false ∧ 0 < i ∧ ((ch.toNat : Int) == 0) = true) ∨
          (((i : Int) == 9) = true ∧ ¬ 1 < ch.toNat ∧ 0 < i ∧ ((ch.toNat : Int) == 0) = false) ∨ (((i : Int) == 9) = false ∧ 0 < i ∧ ((ch.toNat : Int) == 0) = false) ∨ (((i : Int) == 9) = false ∧ ¬ 0 < i) := by
        simp only [beq_iff_eq, beq_eq_false_iff_ne]; omega
      have R := Lib.hid (And.intro r1 (And.intro r5 (And.intro r6 (And.intro s1 (And.intro s2 hacc)))))
      clear r1 r5 r6 s1 s2 hacc
      have ha := and127_u8 (x := ch.toNat) ch.toNat_lt
      rcases hA with ⟨t9, t1⟩ | ⟨t9, t1, t0, tz⟩ | ⟨t9, t0, tz⟩ | hB
      rotate_right
      · have good : ¬ ((i = 9 ∧ 1 < ch.toNat) ∨ (0 < i ∧ ch.toNat = 0)) ∧ (i = 9 → ch.toNat ≤ 1) := by
          simp only [beq_iff_eq, beq_eq_false_iff_ne] at hB; omega
        have hor := or_group' (c := ch.toNat) hi (R.out.2.2.2.2.2) good.2
        have GD := Lib.hid good
        clear good
        obtain ⟨x, hx⟩ : ∃ x, x = acc + ch.toNat % 128 * 128 ^ i := ⟨_, rfl⟩
        rw [← hx] at hor
        have X := Lib.hid hx
        clear hx
        by_cases h128 : ch.toNat < 128
        · have hsc : scan 0 0 l = (x, 0, r) := by rw [SC.out, scan_last GD.out.1 h128, X.out]
          have HSC := Lib.hid hsc
          clear hsc
          by_cases hlong : most < x
          · rcases hB with ⟨t9, t1, t0, tz⟩ | ⟨t9, t0, tz⟩ | ⟨t9, t0⟩
            all_goals go_wp2_with fail
            all_goals obtain ⟨r1, r5, r6, s1, s2, hacc⟩ := R.out
            all_goals obtain ⟨g1, g2, g3, g4, g5, hm, hB⟩ := G.out
            all_goals refine num_door_bad hB (n := 3) (read_long HSC.out hlong) (by decide) (.slice p2 r.length c2) (.slice p l.length c) p _ c rfl ((heap_setCell_other _ _ _ _ hne).trans (rd_set r1)) g2 g3 g4 g5 ((r6.setCell (fun _ => rfl) _).setCell (fun h => absurd h (by simp)) _) (by rw [World.cell?_setCell_same _ _ _ ((World.cell?_setCell_other _ _ _ _ (by simp)).trans q2)]; rfl) _ rfl rfl hne
          · rcases hB with ⟨t9, t1, t0, tz⟩ | ⟨t9, t0, tz⟩ | ⟨t9, t0⟩
            all_goals go_wp2_with fail
            all_goals obtain ⟨r1, r5, r6, s1, s2, hacc⟩ := R.out
            all_goals obtain ⟨g1, g2, g3, g4, g5, hm, hB⟩ := G.out
            all_goals refine num_door_ok hB (read_ok HSC.out hlong) (.slice p2 r.length c2) (.slice p l.length c) ((heap_setCell_other _ _ _ _ hne).trans (rd_set r1)) ?_ (by simp only [List.length_cons] at r4; omega) (fun k hk => own_blk hbw (s2 k hk)) g5 ((r6.setCell (fun _ => rfl) _).setCell (fun h => absurd h (by simp)) _) (by rw [World.cell?_setCell_same _ _ _ ((World.cell?_setCell_other _ _ _ _ (by simp)).trans q2)]) _ rfl rfl
            all_goals exact (s1.keeps (((Keeps.refl (fun k => k = rb ∨ k = w.heap.size) _).setCell (fun _ => .inl rfl) _).setCell (fun _ => .inr rfl) _) (fun k hk => by have := (own_blk hbw (s2 k hk)).1; have := hB; omega))
        · rcases hB with ⟨t9, t1, t0, tz⟩ | ⟨t9, t0, tz⟩ | ⟨t9, t0⟩
          · omega
          all_goals go_wp2_with fail
          all_goals obtain ⟨r1, r5, r6, s1, s2, hacc⟩ := R.out
          all_goals obtain ⟨g1, g2, g3, g4, g5, hm, hB⟩ := G.out
          all_goals go_roundw
          case rel => exact ⟨i + 1, x, r, _, by go_num, rfl, (by simp only [beq_eq_false_iff_ne] at t9; omega), by rw [X.out]; exact acc_lt hacc, by rw [SC.out, scan_more GD.out.1 h128, X.out], rd_set r1, s1.keeps ((Keeps.refl (fun k => k = rb) _).setCell (fun _ => rfl) _) (fun k hk => by have := (own_blk hbw (s2 k hk)).1; omega), fun k hk => own_blk hbw (s2 k hk), by simp only [List.length_cons] at r4; omega, (heap_setCell_other _ _ _ _ (by simp; omega)).trans r5, r6.setCell (fun _ => rfl) _⟩
          case measure => simp [intOf]; omega
          case rel => exact ⟨i + 1, x, r, _, by go_num, rfl, (by simp only [beq_eq_false_iff_ne] at t9; omega), by rw [X.out]; exact acc_lt hacc, by rw [SC.out, scan_more GD.out.1 h128, X.out], rd_set r1, s1.keeps ((Keeps.refl (fun k => k = rb) _).setCell (fun _ => rfl) _) (fun k hk => by have := (own_blk hbw (s2 k hk)).1; omega), fun k hk => own_blk hbw (s2 k hk), by simp only [List.length_cons] at r4; omega, (heap_setCell_other _ _ _ _ (by simp; omega)).trans r5, r6.setCell (fun _ => rfl) _⟩
          case measure => simp [intOf]; omega
      all_goals go_wp2_with fail
      all_goals obtain ⟨r1, r5, r6, s1, s2, hacc⟩ := R.out
      all_goals obtain ⟨g1, g2, g3, g4, g5, hm, hB⟩ := G.out
      all_goals refine num_door_bad hB (n := 5) ?_ (by decide) (.slice p2 r.length c2) (.slice p l.length c) p _ c rfl ((heap_setCell_other _ _ _ _ hne).trans (rd_set r1)) g2 g3 g4 g5 ((r6.setCell (fun _ => rfl) _).setCell (fun h => absurd h (by simp)) _) (by rw [World.cell?_setCell_same _ _ _ ((World.cell?_setCell_other _ _ _ _ (by simp)).trans q2)]; rfl) _ rfl rfl hne
      all_goals refine read_bad (SC.out.trans (scan_bad ?_)) (by decide)
      all_goals simp only [beq_iff_eq, beq_eq_false_iff_ne] at *
      all_goals omega
end Go.Proofs.Ytplcnceacbpjhaa
