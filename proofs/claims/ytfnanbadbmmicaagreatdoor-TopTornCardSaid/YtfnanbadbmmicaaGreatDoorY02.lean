/- DERIVED. The contracts of the writers of package wire. · DERIVED. bytes.Clone, bytes.Equal, wire.zag (as in chapter 3, where the document's wire stands beside). · DERIVED. The contract of wire.Reader's Num. -/
import Derived.Test.YtfnanbadbmmicaaGreatDoorY01
import Derived.Defers
namespace Go.Proofs.YtfnanbadbmmicaaGreatDoor
open Go.RowKit

/-- a call hands back a slice of its own that reads as l; nothing that was there has turned -/
def Gives (w : World) (l : List UInt8) (e : Ending) (w' : World) : Prop := ∃ p n c, e = .returned (.slice p n c) ∧ Owns w' w.heap.size (.slice p n c) l ∧ Old w w'

theorem gives {w w' : World} {l : List UInt8} {e : Ending} {v : Value} (he : e = .returned v) (ho : Owns w' w.heap.size v l) (hk : Old w w') : Gives w l e w' := by
 obtain ⟨p, c, rfl, _, _⟩ := ho.sees.len
 exact ⟨p, _, c, he, ho, hk⟩

/-- slices.Clone of bytes -/
theorem clone_any (v : Value) (l : List UInt8) (w : World) (h : Sees w v l) (hl : l.length ≤ 1000000000) :
  Calls Tryz.prog 85 #[v] w (Gives w l) := by
 obtain ⟨p, c, rfl, h1, h2, h3, h4⟩ := id h
 have hnil := eql_nil
 cases p with
 | none =>
  obtain rfl := h3 rfl
  obtain rfl : l = [] := List.eq_nil_of_length_eq_zero (by omega)
  go_enter Tryz.func85, Tryz.ntmps85
  go_wp2_with fail
  go_ret
  exact gives rfl (Owns.nil _ _) (Keeps.refl _ _)
 | some ad =>
  clear h3 h4
  go_enter Tryz.func85, Tryz.ntmps85
  go_wp2_with (at_builtin; refine wpList_append_sees rfl _ _ rfl w.heap.size (.slice (some ⟨w.heap.size, 0, none⟩) 0 0) [] rfl (Owns.lit w w.heap.size [] (Nat.le_refl _) (Nat.zero_le _)) _ l rfl (h.alloc _) (by simp; omega) (by simp) ?_; intro v' w1 ho hg)
  go_ret
  exact gives rfl ho ( ((Keeps.refl _ _).alloc _).grown hg (fun k hk => by simp [Value.ownBlock] at hk; omega))

set_option maxHeartbeats 400000 in
theorem num_any (v : Value) (l : List UInt8) (n : Nat) (w : World) (h : Sees w v l) (hl : l.length ≤ 1000000000) (hn : n < 18446744073709551616) :
  Calls Tryz.prog 58 #[v, .int .u64 n] w (Gives w (l ++ form n)) := by
 go_enter Tryz.func58, Tryz.ntmps58
 go_wp2_with fail
 go_step3
 go_wp2_with (go_at_call 85; refine (clone_any v l w h hl).mono ?_; rintro e w1 ⟨p1, n1, c1, rfl, ho, hk⟩)
 go_step3
 go_wp2_with fail
 go_loopw [1, 5] (fun v1 v5 wr => ∃ m l', v1 = .int .u64 (m : Nat) ∧ m < 18446744073709551616 ∧ Owns wr w.heap.size v5 l' ∧ Old w wr ∧ l' ++ form m = l ++ form n) (fun v1 _ _ => (intOf v1).toNat)
 case atStart => exact ⟨n, l, rfl, hn, ho, hk, rfl⟩
 case round =>
  obtain ⟨m, l', rfl, hm, ho', hk', he⟩ := hrel
  have hlen : l'.length ≤ 1000000010 := by
   have := congrArg List.length he
   simp only [List.length_append] at this
   have := form_le10 hn
   omega
  have H := Lib.hid he
  clear he ho hk
  have ha := and127_u64 hm
  have hs := hk'.size
  by_cases h0 : m < 128
  ·have hz : ((m : Int) / 128 == 0) = true := by simp; omega
   go_wp2_with (at_builtin; refine wpList_append_sees rfl _ _ rfl w.heap.size u5 l' rfl (ho'.alloc _) _ [UInt8.ofNat m] rfl (Sees.one _ _ _ ?_) (by simp; omega) (by simp; omega) ?_; rotate_left; intro v' w2 ho2 hg2)
   ·rw [Exit.noGoto_ret]
    go_ret
    refine gives rfl ?_ ((hk'.alloc _).grown hg2 (fun k hk hl => by have := ho'.block k hk; omega))
    rw [← H.out, form_lt h0]
    exact ho2
   ·exact byte_last h0
  ·have hz : ((m : Int) / 128 == 0) = false := by simp; omega
   go_wp2_with (at_builtin; refine wpList_append_sees rfl _ _ rfl w.heap.size u5 l' rfl (ho'.alloc _) _ [UInt8.ofNat (128 + m % 128)] rfl (Sees.one _ _ _ ?_) (by simp; omega) (by simp; omega) ?_; rotate_left; intro v' w2 ho2 hg2)
   ·go_roundw
    case rel => exact ⟨m / 128, _, by go_num, by omega, ho2, (hk'.alloc _).grown hg2 (fun k hk hl => by have := ho'.block k hk; omega), by have h1 := form_ge (n := m) (by omega); rw [← H.out, h1]; simp⟩
    case measure => simp [intOf]; omega
   ·exact byte_more m

theorem ret_int {k : IntKind} {a b : Int} (h : a = b) : Ending.returned (.int k a) = .returned (.int k b) := by rw [h]

theorem zig_any (z : Int) (w : World) (hz : -9223372036854775808 ≤ z ∧ z ≤ 9223372036854775807) :
  Calls Tryz.prog 105 #[.int .i64 z] w fun e w' => e = .returned (.int .u64 (zigN z)) ∧ w = w' := by
 go_enter Tryz.func105, Tryz.ntmps105
 go_wp2_with fail
 go_ret
 exact ⟨ret_int (zig_bits hz), rfl⟩

theorem int_any (v : Value) (l : List UInt8) (z : Int) (w : World) (h : Sees w v l) (hl : l.length ≤ 1000000000) (hz : -9223372036854775808 ≤ z ∧ z ≤ 9223372036854775807) :
  Calls Tryz.prog 87 #[v, .int .i64 z] w (Gives w (l ++ form (zigN z))) := by
 go_enter Tryz.func87, Tryz.ntmps87
 go_wp2_with (first | (go_at_call 105; refine (zig_any _ _ hz).mono ?_; rintro e w1 ⟨rfl, rfl⟩) | (go_at_call 58; refine (num_any v l _ w h hl (zigN_lt hz)).mono ?_; rintro e w1 ⟨p1, n1, c1, rfl, ho, hk⟩))
 go_ret
 exact gives rfl ho (hk)

theorem bytes_any (v u : Value) (l m : List UInt8) (w : World) (h : Sees w v l) (hu : Sees w u m) (hl : l.length ≤ 1000000000) (hm : m.length ≤ 1000000000) :
  Calls Tryz.prog 86 #[v, u] w (Gives w (l ++ form m.length ++ m)) := by
 obtain ⟨p, c, rfl, h1, h2, h3, h4⟩ := id hu
 clear h2 h3 h4 h1
 have h10 := form_le10 (n := m.length) (by omega)
 go_enter Tryz.func86, Tryz.ntmps86
 go_wp2_with (first | (go_at_call 58; refine (num_any v l _ w h hl (by omega)).mono ?_; rintro e w1 ⟨p1, n1, c1, rfl, ho, hk⟩) |
  (at_builtin; refine wpList_append_sees rfl _ _ rfl w.heap.size (.slice p1 n1 c1) _ rfl ho _ m rfl (hu.old hk) (by simp; omega) hk.size ?_; intro v' w2 ho2 hg2))
 go_ret
 exact gives rfl ho2 (hk.grown hg2 (fun k hk hl => by have := ho.block k hk; omega))

end Go.Proofs.YtfnanbadbmmicaaGreatDoor

namespace Go.Proofs.YtfnanbadbmmicaaGreatDoor
open Go.RowKit

theorem bytes_clone_any (v : Value) (l : List UInt8) (w : World) (h : Sees w v l) (hl : l.length ≤ 1000000000) :
  Calls Tryz.prog 31 #[v] w (Gives w l) := by
 obtain ⟨p, c, rfl, h1, h2, h3, h4⟩ := id h
 have hnil := eql_nil
 cases p with
 | none =>
  obtain rfl := h3 rfl
  obtain rfl : l = [] := List.eq_nil_of_length_eq_zero (by omega)
  go_enter Tryz.func31, Tryz.ntmps31
  go_wp2_with fail
  go_ret
  exact gives rfl (Owns.nil _ _) (Keeps.refl _ _)
 | some ad =>
  clear h3 h4
  go_enter Tryz.func31, Tryz.ntmps31
  go_wp2_with (at_builtin; refine wpList_append_sees rfl _ _ rfl w.heap.size (.slice (some ⟨w.heap.size, 0, none⟩) 0 0) [] rfl (Owns.lit w w.heap.size [] (Nat.le_refl _) (Nat.zero_le _)) _ l rfl (h.alloc _) (by simp; omega) (by simp) ?_; intro v' w1 ho hg)
  go_ret
  exact gives rfl ho ( ((Keeps.refl _ _).alloc _).grown hg (fun k hk => by simp [Value.ownBlock] at hk; omega))

theorem equal_any (v u : Value) (l m : List UInt8) (w : World) (h : Sees w v l) (hu : Sees w u m) :
  Calls Tryz.prog 72 #[v, u] w fun e w' => e = .returned (.bool (l == m)) ∧ w = w' := by
 have g1 := h.text
 have g2 := hu.text
 clear h hu
 go_enter Tryz.func72, Tryz.ntmps72
 go_wp2_with fail
 go_ret
 exact ⟨rfl, rfl⟩

theorem zag_any (m : Nat) (w : World) (hm : m < 18446744073709551616) :
  Calls Tryz.prog 130 #[.int .u64 m] w fun e w' => e = .returned (.int .i64 (zagZ m)) ∧ w = w' := by
 go_enter Tryz.func130, Tryz.ntmps130
 go_wp2_with fail
 go_ret
 refine ⟨ret_int ?_, rfl⟩
 have h := zag_bits hm
 rw [IntWalk.i64_left, IntWalk.i64_left] at h
 exact h
end Go.Proofs.YtfnanbadbmmicaaGreatDoor

namespace Go.Proofs.YtfnanbadbmmicaaGreatDoor
open Go.RowKit
/-- a reader of package wire at block rb; its bytes lie in block bb -/
def Rd (w : World) (B rb bb : Nat) (l : List UInt8) : Prop := B ≤ w.heap.size ∧
 ∃ v, w.heap[rb]? = some (.cells #[v, .bool true] 143 (0, 0)) ∧ Sees w v l ∧ l.length ≤ 1000000000 ∧ (∀ k, v.ownBlock = some k → k = bb ∧ k < B) ∧ bb ≠ rb

theorem new_any (v : Value) (l : List UInt8) (w : World) (h : Sees w v l) (hl : l.length ≤ 1000000000) :
  Calls Tryz.prog 71 #[v] w fun e w' => ∃ rb bb, e = .returned (.pointer (some ⟨rb, 0, none⟩)) ∧ Rd w' w'.heap.size rb bb l ∧ w.heap.size ≤ rb ∧ w.heap.size ≤ bb ∧ Old w w' := by
 go_enter Tryz.func71, Tryz.ntmps71
 go_wp2_with (go_at_call 31; refine (bytes_clone_any v l w h hl).mono ?_; rintro e w1 ⟨p1, n1, c1, rfl, ho, hk⟩)
 go_ret
 have hb : ∀ k, (Value.slice p1 n1 c1).ownBlock = some k → w.heap.size ≤ k ∧ k < w1.heap.size := ho.block
 by_cases hp : p1 = none
 ·subst hp
  exact ⟨_, w1.heap.size + 1, rfl, ⟨Nat.le_refl _, _, heap_alloc_new _ _, ho.sees.alloc _, hl, fun k hk => by simp [Value.ownBlock] at hk, by omega⟩, hk.size, by have := hk.size; omega, hk.alloc _⟩
 ·obtain ⟨a, rfl⟩ := Option.ne_none_iff_exists'.1 hp
  have h2 := hb a.block rfl
  exact ⟨_, a.block, rfl, ⟨Nat.le_refl _, _, heap_alloc_new _ _, ho.sees.alloc _, hl, fun k hk => by simp [Value.ownBlock] at hk; subst hk; exact ⟨rfl, by simp; omega⟩, by omega⟩, hk.size, h2.1, hk.alloc _⟩

theorem Rd.cells {w : World} {B rb bb : Nat} {l : List UInt8} (h : Rd w B rb bb l) : ∃ p c, w.cell? ⟨rb, 0, none⟩ = some (.slice p l.length c) ∧ w.cell? ⟨rb, 1, none⟩ = some (.bool true) ∧ w.frozen? ⟨rb, 0, none⟩ = false ∧ Sees w (.slice p l.length c) l ∧ l.length ≤ 1000000000 ∧ (∀ k, (Value.slice p l.length c).ownBlock = some k → k = bb ∧ k < B) ∧ bb ≠ rb := by
 obtain ⟨_, v, h1, h2, h3, h4, h5⟩ := h
 obtain ⟨p, c, rfl, _, _⟩ := h2.len
 exact ⟨p, c, by simp [World.cell?, h1], by simp [World.cell?, h1], by simp [World.frozen?, h1], h2, h3, h4, h5⟩

/-- the deferred step: behind an error the old bytes are put back -/
theorem keep_ok (rp v : Value) (eb : Nat) (u : FrameMode) (w : World) (he : w.cell? ⟨eb, 0, none⟩ = some (.int .i64 0)) :
  CallsD Tryz.prog 117 #[rp, v, .pointer (some ⟨eb, 0, none⟩)] u w fun e u' w' => u' = u ∧ (e = .returned (.tuple #[]) ∧ w' = w) := by
 go_enter_d Tryz.func117, Tryz.ntmps117
 go_wp2_with fail
 go_end0
 exact ⟨rfl, rfl⟩
theorem keep_bad (rb : Nat) (v : Value) (eb : Nat) (n : Int) (hn : (n != 0) = true) (u : FrameMode) (w : World) (he : w.cell? ⟨eb, 0, none⟩ = some (.int .i64 n)) (old : Value) (hr : w.cell? ⟨rb, 0, none⟩ = some old) (hf : w.frozen? ⟨rb, 0, none⟩ = false)
  (p : Option Addr) (m c : Nat) (hv : v = .slice p m c) :
  CallsD Tryz.prog 117 #[.pointer (some ⟨rb, 0, none⟩), v, .pointer (some ⟨eb, 0, none⟩)] u w fun e u' w' => u' = u ∧ (e = .returned (.tuple #[]) ∧ w' = w.setCell ⟨rb, 0, none⟩ v) := by
 subst hv
 go_enter_d Tryz.func117, Tryz.ntmps117
 go_wp2_with fail
 go_end0
 exact ⟨rfl, rfl⟩
end Go.Proofs.YtfnanbadbmmicaaGreatDoor

namespace Go.Proofs.YtfnanbadbmmicaaGreatDoor
open Go.RowKit

/-- what a read of a number leaves -/
def NumPost (w : World) (B rb bb : Nat) (l : List UInt8) (most : Nat) (e : Ending) (w' : World) : Prop :=
 e = .returned (.tuple #[.int .u64 (readNum l most).1, .int .i64 (readNum l most).2.1]) ∧ Rd w' B rb bb (readNum l most).2.2 ∧ Keeps (fun k => k = rb) w w'

theorem rd_of {w : World} {B rb bb : Nat} {l : List UInt8} {v : Value} (h0 : B ≤ w.heap.size) (h1 : w.heap[rb]? = some (.cells #[v, .bool true] 143 (0, 0))) (h2 : Sees w v l) (h3 : l.length ≤ 1000000000) (h4 : ∀ k, v.ownBlock = some k → k = bb ∧ k < B) (h5 : bb ≠ rb) : Rd w B rb bb l :=
 ⟨h0, v, h1, h2, h3, h4, h5⟩
theorem rd_set {w : World} {rb : Nat} {old v : Value} (h1 : w.heap[rb]? = some (.cells #[old, .bool true] 143 (0, 0))) : (w.setCell ⟨rb, 0, none⟩ v).heap[rb]? = some (.cells #[v, .bool true] 143 (0, 0)) := by
 have h := heap_setCell_same w rb 0 _ _ v h1
 simpa using h
theorem own_blk {B b o n c k : Nat} (hb : b < B) (h : (Value.slice (some ⟨b, o, none⟩) n c).ownBlock = some k) : k = b ∧ k < B := by
 simp [Value.ownBlock] at h; subst h; exact ⟨rfl, hb⟩
theorem num_results (tmps : Array Value) (eb : Nat) (x n : Int) (w : World) (h4 : tmps.getD 4 undef = .int .u64 x) (h5 : tmps.getD 5 undef = .pointer (some ⟨eb, 0, none⟩)) (hc : w.cell? ⟨eb, 0, none⟩ = some (.int .i64 n)) :
  (results Tryz.f95 tmps).run Tryz.prog w = .ok (.tuple #[.int .u64 x, .int .i64 n]) w := by
 simp only [Array.getD_eq_getD_getElem?] at h4 h5
 simp [results, Tryz.results95, go_sem, h4, h5, hc]

/-- the door behind an error: the old bytes are back -/
theorem num_door_bad {w wd : World} {B rb bb : Nat} (hB : B ≤ w.heap.size) {l : List UInt8} {most : Nat} {n : Nat} (hr : readNum l most = (0, n, l)) (hn : n ≠ 0) (old v : Value) (p : Option Addr) (m c : Nat) (hv : v = .slice p m c)
  (h1 : wd.heap[rb]? = some (.cells #[old, .bool true] 143 (0, 0))) (hs : Sees w v l) (hl : l.length ≤ 1000000000) (hb : ∀ k, v.ownBlock = some k → k = bb ∧ k < B) (hne : bb ≠ rb)
  (hk : Keeps (fun k => k = rb) w wd) (he : wd.cell? ⟨w.heap.size, 0, none⟩ = some (.int .i64 n)) (tmps : Array Value) (h4 : tmps.getD 4 undef = .int .u64 0) (h5 : tmps.getD 5 undef = .pointer (some ⟨w.heap.size, 0, none⟩))
  (hrb : rb ≠ w.heap.size) :
  Leaves Tryz.prog Tryz.f95 tmps (NumPost w B rb bb l most)
   [{ target := .fn (.func 117) #[], args := #[.pointer (some ⟨rb, 0, none⟩), v, .pointer (some ⟨w.heap.size, 0, none⟩)] }] .returning wd := by
 have hk2 : Keeps (fun k => k = rb) w (wd.setCell ⟨rb, 0, none⟩ v) := hk.setCell (fun _ => rfl) v
 refine leaves_cons (f := 117) (args := #[.pointer (some ⟨rb, 0, none⟩), v, .pointer (some ⟨w.heap.size, 0, none⟩)]) (by simp) (by simp [go_sem]) ?_
 refine (keep_bad rb v w.heap.size n (by simp; omega) .returning wd he old (by simp [World.cell?, h1]) (by simp [World.frozen?, h1]) p m c hv).mono ?_
 rintro e u' w'' ⟨rfl, rfl, rfl⟩
 refine ⟨_, num_results tmps w.heap.size 0 n _ h4 h5 ((World.cell?_setCell_other _ _ _ _ (by simp)).trans he), ?_, ?_, hk2⟩
 ·rw [hr]; rfl
 ·rw [hr]
  exact rd_of (Nat.le_trans hB hk2.size) (rd_set h1) (hs.keeps hk2 (fun k hk => by rw [(hb k hk).1]; exact hne)) hl hb hne
theorem num_door_ok {w wd : World} {B rb bb : Nat} (hB : B ≤ w.heap.size) {l r : List UInt8} {most : Nat} {x : Nat} (hr : readNum l most = (x, 0, r)) (v1 v : Value)
  (h1 : wd.heap[rb]? = some (.cells #[v1, .bool true] 143 (0, 0))) (hs : Sees wd v1 r) (hl : r.length ≤ 1000000000) (hb : ∀ k, v1.ownBlock = some k → k = bb ∧ k < B) (hne : bb ≠ rb)
  (hk : Keeps (fun k => k = rb) w wd) (he : wd.cell? ⟨w.heap.size, 0, none⟩ = some (.int .i64 0)) (tmps : Array Value) (h4 : tmps.getD 4 undef = .int .u64 x) (h5 : tmps.getD 5 undef = .pointer (some ⟨w.heap.size, 0, none⟩)) :
  Leaves Tryz.prog Tryz.f95 tmps (NumPost w B rb bb l most)
   [{ target := .fn (.func 117) #[], args := #[.pointer (some ⟨rb, 0, none⟩), v, .pointer (some ⟨w.heap.size, 0, none⟩)] }] .returning wd := by
 refine leaves_cons (f := 117) (args := #[.pointer (some ⟨rb, 0, none⟩), v, .pointer (some ⟨w.heap.size, 0, none⟩)]) (by simp) (by simp [go_sem]) ?_
 refine (keep_ok _ v w.heap.size .returning wd he).mono ?_
 rintro e u' w'' ⟨rfl, rfl, rfl⟩
 refine ⟨_, num_results tmps w.heap.size x 0 _ h4 h5 he, ?_, ?_, hk⟩
 ·rw [hr]; rfl
 ·rw [hr]
  exact rd_of (Nat.le_trans hB hk.size) h1 hs hl hb hne

set_option maxRecDepth 100000 in
set_option maxHeartbeats 1000000 in
theorem rnum_any (B rb bb : Nat) (l : List UInt8) (most : Nat) (w : World) (h : Rd w B rb bb l) (hm : most < 18446744073709551616) :
  Calls Tryz.prog 95 #[.pointer (some ⟨rb, 0, none⟩), .int .u64 most] w (NumPost w B rb bb l most) := by
 obtain ⟨hB, v0, g1, g2, g3, g4, g5⟩ := h
 obtain ⟨p, c, rfl, _, _⟩ := g2.len
 have hrb := lt_of_block g1
 have hne : rb ≠ w.heap.size := by omega
 have k1 : (w.alloc (.cells #[.int .i64 0] 27)).cell? ⟨rb, 0, none⟩ = some (.slice p l.length c) := by
  rw [World.cell?_alloc_past _ _ _ hrb]; simp [World.cell?, g1]
 have k2 : (w.alloc (.cells #[.int .i64 0] 27)).cell? ⟨rb, 1, none⟩ = some (.bool true) := by
  rw [World.cell?_alloc_past _ _ _ hrb]; simp [World.cell?, g1]
 have G := Lib.hid (And.intro g1 (And.intro g2 (And.intro g3 (And.intro g4 (And.intro g5 (And.intro hm hB))))))
 clear g1 g2 g3 g4 g5 hm hB
 go_enter_defers Tryz.func95, Tryz.ntmps95
 go_wp2_with fail
 go_loopw [4, 6, 7] (fun v4 v6 _ wr => ∃ i acc l1 v1, v6 = .int .i64 (i : Nat) ∧ v4 = .int .u64 (acc : Nat) ∧ i ≤ 9 ∧ acc < 128 ^ i ∧ scan 0 0 l = scan i acc l1 ∧
   wr.heap[rb]? = some (.cells #[v1, .bool true] 143 (0, 0)) ∧ Sees wr v1 l1 ∧ (∀ k, v1.ownBlock = some k → k = bb ∧ k < B) ∧ l1.length ≤ l.length ∧
   wr.heap[w.heap.size]? = some (.cells #[.int .i64 0] 27 (0, 0)) ∧ Keeps (fun k => k = rb) w wr) (fun _ v6 _ _ => 10 - (intOf v6).toNat)
 case atStart =>
  obtain ⟨g1, g2, g3, g4, g5, hm, hB⟩ := G.out
  exact ⟨0, 0, l, _, rfl, rfl, by omega, by decide, rfl, (heap_alloc_old _ _ hrb).trans g1, g2.alloc _, g4, Nat.le_refl _, heap_alloc_new _ _, (Keeps.refl _ _).alloc _⟩
 case round =>
  obtain ⟨i, acc, l1, v1, rfl, rfl, hi, hacc, hscan, r1, r2, r3, r4, r5, r6⟩ := hrel
  have SC := Lib.hid hscan
  clear hscan k1 k2
  have q1 : wr.cell? ⟨rb, 0, none⟩ = some v1 := by simp [World.cell?, r1]
  have q2 : wr.cell? ⟨w.heap.size, 0, none⟩ = some (.int .i64 0) := by simp [World.cell?, r5]
  have q3 : wr.frozen? ⟨rb, 0, none⟩ = false := by simp [World.frozen?, r1]
  have q4 : wr.frozen? ⟨w.heap.size, 0, none⟩ = false := by simp [World.frozen?, r5]
  cases l1 with
  | nil =>
   obtain ⟨p1, c1, rfl, _, _⟩ := r2.len
   have R := Lib.hid (And.intro r1 (And.intro r5 r6))
   clear r1 r5 r6 r2 r3
   go_wp2_with fail
   obtain ⟨r1, r5, r6⟩ := R.out
   obtain ⟨g1, g2, g3, g4, g5, hm, hB⟩ := G.out
   refine num_door_bad hB (n := 4) (read_bad SC.out (by decide)) (by decide) (.slice p1 0 c1) (.slice p l.length c) p _ c rfl ((heap_setCell_other _ _ _ _ hne).trans r1) g2 g3 g4 g5
    (r6.setCell (fun h => absurd h (by simp)) _) (by rw [World.cell?_setCell_same _ _ _ q2]; rfl) _ rfl rfl hne
  | cons ch r =>
   obtain ⟨b1, o1, c1, rfl, hc1, hc2, hc3⟩ := r2.at (by simp)
   have hch : wr.cell? ⟨b1, o1, none⟩ = some (.int .u8 ch.toNat) := hc3 0 ch (by simp)
   have hbw := (r3 b1 rfl).2
   have hnb : bb = b1 := (r3 b1 rfl).1.symm
   subst hnb
   obtain ⟨p2, c2, hsl, s1, s2⟩ := r2.from 1 (by simp) .i64 1 rfl
   simp only [List.length_cons, Nat.add_sub_cancel, List.drop_succ_cons, List.drop_zero] at s1 s2 hsl
   clear r2 r3 hc3
   have hA : (((i : Int) == 9) = true ∧ 1 < ch.toNat) ∨ (((i : Int) == 9) = true ∧ ¬ 1 < ch.toNat ∧ 0 < i ∧ ((ch.toNat : Int) == 0) = true) ∨ (((i : Int) == 9) = false ∧ 0 < i ∧ ((ch.toNat : Int) == 0) = true) ∨
     (((i : Int) == 9) = true ∧ ¬ 1 < ch.toNat ∧ 0 < i ∧ ((ch.toNat : Int) == 0) = false) ∨ (((i : Int) == 9) = false ∧ 0 < i ∧ ((ch.toNat : Int) == 0) = false) ∨ (((i : Int) == 9) = false ∧ ¬ 0 < i) := by
    simp only [beq_iff_eq, beq_eq_false_iff_ne]; omega
   have R := Lib.hid (And.intro r1 (And.intro r5 (And.intro r6 (And.intro s1 (And.intro s2 hacc)))))
   clear r1 r5 r6 s1 s2 hacc
   have ha := and127_u8 (x := ch.toNat) ch.toNat_lt
   rcases hA with ⟨t9, t1⟩ | ⟨t9, t1, t0, tz⟩ | ⟨t9, t0, tz⟩ | hB
   rotate_right
   ·have good : ¬ ((i = 9 ∧ 1 < ch.toNat) ∨ (0 < i ∧ ch.toNat = 0)) ∧ (i = 9 → ch.toNat ≤ 1) := by
     simp only [beq_iff_eq, beq_eq_false_iff_ne] at hB; omega
    have hor := or_group' (c := ch.toNat) hi (R.out.2.2.2.2.2) good.2
    have GD := Lib.hid good
    clear good
    obtain ⟨x, hx⟩ : ∃ x, x = acc + ch.toNat % 128 * 128 ^ i := ⟨_, rfl⟩
    rw [← hx] at hor
    have X := Lib.hid hx
    clear hx
    by_cases h128 : ch.toNat < 128
    ·have hsc : scan 0 0 l = (x, 0, r) := by rw [SC.out, scan_last GD.out.1 h128, X.out]
     have HSC := Lib.hid hsc
     clear hsc
     by_cases hlong : most < x
     ·rcases hB with ⟨t9, t1, t0, tz⟩ | ⟨t9, t0, tz⟩ | ⟨t9, t0⟩
      all_goals go_wp2_with fail
      all_goals obtain ⟨r1, r5, r6, s1, s2, hacc⟩ := R.out
      all_goals obtain ⟨g1, g2, g3, g4, g5, hm, hB⟩ := G.out
      all_goals refine num_door_bad hB (n := 3) (read_long HSC.out hlong) (by decide) (.slice p2 r.length c2) (.slice p l.length c) p _ c rfl ((heap_setCell_other _ _ _ _ hne).trans (rd_set r1)) g2 g3 g4 g5 ((r6.setCell (fun _ => rfl) _).setCell (fun h => absurd h (by simp)) _) (by rw [World.cell?_setCell_same _ _ _ ((World.cell?_setCell_other _ _ _ _ (by simp)).trans q2)]; rfl) _ rfl rfl hne
     ·rcases hB with ⟨t9, t1, t0, tz⟩ | ⟨t9, t0, tz⟩ | ⟨t9, t0⟩
      all_goals go_wp2_with fail
      all_goals obtain ⟨r1, r5, r6, s1, s2, hacc⟩ := R.out
      all_goals obtain ⟨g1, g2, g3, g4, g5, hm, hB⟩ := G.out
      all_goals refine num_door_ok hB (read_ok HSC.out hlong) (.slice p2 r.length c2) (.slice p l.length c) ((heap_setCell_other _ _ _ _ hne).trans (rd_set r1)) ?_ (by simp only [List.length_cons] at r4; omega) (fun k hk => own_blk hbw (s2 k hk)) g5 ((r6.setCell (fun _ => rfl) _).setCell (fun h => absurd h (by simp)) _) (by rw [World.cell?_setCell_same _ _ _ ((World.cell?_setCell_other _ _ _ _ (by simp)).trans q2)]) _ rfl rfl
      all_goals exact (s1.keeps (((Keeps.refl (fun k => k = rb ∨ k = w.heap.size) _).setCell (fun _ => .inl rfl) _).setCell (fun _ => .inr rfl) _) (fun k hk => by have := (own_blk hbw (s2 k hk)).1; have := hB; omega))
    ·rcases hB with ⟨t9, t1, t0, tz⟩ | ⟨t9, t0, tz⟩ | ⟨t9, t0⟩
     ·omega
     all_goals go_wp2_with fail
     all_goals obtain ⟨r1, r5, r6, s1, s2, hacc⟩ := R.out
     all_goals obtain ⟨g1, g2, g3, g4, g5, hm, hB⟩ := G.out
     all_goals go_roundw
     case rel => exact ⟨i + 1, x, r, _, by go_num, rfl, (by simp only [beq_eq_false_iff_ne] at t9; omega), by rw [X.out]; exact acc_lt hacc, by rw [SC.out, scan_more GD.out.1 h128, X.out], rd_set r1, s1.keeps ((Keeps.refl (fun k => k = rb) _).setCell (fun _ => rfl) _) (fun k hk => by have := (own_blk hbw (s2 k hk)).1; omega), fun k hk => own_blk hbw (s2 k hk), by simp only [List.length_cons] at r4; omega, (heap_setCell_other _ _ _ _ (by simp; omega)).trans r5, r6.setCell (fun _ => rfl) _⟩
     case measure => simp [intOf]; omega
     case rel => exact ⟨i + 1, x, r, _, by go_num, rfl, (by simp only [beq_eq_false_iff_ne] at t9; omega), by rw [X.out]; exact acc_lt hacc, by rw [SC.out, scan_more GD.out.1 h128, X.out], rd_set r1, s1.keeps ((Keeps.refl (fun k => k = rb) _).setCell (fun _ => rfl) _) (fun k hk => by have := (own_blk hbw (s2 k hk)).1; omega), fun k hk => own_blk hbw (s2 k hk), by simp only [List.length_cons] at r4; omega, (heap_setCell_other _ _ _ _ (by simp; omega)).trans r5, r6.setCell (fun _ => rfl) _⟩
     case measure => simp [intOf]; omega
   all_goals go_wp2_with fail
   all_goals obtain ⟨r1, r5, r6, s1, s2, hacc⟩ := R.out
   all_goals obtain ⟨g1, g2, g3, g4, g5, hm, hB⟩ := G.out
   all_goals refine num_door_bad hB (n := 5) ?_ (by decide) (.slice p2 r.length c2) (.slice p l.length c) p _ c rfl ((heap_setCell_other _ _ _ _ hne).trans (rd_set r1)) g2 g3 g4 g5 ((r6.setCell (fun _ => rfl) _).setCell (fun h => absurd h (by simp)) _) (by rw [World.cell?_setCell_same _ _ _ ((World.cell?_setCell_other _ _ _ _ (by simp)).trans q2)]; rfl) _ rfl rfl hne
   all_goals refine read_bad (SC.out.trans (scan_bad ?_)) (by decide)
   all_goals simp only [beq_iff_eq, beq_eq_false_iff_ne] at *
   all_goals omega
end Go.Proofs.YtfnanbadbmmicaaGreatDoor
