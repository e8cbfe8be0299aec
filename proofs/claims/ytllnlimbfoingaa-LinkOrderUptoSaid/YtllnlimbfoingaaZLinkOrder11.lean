/- DERIVED. The contract of the reference's reader's Num. · DERIVED. Chapter 20: Put, of both; Ours. · DERIVED. Chapter 20: Ours: the document's packet as the program's. -/
import Derived.Test.YtllnlimbfoingaaZLinkOrder10
import Derived.Test.YtllnlimbfoingaaZLinkOrder09
import Derived.Deep.LoopGhost
import Derived.Deep.DeepCutAuto
import Derived.BigQuiet
namespace Go.Proofs.Ytllnlimbfoingaa
open Go.RowKit

/-- a reader of the reference at block qb, what is left at the slice v -/
def Qd (w : World) (qb : Nat) (v : Value) (l : List UInt8) : Prop :=
 w.heap[qb]? = some (.cells #[v] 109 (0, 0)) ∧ Sees w v l ∧ l.length ≤ 1000000000 ∧ ∀ k, v.ownBlock = some k → k ≠ qb ∧ k < w.heap.size
/-- what a read of a number leaves -/
def QNumPost (w : World) (qb : Nat) (v : Value) (l : List UInt8) (most : Nat) (e : Ending) (w' : World) : Prop :=
 e = .returned (.tuple #[.int .u64 (readNum l most).1, .int .i64 (readNum l most).2.1]) ∧
 ∃ v', Qd w' qb v' (readNum l most).2.2 ∧ (∀ k, v'.ownBlock = some k → v.ownBlock = some k ∨ w.heap.size ≤ k) ∧ Keeps (fun k => k = qb) w w'

theorem qnum_bad {w : World} {qb : Nat} {v : Value} {l : List UInt8} {most e : Nat} (h : Qd w qb v l) (hr : readNum l most = (0, e, l)) : QNumPost w qb v l most (.returned (.tuple #[.int .u64 0, .int .i64 e])) w :=
 ⟨by rw [hr]; rfl, v, by rw [hr]; exact h, fun k hk => .inl hk, Keeps.refl _ _⟩

theorem q_set {w : World} {qb : Nat} {old v : Value} (h1 : w.heap[qb]? = some (.cells #[old] 109 (0, 0))) : (w.setCell ⟨qb, 0, none⟩ v).heap[qb]? = some (.cells #[v] 109 (0, 0)) := one_setCell h1
/-- the reader's field is set to a new slice -/
theorem q_new {w w2 : World} {qb : Nat} {v : Value} {l rest : List UInt8} (h : Qd w qb v l) (hl : rest.length ≤ 1000000000) {B : Nat} (hB : w.heap.size ≤ B) {v4 : Value} (ho : Owns w2 B v4 rest) (hk : Keeps (fun k => k = qb) w w2) (old : Value)
  (ht : w2.heap[qb]? = some (.cells #[old] 109 (0, 0))) :
  Qd (w2.setCell ⟨qb, 0, none⟩ v4) qb v4 rest ∧ (∀ k, v4.ownBlock = some k → v.ownBlock = some k ∨ w.heap.size ≤ k) ∧ Keeps (fun k => k = qb) w (w2.setCell ⟨qb, 0, none⟩ v4) := by
 have hq := lt_of_block h.1
 have hb := ho.block
 have hn : ∀ k, v4.ownBlock = some k → k ≠ qb := fun k hk' => by have := (hb k hk').1; omega
 refine ⟨⟨q_set ht, ho.sees.keeps ((Keeps.refl (fun k => k = qb) _).setCell (fun _ => rfl) _) hn, hl, fun k hk' => ⟨hn k hk', Nat.lt_of_lt_of_le (hb k hk').2 ((Keeps.refl (fun k => k = qb) w2).setCell (p := ⟨qb, 0, none⟩) (fun _ => rfl) v4).size⟩⟩, fun k hk' => .inr (by have := (hb k hk').1; omega), hk.setCell (fun _ => rfl) _⟩
theorem qnum_good {w w2 : World} {qb : Nat} {v : Value} {l rest : List UInt8} {most S : Nat} (h : Qd w qb v l) (hr : readNum l most = (S, 0, rest)) (hl : rest.length ≤ 1000000000) {p4 : Option Addr} {n4 c4 : Nat} (ho : Owns w2 w.heap.size (.slice p4 n4 c4) rest) (hk : Old w w2) :
  QNumPost w qb v l most (.returned (.tuple #[.int .u64 S, .int .i64 0])) (w2.setCell ⟨qb, 0, none⟩ (.slice p4 n4 c4)) := by
 refine ⟨by rw [hr]; rfl, .slice p4 n4 c4, ?_⟩
 rw [hr]
 exact q_new h hl (Nat.le_refl _) ho (hk.weaken (fun _ _ f => f.elim)) v ((hk.block qb (lt_of_block h.1) (fun f => f)).trans h.1)

set_option maxRecDepth 100000 in
set_option maxHeartbeats 4000000 in
theorem qnum_any (qb : Nat) (v : Value) (l : List UInt8) (most : Nat) (w : World) (h : Qd w qb v l) (hm : most < 18446744073709551616) :
  Calls Try.prog 48 #[.pointer (some ⟨qb, 0, none⟩), .int .u64 most] w (QNumPost w qb v l most) := by
 obtain ⟨g1, g2, g3, g4⟩ := id h
 obtain ⟨p, c, rfl, hc1, hc2⟩ := g2.len
 have k1 : w.cell? ⟨qb, 0, none⟩ = some (.slice p l.length c) := cell_of_one g1
 have k2 : w.frozen? ⟨qb, 0, none⟩ = false := free_of_one g1
 have hll := lead_le l
 have hat := lead_at l
 have hen := lead_end l
 have rd1 := @read_many l most
 have rd2 := @read_short l most
 have rd3 := @read_none l most
 have rd4 := @read_good l most
 generalize lead l = n at *
 have R := Lib.hid (And.intro rd1 (And.intro rd2 (And.intro @rd3 (And.intro @rd4 (And.intro hat hen)))))
 have G := Lib.hid (And.intro h (And.intro g2 (And.intro g4 hm)))
 clear g1 g2 g4 h hm rd1 rd2 rd3 rd4 hat hen
 go_enter Try.func48, Try.ntmps48
 go_wp2_with fail
 go_loop [6] (fun v6 => ∃ k : Nat, k ≤ n ∧ v6 = .int .i64 k) (fun v6 => n - (intOf v6).toNat)
 case atStart => exact ⟨0, Nat.zero_le _, rfl⟩
 case round =>
  obtain ⟨k, hk, rfl⟩ := hrel
  by_cases hlt : k < n
  ·obtain ⟨ch, h1, h2⟩ := R.out.2.2.2.2.1 k hlt
   obtain ⟨b, o, c', he, _, _, hcell⟩ := G.out.2.1.at (by omega)
   simp only [Value.slice.injEq, true_and] at he
   obtain ⟨rfl, rfl⟩ := he
   have hcc : w.cell? ⟨b, o + k, none⟩ = some (.int .u8 ch.toNat) := hcell k ch h1
   have hkl : k < l.length := by omega
   clear hcell h1
   go_wp2_with fail
   go_round
   case rel => exact ⟨k + 1, by omega, by go_num⟩
   case measure => simp [intOf]; omega
  ·obtain rfl : k = n := by omega
   clear hlt hk
   by_cases hend : k = l.length
   ·have hnl : ¬ k < l.length := by omega
    have HE := Lib.hid hend
    clear hend
    by_cases hten : 10 ≤ k
    ·go_wp2_with fail
     go_ret2
     exact qnum_bad G.out.1 (R.out.1 hten)
    ·have heq : ((k : Int) == (l.length : Int)) = true := by have := HE.out; simp; omega
     go_wp2_with fail
     go_ret2
     exact qnum_bad G.out.1 (R.out.2.1 (by omega) HE.out)
   ·obtain ⟨ch, h1, h2⟩ := R.out.2.2.2.2.2 (by omega)
    obtain ⟨b, o, c', he, _, _, hcell⟩ := G.out.2.1.at (by omega)
    simp only [Value.slice.injEq, true_and] at he
    obtain ⟨rfl, rfl⟩ := he
    have hcc : w.cell? ⟨b, o + k, none⟩ = some (.int .u8 ch.toNat) := hcell k ch h1
    have hkl : k < l.length := by omega
    have heq : ((k : Int) == (l.length : Int)) = false := by simp; omega
    have HC := Lib.hid (And.intro hcell h1)
    clear hcell h1 hend
    by_cases hten : 10 ≤ k
    ·go_wp2_with fail
     go_ret2
     exact qnum_bad G.out.1 (R.out.1 hten)
    ·have t10 : decide (10 ≤ (k : Int)) = false := by simp; omega
     have t128 : decide (128 ≤ (ch.toNat : Int)) = false := by simp; omega
     go_wp2_with fail
     go_loop [7, 8, 9] (fun v7 v8 _ => ∃ x : Int, v8 = .int .i64 x ∧ -1 ≤ x ∧ x ≤ k ∧ v7 = .int .u64 (lev ((l.take (k + 1)).drop (x + 1).toNat) : Nat) ∧ ((k = 9 ∧ 1 < ch.toNat) → x = k)) (fun _ v8 _ => (intOf v8 + 1).toNat)
     case atStart => exact ⟨k, rfl, by omega, by omega, by rw [show ((k : Int) + 1).toNat = k + 1 from by omega, List.drop_eq_nil_of_le (by simp; omega)]; rfl, fun _ => rfl⟩
     case round =>
      obtain ⟨x, rfl, hx1, hx2, rfl, hb9⟩ := hrel
      by_cases hx : 0 ≤ x
      ·obtain ⟨i, rfl⟩ := Int.eq_ofNat_of_zero_le hx
       obtain ⟨ci, hci⟩ : ∃ ci, l[i]? = some ci := ⟨l[i]'(by omega), by simp⟩
       have hcell : w.cell? ⟨b, o + i, none⟩ = some (.int .u8 ci.toNat) := HC.out.1 i ci hci
       have h1 := HC.out.2
       have hil : i < l.length := by omega
       by_cases bad : k = 9 ∧ 1 < ch.toNat
       ·obtain rfl : i = k := by have := hb9 bad; omega
        obtain rfl : ci = ch := by rw [hci] at h1; exact Option.some.inj h1
        have t9 : ((i : Int) == 9) = true := by simp; omega
        have tg : (1 : Int) < (ci.toNat : Int) % 128 := by omega
        have BB := Lib.hid bad
        clear bad hb9 h1 hci hcell
        go_wp2_with fail
        go_ret2
        exact qnum_bad G.out.1 (R.out.2.2.1 (by omega) HC.out.2 (.inl BB.out))
       ·have hst : lev ((l.take (k + 1)).drop i) = ci.toNat % 128 + 128 * lev ((l.take (k + 1)).drop (i + 1)) := lev_step _ i ci (by rw [List.getElem?_take, if_pos (by omega)]; exact hci)
        have hfit := lev_fits l k (by omega) ch h1 (by omega)
        have hle := lev_drop (l.take (k + 1)) i
        have h9 : ((i : Int) == 9) = true → ci.toNat % 128 ≤ 1 := by
         intro h
         obtain rfl : i = 9 := by simp at h; omega
         obtain rfl : k = 9 := by omega
         obtain rfl : ci = ch := by rw [hci] at h1; exact Option.some.inj h1
         omega
        rw [show ((i : Int) + 1).toNat = i + 1 from by omega]
        generalize lev ((l.take (k + 1)).drop (i + 1)) = S at *
        generalize hS' : lev ((l.take (k + 1)).drop i) = S' at *
        have hb1 : ci.toNat % 128 + 128 * S < 18446744073709551616 := by omega
        have ST := Lib.hid (And.intro hst (And.intro hS' bad))
        clear hst hS' hfit hle h1 hci bad hb9
        by_cases t9 : ((i : Int) == 9) = true
        ·have tg : ¬ (1 : Int) < (ci.toNat : Int) % 128 := by have := h9 t9; omega
         clear h9
         go_wp2_with fail
         go_round
         case rel => exact ⟨(i : Int) - 1, rfl, by omega, by omega, by rw [show ((i : Int) - 1 + 1).toNat = i from by omega, ST.out.2.1, ST.out.1]; exact congrArg (Value.int .u64) (by omega), fun h => absurd h ST.out.2.2⟩
         case measure => simp [intOf]
        ·have t9' : ((i : Int) == 9) = false := by simpa using t9
         clear h9 t9
         go_wp2_with fail
         go_round
         case rel => exact ⟨(i : Int) - 1, rfl, by omega, by omega, by rw [show ((i : Int) - 1 + 1).toNat = i from by omega, ST.out.2.1, ST.out.1]; exact congrArg (Value.int .u64) (by omega), fun h => absurd h ST.out.2.2⟩
         case measure => simp [intOf]
      ·obtain rfl : x = -1 := by omega
       have nb : ¬ (k = 9 ∧ 1 < ch.toNat) := fun h => by have := hb9 h; omega
       have h1 := HC.out.2
       rw [show ((-1 : Int) + 1).toNat = 0 from rfl, List.drop_zero]
       by_cases hz : 0 < k ∧ ch.toNat = 0
       ·have tz : ((ch.toNat : Int) == 0) = true := by simp; omega
        have hk0 := hz.1
        have HZ := Lib.hid hz
        have NB := Lib.hid nb
        clear hz nb hb9 h1
        go_wp2_with fail
        go_ret2
        exact qnum_bad G.out.1 (R.out.2.2.1 (by omega) HC.out.2 (.inr HZ.out))
       ·have hR := R.out.2.2.2.1 (by omega) h1 (by omega)
        have hfit := lev_fits l k (by omega) ch h1 (by omega)
        generalize hS : lev (l.take (k + 1)) = S at *
        have HR := Lib.hid hR
        have hk1 : k + 1 ≤ l.length := by omega
        obtain ⟨p3, c3, hs2, s3, s4⟩ := G.out.2.1.from (k + 1) hk1 .i64 ((k : Int) + 1) (by omega)
        have F := Lib.hid (And.intro s3 s4)
        clear hR nb hb9 h1 hS s3 s4
        have t0 : 0 < k ∧ ((ch.toNat : Int) == 0) = false ∨ ¬ 0 < k := by simp; omega
        clear hz
        by_cases hlong : most < S
        ·rcases t0 with ⟨t0, tz⟩ | t0
         all_goals go_wp2_with fail
         all_goals go_ret2
         all_goals exact qnum_bad G.out.1 (by rw [HR.out, if_pos hlong])
        ·rcases t0 with ⟨t0, tz⟩ | t0
         all_goals go_wp2_with (go_at_call 35; refine (own_any _ (l.drop (k + 1)) _ F.out.1 (by simp; omega)).mono ?_; rintro e w2 ⟨p4, n4, c4, rfl, ho2, hk2⟩; have hq := hk2.cf ⟨k1, k2⟩ (fun f => f); obtain ⟨hq1, hq2⟩ := hq)
         all_goals go_ret2
         all_goals exact qnum_good G.out.1 (by rw [HR.out, if_neg hlong]) (by simp; omega) ho2 hk2

def QIntPost (w : World) (qb : Nat) (v : Value) (l : List UInt8) (e : Ending) (w' : World) : Prop :=
 e = .returned (.tuple #[.int .i64 (readInt l).1, .int .i64 (readInt l).2.1]) ∧
 ∃ v', Qd w' qb v' (readInt l).2.2 ∧ (∀ k, v'.ownBlock = some k → v.ownBlock = some k ∨ w.heap.size ≤ k) ∧ Keeps (fun k => k = qb) w w'

/-- what a read of bytes leaves -/
def QBytesPost (w : World) (qb : Nat) (v : Value) (l : List UInt8) (most : Int) (e : Ending) (w' : World) : Prop :=
 ∃ p n c, e = .returned (.tuple #[.slice p n c, .int .i64 (readBytes l most).2.1]) ∧ Owns w' w.heap.size (.slice p n c) (readBytes l most).1 ∧
 ∃ v', Qd w' qb v' (readBytes l most).2.2 ∧ (∀ k, v'.ownBlock = some k → v.ownBlock = some k ∨ w.heap.size ≤ k) ∧ Keeps (fun k => k = qb) w w'
theorem qbytes_bad {w w' : World} {qb : Nat} {v : Value} {l : List UInt8} {most : Int} {e : Nat} (hr : readBytes l most = ([], e, l)) (v' : Value) (h : Qd w' qb v' l) (hv : ∀ k, v'.ownBlock = some k → v.ownBlock = some k ∨ w.heap.size ≤ k) (hk : Keeps (fun k => k = qb) w w') :
  QBytesPost w qb v l most (.returned (.tuple #[.slice none 0 0, .int .i64 e])) w' :=
 ⟨none, 0, 0, by rw [hr], by rw [hr]; exact Owns.nil _ _, v', by rw [hr]; exact h, hv, hk⟩

theorem qbytes_good {w w1 w2 w3 : World} {qb n : Nat} {v v1 : Value} {l rest : List UInt8} {most : Int} {p4 p5 : Option Addr} {n4 c4 n5 c5 : Nat} (h : Qd w qb v l) (hr : readBytes l most = (rest.take n, 0, rest.drop n)) (hl : (rest.drop n).length ≤ 1000000000)
  (h1 : Qd w1 qb v1 rest) (h3 : Keeps (fun k => k = qb) w w1) (ho2 : Owns w2 w1.heap.size (.slice p4 n4 c4) (rest.take n)) (hk2 : Old w1 w2) (ho3 : Owns w3 w2.heap.size (.slice p5 n5 c5) (rest.drop n)) (hk3 : Old w2 w3) :
  QBytesPost w qb v l most (.returned (.tuple #[.slice p4 n4 c4, .int .i64 0])) (w3.setCell ⟨qb, 0, none⟩ (.slice p5 n5 c5)) := by
 have k2 : Old w1 w3 := hk2.trans hk3
 have kk : Keeps (fun k => k = qb) w w3 := h3.then k2 (fun _ _ f => f.elim)
 have hq := lt_of_block h.1
 have hb := ho2.block
 have hs := h3.size
 have hs2 := hk2.size
 refine ⟨p4, n4, c4, by rw [hr]; rfl, ?_, .slice p5 n5 c5, ?_⟩
 ·rw [hr]
  exact ((ho2.mono hs).old hk3).keeps ((Keeps.refl (fun k => k = qb) _).setCell (fun _ => rfl) _) (fun k hk' => by have := (hb k hk').1; omega)
 ·rw [hr]
  exact q_new h hl (by omega) ho3 kk v1 ((k2.block qb (lt_of_block h1.1) (fun f => f)).trans h1.1)

set_option maxRecDepth 100000 in
set_option maxHeartbeats 4000000 in
theorem qbytes_any (qb : Nat) (v : Value) (l : List UInt8) (most : Int) (w : World) (h : Qd w qb v l) (hm : most ≤ 9223372036854775807) :
  Calls Try.prog 49 #[.pointer (some ⟨qb, 0, none⟩), .int .i64 most] w (QBytesPost w qb v l most) := by
 obtain ⟨g1, g2, g3, g4⟩ := id h
 obtain ⟨p, c, rfl, hc1, hc2⟩ := g2.len
 have k1 : w.cell? ⟨qb, 0, none⟩ = some (.slice p l.length c) := cell_of_one g1
 by_cases h0 : most < 0
 ·have H := Lib.hid h
  clear h g1 g2 g4
  go_enter Try.func49, Try.ntmps49
  go_wp2_with fail
  go_ret2
  exact qbytes_bad (by unfold readBytes; rw [if_pos h0]) _ H.out (fun k hk => .inl hk) (Keeps.refl _ _)
 ·obtain ⟨m, rfl⟩ := Int.eq_ofNat_of_zero_le (show 0 ≤ most by omega)
  have hC := qnum_any qb (.slice p l.length c) l m w h (by omega)
  have hle := readNum_le l m
  have herr := @readNum_bad l m
  have hrl := readNum_rest l m
  have hmb : (m : Int) ≤ 9223372036854775807 := hm
  obtain ⟨n, hn⟩ : ∃ n, n = (readNum l m).1 := ⟨_, rfl⟩
  obtain ⟨er, her⟩ : ∃ n, n = (readNum l m).2.1 := ⟨_, rfl⟩
  obtain ⟨rest, hrest⟩ : ∃ n, n = (readNum l m).2.2 := ⟨_, rfl⟩
  have hrb' : readBytes l (m : Int) = if er ≠ 0 then ([], er, l) else if rest.length < n then ([], 4, l) else (rest.take n, 0, rest.drop n) := by
   unfold readBytes; rw [if_neg h0, Int.toNat_natCast, hn, her, hrest]
  unfold QNumPost at hC
  rw [← hn, ← her, ← hrest] at hC
  rw [← hn, ← her, ← hrest] at herr
  rw [← hn] at hle
  rw [← hrest] at hrl
  have HC := Lib.hid hC
  have HB := Lib.hid (And.intro hrb' (And.intro hle (And.intro herr (And.intro h (And.intro g2 g4)))))
  clear hC hrb' hle herr hn her hrest hm h g1 g2 g4
  by_cases e0 : er = 0
  ·subst e0
   by_cases hfit : rest.length < n
   ·go_enter Try.func49, Try.ntmps49
    go_wp2_with fail
    refine HC.out.mono ?_
    rintro e w1 ⟨rfl, v1, h1, h2, h3⟩
    obtain ⟨q1, q2, q3, q4⟩ := id h1
    obtain ⟨p1, c1, rfl, _, _⟩ := q2.len
    have k3 : w1.cell? ⟨qb, 0, none⟩ = some (.slice p1 rest.length c1) := cell_of_one q1
    have k4 : w1.frozen? ⟨qb, 0, none⟩ = false := free_of_one q1
    have H := Lib.hid (And.intro h1 (And.intro h2 h3))
    clear h1 h2 h3 q1 q2 q4
    go_wp2_with fail
    go_ret2
    obtain ⟨h1, h2, h3⟩ := H.out
    have hk := h3.setCell (p := ⟨qb, 0, none⟩) (fun _ => rfl) (.slice p l.length c)
    refine qbytes_bad (by rw [HB.out.1, if_neg (by simp), if_pos hfit]) (.slice p l.length c) ⟨q_set h1.1, HB.out.2.2.2.2.1.keeps hk (fun k hk => (HB.out.2.2.2.2.2 k hk).1), g3, fun k hk' => ⟨(HB.out.2.2.2.2.2 k hk').1, Nat.lt_of_lt_of_le (HB.out.2.2.2.2.2 k hk').2 hk.size⟩⟩ (fun k hk => .inl hk) hk
   ·go_enter Try.func49, Try.ntmps49
    go_wp2_with fail
    refine HC.out.mono ?_
    rintro e w1 ⟨rfl, v1, h1, h2, h3⟩
    obtain ⟨q1, q2, q3, q4⟩ := id h1
    obtain ⟨p1, c1, rfl, _, _⟩ := q2.len
    have k3 : w1.cell? ⟨qb, 0, none⟩ = some (.slice p1 rest.length c1) := cell_of_one q1
    have k4 : w1.frozen? ⟨qb, 0, none⟩ = false := free_of_one q1
    have hn : n ≤ rest.length := by omega
    obtain ⟨p2, c2, hs1, s1, s2⟩ := q2.upto n hn .u64 n rfl
    obtain ⟨p3, c3, hs2, s3, s4⟩ := q2.from n hn .u64 n rfl
    have H := Lib.hid (And.intro h1 (And.intro h2 (And.intro h3 (And.intro s1 s3))))
    clear h1 h2 h3 q1 q2 q4 s1 s2 s3 s4
    go_wp2_with fail
    refine (own_any _ (rest.take n) _ H.out.2.2.2.1 (by simp; omega)).mono ?_
    rintro e w2 ⟨p4, n4, c4, rfl, ho2, hk2⟩
    obtain ⟨hq1, hq2⟩ := hk2.cf ⟨k3, k4⟩ (fun f => f)
    have H2 := Lib.hid (And.intro ho2 hk2)
    clear ho2 hk2
    go_wp2_with fail
    refine (own_any _ (rest.drop n) _ (H.out.2.2.2.2.old H2.out.2) (by simp; omega)).mono ?_
    rintro e w3 ⟨p5, n5, c5, rfl, ho3, hk3⟩
    obtain ⟨hr1, hr2⟩ := hk3.cf ⟨hq1, hq2⟩ (fun f => f)
    have H3 := Lib.hid (And.intro ho3 hk3)
    clear ho3 hk3
    go_wp2_with fail
    go_ret2
    exact qbytes_good HB.out.2.2.2.1 (by rw [HB.out.1, if_neg (by simp), if_neg hfit]) (by simp; omega) H.out.1 H.out.2.2.1 H2.out.1 H2.out.2 H3.out.1 H3.out.2
  ·have hd : ((er : Int) != 0) = true := by simp; omega
   go_enter Try.func49, Try.ntmps49
   go_wp2_with fail
   refine HC.out.mono ?_
   rintro e w1 ⟨rfl, v1, h1, h2, h3⟩
   have H := Lib.hid (And.intro h1 (And.intro h2 h3))
   clear h1 h2 h3
   go_wp2_with fail
   go_ret2
   obtain ⟨h1, h2, h3⟩ := H.out
   rw [(HB.out.2.2.1 e0).2] at h1
   exact qbytes_bad (by rw [HB.out.1, if_pos e0]) v1 h1 h2 h3
end Go.Proofs.Ytllnlimbfoingaa

namespace Go.Proofs.Ytllnlimbfoingaa
open Go.RowKit

/-- a packet that can be laid -/
def PkIn (p : Pv) : Prop := p.src < 18446744073709551616 ∧ p.dst < 18446744073709551616 ∧ p.seq < 18446744073709551616 ∧ p.ack < 18446744073709551616 ∧ p.d.length ≤ 10000000
theorem PkIn.small {p : Pv} (h : PkIn p) : p.plain.small := ⟨h.1, h.2.1, h.2.2.1, h.2.2.2.1⟩

set_option maxRecDepth 100000 in
set_option maxHeartbeats 1000000 in
theorem rput_any (p : Pv) (w : World) (hs : Sees w p.v p.d) (hp : PkIn p) : Calls Try.prog 32 #[.agg p.cells.toArray] w (Gives w (encP p.plain)) := by
 obtain ⟨pv, cv, hv, _, _⟩ := hs.len
 obtain ⟨p0, p1, p2, p3, v, d⟩ := p
 simp only at hv hs
 subst hv
 obtain ⟨h1, h2, h3, h4, hd⟩ : p0 < 18446744073709551616 ∧ p1 < 18446744073709551616 ∧ p2 < 18446744073709551616 ∧ p3 < 18446744073709551616 ∧ d.length ≤ 10000000 := hp
 have f1 := form_le10 h1
 have f2 := form_le10 h2
 have f3 := form_le10 h3
 have f4 := form_le10 h4
 obtain ⟨w1, hw1⟩ : ∃ w1, w.alloc (.cells #[.int .u64 (p0 : Int), .int .u64 (p1 : Int), .int .u64 (p2 : Int), .int .u64 (p3 : Int), .slice pv d.length cv] 34) = w1 := ⟨_, rfl⟩
 have o1 : Old w w1 := by rw [← hw1]; exact (Keeps.refl _ _).alloc _
 have b1 : w1.heap[w.heap.size]? = some (.cells #[.int .u64 (p0 : Int), .int .u64 (p1 : Int), .int .u64 (p2 : Int), .int .u64 (p3 : Int), .slice pv d.length cv] 34 (0, 0)) := by rw [← hw1]; exact heap_alloc_new _ _
 have s1 := hs.old o1
 obtain ⟨⟨c0, -, -, -, -⟩, -⟩ := blk5 b1
 have H := Lib.hid (And.intro h1 (And.intro h2 (And.intro h3 (And.intro h4 (And.intro hd (And.intro f1 (And.intro f2 (And.intro f3 f4))))))))
 have W1 := Lib.hid (And.intro o1 (And.intro b1 s1))
 clear h1 h2 h3 h4 hd f1 f2 f3 f4 hs o1 b1 s1
 simp only [Pv.cells]
 go_enter Try.func32, Try.ntmps32
 go_wp2_with fail
 refine (ref_num_any _ [] p0 _ (Sees.nil _) (by simp) H.out.1).mono ?_
 rintro e w2 ⟨q2, n2, e2, rfl, ho, hk⟩
 obtain ⟨⟨-, c1, -, -, -⟩, -⟩ := blk5 ((hk.block _ (lt_of_block W1.out.2.1) (fun f => f)).trans W1.out.2.1)
 have W2 := Lib.hid (And.intro (W1.out.1.trans hk) (And.intro ((hk.block _ (lt_of_block W1.out.2.1) (fun f => f)).trans W1.out.2.1) (And.intro (W1.out.2.2.old hk) ho)))
 clear W1 ho hk c0
 go_wp2_with fail
 refine (ref_num_any _ _ p1 _ W2.out.2.2.2.sees (by have := H.out; simp; omega) H.out.2.1).mono ?_
 rintro e w3 ⟨q3, n3, e3, rfl, ho, hk⟩
 obtain ⟨⟨-, -, c2, -, -⟩, -⟩ := blk5 ((hk.block _ (lt_of_block W2.out.2.1) (fun f => f)).trans W2.out.2.1)
 have W3 := Lib.hid (And.intro (W2.out.1.trans hk) (And.intro ((hk.block _ (lt_of_block W2.out.2.1) (fun f => f)).trans W2.out.2.1) (And.intro (W2.out.2.2.1.old hk) ho)))
 clear W2 ho hk c1
 go_wp2_with fail
 refine (ref_num_any _ _ p2 _ W3.out.2.2.2.sees (by have := H.out; simp; omega) H.out.2.2.1).mono ?_
 rintro e w4 ⟨q4, n4, e4, rfl, ho, hk⟩
 obtain ⟨⟨-, -, -, c3, -⟩, -⟩ := blk5 ((hk.block _ (lt_of_block W3.out.2.1) (fun f => f)).trans W3.out.2.1)
 have W4 := Lib.hid (And.intro (W3.out.1.trans hk) (And.intro ((hk.block _ (lt_of_block W3.out.2.1) (fun f => f)).trans W3.out.2.1) (And.intro (W3.out.2.2.1.old hk) ho)))
 clear W3 ho hk c2
 go_wp2_with fail
 refine (ref_num_any _ _ p3 _ W4.out.2.2.2.sees (by have := H.out; simp; omega) H.out.2.2.2.1).mono ?_
 rintro e w5 ⟨q5, n5, e5, rfl, ho, hk⟩
 obtain ⟨⟨-, -, -, -, c4⟩, -⟩ := blk5 ((hk.block _ (lt_of_block W4.out.2.1) (fun f => f)).trans W4.out.2.1)
 have W5 := Lib.hid (And.intro (W4.out.1.trans hk) (And.intro (W4.out.2.2.1.old hk) ho))
 clear W4 ho hk c3
 go_wp2_with fail
 refine (ref_bytes_any _ _ _ d _ W5.out.2.2.sees W5.out.2.1 (by have := H.out; simp; omega) (by have := H.out; omega)).mono ?_
 rintro e w6 ⟨q6, n6, e6, rfl, ho, hk⟩
 have W6 := Lib.hid (And.intro (W5.out.1.trans hk) (And.intro ho W5.out.1.size))
 clear W5 ho hk c4
 go_wp2_with fail
 go_ret
 refine gives rfl ?_ W6.out.1
 have := W6.out.2.1.mono W6.out.2.2
 simpa [encP, Pv.plain] using this

theorem flat_le (ns : List Nat) (h : ∀ n ∈ ns, n < 18446744073709551616) : ((ns.map form).flatten).length ≤ 10 * ns.length := by
 induction ns with
 | nil => simp
 | cons n ns ih =>
  have h1 := form_le10 (h n (by simp))
  have h2 := ih (fun m hm => h m (List.mem_cons_of_mem _ hm))
  simp only [List.map_cons, List.flatten_cons, List.length_append, List.length_cons]
  omega
theorem take_next (ns : List Nat) (k n : Nat) (h : ns[k]? = some n) : ((ns.take (k + 1)).map form).flatten = ((ns.take k).map form).flatten ++ form n := by
 rw [List.take_add_one, h]
 simp
set_option maxRecDepth 100000 in
set_option maxHeartbeats 1000000 in
theorem put_any (p : Pv) (w : World) (hs : Sees w p.v p.d) (hp : PkIn p) : Calls Try.prog 29 #[.agg p.cells.toArray] w (Gives w (encP p.plain)) := by
 obtain ⟨pv, cv, hv, _, _⟩ := hs.len
 obtain ⟨p0, p1, p2, p3, v, d⟩ := p
 simp only at hv hs
 subst hv
 obtain ⟨h1, h2, h3, h4, hd⟩ : p0 < 18446744073709551616 ∧ p1 < 18446744073709551616 ∧ p2 < 18446744073709551616 ∧ p3 < 18446744073709551616 ∧ d.length ≤ 10000000 := hp
 obtain ⟨w1, hw1⟩ : ∃ w1, w.alloc (.cells #[.int .u64 (p0 : Int), .int .u64 (p1 : Int), .int .u64 (p2 : Int), .int .u64 (p3 : Int), .slice pv d.length cv] 37) = w1 := ⟨_, rfl⟩
 have o1 : Old w w1 := by rw [← hw1]; exact (Keeps.refl _ _).alloc _
 have b1 : w1.heap[w.heap.size]? = some (.cells #[.int .u64 (p0 : Int), .int .u64 (p1 : Int), .int .u64 (p2 : Int), .int .u64 (p3 : Int), .slice pv d.length cv] 37 (0, 0)) := by rw [← hw1]; exact heap_alloc_new _ _
 obtain ⟨w2, hw2⟩ : ∃ w2, w1.alloc (.cells #[.int .u64 (p0 : Int), .int .u64 (p1 : Int), .int .u64 (p2 : Int), .int .u64 (p3 : Int)] 22) = w2 := ⟨_, rfl⟩
 have o2 : Old w1 w2 := by rw [← hw2]; exact (Keeps.refl _ _).alloc _
 have hrow : ∀ (k n : Nat), [p0, p1, p2, p3][k]? = some n → w2.cell? ⟨w1.heap.size, k, none⟩ = some (.int .u64 (n : Int)) := by
  intro k n hn
  rw [← hw2, World.cell?_alloc_at _ _ _ _ rfl]
  rcases k with _ | _ | _ | _ | k <;> simp_all
 obtain ⟨⟨c0, c1, c2, c3, c4⟩, -⟩ := blk5 b1
 have s2 := (hs.old o1).old o2
 have b2 := (o2.block _ (lt_of_block b1) (fun f => f)).trans b1
 have hns : ∀ n ∈ [p0, p1, p2, p3], n < 18446744073709551616 := by
  intro n hn
  simp only [List.mem_cons, List.not_mem_nil, or_false] at hn
  rcases hn with rfl | rfl | rfl | rfl <;> assumption
 have H := Lib.hid (And.intro hns hd)
 have W2 := Lib.hid (And.intro (o1.trans o2) (And.intro b2 (And.intro s2 (And.intro hrow (And.intro o1.size o2.size)))))
 clear h1 h2 h3 h4 hd hs o1 b1 s2 o2 b2 hrow hns
 simp only [Pv.cells]
 go_enter Try.func29, Try.ntmps29
 go_wp2_with fail
 go_loopg [3, 16] 4 (fun n v3 i wm => ∃ k : Nat, k ≤ 4 ∧ n = 4 - k ∧ i = .int .i64 (k : Int) ∧ Sees wm v3 ((([p0, p1, p2, p3].take k).map form).flatten) ∧ Old w2 wm)
 case atStart => exact ⟨0, by omega, rfl, rfl, Sees.nil _, Keeps.refl _ _⟩
 case round =>
  obtain ⟨k, hk4, rfl, rfl, hsee, hkr⟩ := hrel
  by_cases hlt : k < 4
  ·obtain ⟨n, hn⟩ : ∃ n, [p0, p1, p2, p3][k]? = some n := ⟨_, List.getElem?_eq_getElem (by simpa using hlt)⟩
   have d0 := hkr.cell (W2.out.2.2.2.1 k n hn) (fun f => f)
   have b1 : (k : Int) < 4 := by omega
   have hnl : n < 18446744073709551616 := H.out.1 n (List.mem_of_getElem? hn)
   have hfl := flat_le ([p0, p1, p2, p3].take k) (fun m hm => H.out.1 m (List.mem_of_mem_take hm))
   have hll : ((([p0, p1, p2, p3].take k).map form).flatten).length ≤ 1000000000 := by
    have : ([p0, p1, p2, p3].take k).length ≤ 4 := by rw [List.length_take]; simp; omega
    omega
   have HH := Lib.hid (And.intro hsee (And.intro hkr (And.intro hn (And.intro hnl hll))))
   clear hsee hkr hn hnl hll hfl
   go_wp2_with fail
   refine (num_any _ _ n wr HH.out.1 HH.out.2.2.2.2 HH.out.2.2.2.1).mono ?_
   rintro e w3 ⟨q3, n3, e3, rfl, ho, hk⟩
   have W3 := Lib.hid (And.intro ho.sees (HH.out.2.1.trans hk))
   clear ho hk
   go_wp2_with fail
   go_roundg (4 - (k + 1))
   case measure => omega
   case rel => exact ⟨k + 1, by omega, rfl, by go_num, by rw [take_next _ _ _ HH.out.2.2.1]; exact W3.out.1, W3.out.2⟩
  ·obtain rfl : k = 4 := by omega
   obtain ⟨⟨-, -, -, -, c4⟩, -⟩ := blk5 ((hkr.block _ (lt_of_block W2.out.2.1) (fun f => f)).trans W2.out.2.1)
   have K := Lib.hid (And.intro hsee (And.intro (W2.out.2.2.1.old hkr) (W2.out.1.trans hkr)))
   clear hsee hkr
   go_wp2_with fail
   refine (bytes_any _ _ _ d wr K.out.1 K.out.2.1 ?_ (by have := H.out.2; omega)).mono ?_
   ·have := flat_le [p0, p1, p2, p3] H.out.1
    exact Nat.le_trans this (by simp)
   rintro e w6 ⟨q6, n6, e6, rfl, ho, hk⟩
   have W6 := Lib.hid (And.intro (K.out.2.2.trans hk) (And.intro ho K.out.2.2.size))
   clear ho hk
   go_wp2_with fail
   go_ret
   refine gives rfl ?_ W6.out.1
   have := W6.out.2.1.mono W6.out.2.2
   simpa [encP, Pv.plain] using this
end Go.Proofs.Ytllnlimbfoingaa

namespace Go.Proofs.Ytllnlimbfoingaa
open Go.RowKit
set_option maxRecDepth 100000 in
set_option maxHeartbeats 1000000 in
theorem ours_own (p : Pv) (w : World) (hs : Sees w p.v p.d) (hd : p.d.length ≤ 140737488355328) : Calls Try.prog 11 #[.agg p.cells.toArray] w fun e w' => ∃ q : Pv, e = .returned (.agg q.cells.toArray) ∧ q.plain = p.plain ∧ Owns w' w.heap.size q.v q.d ∧ Old w w' := by
 obtain ⟨pv, cv, hv, _, _⟩ := hs.len
 obtain ⟨p0, p1, p2, p3, v, d⟩ := p
 simp only at hv hs hd
 subst hv
 obtain ⟨w1, hw1⟩ : ∃ w1, (w.alloc (.cells #[.int .u64 (p0 : Int), .int .u64 (p1 : Int), .int .u64 (p2 : Int), .int .u64 (p3 : Int), .slice pv d.length cv] 34)).alloc (.cells #[.int .u64 0, .int .u64 0, .int .u64 0, .int .u64 0, .slice none 0 0] 37) = w1 := ⟨_, rfl⟩
 have o1 : Old w w1 := by rw [← hw1]; exact ((Keeps.refl _ _).alloc _).alloc _
 have b0 : w1.heap[w.heap.size]? = some (.cells #[.int .u64 (p0 : Int), .int .u64 (p1 : Int), .int .u64 (p2 : Int), .int .u64 (p3 : Int), .slice pv d.length cv] 34 (0, 0)) := by
  rw [← hw1, heap_alloc_old _ _ (by simp)]; exact heap_alloc_new _ _
 have b1 : w1.heap[w.heap.size + 1]? = some (.cells #[.int .u64 0, .int .u64 0, .int .u64 0, .int .u64 0, .slice none 0 0] 37 (0, 0)) := by
  rw [← hw1]
  have := heap_alloc_new (w.alloc (.cells #[.int .u64 (p0 : Int), .int .u64 (p1 : Int), .int .u64 (p2 : Int), .int .u64 (p3 : Int), .slice pv d.length cv] 34)) (.cells #[.int .u64 0, .int .u64 0, .int .u64 0, .int .u64 0, .slice none 0 0] 37)
  simpa using this
 obtain ⟨⟨c0, c1, c2, c3, c4⟩, -⟩ := blk5 b0
 have hS : w1.drew.cell? ⟨w.heap.size, 0, none⟩ = some (.int .u64 (p0 : Int)) ∧ w1.drew.cell? ⟨w.heap.size, 1, none⟩ = some (.int .u64 (p1 : Int)) ∧ w1.drew.cell? ⟨w.heap.size, 2, none⟩ = some (.int .u64 (p2 : Int)) ∧ w1.drew.cell? ⟨w.heap.size, 3, none⟩ = some (.int .u64 (p3 : Int)) ∧ w1.drew.cell? ⟨w.heap.size, 4, none⟩ = some (.slice pv d.length cv) := ⟨c0, c1, c2, c3, c4⟩
 have C := Lib.hid (own20 (.slice pv d.length cv) d w1.drew (hs.old o1.drew) hd)
 have H := Lib.hid (And.intro o1 b1)
 clear hs o1 b0 b1 c0 c1 c2 c3 c4
 simp only [Pv.cells]
 go_enter Try.func11, Try.ntmps11
 go_wp2_with fail
 refine wp_region_g (S := fun w' => w'.cell? ⟨w.heap.size, 0, none⟩ = some (.int .u64 (p0 : Int)) ∧ w'.cell? ⟨w.heap.size, 1, none⟩ = some (.int .u64 (p1 : Int)) ∧ w'.cell? ⟨w.heap.size, 2, none⟩ = some (.int .u64 (p2 : Int)) ∧ w'.cell? ⟨w.heap.size, 3, none⟩ = some (.int .u64 (p3 : Int)) ∧ w'.cell? ⟨w.heap.size, 4, none⟩ = some (.slice pv d.length cv)) (M := [0, 1, 2, 3, 4, 5, 6, 7, 8, 9, 10, 11]) (by kernel_rfl) ?_
 refine wpAnyG_takeL (i := 0) (oi := _) (v := ?vt0) rfl (by kernel_rfl) (by kernel_rfl) (by kernel_rfl) (by kernel_rfl) (fun _ _ _ h => h) (Or.inl ⟨by rfl, ?yt0⟩) hS ?rt0
 case yt0 => (intro W hSw; obtain ⟨y0, y1, y2, y3, y4⟩ := hSw; go_simp; try with_reducible rfl)
 try simp only [Act.put, List.setIfInBounds_toArray, List.set_cons_zero, List.set_cons_succ]
 refine wpAnyG_takeL (i := 1) (oi := _) (v := ?vt1) rfl (by kernel_rfl) (by kernel_rfl) (by kernel_rfl) (by kernel_rfl) (fun _ _ _ h => h) (Or.inl ⟨by rfl, ?yt1⟩) hS ?rt1
 case yt1 => (intro W hSw; obtain ⟨y0, y1, y2, y3, y4⟩ := hSw; go_simp; try with_reducible rfl)
 try simp only [Act.put, List.setIfInBounds_toArray, List.set_cons_zero, List.set_cons_succ]
 refine wpAnyG_takeL (i := 2) (oi := _) (v := ?vt2) rfl (by kernel_rfl) (by kernel_rfl) (by kernel_rfl) (by kernel_rfl) (fun _ _ _ h => h) (Or.inl ⟨by rfl, ?yt2⟩) hS ?rt2
 case yt2 => (intro W hSw; obtain ⟨y0, y1, y2, y3, y4⟩ := hSw; go_simp; try with_reducible rfl)
 try simp only [Act.put, List.setIfInBounds_toArray, List.set_cons_zero, List.set_cons_succ]
 refine wpAnyG_takeL (i := 3) (oi := _) (v := ?vt3) rfl (by kernel_rfl) (by kernel_rfl) (by kernel_rfl) (by kernel_rfl) (fun _ _ _ h => h) (Or.inl ⟨by rfl, ?yt3⟩) hS ?rt3
 case yt3 => (intro W hSw; obtain ⟨y0, y1, y2, y3, y4⟩ := hSw; go_simp; try with_reducible rfl)
 try simp only [Act.put, List.setIfInBounds_toArray, List.set_cons_zero, List.set_cons_succ]
 refine wpAnyG_takeL (i := 4) (oi := _) (v := ?vt4) rfl (by kernel_rfl) (by kernel_rfl) (by kernel_rfl) (by kernel_rfl) (fun _ _ _ h => h) (Or.inl ⟨by rfl, ?yt4⟩) hS ?rt4
 case yt4 => (intro W hSw; obtain ⟨y0, y1, y2, y3, y4⟩ := hSw; go_simp; try with_reducible rfl)
 try simp only [Act.put, List.setIfInBounds_toArray, List.set_cons_zero, List.set_cons_succ]
 refine wpAnyG_takeL (i := 5) (oi := _) (v := ?vt5) rfl (by kernel_rfl) (by kernel_rfl) (by kernel_rfl) (by kernel_rfl) (fun _ _ _ h => h) (Or.inl ⟨by rfl, ?yt5⟩) hS ?rt5
 case yt5 => (intro W hSw; obtain ⟨y0, y1, y2, y3, y4⟩ := hSw; go_simp; try with_reducible rfl)
 try simp only [Act.put, List.setIfInBounds_toArray, List.set_cons_zero, List.set_cons_succ]
 refine wpAnyG_takeL (i := 6) (oi := _) (v := ?vt6) rfl (by kernel_rfl) (by kernel_rfl) (by kernel_rfl) (by kernel_rfl) (fun _ _ _ h => h) (Or.inl ⟨by rfl, ?yt6⟩) hS ?rt6
 case yt6 => (intro W hSw; obtain ⟨y0, y1, y2, y3, y4⟩ := hSw; go_simp; try with_reducible rfl)
 try simp only [Act.put, List.setIfInBounds_toArray, List.set_cons_zero, List.set_cons_succ]
 refine wpAnyG_takeL (i := 7) (oi := _) (v := ?vt7) rfl (by kernel_rfl) (by kernel_rfl) (by kernel_rfl) (by kernel_rfl) (fun _ _ _ h => h) (Or.inl ⟨by rfl, ?yt7⟩) hS ?rt7
 case yt7 => (intro W hSw; obtain ⟨y0, y1, y2, y3, y4⟩ := hSw; go_simp; try with_reducible rfl)
 try simp only [Act.put, List.setIfInBounds_toArray, List.set_cons_zero, List.set_cons_succ]
 refine wpAnyG_takeL (i := 8) (oi := _) (v := ?vt8) rfl (by kernel_rfl) (by kernel_rfl) (by kernel_rfl) (by kernel_rfl) (fun _ _ _ h => h) (Or.inl ⟨by rfl, ?yt8⟩) hS ?rt8
 case yt8 => (intro W hSw; obtain ⟨y0, y1, y2, y3, y4⟩ := hSw; go_simp; try with_reducible rfl)
 try simp only [Act.put, List.setIfInBounds_toArray, List.set_cons_zero, List.set_cons_succ]
 refine wpAnyG_takeL (i := 9) (oi := _) (v := ?vt9) rfl (by kernel_rfl) (by kernel_rfl) (by kernel_rfl) (by kernel_rfl) (fun _ _ _ h => h) (Or.inl ⟨by rfl, ?yt9⟩) hS ?rt9
 case yt9 => (intro W hSw; obtain ⟨y0, y1, y2, y3, y4⟩ := hSw; go_simp; try with_reducible rfl)
 try simp only [Act.put, List.setIfInBounds_toArray, List.set_cons_zero, List.set_cons_succ]
 refine wpAnyG_onlyL (i := 10) (o := _) (by kernel_rfl) rfl (fun K hK => ?_)
 go_simp
 refine C.out.mono ?_
 rintro e w2 ⟨p2', n2, c2, rfl, ho2, hk2⟩
 have hS2 : w2.cell? ⟨w.heap.size, 0, none⟩ = some (.int .u64 (p0 : Int)) ∧ w2.cell? ⟨w.heap.size, 1, none⟩ = some (.int .u64 (p1 : Int)) ∧ w2.cell? ⟨w.heap.size, 2, none⟩ = some (.int .u64 (p2 : Int)) ∧ w2.cell? ⟨w.heap.size, 3, none⟩ = some (.int .u64 (p3 : Int)) ∧ w2.cell? ⟨w.heap.size, 4, none⟩ = some (.slice pv d.length cv) := ⟨hk2.cell hS.1 (fun f => f), hk2.cell hS.2.1 (fun f => f), hk2.cell hS.2.2.1 (fun f => f), hk2.cell hS.2.2.2.1 (fun f => f), hk2.cell hS.2.2.2.2 (fun f => f)⟩
 have b2 : w2.heap[w.heap.size + 1]? = _ := (hk2.block (w.heap.size + 1) (by have := (Array.getElem?_eq_some_iff.1 H.out.2).1; exact this) (fun f => f)).trans (show w1.drew.heap[w.heap.size + 1]? = _ from H.out.2)
 obtain ⟨⟨z0, z1, z2, z3, z4⟩, ⟨y0, y1, y2, y3, y4⟩⟩ := blk5 b2
 have F := Lib.hid (And.intro ho2 (And.intro hk2 b2))
 clear ho2 hk2 b2
 go_wp2_with fail
 refine hK.out _ _ (fun _ => hS2) ?_
 clear hK K
 try simp only [Act.put, List.setIfInBounds_toArray, List.set_cons_zero, List.set_cons_succ]
 refine wpAnyG_onlyL (i := 11) (o := _) (by kernel_rfl) rfl (fun K hK => ?_)
 go_simp
 refine hK.out _ _ (fun _ => hS2) ?_
 clear hK K
 try simp only [Act.put, List.setIfInBounds_toArray, List.set_cons_zero, List.set_cons_succ]
 refine wpAnyG_onlyL (i := 12) (o := _) (by kernel_rfl) rfl (fun K hK => ?_)
 go_simp
 refine hK.out _ _ (fun h => absurd h (by decide)) ?_
 clear hK K
 try simp only [Act.put, List.setIfInBounds_toArray, List.set_cons_zero, List.set_cons_succ]
 refine wpAnyG_done (by kernel_rfl) ?_ _
 have k3 : Keeps (fun k => k = w.heap.size + 1) w2 (((((w2.setCell ⟨w.heap.size + 1, 0, none⟩ (.int .u64 (p0 : Int))).setCell ⟨w.heap.size + 1, 1, none⟩ (.int .u64 (p1 : Int))).setCell ⟨w.heap.size + 1, 2, none⟩ (.int .u64 (p2 : Int))).setCell ⟨w.heap.size + 1, 3, none⟩ (.int .u64 (p3 : Int))).setCell ⟨w.heap.size + 1, 4, none⟩ (.slice p2' n2 c2)) := setAt (setAt (setAt (setAt (setAt (Keeps.refl _ _) 0 _) 1 _) 2 _) 3 _) 4 _
 have K3 := Lib.hid k3
 clear k3
 go_wp2_with fail
 refine bodyPost_ret (v := .agg #[.int .u64 (p0 : Int), .int .u64 (p1 : Int), .int .u64 (p2 : Int), .int .u64 (p3 : Int), .slice p2' n2 c2]) (by simp [results, Try.results11, go_sem, z0, z1, z2, z3, z4]) rfl ?_
 have hz : w.heap.size + 1 < w1.drew.heap.size := (Array.getElem?_eq_some_iff.1 H.out.2).1
 refine ⟨⟨p0, p1, p2, p3, .slice p2' n2 c2, d⟩, rfl, rfl, (F.out.1.keeps K3.out (fun b hb e => ?_)).mono H.out.1.size, ((H.out.1.drew).trans F.out.2.1).then K3.out (fun i hi e => by omega)⟩
 have := (F.out.1.block b hb).1
 omega
theorem ours_any (p : Pv) (w : World) (hs : Sees w p.v p.d) (hd : p.d.length ≤ 140737488355328) : Calls Try.prog 11 #[.agg p.cells.toArray] w fun e w' => ∃ q : Pv, e = .returned (.agg q.cells.toArray) ∧ q.plain = p.plain ∧ Sees w' q.v q.d ∧ Old w w' := by
 refine (ours_own p w hs hd).mono ?_
 rintro e w' ⟨q, rfl, h1, h2, h3⟩
 exact ⟨q, rfl, h1, h2.sees, h3⟩
end Go.Proofs.Ytllnlimbfoingaa
