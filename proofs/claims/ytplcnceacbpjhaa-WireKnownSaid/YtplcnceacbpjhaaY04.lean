/- DERIVED. The contract of the reference's reader's Num. · DERIVED. The contract of the statements' awake test (layer 3). -/
import Derived.Test.YtplcnceacbpjhaaY03
namespace Go.Proofs.Ytplcnceacbpjhaa
open Go.RowKit

/-- a reader of the reference at block qb, what is left at the slice v -/
def Qd (w : World) (qb : Nat) (v : Value) (l : List UInt8) : Prop :=
 w.heap[qb]? = some (.cells #[v] 37 (0, 0)) ∧ Sees w v l ∧ l.length ≤ 1000000000 ∧ ∀ k, v.ownBlock = some k → k ≠ qb ∧ k < w.heap.size
/-- what a read of a number leaves -/
def QNumPost (w : World) (qb : Nat) (v : Value) (l : List UInt8) (most : Nat) (e : Ending) (w' : World) : Prop :=
 e = .returned (.tuple #[.int .u64 (readNum l most).1, .int .i64 (readNum l most).2.1]) ∧
 ∃ v', Qd w' qb v' (readNum l most).2.2 ∧ (∀ k, v'.ownBlock = some k → v.ownBlock = some k ∨ w.heap.size ≤ k) ∧ Keeps (fun k => k = qb) w w'

theorem qnum_bad {w : World} {qb : Nat} {v : Value} {l : List UInt8} {most e : Nat} (h : Qd w qb v l) (hr : readNum l most = (0, e, l)) : QNumPost w qb v l most (.returned (.tuple #[.int .u64 0, .int .i64 e])) w :=
 ⟨by rw [hr]; rfl, v, by rw [hr]; exact h, fun k hk => .inl hk, Keeps.refl _ _⟩

theorem q_set {w : World} {qb : Nat} {old v : Value} (h1 : w.heap[qb]? = some (.cells #[old] 37 (0, 0))) : (w.setCell ⟨qb, 0, none⟩ v).heap[qb]? = some (.cells #[v] 37 (0, 0)) := one_setCell h1
/-- the reader's field is set to a new slice -/
theorem q_new {w w2 : World} {qb : Nat} {v : Value} {l rest : List UInt8} (h : Qd w qb v l) (hl : rest.length ≤ 1000000000) {B : Nat} (hB : w.heap.size ≤ B) {v4 : Value} (ho : Owns w2 B v4 rest) (hk : Keeps (fun k => k = qb) w w2) (old : Value)
  (ht : w2.heap[qb]? = some (.cells #[old] 37 (0, 0))) :
  Qd (w2.setCell ⟨qb, 0, none⟩ v4) qb v4 rest ∧ (∀ k, v4.ownBlock = some k → v.ownBlock = some k ∨ w.heap.size ≤ k) ∧ Keeps (fun k => k = qb) w (w2.setCell ⟨qb, 0, none⟩ v4) := by
 have hq := lt_of_block h.1
 have hb := ho.block
 have hn : ∀ k, v4.ownBlock = some k → k ≠ qb := fun k hk' => by have := (hb k hk').1; omega
 refine ⟨⟨q_set ht, ho.sees.keeps ((Keeps.refl (fun k => k = qb) _).setCell (fun _ => rfl) _) hn, hl, fun k hk' => ⟨hn k hk', Nat.lt_of_lt_of_le (hb k hk').2 ((Keeps.refl (fun k => k = qb) w2).setCell (p := ⟨qb, 0, none⟩) (fun _ => rfl) v4).size⟩⟩, fun k hk' => .inr (by have := (hb k hk').1; omega), hk.setCell (fun _ => rfl) _⟩
theorem qnum_good {w w2 : World} {qb : Nat} {v : Value} {l rest : List UInt8} {most S : Nat} (h : Qd w qb v l) (hr : readNum l most = (S, 0, rest)) (hl : rest.length ≤ 1000000000) {p4 : Option Addr} {n4 c4 : Nat} (ho : Owns w2 w.heap.size (.slice p4 n4 c4) rest) (hk : Old w w2) :
  QNumPost w qb v l most (.returned (.tuple #[.int .u64 S, .int .i64 0])) (w2.setCell ⟨qb, 0, none⟩ (.slice p4 n4 c4)) := by
 refine ⟨by rw [hr]; rfl, .slice p4 n4 c4, ?_⟩
 rw [hr]
 exact q_new h hl (Nat.le_refl _) ho (hk.weaken (fun _ _ f => f.elim)) v ((hk.block qb (lt_of_block h.1) (fun f => f)).trans h.1)

set_option maxRecDepth 100000 in
set_option maxHeartbeats 4000000 in
theorem qnum_any (qb : Nat) (v : Value) (l : List UInt8) (most : Nat) (w : World) (h : Qd w qb v l) (hm : most < 18446744073709551616) :
  Calls Try.prog 19 #[.pointer (some ⟨qb, 0, none⟩), .int .u64 most] w (QNumPost w qb v l most) := by
 obtain ⟨g1, g2, g3, g4⟩ := id h
 obtain ⟨p, c, rfl, hc1, hc2⟩ := g2.len
 have k1 : w.cell? ⟨qb, 0, none⟩ = some (.slice p l.length c) := cell_of_one g1
 have k2 : w.frozen? ⟨qb, 0, none⟩ = false := free_of_one g1
 have hll := lead_le l
 have hat := lead_at l
 have hen := lead_end l
 have rd1 := @read_many l most
 have rd2 := @read_short l most
 have rd3 := @read_none l most
 have rd4 := @read_good l most
 generalize lead l = n at *
 have R := Lib.hid (And.intro rd1 (And.intro rd2 (And.intro @rd3 (And.intro @rd4 (And.intro hat hen)))))
 have G := Lib.hid (And.intro h (And.intro g2 (And.intro g4 hm)))
 clear g1 g2 g4 h hm rd1 rd2 rd3 rd4 hat hen
 go_enter Try.func19, Try.ntmps19
 go_wp2_with fail
 go_loop [6] (fun v6 => ∃ k : Nat, k ≤ n ∧ v6 = .int .i64 k) (fun v6 => n - (intOf v6).toNat)
 case atStart => exact ⟨0, Nat.zero_le _, rfl⟩
 case round =>
  obtain ⟨k, hk, rfl⟩ := hrel
  by_cases hlt : k < n
  ·obtain ⟨ch, h1, h2⟩ := R.out.2.2.2.2.1 k hlt
   obtain ⟨b, o, c', he, _, _, hcell⟩ := G.out.2.1.at (by omega)
   simp only [Value.slice.injEq, true_and] at he
   obtain ⟨rfl, rfl⟩ := he
   have hcc : w.cell? ⟨b, o + k, none⟩ = some (.int .u8 ch.toNat) := hcell k ch h1
   have hkl : k < l.length := by omega
   clear hcell h1
   go_wp2_with fail
   go_round
   case rel => exact ⟨k + 1, by omega, by go_num⟩
   case measure => simp [intOf]; omega
  ·obtain rfl : k = n := by omega
   clear hlt hk
   by_cases hend : k = l.length
   ·have hnl : ¬ k < l.length := by omega
    have HE := Lib.hid hend
    clear hend
    by_cases hten : 10 ≤ k
    ·go_wp2_with fail
     go_ret2
     exact qnum_bad G.out.1 (R.out.1 hten)
    ·have heq : ((k : Int) == (l.length : Int)) = true := by have := HE.out; simp; omega
     go_wp2_with fail
     go_ret2
     exact qnum_bad G.out.1 (R.out.2.1 (by omega) HE.out)
   ·obtain ⟨ch, h1, h2⟩ := R.out.2.2.2.2.2 (by omega)
    obtain ⟨b, o, c', he, _, _, hcell⟩ := G.out.2.1.at (by omega)
    simp only [Value.slice.injEq, true_and] at he
    obtain ⟨rfl, rfl⟩ := he
    have hcc : w.cell? ⟨b, o + k, none⟩ = some (.int .u8 ch.toNat) := hcell k ch h1
    have hkl : k < l.length := by omega
    have heq : ((k : Int) == (l.length : Int)) = false := by simp; omega
    have HC := Lib.hid (And.intro hcell h1)
    clear hcell h1 hend
    by_cases hten : 10 ≤ k
    ·go_wp2_with fail
     go_ret2
     exact qnum_bad G.out.1 (R.out.1 hten)
    ·have t10 : decide (10 ≤ (k : Int)) = false := by simp; omega
     have t128 : decide (128 ≤ (ch.toNat : Int)) = false := by simp; omega
     go_wp2_with fail
     go_loop [7, 8, 9] (fun v7 v8 _ => ∃ x : Int, v8 = .int .i64 x ∧ -1 ≤ x ∧ x ≤ k ∧ v7 = .int .u64 (lev ((l.take (k + 1)).drop (x + 1).toNat) : Nat) ∧ ((k = 9 ∧ 1 < ch.toNat) → x = k)) (fun _ v8 _ => (intOf v8 + 1).toNat)
     case atStart => exact ⟨k, rfl, by omega, by omega, by rw [show ((k : Int) + 1).toNat = k + 1 from by omega, List.drop_eq_nil_of_le (by simp; omega)]; rfl, fun _ => rfl⟩
     case round =>
      obtain ⟨x, rfl, hx1, hx2, rfl, hb9⟩ := hrel
      by_cases hx : 0 ≤ x
      ·obtain ⟨i, rfl⟩ := Int.eq_ofNat_of_zero_le hx
       obtain ⟨ci, hci⟩ : ∃ ci, l[i]? = some ci := ⟨l[i]'(by omega), by simp⟩
       have hcell : w.cell? ⟨b, o + i, none⟩ = some (.int .u8 ci.toNat) := HC.out.1 i ci hci
       have h1 := HC.out.2
       have hil : i < l.length := by omega
       by_cases bad : k = 9 ∧ 1 < ch.toNat
       ·obtain rfl : i = k := by have := hb9 bad; omega
        obtain rfl : ci = ch := by rw [hci] at h1; exact Option.some.inj h1
        have t9 : ((i : Int) == 9) = true := by simp; omega
        have tg : (1 : Int) < (ci.toNat : Int) % 128 := by omega
        have BB := Lib.hid bad
        clear bad hb9 h1 hci hcell
        go_wp2_with fail
        go_ret2
        exact qnum_bad G.out.1 (R.out.2.2.1 (by omega) HC.out.2 (.inl BB.out))
       ·have hst : lev ((l.take (k + 1)).drop i) = ci.toNat % 128 + 128 * lev ((l.take (k + 1)).drop (i + 1)) := lev_step _ i ci (by rw [List.getElem?_take, if_pos (by omega)]; exact hci)
        have hfit := lev_fits l k (by omega) ch h1 (by omega)
        have hle := lev_drop (l.take (k + 1)) i
        have h9 : ((i : Int) == 9) = true → ci.toNat % 128 ≤ 1 := by
         intro h
         obtain rfl : i = 9 := by simp at h; omega
         obtain rfl : k = 9 := by omega
         obtain rfl : ci = ch := by rw [hci] at h1; exact Option.some.inj h1
         omega
        rw [show ((i : Int) + 1).toNat = i + 1 from by omega]
        generalize lev ((l.take (k + 1)).drop (i + 1)) = S at *
        generalize hS' : lev ((l.take (k + 1)).drop i) = S' at *
        have hb1 : ci.toNat % 128 + 128 * S < 18446744073709551616 := by omega
        have ST := Lib.hid (And.intro hst (And.intro hS' bad))
        clear hst hS' hfit hle h1 hci bad hb9
        by_cases t9 : ((i : Int) == 9) = true
        ·have tg : ¬ (1 : Int) < (ci.toNat : Int) % 128 := by have := h9 t9; omega
         clear h9
         go_wp2_with fail
         go_round
         case rel => exact ⟨(i : Int) - 1, rfl, by omega, by omega, by rw [show ((i : Int) - 1 + 1).toNat = i from by omega, ST.out.2.1, ST.out.1]; exact congrArg (Value.int .u64) (by omega), fun h => absurd h ST.out.2.2⟩
         case measure => simp [intOf]
        ·have t9' : ((i : Int) == 9) = false := by simpa using t9
         clear h9 t9
         go_wp2_with fail
         go_round
         case rel => exact ⟨(i : Int) - 1, rfl, by omega, by omega, by rw [show ((i : Int) - 1 + 1).toNat = i from by omega, ST.out.2.1, ST.out.1]; exact congrArg (Value.int .u64) (by omega), fun h => absurd h ST.out.2.2⟩
         case measure => simp [intOf]
      ·obtain rfl : x = -1 := by omega
       have nb : ¬ (k = 9 ∧ 1 < ch.toNat) := fun h => by have := hb9 h; omega
       have h1 := HC.out.2
       rw [show ((-1 : Int) + 1).toNat = 0 from rfl, List.drop_zero]
       by_cases hz : 0 < k ∧ ch.toNat = 0
       ·have tz : ((ch.toNat : Int) == 0) = true := by simp; omega
        have hk0 := hz.1
        have HZ := Lib.hid hz
        have NB := Lib.hid nb
        clear hz nb hb9 h1
        go_wp2_with fail
        go_ret2
        exact qnum_bad G.out.1 (R.out.2.2.1 (by omega) HC.out.2 (.inr HZ.out))
       ·have hR := R.out.2.2.2.1 (by omega) h1 (by omega)
        have hfit := lev_fits l k (by omega) ch h1 (by omega)
        generalize hS : lev (l.take (k + 1)) = S at *
        have HR := Lib.hid hR
        have hk1 : k + 1 ≤ l.length := by omega
        obtain ⟨p3, c3, hs2, s3, s4⟩ := G.out.2.1.from (k + 1) hk1 .i64 ((k : Int) + 1) (by omega)
        have F := Lib.hid (And.intro s3 s4)
        clear hR nb hb9 h1 hS s3 s4
        have t0 : 0 < k ∧ ((ch.toNat : Int) == 0) = false ∨ ¬ 0 < k := by simp; omega
        clear hz
        by_cases hlong : most < S
        ·rcases t0 with ⟨t0, tz⟩ | t0
         all_goals go_wp2_with fail
         all_goals go_ret2
         all_goals exact qnum_bad G.out.1 (by rw [HR.out, if_pos hlong])
        ·rcases t0 with ⟨t0, tz⟩ | t0
         all_goals go_wp2_with (go_at_call 8; refine (own_any _ (l.drop (k + 1)) _ F.out.1 (by simp; omega)).mono ?_; rintro e w2 ⟨p4, n4, c4, rfl, ho2, hk2⟩; have hq := hk2.cf ⟨k1, k2⟩ (fun f => f); obtain ⟨hq1, hq2⟩ := hq)
         all_goals go_ret2
         all_goals exact qnum_good G.out.1 (by rw [HR.out, if_neg hlong]) (by simp; omega) ho2 hk2

def QIntPost (w : World) (qb : Nat) (v : Value) (l : List UInt8) (e : Ending) (w' : World) : Prop :=
 e = .returned (.tuple #[.int .i64 (readInt l).1, .int .i64 (readInt l).2.1]) ∧
 ∃ v', Qd w' qb v' (readInt l).2.2 ∧ (∀ k, v'.ownBlock = some k → v.ownBlock = some k ∨ w.heap.size ≤ k) ∧ Keeps (fun k => k = qb) w w'

theorem qint_any (qb : Nat) (v : Value) (l : List UInt8) (w : World) (h : Qd w qb v l) :
  Calls Try.prog 21 #[.pointer (some ⟨qb, 0, none⟩)] w (QIntPost w qb v l) := by
 have hle := readNum_le l 18446744073709551615
 have hc := qnum_any qb v l 18446744073709551615 w h (by decide)
 unfold QNumPost at hc
 have hfin : ∀ e w', QIntPost w qb v l e w' ↔ (e = .returned (.tuple #[.int .i64 (if (readNum l 18446744073709551615).2.1 = 0 then zagZ (readNum l 18446744073709551615).1 else 0), .int .i64 (readNum l 18446744073709551615).2.1]) ∧
   ∃ v', Qd w' qb v' (readNum l 18446744073709551615).2.2 ∧ (∀ k, v'.ownBlock = some k → v.ownBlock = some k ∨ w.heap.size ≤ k) ∧ Keeps (fun k => k = qb) w w') := fun e w' => Iff.rfl
 obtain ⟨n, hn⟩ : ∃ n, n = (readNum l 18446744073709551615).1 := ⟨_, rfl⟩
 obtain ⟨er, her⟩ : ∃ n, n = (readNum l 18446744073709551615).2.1 := ⟨_, rfl⟩
 obtain ⟨rest, hrest⟩ : ∃ n, n = (readNum l 18446744073709551615).2.2 := ⟨_, rfl⟩
 rw [← hn, ← her, ← hrest] at hc hfin
 rw [← hn] at hle
 have HF := Lib.hid hfin
 have HC := Lib.hid hc
 have HL := Lib.hid hle
 clear hc hle h hn her hrest hfin
 by_cases h0 : er = 0
 ·subst h0
  go_enter Try.func21, Try.ntmps21
  go_wp2_with (first | (go_at_call 19; refine HC.out.mono ?_; rintro e w1 ⟨rfl, h1⟩) | (go_at_call 36; refine (unfolded_any n w1 (by have := HL.out; omega)).mono ?_; rintro e w2 ⟨rfl, rfl⟩))
  go_ret2
  exact (HF.out _ _).2 ⟨by simp, h1⟩
 ·have hd : ((er : Int) != 0) = true := by simp; omega
  go_enter Try.func21, Try.ntmps21
  go_wp2_with (first | (go_at_call 19; refine HC.out.mono ?_; rintro e w1 ⟨rfl, h1⟩))
  go_ret2
  exact (HF.out _ _).2 ⟨by simp [h0], h1⟩

/-- what a read of bytes leaves -/
def QBytesPost (w : World) (qb : Nat) (v : Value) (l : List UInt8) (most : Int) (e : Ending) (w' : World) : Prop :=
 ∃ p n c, e = .returned (.tuple #[.slice p n c, .int .i64 (readBytes l most).2.1]) ∧ Owns w' w.heap.size (.slice p n c) (readBytes l most).1 ∧
 ∃ v', Qd w' qb v' (readBytes l most).2.2 ∧ (∀ k, v'.ownBlock = some k → v.ownBlock = some k ∨ w.heap.size ≤ k) ∧ Keeps (fun k => k = qb) w w'
theorem qbytes_bad {w w' : World} {qb : Nat} {v : Value} {l : List UInt8} {most : Int} {e : Nat} (hr : readBytes l most = ([], e, l)) (v' : Value) (h : Qd w' qb v' l) (hv : ∀ k, v'.ownBlock = some k → v.ownBlock = some k ∨ w.heap.size ≤ k) (hk : Keeps (fun k => k = qb) w w') :
  QBytesPost w qb v l most (.returned (.tuple #[.slice none 0 0, .int .i64 e])) w' :=
 ⟨none, 0, 0, by rw [hr], by rw [hr]; exact Owns.nil _ _, v', by rw [hr]; exact h, hv, hk⟩

theorem qbytes_good {w w1 w2 w3 : World} {qb n : Nat} {v v1 : Value} {l rest : List UInt8} {most : Int} {p4 p5 : Option Addr} {n4 c4 n5 c5 : Nat} (h : Qd w qb v l) (hr : readBytes l most = (rest.take n, 0, rest.drop n)) (hl : (rest.drop n).length ≤ 1000000000)
  (h1 : Qd w1 qb v1 rest) (h3 : Keeps (fun k => k = qb) w w1) (ho2 : Owns w2 w1.heap.size (.slice p4 n4 c4) (rest.take n)) (hk2 : Old w1 w2) (ho3 : Owns w3 w2.heap.size (.slice p5 n5 c5) (rest.drop n)) (hk3 : Old w2 w3) :
  QBytesPost w qb v l most (.returned (.tuple #[.slice p4 n4 c4, .int .i64 0])) (w3.setCell ⟨qb, 0, none⟩ (.slice p5 n5 c5)) := by
 have k2 : Old w1 w3 := hk2.trans hk3
 have kk : Keeps (fun k => k = qb) w w3 := h3.then k2 (fun _ _ f => f.elim)
 have hq := lt_of_block h.1
 have hb := ho2.block
 have hs := h3.size
 have hs2 := hk2.size
 refine ⟨p4, n4, c4, by rw [hr]; rfl, ?_, .slice p5 n5 c5, ?_⟩
 ·rw [hr]
  exact ((ho2.mono hs).old hk3).keeps ((Keeps.refl (fun k => k = qb) _).setCell (fun _ => rfl) _) (fun k hk' => by have := (hb k hk').1; omega)
 ·rw [hr]
  exact q_new h hl (by omega) ho3 kk v1 ((k2.block qb (lt_of_block h1.1) (fun f => f)).trans h1.1)

set_option maxRecDepth 100000 in
set_option maxHeartbeats 4000000 in
theorem qbytes_any (qb : Nat) (v : Value) (l : List UInt8) (most : Int) (w : World) (h : Qd w qb v l) (hm : most ≤ 9223372036854775807) :
  Calls Try.prog 23 #[.pointer (some ⟨qb, 0, none⟩), .int .i64 most] w (QBytesPost w qb v l most) := by
 obtain ⟨g1, g2, g3, g4⟩ := id h
 obtain ⟨p, c, rfl, hc1, hc2⟩ := g2.len
 have k1 : w.cell? ⟨qb, 0, none⟩ = some (.slice p l.length c) := cell_of_one g1
 by_cases h0 : most < 0
 ·have H := Lib.hid h
  clear h g1 g2 g4
  go_enter Try.func23, Try.ntmps23
  go_wp2_with fail
  go_ret2
  exact qbytes_bad (by unfold readBytes; rw [if_pos h0]) _ H.out (fun k hk => .inl hk) (Keeps.refl _ _)
 ·obtain ⟨m, rfl⟩ := Int.eq_ofNat_of_zero_le (show 0 ≤ most by omega)
  have hC := qnum_any qb (.slice p l.length c) l m w h (by omega)
  have hle := readNum_le l m
  have herr := @readNum_bad l m
  have hrl := readNum_rest l m
  have hmb : (m : Int) ≤ 9223372036854775807 := hm
  obtain ⟨n, hn⟩ : ∃ n, n = (readNum l m).1 := ⟨_, rfl⟩
  obtain ⟨er, her⟩ : ∃ n, n = (readNum l m).2.1 := ⟨_, rfl⟩
  obtain ⟨rest, hrest⟩ : ∃ n, n = (readNum l m).2.2 := ⟨_, rfl⟩
  have hrb' : readBytes l (m : Int) = if er ≠ 0 then ([], er, l) else if rest.length < n then ([], 4, l) else (rest.take n, 0, rest.drop n) := by
   unfold readBytes; rw [if_neg h0, Int.toNat_natCast, hn, her, hrest]
  unfold QNumPost at hC
  rw [← hn, ← her, ← hrest] at hC
  rw [← hn, ← her, ← hrest] at herr
  rw [← hn] at hle
  rw [← hrest] at hrl
  have HC := Lib.hid hC
  have HB := Lib.hid (And.intro hrb' (And.intro hle (And.intro herr (And.intro h (And.intro g2 g4)))))
  clear hC hrb' hle herr hn her hrest hm h g1 g2 g4
  by_cases e0 : er = 0
  ·subst e0
   by_cases hfit : rest.length < n
   ·go_enter Try.func23, Try.ntmps23
    go_wp2_with fail
    refine HC.out.mono ?_
    rintro e w1 ⟨rfl, v1, h1, h2, h3⟩
    obtain ⟨q1, q2, q3, q4⟩ := id h1
    obtain ⟨p1, c1, rfl, _, _⟩ := q2.len
    have k3 : w1.cell? ⟨qb, 0, none⟩ = some (.slice p1 rest.length c1) := cell_of_one q1
    have k4 : w1.frozen? ⟨qb, 0, none⟩ = false := free_of_one q1
    have H := Lib.hid (And.intro h1 (And.intro h2 h3))
    clear h1 h2 h3 q1 q2 q4
    go_wp2_with fail
    go_ret2
    obtain ⟨h1, h2, h3⟩ := H.out
    have hk := h3.setCell (p := ⟨qb, 0, none⟩) (fun _ => rfl) (.slice p l.length c)
    refine qbytes_bad (by rw [HB.out.1, if_neg (by simp), if_pos hfit]) (.slice p l.length c) ⟨q_set h1.1, HB.out.2.2.2.2.1.keeps hk (fun k hk => (HB.out.2.2.2.2.2 k hk).1), g3, fun k hk' => ⟨(HB.out.2.2.2.2.2 k hk').1, Nat.lt_of_lt_of_le (HB.out.2.2.2.2.2 k hk').2 hk.size⟩⟩ (fun k hk => .inl hk) hk
   ·go_enter Try.func23, Try.ntmps23
    go_wp2_with fail
    refine HC.out.mono ?_
    rintro e w1 ⟨rfl, v1, h1, h2, h3⟩
    obtain ⟨q1, q2, q3, q4⟩ := id h1
    obtain ⟨p1, c1, rfl, _, _⟩ := q2.len
    have k3 : w1.cell? ⟨qb, 0, none⟩ = some (.slice p1 rest.length c1) := cell_of_one q1
    have k4 : w1.frozen? ⟨qb, 0, none⟩ = false := free_of_one q1
    have hn : n ≤ rest.length := by omega
    obtain ⟨p2, c2, hs1, s1, s2⟩ := q2.upto n hn .u64 n rfl
    obtain ⟨p3, c3, hs2, s3, s4⟩ := q2.from n hn .u64 n rfl
    have H := Lib.hid (And.intro h1 (And.intro h2 (And.intro h3 (And.intro s1 s3))))
    clear h1 h2 h3 q1 q2 q4 s1 s2 s3 s4
    go_wp2_with fail
    refine (own_any _ (rest.take n) _ H.out.2.2.2.1 (by simp; omega)).mono ?_
    rintro e w2 ⟨p4, n4, c4, rfl, ho2, hk2⟩
    obtain ⟨hq1, hq2⟩ := hk2.cf ⟨k3, k4⟩ (fun f => f)
    have H2 := Lib.hid (And.intro ho2 hk2)
    clear ho2 hk2
    go_wp2_with fail
    refine (own_any _ (rest.drop n) _ (H.out.2.2.2.2.old H2.out.2) (by simp; omega)).mono ?_
    rintro e w3 ⟨p5, n5, c5, rfl, ho3, hk3⟩
    obtain ⟨hr1, hr2⟩ := hk3.cf ⟨hq1, hq2⟩ (fun f => f)
    have H3 := Lib.hid (And.intro ho3 hk3)
    clear ho3 hk3
    go_wp2_with fail
    go_ret2
    exact qbytes_good HB.out.2.2.2.1 (by rw [HB.out.1, if_neg (by simp), if_neg hfit]) (by simp; omega) H.out.1 H.out.2.2.1 H2.out.1 H2.out.2 H3.out.1 H3.out.2
  ·have hd : ((er : Int) != 0) = true := by simp; omega
   go_enter Try.func23, Try.ntmps23
   go_wp2_with fail
   refine HC.out.mono ?_
   rintro e w1 ⟨rfl, v1, h1, h2, h3⟩
   have H := Lib.hid (And.intro h1 (And.intro h2 h3))
   clear h1 h2 h3
   go_wp2_with fail
   go_ret2
   obtain ⟨h1, h2, h3⟩ := H.out
   rw [(HB.out.2.2.1 e0).2] at h1
   exact qbytes_bad (by rw [HB.out.1, if_pos e0]) v1 h1 h2 h3
end Go.Proofs.Ytplcnceacbpjhaa

namespace Go.Proofs.Ytplcnceacbpjhaa
open Go.RowKit

theorem Rd.keeps {w w' : World} {B rb bb : Nat} {l : List UInt8} {S : Nat → Prop} (h : Rd w B rb bb l) (hk : Keeps S w w') (hS : ∀ k, k < w.heap.size → (k = rb ∨ k = bb) → ¬ S k) : Rd w' B rb bb l := by
 obtain ⟨h0, v, h1, h2, h3, h4, h5⟩ := h
 have hrb := lt_of_block h1
 exact ⟨Nat.le_trans h0 hk.size, v, (hk.block rb hrb (hS rb hrb (.inl rfl))).trans h1, h2.keeps hk (fun k hk' => hS k (Nat.lt_of_lt_of_le (h4 k hk').2 h0) (.inr (h4 k hk').1)), h3, h4, h5⟩

set_option maxRecDepth 100000 in
set_option maxHeartbeats 4000000 in
theorem awake_any (w : World) : Calls Try.prog 16 #[] w fun e w' => e = .returned (.bool true) ∧ Old w w' := by
 have c1 := num_any (.slice none 0 0) [] 300 w (Sees.nil w) (by simp) (by decide)
 rw [form_300] at c1
 simp only [List.nil_append] at c1
 have C1 := Lib.hid c1
 clear c1
 have kc := conv_const
 go_enter Try.func16, Try.ntmps16
 go_wp2_with fail
 refine C1.out.mono ?_
 rintro e w1 ⟨p1, n1, c1, rfl, ho1, hk1⟩
 have c2 := int_any _ _ (-65) w1 ho1.sees (by simp) (by decide)
 rw [show zigN (-65) = 129 from by decide, form_129] at c2
 have C2 := Lib.hid c2
 have H1 := Lib.hid (And.intro ho1 hk1)
 clear c2 ho1 hk1
 go_wp2_with fail
 refine C2.out.mono ?_
 rintro e w2 ⟨p2, n2, c2, rfl, ho2, hk2⟩
 have sab : Sees (w2.alloc (.cells #[.int .u8 97, .int .u8 98] 5 (2, 3))) (.slice (some ⟨w2.heap.size, 0, none⟩) 2 2) [97, 98] := Sees.new w2 [97, 98] (2, 3) (by unfold maxLen; simp)
 have c3 := bytes_any _ _ _ _ _ (ho2.sees.alloc (.cells #[.int .u8 97, .int .u8 98] 5 (2, 3))) sab (by simp) (by simp)
 rw [show ([97, 98] : List UInt8).length = 2 from rfl, form_2] at c3
 simp only [List.cons_append, List.nil_append] at c3
 have C3 := Lib.hid c3
 have H2 := Lib.hid hk2
 clear c3 ho2 hk2 sab
 go_wp2_with fail
 refine C3.out.mono ?_
 rintro e w3 ⟨p3, n3, c3, rfl, ho3, hk3⟩
 have k3 : Old w w3 := ((H1.out.2.trans H2.out).alloc _).trans hk3
 have S3 := Lib.hid k3.size
 have c4 := new_any _ _ w3 ho3.sees (by simp)
 have C4 := Lib.hid c4
 have H3 := Lib.hid (And.intro k3 ho3)
 clear c4 k3 ho3 hk3 C1 C2 C3 H1 H2
 go_wp2_with fail
 refine C4.out.mono ?_
 rintro e w4 ⟨rb, bb, rfl, hr4, hrb, hbb, hk4⟩
 have k4 := H3.out.1.trans hk4
 have c5 := rnum_any _ rb bb _ 300 w4 hr4 (by decide)
 unfold NumPost at c5
 rw [show readNum [172, 2, 129, 1, 2, 97, 98] 300 = (300, 0, [129, 1, 2, 97, 98]) from by decide] at c5
 have s3 := H3.out.2.sees.old hk4
 have hb3 := H3.out.2.block
 have C5 := Lib.hid c5
 have H4 := Lib.hid (And.intro k4 (And.intro s3 (And.intro hrb (And.intro hbb (And.intro hk4.size hb3)))))
 clear c5 k4 s3 hrb hbb hk4 hr4 H3 C4 hb3
 go_wp2_with fail
 refine C5.out.mono ?_
 rintro e w5 ⟨rfl, hr5, hk5⟩
 have c6 := rint_any _ rb bb _ w5 hr5
 rw [show readInt [129, 1, 2, 97, 98] = (-65, 0, [2, 97, 98]) from by decide] at c6
 have C6 := Lib.hid c6
 have H5 := Lib.hid hk5
 clear c6 hr5 hk5 C5
 go_wp2_with fail
 refine C6.out.mono ?_
 rintro e w6 ⟨rfl, hr6, hk6⟩
 have c7 := rbytes_any _ rb bb _ 2 w6 hr6 (by decide)
 have C7 := Lib.hid c7
 have H6 := Lib.hid hk6
 clear c7 hr6 hk6 C6
 go_wp2_with fail
 refine C7.out.mono ?_
 rintro e w7 ⟨p7, n7, c7, he7, ho7, hr7, hk7⟩
 rw [show readBytes [2, 97, 98] 2 = ([97, 98], 0, []) from by decide] at he7 ho7 hr7
 subst he7
 have k7 : Keeps (fun k => k = rb) w4 w7 := (H5.out.trans H6.out).trans hk7
 have H7 := Lib.hid (And.intro ho7 (And.intro hr7 k7))
 clear ho7 hr7 hk7 k7 C7 H5 H6
 have h0 : Sees (w7.alloc (.cells #[.int .u8 128, .int .u8 0] 5)) (.slice (some ⟨w7.heap.size, 0, none⟩) 2 2) [128, 0] := Sees.new w7 [128, 0] (0, 0) (by unfold maxLen; simp)
 have c8 := new_any _ _ _ h0 (by simp)
 have C8 := Lib.hid c8
 clear c8 h0
 go_wp2_with fail
 refine C8.out.mono ?_
 rintro e w8 ⟨rb2, bb2, rfl, hr8, hrb8, hbb8, hk8⟩
 have c9 := rnum_any _ rb2 bb2 _ 9 w8 hr8 (by decide)
 unfold NumPost at c9
 rw [show readNum [128, 0] 9 = (0, 5, [128, 0]) from by decide] at c9
 have C9 := Lib.hid c9
 have H8 := Lib.hid (And.intro hrb8 hk8)
 clear c9 hr8 hrb8 hbb8 hk8 C8
 go_wp2_with fail
 refine C9.out.mono ?_
 rintro e w9 ⟨rfl, hr9, hk9⟩
 have k9 : Keeps (fun k => k = rb2) w7 w9 := ((((Keeps.refl _ w7).alloc _).then H8.out.2 (fun _ _ f => f.elim)).trans hk9)
 have H9 := Lib.hid k9
 have hrb2 := H8.out.1
 have HS := Lib.hid hrb2
 clear hr9 hk9 k9 C9 H8 hrb2
 go_wp2_with fail
 have hz7 := H7.out.2.2.size
 have hz9 := H9.out.size
 have hs4 := H4.out.2.2.2.2.1
 have hr2 : w7.heap.size < rb2 := by have := HS.out; simp at this; omega
 have s9 : Sees w9 (.slice p3 n3 c3) [172, 2, 129, 1, 2, 97, 98] := by
  refine (H4.out.2.1.keeps H7.out.2.2 ?_).keeps H9.out ?_
  ·intro k hk; have := (H4.out.2.2.2.2.2 k hk).2; have := H4.out.2.2.1; show ¬ k = rb; omega
  ·intro k hk; have := (H4.out.2.2.2.2.2 k hk).2; show ¬ k = rb2; omega
 have hb7 := H7.out.1.block
 have t9 : Sees w9 (.slice p7 n7 c7) [97, 98] := by
  refine H7.out.1.sees.keeps H9.out ?_
  intro k hk; have := (hb7 k hk).2; show ¬ k = rb2; omega
 have hr9 : Rd w9 w4.heap.size rb bb [] := H7.out.2.1.keeps H9.out (fun k hk _ => by show ¬ k = rb2; omega)
 have hq : Sees (w9.alloc (.cells #[.int .u8 172, .int .u8 2, .int .u8 129, .int .u8 1, .int .u8 2, .int .u8 97, .int .u8 98] 5)) (.slice (some ⟨w9.heap.size, 0, none⟩) 7 7) [172, 2, 129, 1, 2, 97, 98] := Sees.new w9 [172, 2, 129, 1, 2, 97, 98] (0, 0) (by unfold maxLen; simp)
 have c10 := equal_any _ _ _ _ _ (s9.alloc _) hq
 rw [show (([172, 2, 129, 1, 2, 97, 98] : List UInt8) == [172, 2, 129, 1, 2, 97, 98]) = true from by decide] at c10
 have hk : Old w w9 := by
  refine (H4.out.1.then H7.out.2.2 (fun k hk he => ?_)).then H9.out (fun k hk he => ?_)
  ·have hk' : k = rb := he
   have := H4.out.2.2.1; have := S3.out; omega
  ·have hk' : k = rb2 := he
   have := H4.out.1.size; omega
 have htx := (t9.alloc (.cells #[.int .u8 172, .int .u8 2, .int .u8 129, .int .u8 1, .int .u8 2, .int .u8 97, .int .u8 98] 5)).text
 have C10 := Lib.hid c10
 have C11 := Lib.hid (end_any _ _ _ _ _ (hr9.keeps ((Keeps.refl (fun _ => False) w9).alloc (.cells #[.int .u8 172, .int .u8 2, .int .u8 129, .int .u8 1, .int .u8 2, .int .u8 97, .int .u8 98] 5)) (fun _ _ _ f => f)))
 have HK := Lib.hid hk
 clear c10 hk hr9 hq t9 s9 hr2 hz7 hz9 hs4 hb7
 refine C10.out.mono ?_
 rintro e w10 ⟨rfl, rfl⟩
 go_wp2_with fail
 refine C11.out.mono ?_
 rintro e w11 ⟨rfl, rfl⟩
 go_wp2_with fail
 go_ret
 exact ⟨rfl, HK.out.alloc _⟩
end Go.Proofs.Ytplcnceacbpjhaa
