/- DERIVED. Chapter 20: the walk of LinkKnown. · The statement LinkKnown: for every input the law returns true, and the arguments read as they did. -/
import Derived.Test.YtllnlimbfoingaaY09
import Derived.Deep.LoopGhost
import Derived.Test.YtllnlimbfoingaaRows
import Derived.ProofKit
import Derived.OpenShut
import Derived.JoinedCond
import Derived.ChangeOld
namespace Go.Proofs.Ytllnlimbfoingaa
open Go.RowKit Go.Conc

/-- one end of the call's own; M is kept from it -/
def So (w0 : World) (R M : Nat → Prop) (w : World) (a : Nat) (E : En) : Prop := Lk R M w a E ∧ (∀ k, R k → w0.heap.size ≤ k) ∧ Old w0 w
theorem So.go {w0 : World} {R R2 M M2 : Nat → Prop} {w w' : World} {a : Nat} {E E2 : En} (h : So w0 R M w a E) (hk : Keeps R w w') (h2 : Lk R2 M2 w' a E2) (hR : ∀ k, R2 k → R k ∨ w.heap.size ≤ k) : So w0 R2 M2 w' a E2 :=
 ⟨h2, fun k r => by rcases hR k r with r | r; exact h.2.1 k r; exact Nat.le_trans h.2.2.size r, h.2.2.then hk (fun k hk' r => by have := h.2.1 k r; omega)⟩
theorem So.old {w0 : World} {R M : Nat → Prop} {w w' : World} {a : Nat} {E : En} (h : So w0 R M w a E) (hk : Old w w') : So w0 R M w' a E := ⟨h.1.old hk, h.2.1, h.2.2.trans hk⟩
theorem So.cell {w0 : World} {R M : Nat → Prop} {w w' : World} {a b o : Nat} {E : En} {v : Value} (h : So w0 R M w a E) (hk : Keeps R w w') (hb : M b) (hv : w.cell? ⟨b, o, none⟩ = some v) : w'.cell? ⟨b, o, none⟩ = some v := hk.cell hv (h.1.facts.2.1 b hb)
theorem so_takeX {w0 : World} {R M : Nat → Prop} {w : World} {a : Nat} (p : Pv) {e0 e1 : En} {pk : Pk} {r : Option Bs} {bs bb : Bool} (h : So w0 R M w a e0) (hp : p.plain = pk) (ht : e0.take pk = (e1, r)) (hs : r.isSome = bs) (hb : decide (e0.peer < pk.src) = bb)
  (hl : 1 ≤ e0.life) (hf : e0.win.length ≤ 8) (hla : e0.last < 18446744073709551615) (hne : e0.next < 18446744073709551615) (hv : Sees w p.v p.d) (hd : pk.data.length ≤ 140737488355328) (hvb : ∀ b, p.v.ownBlock = some b → ¬ R b) :
  Calls Try.prog 14 #[.pointer (some ⟨a, 0, none⟩), .agg p.cells.toArray] w fun e w' => ∃ (R2 : Nat → Prop) (q : Option Addr) (n c : Nat), e = .returned (.tuple #[.slice q n c, .bool bs, .bool bb]) ∧ Owns w' w.heap.size (.slice q n c) (r.getD []) ∧ So w0 R2 M w' a e1 ∧ Keeps R w w' ∧ (∀ b, (Value.slice q n c).ownBlock = some b → ¬ R2 b) := by
 subst hp hs hb
 refine (lk_take p h.1 hl hf hla hne hv hd hvb).mono ?_
 rintro e w' ⟨R', q, n, c, rfl, ho, hb, hR, hR0, hR1, k, hL⟩
 have hL' := hL M (fun _ m => .inl m) (fun j m => Nat.lt_of_lt_of_le (h.1.facts.2.2.2 j m) k.size)
 rw [ht] at ho hL' ⊢
 exact ⟨R', q, n, c, rfl, ho, h.go k hL' hR, k, hb⟩
theorem so_outX {w0 : World} {R M : Nat → Prop} {w : World} {a : Nat} {e0 e1 : En} {l : List Pk} (h : So w0 R M w a e0) (ho : e0.out = e1 ∧ e0.outs = l) (hl : 1 ≤ e0.life) (hf : e0.win.length ≤ 8) (hW : e0.waits.length ≤ 1000) (hla : e0.last + e0.waits.length < 18446744073709551615) :
  Calls Try.prog 17 #[.pointer (some ⟨a, 0, none⟩)] w fun e w' => ∃ (X : List Pv) (vo : Value), e = .returned vo ∧ Outs w' w.heap.size vo X ∧ X.map Pv.plain = l ∧ So w0 R (fun k => M k ∨ w.heap.size ≤ k ∧ k < w'.heap.size) w' a e1 ∧ Keeps R w w' := by
 refine (lk_out h.1 hl hf hW hla).mono ?_
 rintro e w' ⟨X, vo, rfl, hX, hp, k, hL⟩
 rw [ho.1] at hL
 rw [ho.2] at hp
 exact ⟨X, vo, rfl, hX, hp, h.go k (hL _ (fun j m => by rcases m with m | m; exact .inl m; exact .inr m.1) (fun j m => by rcases m with m | m; exact Nat.lt_of_lt_of_le (h.1.facts.2.2.2 j m) k.size; exact m.2)) (fun _ r => .inl r), k⟩
theorem so_sendX {w0 : World} {R M : Nat → Prop} {w : World} {a : Nat} (v : Value) (d : List UInt8) {e0 e1 : En} (h : So w0 R M w a e0) (ht : e0.send d = e1) (hl : 1 ≤ e0.life) (hp : 1 ≤ e0.peer) (hn : e0.waits.length ≤ 1000) (hv : Sees w v d) (hd : d.length ≤ 140737488355328) :
  Calls Try.prog 12 #[.pointer (some ⟨a, 0, none⟩), v] w fun e w' => e = .returned (.int .i64 0) ∧ So w0 R M w' a e1 ∧ Keeps R w w' := by
 refine (lk_send v d h.1 hl hp hn hv hd).mono ?_
 rintro e w' ⟨rfl, hL, k⟩
 rw [ht] at hL
 exact ⟨rfl, h.go k hL (fun _ r => .inl r), k⟩
theorem so_tickX {w0 : World} {R M : Nat → Prop} {w : World} {a : Nat} {e0 e1 : En} (h : So w0 R M w a e0) (ht : e0.tick = e1) (hl : 1 ≤ e0.life) :
  Calls Try.prog 21 #[.pointer (some ⟨a, 0, none⟩)] w fun e w' => e = .returned (.int .i64 0) ∧ So w0 R M w' a e1 ∧ Keeps R w w' := by
 refine (lk_tick h.1 hl).mono ?_
 rintro e w' ⟨rfl, hL, k⟩
 rw [ht] at hL
 exact ⟨rfl, h.go k hL (fun _ r => .inl r), k⟩
/-- the number of a packet that went out, in memory -/
theorem outs_seq {w : World} {B : Nat} {v : Value} {X : List Pv} {l : List Pk} (h : Outs w B v X) (hp : X.map Pv.plain = l) (i : Nat) {pk : Pk} (hi : l[i]? = some pk) : ∃ g c, v = .slice (some ⟨g, 0, none⟩) l.length c ∧ w.cell? ⟨g, i * 5 + 2, none⟩ = some (.int .u64 (pk.seq : Int)) ∧ B ≤ g ∧ g < w.heap.size := by
 subst hp
 rw [List.getElem?_map] at hi
 obtain ⟨x, hx, rfl⟩ := Option.map_eq_some_iff.1 hi
 have hl : 0 < X.length := by have := (List.getElem?_eq_some_iff.1 hx).1; omega
 have hs := h.1.1.sees (fun _ => rfl) (by decide)
 obtain ⟨b, o, c, rfl, _, _, hat⟩ := hs.at hl
 have ho : o = 0 := by
  rcases h.1.1.2 with ⟨e, _⟩ | ⟨g, cap, cur, e, _⟩
  ·cases e
  ·simp only [Value.slice.injEq, Option.some.injEq, Addr.mk.injEq] at e; exact e.1.2.1
 subst ho
 have hb := h.1.1.block b rfl
 refine ⟨b, c, by simp, ?_, hb⟩
 have := hat i x hx 2 _ rfl
 rwa [Nat.zero_add] at this

theorem own_new_not {w : World} {R : Nat → Prop} {n c : Nat} (hR : ∀ k, R k → k < w.heap.size) : ∀ b, (Value.slice (some ⟨w.heap.size, 0, none⟩) n c).ownBlock = some b → ¬ R b := fun b hb r => by
 have h1 := hR b r
 have h2 : w.heap.size = b := by simpa [Value.ownBlock] using hb
 omega
theorem keep3 {w0 : World} {R M : Nat → Prop} {w w' : World} {a g4 g6 g9 o4 o6 o9 : Nat} {E : En} {v4 v6 v9 : Value} (h : So w0 R M w a E) (hk : Keeps R w w') (hm : M g4 ∧ M g6 ∧ M g9) (hv : w.cell? ⟨g4, o4, none⟩ = some v4 ∧ w.cell? ⟨g6, o6, none⟩ = some v6 ∧ w.cell? ⟨g9, o9, none⟩ = some v9) :
  w'.cell? ⟨g4, o4, none⟩ = some v4 ∧ w'.cell? ⟨g6, o6, none⟩ = some v6 ∧ w'.cell? ⟨g9, o9, none⟩ = some v9 := ⟨h.cell hk hm.1 hv.1, h.cell hk hm.2.1 hv.2.1, h.cell hk hm.2.2 hv.2.2⟩
def kW (n : Nat) : List Bs := (List.range n).map fun i => [UInt8.ofNat i]
def kF (lo n : Nat) : List (Nat × Bs) := (List.range' lo n).map fun i => (i, [UInt8.ofNat (i - 1)])
def k1 : En := ⟨3, 5, [], [], 0, 1, false, true, true⟩
def k2 (n : Nat) : En := ⟨3, 5, kW n, [], 0, 1, false, false, true⟩
def k4 : En := ⟨3, 5, [[8], [9]], kF 1 8, 8, 1, false, false, true⟩
def k5 : En := ⟨3, 5, [[8], [9]], kF 4 5, 8, 1, false, false, true⟩
def k6 : En := ⟨3, 5, [], kF 4 7, 10, 1, false, false, true⟩
def k7 : En := ⟨3, 5, [], kF 4 7, 10, 1, true, false, true⟩
def k9 : En := ⟨3, 5, [], [], 10, 1, false, false, true⟩
def k11 : En := ⟨3, 5, [], [], 10, 1, false, true, true⟩
def k12 : En := ⟨3, 5, [], [], 10, 2, false, true, true⟩
def kP (q : Nat) : Pk := ⟨3, 5, q, 1, [UInt8.ofNat (q - 1)]⟩
theorem kx1 : (En.new 3).take ⟨5, 3, 0, 1, []⟩ = (k1, none) := rfl
theorem kx2 : k1.out = k2 0 ∧ k1.outs = [⟨3, 5, 0, 1, []⟩] := ⟨rfl, rfl⟩
theorem kx3 (n : Nat) : (k2 n).send [UInt8.ofNat n] = k2 (n + 1) := by
 unfold k2 En.send kW
 simp [List.range_succ]
theorem kx4 : (k2 10).out = k4 ∧ (k2 10).outs = (List.range' 1 8).map kP := ⟨rfl, rfl⟩
theorem kx5 : k4.take ⟨5, 3, 0, 4, []⟩ = (k5, none) := rfl
theorem kx6 : k5.out = k6 ∧ k5.outs = (List.range' 9 2).map kP := ⟨rfl, rfl⟩
theorem kx6' : k6.out = k6 ∧ k6.outs = [] := ⟨rfl, rfl⟩
theorem kx7 : k6.tick = k7 := rfl
theorem kx8 : k7.out = k6 ∧ k7.outs = (List.range' 4 7).map kP := ⟨rfl, rfl⟩
theorem kx9 : k6.take ⟨5, 3, 0, 1152921504606846976, []⟩ = (k9, none) := rfl
theorem kx9' : k9.out = k9 ∧ k9.outs = [] := ⟨rfl, rfl⟩
theorem kx10 : k9.take ⟨4, 3, 1, 1, []⟩ = (k9, none) := rfl
theorem kx11 : k9.take ⟨5, 2, 1, 1, []⟩ = (k11, none) := rfl
theorem kx12 : k11.take ⟨5, 3, 1, 1, [113]⟩ = (k12, some [113]) := rfl
theorem kx13 : k12.take ⟨5, 3, 1, 1, [113]⟩ = (k12, none) := rfl
set_option maxRecDepth 100000 in
set_option maxHeartbeats 4000000 in
theorem walk_LinkKnown (w : World) : Calls Try.prog 6 #[] w fun e w' => e = .returned (.bool true) ∧ Below w.heap.size w w' := by
 have hcv := conv_const
 have CA := Lib.hid (awake20 w)
 go_enter Try.func6, Try.ntmps6
 go_wp2_with fail
 refine CA.out.mono ?_
 rintro e w0 ⟨rfl, o0⟩
 have O0 := Lib.hid o0
 clear o0
 go_wp2_with fail
 refine (lk_new 3 (by omega) w0).mono ?_
 rintro e w1 ⟨rfl, o1, h1⟩
 have D1 : So w _ noM w1 w0.heap.size (En.new 3) := ⟨h1 noM (fun k f => f.elim), fun k r => (by have := O0.out.size; omega), O0.out.trans o1⟩
 obtain ⟨R1, hR1⟩ : ∃ R1, (fun k => k = w0.heap.size ∨ k = w0.heap.size + 1) = R1 := ⟨_, rfl⟩
 rw [hR1] at D1
 have D1 := Lib.hid D1
 clear o1 h1 hR1
 go_wp2_with fail
 refine (so_takeX ⟨5, 3, 0, 1, .slice none 0 0, []⟩ D1.out rfl kx1 (bs := false) (bb := true) rfl rfl (by decide) (by decide) (by decide) (by decide) (Sees.nil _) (by decide) (fun b hb => by cases hb)).mono ?_
 rintro e w2 ⟨R2, q2, n2, c2, rfl, -, D2, -, -⟩
 have D2 := Lib.hid D2
 go_wp2_with fail
 refine (so_outX D2.out kx2 (by decide) (by decide) (by decide) (by decide)).mono ?_
 rintro e w3 ⟨X3, vo3, rfl, -, -, D3, -⟩
 obtain ⟨M3, hM3⟩ : ∃ M3, (fun k => noM k ∨ w2.heap.size ≤ k ∧ k < w3.heap.size) = M3 := ⟨_, rfl⟩
 rw [hM3] at D3
 have D3 := Lib.hid D3
 clear hM3
 go_wp2_with fail
 go_loopg [6, 52] 10 (fun n v6 i wm => ∃ k : Nat, k ≤ 10 ∧ n = 10 - k ∧ i = .int .i64 (k : Int) ∧ So w R2 M3 wm w0.heap.size (k2 k))
 case atStart => exact ⟨0, by omega, rfl, rfl, D3.out⟩
 case round =>
  obtain ⟨k, hk, rfl, rfl, hd⟩ := hrel
  have D := Lib.hid hd
  clear hd
  by_cases hlt : k < 10
  ·have hw8 : IntKind.u8.wrap (k : Int) = (k : Int) := by rw [IntKind.wrap_u8]; omega
   go_wp2_with fail
   have hb8 : (k : Int) = ((UInt8.ofNat k).toNat : Int) := by simp; omega
   refine (so_sendX _ [UInt8.ofNat k] (D.out.old ((Keeps.refl _ _).alloc _)) (kx3 k) (by show 1 ≤ 3; omega) (by show 1 ≤ 5; omega) (by simp [k2, kW]; omega) (Sees.one wr k (UInt8.ofNat k) hb8) (by simp)).mono ?_
   rintro e w4 ⟨rfl, D4, -⟩
   have D4 := Lib.hid D4
   clear hb8
   go_wp2_with fail
   go_roundg (10 - (k + 1))
   case measure => omega
   case rel => exact ⟨k + 1, by omega, rfl, by go_num, D4.out⟩
  ·obtain rfl : k = 10 := by omega
   clear hlt
   go_wp2_with fail
   refine (so_outX D.out kx4 (by decide) (by decide) (by decide) (by decide)).mono ?_
   rintro e w4 ⟨X4, vo4, rfl, hX, hp, D4, -⟩
   obtain ⟨g4, c4, rfl, x7, hg4, hg4'⟩ := outs_seq (l := (List.range' 1 8).map kP) hX hp 7 (pk := kP 8) rfl
   have m4 : (fun k => M3 k ∨ wr.heap.size ≤ k ∧ k < w4.heap.size) g4 := .inr ⟨hg4, hg4'⟩
   obtain ⟨M4, hM4⟩ : ∃ M4, (fun k => M3 k ∨ wr.heap.size ≤ k ∧ k < w4.heap.size) = M4 := ⟨_, rfl⟩
   rw [hM4] at D4 m4
   have D4 := Lib.hid (And.intro D4 (And.intro m4 x7))
   clear hM4 hX hp x7 m4 hg4 hg4'
   go_wp2_with fail
   refine (lk_waiting D4.out.1.1).mono ?_
   rintro e w5 ⟨rfl, rfl⟩
   go_wp2_with fail
   refine (lk_flying D4.out.1.1).mono ?_
   rintro e w5 ⟨rfl, rfl⟩
   rw [show k4.waits.length = 2 from rfl, show k4.win.length = 8 from rfl]
   go_wp2_with fail
   refine (so_takeX ⟨5, 3, 0, 4, .slice none 0 0, []⟩ D4.out.1 rfl kx5 (bs := false) (bb := false) rfl rfl (by decide) (by decide) (by decide) (by decide) (Sees.nil _) (by decide) (fun b hb => by cases hb)).mono ?_
   rintro e w5 ⟨R5, q5, n5, c5, rfl, -, D5, k5', -⟩
   have D5 := Lib.hid (And.intro D5 (And.intro D4.out.2.1 (D4.out.1.cell k5' D4.out.2.1 D4.out.2.2)))
   clear k5'
   go_wp2_with fail
   refine (lk_waiting D5.out.1.1).mono ?_
   rintro e w6 ⟨rfl, rfl⟩
   go_wp2_with fail
   refine (lk_flying D5.out.1.1).mono ?_
   rintro e w6 ⟨rfl, rfl⟩
   rw [show k5.waits.length = 2 from rfl, show k5.win.length = 5 from rfl]
   go_wp2_with fail
   refine (so_outX D5.out.1 kx6 (by decide) (by decide) (by decide) (by decide)).mono ?_
   rintro e w6 ⟨X6, vo6, rfl, hX, hp, D6, k6'⟩
   obtain ⟨g6, c6, rfl, y1, hg6, hg6'⟩ := outs_seq (l := (List.range' 9 2).map kP) hX hp 1 (pk := kP 10) rfl
   have x7 := D5.out.1.cell k6' D5.out.2.1 D5.out.2.2
   have m6 : (fun k => M4 k ∨ w5.heap.size ≤ k ∧ k < w6.heap.size) g6 := .inr ⟨hg6, hg6'⟩
   have m4 : (fun k => M4 k ∨ w5.heap.size ≤ k ∧ k < w6.heap.size) g4 := .inl D5.out.2.1
   obtain ⟨M6, hM6⟩ : ∃ M6, (fun k => M4 k ∨ w5.heap.size ≤ k ∧ k < w6.heap.size) = M6 := ⟨_, rfl⟩
   rw [hM6] at D6 m4 m6
   have D6 := Lib.hid (And.intro D6 (And.intro m4 (And.intro x7 (And.intro m6 y1))))
   clear hM6 hX hp x7 m4 m6 y1 hg6 hg6' k6'
   go_wp2_with fail
   refine (so_outX D6.out.1 kx6' (by decide) (by decide) (by decide) (by decide)).mono ?_
   rintro e w7 ⟨X7, vo7, rfl, hX, hp, D7, k7'⟩
   obtain rfl : X7 = [] := by simpa using hp
   obtain ⟨p7, c7, rfl, -⟩ := hX.len
   have m4 : (fun k => M6 k ∨ w6.heap.size ≤ k ∧ k < w7.heap.size) g4 := .inl D6.out.2.1
   have m6 : (fun k => M6 k ∨ w6.heap.size ≤ k ∧ k < w7.heap.size) g6 := .inl D6.out.2.2.2.1
   have x7 := D6.out.1.cell k7' D6.out.2.1 D6.out.2.2.1
   have y1 := D6.out.1.cell k7' D6.out.2.2.2.1 D6.out.2.2.2.2
   obtain ⟨M7, hM7⟩ : ∃ M7, (fun k => M6 k ∨ w6.heap.size ≤ k ∧ k < w7.heap.size) = M7 := ⟨_, rfl⟩
   rw [hM7] at D7 m4 m6
   have D7 := Lib.hid (And.intro D7 (And.intro m4 (And.intro x7 (And.intro m6 y1))))
   clear hM7 hX hp x7 m4 m6 y1 k7'
   rw [List.length_nil]
   go_wp2_with fail
   refine (so_tickX D7.out.1 kx7 (by decide)).mono ?_
   rintro e w8 ⟨rfl, D8, k8'⟩
   have D8 := Lib.hid (And.intro D8 (And.intro D7.out.2.1 (And.intro (D7.out.1.cell k8' D7.out.2.1 D7.out.2.2.1) (And.intro D7.out.2.2.2.1 (D7.out.1.cell k8' D7.out.2.2.2.1 D7.out.2.2.2.2)))))
   clear k8'
   go_wp2_with fail
   refine (so_outX D8.out.1 kx8 (by decide) (by decide) (by decide) (by decide)).mono ?_
   rintro e w9 ⟨X9, vo9, rfl, hX, hp, D9, k9'⟩
   obtain ⟨g9, c9, rfl, z0, hg9, hg9'⟩ := outs_seq (l := (List.range' 4 7).map kP) hX hp 0 (pk := kP 4) rfl
   have m4 : (fun k => M7 k ∨ w8.heap.size ≤ k ∧ k < w9.heap.size) g4 := .inl D8.out.2.1
   have m6 : (fun k => M7 k ∨ w8.heap.size ≤ k ∧ k < w9.heap.size) g6 := .inl D8.out.2.2.2.1
   have m9 : (fun k => M7 k ∨ w8.heap.size ≤ k ∧ k < w9.heap.size) g9 := .inr ⟨hg9, hg9'⟩
   have x7 := D8.out.1.cell k9' D8.out.2.1 D8.out.2.2.1
   have y1 := D8.out.1.cell k9' D8.out.2.2.2.1 D8.out.2.2.2.2
   obtain ⟨M9, hM9⟩ : ∃ M9, (fun k => M7 k ∨ w8.heap.size ≤ k ∧ k < w9.heap.size) = M9 := ⟨_, rfl⟩
   rw [hM9] at D9 m4 m6 m9
   have D9 := Lib.hid (And.intro D9 (And.intro (And.intro m4 (And.intro m6 m9)) (And.intro x7 (And.intro y1 z0))))
   clear hM9 hX hp x7 m4 m6 m9 y1 z0 hg9 hg9' k9'
   go_wp2_with fail
   refine (so_takeX ⟨5, 3, 0, 1152921504606846976, .slice none 0 0, []⟩ D9.out.1 rfl kx9 (bs := false) (bb := false) rfl rfl (by decide) (by decide) (by decide) (by decide) (Sees.nil _) (by decide) (fun b hb => by cases hb)).mono ?_
   rintro e wA ⟨RA, qA, nA, cA, rfl, -, DA, kA, -⟩
   have DA := Lib.hid (And.intro DA (keep3 D9.out.1 kA D9.out.2.1 D9.out.2.2))
   clear kA
   go_wp2_with fail
   refine (lk_flying DA.out.1.1).mono ?_
   rintro e wB ⟨rfl, rfl⟩
   rw [show k9.win.length = 0 from rfl]
   go_wp2_with fail
   refine (so_outX DA.out.1 kx9' (by decide) (by decide) (by decide) (by decide)).mono ?_
   rintro e wB ⟨XB, voB, rfl, hX, hp, DB, kB⟩
   obtain rfl : XB = [] := by simpa using hp
   obtain ⟨pB, cB, rfl, -⟩ := hX.len
   have gB := keep3 DA.out.1 kB D9.out.2.1 DA.out.2
   have mB : M9 g4 ∧ M9 g6 ∧ M9 g9 := D9.out.2.1
   have mB' : (fun k => M9 k ∨ wA.heap.size ≤ k ∧ k < wB.heap.size) g4 ∧ (fun k => M9 k ∨ wA.heap.size ≤ k ∧ k < wB.heap.size) g6 ∧ (fun k => M9 k ∨ wA.heap.size ≤ k ∧ k < wB.heap.size) g9 := ⟨.inl mB.1, .inl mB.2.1, .inl mB.2.2⟩
   obtain ⟨MB, hMB⟩ : ∃ MB, (fun k => M9 k ∨ wA.heap.size ≤ k ∧ k < wB.heap.size) = MB := ⟨_, rfl⟩
   rw [hMB] at DB mB'
   have DB := Lib.hid (And.intro DB (And.intro mB' gB))
   clear hMB hX hp mB mB' gB kB
   rw [List.length_nil]
   go_wp2_with fail
   refine (so_takeX ⟨4, 3, 1, 1, .slice none 0 0, []⟩ DB.out.1 rfl kx10 (bs := false) (bb := false) rfl rfl (by decide) (by decide) (by decide) (by decide) (Sees.nil _) (by decide) (fun b hb => by cases hb)).mono ?_
   rintro e wC ⟨RC, qC, nC, cC, rfl, -, DC, kC, -⟩
   have DC := Lib.hid (And.intro DC (keep3 DB.out.1 kC DB.out.2.1 DB.out.2.2))
   clear kC
   go_wp2_with fail
   refine (so_takeX ⟨5, 2, 1, 1, .slice none 0 0, []⟩ DC.out.1 rfl kx11 (bs := false) (bb := false) rfl rfl (by decide) (by decide) (by decide) (by decide) (Sees.nil _) (by decide) (fun b hb => by cases hb)).mono ?_
   rintro e wD ⟨RD, qD, nD, cD, rfl, -, DD, kD, -⟩
   have DD := Lib.hid (And.intro DD (keep3 DC.out.1 kD DB.out.2.1 DC.out.2))
   clear kD
   go_wp2_with fail
   have oD : Old wD (wD.alloc (.cells #[.int .u8 113] 5 (1, 2))) := (Keeps.refl _ _).alloc _
   refine (so_takeX ⟨5, 3, 1, 1, .slice (some ⟨wD.heap.size, 0, none⟩) 1 1, [113]⟩ (DD.out.1.old oD) rfl kx12 (bs := true) (bb := false) rfl rfl (by decide) (by decide) (by decide) (by decide) (sees_lit wD 113 113 rfl) (by show 1 ≤ _; omega) (own_new_not DD.out.1.1.facts.2.2.1)).mono ?_
   rintro e wE ⟨RE, qE, nE, cE, rfl, hoE, DE, kE, hbE⟩
   have DE' := keep3 (DD.out.1.old oD) kE DB.out.2.1 ⟨oD.cell DD.out.2.1 (fun f => f), oD.cell DD.out.2.2.1 (fun f => f), oD.cell DD.out.2.2.2 (fun f => f)⟩
   have DE := Lib.hid (And.intro DE (And.intro DE' (And.intro hoE hbE)))
   clear kE DE' hoE hbE oD
   go_wp2_with fail
   have oE : Old wE (wE.alloc (.cells #[.int .u8 113] 5 (1, 2))) := (Keeps.refl _ _).alloc _
   refine (so_takeX ⟨5, 3, 1, 1, .slice (some ⟨wE.heap.size, 0, none⟩) 1 1, [113]⟩ (DE.out.1.old oE) rfl kx13 (bs := false) (bb := false) rfl rfl (by decide) (by decide) (by decide) (by decide) (sees_lit wE 113 113 rfl) (by show 1 ≤ _; omega) (own_new_not DE.out.1.1.facts.2.2.1)).mono ?_
   rintro e wF ⟨RF, qF, nF, cF, rfl, -, DF, kF, -⟩
   have DF' := keep3 (DE.out.1.old oE) kF DB.out.2.1 ⟨oE.cell DE.out.2.1.1 (fun f => f), oE.cell DE.out.2.1.2.1 (fun f => f), oE.cell DE.out.2.1.2.2 (fun f => f)⟩
   have sm : Sees wF (.slice qE nE cE) [113] := (DE.out.2.2.1.sees.old oE).keeps kF DE.out.2.2.2
   have DF := Lib.hid (And.intro DF (And.intro DF' sm))
   clear kF DF' sm oE
   go_wp2_with fail
   refine (lnew_no wF).mono ?_
   rintro e wG ⟨rfl, rfl⟩
   go_wp2_with fail
   refine (take_nil (.slice none 0 0) ⟨1, 0, 0, 0, .slice none 0 0, []⟩ wF).mono ?_
   rintro e wH ⟨rfl, oH⟩
   have x7 := oH.cell DF.out.2.1.1 (fun f => f)
   have y1 := oH.cell DF.out.2.1.2.1 (fun f => f)
   have z0 := oH.cell DF.out.2.1.2.2 (fun f => f)
   have tx := (DF.out.2.2.old oH).text
   have OH := Lib.hid oH
   clear oH
   go_wp2_with fail
   clear x7 y1 z0 tx
   refine (send_nil _ wH).mono ?_
   rintro e wI ⟨rfl, rfl⟩
   go_wp2_with fail
   refine (tick_nil wH).mono ?_
   rintro e wI ⟨rfl, rfl⟩
   go_wp2_with fail
   refine (out_nil wH).mono ?_
   rintro e wI ⟨rfl, rfl⟩
   go_wp2_with fail
   refine (peer_nil wH).mono ?_
   rintro e wI ⟨rfl, rfl⟩
   go_wp2_with fail
   refine (waiting_nil wH).mono ?_
   rintro e wI ⟨rfl, rfl⟩
   go_wp2_with fail
   refine (flying_nil wH).mono ?_
   rintro e wI ⟨rfl, rfl⟩
   go_wp2_with fail
   go_ret
   exact ⟨rfl, Old.below (DF.out.1.2.2.trans OH.out)⟩
end Go.Proofs.Ytllnlimbfoingaa

namespace Go.Proofs.Ytllnlimbfoingaa.linkKnown
open Go.ChangeShapes Go.WideShapes Go.ChangeAt Go.RowKit
theorem own : ownKnob Try.prog.godebug = none := by kernel_rfl
theorem laidOut : laidOutB Try.prog = true := by kernel_rfl

set_option maxRecDepth 100000 in
theorem lifted (os : Os) (started : os.Started) (H : Type) (enc : TypeId × Value → H) :
  ReturnsInHanded {} Try.checked os 6 .any (Rows.linkKnownSpec.pre6 enc Try.prog Try.f6 Rows.linkKnownRow.domain false) (Rows.linkKnownSpec.post enc Try.prog Try.f6 false true false false) := by
 refine returnsInHanded_of_change (C := Try.checked) own started (by kernel_rfl) Try.func6
  (ChangeSpec.witness6 (enc := enc) (C := Try.checked) false ⟨#[], #[], []⟩ 8 (by kernel_rfl) (by kernel_rfl) (by kernel_rfl) (by kernel_rfl)) ?_
 intro W base args ds gs before hval0 hW _ _
 have hval : ∀ (j : Nat) t v, Try.f6.params[j]? = some t → args[j]? = some v → Value.okWide Try.prog W .any base t v := hval0
 have hW' := hW
 obtain ⟨p, q, hA0, hV, rfl, hfz, hnd⟩ := hW
 have hA : DataW.TrodAll enc Try.prog W 0 (fun _ => true) true Try.f6.params.toList args.toList ds p := hA0
 rw [Try.params6] at hA hval
 obtain ⟨rfl, rfl, rfl⟩ := trodAll_none hA
 obtain ⟨rfl, rfl⟩ := trodVars_none hV
 clear hA0 hval0
 refine (walk_LinkKnown W).mono fun e W' ⟨he, bel⟩ => ?_
 subst he
 exact ⟨_, rfl, _, _, _, [], _, [], hW', trodAll_mk1 (shut_bool Try.underlying4 _), trodAll_mk0, rfl, bel.frame _, fun h => by cases h⟩

theorem proved : Rows.LinkKnownSaid :=
 OpenClaim.holds_of_wide 6 Try.f6 rfl rfl rfl rfl rfl rfl rfl ⟨rfl, rfl, rfl, rfl, rfl⟩ rfl rfl rfl rfl rfl (by kernel_rfl) Try.func6 (by kernel_rfl)
  (of_decide_eq_true (by kernel_rfl)) (by unfold Func.isWrapper; first | (rw [if_pos (by decide +kernel)]; kernel_rfl) | (rw [if_neg (by decide +kernel)]; exact ⟨rfl, rfl⟩))
  (fun os started H enc _ => lifted os started H enc)
end Go.Proofs.Ytllnlimbfoingaa.linkKnown
