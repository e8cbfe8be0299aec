/- DERIVED. frame: what is put; the next record. · DERIVED. frame: the next record. · DERIVED. A range over a function whose body never leaves early: laws for the plain walk. · DERIVED. frame: the records, one behind the other: the iterator. · DERIVED. frame: the iterator's walk. -/
import Derived.Test.YtfnanbadbmmicaaGreatDoorZTopTorn02
import Derived.Deep.DeepCutAuto
import Derived.Test.YtfnanbadbmmicaaGreatDoorY01
import Derived.RangeFuncLeaves
import Derived.RangeFuncRecord
import Derived.TacticsIn
import Derived.Test.YtfnanbadbmmicaaGreatDoorY08
import Derived.OwnWalkIn
import Derived.TacticsInMore
import Derived.Maps.OwnIn
import Derived.IntWalk
namespace Go.Proofs.YtfnanbadbmmicaaGreatDoor
open Go.RowKit Torn

set_option maxRecDepth 100000 in
set_option maxHeartbeats 1000000 in
theorem frame_put_any (v : Value) (l : List UInt8) (w : World) (h : Sees w v l) (h1 : 1 ≤ l.length) (h2 : l.length ≤ 2048) : Calls Tryz.prog 8 #[v] w fun e w' => ∃ v', e = .returned (.tuple #[v', .int .i64 0]) ∧ Owns w' w.heap.size v' (frame crcS l) ∧ Old w w' := by
 obtain ⟨p, c, rfl, _, _⟩ := h.len
 have HH := Lib.hid h
 have b0 : ((l.length : Int) == 0) = false := beq_eq_false_iff_ne.2 (by omega)
 have b1 : decide (2048 < (l.length : Int)) = false := decide_eq_false (by omega)
 have b2 : decide (2048 < l.length) = false := decide_eq_false (by omega)
 have b3 : (l.length : Int) < 4294967296 := by omega
 have F := Lib.hid (frame_four_any l.length w (by omega))
 clear h
 go_enter Tryz.func8, Tryz.ntmps8
 go_wp2_with fail
 refine F.out.mono ?_
 rintro e w1 ⟨v1, rfl, own1, o1⟩
 have H1 := Lib.hid (And.intro own1 (And.intro o1 (HH.out.old o1)))
 clear own1 o1
 go_wp2_with (at_builtin; refine wpList_append_sees rfl _ _ rfl w.heap.size v1 (four l.length) rfl H1.out.1 (.slice p l.length c) l rfl H1.out.2.2 (by rw [four_len]; omega) H1.out.2.1.size ?_; intro v2 w2 own2 hgr)
 obtain ⟨p2, c2, rfl, _, _⟩ := own2.sees.len
 have P2 := Lib.hid (crc_put_any _ _ w2 own2.sees (by rw [List.length_append, four_len]; omega))
 have H2 := Lib.hid ((H1.out.2.1.then ((Keeps.refl (fun k => v1.ownBlock = some k) w1).grown hgr (fun k e _ => e)) (fun i hi e => by have := (H1.out.1.block i e).1; omega)))
 clear own2 hgr
 go_wp2_with fail
 refine P2.out.mono ?_
 rintro e w3 ⟨v3, rfl, own3, o3⟩
 have H3 := Lib.hid (And.intro (own3.mono (H2.out.size)) (H2.out.trans o3))
 clear own3 o3
 go_wp2_with fail
 go_ret2
 exact ⟨_, rfl, H3.out.1, H3.out.2⟩

theorem frame_size_any (v : Value) (n : Nat) (c : Nat) (p : Option Addr) (hv : v = .slice p n c) (w : World) (h1 : 1 ≤ n) (h2 : n ≤ 2048) : Calls Tryz.prog 69 #[v] w fun e w' => e = .returned (.int .i64 ((n : Int) + 8)) ∧ w = w' := by
 subst hv
 have b1 : decide (1 ≤ (n : Int)) = true := decide_eq_true (by omega)
 have b2 : decide (1 ≤ n) = true := decide_eq_true (by omega)
 have b3 : decide (n ≤ 2048) = true := decide_eq_true (by omega)
 have b4 : decide ((n : Int) ≤ 2048) = true := decide_eq_true (by omega)
 have b5 : (n : Int) ≤ 2048 := by omega
 go_enter Tryz.func69, Tryz.ntmps69
 go_wp2_with fail
 go_ret
 exact ⟨by simp; omega, rfl⟩
theorem frames_any (v : Value) (l : List UInt8) (w : World) (h : Sees w v l) : Calls Tryz.prog 46 #[v] w fun e w' =>
  e = .returned (.func (.func 68) #[] #[.pointer (some ⟨w.heap.size + 2, 0, none⟩), .pointer (some ⟨w.heap.size + 1, 0, none⟩)]) ∧ Old w w' ∧ w'.heap.size = w.heap.size + 3 ∧
  w'.heap[w.heap.size]? = some (.cells #[v] 25 (0, 0)) ∧ w'.heap[w.heap.size + 1]? = some (.cells #[.int .i64 0] 3 (0, 0)) ∧
  w'.heap[w.heap.size + 2]? = some (.cells #[.func (.func 65) #[] #[.pointer (some ⟨w.heap.size, 0, none⟩), .pointer (some ⟨w.heap.size + 1, 0, none⟩)]] 116 (0, 0)) := by
 obtain ⟨p, c, rfl, _, _⟩ := h.len
 clear h
 obtain ⟨W2, hW2⟩ : ∃ W2, (w.alloc (.cells #[.slice p l.length c] 25)).alloc (.cells #[.int .i64 0] 3) = W2 := ⟨_, rfl⟩
 have z2 : W2.heap.size = w.heap.size + 1 + 1 := by rw [← hW2]; simp
 have o2 : Old w W2 := by rw [← hW2]; exact ((Keeps.refl _ _).alloc _).alloc _
 have a1 : W2.heap[w.heap.size]? = some (.cells #[.slice p l.length c] 25 (0, 0)) := by rw [← hW2, Below.heap_alloc _ _ _ (by simp)]; exact heap_alloc_new _ _
 have a2 : W2.heap[w.heap.size + 1]? = some (.cells #[.int .i64 0] 3 (0, 0)) := by rw [← hW2]; have := heap_alloc_new (w.alloc (.cells #[.slice p l.length c] 25)) (.cells #[.int .i64 0] 3); rwa [World.size_alloc] at this
 have a3 := heap_alloc_new W2 (.cells #[.nilFunc] 116)
 rw [z2] at a3
 have cf := blk1 a3
 have A := Lib.hid (And.intro o2 (And.intro z2 (And.intro a1 (And.intro a2 a3))))
 have HW := Lib.hid hW2
 have HF := Lib.hid cf
 clear o2 z2 a1 a2 a3 hW2 cf
 go_enter Tryz.func46, Tryz.ntmps46
 go_upto_region 2 with fail
 rw [HW.out]
 have z2 := A.out.2.1
 have hst : ∀ v : Value, v.oneCell' = true → (store ⟨w.heap.size + 1 + 1, 0, none⟩ v).run Tryz.prog (W2.alloc (.cells #[.nilFunc] 116)) = .ok () ((W2.alloc (.cells #[.nilFunc] 116)).setCell ⟨w.heap.size + 1 + 1, 0, none⟩ v) := fun v hv => by
  rw [run_store _ _ _ _ _ hv, HF.out.1]; simp [HF.out.2]
 have hst := hst (.func (.func 65) #[] #[.pointer (some ⟨w.heap.size, 0, none⟩), .pointer (some ⟨w.heap.size + 1, 0, none⟩)]) rfl
 go_wp2_with fail
 go_ret
 refine ⟨rfl, A.out.1.alloc _, by simp [A.out.2.1], ?_, ?_, ?_⟩
 ·rw [Below.heap_alloc _ _ _ (by rw [A.out.2.1]; omega)]
  exact A.out.2.2.1
 ·rw [Below.heap_alloc _ _ _ (by rw [A.out.2.1]; omega)]
  exact A.out.2.2.2.1
 ·rw [show w.heap.size + 2 = W2.heap.size by rw [A.out.2.1]]
  exact heap_alloc_new _ _
end Go.Proofs.YtfnanbadbmmicaaGreatDoor

namespace Go.Proofs.YtfnanbadbmmicaaGreatDoor
open Go.RowKit Torn

/-- what is told of the next record -/
def NextP (L : List UInt8) (w : World) (e : Ending) (w' : World) : Prop := Old w w' ∧ match first crcS L with
 | some r => ∃ g c, e = .returned (.slice (some ⟨g, 4, none⟩) r.length c) ∧ Sees w' (.slice (some ⟨g, 4, none⟩) r.length c) r ∧ w.heap.size ≤ g ∧ g < w'.heap.size
 | none => e = .returned (.slice none 0 0)
/-- the bytes that are cut off the front -/
theorem first_takeC {L : List UInt8} {n : Nat} (h4 : 4 ≤ L.length) (hn : numb L = n) (h1 : 1 ≤ n) (h2 : n ≤ 2048) (h8 : n + 8 ≤ L.length) : first crcS L = (takeC (L.take (n + 8))).map (·.drop 4) := by
 have hl : (L.take (n + 8)).length = n + 8 := by rw [List.length_take]; omega
 unfold first takeC
 rw [if_neg (by omega), hn, if_neg (by omega), hl, show n + 8 - 4 = 4 + n by omega]
 have ht : (L.take (n + 8)).take (4 + n) = L.take (4 + n) := by rw [List.take_take, Nat.min_eq_left (by omega)]
 have hd : numb ((L.take (n + 8)).drop (4 + n)) = numb (L.drop (4 + n)) := by
  refine numb_take _ _ ?_ (by rw [List.length_drop, hl]; omega)
  rw [List.drop_take, List.take_take]
  congr 1
  omega
 rw [ht, hd]
 by_cases e : numb (L.drop (4 + n)) = crcS (L.take (4 + n))
 ·rw [if_pos e, if_pos ⟨by omega, e⟩]; rfl
 ·rw [if_neg e, if_neg (fun h => e h.2)]; rfl
/-- what the four bytes of a record's length are followed by -/
theorem drop_four {w : World} {B : Nat} {v : Value} {l : List UInt8} (h : Owns w B v l) (hl : 4 < l.length) : ∃ g c c', v = .slice (some ⟨g, 0, none⟩) l.length c ∧ B ≤ g ∧ g < w.heap.size ∧
  (∀ W, (Instr.slice 25 v (some (.int .i64 4)) none none).run Tryz.prog W = .ok (.slice (some ⟨g, 4, none⟩) (l.drop 4).length c') W) ∧ Sees w (.slice (some ⟨g, 4, none⟩) (l.drop 4).length c') (l.drop 4) := by
 have hb := h.block
 have hs := h.sees
 obtain ⟨h1, h2⟩ := h
 rcases h2 with ⟨rfl, h0⟩ | ⟨g, cap, cur, rfl, hb', hgg, hn, hm, hsz, ht⟩
 ·omega
 ·have hg := hb g rfl
  have hx := hs.sliced 4 l.length (by omega) (Nat.le_refl _)
  rw [List.take_of_length_le (Nat.le_refl _)] at hx
  have e : Go.sliced (some ⟨g, 0, none⟩) 4 l.length cap 1 = .slice (some ⟨g, 4, none⟩) (l.drop 4).length (cap - 4) := by
   unfold Go.sliced
   rw [if_neg (by omega), List.length_drop]
   rfl
  rw [e] at hx
  refine ⟨g, cap, cap - 4, rfl, hg.1, hg.2, fun W => ?_, hx.1⟩
  have h4 : (4 : Int) ≤ (l.length : Int) := by omega
  simp [go_sem, h4]
  omega
/-- x[lo:hi], as an equation on the run -/
theorem Sees.between {w : World} {p : Option Addr} {n c : Nat} {l : List UInt8} (h : Sees w (.slice p n c) l) (lo hi : Nat) (h0 : lo ≤ hi) (h1 : hi ≤ l.length) (x y : Int) (hx : x = (lo : Int)) (hy : y = (hi : Int)) :
  ∃ p' c', (∀ W, (Instr.slice 25 (.slice p n c) (some (.int .i64 x)) (some (.int .i64 y)) none).run Tryz.prog W = .ok (.slice p' (hi - lo) c') W) ∧ Sees w (.slice p' (hi - lo) c') ((l.take hi).drop lo) := by
 obtain ⟨p0, c0, he, hc, _⟩ := h.len
 simp only [Value.slice.injEq] at he
 obtain ⟨rfl, rfl, rfl⟩ := he
 have hs := h.sliced lo hi h0 h1
 refine ⟨_, _, fun W => ?_, hs.1⟩
 subst hx
 subst hy
 have hlo : (lo : Int) ≤ (hi : Int) := by omega
 have hhi : (hi : Int) ≤ (c : Int) := by omega
 simp [go_sem, hlo, hhi]
set_option maxRecDepth 100000 in
set_option maxHeartbeats 1000000 in
theorem next_any (bb ab : Nat) (v : Value) (L : List UInt8) (k : Nat) (w : World) (hb : w.heap[bb]? = some (.cells #[v] 25 (0, 0))) (ha : w.heap[ab]? = some (.cells #[.int .i64 k] 3 (0, 0))) (h : Sees w v L) (hk : k ≤ L.length) (hl : L.length ≤ 1000000000) :
  Calls Tryz.prog 65 #[.pointer (some ⟨bb, 0, none⟩), .pointer (some ⟨ab, 0, none⟩)] w (NextP (L.drop k) w) := by
 obtain ⟨p, c, rfl, hc1, hc2⟩ := h.len
 have hd : (L.drop k).length = L.length - k := List.length_drop
 have cb := blk1 hb
 have ca := blk1 ha
 have i1 : (k : Int) ≤ (L.length : Int) := by omega
 have i2 : (L.length : Int) ≤ 1000000000 := by omega
 obtain ⟨p1, c1, r1, s1, _⟩ := h.from k hk .i64 (k : Int) rfl
 by_cases h4 : L.length - k < 4
 ·have t1 : decide ((L.length : Int) - (k : Int) < 4) = true := decide_eq_true (by omega)
  have HN : Hid (first crcS (L.drop k) = none) := Lib.hid (by unfold first; rw [if_pos (by omega)])
  clear h s1 hd hk hl hb ha h4
  go_enter Tryz.func65, Tryz.ntmps65
  go_wp2_with fail
  go_ret
  refine ⟨Keeps.refl _ _, ?_⟩
  rw [HN.out]
  rfl
 have t1 : decide ((L.length : Int) - (k : Int) < 4) = false := decide_eq_false (by omega)
 obtain ⟨n, hn⟩ : ∃ n, numb (L.drop k) = n := ⟨_, rfl⟩
 have hn32 : (n : Int) < 4294967296 := by
  have h1 : 4 ≤ (L.drop k).length := by omega
  have := numb_at (L.drop k) h1
  have a0 := (L.drop k)[0].toNat_lt
  have a1 := (L.drop k)[1].toNat_lt
  have a2 := (L.drop k)[2].toNat_lt
  have a3 := (L.drop k)[3].toNat_lt
  omega
 have HN : Hid (∀ w', Old w w' → Calls Tryz.prog 66 #[.slice p1 (L.length - k) c1] w' fun e w2 => e = .returned (.int .u32 (n : Int)) ∧ Old w w2) := Lib.hid fun w' ho => by
  refine (frame_number_any _ _ w' (s1.old ho) (by omega)).mono ?_
  rintro e w' ⟨rfl, m, rfl⟩
  exact ⟨by rw [hn], Old.drewN ho m⟩
 have HB := Lib.hid (And.intro hb (And.intro ha (And.intro h s1)))
 have HF : Hid (n < 1 ∨ 2048 < n ∨ L.length - k < n + 8 → first crcS (L.drop k) = none) := Lib.hid fun hq => by
  unfold first; rw [if_neg (by omega), hn, if_pos (by omega)]
 have HG : Hid (1 ≤ n → n ≤ 2048 → n + 8 ≤ L.length - k → first crcS (L.drop k) = (takeC ((L.drop k).take (n + 8))).map (·.drop 4)) := Lib.hid fun g1 g2 g3 => first_takeC (by omega) hn g1 g2 (by omega)
 clear h s1 hn hb ha
 go_enter Tryz.func65, Tryz.ntmps65
 go_wp2_with fail
 refine (HN.out _ (Keeps.refl _ _)).mono ?_
 rintro e w1 ⟨rfl, o1⟩
 have hb1 := (o1.block _ (hp_lt HB.out.1) (fun f => f)).trans HB.out.1
 have ha1 := (o1.block _ (hp_lt HB.out.2.1) (fun f => f)).trans HB.out.2.1
 clear cb ca
 have cb := blk1 hb1
 have ca := blk1 ha1
 have H1 := Lib.hid (And.intro o1 (HB.out.2.2.1.old o1))
 clear hb1 ha1 o1
 have n0 : (0 : Int) ≤ (n : Int) := by omega
 by_cases g1 : n < 1
 ·have t2 : decide ((n : Int) < 1) = true := decide_eq_true (by omega)
  have HR := Lib.hid (HF.out (.inl g1))
  clear g1
  go_wp2_with fail
  go_ret
  refine ⟨H1.out.1, ?_⟩
  rw [HR.out]
  rfl
 have t2 : decide ((n : Int) < 1) = false := decide_eq_false (by omega)
 by_cases g2 : 2048 < n
 ·have t3 : decide ((2048 : Int) < (n : Int)) = true := decide_eq_true (by omega)
  have HR := Lib.hid (HF.out (.inr (.inl g2)))
  clear g2 g1
  go_wp2_with fail
  go_ret
  refine ⟨H1.out.1, ?_⟩
  rw [HR.out]
  rfl
 have t3 : decide ((2048 : Int) < (n : Int)) = false := decide_eq_false (by omega)
 have i3 : (n : Int) ≤ 2048 := by omega
 by_cases g3 : L.length - k < n + 8
 ·have t4 : decide ((L.length : Int) - (k : Int) < 4 + (n : Int) + 4) = true := decide_eq_true (by omega)
  have HR := Lib.hid (HF.out (.inr (.inr g3)))
  clear g3 g2 g1
  go_wp2_with fail
  go_ret
  refine ⟨H1.out.1, ?_⟩
  rw [HR.out]
  rfl
 have t4 : decide ((L.length : Int) - (k : Int) < 4 + (n : Int) + 4) = false := decide_eq_false (by omega)
 obtain ⟨p2, c2, r2, s2⟩ := H1.out.2.between k (k + (n + 8)) (by omega) (by omega) (k : Int) ((k : Int) + 4 + (n : Int) + 4) rfl (by omega)
 have e2 : (L.take (k + (n + 8))).drop k = (L.drop k).take (n + 8) := by rw [List.drop_take, show k + (n + 8) - k = n + 8 by omega]
 rw [show k + (n + 8) - k = n + 8 by omega] at r2 s2
 rw [e2] at s2
 have lq : ((L.drop k).take (n + 8)).length = n + 8 := by rw [List.length_take]; omega
 have HT := Lib.hid (crc_take_any _ _ w1 s2 (by omega) (by omega))
 have HR := Lib.hid (HG.out (by omega) (by omega) (by omega))
 have HL := Lib.hid (And.intro lq (show 1 ≤ n by omega))
 clear s2 e2 g1 g2 g3 lq
 go_wp2_with fail
 refine HT.out.mono ?_
 rintro e w2 ⟨o2, hq⟩
 cases hx : takeC ((L.drop k).take (n + 8)) with
 | none =>
  rw [hx] at hq
  obtain ⟨z, rfl, hz⟩ := hq
  have z1 : (z != 0) = true := by simpa using hz
  have HO : Hid (NextP (L.drop k) w (.returned (.slice none 0 0)) w2) := Lib.hid ⟨H1.out.1.trans o2, by rw [HR.out, hx]; rfl⟩
  clear o2 hz hx
  go_wp2_with fail
  go_ret
  exact HO.out
 | some r =>
  rw [hx] at hq
  obtain ⟨v3, rfl, own3⟩ := hq
  have hr4 : 4 < r.length := by
   unfold takeC at hx
   split at hx
   ·simp only [Option.some.injEq] at hx
    rw [← hx, List.length_take, HL.out.1]
    have := HL.out.2
    omega
   ·cases hx
  obtain ⟨g, c3, c4, rfl, hg1, hg2, r3, s3⟩ := drop_four own3 hr4
  have HO : Hid (NextP (L.drop k) w (.returned (.slice (some ⟨g, 4, none⟩) (r.length - 4) c4)) w2) := Lib.hid ⟨H1.out.1.trans o2, by
   rw [HR.out, hx]
   have e4 : (r.drop 4).length = r.length - 4 := List.length_drop
   exact ⟨g, c4, by rw [e4], s3, by have := H1.out.1.size; omega, hg2⟩⟩
  clear o2 hx own3 s3 hg1 hg2 hr4
  go_wp2_with fail
  go_ret
  exact HO.out
end Go.Proofs.YtfnanbadbmmicaaGreatDoor

namespace Go.Proofs.YtfnanbadbmmicaaGreatDoor
open Go.RowKit

/-- the record of a loop whose rounds leave no jump -/
abbrev lrec (fn : FuncId) (tmps : Array Value) (ps : Array Tmp) (assign body : Code) (D : Nat) (st : LoopState) : Loop := { state := st, pending := none, fn := fn, tmps := tmps, params := ps, assign := assign, body := body, defers := D }

/-- the world where the loop begins -/
def loopW (w : World) (r : Loop) : World := (w.alloc (.deferred (some []))).alloc (.loop r)
theorem loopW_size (w : World) (r : Loop) : (loopW w r).heap.size = w.heap.size + 2 := by simp [loopW]
theorem loopW_rec (w : World) (r : Loop) : (loopW w r).heap[w.heap.size + 1]? = some (.loop r) := by
 unfold loopW
 have := World.alloc_heap_new (w.alloc (.deferred (some []))) (.loop r)
 rwa [World.size_alloc] at this
theorem loopW_def (w : World) (r : Loop) : (loopW w r).heap[w.heap.size]? = some (.deferred (some [])) := by
 unfold loopW
 exact (Below.heap_alloc _ _ _ (by simp)).trans (World.alloc_heap_new w _)
theorem loopW_old (w : World) (r : Loop) : Old w (loopW w r) := ((Keeps.refl _ _).alloc _).alloc _
theorem Keeps.putObj {S : Nat → Prop} {a w : World} (h : Keeps S a w) {r : Nat} (hp : r < a.heap.size → S r) (o : Obj) : Keeps S a (w.putObj r o) :=
 ⟨h.os, h.tape, h.output, by simpa using h.size, fun k hk hs => (World.putObj_heap_other (fun e => hs (by subst e; exact hp hk))).trans (h.block k hk hs)⟩

/-- the statement -/
theorem wp_rangeFunc {P : Program} {g : Operand} {ps : Array Tmp} {assign body : Code} {Q : Exit → Act → World → Prop} {a : Act} {w : World} {gf : Nat} {lb : Array Value}
  (hg : a.eval g = .func (.func gf) #[] lb) (eg : ∀ args w, (callFunc gf args).run P w = .ok (.enter gf args) w)
  (h : ∀ fn, Calls P gf (#[.func (.yield (w.heap.size + 1)) #[] #[]] ++ lb) (loopW w (lrec fn a.tmps ps assign body w.heap.size .ready)) fun e W' =>
   (∃ v, e = .returned v) ∧ W'.heap[w.heap.size + 1]? = some (.loop (lrec fn a.tmps ps assign body w.heap.size .ready)) ∧
   Q .normal { a with defers := { target := .collected w.heap.size, args := #[] } :: a.defers } (W'.putObj (w.heap.size + 1) (.loop (lrec fn a.tmps ps assign body w.heap.size .exhausted)))) :
  (Code.rangeFunc g ps assign body).wp P Q a w := by
 refine (wpIn_wide (n := 1)).1 (wpIn_rangeFunc ?_)
 intro fn _
 refine ⟨w.heap.size + 1, [{ target := .collected w.heap.size, args := #[] }], loopW w (lrec fn a.tmps ps assign body w.heap.size .ready), { target := .fn (.func gf) lb, args := #[.func (.yield (w.heap.size + 1)) #[] #[]] },
  loopW w (lrec fn a.tmps ps assign body w.heap.size .ready), gf, #[.func (.yield (w.heap.size + 1)) #[] #[]] ++ lb, loopW w (lrec fn a.tmps ps assign body w.heap.size .ready), ?_, ?_, ?_, ?_, fun _ => Nat.le_refl _, ?_⟩
 ·exact run_enterLoop_outer _ _ _ _ _
 ·simp only [resolve, hg]
  simp [go_sem]
 ·intro f' _; trivial
 ·simp [invoke, go_sem, eg]
 ·refine callsIn_wide.2 ((h fn).mono ?_)
  rintro e W' ⟨⟨v, rfl⟩, hl, hq⟩
  exact ⟨none, _, run_endLoop hl (by simp), hq⟩

/-- a round, as the iterator sees it -/
def Round (P : Program) (l : Nat) (args : Array Value) (W : World) (R : World → Prop) : Prop :=
 ∃ fn tmps assign body, (Instr.yield l args).run P W = .ok (.round l fn tmps assign body) W ∧ RoundIn Fence.wide 0 P l fn tmps assign body W fun e w' => e = .returned (.bool true) ∧ R w'
theorem Round.of {P : Program} {l : Nat} {args : Array Value} {W : World} {R : World → Prop} {fn : FuncId} {tmps : Array Value} {ps : Array Tmp} {assign body : Code} {D : Nat}
  (hl : W.heap[l]? = some (.loop (lrec fn tmps ps assign body D .ready))) (hs : args.size = ps.size)
  (h : assign.wpIn (Fence.wide.inRound l) 0 P (Exit.then (fun a₁ w₁ => w₁.heap[l]? = some (.loop (lrec fn tmps ps assign body D .ready)) ∧
   body.wpIn (Fence.wide.inRound l) 0 P (fun e _ w₂ => e = .normal ∧ w₂.heap[l]? = some (.loop (lrec fn tmps ps assign body D .busy)) ∧ R (w₂.putObj l (.loop (lrec fn tmps ps assign body D .ready)))) a₁ (w₁.putObj l (.loop (lrec fn tmps ps assign body D .busy)))) (fun _ _ _ => False))
   { tmps := (ps.zip args).foldl (fun t (p, v) => t.setIfInBounds p v) tmps, defers := [] } W) : Round P l args W R := by
 refine ⟨fn, _, assign, body, run_yield hl hs, roundIn_of_wpIn trivial (wpIn_mono h ?_)⟩
 intro e a w hq
 cases e with
 | normal =>
  obtain ⟨hl1, hb⟩ := hq
  refine ⟨_, run_beginRound hl1 rfl, wpIn_mono hb ?_⟩
  rintro e2 a2 w2 ⟨rfl, hl2, hR⟩
  exact ⟨_, _, run_endRound none hl2, rfl, hR⟩
 | ret => exact hq.elim
 | exit id => exact hq.elim
 | goto t => exact hq.elim
 | panic ch => exact hq.elim
 | outgrown => exact hq.elim

/-- a function that holds a range over a function: its walk is the plain one, with another end -/
theorem calls_of_marks {P : Program} {f : FuncId} {fn : Func} {c : Code} {args : Array Value} {w : World} {R : Ending → World → Prop} (hf : P.funcs[f]? = some fn) (hb : fn.body = some c)
  (h : c.wp P (bodyPostM Fence.wide 0 P fn R) { tmps := args ++ Array.replicate (fn.ntmps - args.size) undef, defers := [] } w) : Calls P f args w R :=
 (callsIn_wide (n := 0)).1 (callsIn_of_wp_marks hf hb trivial (wpIn_wide.2 h) rfl)
/-- the end: one mark -/
theorem post_mark {P : Program} {fn : Func} {R : Ending → World → Prop} {a : Act} {w : World} {D : Nat} {v : Value} (hd : a.defers = [{ target := .collected D, args := #[] }]) (hD : w.heap[D]? = some (.deferred (some [])))
  (hr : (results fn a.tmps).run P (w.putObj D (.deferred none)) = .ok v (w.putObj D (.deferred none))) (hR : R (.returned v) (w.putObj D (.deferred none))) : bodyPostM Fence.wide 0 P fn R .ret a w := by
 show LeavesInM Fence.wide 0 P fn a.tmps R a.defers .returning w
 rw [hd]
 exact ⟨by simp, .inl ⟨_, _, rfl, run_takeDeferred hD, ⟨v, hr, hR⟩⟩⟩
end Go.Proofs.YtfnanbadbmmicaaGreatDoor

namespace Go.Proofs.YtfnanbadbmmicaaGreatDoor
open Go.RowKit Torn

abbrev Rec := Value × List UInt8
abbrev encB (x : Rec) : List Value := [x.1]
abbrev fineB (x : Rec) (w : World) : Prop := Sees w x.1 x.2
theorem fineB_keeps : FineK (Prod.fst : Rec → Value) fineB := fun _ _ _ _ h hk hS => h.keeps hk hS
/-- what holds between two rounds -/
structure SpJ (w : World) (R : Loop) (v : Value) (rs : List Rec) (a wh : Nat) (W : World) : Prop where
 old : Old w W
 l : ∃ sv, W.heap[w.heap.size]? = some (.cells #[sv] 71 (0, 0)) ∧ OwnN W (w.heap.size + 7) 25 1 encB Prod.fst fineB sv rs
 wh : W.heap[w.heap.size + 1]? = some (.cells #[.int .i64 (wh : Int)] 3 (0, 0))
 b : W.heap[w.heap.size + 2]? = some (.cells #[v] 25 (0, 0))
 a : W.heap[w.heap.size + 3]? = some (.cells #[.int .i64 (a : Int)] 3 (0, 0))
 n : W.heap[w.heap.size + 4]? = some (.cells #[.func (.func 65) #[] #[.pointer (some ⟨w.heap.size + 2, 0, none⟩), .pointer (some ⟨w.heap.size + 3, 0, none⟩)]] 116 (0, 0))
 d : W.heap[w.heap.size + 5]? = some (.deferred (some []))
 r : W.heap[w.heap.size + 6]? = some (.loop R)
section
variable {w : World} {R : Loop} {v : Value} {rs : List Rec} {a wh : Nat} {W W' : World}
theorem SpJ.size (h : SpJ w R v rs a wh W) : w.heap.size + 7 ≤ W.heap.size := hp_lt h.r
theorem SpJ.to (h : SpJ w R v rs a wh W) (k : Old W W') : SpJ w R v rs a wh W' := by
 obtain ⟨sv, h1, h2⟩ := h.l
 have hz := h.size
 exact ⟨h.old.trans k, ⟨sv, (k.block _ (by omega) (fun f => f)).trans h1, h2.keeps fineB_keeps k (fun _ _ _ f => f)⟩, (k.block _ (by omega) (fun f => f)).trans h.wh, (k.block _ (by omega) (fun f => f)).trans h.b, (k.block _ (by omega) (fun f => f)).trans h.a,
  (k.block _ (by omega) (fun f => f)).trans h.n, (k.block _ (by omega) (fun f => f)).trans h.d, (k.block _ (by omega) (fun f => f)).trans h.r⟩
theorem SpJ.setA (h : SpJ w R v rs a wh W) (a' : Nat) : SpJ w R v rs a' wh (W.setCell ⟨w.heap.size + 3, 0, none⟩ (.int .i64 (a' : Int))) := by
 obtain ⟨sv, h1, h2⟩ := h.l
 have hz := h.size
 have hk : Keeps (fun k => k = w.heap.size + 3) W (W.setCell ⟨w.heap.size + 3, 0, none⟩ (.int .i64 (a' : Int))) := keepC _ _ _ _
 exact ⟨h.old.then hk (fun i hi e => by omega), ⟨sv, (hk.block _ (by omega) (by omega)).trans h1, h2.keeps fineB_keeps hk (fun b hb _ e => by omega)⟩, (hk.block _ (by omega) (by omega)).trans h.wh, (hk.block _ (by omega) (by omega)).trans h.b, blk1_set h.a _,
  (hk.block _ (by omega) (by omega)).trans h.n, (hk.block _ (by omega) (by omega)).trans h.d, (hk.block _ (by omega) (by omega)).trans h.r⟩
end
/-- a record that has come -/
def Came (w : World) (R : Loop) (v : Value) (rs : List Rec) (a wh : Nat) (x : Rec) (W : World) : Prop := SpJ w R v rs a wh W ∧ Sees W x.1 x.2 ∧ ∃ g c, x.1 = .slice (some ⟨g, 4, none⟩) x.2.length c ∧ w.heap.size + 7 ≤ g ∧ g < W.heap.size ∧ ∀ sv, W.heap[w.heap.size]? = some (.cells #[sv] 71 (0, 0)) → sv.ownBlock ≠ some g
theorem Came.of {w : World} {R : Loop} {v : Value} {rs : List Rec} {a wh : Nat} {W W' : World} {x : List UInt8} {g c : Nat} (h : SpJ w R v rs a wh W) (k : Old W W') (hs : Sees W' (.slice (some ⟨g, 4, none⟩) x.length c) x) (h1 : W.heap.size ≤ g) (h2 : g < W'.heap.size) :
  Came w R v rs a wh (.slice (some ⟨g, 4, none⟩) x.length c, x) W' := by
 have hz := h.size
 refine ⟨h.to k, hs, g, c, rfl, by omega, h2, fun sv hsv e => ?_⟩
 obtain ⟨sv', g1, g2⟩ := h.l
 rw [k.block _ (by omega) (fun f => f), g1] at hsv
 simp only [Option.some.injEq, Obj.cells.injEq, Array.mk.injEq, List.cons.injEq, and_true] at hsv
 subst hsv
 have := (g2.1.block g e).2
 omega
theorem Came.setA {w : World} {R : Loop} {v : Value} {rs : List Rec} {a wh : Nat} {W : World} {x : Rec} (h : Came w R v rs a wh x W) (a' : Nat) : Came w R v rs a' wh x (W.setCell ⟨w.heap.size + 3, 0, none⟩ (.int .i64 (a' : Int))) := by
 obtain ⟨h1, h2, g, c, h3, h4, h5, h6⟩ := h
 have hk : Keeps (fun k => k = w.heap.size + 3) W (W.setCell ⟨w.heap.size + 3, 0, none⟩ (.int .i64 (a' : Int))) := keepC _ _ _ _
 have hz := h1.size
 refine ⟨h1.setA a', h2.keeps hk (fun b hb e => by rw [h3] at hb; simp [Value.ownBlock] at hb; omega), g, c, h3, h4, Nat.lt_of_lt_of_le h5 hk.size, fun sv hsv => ?_⟩
 rw [hk.block _ (by omega) (by omega)] at hsv
 exact h6 sv hsv
theorem Came.drew {w : World} {R : Loop} {v : Value} {rs : List Rec} {a wh : Nat} {W : World} {x : Rec} (h : Came w R v rs a wh x W) : Came w R v rs a wh x W.drew := by
 obtain ⟨h1, h2, g, c, h3, h4, h5, h6⟩ := h
 exact ⟨h1.to (Keeps.refl _ _).drew, h2, g, c, h3, h4, h5, h6⟩
theorem first_len {S : List UInt8 → Nat} {b r : List UInt8} (h : first S b = some r) : 1 ≤ r.length ∧ r.length ≤ 2048 ∧ r.length + 8 ≤ b.length := by
 unfold first at h
 split at h
 ·cases h
 ·split at h
  ·cases h
  ·split at h
   ·simp only [Option.some.injEq] at h
    rw [← h, List.length_drop, List.length_take]
    omega
   ·cases h
/-- so far -/
def SplitAt (L : List UInt8) (rs : List (List UInt8)) (a : Nat) : Prop := a ≤ L.length ∧ ∀ K, split crcS (rs.length + K) L = rs ++ split crcS K (L.drop a)
theorem SplitAt.zero (L : List UInt8) : SplitAt L [] 0 := ⟨Nat.zero_le _, fun K => by simp⟩
theorem SplitAt.succ {L : List UInt8} {rs : List (List UInt8)} {a : Nat} {r : List UInt8} (h : SplitAt L rs a) (hf : first crcS (L.drop a) = some r) : SplitAt L (rs ++ [r]) (a + (r.length + 8)) := by
 have hl := first_len hf
 rw [List.length_drop] at hl
 have := h.1
 refine ⟨by omega, fun K => ?_⟩
 rw [List.length_append, List.length_singleton, Nat.add_assoc, Nat.add_comm 1 K, h.2 (K + 1), List.append_assoc]
 congr 1
 show (match first crcS (L.drop a) with | none => [] | some r => r :: split crcS K ((L.drop a).drop (r.length + 8))) = _
 rw [hf]
 simp only [List.drop_drop, List.singleton_append]
theorem SplitAt.done {L : List UInt8} {rs : List (List UInt8)} {a : Nat} (h : SplitAt L rs a) (hf : first crcS (L.drop a) = none) (K : Nat) : split crcS (rs.length + K) L = rs := by
 rw [h.2 K, split_none hf, List.append_nil]
/-- the record that is next, or none -/
def Pend (w : World) (R : Loop) (v : Value) (L : List UInt8) (rs : List Rec) (a : Nat) (r : Value) (W : World) : Prop :=
 (r = .slice none 0 0 ∧ first crcS (L.drop a) = none ∧ SpJ w R v rs a a W) ∨ ∃ x g c, first crcS (L.drop a) = some x ∧ r = .slice (some ⟨g, 4, none⟩) x.length c ∧ Came w R v rs a a (r, x) W
theorem Pend.of {w : World} {R : Loop} {v : Value} {L : List UInt8} {rs : List Rec} {a : Nat} {W W' : World} {e : Ending} (h : SpJ w R v rs a a W) (hn : NextP (L.drop a) W e W') : ∃ p n c, e = .returned (.slice p n c) ∧ Pend w R v L rs a (.slice p n c) W' := by
 obtain ⟨k, hq⟩ := hn
 cases hf : first crcS (L.drop a) with
 | none =>
  rw [hf] at hq
  exact ⟨_, _, _, hq, .inl ⟨rfl, hf, h.to k⟩⟩
 | some x =>
  rw [hf] at hq
  obtain ⟨g, c, he, hs, h1, h2⟩ := hq
  exact ⟨_, _, _, he, .inr ⟨x, g, c, hf, rfl, Came.of h k hs h1 h2⟩⟩
end Go.Proofs.YtfnanbadbmmicaaGreatDoor

namespace Go.Proofs.YtfnanbadbmmicaaGreatDoor
open Go.RowKit Torn
attribute [local go_sem] Oper.semAt_some

set_option maxRecDepth 100000 in
set_option maxHeartbeats 1000000 in
theorem frames2_any (w : World) (R : Loop) (v : Value) (L : List UInt8) (W : World) (h0 : SpJ w R v [] 0 0 W) (hv : Sees w v L) (hl : L.length ≤ 1000000000)
  (hR : ∀ rs a wh x W1, rs.length ≤ L.length → a ≤ L.length → Came w R v rs a wh x W1 → Round Tryz.prog (w.heap.size + 6) #[.int .i64 (a : Int), x.1] W1 (SpJ w R v (rs ++ [x]) a a)) :
  Calls Tryz.prog 68 #[.func (.yield (w.heap.size + 6)) #[] #[], .pointer (some ⟨w.heap.size + 4, 0, none⟩), .pointer (some ⟨w.heap.size + 3, 0, none⟩)] W fun e W' =>
   (∃ u, e = .returned u) ∧ ∃ rs a, SpJ w R v rs a a W' ∧ ∀ K, split crcS (rs.length + K) L = rs.map Prod.snd := by
 have HR := Lib.hid hR
 have cn := blk1 h0.n
 have HN := Lib.hid (next_any (w.heap.size + 2) (w.heap.size + 3) v L 0 W h0.b h0.a (hv.old h0.old) (Nat.zero_le _) hl)
 have H0 := Lib.hid (And.intro h0 hv)
 clear hR h0 hv
 go_enter Tryz.func68, Tryz.ntmps68
 go_wp2_with fail
 refine HN.out.mono ?_
 intro e W1 hn
 obtain ⟨p, n, c, rfl, hp⟩ := Pend.of H0.out.1 hn
 have HP := Lib.hid hp
 clear hn hp cn
 go_wp2_with fail
 go_loopw [4] (fun r wr => ∃ rs a, Pend w R v L rs a r wr ∧ SplitAt L (rs.map Prod.snd) a ∧ rs.length ≤ a) (fun _ wr => match wr.cell? ⟨w.heap.size + 3, 0, none⟩ with | some u => L.length - (intOf u).toNat | none => 0)
 case atStart => exact ⟨[], 0, HP.out, SplitAt.zero L, Nat.zero_le _⟩
 case round =>
  obtain ⟨rs, a, hp, hs, hra⟩ := hrel
  rcases hp with ⟨rfl, hf, hj⟩ | ⟨x, g, c', hf, rfl, hc⟩
  ·have HJ := Lib.hid (And.intro hj (fun K => hs.done hf K))
   clear hf hj hs
   go_wp2_with fail
   go_end0
   exact ⟨⟨_, rfl⟩, rs, a, HJ.out.1, fun K => by have := HJ.out.2 K; rwa [List.length_map] at this⟩
  ·have hl8 := first_len hf
   rw [List.length_drop] at hl8
   have hal := hs.1
   have g0 := hc.1
   have ca := blk1 g0.a
   have i1 : (x.length : Int) ≤ 2048 := by omega
   have i2 : (a : Int) ≤ 1000000000 := by omega
   have HC := Lib.hid (And.intro hc (And.intro hf hs))
   have HL := Lib.hid (And.intro hl8.1 (And.intro hl8.2.1 (And.intro hl8.2.2 hal)))
   clear hc hf hs hal g0 hl8
   have C2 := (HC.out.1.setA (a + (x.length + 8))).drew
   have e8 : ((a + (x.length + 8) : Nat) : Int) = (a : Int) + ((x.length : Int) + 8) := by omega
   have RD := HR.out rs (a + (x.length + 8)) a _ _ (by have := HL.out.2.2; omega) (by have := HL.out.2.2; omega) C2
   rw [e8] at C2 RD
   obtain ⟨fn, tmps, assign, body, hy, hr⟩ := RD
   have HRD := Lib.hid hr
   have HC2 := Lib.hid C2
   have c2 := blk1 C2.1.a
   rw [e8] at c2
   have HY := Lib.hid hy
   clear C2 e8 hy hr
   have hw8 : IntKind.i64.wrap ((a : Int) + ((x.length : Int) + 8)) = (a : Int) + ((x.length : Int) + 8) := IntWalk.i64_in _ (by omega)
   go_wp2_with fail
   go_region_with ((go_at_call 69; refine (frame_size_any _ x.length c' _ rfl _ HL.out.1 HL.out.2.1).mono ?_; rintro e w' ⟨rfl, rfl⟩))
   all_goals
    go_upto_region 4 with fail
    clear ca
    have c3 := c2
    have hy := HY.out
    refine (wpIn_wide (n := 1)).1 ?_
    gi_wp2
    refine HRD.out.mono ?_
    rintro e W3 ⟨rfl, hj3⟩
    clear c2 c3 hy
    have cn := blk1 hj3.n
    have HN3 := Lib.hid (next_any (w.heap.size + 2) (w.heap.size + 3) v L (a + (x.length + 8)) W3 hj3.b hj3.a (H0.out.2.old hj3.old) (by have := HL.out.2.2; omega) hl)
    have HJ3 := Lib.hid hj3
    clear hj3
    gi_wp2
    go_wp2_with fail
    refine HN3.out.mono ?_
    intro e W4 hn
    obtain ⟨p', n', c'', rfl, hp'⟩ := Pend.of HJ3.out hn
    have HP' := Lib.hid hp'
    clear hn hp' cn
    go_wp2_with fail
    go_roundw
    case rel => exact ⟨rs ++ [(.slice (some ⟨g, 4, none⟩) x.length c', x)], a + (x.length + 8), HP'.out, by rw [List.map_append]; exact HC.out.2.2.succ HC.out.2.1, by simp; omega⟩
    case measure =>
     have b1 : W4.cell? ⟨w.heap.size + 3, 0, none⟩ = some (.int .i64 ((a + (x.length + 8) : Nat) : Int)) := by
      rcases HP'.out with ⟨_, _, h⟩ | ⟨_, _, _, _, _, h⟩
      ·exact (blk1 h.a).1
      ·exact (blk1 h.1.a).1
     have b2 := (blk1 HC.out.1.1.a).1
     have := HL.out.2.2
     simp only [b1, b2, intOf]
     omega
end Go.Proofs.YtfnanbadbmmicaaGreatDoor
