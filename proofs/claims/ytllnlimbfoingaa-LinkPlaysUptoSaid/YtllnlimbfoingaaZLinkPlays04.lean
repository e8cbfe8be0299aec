/- DERIVED. Chapter 20: LinkPlays: the program's end and the document's, side by side in one memory. · DERIVED. Chapter 20: LinkPlays: every call of both, in one memory. · DERIVED. Plain: forms of numbers, and how they are read. No program in sight. -/
import Derived.Test.YtllnlimbfoingaaZLinkPlays03
import Derived.Laws.BitsLemmas
import Derived.Laws.Bits64
namespace Go.Proofs.Ytllnlimbfoingaa
open Go.RowKit Go.Conc

theorem dk_new0 (w : World) : Calls Try.prog 10 #[.int .u64 0] w fun e w' => e = .returned (.tuple #[.pointer none, .int .i64 1]) ∧ w = w' := by
 go_enter Try.func10, Try.ntmps10
 go_wp2_with fail
 go_ret2
 exact ⟨rfl, rfl⟩
/-- bounds behind i calls -/
structure PB (P : Dp) (i : Nat) : Prop where
 done : P.done ≤ P.F.length
 all : P.F.length + P.W.length ≤ i
 next : P.next ≤ i + 1
 life : 1 ≤ P.life
 eight : P.F.length - P.done ≤ 8
theorem PB.le {P : Dp} {i j : Nat} (h : PB P i) (hj : i ≤ j) : PB P j := ⟨h.done, Nat.le_trans h.all hj, by have := h.next; omega, h.life, h.eight⟩
theorem PB.new {life : Nat} (h : 1 ≤ life) : PB (Dp.new life) 0 := ⟨Nat.le_refl _, Nat.le_refl _, Nat.le_refl _, h, by simp [Dp.new]⟩
theorem PB.send {P : Dp} {i : Nat} (h : PB P i) (d : Bs) : PB (P.send d) (i + 1) := by
 obtain ⟨h1, h2, h3, h4, h5⟩ := h
 exact ⟨h1, by simp [Dp.send]; omega, by show P.next ≤ _; omega, h4, h5⟩
theorem PB.tick {P : Dp} {i : Nat} (h : PB P i) : PB P.tick i := ⟨h.done, h.all, h.next, h.life, h.eight⟩
theorem PB.begun {P : Dp} {i : Nat} (h : PB P i) (p : Pk) : PB (P.begun p) i := by
 unfold Dp.begun
 split
 ·exact ⟨Nat.le_refl _, by simp [Dp.new], by simp [Dp.new], h.life, by simp [Dp.new]⟩
 ·exact h
theorem PB.acked {P : Dp} {i : Nat} (h : PB P i) (a : Nat) : PB (P.acked a) i := by
 obtain ⟨h1, h2, h3, h4, h5⟩ := h
 refine ⟨?_, h2, h3, h4, ?_⟩
 ·show max P.done (min (a - 1) P.F.length) ≤ P.F.length; omega
 ·show P.F.length - max P.done (min (a - 1) P.F.length) ≤ 8; omega
theorem PB.owes {P : Dp} {i : Nat} (h : PB P i) (b : Bool) : PB { P with owes := b } i := ⟨h.done, h.all, h.next, h.life, h.eight⟩
theorem PB.take {P : Dp} {i : Nat} (h : PB P i) (p : Pk) : PB (P.take p).1 (i + 1) := by
 have hb := h.begun p
 have ha := hb.acked p.ack
 unfold Dp.take
 split
 ·exact h.le (by omega)
 split
 ·exact (hb.owes true).le (by omega)
 split
 ·exact ha.le (by omega)
 split
 ·exact (ha.owes true).le (by omega)
 ·obtain ⟨h1, h2, h3, h4, h5⟩ := ha.owes true
  exact ⟨h1, Nat.le_succ_of_le h2, Nat.succ_le_succ hb.next, h4, h5⟩
theorem PB.out {P : Dp} {i : Nat} (h : PB P i) : PB P.out i := by
 obtain ⟨h1, h2, h3, h4, h5⟩ := h
 have hl : P.out.F.length = P.F.length + P.room := by
  show (P.F ++ P.W.take P.room).length = _
  rw [List.length_append, List.length_take]
  unfold Dp.room
  omega
 have hw : P.out.W.length = P.W.length - P.room := by show (P.W.drop P.room).length = _; rw [List.length_drop]
 have hr : P.room ≤ P.W.length ∧ P.room ≤ 8 - (P.F.length - P.done) := by unfold Dp.room; omega
 refine ⟨?_, ?_, h3, h4, ?_⟩
 ·rw [hl]; show P.done ≤ _; omega
 ·rw [hl, hw]; omega
 ·rw [hl]; show P.F.length + P.room - P.done ≤ 8; omega
theorem en_win (P : Dp) : P.en.win.length = P.F.length - P.done := by
 show (num (P.done + 1) (P.F.drop P.done)).length = _
 rw [num_length, List.length_drop]
/-- both in one memory: R is what the program's end writes, db the document's block, M what the law itself writes -/
structure PlX (w0 w : World) (lb db : Nat) (R M : Nat → Prop) (P : Dp) : Prop where
 lk : Lk R (fun k => M k ∨ k = db) w lb P.en
 dk : Dk (fun k => M k ∨ R k) w db P
 lo : ∀ k, R k ∨ M k → w0.heap.size ≤ k
 db0 : w0.heap.size ≤ db
 old : Old w0 w
theorem Dk.lt {T : Nat → Prop} {w : World} {db : Nat} {P : Dp} (h : Dk T w db P) : (∀ k, T k → k < w.heap.size) ∧ db < w.heap.size ∧ ¬ T db := by
 obtain ⟨D, _, h0, h1, h2, _⟩ := h
 exact ⟨h2, lt_of_block h0, h1⟩
theorem PlX.lt {w0 w : World} {lb db : Nat} {R M : Nat → Prop} {P : Dp} (h : PlX w0 w lb db R M P) : (∀ k, R k → k < w.heap.size) ∧ (∀ k, M k → k < w.heap.size ∧ ¬ R k ∧ k ≠ db) ∧ db < w.heap.size ∧ ¬ R db :=
 ⟨h.lk.facts.2.2.1, fun k m => ⟨h.lk.facts.2.2.2 k (.inl m), h.lk.facts.2.1 k (.inl m), fun e => h.dk.lt.2.2 (.inl (e ▸ m))⟩, h.dk.lt.2.1, h.lk.facts.2.1 db (.inr rfl)⟩
/-- the law worked, in its own memory; what is new is its own -/
theorem PlX.work {w0 w w1 : World} {lb db : Nat} {R M M' : Nat → Prop} {P : Dp} (h : PlX w0 w lb db R M P) (hk : Keeps M w w1) (hM : ∀ k, M' k → M k ∨ w.heap.size ≤ k) (hl : ∀ k, M' k → k < w1.heap.size) : PlX w0 w1 lb db R M' P := by
 have hs := hk.size
 refine ⟨h.lk.to (hk.weaken (fun _ _ m => .inl m)) (fun k t => ?_) (fun k t => ?_), h.dk.to (hk.weaken (fun _ _ m => .inl m)) (fun k t => ?_) (fun k t => ?_), fun k t => ?_, h.db0, h.old.then hk (fun i hi m => by have := h.lo i (.inr m); omega)⟩
 ·rcases t with t | t
  ·rcases hM k t with t | t
   ·exact .inl (.inl t)
   ·exact .inr t
  ·exact .inl (.inr t)
 ·rcases t with t | t
  ·exact hl k t
  ·have := h.lt.2.2.1; omega
 ·rcases t with t | t
  ·rcases hM k t with t | t
   ·exact .inl (.inl t)
   ·exact .inr t
  ·exact .inl (.inr t)
 ·rcases t with t | t
  ·exact hl k t
  ·exact Nat.lt_of_lt_of_le (h.lt.1 k t) hs
 ·rcases t with t | t
  ·exact h.lo k (.inl t)
  ·rcases hM k t with t | t
   ·exact h.lo k (.inr t)
   ·exact Nat.le_trans h.old.size t
theorem PlX.keep {w0 w w1 : World} {lb db : Nat} {R M : Nat → Prop} {P : Dp} (h : PlX w0 w lb db R M P) (hk : Keeps M w w1) : PlX w0 w1 lb db R M P := h.work hk (fun _ m => .inl m) (fun k m => Nat.lt_of_lt_of_le (h.lt.2.1 k m).1 hk.size)
theorem PlX.more {w0 w w1 : World} {lb db : Nat} {R M : Nat → Prop} {P : Dp} (h : PlX w0 w lb db R M P) (hk : Old w w1) : PlX w0 w1 lb db R (fun k => M k ∨ w.heap.size ≤ k ∧ k < w1.heap.size) P :=
 h.work (hk.weaken (fun _ _ f => f.elim)) (fun k m => by rcases m with m | m; exact .inl m; exact .inr m.1) (fun k m => by rcases m with m | m; exact Nat.lt_of_lt_of_le (h.lt.2.1 k m).1 hk.size; exact m.2)
/-- half way: the program's end worked, the document's not yet -/
structure PlH (w0 w : World) (lb db : Nat) (R M : Nat → Prop) (E : En) (P : Dp) : Prop where
 lk : Lk R (fun k => M k ∨ k = db) w lb E
 dk : Dk (fun k => M k ∨ R k) w db P
 lo : ∀ k, R k ∨ M k → w0.heap.size ≤ k
 db0 : w0.heap.size ≤ db
 old : Old w0 w
theorem PlH.doc {w0 w w1 : World} {lb db : Nat} {R M : Nat → Prop} {E : En} {P P' : Dp} (h : PlH w0 w lb db R M E P) (hk : Keeps (fun k => k = db) w w1) (hD : Dk (fun k => M k ∨ R k) w1 db P') : PlH w0 w1 lb db R M E P' :=
 ⟨h.lk.to (hk.weaken (fun _ _ e => .inr e)) (fun _ t => .inl t) (fun k t => Nat.lt_of_lt_of_le (h.lk.facts.2.2.2 k t) hk.size), hD, h.lo, h.db0, h.old.then hk (fun i hi e => by have := h.db0; omega)⟩
theorem PlH.old' {w0 w w1 : World} {lb db : Nat} {R M : Nat → Prop} {E : En} {P : Dp} (h : PlH w0 w lb db R M E P) (hk : Old w w1) : PlH w0 w1 lb db R M E P := ⟨h.lk.old hk, h.dk.old hk, h.lo, h.db0, h.old.trans hk⟩
theorem PlX.half {w0 w : World} {lb db : Nat} {R M : Nat → Prop} {P : Dp} (h : PlX w0 w lb db R M P) : PlH w0 w lb db R M P.en P := ⟨h.lk, h.dk, h.lo, h.db0, h.old⟩
theorem PlH.whole {w0 w : World} {lb db : Nat} {R M : Nat → Prop} {E : En} {P : Dp} (h : PlH w0 w lb db R M E P) (e : P.en = E) : PlX w0 w lb db R M P := ⟨e ▸ h.lk, h.dk, h.lo, h.db0, h.old⟩
theorem PlH.prog {w0 w w1 : World} {lb db : Nat} {R R' M M' : Nat → Prop} {E E' : En} {P : Dp} (h : PlH w0 w lb db R M E P) (hk : Keeps R w w1) (hR : ∀ k, R' k → R k ∨ w.heap.size ≤ k) (hR1 : ∀ k, R' k → k < w1.heap.size) (hM : ∀ k, M' k → M k ∨ w.heap.size ≤ k) (hM1 : ∀ k, M' k → k < w1.heap.size)
  (hL : Lk R' (fun k => M' k ∨ k = db) w1 lb E') : PlH w0 w1 lb db R' M' E' P := by
 refine ⟨hL, h.dk.to (hk.weaken (fun _ _ m => .inr m)) (fun k t => ?_) (fun k t => ?_), fun k t => ?_, h.db0, h.old.then hk (fun i hi m => by have := h.lo i (.inl m); omega)⟩
 ·rcases t with t | t
  ·rcases hM k t with t | t
   ·exact .inl (.inl t)
   ·exact .inr t
  ·rcases hR k t with t | t
   ·exact .inl (.inr t)
   ·exact .inr t
 ·rcases t with t | t
  ·exact hM1 k t
  ·exact hR1 k t
 ·rcases t with t | t
  ·rcases hR k t with t | t
   ·exact h.lo k (.inl t)
   ·exact Nat.le_trans h.old.size t
  ·rcases hM k t with t | t
   ·exact h.lo k (.inr t)
   ·exact Nat.le_trans h.old.size t
theorem Lk.bounds {R T : Nat → Prop} {w : World} {lb : Nat} {E : En} (h : Lk R T w lb E) : (∀ f ∈ E.win, f.2.length ≤ 140737488355328) ∧ ∀ d ∈ E.waits, d.length ≤ 140737488355328 := by
 obtain ⟨L, rfl, _, _, _, _, _, _, h6⟩ := h
 obtain ⟨_, h1, h2⟩ := h6 w (Keeps.refl _ _)
 refine ⟨fun f hf => ?_, fun d hd => ?_⟩
 ·obtain ⟨x, hx, rfl⟩ := List.mem_map.1 (show f ∈ L.F.map Fl.plain from hf)
  exact (h2 x hx).2
 ·obtain ⟨x, hx, rfl⟩ := List.mem_map.1 (show d ∈ L.W.map (·.2) from hd)
  exact (h1 x hx).2
theorem outs_bound {E : En} (h1 : ∀ f ∈ E.win, f.2.length ≤ 140737488355328) (h2 : ∀ d ∈ E.waits, d.length ≤ 140737488355328) : ∀ p ∈ E.outs, p.data.length ≤ 140737488355328 := fun p hp => by
 rcases outs_mem hp with rfl | ⟨f, hf, rfl⟩
 ·exact Nat.zero_le _
 ·rcases List.mem_append.1 hf with hf | hf
  ·exact h1 f hf
  ·unfold En.fresh at hf
   obtain ⟨x, hx, rfl⟩ := List.mem_map.1 hf
   have hm : x.1 ∈ (E.waits.take E.room).zipIdx.map Prod.fst := List.mem_map_of_mem hx
   rw [List.zipIdx_map_fst] at hm
   exact h2 _ (List.mem_of_mem_take hm)
theorem outs_le (E : En) : E.outs.length ≤ E.win.length + E.waits.length + 1 := by
 unfold En.outs
 obtain ⟨A, hA⟩ : ∃ A, (if E.again = true then E.win else []) = A := ⟨_, rfl⟩
 have h1 : A.length ≤ E.win.length := by rw [← hA]; split <;> simp
 have h2 : E.fresh.length ≤ E.waits.length := by unfold En.fresh; simp; omega
 rw [hA]
 dsimp only
 by_cases hc : (((A ++ E.fresh).map E.pkt).isEmpty && E.owes) = true
 ·rw [if_pos hc]; simp
 ·rw [if_neg hc, List.length_map, List.length_append]; omega
end Go.Proofs.Ytllnlimbfoingaa

namespace Go.Proofs.Ytllnlimbfoingaa
open Go.RowKit Go.Conc
section
variable {w0 w : World} {lb db : Nat} {R M : Nat → Prop} {E : En} {P : Dp}
theorem PlH.lt (h : PlH w0 w lb db R M E P) : (∀ k, R k → k < w.heap.size) ∧ (∀ k, M k → k < w.heap.size ∧ ¬ R k ∧ k ≠ db) ∧ db < w.heap.size ∧ ¬ R db :=
 ⟨h.lk.facts.2.2.1, fun k m => ⟨h.lk.facts.2.2.2 k (.inl m), h.lk.facts.2.1 k (.inl m), fun e => h.dk.lt.2.2 (.inl (e ▸ m))⟩, h.dk.lt.2.1, h.lk.facts.2.1 db (.inr rfl)⟩
theorem PlH.mine (h : PlH w0 w lb db R M E P) {w1 : World} (hk : Keeps R w w1) (hL : Lk R (fun k => M k ∨ k = db) w1 lb E) : PlH w0 w1 lb db R M E P :=
 h.prog hk (fun _ r => .inl r) (fun k r => Nat.lt_of_lt_of_le (h.lt.1 k r) hk.size) (fun _ m => .inl m) (fun k m => Nat.lt_of_lt_of_le (h.lt.2.1 k m).1 hk.size) hL
theorem h_send (v : Value) (d : List UInt8) (h : PlH w0 w lb db R M E P) (hl : 1 ≤ E.life) (hp : 1 ≤ E.peer) (hn : E.waits.length ≤ 1000) (hv : Sees w v d) (hd : d.length ≤ 140737488355328) :
  Calls Try.prog 12 #[.pointer (some ⟨lb, 0, none⟩), v] w fun e w' => e = .returned (.int .i64 0) ∧ PlH w0 w' lb db R M (E.send d) P ∧ Keeps R w w' := by
 refine (lk_send v d h.lk hl hp hn hv hd).mono ?_
 rintro e w' ⟨rfl, hL, k⟩
 exact ⟨rfl, h.prog k (fun _ r => .inl r) (fun j r => Nat.lt_of_lt_of_le (h.lt.1 j r) k.size) (fun _ m => .inl m) (fun j m => Nat.lt_of_lt_of_le (h.lt.2.1 j m).1 k.size) hL, k⟩
theorem h_dsend (v : Value) (d : List UInt8) (h : PlH w0 w lb db R M E P) (hp : 1 ≤ P.peer) (hn : P.W.length ≤ 1000) (hv : Sees w v d) (hd : d.length ≤ 140737488355328) :
  Calls Try.prog 13 #[.pointer (some ⟨db, 0, none⟩), v] w fun e w' => e = .returned (.int .i64 0) ∧ PlH w0 w' lb db R M E (P.send d) ∧ Keeps (fun k => k = db) w w' := by
 refine (dk_send v d h.dk hp hn hv hd).mono ?_
 rintro e w' ⟨rfl, hL, k⟩
 exact ⟨rfl, h.doc k hL, k⟩
theorem h_tick (h : PlH w0 w lb db R M E P) (hl : 1 ≤ E.life) : Calls Try.prog 21 #[.pointer (some ⟨lb, 0, none⟩)] w fun e w' => e = .returned (.int .i64 0) ∧ PlH w0 w' lb db R M E.tick P ∧ Keeps R w w' := by
 refine (lk_tick h.lk hl).mono ?_
 rintro e w' ⟨rfl, hL, k⟩
 exact ⟨rfl, h.prog k (fun _ r => .inl r) (fun j r => Nat.lt_of_lt_of_le (h.lt.1 j r) k.size) (fun _ m => .inl m) (fun j m => Nat.lt_of_lt_of_le (h.lt.2.1 j m).1 k.size) hL, k⟩
theorem h_dtick (h : PlH w0 w lb db R M E P) : Calls Try.prog 22 #[.pointer (some ⟨db, 0, none⟩)] w fun e w' => e = .returned (.tuple #[]) ∧ PlH w0 w' lb db R M E P.tick ∧ Keeps (fun k => k = db) w w' := by
 refine (dk_tick h.dk).mono ?_
 rintro e w' ⟨rfl, hL, k⟩
 exact ⟨rfl, h.doc k hL, k⟩
theorem h_take (p : Pv) (h : PlH w0 w lb db R M E P) (hl : 1 ≤ E.life) (hf : E.win.length ≤ 8) (hla : E.last < 18446744073709551615) (hne : E.next < 18446744073709551615) (hv : Sees w p.v p.d) (hd : p.d.length ≤ 140737488355328) (hvb : ∀ b, p.v.ownBlock = some b → ¬ R b) :
  Calls Try.prog 14 #[.pointer (some ⟨lb, 0, none⟩), .agg p.cells.toArray] w fun e w' => ∃ (R' M' : Nat → Prop) (q : Option Addr) (n c : Nat), e = .returned (.tuple #[.slice q n c, .bool (E.take p.plain).2.isSome, .bool (decide (E.peer < p.src))]) ∧
   Owns w' w.heap.size (.slice q n c) ((E.take p.plain).2.getD []) ∧ PlH w0 w' lb db R' M' (E.take p.plain).1 P ∧ Keeps R w w' ∧ (∀ k, M k → M' k) ∧ (∀ b, (Value.slice q n c).ownBlock = some b → M' b) ∧ (∀ k, R' k → R k ∨ w.heap.size ≤ k) ∧ (∀ k, M' k → M k ∨ w.heap.size ≤ k) := by
 refine (lk_take p h.lk hl hf hla hne hv hd hvb).mono ?_
 rintro e w' ⟨R', q, n, c, rfl, ho, hb, hR, hR0, hR1, k, hL⟩
 have hL' := hL (fun j => (M j ∨ w.heap.size ≤ j ∧ j < w'.heap.size ∧ ¬ R' j) ∨ j = db) (fun j t => by
  rcases t with (t | t) | t
  ·exact .inl (.inl t)
  ·exact .inr ⟨t.1, t.2.2⟩
  ·exact .inl (.inr t)) (fun j t => by
  rcases t with (t | t) | t
  ·exact Nat.lt_of_lt_of_le (h.lt.2.1 j t).1 k.size
  ·exact t.2.1
  ·have := h.lt.2.2.1; have := k.size; omega)
 exact ⟨R', fun j => M j ∨ w.heap.size ≤ j ∧ j < w'.heap.size ∧ ¬ R' j, q, n, c, rfl, ho, h.prog k hR hR1 (fun j m => by rcases m with m | m; exact .inl m; exact .inr m.1) (fun j m => by rcases m with m | m; exact Nat.lt_of_lt_of_le (h.lt.2.1 j m).1 k.size; exact m.2.1) hL', k, fun _ m => .inl m,
  fun b hb' => .inr ⟨(ho.block b hb').1, (ho.block b hb').2, hb b hb'⟩, hR, fun j m => by rcases m with m | m; exact .inl m; exact .inr m.1⟩
theorem h_dtake (p : Pv) (h : PlH w0 w lb db R M E P) (hdn : P.done ≤ P.F.length) (hne : P.next < 18446744073709551615) (hvb : ∀ W, Keeps (fun k => k = db) w W → Sees W p.v p.d) (hd : p.d.length ≤ 140737488355328) :
  Calls Try.prog 15 #[.pointer (some ⟨db, 0, none⟩), .agg p.cells.toArray] w fun e w' => ∃ (q : Option Addr) (n c : Nat), e = .returned (.tuple #[.slice q n c, .bool (P.take p.plain).2.isSome, .bool (P.anewB p.plain)]) ∧
   Owns w' w.heap.size (.slice q n c) ((P.take p.plain).2.getD []) ∧ PlH w0 w' lb db R M E (P.take p.plain).1 ∧ Keeps (fun k => k = db) w w' := by
 refine (dk_take p h.dk hdn hne hvb hd).mono ?_
 rintro e w' ⟨q, n, c, rfl, ho, hL, k⟩
 exact ⟨q, n, c, rfl, ho, h.doc k hL, k⟩
theorem h_out (h : PlH w0 w lb db R M E P) (hl : 1 ≤ E.life) (hf : E.win.length ≤ 8) (hW : E.waits.length ≤ 1000) (hla : E.last + E.waits.length < 18446744073709551615) :
  Calls Try.prog 17 #[.pointer (some ⟨lb, 0, none⟩)] w fun e w' => ∃ (X : List Pv) (vo : Value), e = .returned vo ∧ Outs w' w.heap.size vo X ∧ X.map Pv.plain = E.outs ∧ PlH w0 w' lb db R (fun k => M k ∨ w.heap.size ≤ k ∧ k < w'.heap.size) E.out P ∧ Keeps R w w' := by
 refine (lk_out h.lk hl hf hW hla).mono ?_
 rintro e w' ⟨X, vo, rfl, hX, hp, k, hL⟩
 have hL' := hL (fun j => (M j ∨ w.heap.size ≤ j ∧ j < w'.heap.size) ∨ j = db) (fun j t => by
  rcases t with (t | t) | t
  ·exact .inl (.inl t)
  ·exact .inr t.1
  ·exact .inl (.inr t)) (fun j t => by
  rcases t with (t | t) | t
  ·exact Nat.lt_of_lt_of_le (h.lt.2.1 j t).1 k.size
  ·exact t.2
  ·have := h.lt.2.2.1; have := k.size; omega)
 exact ⟨X, vo, rfl, hX, hp, h.prog k (fun _ r => .inl r) (fun j r => Nat.lt_of_lt_of_le (h.lt.1 j r) k.size) (fun j m => by rcases m with m | m; exact .inl m; exact .inr m.1) (fun j m => by rcases m with m | m; exact Nat.lt_of_lt_of_le (h.lt.2.1 j m).1 k.size; exact m.2) hL', k⟩
theorem h_dout (h : PlH w0 w lb db R M E P) (hdn : P.done ≤ P.F.length) (hn : P.F.length + P.W.length ≤ 1000) :
  Calls Try.prog 20 #[.pointer (some ⟨db, 0, none⟩)] w fun e w' => ∃ (X : List Pv) (p : Option Addr) (n c : Nat), e = .returned (.slice p n c) ∧ SeesR w' 5 Pv.cells (.slice p n c) X ∧ (∀ x ∈ X, Sees w' x.v x.d ∧ x.d.length ≤ 140737488355328) ∧ X.map Pv.plain = P.outs ∧
   PlH w0 w' lb db R M E P.out ∧ Keeps (fun k => k = db) w w' := by
 refine (dk_out h.dk hdn hn).mono ?_
 rintro e w' ⟨X, p, n, c, rfl, hX, hs, hp, hL, k⟩
 exact ⟨X, p, n, c, rfl, hX, hs, hp, h.doc k hL, k⟩
theorem PlH.more (h : PlH w0 w lb db R M E P) {w1 : World} (hk : Old w w1) : PlH w0 w1 lb db R (fun k => M k ∨ w.heap.size ≤ k ∧ k < w1.heap.size) E P := by
 have hs := hk.size
 have hm1 : ∀ k, M k ∨ w.heap.size ≤ k ∧ k < w1.heap.size → k < w1.heap.size := fun k t => by
  rcases t with t | t
  ·exact Nat.lt_of_lt_of_le (h.lt.2.1 k t).1 hs
  ·exact t.2
 refine ⟨h.lk.to (hk.weaken (fun _ _ f => f.elim)) (fun k t => ?_) (fun k t => ?_), h.dk.to (hk.weaken (fun _ _ f => f.elim)) (fun k t => ?_) (fun k t => ?_), fun k t => ?_, h.db0, h.old.trans hk⟩
 ·rcases t with (t | t) | t
  ·exact .inl (.inl t)
  ·exact .inr t.1
  ·exact .inl (.inr t)
 ·rcases t with t | t
  ·exact hm1 k t
  ·have := h.lt.2.2.1; omega
 ·rcases t with (t | t) | t
  ·exact .inl (.inl t)
  ·exact .inr t.1
  ·exact .inl (.inr t)
 ·rcases t with t | t
  ·exact hm1 k t
  ·exact Nat.lt_of_lt_of_le (h.lt.1 k t) hs
 ·rcases t with t | t | t
  ·exact h.lo k (.inl t)
  ·exact h.lo k (.inr t)
  ·exact Nat.le_trans h.old.size t.1
theorem PlH.work (h : PlH w0 w lb db R M E P) {w1 : World} (hk : Keeps M w w1) : PlH w0 w1 lb db R M E P := by
 have hs := hk.size
 refine ⟨h.lk.to (hk.weaken (fun _ _ m => .inl m)) (fun k t => .inl t) (fun k t => Nat.lt_of_lt_of_le (h.lk.facts.2.2.2 k t) hs), h.dk.to (hk.weaken (fun _ _ m => .inl m)) (fun k t => .inl t) (fun k t => Nat.lt_of_lt_of_le (h.dk.lt.1 k t) hs), h.lo, h.db0, h.old.then hk (fun i hi m => by have := h.lo i (.inr m); omega)⟩
end
end Go.Proofs.Ytllnlimbfoingaa

namespace Go.Proofs.Ytllnlimbfoingaa

/-- a number's form -/
def form (n : Nat) : List UInt8 := if n < 128 then [UInt8.ofNat n] else UInt8.ofNat (128 + n % 128) :: form (n / 128)
termination_by n
decreasing_by omega

theorem form_lt {n : Nat} (h : n < 128) : form n = [UInt8.ofNat n] := by rw [form, if_pos h]
theorem form_ge {n : Nat} (h : 128 ≤ n) : form n = UInt8.ofNat (128 + n % 128) :: form (n / 128) := by rw [form, if_neg (by omega)]

theorem form_length_pos (n : Nat) : 1 ≤ (form n).length := by
  rcases Nat.lt_or_ge n 128 with h | h
  · rw [form_lt h]; simp
  · rw [form_ge h]; simp
theorem form_length_le (k : Nat) : ∀ n, n < 128 ^ (k + 1) → (form n).length ≤ k + 1 := by
  induction k with
  | zero => intro n h; rw [form_lt (by simpa using h)]; simp
  | succ k ih =>
    intro n h
    rcases Nat.lt_or_ge n 128 with h' | h'
    · rw [form_lt h']; simp
    · rw [form_ge h']
      have := ih (n / 128) (by rw [Nat.div_lt_iff_lt_mul (by decide)]; rw [Nat.pow_succ] at h; omega)
      simp; omega
theorem form_le10 {n : Nat} (h : n < 18446744073709551616) : (form n).length ≤ 10 := form_length_le 9 n (Nat.lt_of_lt_of_le h (by decide))

theorem and127_u64 {x : Nat} (h : x < 18446744073709551616) : bits .and .u64 (x : Int) 127 = ((x % 128 : Nat) : Int) := by
  exact bits_mask .u64 64 (by decide) (fun n h0 h1 => by rw [IntKind.wrap_u64]; omega) 7 (by decide) (x : Int) (by omega) (by omega)
theorem and127_u8 {x : Nat} (h : x < 256) : bits .and .u8 (x : Int) 127 = ((x % 128 : Nat) : Int) := by
  exact bits_mask .u8 8 (by decide) wraps_u8 7 (by decide) (x : Int) (by omega) (by omega)
theorem or128_u8 {x : Nat} (h : x < 128) : bits .or .u8 (x : Int) 128 = ((x + 128 : Nat) : Int) := by
  revert x; decide +kernel
theorem byte_last {m : Nat} (h : m < 128) : (m : Int) % 128 = ((UInt8.ofNat m).toNat : Int) := by
  rw [UInt8.toNat_ofNat']; omega
theorem byte_more (m : Nat) : bits .or .u8 ((m : Int) % 128) 128 = ((UInt8.ofNat (128 + m % 128)).toNat : Int) := by
  have h := or128_u8 (x := m % 128) (by omega)
  rw [UInt8.toNat_ofNat']
  rw [show ((m : Int) % 128) = ((m % 128 : Nat) : Int) from by omega, h]
  omega

/-- a signed number as one that is not -/
def zigN (z : Int) : Nat := if 0 ≤ z then (2 * z).toNat else (-2 * z - 1).toNat
/-- and back -/
def zagZ (m : Nat) : Int := if m % 2 = 0 then (m / 2 : Nat) else -((m / 2 : Nat) : Int) - 1
theorem zigN_lt {z : Int} (hz : -9223372036854775808 ≤ z ∧ z ≤ 9223372036854775807) : zigN z < 18446744073709551616 := by unfold zigN; split <;> omega
theorem zagZ_range {m : Nat} (hm : m < 18446744073709551616) : -9223372036854775808 ≤ zagZ m ∧ zagZ m ≤ 9223372036854775807 := by unfold zagZ; split <;> omega
theorem zag_zig (z : Int) : zagZ (zigN z) = z := by
  unfold zigN
  split
  · unfold zagZ; rw [if_pos (by omega)]; omega
  · unfold zagZ; rw [if_neg (by omega)]; omega
theorem zig_zag (m : Nat) : zigN (zagZ m) = m := by
  unfold zagZ
  split
  · unfold zigN; rw [if_pos (by omega)]; omega
  · unfold zigN; rw [if_neg (by omega)]; omega
theorem xor_ones (a : Nat) (ha : a < 18446744073709551616) : a ^^^ 18446744073709551615 = 18446744073709551615 - a := by
  have h : ((BitVec.ofNat 64 a) ^^^ BitVec.allOnes 64).toNat = 18446744073709551615 - a := by
    rw [BitVec.xor_allOnes, BitVec.toNat_not, BitVec.toNat_ofNat, Nat.mod_eq_of_lt (by omega)]
  rw [BitVec.toNat_xor, BitVec.toNat_ofNat, Nat.mod_eq_of_lt (by omega)] at h
  exact h
theorem zig_bits {z : Int} (hz : -9223372036854775808 ≤ z ∧ z ≤ 9223372036854775807) :
    bits .xor .u64 (IntKind.u64.wrap (IntKind.u64.wrap z * 2)) (IntKind.u64.wrap (z / 9223372036854775808)) = (zigN z : Int) := by
  simp only [IntKind.wrap_u64]
  unfold zigN
  split
  · rename_i h0
    have e1 : (z % 18446744073709551616 * 2) % 18446744073709551616 = ((2 * z).toNat : Int) := by omega
    have e2 : (z / 9223372036854775808) % 18446744073709551616 = ((0 : Nat) : Int) := by omega
    rw [e1, e2, bits_xor_u64_nat _ _ (by omega) (by omega), Nat.xor_zero]
  · rename_i h0
    have e1 : (z % 18446744073709551616 * 2) % 18446744073709551616 = ((2 * z + 18446744073709551616).toNat : Int) := by omega
    have e2 : (z / 9223372036854775808) % 18446744073709551616 = ((18446744073709551615 : Nat) : Int) := by omega
    rw [e1, e2, bits_xor_u64_nat _ _ (by omega) (by omega), xor_ones _ (by omega)]
    omega
theorem and1_u64 {x : Nat} (h : x < 18446744073709551616) : bits .and .u64 (x : Int) 1 = ((x % 2 : Nat) : Int) := by
  exact bits_mask .u64 64 (by decide) (fun n h0 h1 => by rw [IntKind.wrap_u64]; omega) 1 (by decide) (x : Int) (by omega) (by omega)
theorem xor_i64_zero {a : Nat} (h : a < 9223372036854775808) : bits .xor .i64 (a : Int) 0 = (a : Int) := by
  show IntKind.i64.wrap ((BitVec.ofInt 64 (a : Int) ^^^ BitVec.ofInt 64 0).toNat : Int) = _
  rw [BitVec.toNat_xor, BitVec.ofInt_natCast, BitVec.toNat_ofNat, Nat.mod_eq_of_lt (by omega)]
  simp [IntKind.wrap_i64]
  omega
theorem xor_i64_neg {a : Nat} (h : a < 9223372036854775808) : bits .xor .i64 (a : Int) (-1) = -(a : Int) - 1 := by
  show IntKind.i64.wrap ((BitVec.ofInt 64 (a : Int) ^^^ BitVec.ofInt 64 (-1)).toNat : Int) = _
  rw [BitVec.toNat_xor, BitVec.ofInt_natCast, BitVec.toNat_ofNat, Nat.mod_eq_of_lt (by omega)]
  rw [show (BitVec.ofInt 64 (-1)).toNat = 18446744073709551615 from by decide, xor_ones _ (by omega), IntKind.wrap_i64]
  omega
theorem zag_bits {m : Nat} (hm : m < 18446744073709551616) : bits .xor .i64 ((m : Int) / 2) (IntKind.i64.wrap (-IntKind.i64.wrap (bits .and .u64 (m : Int) 1))) = zagZ m := by
  rw [and1_u64 hm, show (m : Int) / 2 = ((m / 2 : Nat) : Int) from by omega]
  unfold zagZ
  split
  · rename_i h
    rw [h, show IntKind.i64.wrap (-IntKind.i64.wrap ((0 : Nat) : Int)) = 0 from by decide, xor_i64_zero (by omega)]
  · rename_i h
    rw [show m % 2 = 1 from by omega, show IntKind.i64.wrap (-IntKind.i64.wrap ((1 : Nat) : Int)) = -1 from by decide, xor_i64_neg (by omega)]
theorem byte_low {m : Nat} (h : m < 128) : (m : Int) = ((UInt8.ofNat m).toNat : Int) := by
  rw [UInt8.toNat_ofNat']; omega
theorem byte_high (m : Nat) : 128 + (m : Int) % 128 = ((UInt8.ofNat (128 + m % 128)).toNat : Int) := by
  rw [UInt8.toNat_ofNat']; omega

/-- groups of seven bits, from the i-th on: (the number, the error, what is left) -/
def scan : Nat → Nat → List UInt8 → Nat × Nat × List UInt8
  | _, _, [] => (0, 4, [])
  | i, acc, c :: r =>
    if (i = 9 ∧ 1 < c.toNat) ∨ (0 < i ∧ c.toNat = 0) then (0, 5, [])
    else if c.toNat < 128 then (acc + c.toNat % 128 * 128 ^ i, 0, r) else scan (i + 1) (acc + c.toNat % 128 * 128 ^ i) r
/-- a number is read: (the number, the error, what is left) -/
def readNum (l : List UInt8) (most : Nat) : Nat × Nat × List UInt8 :=
  if (scan 0 0 l).2.1 ≠ 0 then (0, (scan 0 0 l).2.1, l) else if most < (scan 0 0 l).1 then (0, 3, l) else ((scan 0 0 l).1, 0, (scan 0 0 l).2.2)

theorem or_group {acc c i : Nat} (hi : i ≤ 9) (ha : acc < 128 ^ i) (hc : c < 128) (h9 : i = 9 → c ≤ 1) : bits .or .u64 (acc : Int) (IntKind.u64.wrap ((c : Int) * 2 ^ min (7 * (i : Int)).toNat 64)) = ((acc + c * 128 ^ i : Nat) : Int) := by
  have e1 : min (7 * (i : Int)).toNat 64 = 7 * i := by omega
  have e2 : ((c : Int) * 2 ^ (7 * i)) = ((c * 128 ^ i : Nat) : Int) := by
    rw [Int.natCast_mul, Int.natCast_pow, show ((128 : Nat) : Int) = 2 ^ 7 from rfl, ← Int.pow_mul]
  have hp : 128 ^ i = 2 ^ (7 * i) := by rw [Nat.pow_mul]
  have hlt : acc + c * 128 ^ i < 18446744073709551616 := by
    rcases Nat.lt_or_ge i 9 with h | h
    · have h1 : acc + c * 128 ^ i < 128 ^ (i + 1) := by
        have : c * 128 ^ i ≤ 127 * 128 ^ i := Nat.mul_le_mul_right _ (by omega)
        rw [Nat.pow_succ]; omega
      exact Nat.lt_of_lt_of_le h1 (Nat.le_trans (Nat.pow_le_pow_right (by decide) (show i + 1 ≤ 9 by omega)) (by decide))
    · obtain rfl : i = 9 := by omega
      have := h9 rfl
      have : c * 128 ^ 9 ≤ 1 * 128 ^ 9 := Nat.mul_le_mul_right _ (by omega)
      have h3 : (128 : Nat) ^ 9 = 9223372036854775808 := by decide
      omega
  rw [e1, e2]
  rw [show IntKind.u64.wrap ((c * 128 ^ i : Nat) : Int) = ((c * 128 ^ i : Nat) : Int) from by rw [IntKind.wrap_u64]; omega]
  rw [(bits_nat .u64 64 (by decide) (fun n h0 h1 => by rw [IntKind.wrap_u64]; omega) acc (c * 128 ^ i) (by omega) (by omega)).2]
  rw [hp] at ha ⊢
  rw [Nat.or_comm, Nat.mul_comm c, ← Nat.two_pow_add_eq_or_of_lt ha c]
  omega
theorem or_group' {acc c i : Nat} (hi : i ≤ 9) (ha : acc < 128 ^ i) (h9 : i = 9 → c ≤ 1) : bits .or .u64 (acc : Int) (IntKind.u64.wrap ((c : Int) % 128 * 2 ^ (7 * i))) = ((acc + c % 128 * 128 ^ i : Nat) : Int) := by
  have h := or_group (c := c % 128) hi ha (by omega) (fun h => by have := h9 h; omega)
  rw [show min (7 * (i : Int)).toNat 64 = 7 * i from by omega] at h
  rw [← h]
  rfl
theorem acc_lt {acc c i : Nat} (ha : acc < 128 ^ i) : acc + c % 128 * 128 ^ i < 128 ^ (i + 1) := by
  have : c % 128 * 128 ^ i ≤ 127 * 128 ^ i := Nat.mul_le_mul_right _ (by omega)
  rw [Nat.pow_succ]; omega
theorem scan_bad {i acc : Nat} {c : UInt8} {r : List UInt8} (h : (i = 9 ∧ 1 < c.toNat) ∨ (0 < i ∧ c.toNat = 0)) : scan i acc (c :: r) = (0, 5, []) := by rw [scan, if_pos h]
theorem scan_last {i acc : Nat} {c : UInt8} {r : List UInt8} (h : ¬ ((i = 9 ∧ 1 < c.toNat) ∨ (0 < i ∧ c.toNat = 0))) (hc : c.toNat < 128) : scan i acc (c :: r) = (acc + c.toNat % 128 * 128 ^ i, 0, r) := by rw [scan, if_neg h, if_pos hc]
theorem scan_more {i acc : Nat} {c : UInt8} {r : List UInt8} (h : ¬ ((i = 9 ∧ 1 < c.toNat) ∨ (0 < i ∧ c.toNat = 0))) (hc : ¬ c.toNat < 128) : scan i acc (c :: r) = scan (i + 1) (acc + c.toNat % 128 * 128 ^ i) r := by rw [scan, if_neg h, if_neg hc]
theorem read_bad {l : List UInt8} {most e : Nat} {n : Nat} {r : List UInt8} (h : scan 0 0 l = (n, e, r)) (he : e ≠ 0) : readNum l most = (0, e, l) := by
  unfold readNum; rw [h]; simp [he]
theorem read_long {l : List UInt8} {most n : Nat} {r : List UInt8} (h : scan 0 0 l = (n, 0, r)) (hn : most < n) : readNum l most = (0, 3, l) := by
  unfold readNum; rw [h]; simp [hn]
theorem read_ok {l : List UInt8} {most n : Nat} {r : List UInt8} (h : scan 0 0 l = (n, 0, r)) (hn : ¬ most < n) : readNum l most = (n, 0, r) := by
  unfold readNum; rw [h]; simp [hn]

/-- a signed number is read -/
def readInt (l : List UInt8) : Int × Nat × List UInt8 := (if (readNum l 18446744073709551615).2.1 = 0 then zagZ (readNum l 18446744073709551615).1 else 0, (readNum l 18446744073709551615).2)
/-- a string of bytes is read -/
def readBytes (l : List UInt8) (most : Int) : List UInt8 × Nat × List UInt8 :=
  if most < 0 then ([], 1, l)
  else if (readNum l most.toNat).2.1 ≠ 0 then ([], (readNum l most.toNat).2.1, l)
  else if (readNum l most.toNat).2.2.length < (readNum l most.toNat).1 then ([], 4, l)
  else ((readNum l most.toNat).2.2.take (readNum l most.toNat).1, 0, (readNum l most.toNat).2.2.drop (readNum l most.toNat).1)
theorem readNum_err (l : List UInt8) (most : Nat) : (readNum l most).2.1 < 6 := by
  have key : ∀ l i acc, (scan i acc l).2.1 < 6 := by
    intro l
    induction l with
    | nil => intro i acc; simp [scan]
    | cons c r ih => intro i acc; rw [scan]; split; · simp
                     split; · simp
                     exact ih _ _
  unfold readNum
  split
  · exact key _ _ _
  · split <;> simp
theorem readNum_le (l : List UInt8) (most : Nat) : (readNum l most).1 ≤ most := by
  unfold readNum
  split
  · simp
  · split
    · simp
    · simp; omega
theorem readNum_bad {l : List UInt8} {most : Nat} (h : (readNum l most).2.1 ≠ 0) : (readNum l most).1 = 0 ∧ (readNum l most).2.2 = l := by
  unfold readNum at h ⊢
  split
  · simp
  · rename_i h1
    rw [if_neg h1] at h
    split
    · simp
    · rename_i h2; rw [if_neg h2] at h; exact absurd rfl h
theorem scan_rest : ∀ l i acc, (scan i acc l).2.2.length ≤ l.length := by
  intro l
  induction l with
  | nil => intro i acc; simp [scan]
  | cons c r ih =>
    intro i acc; rw [scan]; split
    · simp
    · split
      · simp
      · have := ih (i + 1) (acc + c.toNat % 128 * 128 ^ i); simp; omega
theorem readNum_rest (l : List UInt8) (most : Nat) : (readNum l most).2.2.length ≤ l.length := by
  unfold readNum
  split
  · exact Nat.le_refl _
  · split
    · exact Nat.le_refl _
    · exact scan_rest l 0 0

/-- how many bytes of 128 and more stand first -/
def lead : List UInt8 → Nat
  | [] => 0
  | c :: r => if 128 ≤ c.toNat then lead r + 1 else 0
/-- groups of seven bits, the lowest first, as a number -/
def lev : List UInt8 → Nat
  | [] => 0
  | c :: r => c.toNat % 128 + 128 * lev r
theorem lead_le : ∀ l, lead l ≤ l.length
  | [] => Nat.le_refl _
  | c :: r => by have := lead_le r; unfold lead; split <;> simp <;> omega
theorem lead_at : ∀ (l : List UInt8) (k : Nat), k < lead l → ∃ c, l[k]? = some c ∧ 128 ≤ c.toNat
  | [], k, h => by simp [lead] at h
  | c :: r, k, h => by
    unfold lead at h
    split at h
    · cases k with
      | zero => exact ⟨c, by simp, by assumption⟩
      | succ k => simpa using lead_at r k (by omega)
    · omega
theorem lead_end : ∀ (l : List UInt8), lead l < l.length → ∃ c, l[lead l]? = some c ∧ c.toNat < 128
  | [], h => by simp at h
  | c :: r, h => by
    unfold lead at h ⊢
    split
    · rename_i hc
      rw [if_pos hc] at h
      obtain ⟨d, h1, h2⟩ := lead_end r (by simp at h; omega)
      exact ⟨d, by simpa using h1, h2⟩
    · exact ⟨c, by simp, by omega⟩
theorem lev_lt : ∀ l, lev l < 128 ^ l.length
  | [] => by simp [lev]
  | c :: r => by
    have := lev_lt r
    simp only [lev, List.length_cons, Nat.pow_succ]
    omega
theorem lev_drop (l : List UInt8) (i : Nat) : lev (l.drop i) ≤ lev l := by
  induction l generalizing i with
  | nil => simp [lev]
  | cons c r ih =>
    cases i with
    | zero => exact Nat.le_refl _
    | succ i => simp only [List.drop_succ_cons, lev]; have := ih i; omega
theorem lev_step (l : List UInt8) (i : Nat) (c : UInt8) (h : l[i]? = some c) : lev (l.drop i) = c.toNat % 128 + 128 * lev (l.drop (i + 1)) := by
  have hi := (List.getElem?_eq_some_iff.1 h).1
  have hc := (List.getElem?_eq_some_iff.1 h).2
  rw [List.drop_eq_getElem_cons hi, hc, lev]
/-- the scan, by the number of bytes that stand first -/
theorem scan_lead : ∀ (l : List UInt8) (i acc : Nat), i ≤ 9 →
    ((10 ≤ i + lead l → (scan i acc l).2.1 = 5) ∧ (i + lead l < 10 → lead l = l.length → (scan i acc l).2.1 = 4) ∧
     (i + lead l < 10 → ∀ c, l[lead l]? = some c → ((i + lead l = 9 ∧ 1 < c.toNat) ∨ (0 < i + lead l ∧ c.toNat = 0)) → (scan i acc l).2.1 = 5) ∧
     (i + lead l < 10 → ∀ c, l[lead l]? = some c → ¬ ((i + lead l = 9 ∧ 1 < c.toNat) ∨ (0 < i + lead l ∧ c.toNat = 0)) → scan i acc l = (acc + 128 ^ i * lev (l.take (lead l + 1)), 0, l.drop (lead l + 1)))) := by
  intro l
  induction l with
  | nil =>
    intro i acc hi
    refine ⟨fun h => by simp [lead] at h; omega, fun _ _ => by simp [scan], fun _ c h => by simp at h, fun _ c h => by simp at h⟩
  | cons c r ih =>
    intro i acc hi
    by_cases hc : 128 ≤ c.toNat
    · have hl : lead (c :: r) = lead r + 1 := by rw [lead, if_pos hc]
      by_cases h9 : i = 9
      · have hb : scan i acc (c :: r) = (0, 5, []) := scan_bad (.inl ⟨h9, by omega⟩)
        refine ⟨fun _ => by rw [hb], fun h => by omega, fun h => by omega, fun h => by omega⟩
      · have hg : ¬ ((i = 9 ∧ 1 < c.toNat) ∨ (0 < i ∧ c.toNat = 0)) := by omega
        have hs := scan_more (acc := acc) (r := r) hg (by omega)
        obtain ⟨h1, h2, h3, h4⟩ := ih (i + 1) (acc + c.toNat % 128 * 128 ^ i) (by omega)
        rw [hs, hl]
        refine ⟨fun h => h1 (by omega), fun h e => h2 (by omega) (by simp at e; omega), fun h d hd hbad => h3 (by omega) d (by simpa using hd) (by omega), fun h d hd hgood => ?_⟩
        rw [h4 (by omega) d (by simpa using hd) (by omega)]
        simp only [List.take_succ_cons, List.drop_succ_cons, lev, Prod.mk.injEq, and_true]
        rw [Nat.pow_succ, Nat.mul_add, Nat.mul_comm (c.toNat % 128), Nat.mul_assoc]
        omega
    · have hl : lead (c :: r) = 0 := by rw [lead, if_neg hc]
      rw [hl]
      refine ⟨fun h => by omega, fun _ e => by simp at e, fun _ d hd hbad => ?_, fun _ d hd hgood => ?_⟩
      · obtain rfl : c = d := by simpa using hd
        rw [scan_bad (by simpa using hbad)]
      · obtain rfl : c = d := by simpa using hd
        rw [scan_last (by simpa using hgood) (by omega)]
        simp [lev, Nat.mul_comm]
theorem lev_fits (l : List UInt8) (n : Nat) (hn : n < 10) (c : UInt8) (h : l[n]? = some c) (h9 : n = 9 → c.toNat ≤ 1) : lev (l.take (n + 1)) < 18446744073709551616 := by
  rcases Nat.lt_or_ge n 9 with h' | h'
  · have h1 := lev_lt (l.take (n + 1))
    have h2 : (l.take (n + 1)).length ≤ 9 := by simp; omega
    exact Nat.lt_of_lt_of_le h1 (Nat.le_trans (Nat.pow_le_pow_right (by decide) h2) (by decide))
  · obtain rfl : n = 9 := by omega
    have hh := h9 rfl
    have key : ∀ (m : Nat) (l : List UInt8), l[m]? = some c → lev (l.take (m + 1)) < 2 * 128 ^ m := by
      intro m
      induction m with
      | zero =>
        intro l hl
        cases l with
        | nil => simp at hl
        | cons d r =>
          obtain rfl : d = c := by simpa using hl
          simp [lev]; omega
      | succ m ih =>
        intro l hl
        cases l with
        | nil => simp at hl
        | cons d r =>
          have := ih r (by simpa using hl)
          simp only [List.take_succ_cons, lev, Nat.pow_succ]
          omega
    exact key 9 l h
theorem read_many {l : List UInt8} {most : Nat} (h : 10 ≤ lead l) : readNum l most = (0, 5, l) := by
  have h1 := (scan_lead l 0 0 (by omega)).1 (by omega)
  have := read_bad (l := l) (most := most) (e := 5) (n := (scan 0 0 l).1) (r := (scan 0 0 l).2.2) (by rw [← h1]) (by decide)
  exact this
theorem read_short {l : List UInt8} {most : Nat} (h : lead l < 10) (he : lead l = l.length) : readNum l most = (0, 4, l) := by
  have h1 := (scan_lead l 0 0 (by omega)).2.1 (by omega) he
  exact read_bad (l := l) (most := most) (e := 4) (n := (scan 0 0 l).1) (r := (scan 0 0 l).2.2) (by rw [← h1]) (by decide)
theorem read_none {l : List UInt8} {most : Nat} (h : lead l < 10) {c : UInt8} (hc : l[lead l]? = some c) (hb : (lead l = 9 ∧ 1 < c.toNat) ∨ (0 < lead l ∧ c.toNat = 0)) : readNum l most = (0, 5, l) := by
  have h1 := (scan_lead l 0 0 (by omega)).2.2.1 (by omega) c hc (by simpa using hb)
  exact read_bad (l := l) (most := most) (e := 5) (n := (scan 0 0 l).1) (r := (scan 0 0 l).2.2) (by rw [← h1]) (by decide)
theorem read_good {l : List UInt8} {most : Nat} (h : lead l < 10) {c : UInt8} (hc : l[lead l]? = some c) (hb : ¬ ((lead l = 9 ∧ 1 < c.toNat) ∨ (0 < lead l ∧ c.toNat = 0))) :
    readNum l most = if most < lev (l.take (lead l + 1)) then (0, 3, l) else (lev (l.take (lead l + 1)), 0, l.drop (lead l + 1)) := by
  have h1 := (scan_lead l 0 0 (by omega)).2.2.2 (by omega) c hc (by simpa using hb)
  simp only [Nat.pow_zero, Nat.one_mul, Nat.zero_add] at h1
  split
  · rename_i h2; exact read_long h1 h2
  · rename_i h2; exact read_ok h1 h2
theorem form_300 : form 300 = [172, 2] := by rw [form_ge (by decide), form_lt (by decide)]; decide
theorem form_129 : form 129 = [129, 1] := by rw [form_ge (by decide), form_lt (by decide)]; decide
theorem form_2 : form 2 = [2] := by rw [form_lt (by decide)]; decide
end Go.Proofs.Ytllnlimbfoingaa
