/- DERIVED. Chapter 20: an end, over plain ends: every call. · DERIVED. Contracts of the small functions on byte slices. No project text. · DERIVED. Chapter 20: Same of packets. · DERIVED. Chapter 20: two ends in one memory. -/
import Derived.Test.YtllnlimbfoingaaY07
import Derived.Test.YtllnlimbfoingaaY01
import Derived.Deep.MidRow
namespace Go.Proofs.Ytllnlimbfoingaa
open Go.RowKit Go.Conc

/-- the end at block lb: R is the memory that it writes; T what others write -/
def Lk (R T : Nat → Prop) (w : World) (lb : Nat) (E : En) : Prop :=
 ∃ L : Lv, L.plain = E ∧ LkM w lb L ∧ R lb ∧ R L.c ∧ (∀ k, T k → ¬ R k) ∧ (∀ k, R k → k < w.heap.size) ∧ (∀ k, T k → k < w.heap.size) ∧ ∀ w', Keeps (fun k => R k ∨ T k) w w' → L.reads w'
theorem Lk.facts {R T : Nat → Prop} {w : World} {lb : Nat} {E : En} (h : Lk R T w lb E) : R lb ∧ (∀ k, T k → ¬ R k) ∧ (∀ k, R k → k < w.heap.size) ∧ (∀ k, T k → k < w.heap.size) := by
 obtain ⟨L, _, _, h1, _, h2, h3, h4, _⟩ := h
 exact ⟨h1, h2, h3, h4⟩
/-- others worked -/
theorem Lk.to {R T T' : Nat → Prop} {w w1 : World} {lb : Nat} {E : En} (h : Lk R T w lb E) (hk : Keeps T w w1) (hT : ∀ k, T' k → T k ∨ w.heap.size ≤ k) (hl : ∀ k, T' k → k < w1.heap.size) : Lk R T' w1 lb E := by
 obtain ⟨L, e, h0, h1, h2, h3, h4, h5, h6⟩ := h
 refine ⟨L, e, h0.keeps hk (fun t => h3 _ t h1) (fun t => h3 _ t h2), h1, h2, fun k hk' hr => ?_, fun k hr => Nat.lt_of_lt_of_le (h4 k hr) hk.size, hl, fun w2 h7 => h6 w2 ?_⟩
 ·rcases hT k hk' with h | h
  ·exact h3 k h hr
  ·have := h4 k hr; omega
 ·refine (hk.weaken (T := fun k => R k ∨ T k) (fun _ _ t => .inr t)).then h7 (fun i hi h => ?_)
  rcases h with h | h
  ·exact .inl h
  ·rcases hT i h with h | h
   ·exact .inr h
   ·omega
theorem Lk.old {R T : Nat → Prop} {w w1 : World} {lb : Nat} {E : En} (h : Lk R T w lb E) (hk : Old w w1) : Lk R T w1 lb E :=
 h.to (hk.weaken (fun _ _ f => f.elim)) (fun _ t => .inl t) (fun k t => Nat.lt_of_lt_of_le (h.facts.2.2.2 k t) hk.size)
/-- the end worked, within its own memory: what it reads is what it read -/
theorem Lk.of {R R' T T' : Nat → Prop} {w w1 : World} {lb : Nat} {L L' : Lv} (_h0 : LkM w lb L) (h1 : R lb) (_h2 : R L.c) (h3 : ∀ k, T k → ¬ R k) (_h4 : ∀ k, R k → k < w.heap.size) (h5 : ∀ k, T k → k < w.heap.size) (h6 : ∀ w', Keeps (fun k => R k ∨ T k) w w' → L.reads w')
  (hm : LkM w1 lb L') (hk : Keeps R w w1) (hr : ∀ k, R' k → R k ∨ w.heap.size ≤ k) (hr2 : ∀ k, R k → R' k) (hc : R' L'.c) (hl : ∀ k, R' k → k < w1.heap.size) (hT : ∀ k, T' k → T k ∨ (w.heap.size ≤ k ∧ ¬ R' k)) (hT2 : ∀ k, T' k → k < w1.heap.size) (hw : L'.within L) : Lk R' T' w1 lb L'.plain := by
 refine ⟨L', rfl, hm, hr2 _ h1, hc, fun k hk' hr' => ?_, hl, hT2, fun w2 h7 => hw w2 (h6 w2 ?_)⟩
 ·rcases hT k hk' with h | h
  ·rcases hr k hr' with h' | h'
   ·exact h3 k h h'
   ·have := h5 k h; omega
  ·exact h.2 hr'
 ·refine (hk.weaken (T := fun k => R k ∨ T k) (fun _ _ t => .inl t)).then h7 (fun i hi h => ?_)
  rcases h with h | h
  ·rcases hr i h with h | h
   ·exact .inl h
   ·omega
  ·rcases hT i h with h | h
   ·exact .inr h
   ·omega

theorem lk_new (life : Nat) (hl : 1 ≤ life) (w : World) : Calls Try.prog 9 #[.int .u64 (life : Int)] w fun e w' => e = .returned (.tuple #[.pointer (some ⟨w.heap.size, 0, none⟩), .int .i64 0]) ∧ Old w w' ∧
  ∀ T : Nat → Prop, (∀ k, T k → k < w.heap.size) → Lk (fun k => k = w.heap.size ∨ k = w.heap.size + 1) T w' w.heap.size (En.new life) := by
 refine (lnew_yes life hl w).mono ?_
 rintro e w' ⟨rfl, h1, h2, h3⟩
 refine ⟨rfl, h2, fun T hT => ⟨Lv.new life (w.heap.size + 1), rfl, h1, .inl rfl, .inr rfl, fun k hk hr => ?_, fun k hr => ?_, fun k hk => ?_, fun w2 _ => Lv.new_reads _ _ _⟩⟩
 ·have := hT k hk; omega
 ·omega
 ·have := hT k hk; omega
theorem lk_peer {R T : Nat → Prop} {w : World} {lb : Nat} {E : En} (h : Lk R T w lb E) : Calls Try.prog 23 #[.pointer (some ⟨lb, 0, none⟩)] w fun e w' => e = .returned (.int .u64 (E.peer : Int)) ∧ w = w' := by
 obtain ⟨L, rfl, h0, _⟩ := h
 exact peer_any lb L w h0
theorem lk_waiting {R T : Nat → Prop} {w : World} {lb : Nat} {E : En} (h : Lk R T w lb E) : Calls Try.prog 24 #[.pointer (some ⟨lb, 0, none⟩)] w fun e w' => e = .returned (.int .i64 (E.waits.length : Int)) ∧ w = w' := by
 obtain ⟨L, rfl, h0, h1, h2, h3, h4, h5, h6⟩ := h
 have e : L.plain.waits.length = L.W.length := by simp [Lv.plain]
 rw [e]
 exact waiting_any lb L w h0 (h6 w (Keeps.refl _ _))
theorem lk_flying {R T : Nat → Prop} {w : World} {lb : Nat} {E : En} (h : Lk R T w lb E) : Calls Try.prog 25 #[.pointer (some ⟨lb, 0, none⟩)] w fun e w' => e = .returned (.int .i64 (E.win.length : Int)) ∧ w = w' := by
 obtain ⟨L, rfl, h0, _⟩ := h
 have e : L.plain.win.length = L.F.length := by simp [Lv.plain]
 rw [e]
 exact flying_any lb L w h0
theorem lk_tick {R T : Nat → Prop} {w : World} {lb : Nat} {E : En} (h : Lk R T w lb E) (hl : 1 ≤ E.life) : Calls Try.prog 21 #[.pointer (some ⟨lb, 0, none⟩)] w fun e w' => e = .returned (.int .i64 0) ∧ Lk R T w' lb E.tick ∧ Keeps R w w' := by
 obtain ⟨L, rfl, h0, h1, h2, h3, h4, h5, h6⟩ := h
 refine (tick_any lb L w h0 hl).mono ?_
 rintro e w' ⟨rfl, m, k⟩
 have k' : Keeps R w w' := k.weaken (fun _ _ e => by subst e; exact h1)
 exact ⟨rfl, Lk.of h0 h1 h2 h3 h4 h5 h6 m k' (fun _ h => .inl h) (fun _ h => h) h2 (fun i hi => Nat.lt_of_lt_of_le (h4 i hi) k.size) (fun _ h => .inl h) (fun i hi => Nat.lt_of_lt_of_le (h5 i hi) k.size) (fun W h => h), k'⟩
theorem lk_send0 {R T : Nat → Prop} {w : World} {lb : Nat} {E : En} (v : Value) (h : Lk R T w lb E) (hl : 1 ≤ E.life) (hp : E.peer = 0) : Calls Try.prog 12 #[.pointer (some ⟨lb, 0, none⟩), v] w fun e w' => e = .returned (.int .i64 6) ∧ w = w' := by
 obtain ⟨L, rfl, h0, _⟩ := h
 exact send_none lb L v w h0 hl hp
theorem lk_send {R T : Nat → Prop} {w : World} {lb : Nat} {E : En} (v : Value) (d : List UInt8) (h : Lk R T w lb E) (hl : 1 ≤ E.life) (hp : 1 ≤ E.peer) (hn : E.waits.length ≤ 1000) (hv : Sees w v d) (hd : d.length ≤ 140737488355328) :
  Calls Try.prog 12 #[.pointer (some ⟨lb, 0, none⟩), v] w fun e w' => e = .returned (.int .i64 0) ∧ Lk R T w' lb (E.send d) ∧ Keeps R w w' := by
 obtain ⟨L, rfl, h0, h1, h2, h3, h4, h5, h6⟩ := h
 refine (send_yes lb L v d w h0 (h6 w (Keeps.refl _ _)) hl hp (by simpa [Lv.plain] using hn) hv hd).mono ?_
 rintro e w' ⟨rfl, vw, bv, m, k, sw, sb, ow, ob⟩
 have k' : Keeps R w w' := k.weaken (fun _ _ e => by subst e; exact h1)
 refine ⟨rfl, ⟨_, ?_, m, h1, h2, h3, fun i hi => Nat.lt_of_lt_of_le (h4 i hi) k.size, fun i hi => Nat.lt_of_lt_of_le (h5 i hi) k.size, fun w2 k2 => ?_⟩, k'⟩
 ·unfold En.send Lv.plain
  simp
 ·have hr := h6 w2 ((k'.weaken (T := fun k => R k ∨ T k) (fun _ _ t => .inl t)).trans k2)
  have hno : ∀ b, w.heap.size ≤ b → ¬ (R b ∨ T b) := fun b hb e => by
   rcases e with e | e
   ·have := h4 b e; omega
   ·have := h5 b e; omega
  refine ⟨sw.keeps k2 (fun b hb => hno b (ow b hb)), fun x hx => ?_, hr.2.2⟩
  rcases List.mem_append.1 hx with hx | hx
  ·exact hr.2.1 x hx
  ·obtain rfl : x = (bv, d) := by simpa using hx
   exact ⟨sb.keeps k2 (fun b hb => hno b (ob b hb)), hd⟩
theorem lk_out {R T : Nat → Prop} {w : World} {lb : Nat} {E : En} (h : Lk R T w lb E) (hl : 1 ≤ E.life) (hf : E.win.length ≤ 8) (hW : E.waits.length ≤ 1000) (hla : E.last + E.waits.length < 18446744073709551615) :
  Calls Try.prog 17 #[.pointer (some ⟨lb, 0, none⟩)] w fun e w' => ∃ (X : List Pv) (vo : Value), e = .returned vo ∧ Outs w' w.heap.size vo X ∧ X.map Pv.plain = E.outs ∧ Keeps R w w' ∧
   ∀ T' : Nat → Prop, (∀ k, T' k → T k ∨ w.heap.size ≤ k) → (∀ k, T' k → k < w'.heap.size) → Lk R T' w' lb E.out := by
 obtain ⟨L, rfl, h0, h1, h2, h3, h4, h5, h6⟩ := h
 refine (out_any lb L w h0 (fun w' k => h6 w' (k.weaken (fun _ _ e => by rcases e with rfl | rfl; exact .inl h1; exact .inl h2))) hl (by simpa [Lv.plain] using hf) (by simpa [Lv.plain] using hW) (by simpa [Lv.plain] using hla)).mono ?_
 rintro e w' ⟨L', X, vo, rfl, hX, hp, m, hpl, hc, hw, k⟩
 have k' : Keeps R w w' := k.weaken (fun _ _ e => by rcases e with rfl | rfl; exact h1; exact h2)
 refine ⟨X, vo, rfl, hX, hp, k', fun T' t1 t2 => ?_⟩
 rw [← hpl]
 refine Lk.of h0 h1 h2 h3 h4 h5 h6 m k' (fun _ h => .inl h) (fun _ h => h) (by rw [hc]; exact h2) (fun i hi => Nat.lt_of_lt_of_le (h4 i hi) k.size) (fun i hi => ?_) t2 hw
 rcases t1 i hi with h | h
 ·exact .inl h
 ·exact .inr ⟨h, fun hr => by have := h4 i hr; omega⟩
theorem lk_take {R T : Nat → Prop} {w : World} {lb : Nat} {E : En} (p : Pv) (h : Lk R T w lb E) (hl : 1 ≤ E.life) (hf : E.win.length ≤ 8) (hla : E.last < 18446744073709551615) (hne : E.next < 18446744073709551615) (hv : Sees w p.v p.d) (hd : p.d.length ≤ 140737488355328) (hvb : ∀ b, p.v.ownBlock = some b → ¬ R b) :
  Calls Try.prog 14 #[.pointer (some ⟨lb, 0, none⟩), .agg p.cells.toArray] w fun e w' => ∃ (R' : Nat → Prop) (q : Option Addr) (n c : Nat), e = .returned (.tuple #[.slice q n c, .bool (E.take p.plain).2.isSome, .bool (decide (E.peer < p.src))]) ∧
   Owns w' w.heap.size (.slice q n c) ((E.take p.plain).2.getD []) ∧ (∀ b, (Value.slice q n c).ownBlock = some b → ¬ R' b) ∧ (∀ k, R' k → R k ∨ w.heap.size ≤ k) ∧ (∀ k, R k → R' k) ∧ (∀ k, R' k → k < w'.heap.size) ∧ Keeps R w w' ∧
   ∀ T' : Nat → Prop, (∀ k, T' k → T k ∨ (w.heap.size ≤ k ∧ ¬ R' k)) → (∀ k, T' k → k < w'.heap.size) → Lk R' T' w' lb (E.take p.plain).1 := by
 obtain ⟨L, rfl, h0, h1, h2, h3, h4, h5, h6⟩ := h
 refine (take_any lb L p w h0 (h6 w (Keeps.refl _ _)) hl (by simpa [Lv.plain] using hf) hla hne hv hd (fun b hb => ⟨fun e => hvb b hb (by rw [e]; exact h1), fun e => hvb b hb (by rw [e]; exact h2)⟩)).mono ?_
 rintro e w' ⟨L', q, n, c, rfl, ho, m, hpl, k, hc, hwv, hF, hqb⟩
 have k' : Keeps R w w' := k.weaken (fun _ _ e => by rcases e with rfl | rfl; exact h1; exact h2)
 have hl' : ∀ i, R i ∨ i = L'.c → i < w'.heap.size := fun i hi => by
  rcases hi with hi | rfl
  ·exact Nat.lt_of_lt_of_le (h4 i hi) k.size
  ·exact m.2.1.lt
 refine ⟨fun i => R i ∨ i = L'.c, q, n, c, rfl, ho, fun b hb e => ?_, fun i hi => ?_, fun _ h => .inl h, hl', k', fun T' t1 t2 => ?_⟩
 ·rcases e with e | e
  ·have := h4 b e; have := (ho.block b hb).1; omega
  ·exact hqb b hb e
 ·rcases hi with hi | rfl
  ·exact .inl hi
  ·rcases hc with hc | hc
   ·rw [hc]; exact .inl h2
   ·exact .inr hc
 ·rw [← hpl]
  refine Lk.of h0 h1 h2 h3 h4 h5 h6 m k' (fun i hi => ?_) (fun _ h => .inl h) (.inr rfl) hl' t1 t2 (fun W hr => ?_)
  ·rcases hi with hi | rfl
   ·exact .inl hi
   ·rcases hc with hc | hc
    ·rw [hc]; exact .inl h2
    ·exact .inr hc
  ·refine ⟨?_, ?_, fun f hf => hr.2.2 f (hF f hf)⟩
   ·rcases hwv with ⟨e1, e2⟩ | ⟨e1, e2⟩
    ·rw [e1, e2]; exact hr.1
    ·rw [e1, e2]; exact SeesR.nil W
   ·rcases hwv with ⟨e1, e2⟩ | ⟨e1, e2⟩
    ·rw [e2]; exact hr.2.1
    ·rw [e2]; exact fun x hx => (by cases hx)
end Go.Proofs.Ytllnlimbfoingaa

namespace Go.Proofs.Ytllnlimbfoingaa
open Go.RowKit

/-- a call hands back a slice of its own that reads as l; nothing that was there has turned -/
def Gives (w : World) (l : List UInt8) (e : Ending) (w' : World) : Prop := ∃ p n c, e = .returned (.slice p n c) ∧ Owns w' w.heap.size (.slice p n c) l ∧ Old w w'
theorem gives {w w' : World} {l : List UInt8} {e : Ending} {v : Value} (he : e = .returned v) (ho : Owns w' w.heap.size v l) (hk : Old w w') : Gives w l e w' := by
 obtain ⟨p, c, rfl, _, _⟩ := ho.sees.len
 exact ⟨p, _, c, he, ho, hk⟩

theorem own_any (v : Value) (l : List UInt8) (w : World) (h : Sees w v l) (hl : l.length ≤ 1000000000) :
  Calls Try.prog 35 #[v] w (Gives w l) := by
 go_enter Try.func35, Try.ntmps35
 go_wp2_with (at_builtin; refine wpList_append_sees rfl _ _ rfl w.heap.size (.slice none 0 0) [] rfl (Owns.nil _ _) _ l rfl h (by simp; omega) (Nat.le_refl _) ?_; intro v' w1 ho hg)
 go_ret
 exact gives rfl ho ( (Keeps.refl _ _).grown hg (fun k hk => by simp [Value.ownBlock] at hk))

/-- slices.Clone of bytes -/
theorem clone_any (v : Value) (l : List UInt8) (w : World) (h : Sees w v l) (hl : l.length ≤ 1000000000) :
  Calls Try.prog 54 #[v] w (Gives w l) := by
 obtain ⟨p, c, rfl, h1, h2, h3, h4⟩ := id h
 have hnil := eql_nil
 cases p with
 | none =>
  obtain rfl := h3 rfl
  obtain rfl : l = [] := List.eq_nil_of_length_eq_zero (by omega)
  go_enter Try.func54, Try.ntmps54
  go_wp2_with fail
  go_ret
  exact gives rfl (Owns.nil _ _) (Keeps.refl _ _)
 | some ad =>
  clear h3 h4
  go_enter Try.func54, Try.ntmps54
  go_wp2_with (at_builtin; refine wpList_append_sees rfl _ _ rfl w.heap.size (.slice (some ⟨w.heap.size, 0, none⟩) 0 0) [] rfl (Owns.lit w w.heap.size [] (Nat.le_refl _) (Nat.zero_le _)) _ l rfl (h.alloc _) (by simp; omega) (by simp) ?_; intro v' w1 ho hg)
  go_ret
  exact gives rfl ho ( ((Keeps.refl _ _).alloc _).grown hg (fun k hk => by simp [Value.ownBlock] at hk; omega))

theorem bytes_clone_any (v : Value) (l : List UInt8) (w : World) (h : Sees w v l) (hl : l.length ≤ 1000000000) :
  Calls Try.prog 37 #[v] w (Gives w l) := by
 obtain ⟨p, c, rfl, h1, h2, h3, h4⟩ := id h
 have hnil := eql_nil
 cases p with
 | none =>
  obtain rfl := h3 rfl
  obtain rfl : l = [] := List.eq_nil_of_length_eq_zero (by omega)
  go_enter Try.func37, Try.ntmps37
  go_wp2_with fail
  go_ret
  exact gives rfl (Owns.nil _ _) (Keeps.refl _ _)
 | some ad =>
  clear h3 h4
  go_enter Try.func37, Try.ntmps37
  go_wp2_with (at_builtin; refine wpList_append_sees rfl _ _ rfl w.heap.size (.slice (some ⟨w.heap.size, 0, none⟩) 0 0) [] rfl (Owns.lit w w.heap.size [] (Nat.le_refl _) (Nat.zero_le _)) _ l rfl (h.alloc _) (by simp; omega) (by simp) ?_; intro v' w1 ho hg)
  go_ret
  exact gives rfl ho ( ((Keeps.refl _ _).alloc _).grown hg (fun k hk => by simp [Value.ownBlock] at hk; omega))

theorem equal_any (v u : Value) (l m : List UInt8) (w : World) (h : Sees w v l) (hu : Sees w u m) :
  Calls Try.prog 16 #[v, u] w fun e w' => e = .returned (.bool (l == m)) ∧ w = w' := by
 have g1 := h.text
 have g2 := hu.text
 clear h hu
 go_enter Try.func16, Try.ntmps16
 go_wp2_with fail
 go_ret
 exact ⟨rfl, rfl⟩
end Go.Proofs.Ytllnlimbfoingaa

namespace Go.Proofs.Ytllnlimbfoingaa
open Go.RowKit Go.Conc

def samePk (a b : Pk) : Bool := a.src == b.src && (a.dst == b.dst && (a.seq == b.seq && (a.ack == b.ack && a.data == b.data)))
theorem samePk_iff (a b : Pk) : samePk a b = true ↔ a = b := by
 obtain ⟨a1, a2, a3, a4, a5⟩ := a
 obtain ⟨b1, b2, b3, b4, b5⟩ := b
 unfold samePk
 simp [Bool.and_eq_true]
instance : DecidableEq Pk := fun a b => if h : samePk a b = true then isTrue ((samePk_iff a b).1 h) else isFalse fun e => h ((samePk_iff a b).2 e)
theorem ret_bool20 {a b : Bool} (h : a = b) : Ending.returned (.bool a) = .returned (.bool b) := by rw [h]
/-- the packets' cells, in memory -/
def pkFine (w : World) (x : Pv) : Prop := Sees w x.v x.d
set_option maxRecDepth 100000 in
theorem same1_any (x y : Pv) (w : World) (hx : Sees w x.v x.d) (hy : Sees w y.v y.d) : Calls Try.prog 53 #[.agg x.cells.toArray, .agg y.cells.toArray] w fun e w' => e = .returned (.bool (samePk x.plain y.plain)) ∧ Old w w' := by
 obtain ⟨a1, a2, a3, a4, av, a5⟩ := x
 obtain ⟨b1, b2, b3, b4, bv, b5⟩ := y
 obtain ⟨ap, ac, e1, _, _⟩ := hx.len
 obtain ⟨bp, bc, e2, _, _⟩ := hy.len
 simp only at e1 e2 hx hy
 subst e1 e2
 have C := Lib.hid (fun W (k : Old w W) => equal_any _ _ _ _ W (hx.old k) (hy.old k))
 obtain ⟨z1, d1⟩ : ∃ z, ((a1 : Int) == (b1 : Int)) = z := ⟨_, rfl⟩
 obtain ⟨z2, d2⟩ : ∃ z, ((a2 : Int) == (b2 : Int)) = z := ⟨_, rfl⟩
 obtain ⟨z3, d3⟩ : ∃ z, ((a3 : Int) == (b3 : Int)) = z := ⟨_, rfl⟩
 obtain ⟨z4, d4⟩ : ∃ z, ((a4 : Int) == (b4 : Int)) = z := ⟨_, rfl⟩
 have n1 : (a1 == b1) = z1 := by rw [← d1, Bool.eq_iff_iff]; simp; omega
 have n2 : (a2 == b2) = z2 := by rw [← d2, Bool.eq_iff_iff]; simp; omega
 have n3 : (a3 == b3) = z3 := by rw [← d3, Bool.eq_iff_iff]; simp; omega
 have n4 : (a4 == b4) = z4 := by rw [← d4, Bool.eq_iff_iff]; simp; omega
 have hs : samePk (⟨a1, a2, a3, a4, .slice ap a5.length ac, a5⟩ : Pv).plain (⟨b1, b2, b3, b4, .slice bp b5.length bc, b5⟩ : Pv).plain = (z1 && (z2 && (z3 && (z4 && a5 == b5)))) := by
  unfold samePk
  simp only [Pv.plain, n1, n2, n3, n4]
 rw [hs]
 simp only [Pv.cells]
 clear hs hx hy
 cases z1
 case false =>
  go_enter Try.func53, Try.ntmps53
  go_wp2_with fail
  go_ret
  exact ⟨rfl, ((Keeps.refl _ _).alloc _).alloc _⟩
 cases z2
 case false =>
  go_enter Try.func53, Try.ntmps53
  go_wp2_with fail
  go_ret
  exact ⟨rfl, ((Keeps.refl _ _).alloc _).alloc _⟩
 cases z3
 case false =>
  go_enter Try.func53, Try.ntmps53
  go_wp2_with fail
  go_ret
  exact ⟨rfl, ((Keeps.refl _ _).alloc _).alloc _⟩
 cases z4
 case false =>
  go_enter Try.func53, Try.ntmps53
  go_wp2_with fail
  go_ret
  exact ⟨rfl, ((Keeps.refl _ _).alloc _).alloc _⟩
 go_enter Try.func53, Try.ntmps53
 go_wp2_with fail
 refine (C.out _ (((Keeps.refl _ _).alloc _).alloc _)).mono ?_
 rintro e w1 ⟨rfl, rfl⟩
 go_wp2_with fail
 go_ret
 exact ⟨rfl, ((Keeps.refl _ _).alloc _).alloc _⟩

/-- a struct within a block is read at once -/
theorem load_sub20 {W : World} {b o : Nat} {cs : Array Value} {ty : TypeId} {d : TypeDesc} (h : ∀ j v, cs.toList[j]? = some v → W.cell? ⟨b, o + j, none⟩ = some v)
  (hu : Try.prog.underlying ty = some d) (hd : (match d with | .struct _ | .array _ _ => true | _ => false) = true) (hi : (Try.prog.info? ty).map (·.size) = some cs.size) : (loadVar ty ⟨b, o, none⟩).run Try.prog W = .ok (.agg cs) W := by
 have hl : (loadCells ⟨b, o, none⟩ cs.toList.length).run Try.prog W = .ok cs.toList.toArray W :=
  run_loadCells_list (P := Try.prog) W ⟨b, o, none⟩ cs.toList (fun j v hv => by
   rw [Addr.add_lit]; exact h j v hv)
 cases hq : Try.prog.info? ty with
 | none => simp [hq] at hi
 | some i =>
  have hs : i.size = cs.size := by simpa [hq] using hi
  have hagg : (isAgg ty).run Try.prog W = .ok true W := by
   unfold isAgg
   rw [Sem.run_bind, run_underlying hu W]
   cases d <;> simp_all
  simp only [Array.length_toList, Array.toArray_toList] at hl
  simp [loadVar, Sem.run_bind, hagg, sizeOf, typeInfo, hq, hs, hl]
theorem load_pk {W : World} {b o : Nat} {x : Pv} (h : ∀ i u, x.cells[i]? = some u → W.cell? ⟨b, o + i, none⟩ = some u) : (loadVar 37 ⟨b, o, none⟩).run Try.prog W = .ok (.agg x.cells.toArray) W :=
 load_sub20 (cs := x.cells.toArray) (fun j v hv => h j v (by simpa using hv)) Try.underlying37 rfl (by simp only [List.size_toArray]; show _ = some 5; kernel_rfl)
/-- a packet is laid into a new block: what is read there -/
theorem new_pk (W : World) (x : Pv) : ∀ i u, x.cells[i]? = some u → (W.alloc (.cells x.cells.toArray 37)).cell? ⟨W.heap.size, 0 + i, none⟩ = some u := fun i u hu => by
 rw [Nat.zero_add, World.cell?_alloc_new]
 simpa using hu
def setPk (w : World) (g : Nat) (x : Pv) : World := w.setCells g 0 x.cells
theorem store_pk {w : World} {g : Nat} {cs : Array Value} {t : TypeId} (h : w.heap[g]? = some (.cells cs t (0, 0))) (hs : cs.size = 5) (x : Pv) (hx : ∃ p n c, x.v = .slice p n c) : (storeVar 37 ⟨g, 0, none⟩ (.agg x.cells.toArray)).run Try.prog w = .ok () (setPk w g x) := by
 refine run_storeVar_mid w g 0 37 x.cells.toArray (fun j hj => ?_) (by simp only [List.size_toArray]; show _ = some 5; kernel_rfl) ?_
 ·have : 0 + j < cs.size := by have : j < 5 := hj; omega
  constructor
  ·simp [World.cell?, h]; omega
  ·simp [World.frozen?, h]
 ·obtain ⟨p, n, c, e⟩ := hx
  simp [Pv.cells, e, Value.oneCell']
theorem setPk_heap {w : World} {g : Nat} {a b c d e : Value} {t : TypeId} (h : w.heap[g]? = some (.cells #[a, b, c, d, e] t (0, 0))) (x : Pv) : (setPk w g x).heap[g]? = some (.cells x.cells.toArray t (0, 0)) := by
 have h1 := heap_setCell_same _ g 0 _ _ (.int .u64 (x.src : Int)) h
 have h2 := heap_setCell_same _ g 1 _ _ (.int .u64 (x.dst : Int)) h1
 have h3 := heap_setCell_same _ g 2 _ _ (.int .u64 (x.seq : Int)) h2
 have h4 := heap_setCell_same _ g 3 _ _ (.int .u64 (x.ack : Int)) h3
 have h5 := heap_setCell_same _ g 4 _ _ x.v h4
 simp only [List.setIfInBounds_toArray, List.set_cons_zero, List.set_cons_succ] at h5
 exact h5
theorem setPk_keeps (w : World) (g : Nat) (x : Pv) : Keeps (fun k => k = g) w (setPk w g x) := setAt (setAt (setAt (setAt (setAt (Keeps.refl _ _) 0 _) 1 _) 2 _) 3 _) 4 _

attribute [-go_sem] loadVar storeVar
set_option maxRecDepth 100000 in
set_option maxHeartbeats 1000000 in
theorem equal_pks (v v' : Value) (l m : List Pv) (w : World) (h : SeesR w 5 Pv.cells v l) (h' : SeesR w 5 Pv.cells v' m) (hf : ∀ x ∈ l, Sees w x.v x.d) (hf' : ∀ x ∈ m, Sees w x.v x.d) :
  Calls Try.prog 52 #[v, v', .func (.func 53) #[] #[]] w fun e w' => e = .returned (.bool (decide (l.map Pv.plain = m.map Pv.plain))) ∧ Old w w' := by
 obtain ⟨p, c, rfl, hb1, hb2⟩ := h.len
 obtain ⟨p', c', rfl, _, _⟩ := h'.len
 have hmm : l.length ≤ 9223372036854775807 := by unfold maxLen at hb2; omega
 clear hb1 hb2
 by_cases hl : l.length = m.length
 case neg =>
  have hln : ((l.length : Int) != (m.length : Int)) = true := by rw [bne_iff_ne]; omega
  have HL := Lib.hid hl
  clear hl h h' hf hf'
  go_enter Try.func52, Try.ntmps52
  go_wp2_with fail
  go_ret
  exact ⟨ret_bool20 (by symm; rw [decide_eq_false_iff_not]; intro e; exact HL.out (by simpa using congrArg List.length e)), Keeps.refl _ _⟩
 have hln : ((l.length : Int) != (m.length : Int)) = false := by rw [hl]; simp
 have H := Lib.hid (And.intro h (And.intro h' (And.intro hl (And.intro hf hf'))))
 clear h h' hl hf hf'
 go_enter Try.func52, Try.ntmps52
 go_wp2_with fail
 go_loopw [7, 8, 9, 17] (fun _ _ _ v17 wr => ∃ i : Nat, i ≤ l.length ∧ v17 = .int .i64 i ∧ (l.map Pv.plain).take i = (m.map Pv.plain).take i ∧ Old w wr) (fun _ _ _ v17 _ => l.length - (intOf v17).toNat)
 case atStart => exact ⟨0, by omega, rfl, rfl, Keeps.refl _ _⟩
 case round =>
  obtain ⟨i, hi, rfl, hr, hk⟩ := hrel
  have HR := Lib.hid hr
  clear hr
  by_cases hlt : i < l.length
  ·obtain ⟨b, o, cc, he, _, _, hc⟩ := H.out.1.at (by omega)
   obtain ⟨b', o', cc', he', _, _, hc'⟩ := H.out.2.1.at (by have := H.out.2.2.1; omega)
   simp only [Value.slice.injEq, true_and] at he he'
   obtain ⟨rfl, rfl⟩ := he
   obtain ⟨rfl, rfl⟩ := he'
   obtain ⟨x, hx⟩ : ∃ x, l[i]? = some x := ⟨_, List.getElem?_eq_getElem hlt⟩
   obtain ⟨y, hy⟩ : ∃ y, m[i]? = some y := ⟨_, List.getElem?_eq_getElem (by have := H.out.2.2.1; omega)⟩
   have sx := (H.out.2.2.2.1 x (List.mem_of_getElem? hx)).old hk
   have sy := (H.out.2.2.2.2 y (List.mem_of_getElem? hy)).old hk
   have C := Lib.hid (fun W (k : Old wr W) => same1_any x y W (sx.old k) (sy.old k))
   obtain ⟨Wz, hWz⟩ : ∃ Wz, wr.alloc (.cells #[.int .u64 0, .int .u64 0, .int .u64 0, .int .u64 0, .slice none 0 0] 37) = Wz := ⟨_, rfl⟩
   have kz : Old wr Wz := by rw [← hWz]; exact (Keeps.refl _ _).alloc _
   have bz : Wz.heap[wr.heap.size]? = some (.cells #[.int .u64 0, .int .u64 0, .int .u64 0, .int .u64 0, .slice none 0 0] 37 (0, 0)) := by rw [← hWz]; exact heap_alloc_new _ _
   have st1 := store_pk bz rfl x (by obtain ⟨q, d, e, _⟩ := sx.len; exact ⟨q, _, d, e⟩)
   have b1 := setPk_heap bz x
   have k1 : Old wr (setPk Wz wr.heap.size x) := kz.then (setPk_keeps Wz wr.heap.size x) (fun i hi e => by omega)
   obtain ⟨W1, hW1⟩ : ∃ W1, setPk Wz wr.heap.size x = W1 := ⟨_, rfl⟩
   rw [hW1] at st1 b1 k1
   clear hW1
   obtain ⟨Wy, hWy⟩ : ∃ Wy, W1.alloc (.cells #[.int .u64 0, .int .u64 0, .int .u64 0, .int .u64 0, .slice none 0 0] 37) = Wy := ⟨_, rfl⟩
   have ky : Old W1 Wy := by rw [← hWy]; exact (Keeps.refl _ _).alloc _
   have by' : Wy.heap[W1.heap.size]? = some (.cells #[.int .u64 0, .int .u64 0, .int .u64 0, .int .u64 0, .slice none 0 0] 37 (0, 0)) := by rw [← hWy]; exact heap_alloc_new _ _
   have st2 := store_pk by' rfl y (by obtain ⟨q, d, e, _⟩ := sy.len; exact ⟨q, _, d, e⟩)
   have b2 := setPk_heap by' y
   have k2 : Old W1 (setPk Wy W1.heap.size y) := ky.then (setPk_keeps Wy W1.heap.size y) (fun i hi e => by omega)
   obtain ⟨W2, hW2⟩ : ∃ W2, setPk Wy W1.heap.size y = W2 := ⟨_, rfl⟩
   rw [hW2] at st2 b2 k2
   clear hW2
   have lx := load_pk (W := wr) (b := b) (o := o + i * 5) (x := x) (fun j u hu => hk.cell (hc i x hx j u hu) (fun f => f))
   have ly := load_pk (W := W1) (b := b') (o := o' + i * 5) (x := y) (fun j u hu => (hk.trans k1).cell (hc' i y hy j u hu) (fun f => f))
   have b12 := (k2.block _ (Array.getElem?_eq_some_iff.1 b1).1 (fun f => f)).trans b1
   have l8 := load_pk (W := W2) (b := wr.heap.size) (o := 0) (x := x) (fun j u hu => by rw [Nat.zero_add]; simpa [World.cell?, b12] using hu)
   have l9 := load_pk (W := W2) (b := W1.heap.size) (o := 0) (x := y) (fun j u hu => by rw [Nat.zero_add]; simpa [World.cell?, b2] using hu)
   have i1 : (0 : Int) ≤ (i : Int) := by omega
   have i2 : (i : Int) < (l.length : Int) := by omega
   have i3 : (i : Int) < (m.length : Int) := by have := H.out.2.2.1; omega
   have i4 : i < m.length := by have := H.out.2.2.1; omega
   have HX := Lib.hid (And.intro hx (And.intro hy (And.intro hk (k1.trans k2))))
   have hent : ∀ (args : Array Value) (w : World), (callFunc 53 args).run Try.prog w = .ok (.enter 53 args) w := fun args W => by simp [go_sem, callFunc, Try.func53]; rfl
   clear hx hy hk k1 k2 kz ky bz by' b1 b2 b12 hc hc' sx sy
   obtain ⟨z, hz⟩ : ∃ z, samePk x.plain y.plain = z := ⟨_, rfl⟩
   rw [hz] at C
   have HZ := Lib.hid hz
   clear hz
   have htk : (l.map Pv.plain).take (i + 1) = (l.map Pv.plain).take i ++ [x.plain] ∧ (m.map Pv.plain).take (i + 1) = (m.map Pv.plain).take i ++ [y.plain] := by
    obtain ⟨hx, hy, _, _⟩ := HX.out
    constructor
    ·rw [List.take_add_one, List.getElem?_map, hx]; rfl
    ·rw [List.take_add_one, List.getElem?_map, hy]; rfl
   have HT := Lib.hid htk
   clear htk
   cases z with
   | true =>
    go_wp2_with fail
    refine (C.out _ HX.out.2.2.2).mono ?_
    rintro e w3 ⟨rfl, k3⟩
    have K3 := Lib.hid k3
    clear k3
    go_wp2_with fail
    go_roundw
    case rel =>
     refine ⟨i + 1, by omega, by go_num, ?_, (HX.out.2.2.1.trans HX.out.2.2.2).trans K3.out⟩
     rw [HT.out.1, HT.out.2, HR.out, (samePk_iff _ _).1 HZ.out]
    case measure => simp [intOf]; omega
   | false =>
    go_wp2_with fail
    refine (C.out _ HX.out.2.2.2).mono ?_
    rintro e w3 ⟨rfl, k3⟩
    have K3 := Lib.hid k3
    clear k3
    go_wp2_with fail
    go_ret
    refine ⟨ret_bool20 ?_, (HX.out.2.2.1.trans HX.out.2.2.2).trans K3.out⟩
    symm
    rw [decide_eq_false_iff_not]
    intro e
    have e2 : (l.map Pv.plain)[i]? = (m.map Pv.plain)[i]? := by rw [e]
    rw [List.getElem?_map, List.getElem?_map, HX.out.1, HX.out.2.1] at e2
    have e3 : x.plain = y.plain := Option.some.inj e2
    have := (samePk_iff _ _).2 e3
    rw [HZ.out] at this
    cases this
  ·obtain rfl : i = l.length := by omega
   have K1 := Lib.hid hk
   clear hk
   go_wp2_with fail
   go_ret
   refine ⟨ret_bool20 ?_, K1.out⟩
   symm
   rw [decide_eq_true_iff]
   have := HR.out
   rw [List.take_of_length_le (by simp), List.take_of_length_le (by simp; have := H.out.2.2.1; omega)] at this
   exact this

theorem same_any (v v' : Value) (l m : List Pv) (w : World) (h : SeesR w 5 Pv.cells v l) (h' : SeesR w 5 Pv.cells v' m) (hf : ∀ x ∈ l, Sees w x.v x.d) (hf' : ∀ x ∈ m, Sees w x.v x.d) :
  Calls Try.prog 33 #[v, v'] w fun e w' => e = .returned (.bool (decide (l.map Pv.plain = m.map Pv.plain))) ∧ Old w w' := by
 have C := Lib.hid (equal_pks v v' l m w h h' hf hf')
 clear h h' hf hf'
 go_enter Try.func33, Try.ntmps33
 go_wp2_with fail
 refine C.out.mono ?_
 rintro e w1 ⟨rfl, k⟩
 have K := Lib.hid k
 clear k
 go_wp2_with fail
 go_ret
 exact ⟨rfl, K.out⟩
end Go.Proofs.Ytllnlimbfoingaa

namespace Go.Proofs.Ytllnlimbfoingaa
open Go.RowKit Go.Conc

/-- two ends at lb; R is what they write, M what others write -/
def Duo (M : Nat → Prop) (R : Bool → Nat → Prop) (w : World) (lb : Bool → Nat) (E : Bool → En) : Prop := ∀ i, Lk (R i) (fun k => R (!i) k ∨ M k) w (lb i) (E i)
theorem Duo.old {M : Nat → Prop} {R : Bool → Nat → Prop} {w w' : World} {lb : Bool → Nat} {E : Bool → En} (h : Duo M R w lb E) (hk : Old w w') : Duo M R w' lb E := fun i => (h i).old hk
/-- others worked -/
theorem Duo.mem {M M' : Nat → Prop} {R : Bool → Nat → Prop} {w w1 : World} {lb : Bool → Nat} {E : Bool → En} (h : Duo M R w lb E) (hk : Keeps M w w1) (hT : ∀ k, M' k → M k ∨ w.heap.size ≤ k) (hl : ∀ k, M' k → k < w1.heap.size) : Duo M' R w1 lb E := fun i =>
 (h i).to (hk.weaken (fun _ _ m => .inr m)) (fun k hk' => by
  rcases hk' with r | m
  ·exact .inl (.inl r)
  ·rcases hT k m with m | m
   ·exact .inl (.inr m)
   ·exact .inr m) (fun k hk' => by
  rcases hk' with r | m
  ·exact Nat.lt_of_lt_of_le ((h i).facts.2.2.2 k (.inl r)) hk.size
  ·exact hl k m)
theorem Duo.lt {M : Nat → Prop} {R : Bool → Nat → Prop} {w : World} {lb : Bool → Nat} {E : Bool → En} (h : Duo M R w lb E) (i : Bool) : (∀ k, R i k → k < w.heap.size) ∧ (∀ k, M k → ¬ R i k) ∧ (∀ k, M k → k < w.heap.size) ∧ R i (lb i) ∧ ∀ k, R (!i) k → ¬ R i k :=
 ⟨(h i).facts.2.2.1, fun k m => (h i).facts.2.1 k (.inr m), fun k m => (h i).facts.2.2.2 k (.inr m), (h i).facts.1, fun k r => (h i).facts.2.1 k (.inl r)⟩
/-- end i worked -/
theorem Duo.step {M M' : Nat → Prop} {R : Bool → Nat → Prop} {w w1 : World} {lb : Bool → Nat} {E : Bool → En} (h : Duo M R w lb E) (i : Bool) (R' : Nat → Prop) (e : En) (hk : Keeps (R i) w w1) (hR : ∀ k, R' k → R i k ∨ w.heap.size ≤ k) (hR1 : ∀ k, R' k → k < w1.heap.size)
  (hM : ∀ k, M' k → M k ∨ w.heap.size ≤ k) (hM1 : ∀ k, M' k → k < w1.heap.size) (hL : ∀ T' : Nat → Prop, (∀ k, T' k → (R (!i) k ∨ M k) ∨ (w.heap.size ≤ k ∧ M' k)) → (∀ k, T' k → k < w1.heap.size) → Lk R' T' w1 (lb i) e) : Duo M' (upd R i R') w1 lb (upd E i e) := by
 have hlt := fun k (r : R (!i) k) => Nat.lt_of_lt_of_le ((h (!i)).facts.2.2.1 k r) hk.size
 refine both i ?_ ?_
 ·rw [upd_same, upd_same, upd_not]
  refine hL _ (fun k hk' => ?_) (fun k hk' => ?_)
  ·rcases hk' with r | m
   ·exact .inl (.inl r)
   ·rcases hM k m with m' | m'
    ·exact .inl (.inr m')
    ·exact .inr ⟨m', m⟩
  ·rcases hk' with r | m
   ·exact hlt k r
   ·exact hM1 k m
 ·rw [upd_not, upd_not, Bool.not_not, upd_same]
  refine (h (!i)).to (hk.weaken (fun _ _ r => by rw [Bool.not_not]; exact .inl r)) (fun k hk' => ?_) (fun k hk' => ?_)
  ·rw [Bool.not_not]
   rcases hk' with r | m
   ·rcases hR k r with r | r
    ·exact .inl (.inl r)
    ·exact .inr r
   ·rcases hM k m with m | m
    ·exact .inl (.inr m)
    ·exact .inr m
  ·rcases hk' with r | m
   ·exact hR1 k r
   ·exact hM1 k m
theorem duo_send {M : Nat → Prop} {R : Bool → Nat → Prop} {w : World} {lb : Bool → Nat} {E : Bool → En} (i : Bool) (v : Value) (d : List UInt8) (h : Duo M R w lb E) (hl : 1 ≤ (E i).life) (hp : 1 ≤ (E i).peer) (hn : (E i).waits.length ≤ 1000) (hv : Sees w v d) (hd : d.length ≤ 140737488355328) :
  Calls Try.prog 12 #[.pointer (some ⟨lb i, 0, none⟩), v] w fun e w' => e = .returned (.int .i64 0) ∧ Duo M R w' lb (upd E i ((E i).send d)) ∧ Keeps (R i) w w' := by
 have hL := lk_send v d (h i) hl hp hn hv hd
 refine hL.mono ?_
 rintro e w' ⟨rfl, h1, k⟩
 refine ⟨rfl, ?_, k⟩
 have := h.step (M' := M) i (R i) ((E i).send d) k (fun _ r => .inl r) h1.facts.2.2.1 (fun _ m => .inl m) (fun q m => Nat.lt_of_lt_of_le ((h.lt i).2.2.1 q m) k.size) (fun T' t1 t2 => h1.to (Keeps.refl _ _) (fun q t => by
  rcases t1 q t with t | t
  ·exact .inl t
  ·exact absurd t.1 (Nat.not_le.2 ((h.lt i).2.2.1 q t.2))) t2)
 rwa [upd_self] at this
theorem duo_tick {M : Nat → Prop} {R : Bool → Nat → Prop} {w : World} {lb : Bool → Nat} {E : Bool → En} (i : Bool) (h : Duo M R w lb E) (hl : 1 ≤ (E i).life) :
  Calls Try.prog 21 #[.pointer (some ⟨lb i, 0, none⟩)] w fun e w' => e = .returned (.int .i64 0) ∧ Duo M R w' lb (upd E i (E i).tick) ∧ Keeps (R i) w w' := by
 refine (lk_tick (h i) hl).mono ?_
 rintro e w' ⟨rfl, h1, k⟩
 refine ⟨rfl, ?_, k⟩
 have := h.step (M' := M) i (R i) (E i).tick k (fun _ r => .inl r) h1.facts.2.2.1 (fun _ m => .inl m) (fun q m => Nat.lt_of_lt_of_le ((h.lt i).2.2.1 q m) k.size) (fun T' t1 t2 => h1.to (Keeps.refl _ _) (fun q t => by
  rcases t1 q t with t | t
  ·exact .inl t
  ·exact absurd t.1 (Nat.not_le.2 ((h.lt i).2.2.1 q t.2))) t2)
 rwa [upd_self] at this
theorem duo_out {M : Nat → Prop} {R : Bool → Nat → Prop} {w : World} {lb : Bool → Nat} {E : Bool → En} (i : Bool) (h : Duo M R w lb E) (hl : 1 ≤ (E i).life) (hf : (E i).win.length ≤ 8) (hW : (E i).waits.length ≤ 1000) (hla : (E i).last + (E i).waits.length < 18446744073709551615) :
  Calls Try.prog 17 #[.pointer (some ⟨lb i, 0, none⟩)] w fun e w' => ∃ (X : List Pv) (vo : Value), e = .returned vo ∧ Outs w' w.heap.size vo X ∧ X.map Pv.plain = (E i).outs ∧ Keeps (R i) w w' ∧
   ∀ M' : Nat → Prop, (∀ k, M' k → M k ∨ w.heap.size ≤ k) → (∀ k, M' k → k < w'.heap.size) → Duo M' R w' lb (upd E i (E i).out) := by
 refine (lk_out (h i) hl hf hW hla).mono ?_
 rintro e w' ⟨X, vo, rfl, hX, hp, k, hL⟩
 refine ⟨X, vo, rfl, hX, hp, k, fun M' m1 m2 => ?_⟩
 have := h.step (M' := M') i (R i) (E i).out k (fun _ r => .inl r) (fun q r => Nat.lt_of_lt_of_le ((h.lt i).1 q r) k.size) m1 m2 (fun T' t1 t2 => hL T' (fun q t => by
  rcases t1 q t with t | t
  ·exact .inl t
  ·exact .inr t.1) t2)
 rwa [upd_self] at this
theorem duo_take {M : Nat → Prop} {R : Bool → Nat → Prop} {w : World} {lb : Bool → Nat} {E : Bool → En} (i : Bool) (p : Pv) (h : Duo M R w lb E) (hl : 1 ≤ (E i).life) (hf : (E i).win.length ≤ 8) (hla : (E i).last < 18446744073709551615) (hne : (E i).next < 18446744073709551615) (hv : Sees w p.v p.d) (hd : p.d.length ≤ 140737488355328) (hvb : ∀ b, p.v.ownBlock = some b → ¬ R i b) :
  Calls Try.prog 14 #[.pointer (some ⟨lb i, 0, none⟩), .agg p.cells.toArray] w fun e w' => ∃ (R' : Nat → Prop) (q : Option Addr) (n c : Nat), e = .returned (.tuple #[.slice q n c, .bool ((E i).take p.plain).2.isSome, .bool (decide ((E i).peer < p.src))]) ∧
   Owns w' w.heap.size (.slice q n c) (((E i).take p.plain).2.getD []) ∧ (∀ b, (Value.slice q n c).ownBlock = some b → ¬ R' b) ∧ (∀ k, R' k → R i k ∨ w.heap.size ≤ k) ∧ (∀ k, R i k → R' k) ∧ Keeps (R i) w w' ∧
   ∀ M' : Nat → Prop, (∀ k, M' k → M k ∨ (w.heap.size ≤ k ∧ ¬ R' k)) → (∀ k, M' k → k < w'.heap.size) → Duo M' (upd R i R') w' lb (upd E i ((E i).take p.plain).1) := by
 refine (lk_take p (h i) hl hf hla hne hv hd hvb).mono ?_
 rintro e w' ⟨R', q, n, c, rfl, ho, hb, hR, hR0, hR1, k, hL⟩
 refine ⟨R', q, n, c, rfl, ho, hb, hR, hR0, k, fun M' m1 m2 => ?_⟩
 refine h.step (M' := M') i R' _ k hR hR1 (fun j m => by rcases m1 j m with m | m; exact .inl m; exact .inr m.1) m2 (fun T' t1 t2 => hL T' (fun j t => ?_) t2)
 rcases t1 j t with t | t
 ·exact .inl t
 ·rcases m1 j t.2 with m | m
  ·exact absurd t.1 (Nat.not_le.2 ((h.lt i).2.2.1 j m))
  ·exact .inr m
end Go.Proofs.Ytllnlimbfoingaa
