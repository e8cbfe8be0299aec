/- DERIVED. Chapter 20: Send, Take. -/
import Derived.Test.YtllnlimbfoingaaY05
import Derived.Lib.MinMax
import Derived.IntWalk
namespace Go.Proofs.Ytllnlimbfoingaa
open Go.RowKit Go.Conc

theorem eql_nil20 (T E : TypeId) (h : Try.prog.underlying T = some (.slice E)) (w : World) (a : Option Addr) (n c : Nat) : (binOp .eql T (.slice a n c) (.slice none 0 0)).run Try.prog w = .ok (.bool a.isNone) w :=
 Lib.run_eql_slice_nil w _ _ a n c 0 0 h
theorem own_new20 (w : World) {k n c : Nat} (hk : (Value.slice (some ⟨w.heap.size, 0, none⟩) n c).ownBlock = some k) (hlt : k < w.heap.size) : False := by
 have e : w.heap.size = k := by simpa [Value.ownBlock] using hk
 omega
theorem OwnsR.lit20 {α : Type} {E : TypeId} {k : Nat} {enc : α → List Value} (w : World) : OwnsR (w.alloc (.cells #[] E)) w.heap.size E k enc (.slice (some ⟨w.heap.size, 0, none⟩) 0 0) [] :=
 World.ownsRow_lit (base := w.heap.size) (e := E) (size := k) w #[] 0 (Nat.le_refl _) (Nat.zero_le _) (by simp)
theorem Try.infoSl : (Try.prog.info? 32).map (fun i => (i.zero, i.size, i.bytes)) = some (some (.slice none 0 0), 1, 24) := by kernel_rfl
/-- slices.Clone of what waits -/
theorem clone_waits (v : Value) (l : List Bv) (w : World) (h : SeesR w 1 bvL v l) (h1 : ∀ x ∈ l, ∀ c ∈ bvL x, c.oneCell' = true) (hl : l.length ≤ 100000) :
  Calls Try.prog 36 #[v] w fun e w' => ∃ p n c, e = .returned (.slice p n c) ∧ OwnsR w' w.heap.size 32 1 bvL (.slice p n c) l ∧ Old w w' := by
 obtain ⟨p, c, rfl, g1, g2, g3, g4⟩ := id h
 have hnil := eql_nil20 53 32 Try.underlying53
 cases p with
 | none =>
  obtain rfl := g3 rfl
  obtain rfl : l = [] := List.eq_nil_of_length_eq_zero (by omega)
  clear g3 g4 h
  go_enter Try.func36, Try.ntmps36
  go_wp2_with fail
  go_ret
  exact ⟨_, _, _, rfl, OwnsR.nil _ _, Keeps.refl _ _⟩
 | some ad =>
  clear g3 g4
  have hlen : ∀ x : Bv, (bvL x).length = 1 := fun _ => rfl
  have HX := Lib.hid (And.intro (h.alloc (.cells #[] 32)) h1)
  clear h1 h
  go_enter Try.func36, Try.ntmps36
  go_wp2_with (at_builtin; refine wpList_append_rows rfl _ _ 53 rfl w.heap.size 32 1 24 bvL _ Try.underlying53 Try.infoSl rfl (by decide) _ [] rfl (OwnsR.lit20 w) _ l rfl HX.out.1 (fun x _ => hlen x) HX.out.2 (by unfold maxLen; simp; omega) (by simp; omega) (by simp) ?_; intro v' w1 ho hg hb)
  obtain ⟨p', c', hv', _⟩ := (ho.sees hlen (by decide)).len
  subst hv'
  have hk := ((Keeps.refl (fun _ => False) w).alloc (.cells #[] 32)).grown hg (fun k hk hlt => own_new20 w hk hlt)
  have H := Lib.hid (And.intro ho hk)
  clear ho hk hg hb
  go_ret
  exact ⟨_, _, _, rfl, by simpa using H.out.1, H.out.2⟩

theorem send_none (lb : Nat) (L : Lv) (v : Value) (w : World) (h : LkM w lb L) (hl : 1 ≤ L.life) (hp : L.peer = 0) : Calls Try.prog 12 #[.pointer (some ⟨lb, 0, none⟩), v] w fun e w' => e = .returned (.int .i64 6) ∧ w = w' := by
 obtain ⟨⟨c0, c1, c2, c3, c4, c5, c6, c7, c8⟩, _⟩ := blk9 h.1
 have d0 : (((L.life : Nat) : Int) == 0) = false := by simp; omega
 have d1 : (((L.peer : Nat) : Int) == 0) = true := by simp [hp]
 clear h hp
 go_enter Try.func12, Try.ntmps12
 go_wp2_with fail
 go_ret
 exact ⟨rfl, rfl⟩
theorem reads_one {L : Lv} {w : World} (h : L.reads w) : ∀ x ∈ L.W, ∀ c ∈ bvL x, c.oneCell' = true := fun x hx c hc => by
 obtain ⟨p, k, e, _⟩ := (h.2.1 x hx).1.len
 simp only [bvL, List.mem_singleton] at hc
 rw [hc, e]
 rfl
set_option maxRecDepth 100000 in
theorem send_yes (lb : Nat) (L : Lv) (v : Value) (d : List UInt8) (w : World) (h : LkM w lb L) (hr : L.reads w) (hl : 1 ≤ L.life) (hp : 1 ≤ L.peer) (hn : L.W.length ≤ 1000) (hv : Sees w v d) (hd : d.length ≤ 140737488355328) :
  Calls Try.prog 12 #[.pointer (some ⟨lb, 0, none⟩), v] w fun e w' => e = .returned (.int .i64 0) ∧ ∃ vw bv, LkM w' lb { L with wv := vw, W := L.W ++ [(bv, d)] } ∧ Keeps (fun k => k = lb) w w' ∧ SeesR w' 1 bvL vw (L.W ++ [(bv, d)]) ∧ Sees w' bv d ∧
   (∀ b, vw.ownBlock = some b → w.heap.size ≤ b) ∧ (∀ b, bv.ownBlock = some b → w.heap.size ≤ b) := by
 obtain ⟨⟨c0, c1, c2, c3, c4, c5, c6, c7, c8⟩, ⟨f0, f1, f2, f3, f4, f5, f6, f7, f8⟩⟩ := blk9 h.1
 have d0 : (((L.life : Nat) : Int) == 0) = false := by simp; omega
 have d1 : (((L.peer : Nat) : Int) == 0) = false := by simp; omega
 have hlt : lb < w.heap.size := (Array.getElem?_eq_some_iff.1 h.1).1
 have C := Lib.hid (clone_waits L.wv L.W w hr.1 (reads_one hr) (by omega))
 have D := Lib.hid (fun W (k : Old w W) => bclone20 v d W (hv.old k) hd)
 have H := Lib.hid (And.intro h (And.intro hr (And.intro hn hlt)))
 clear h hr hv hd hlt
 go_enter Try.func12, Try.ntmps12
 go_wp2_with fail
 refine C.out.mono ?_
 rintro e w1 ⟨p, n, c, rfl, ho, k1⟩
 have c0' := k1.cell c0 (fun f => f)
 have O1 := Lib.hid (And.intro ho k1)
 clear ho k1
 go_wp2_with fail
 refine (D.out w1 O1.out.2).mono ?_
 rintro e w2 ⟨p2, n2, c2', rfl, ho2, k2⟩
 have kk := O1.out.2.trans k2
 have g2 := kk.cell c2 (fun f => f)
 have y2 := (kk.frozen H.out.2.2.2 (fun f => f) (p := ⟨lb, 2, none⟩)).trans f2
 obtain ⟨pq, cq, hvq, _⟩ := (O1.out.1.sees (fun _ => rfl) (by decide)).len
 simp only [Value.slice.injEq] at hvq
 obtain ⟨rfl, rfl, rfl⟩ := hvq
 obtain ⟨w3, hw3⟩ : ∃ w3, w2.alloc (.cells #[.slice p2 n2 c2'] 32) = w3 := ⟨_, rfl⟩
 have k3 : Old w2 w3 := by rw [← hw3]; exact (Keeps.refl _ _).alloc _
 have g3 := k3.cell g2 (fun f => f)
 have y3 := (k3.frozen (Nat.lt_of_lt_of_le H.out.2.2.2 kk.size) (fun f => f) (p := ⟨lb, 2, none⟩)).trans y2
 have sn : SeesR w3 1 bvL (.slice (some ⟨w2.heap.size, 0, none⟩) 1 1) [((.slice p2 n2 c2', d) : Bv)] := by
  rw [← hw3]
  exact SeesR.new (k := 1) (enc := bvL) w2 _ (0, 0) [(.slice p2 n2 c2', d)] _ rfl (fun _ => rfl) (by unfold maxLen; simp)
 have HN := Lib.hid (And.intro (show L.W.length + [((.slice p2 n2 c2', d) : Bv)].length ≤ maxLen by unfold maxLen; simp; omega) (And.intro (show (L.W.length + [((.slice p2 n2 c2', d) : Bv)].length) * 24 ≤ 140737488355328 by simp; omega)
   (Nat.le_trans kk.size k3.size)))
 have O2 := Lib.hid (And.intro ho2 (And.intro kk (And.intro k3 (And.intro sn ((O1.out.1.old k2).old k3)))))
 clear ho2 k2 kk sn k3 g2 y2
 go_wp2_with (at_builtin; go_loud (refine wpList_append_rows (P := Try.prog) rfl _ _ 53 rfl w.heap.size 32 1 24 bvL _ Try.underlying53 Try.infoSl rfl (by decide) (.slice p L.W.length c) L.W (by rfl) O2.out.2.2.2.2 _ [((.slice p2 n2 c2', d) : Bv)] (by rfl) O2.out.2.2.2.1 (fun _ _ => rfl) (by simp [bvL, Value.oneCell']) HN.out.1 HN.out.2.1 HN.out.2.2 ?_; intro v' w4 ho4 hg4 hv4; have k4 : Keeps (fun k => w.heap.size ≤ k ∧ k < w1.heap.size) w3 w4 := (Keeps.refl _ _).grown hg4 (fun k hb _ => O1.out.1.block k hb); obtain ⟨p4, c4, hv4', _⟩ := (ho4.sees (fun _ => rfl) (by decide)).len; subst hv4'; have g4 := k4.cell g3 (fun e => absurd e.1 (Nat.not_le.2 H.out.2.2.2)); have y4 := (k4.frozen (p := ⟨lb, 2, none⟩) (World.block_lt_of_cell? w3 _ g3) (fun e => absurd e.1 (Nat.not_le.2 H.out.2.2.2))).trans y3; have O4 := Lib.hid (And.intro ho4 k4); clear ho4 k4 hg4 hv4))
 go_ret
 obtain ⟨ho2, kk, k3, sn, ho3⟩ := O2.out
 obtain ⟨ho4, k4⟩ := O4.out
 have h4 := (H.out.1.old (kk.trans k3)).keeps k4 (fun e => absurd e.1 (Nat.not_le.2 H.out.2.2.2)) (fun e => absurd e.1 (Nat.not_le.2 H.out.1.2.1.lt))
 have hlw : (L.W ++ [((.slice p2 n2 c2', d) : Bv)]).length = L.W.length + 1 := by simp
 rw [hlw] at ho4
 have k5 : Keeps (fun k => k = lb) w4 (w4.setCell ⟨lb, 2, none⟩ (.slice p4 (L.W.length + 1) c4)) := setAt (Keeps.refl _ _) 2 _
 have hw0 : ∀ b, w.heap.size ≤ b → b ≠ lb := fun b hb e => by have := H.out.2.2.2; omega
 refine ⟨rfl, .slice p4 (L.W.length + 1) c4, (.slice p2 n2 c2'), h4.set 2 (.slice p4 (L.W.length + 1) c4) { L with wv := .slice p4 (L.W.length + 1) c4, W := L.W ++ [(.slice p2 n2 c2', d)] } rfl rfl rfl, ?_, ?_, ?_, ?_, ?_⟩
 ·exact ((((kk.trans k3).weaken (T := fun k => k = lb) (fun _ _ f => f.elim)).then k4 (fun i hi e => by omega))).trans k5
 ·exact (ho4.keeps k5 (fun b hb => hw0 b (ho4.block b hb).1)).sees (fun _ => rfl) (by decide)
 ·refine ((ho2.sees.old k3).keeps k4 (fun b hb e => ?_)).keeps k5 (fun b hb => hw0 b (Nat.le_trans O1.out.2.size (ho2.block b hb).1))
  have := (ho2.block b hb).1
  omega
 ·exact fun b hb => (ho4.block b hb).1
 ·exact fun b hb => Nat.le_trans O1.out.2.size (ho2.block b hb).1

def Lv.anew (L : Lv) (p c : Nat) : Lv := ⟨L.life, p, .slice none 0 0, [], c, [], 0, 1, false, true, false⟩
/-- behind the test whether it begins anew -/
def BegP (lb : Nat) (L : Lv) (src : Nat) (W wc : World) : Prop :=
 ∃ Lb : Lv, LkM wc lb Lb ∧ (L.peer < src → ∃ c, W.heap.size ≤ c ∧ Lb = L.anew src c) ∧ (¬ L.peer < src → Lb = L) ∧ Keeps (fun k => k = lb) W wc
/-- what Take gives -/
def TakeP (lb : Nat) (L : Lv) (p : Pv) (w : World) (e : Ending) (w' : World) : Prop :=
 ∃ (L' : Lv) (q : Option Addr) (n c : Nat), e = .returned (.tuple #[.slice q n c, .bool (L.plain.take p.plain).2.isSome, .bool (decide (L.peer < p.src))]) ∧ Owns w' w.heap.size (.slice q n c) ((L.plain.take p.plain).2.getD []) ∧
  LkM w' lb L' ∧ L'.plain = (L.plain.take p.plain).1 ∧ Keeps (fun k => k = lb ∨ k = L.c) w w' ∧ (L'.c = L.c ∨ w.heap.size ≤ L'.c) ∧ (L'.wv = L.wv ∧ L'.W = L.W ∨ L'.wv = .slice none 0 0 ∧ L'.W = []) ∧ (∀ f ∈ L'.F, f ∈ L.F) ∧
  (∀ b, (Value.slice q n c).ownBlock = some b → b ≠ L'.c)
theorem Keeps.drewN {S : Nat → Prop} {a w : World} (h : Keeps S a w) (n : Nat) : Keeps S a (w.drewN n) := ⟨h.os, h.tape, h.output, h.size, h.block⟩
theorem LkM.drewN {w : World} {lb : Nat} {L : Lv} (h : LkM w lb L) (n : Nat) : LkM (w.drewN n) lb L := h
theorem take_nil (_v : Value) (p : Pv) (w : World) : Calls Try.prog 14 #[.pointer none, .agg p.cells.toArray] w fun e w' => e = .returned (.tuple #[.slice none 0 0, .bool false, .bool false]) ∧ Old w w' := by
 obtain ⟨src, dst, seq, ack, v, d⟩ := p
 simp only [Pv.cells]
 go_enter Try.func14, Try.ntmps14
 go_wp2_with fail
 go_quiet (fail)
 go_wp2_with fail
 go_ret3
 exact ⟨rfl, ((Keeps.refl _ _).alloc _).drewN _⟩
set_option maxRecDepth 100000 in
theorem take_refuse (lb : Nat) (L : Lv) (p : Pv) (w : World) (h : LkM w lb L) (hl : 1 ≤ L.life) (hp : p.src = 0 ∨ p.src < L.peer) (hv : Sees w p.v p.d) : Calls Try.prog 14 #[.pointer (some ⟨lb, 0, none⟩), .agg p.cells.toArray] w (TakeP lb L p w) := by
 obtain ⟨src, dst, seq, ack, v, d⟩ := p
 simp only at hp hv
 obtain ⟨vp, vc, rfl, _, _⟩ := hv.len
 simp only [Pv.cells]
 obtain ⟨w1, hw1⟩ : ∃ w1, w.alloc (.cells #[.int .u64 (src : Int), .int .u64 (dst : Int), .int .u64 (seq : Int), .int .u64 (ack : Int), .slice vp d.length vc] 37) = w1 := ⟨_, rfl⟩
 have o1 : Old w w1 := by rw [← hw1]; exact (Keeps.refl _ _).alloc _
 have b1 : w1.heap[w.heap.size]? = some (.cells #[.int .u64 (src : Int), .int .u64 (dst : Int), .int .u64 (seq : Int), .int .u64 (ack : Int), .slice vp d.length vc] 37 (0, 0)) := by rw [← hw1]; exact heap_alloc_new _ _
 obtain ⟨⟨z0, z1, z2, z3, z4⟩, _⟩ := blk5 b1
 obtain ⟨⟨c0, c1, c2, c3, c4, c5, c6, c7, c8⟩, ⟨f0, f1, f2, f3, f4, f5, f6, f7, f8⟩⟩ := blk9 (h.old o1).1
 have d0 : (((L.life : Nat) : Int) == 0) = false := by simp; omega
 have RF : Hid (∀ n, TakeP lb L ⟨src, dst, seq, ack, .slice vp d.length vc, d⟩ w (.returned (.tuple #[.slice none 0 0, .bool false, .bool false])) (w1.drewN n)) := by
  refine Lib.hid fun n => ?_
  have e : L.plain.take ⟨src, dst, seq, ack, d⟩ = (L.plain, none) := by unfold En.take; exact if_pos hp
  have e2 : decide (L.peer < src) = false := decide_eq_false (by omega)
  refine ⟨L, none, 0, 0, ?_, ?_, (h.old o1).drewN n, ?_, (o1.weaken (fun _ _ f => f.elim)).drewN n, .inl rfl, .inl ⟨rfl, rfl⟩, fun f hf => hf, fun b hb => by cases hb⟩
  ·show _ = Ending.returned (.tuple #[_, .bool (L.plain.take ⟨src, dst, seq, ack, d⟩).2.isSome, .bool (decide (L.peer < src))])
   rw [e, e2]
   rfl
  ·show Owns _ _ _ ((L.plain.take ⟨src, dst, seq, ack, d⟩).2.getD [])
   rw [e]
   exact Owns.nil _ _
  ·show _ = (L.plain.take ⟨src, dst, seq, ack, d⟩).1
   rw [e]
 by_cases h0 : src = 0
 ·have d1 : (((src : Nat) : Int) == 0) = true := by simp [h0]
  clear h o1 hv b1 hp h0
  go_enter Try.func14, Try.ntmps14
  go_wp2_with fail
  go_quiet (fail)
  go_wp2_with fail
  go_ret3
  exact RF.out _
 ·have d1 : (((src : Nat) : Int) == 0) = false := by simp [h0]
  have d2 : decide (src < L.peer) = true := by simp; omega
  clear h o1 hv b1 hp h0
  go_enter Try.func14, Try.ntmps14
  go_wp2_with fail
  go_quiet (fail)
  go_wp2_with fail
  go_ret3
  exact RF.out _

theorem take_of {e : En} {p : Pk} (h : ¬ (p.src = 0 ∨ p.src < e.peer)) : e.take p = if p.dst ≠ (e.begun p).life then ({ e.begun p with owes := true }, none)
 else if p.seq = 0 then ((e.begun p).acked p.ack, none)
 else if p.seq ≠ (e.begun p).next then ({ (e.begun p).acked p.ack with owes := true }, none)
 else ({ (e.begun p).acked p.ack with owes := true, next := (e.begun p).next + 1 }, some p.data) := by unfold En.take; exact if_neg h
theorem takeP_of {lb : Nat} {L : Lv} {p : Pv} {w w' : World} {e : Ending} {T : En × Option Bs} (hT : L.plain.take p.plain = T) (L' : Lv) (q : Option Addr) (n c : Nat)
  (he : e = .returned (.tuple #[.slice q n c, .bool T.2.isSome, .bool (decide (L.peer < p.src))])) (ho : Owns w' w.heap.size (.slice q n c) (T.2.getD [])) (hm : LkM w' lb L') (hp : L'.plain = T.1) (hk : Keeps (fun k => k = lb ∨ k = L.c) w w')
  (hc : L'.c = L.c ∨ w.heap.size ≤ L'.c) (hw : L'.wv = L.wv ∧ L'.W = L.W ∨ L'.wv = .slice none 0 0 ∧ L'.W = []) (hf : ∀ f ∈ L'.F, f ∈ L.F) (hb : ∀ b, (Value.slice q n c).ownBlock = some b → b ≠ L'.c) : TakeP lb L p w e w' := by
 subst hT
 exact ⟨L', q, n, c, he, ho, hm, hp, hk, hc, hw, hf, hb⟩
theorem lbOr {lb c : Nat} {a b : World} (h : Keeps (fun k => k = lb) a b) : Keeps (fun k => k = lb ∨ k = c) a b := h.weaken (fun _ _ e => .inl e)
theorem acked_plain (L : Lv) (ack : Nat) : L.plain.acked ack = ({ L with heard := true, F := L.F.filter (ackB (min ack (L.last + 1))) } : Lv).plain := by
 unfold En.acked Lv.plain
 congr 1
 simp only [List.filter_map]
 congr 1
theorem Sees.keepsLt {S : Nat → Prop} {w w' : World} {v : Value} {l : List UInt8} (h : Sees w v l) (hk : Keeps S w w') (hS : ∀ k, v.ownBlock = some k → k < w.heap.size → ¬ S k) : Sees w' v l := by
 obtain ⟨p, c, rfl, h1, h2, h3, h4⟩ := h
 refine ⟨p, c, rfl, h1, h2, h3, fun a ha => ⟨(h4 a ha).1, fun j b hj => ?_⟩⟩
 have hc := (h4 a ha).2 j b hj
 have hl := World.block_lt_of_cell? w _ hc
 refine hk.cell hc ?_
 rw [block_add] at hl ⊢
 exact hS _ (by subst ha; rfl) hl
theorem begun_anew {L : Lv} {p : Pk} {c : Nat} (h : L.peer < p.src) : L.plain.begun p = (L.anew p.src c).plain := by unfold En.begun; exact if_pos h
theorem begun_not {L : Lv} {p : Pk} (h : ¬ L.peer < p.src) : L.plain.begun p = L.plain := by unfold En.begun; exact if_neg h
set_option maxRecDepth 100000 in
set_option maxHeartbeats 1000000 in
theorem take_any (lb : Nat) (L : Lv) (p : Pv) (w : World) (h : LkM w lb L) (hr : L.reads w) (hl : 1 ≤ L.life) (hf : L.F.length ≤ 8) (hla : L.last < 18446744073709551615) (hne : L.next < 18446744073709551615) (hv : Sees w p.v p.d) (hd : p.d.length ≤ 140737488355328) (hvb : ∀ b, p.v.ownBlock = some b → b ≠ lb ∧ b ≠ L.c) :
  Calls Try.prog 14 #[.pointer (some ⟨lb, 0, none⟩), .agg p.cells.toArray] w (TakeP lb L p w) := by
 by_cases hp : p.src = 0 ∨ p.src < L.peer
 ·exact take_refuse lb L p w h hl hp hv
 obtain ⟨src, dst, seq, ack, v, d⟩ := p
 simp only at hp hv hd hvb
 obtain ⟨vp, vc, rfl, _, _⟩ := hv.len
 simp only [Pv.cells]
 obtain ⟨w1, hw1⟩ : ∃ w1, w.alloc (.cells #[.int .u64 (src : Int), .int .u64 (dst : Int), .int .u64 (seq : Int), .int .u64 (ack : Int), .slice vp d.length vc] 37) = w1 := ⟨_, rfl⟩
 have o1 : Old w w1 := by rw [← hw1]; exact (Keeps.refl _ _).alloc _
 have b1 : w1.heap[w.heap.size]? = some (.cells #[.int .u64 (src : Int), .int .u64 (dst : Int), .int .u64 (seq : Int), .int .u64 (ack : Int), .slice vp d.length vc] 37 (0, 0)) := by rw [← hw1]; exact heap_alloc_new _ _
 obtain ⟨⟨z0, z1, z2, z3, z4⟩, _⟩ := blk5 b1
 obtain ⟨⟨c0, c1, c2, c3, c4, c5, c6, c7, c8⟩, ⟨f0, f1, f2, f3, f4, f5, f6, f7, f8⟩⟩ := blk9 (h.old o1).1
 have hlt : lb < w.heap.size := (Array.getElem?_eq_some_iff.1 h.1).1
 have d0 : (((L.life : Nat) : Int) == 0) = false := by simp; omega
 have d1 : (((src : Nat) : Int) == 0) = false := by simp; omega
 have d2 : decide (src < L.peer) = false := by simp; omega
 obtain ⟨zb, hzb⟩ : ∃ z, decide (L.peer < src) = z := ⟨_, rfl⟩
 have d3 : decide ((src : Int) > (L.peer : Int)) = zb := by rw [← hzb]; simp
 have d4 : decide (L.peer < src) = zb := hzb
 have CA := Lib.hid (fun n => anew_any lb _ _ _ _ _ _ _ _ _ src (w1.drewN n) (h.old o1).1)
 have H := Lib.hid (And.intro h (And.intro hr (And.intro hf (And.intro hla (And.intro hne (And.intro hv (And.intro hd (And.intro o1 (And.intro b1 (And.intro hzb (And.intro hp (And.intro hlt hvb))))))))))))
 clear h o1 hv b1 hp hr hf hla hne hd hzb hlt hvb
 go_enter Try.func14, Try.ntmps14
 go_wp2_with fail
 go_quiet (fail)
 go_wp2_with fail
 go_quiet (fail)
 go_upto_if 38 with fail
 go_cut [] from 39 to 42 (fun wc => BegP lb L src w1 wc)
 case first =>
  cases zb with
  | true =>
   go_wp2_with fail
   refine (CA.out _).mono ?_
   rintro e w2 ⟨rfl, h1, h2, h3⟩
   have F := Lib.hid (And.intro h1 (And.intro h2 h3))
   clear h1 h2 h3
   go_wp2_with fail
   go_meet
   case rel =>
    obtain ⟨h1, h2, h3⟩ := F.out
    refine ⟨L.anew src w1.heap.size, ⟨h1, h2, ?_⟩, fun _ => ⟨_, Nat.le_refl _, rfl⟩, fun hn => absurd (of_decide_eq_true H.out.2.2.2.2.2.2.2.2.2.1) hn, ⟨h3.os, h3.tape, h3.output, h3.size, h3.block⟩⟩
    have := H.out.2.2.2.2.2.2.2.2.2.2.2.1
    have := H.out.2.2.2.2.2.2.2.1.size
    show lb ≠ w1.heap.size
    omega
  | false =>
   go_wp2_with fail
   go_meet
   case rel =>
    refine ⟨L, ((H.out.1.old H.out.2.2.2.2.2.2.2.1).drewN _).drewN _, fun hn => absurd hn (of_decide_eq_false H.out.2.2.2.2.2.2.2.2.2.1), fun _ => rfl, ((Keeps.refl _ _).drewN _).drewN _⟩
 case rest =>
  obtain ⟨h, hr, hf, hla, hne, hv, hd, o1, b1, hzb, hp, hlt, hvb⟩ := H.out
  obtain ⟨Lb, hb, hb1, hb2, kb⟩ := hcut
  have e1 : Lb.life = L.life := by
   by_cases hc : L.peer < src
   ·obtain ⟨c, _, rfl⟩ := hb1 hc; rfl
   ·rw [hb2 hc]
  have e2 : Lb.F.length ≤ 8 ∧ Lb.last < 18446744073709551615 ∧ Lb.next < 18446744073709551615 ∧ (∀ f ∈ Lb.F, ∃ p n c, f.v = .slice p n c) := by
   by_cases hc : L.peer < src
   ·obtain ⟨c, _, rfl⟩ := hb1 hc; exact ⟨by simp [Lv.anew], by simp [Lv.anew], by simp [Lv.anew], fun f hf => by cases hf⟩
   ·rw [hb2 hc]; exact ⟨hf, hla, hne, Lv.reads_sl hr⟩
  have e3 : L.plain.begun ⟨src, dst, seq, ack, d⟩ = Lb.plain := by
   by_cases hc : L.peer < src
   ·obtain ⟨c, _, rfl⟩ := hb1 hc; exact begun_anew hc
   ·rw [hb2 hc]; exact begun_not hc
  have e4 : (Lb.c = L.c ∨ w.heap.size ≤ Lb.c) ∧ (Lb.wv = L.wv ∧ Lb.W = L.W ∨ Lb.wv = .slice none 0 0 ∧ Lb.W = []) ∧ ∀ f ∈ Lb.F, f ∈ L.F := by
   by_cases hc : L.peer < src
   ·obtain ⟨c, hc', rfl⟩ := hb1 hc; exact ⟨.inr (Nat.le_trans o1.size hc'), .inr ⟨rfl, rfl⟩, fun f hf => by cases hf⟩
   ·rw [hb2 hc]; exact ⟨.inl rfl, .inl ⟨rfl, rfl⟩, fun f hf => hf⟩
  have hwl : w.heap.size < w1.heap.size := (Array.getElem?_eq_some_iff.1 b1).1
  have hwne : w.heap.size ≠ lb := by omega
  have z0' := kb.cell z0 hwne
  have z1' := kb.cell z1 hwne
  have z2' := kb.cell z2 hwne
  have z3' := kb.cell z3 hwne
  have z4' := kb.cell z4 hwne
  have hvc := (hv.old o1).keeps kb (fun b hb => (hvb b hb).1)
  obtain ⟨⟨x0, x1, x2, x3, x4, x5, x6, x7, x8⟩, ⟨y0, y1, y2, y3, y4, y5, y6, y7, y8⟩⟩ := blk9 hb.1
  have K := Lib.hid (And.intro e1 (And.intro e2 (And.intro e3 (And.intro e4 (And.intro hb (And.intro kb hvc))))))
  clear e2 e3 e4 hb hb1 hb2 kb hvc h hr hf hla hne hv hd o1 b1 hp hlt hvb z0 z1 z2 z3 z4 c0 c1 c2 c3 c4 c5 c6 c7 c8 f0 f1 f2 f3 f4 f5 f6 f7 f8 CA d0 d1 d2 d3 d4 hzb hwl hwne hw1
  by_cases q1 : dst = Lb.life
  ·subst q1
   have g1 : ((Lb.life : Int) == (Lb.life : Int)) = true := by simp
   have g2 : ((Lb.life : Int) != (Lb.life : Int)) = false := by simp
   clear e1
   go_wp2_with fail
   go_quiet (fail)
   go_upto_region 10 with fail
   obtain ⟨w3, hw3⟩ : ∃ w3, (wc.drewN nq).setCell ⟨lb, 8, none⟩ (.bool true) = w3 := ⟨_, rfl⟩
   have m3 : LkM w3 lb { Lb with heard := true } := by rw [← hw3]; exact (K.out.2.2.2.2.1.drewN nq).set 8 (.bool true) _ rfl rfl rfl
   have k3 : Keeps (fun k => k = lb) wc w3 := by rw [← hw3]; exact setAt ((Keeps.refl (fun k => k = lb) wc).drewN nq) 8 (.bool true)
   rw [hw3]
   clear hw3
   have hwne : w.heap.size ≠ lb := by have := H.out.2.2.2.2.2.2.2.2.2.2.2.1; omega
   have hwc : w.heap.size ≠ Lb.c := fun e => by
    obtain ⟨s, r, hq⟩ := K.out.2.2.2.2.1.2.1
    rw [← e] at hq
    simp [World.cell?, hq] at z0'
   have z2w := k3.cell z2' hwne
   have z4w := k3.cell z4' hwne
   have hS : w3.drew.cell? ⟨w.heap.size, 3, none⟩ = some (.int .u64 (ack : Int)) ∧ w3.drew.cell? ⟨lb, 4, none⟩ = some (.int .u64 (Lb.last : Int)) := ⟨k3.cell z3' hwne, (blk9 m3.1).1.2.2.2.2.1⟩
   have hu : IntKind.u64.wrap ((Lb.last : Int) + 1) = (Lb.last : Int) + 1 := by have := K.out.2.1.2.1; rw [IntKind.wrap_u64]; omega
   have hmin : min (ack : Int) ((Lb.last : Int) + 1) = ((min ack (Lb.last + 1) : Nat) : Int) := by omega
   have AC := Lib.hid (acked_any lb { Lb with heard := true } (min ack (Lb.last + 1)) w3.drew m3 K.out.2.1.2.2.2 K.out.2.1.1)
   have M3 := Lib.hid (And.intro m3 (And.intro k3 (And.intro hwne (And.intro hwc (And.intro z2w z4w)))))
   clear m3 k3 hwne hwc z0' z1' z2' z3' z4' z2w z4w x0 x1 x2 x3 x4 x5 x6 x7 x8 y0 y1 y2 y3 y4 y5 y6 y7 y8 g1 g2
   refine wp_region_g (S := fun w' => w'.cell? ⟨w.heap.size, 3, none⟩ = some (.int .u64 (ack : Int)) ∧ w'.cell? ⟨lb, 4, none⟩ = some (.int .u64 (Lb.last : Int))) (M := [0, 1, 2, 3, 4, 5, 6, 7, 8, 9]) (by kernel_rfl) ?_
   refine wpAnyG_takeL (i := 0) (oi := _) (v := ?vt0) rfl (by kernel_rfl) (by kernel_rfl) (by kernel_rfl) (by kernel_rfl) (fun _ _ _ h => h) (Or.inl ⟨by rfl, ?yt0⟩) hS ?rt0
   case yt0 => (intro W hSw; obtain ⟨y1, y2⟩ := hSw; go_simp; try with_reducible rfl)
   try simp only [Act.put, List.setIfInBounds_toArray, List.set_cons_zero, List.set_cons_succ]
   refine wpAnyG_takeL (i := 1) (oi := _) (v := ?vt1) rfl (by kernel_rfl) (by kernel_rfl) (by kernel_rfl) (by kernel_rfl) (fun _ _ _ h => h) (Or.inl ⟨by rfl, ?yt1⟩) hS ?rt1
   case yt1 => (intro W hSw; obtain ⟨y1, y2⟩ := hSw; go_simp; try with_reducible rfl)
   try simp only [Act.put, List.setIfInBounds_toArray, List.set_cons_zero, List.set_cons_succ]
   refine wpAnyG_takeL (i := 2) (oi := _) (v := ?vt2) rfl (by kernel_rfl) (by kernel_rfl) (by kernel_rfl) (by kernel_rfl) (fun _ _ _ h => h) (Or.inl ⟨by rfl, ?yt2⟩) hS ?rt2
   case yt2 => (intro W hSw; obtain ⟨y1, y2⟩ := hSw; go_simp; try with_reducible rfl)
   try simp only [Act.put, List.setIfInBounds_toArray, List.set_cons_zero, List.set_cons_succ]
   refine wpAnyG_takeL (i := 3) (oi := _) (v := ?vt3) rfl (by kernel_rfl) (by kernel_rfl) (by kernel_rfl) (by kernel_rfl) (fun _ _ _ h => h) (Or.inl ⟨by rfl, ?yt3⟩) hS ?rt3
   case yt3 => (intro W hSw; obtain ⟨y1, y2⟩ := hSw; go_simp; try with_reducible rfl)
   try simp only [Act.put, List.setIfInBounds_toArray, List.set_cons_zero, List.set_cons_succ]
   refine wpAnyG_takeL (i := 4) (oi := _) (v := ?vt4) rfl (by kernel_rfl) (by kernel_rfl) (by kernel_rfl) (by kernel_rfl) (fun _ _ _ h => h) (Or.inl ⟨by rfl, ?yt4⟩) hS ?rt4
   case yt4 => (intro W hSw; obtain ⟨y1, y2⟩ := hSw; go_simp; try with_reducible rfl)
   try simp only [Act.put, List.setIfInBounds_toArray, List.set_cons_zero, List.set_cons_succ]
   refine wpAnyG_takeL (i := 5) (oi := _) (v := ?vt5) rfl (by kernel_rfl) (by kernel_rfl) (by kernel_rfl) (by kernel_rfl) (fun _ _ _ h => h) (Or.inl ⟨by rfl, ?yt5⟩) hS ?rt5
   case yt5 => (intro W hSw; obtain ⟨y1, y2⟩ := hSw; go_simp; try with_reducible rfl)
   try simp only [Act.put, List.setIfInBounds_toArray, List.set_cons_zero, List.set_cons_succ]
   refine wpAnyG_takeL (i := 6) (oi := _) (v := ?vt6) rfl (by kernel_rfl) (by kernel_rfl) (by kernel_rfl) (by kernel_rfl) (fun _ _ _ h => h) (Or.inl ⟨by rfl, ?yt6⟩) hS ?rt6
   case yt6 => (intro W hSw; obtain ⟨y1, y2⟩ := hSw; go_simp; try with_reducible rfl)
   try simp only [Act.put, List.setIfInBounds_toArray, List.set_cons_zero, List.set_cons_succ]
   refine wpAnyG_takeL (i := 7) (oi := _) (v := ?vt7) rfl (by kernel_rfl) (by kernel_rfl) (by kernel_rfl) (by kernel_rfl) (fun _ _ _ h => h) (Or.inl ⟨by rfl, ?yt7⟩) hS ?rt7
   case yt7 => (intro W hSw; obtain ⟨y1, y2⟩ := hSw; go_simp; try with_reducible rfl)
   try simp only [Act.put, List.setIfInBounds_toArray, List.set_cons_zero, List.set_cons_succ]
   refine wpAnyG_takeL (i := 8) (oi := _) (v := ?vt8) rfl (by kernel_rfl) (by kernel_rfl) (by kernel_rfl) (by kernel_rfl) (fun _ _ _ h => h) (Or.inl ⟨by rfl, ?yt8⟩) hS ?rt8
   case yt8 => (intro W hSw; obtain ⟨y1, y2⟩ := hSw; go_simp; try with_reducible rfl)
   try simp only [Act.put, List.setIfInBounds_toArray, List.set_cons_zero, List.set_cons_succ]
   refine wpAnyG_onlyL (i := 9) (o := _) (by kernel_rfl) rfl (fun K hK => ?_)
   go_simp
   refine AC.out.mono ?_
   rintro e w4 ⟨rfl, m4, k4⟩
   obtain ⟨LA, hLA⟩ : ∃ LA, ({ Lb with heard := true, F := Lb.F.filter (ackB (min ack (Lb.last + 1))) } : Lv) = LA := ⟨_, rfl⟩
   have m4 : LkM w4 lb LA := by rw [← hLA]; exact m4
   have hwc := M3.out.2.2.2.1
   have hS4 : w4.cell? ⟨w.heap.size, 3, none⟩ = some (.int .u64 (ack : Int)) ∧ w4.cell? ⟨lb, 4, none⟩ = some (.int .u64 (Lb.last : Int)) := ⟨k4.cell hS.1 hwc, k4.cell hS.2 M3.out.1.2.2⟩
   have v2 := k4.cell (show w3.drew.cell? _ = _ from M3.out.2.2.2.2.1) hwc
   have v4 := k4.cell (show w3.drew.cell? _ = _ from M3.out.2.2.2.2.2) hwc
   obtain ⟨⟨x0, x1, x2, x3, x4, x5, x6, x7, x8⟩, ⟨y0, y1, y2, y3, y4, y5, y6, y7, y8⟩⟩ := blk9 m4.1
   have K4 : Keeps (fun k => k = lb ∨ k = Lb.c) wc w4 := (lbOr M3.out.2.1).trans ((Keeps.drew (Keeps.refl _ _)).trans (k4.weaken (fun _ _ e => .inr e)))
   have M4 := Lib.hid (And.intro m4 (And.intro K4 (And.intro hLA (And.intro hwc M3.out.2.2.1))))
   clear m4 k4 K4 hLA hwc
   go_wp2_with fail
   refine hK.out _ _ (fun _ => hS4) ?_
   clear hK K
   try simp only [Act.put, List.setIfInBounds_toArray, List.set_cons_zero, List.set_cons_succ]
   refine wpAnyG_done (by kernel_rfl) ?_ _
   clear hS hS4 hmin hu AC
   have KW : Hid (Keeps (fun k => k = lb ∨ k = L.c) w w4 ∧ L.plain.take ⟨src, Lb.life, seq, ack, d⟩ = (if seq = 0 then (LA.plain, none) else if seq ≠ LA.next then ({ LA.plain with owes := true }, none) else ({ LA.plain with owes := true, next := LA.next + 1 }, some d)) ∧
     (LA.c = L.c ∨ w.heap.size ≤ LA.c) ∧ (LA.wv = L.wv ∧ LA.W = L.W ∨ LA.wv = .slice none 0 0 ∧ LA.W = []) ∧ (∀ f ∈ LA.F, f ∈ L.F) ∧ LA.next < 18446744073709551615) := by
    obtain ⟨e1, e2, e3, e4, hb, kb, hvc⟩ := K.out
    obtain ⟨h, hr, hf, hla, hne, hv, hd, o1, b1, hzb, hp, hlt, hvb⟩ := H.out
    obtain ⟨m4, K4, hLA, _, _⟩ := M4.out
    refine Lib.hid ⟨((o1.weaken (fun _ _ f => f.elim)).trans (lbOr kb)).then K4 (fun i hi e => ?_), ?_, ?_, ?_, ?_, ?_⟩
    ·rcases e with e | e
     ·exact .inl e
     ·rcases e4.1 with h4 | h4
      ·exact .inr (by omega)
      ·omega
    ·rw [take_of hp, e3, acked_plain, hLA]
     rw [if_neg (by show ¬ (Lb.life ≠ Lb.life); simp)]
     have hn : Lb.plain.next = LA.next := by rw [← hLA]; rfl
     rw [hn]
    ·rw [← hLA]; exact e4.1
    ·rw [← hLA]; exact e4.2.1
    ·rw [← hLA]; exact fun f hf => e4.2.2 f (List.mem_filter.1 hf).1
    ·rw [← hLA]; exact e2.2.2.1
   by_cases q2 : seq = 0
   ·have g3 : ((seq : Int) == 0) = true := by simp [q2]
    have Q2 := Lib.hid q2
    clear q2
    go_wp2_with fail
    go_ret3
    obtain ⟨hk, hT, hc, hw, hF, _⟩ := KW.out
    rw [if_pos Q2.out] at hT
    exact takeP_of hT LA none 0 0 (by rw [← H.out.2.2.2.2.2.2.2.2.2.1]; rfl) (Owns.nil _ _) M4.out.1 rfl hk hc hw hF (fun b hb => by cases hb)
   ·have g3 : ((seq : Int) == 0) = false := by simp [q2]
    by_cases q3 : seq = LA.next
    ·have g4 : ((seq : Int) == (LA.next : Int)) = true := by simp; omega
     have g5 : ((seq : Int) != (LA.next : Int)) = false := by simp; omega
     have gb : (LA.next : Int) + 1 < 18446744073709551616 := by have := KW.out.2.2.2.2.2; omega
     have gu : IntKind.u64.wrap ((LA.next : Int) + 1) = (LA.next : Int) + 1 := by rw [IntKind.wrap_u64]; omega
     have CL := Lib.hid (fun W (k : Keeps (fun k => k = lb) w4 W) => bclone20 (.slice vp d.length vc) d W (Sees.keepsLt H.out.2.2.2.2.2.1 (KW.out.1.trans (lbOr (c := L.c) k)) (fun b hb _ => by have := H.out.2.2.2.2.2.2.2.2.2.2.2.2 b hb; omega)) H.out.2.2.2.2.2.2.1)
     have Q3 := Lib.hid q3
     have Q2 := Lib.hid q2
     clear q2 q3
     go_wp2_with fail
     go_quiet (fail)
     go_wp2_with fail
     have k5 : Keeps (fun k => k = lb) w4 (((w4.setCell ⟨lb, 7, none⟩ (.bool true)).drewN nq).setCell ⟨lb, 5, none⟩ (.int .u64 ((LA.next : Int) + 1))) := setAt ((setAt (Keeps.refl (fun k => k = lb) w4) 7 (.bool true)).drewN nq) 5 _
     have m5 : LkM (((w4.setCell ⟨lb, 7, none⟩ (.bool true)).drewN nq).setCell ⟨lb, 5, none⟩ (.int .u64 ((LA.next : Int) + 1))) lb { LA with owes := true, next := LA.next + 1 } := ((M4.out.1.set 7 (.bool true) { LA with owes := true } rfl rfl rfl).drewN nq).set 5 (.int .u64 ((LA.next : Int) + 1)) _ (by simp [Lv.cells]) rfl rfl
     refine (CL.out _ k5).mono ?_
     rintro e w6 ⟨p6, n6, c6, rfl, ho6, k6⟩
     have F6 := Lib.hid (And.intro ho6 (And.intro k6 (And.intro k5 m5)))
     clear ho6 k6 k5 m5
     go_wp2_with fail
     go_ret3
     obtain ⟨hk, hT, hc, hw, hF, _⟩ := KW.out
     obtain ⟨ho6, k6, k5, m5⟩ := F6.out
     rw [if_neg Q2.out, if_neg (fun h => h Q3.out)] at hT
     have hk6 := (hk.trans (lbOr k5)).trans (k6.weaken (fun _ _ f => f.elim))
     refine takeP_of hT { LA with owes := true, next := LA.next + 1 } p6 n6 c6 (by rw [← H.out.2.2.2.2.2.2.2.2.2.1]; rfl) (ho6.mono (hk.trans (lbOr (c := L.c) k5)).size) (m5.old k6) rfl hk6 hc hw hF (fun b hb e => ?_)
     have h1 := (ho6.block b hb).1
     have h2 := m5.2.1.lt
     rw [e] at h1
     exact absurd h1 (Nat.not_le.2 h2)
    ·have g4 : ((seq : Int) == (LA.next : Int)) = false := by simp; omega
     have g5 : ((seq : Int) != (LA.next : Int)) = true := by simp; omega
     go_wp2_with fail
     go_quiet (fail)
     go_wp2_with fail
     go_ret3
     obtain ⟨hk, hT, hc, hw, hF, _⟩ := KW.out
     rw [if_neg q2, if_pos q3] at hT
     refine takeP_of hT { LA with owes := true } none 0 0 (by rw [← H.out.2.2.2.2.2.2.2.2.2.1]; rfl) (Owns.nil _ _) ((M4.out.1.set 7 (.bool true) { LA with owes := true } rfl rfl rfl).drewN _) rfl ?_ hc hw hF (fun b hb => by cases hb)
     exact hk.trans ((lbOr (setAt (Keeps.refl (fun k => k = lb) w4) 7 (.bool true))).drewN _)
  ·have g1 : ((dst : Int) == (Lb.life : Int)) = false := by simp; omega
   have g2 : ((dst : Int) != (Lb.life : Int)) = true := by simp; omega
   clear e1
   go_wp2_with fail
   go_quiet (fail)
   go_wp2_with fail
   go_ret3
   obtain ⟨e1, e2, e3, e4, hb, kb, hvc⟩ := K.out
   obtain ⟨h, hr, hf, hla, hne, hv, hd, o1, b1, hzb, hp, hlt, hvb⟩ := H.out
   have hT : L.plain.take ⟨src, dst, seq, ack, d⟩ = ({ Lb.plain with owes := true }, none) := by
    rw [take_of hp, e3]
    exact if_pos q1
   refine takeP_of hT { Lb with owes := true } none 0 0 (by rw [← hzb]; rfl) (Owns.nil _ _) ((hb.drewN _).set 7 (.bool true) _ rfl rfl rfl) rfl ?_ e4.1 e4.2.1 e4.2.2 (fun b hb => by cases hb)
   exact ((o1.weaken (fun _ _ f => f.elim)).trans (lbOr kb)).trans (lbOr (setAt ((Keeps.refl (fun k => k = lb) wc).drewN nq) 7 (.bool true)))
end Go.Proofs.Ytllnlimbfoingaa
