/- DERIVED. Chapter 20: the document's link in memory; New, Tick, Send. · DERIVED. Chapter 20: the document's Same. · DERIVED. Chapter 20: Theirs: the program's packets as the document's. -/
import Derived.Test.YtllnlimbfoingaaY09
namespace Go.Proofs.Ytllnlimbfoingaa
open Go.RowKit Go.Conc

/-- the document's link, with where its parts lie -/
structure Dv where
 life : Nat
 peer : Nat
 wv : Value
 W : List Bv
 fv : Value
 F : List Bv
 done : Nat
 next : Nat
 again : Bool
 owes : Bool
 heard : Bool
def Dv.cells (D : Dv) : List Value := [.int .u64 (D.life : Int), .int .u64 (D.peer : Int), D.wv, D.fv, .int .i64 (D.done : Int), .int .u64 (D.next : Int), .bool D.again, .bool D.owes, .bool D.heard]
/-- plainly -/
structure Dp where
 life : Nat
 peer : Nat
 W : List Bs
 F : List Bs
 done : Nat
 next : Nat
 again : Bool
 owes : Bool
 heard : Bool
def Dv.plain (D : Dv) : Dp := ⟨D.life, D.peer, D.W.map (·.2), D.F.map (·.2), D.done, D.next, D.again, D.owes, D.heard⟩
def DkM (w : World) (db : Nat) (D : Dv) : Prop := w.heap[db]? = some (.cells D.cells.toArray 55 (0, 0))
def Dv.reads (D : Dv) (w : World) : Prop := SeesR w 1 bvL D.wv D.W ∧ SeesR w 1 bvL D.fv D.F ∧ (∀ x ∈ D.W, Sees w x.1 x.2 ∧ x.2.length ≤ 140737488355328) ∧ ∀ x ∈ D.F, Sees w x.1 x.2 ∧ x.2.length ≤ 140737488355328
/-- the document's link at block db; T is what others write -/
def Dk (T : Nat → Prop) (w : World) (db : Nat) (P : Dp) : Prop := ∃ D : Dv, D.plain = P ∧ DkM w db D ∧ ¬ T db ∧ (∀ k, T k → k < w.heap.size) ∧ ∀ w', Keeps (fun k => k = db ∨ T k) w w' → D.reads w'
def Dp.new (life : Nat) : Dp := ⟨life, 0, [], [], 0, 1, false, true, false⟩
def Dp.tick (P : Dp) : Dp := { P with again := true, owes := if P.heard then P.owes else true }
def Dp.send (P : Dp) (d : Bs) : Dp := { P with W := P.W ++ [d] }
theorem Dk.to {T T' : Nat → Prop} {w w1 : World} {db : Nat} {P : Dp} (h : Dk T w db P) (hk : Keeps T w w1) (hT : ∀ k, T' k → T k ∨ w.heap.size ≤ k) (hl : ∀ k, T' k → k < w1.heap.size) : Dk T' w1 db P := by
 obtain ⟨D, e, h0, h1, h2, h6⟩ := h
 have hlt := lt_of_block h0
 refine ⟨D, e, (hk.block db hlt h1).trans h0, fun t => ?_, hl, fun w2 h7 => h6 w2 ?_⟩
 ·rcases hT db t with h | h
  ·exact h1 h
  ·omega
 ·refine (hk.weaken (T := fun k => k = db ∨ T k) (fun _ _ t => .inr t)).then h7 (fun i hi h => ?_)
  rcases h with h | h
  ·exact .inl h
  ·rcases hT i h with h | h
   ·exact .inr h
   ·omega
theorem Dk.old {T : Nat → Prop} {w w1 : World} {db : Nat} {P : Dp} (h : Dk T w db P) (hk : Old w w1) : Dk T w1 db P :=
 h.to (hk.weaken (fun _ _ f => f.elim)) (fun _ t => .inl t) (fun k t => Nat.lt_of_lt_of_le (by obtain ⟨_, _, _, _, h2, _⟩ := h; exact h2 k t) hk.size)
theorem dk_new (life : Nat) (hl : 1 ≤ life) (w : World) : Calls Try.prog 10 #[.int .u64 (life : Int)] w fun e w' => e = .returned (.tuple #[.pointer (some ⟨w.heap.size, 0, none⟩), .int .i64 0]) ∧ Old w w' ∧
  ∀ T : Nat → Prop, (∀ k, T k → k < w.heap.size) → Dk T w' w.heap.size (Dp.new life) := by
 have d0 : (((life : Nat) : Int) == 0) = false := by simp; omega
 go_enter Try.func10, Try.ntmps10
 go_wp2_with fail
 go_ret2
 refine ⟨rfl, (Keeps.refl _ _).alloc _, fun T hT => ⟨⟨life, 0, .slice none 0 0, [], .slice none 0 0, [], 0, 1, false, true, false⟩, rfl, heap_alloc_new _ _, fun t => Nat.lt_irrefl _ (hT _ t), fun k t => ?_, fun w' _ => ?_⟩⟩
 ·have := hT k t
  simp
  omega
 ·exact ⟨SeesR.nil _, SeesR.nil _, fun _ h => (by cases h), fun _ h => (by cases h)⟩
theorem DkM.set {w : World} {db : Nat} {D : Dv} (h : DkM w db D) (i : Nat) (v : Value) (D' : Dv) (hc : D'.cells = D.cells.set i v) : DkM (w.setCell ⟨db, i, none⟩ v) db D' := by
 have := heap_setCell_same w db i _ _ v h
 unfold DkM
 rw [this, hc]
 simp
/-- the link worked, within its own block: what it reads is what it read -/
theorem Dk.of {T : Nat → Prop} {w w1 : World} {db : Nat} {D D' : Dv} (h1 : ¬ T db) (h2 : ∀ k, T k → k < w.heap.size) (h6 : ∀ w', Keeps (fun k => k = db ∨ T k) w w' → D.reads w') (hm : DkM w1 db D') (hk : Keeps (fun k => k = db) w w1) (hw : ∀ W, D.reads W → D'.reads W) : Dk T w1 db D'.plain :=
 ⟨D', rfl, hm, h1, fun k t => Nat.lt_of_lt_of_le (h2 k t) hk.size, fun w2 h7 => hw w2 (h6 w2 ((hk.weaken (T := fun k => k = db ∨ T k) (fun _ _ t => .inl t)).trans h7))⟩
theorem dk_tick {T : Nat → Prop} {w : World} {db : Nat} {P : Dp} (h : Dk T w db P) : Calls Try.prog 22 #[.pointer (some ⟨db, 0, none⟩)] w fun e w' => e = .returned (.tuple #[]) ∧ Dk T w' db P.tick ∧ Keeps (fun k => k = db) w w' := by
 obtain ⟨D, rfl, h0, h1, h2, h6⟩ := h
 obtain ⟨life, peer, wv, W, fv, F, done, next, again, owes, heard⟩ := D
 obtain ⟨⟨c0, c1, c2, c3, c4, c5, c6, c7, c8⟩, ⟨f0, f1, f2, f3, f4, f5, f6, f7, f8⟩⟩ := blk9 h0
 have H := Lib.hid (And.intro h0 (And.intro h1 (And.intro h2 h6)))
 clear h0 h1 h2 h6
 cases heard
 ·go_enter Try.func22, Try.ntmps22
  go_wp2_with fail
  go_end0
  obtain ⟨h0, h1, h2, h6⟩ := H.out
  exact ⟨rfl, Dk.of (D' := ⟨life, peer, wv, W, fv, F, done, next, true, true, false⟩) h1 h2 h6 ((h0.set 6 (.bool true) ⟨life, peer, wv, W, fv, F, done, next, true, owes, false⟩ rfl).set 7 (.bool true) ⟨life, peer, wv, W, fv, F, done, next, true, true, false⟩ rfl) (setAt (setAt (Keeps.refl _ _) 6 _) 7 _) (fun _ h => h), setAt (setAt (Keeps.refl _ _) 6 _) 7 _⟩
 ·go_enter Try.func22, Try.ntmps22
  go_wp2_with fail
  go_end0
  obtain ⟨h0, h1, h2, h6⟩ := H.out
  exact ⟨rfl, Dk.of (D' := ⟨life, peer, wv, W, fv, F, done, next, true, owes, true⟩) h1 h2 h6 (h0.set 6 (.bool true) ⟨life, peer, wv, W, fv, F, done, next, true, owes, true⟩ rfl) (setAt (Keeps.refl _ _) 6 _) (fun _ h => h), setAt (Keeps.refl _ _) 6 _⟩
theorem dk_send0 {T : Nat → Prop} {w : World} {db : Nat} {P : Dp} (v : Value) (h : Dk T w db P) (hp : P.peer = 0) : Calls Try.prog 13 #[.pointer (some ⟨db, 0, none⟩), v] w fun e w' => e = .returned (.int .i64 6) ∧ w = w' := by
 obtain ⟨D, rfl, h0, h1, h2, h6⟩ := h
 obtain ⟨life, peer, wv, W, fv, F, done, next, again, owes, heard⟩ := D
 obtain rfl : peer = 0 := hp
 obtain ⟨⟨c0, c1, c2, c3, c4, c5, c6, c7, c8⟩, ⟨f0, f1, f2, f3, f4, f5, f6, f7, f8⟩⟩ := blk9 h0
 clear h0 h1 h2 h6
 go_enter Try.func13, Try.ntmps13
 go_wp2_with fail
 go_ret
 exact ⟨rfl, rfl⟩
theorem bvs_one {w : World} {W : List Bv} (h : ∀ x ∈ W, Sees w x.1 x.2 ∧ x.2.length ≤ 140737488355328) : ∀ x ∈ W, ∀ c ∈ bvL x, c.oneCell' = true := fun x hx c hc => by
 obtain ⟨p, k, e, _⟩ := (h x hx).1.len
 simp only [bvL, List.mem_singleton] at hc
 rw [hc, e]
 rfl
set_option maxRecDepth 100000 in
set_option maxHeartbeats 1000000 in
theorem dk_send {T : Nat → Prop} {w : World} {db : Nat} {P : Dp} (v : Value) (d : List UInt8) (h : Dk T w db P) (hp : 1 ≤ P.peer) (hn : P.W.length ≤ 1000) (hv : Sees w v d) (hd : d.length ≤ 140737488355328) :
  Calls Try.prog 13 #[.pointer (some ⟨db, 0, none⟩), v] w fun e w' => e = .returned (.int .i64 0) ∧ Dk T w' db (P.send d) ∧ Keeps (fun k => k = db) w w' := by
 obtain ⟨D, rfl, h0, h1, h2, h6⟩ := h
 obtain ⟨life, peer, wv, W, fv, F, done, next, again, owes, heard⟩ := D
 have hp : 1 ≤ peer := hp
 have hn : W.length ≤ 1000 := by simpa [Dv.plain] using hn
 have d1 : (((peer : Nat) : Int) == 0) = false := by simp; omega
 have hlt : db < w.heap.size := lt_of_block h0
 obtain ⟨⟨c0, c1, c2, c3, c4, c5, c6, c7, c8⟩, ⟨f0, f1, f2, f3, f4, f5, f6, f7, f8⟩⟩ := blk9 h0
 have hr := h6 w (Keeps.refl _ _)
 obtain ⟨wp, wc, hwv, _⟩ := SeesR.len hr.1
 simp only at hwv
 subst hwv
 have C := Lib.hid (fun W (k : Old w W) => own20 v d W (hv.old k) hd)
 have HD := Lib.hid hd
 have HN := Lib.hid (And.intro (show ([] : List Bv).length + W.length ≤ maxLen by unfold maxLen; simp; omega) (And.intro (show (([] : List Bv).length + W.length) * 24 ≤ 140737488355328 by simp; omega) (And.intro (show W.length + 1 ≤ maxLen by unfold maxLen; omega) (show (W.length + 1) * 24 ≤ 140737488355328 by omega))))
 have H := Lib.hid (And.intro h0 (And.intro h1 (And.intro h2 (And.intro h6 (And.intro hr (And.intro hlt (bvs_one hr.2.2.1)))))))
 clear h0 h1 h2 h6 hr hlt hv hd hp hn
 go_enter Try.func13, Try.ntmps13
 go_wp2_with (at_builtin; go_loud (refine wpList_append_rows (P := Try.prog) rfl _ _ 53 rfl w.heap.size 32 1 24 bvL _ Try.underlying53 Try.infoSl rfl (by decide) (.slice none 0 0) [] (by rfl) (OwnsR.nil _ _) _ W (by rfl) H.out.2.2.2.2.1.1 (fun _ _ => rfl) H.out.2.2.2.2.2.2 HN.out.1 HN.out.2.1 (Nat.le_refl _) ?_; intro v1 w1 ho1 hg1 hv1))
 have k1 : Old w w1 := (Keeps.refl _ _).grown hg1 (fun k h => by cases h)
 rw [List.nil_append] at ho1
 obtain ⟨q1, e1, hv1', _⟩ := (ho1.sees (fun _ => rfl) (by decide)).len
 subst hv1'
 have O1 := Lib.hid (And.intro ho1 k1)
 clear ho1 k1 hg1 hv1
 refine (C.out w1 O1.out.2).mono ?_
 rintro e w2 ⟨p2, n2, c2', rfl, ho2, k2⟩
 obtain ⟨w3, hw3⟩ : ∃ w3, w2.alloc (.cells #[.slice p2 n2 c2'] 32) = w3 := ⟨_, rfl⟩
 have k3 : Old w2 w3 := by rw [← hw3]; exact (Keeps.refl _ _).alloc _
 have kk := (O1.out.2.trans k2).trans k3
 have g3 := kk.cell c2 (fun f => f)
 have y3 := (kk.frozen H.out.2.2.2.2.2.1 (fun f => f) (p := ⟨db, 2, none⟩)).trans f2
 have sn : SeesR w3 1 bvL (.slice (some ⟨w2.heap.size, 0, none⟩) 1 1) [((.slice p2 n2 c2', d) : Bv)] := by
  rw [← hw3]
  exact SeesR.new (k := 1) (enc := bvL) w2 _ (0, 0) [(.slice p2 n2 c2', d)] _ rfl (fun _ => rfl) (by unfold maxLen; simp)
 have O2 := Lib.hid (And.intro ho2 (And.intro kk (And.intro k3 (And.intro sn (And.intro ((O1.out.1.old k2).old k3) k2)))))
 have HB := Lib.hid kk.size
 clear ho2 k2 kk sn k3
 go_wp2_with (at_builtin; go_loud (refine wpList_append_rows (P := Try.prog) rfl _ _ 53 rfl w.heap.size 32 1 24 bvL _ Try.underlying53 Try.infoSl rfl (by decide) (.slice q1 W.length e1) W (by rfl) O2.out.2.2.2.2.1 _ [((.slice p2 n2 c2', d) : Bv)] (by rfl) O2.out.2.2.2.1 (fun _ _ => rfl) (by simp [bvL, Value.oneCell']) HN.out.2.2.1 HN.out.2.2.2 HB.out ?_; intro v' w4 ho4 hg4 hv4; have k4 : Keeps (fun k => w.heap.size ≤ k ∧ k < w1.heap.size) w3 w4 := (Keeps.refl _ _).grown hg4 (fun k hb _ => O1.out.1.block k hb); obtain ⟨p4, c4, hv4', _⟩ := (ho4.sees (fun _ => rfl) (by decide)).len; subst hv4'; have g4 := k4.cell g3 (fun e => absurd e.1 (Nat.not_le.2 H.out.2.2.2.2.2.1)); have y4 := (k4.frozen (p := ⟨db, 2, none⟩) (World.block_lt_of_cell? w3 _ g3) (fun e => absurd e.1 (Nat.not_le.2 H.out.2.2.2.2.2.1))).trans y3; have O4 := Lib.hid (And.intro ho4 k4); clear ho4 k4 hg4 hv4))
 go_ret
 obtain ⟨ho2, kk, k3, sn, ho3, k2⟩ := O2.out
 obtain ⟨ho4, k4⟩ := O4.out
 obtain ⟨h0, h1, h2, h6, hr, hlt, _⟩ := H.out
 have hsz := O1.out.2.size
 have kb : Old w w4 := kk.then k4 (fun i hi e => by omega)
 have h4 : DkM w4 db _ := (kb.block db hlt (fun f => f)).trans h0
 have hlw : (W ++ [((.slice p2 n2 c2', d) : Bv)]).length = W.length + 1 := by simp
 rw [hlw] at ho4
 have k5 : Keeps (fun k => k = db) w4 (w4.setCell ⟨db, 2, none⟩ (.slice p4 (W.length + 1) c4)) := setAt (Keeps.refl _ _) 2 _
 have k6 : Keeps (fun k => k = db) w (w4.setCell ⟨db, 2, none⟩ (.slice p4 (W.length + 1) c4)) := (kb.weaken (fun _ _ f => f.elim)).trans k5
 refine ⟨rfl, ⟨⟨life, peer, .slice p4 (W.length + 1) c4, W ++ [(.slice p2 n2 c2', d)], fv, F, done, next, again, owes, heard⟩, by simp [Dv.plain, Dp.send], h4.set 2 (.slice p4 (W.length + 1) c4) _ rfl, h1, fun k t => Nat.lt_of_lt_of_le (h2 k t) k6.size, fun w' kw => ?_⟩, k6⟩
 have hq := h6 w' ((k6.weaken (T := fun k => k = db ∨ T k) (fun _ _ t => .inl t)).trans kw)
 have hno : ∀ b, w.heap.size ≤ b → ¬ (b = db ∨ T b) := fun b hb e => by
  rcases e with e | e
  ·omega
  ·have := h2 b e; omega
 have hno5 : ∀ b, w.heap.size ≤ b → ¬ (b = db) := fun b hb e => by omega
 refine ⟨((ho4.keeps k5 (fun b hb => hno5 b (ho4.block b hb).1)).sees (fun _ => rfl) (by decide)).keeps kw (fun b hb => hno b (ho4.block b hb).1), hq.2.1, fun x hx => ?_, hq.2.2.2⟩
 rcases List.mem_append.1 hx with hx | hx
 ·exact hq.2.2.1 x hx
 ·obtain rfl : x = ((.slice p2 n2 c2', d) : Bv) := by simpa using hx
  have hb2 : ∀ b, (Value.slice p2 n2 c2').ownBlock = some b → w.heap.size ≤ b := fun b hb => Nat.le_trans hsz (ho2.block b hb).1
  refine ⟨(((ho2.sees.old k3).keeps k4 (fun b hb e => ?_)).keeps k5 (fun b hb => hno5 b (hb2 b hb))).keeps kw (fun b hb => hno b (hb2 b hb)), HD.out⟩
  have := (ho2.block b hb).1
  omega
end Go.Proofs.Ytllnlimbfoingaa

namespace Go.Proofs.Ytllnlimbfoingaa
open Go.RowKit Go.Conc

set_option maxRecDepth 100000 in
set_option maxHeartbeats 1000000 in
theorem rsame_any (v v' : Value) (l m : List Pv) (w : World) (h : SeesR w 5 Pv.cells v l) (h' : SeesR w 5 Pv.cells v' m) (hf : ∀ x ∈ l, Sees w x.v x.d) (hf' : ∀ x ∈ m, Sees w x.v x.d) :
  Calls Try.prog 18 #[v, v'] w fun e w' => e = .returned (.bool (decide (l.map Pv.plain = m.map Pv.plain))) ∧ Old w w' := by
 obtain ⟨p, c, rfl, hb1, hb2⟩ := h.len
 obtain ⟨p', c', rfl, _, _⟩ := h'.len
 have hmm : l.length ≤ 9223372036854775807 := by unfold maxLen at hb2; omega
 clear hb1 hb2
 by_cases hl : l.length = m.length
 case neg =>
  have hln : ((l.length : Int) != (m.length : Int)) = true := by rw [bne_iff_ne]; omega
  have HL := Lib.hid hl
  clear hl h h' hf hf'
  go_enter Try.func18, Try.ntmps18
  go_wp2_with fail
  go_ret
  exact ⟨ret_bool20 (by symm; rw [decide_eq_false_iff_not]; intro e; exact HL.out (by simpa using congrArg List.length e)), Keeps.refl _ _⟩
 have hln : ((l.length : Int) != (m.length : Int)) = false := by rw [hl]; simp
 have H := Lib.hid (And.intro h (And.intro h' (And.intro hl (And.intro hf hf'))))
 clear h h' hl hf hf'
 go_enter Try.func18, Try.ntmps18
 go_wp2_with fail
 go_loopg [5] l.length (fun n v5 wr => ∃ i : Nat, i ≤ l.length ∧ n = l.length - i ∧ v5 = .int .i64 (i : Int) ∧ (l.map Pv.plain).take i = (m.map Pv.plain).take i ∧ Old w wr)
 case atStart => exact ⟨0, by omega, rfl, rfl, rfl, Keeps.refl _ _⟩
 case round =>
  obtain ⟨i, hi, rfl, rfl, hr, hk⟩ := hrel
  have HR := Lib.hid hr
  clear hr
  by_cases hlt : i < l.length
  ·obtain ⟨b, o, cc, he, _, _, hc⟩ := H.out.1.at (by omega)
   obtain ⟨b', o', cc', he', _, _, hc'⟩ := H.out.2.1.at (by have := H.out.2.2.1; omega)
   simp only [Value.slice.injEq, true_and] at he he'
   obtain ⟨rfl, rfl⟩ := he
   obtain ⟨rfl, rfl⟩ := he'
   obtain ⟨x, hx⟩ : ∃ x, l[i]? = some x := ⟨_, List.getElem?_eq_getElem hlt⟩
   obtain ⟨y, hy⟩ : ∃ y, m[i]? = some y := ⟨_, List.getElem?_eq_getElem (by have := H.out.2.2.1; omega)⟩
   have sx := (H.out.2.2.2.1 x (List.mem_of_getElem? hx)).old hk
   have sy := (H.out.2.2.2.2 y (List.mem_of_getElem? hy)).old hk
   obtain ⟨x0, x1, x2, x3, xv, xd⟩ := x
   obtain ⟨y0, y1, y2, y3, yv, yd⟩ := y
   simp only at sx sy
   obtain ⟨xp, xc, rfl, _, _⟩ := sx.len
   obtain ⟨yp, yc, rfl, _, _⟩ := sy.len
   have tx := fun p : OldOf wr => (sx.old p.old).text
   have ty := fun p : OldOf wr => (sy.old p.old).text
   have cx0 := OldOf.cell (show wr.cell? ⟨b, o + i * 5, none⟩ = some (.int .u64 (x0 : Int)) by have := hk.cell (hc i _ hx 0 _ rfl) (fun f => f); simpa using this)
   have cx1 := OldOf.cell (show wr.cell? ⟨b, o + i * 5 + 1, none⟩ = some (.int .u64 (x1 : Int)) by have := hk.cell (hc i _ hx 1 _ rfl) (fun f => f); simpa using this)
   have cx2 := OldOf.cell (show wr.cell? ⟨b, o + i * 5 + 2, none⟩ = some (.int .u64 (x2 : Int)) by have := hk.cell (hc i _ hx 2 _ rfl) (fun f => f); simpa using this)
   have cx3 := OldOf.cell (show wr.cell? ⟨b, o + i * 5 + 3, none⟩ = some (.int .u64 (x3 : Int)) by have := hk.cell (hc i _ hx 3 _ rfl) (fun f => f); simpa using this)
   have cx4 := OldOf.cell (show wr.cell? ⟨b, o + i * 5 + 4, none⟩ = some (.slice xp xd.length xc) by have := hk.cell (hc i _ hx 4 _ rfl) (fun f => f); simpa using this)
   have cy0 := OldOf.cell (show wr.cell? ⟨b', o' + i * 5, none⟩ = some (.int .u64 (y0 : Int)) by have := hk.cell (hc' i _ hy 0 _ rfl) (fun f => f); simpa using this)
   have cy1 := OldOf.cell (show wr.cell? ⟨b', o' + i * 5 + 1, none⟩ = some (.int .u64 (y1 : Int)) by have := hk.cell (hc' i _ hy 1 _ rfl) (fun f => f); simpa using this)
   have cy2 := OldOf.cell (show wr.cell? ⟨b', o' + i * 5 + 2, none⟩ = some (.int .u64 (y2 : Int)) by have := hk.cell (hc' i _ hy 2 _ rfl) (fun f => f); simpa using this)
   have cy3 := OldOf.cell (show wr.cell? ⟨b', o' + i * 5 + 3, none⟩ = some (.int .u64 (y3 : Int)) by have := hk.cell (hc' i _ hy 3 _ rfl) (fun f => f); simpa using this)
   have cy4 := OldOf.cell (show wr.cell? ⟨b', o' + i * 5 + 4, none⟩ = some (.slice yp yd.length yc) by have := hk.cell (hc' i _ hy 4 _ rfl) (fun f => f); simpa using this)
   have i1 : (0 : Int) ≤ (i : Int) := by omega
   have i2 : (i : Int) < (l.length : Int) := by omega
   have i3 : (i : Int) < (m.length : Int) := by have := H.out.2.2.1; omega
   have i4 : i < m.length := by have := H.out.2.2.1; omega
   have hne : Hid (¬ (⟨x0, x1, x2, x3, xd⟩ : Pk) = ⟨y0, y1, y2, y3, yd⟩ → ¬ l.map Pv.plain = m.map Pv.plain) := Lib.hid (fun h e => h (by
    have e2 : (l.map Pv.plain)[i]? = (m.map Pv.plain)[i]? := by rw [e]
    rw [List.getElem?_map, List.getElem?_map, hx, hy] at e2
    exact Option.some.inj e2))
   have htk : (l.map Pv.plain).take (i + 1) = (l.map Pv.plain).take i ++ [⟨x0, x1, x2, x3, xd⟩] ∧ (m.map Pv.plain).take (i + 1) = (m.map Pv.plain).take i ++ [⟨y0, y1, y2, y3, yd⟩] := by
    constructor
    ·rw [List.take_add_one, List.getElem?_map, hx]; rfl
    ·rw [List.take_add_one, List.getElem?_map, hy]; rfl
   have HT := Lib.hid htk
   have HK := Lib.hid hk
   clear htk hx hy hc hc' sx sy hk
   by_cases e0 : x0 = y0
   rotate_left
   ·have z0 : ((x0 : Int) != (y0 : Int)) = true := by rw [bne_iff_ne]; omega
    go_upto_region 6 with fail
    refine wp_region_quiet_old (by kernel_rfl) (by kernel_rfl) ?_
    simp only [List.append]
    repeat (go_big_quiet_step ((fail)))
    refine wpQuiet_nil ?_
    intro _ hpq
    obtain ⟨pq, hpq'⟩ := hpq
    subst hpq'
    go_wp2_with fail
    go_ret
    exact ⟨ret_bool20 (by symm; rw [decide_eq_false_iff_not]; exact hne.out (fun e => e0 (congrArg Pk.src e))), HK.out.trans pq.old⟩
   subst e0
   by_cases e1 : x1 = y1
   rotate_left
   ·have z1 : ((x1 : Int) != (y1 : Int)) = true := by rw [bne_iff_ne]; omega
    go_upto_region 6 with fail
    refine wp_region_quiet_old (by kernel_rfl) (by kernel_rfl) ?_
    simp only [List.append]
    repeat (go_big_quiet_step ((fail)))
    refine wpQuiet_nil ?_
    intro _ hpq
    obtain ⟨pq, hpq'⟩ := hpq
    subst hpq'
    go_wp2_with fail
    go_ret
    exact ⟨ret_bool20 (by symm; rw [decide_eq_false_iff_not]; exact hne.out (fun e => e1 (congrArg Pk.dst e))), HK.out.trans pq.old⟩
   subst e1
   by_cases e2 : x2 = y2
   rotate_left
   ·have z2 : ((x2 : Int) != (y2 : Int)) = true := by rw [bne_iff_ne]; omega
    go_upto_region 6 with fail
    refine wp_region_quiet_old (by kernel_rfl) (by kernel_rfl) ?_
    simp only [List.append]
    repeat (go_big_quiet_step ((fail)))
    refine wpQuiet_nil ?_
    intro _ hpq
    obtain ⟨pq, hpq'⟩ := hpq
    subst hpq'
    go_wp2_with fail
    go_ret
    exact ⟨ret_bool20 (by symm; rw [decide_eq_false_iff_not]; exact hne.out (fun e => e2 (congrArg Pk.seq e))), HK.out.trans pq.old⟩
   subst e2
   by_cases e3 : x3 = y3
   rotate_left
   ·have z3 : ((x3 : Int) != (y3 : Int)) = true := by rw [bne_iff_ne]; omega
    go_upto_region 6 with fail
    refine wp_region_quiet_old (by kernel_rfl) (by kernel_rfl) ?_
    simp only [List.append]
    repeat (go_big_quiet_step ((fail)))
    refine wpQuiet_nil ?_
    intro _ hpq
    obtain ⟨pq, hpq'⟩ := hpq
    subst hpq'
    go_wp2_with fail
    go_ret
    exact ⟨ret_bool20 (by symm; rw [decide_eq_false_iff_not]; exact hne.out (fun e => e3 (congrArg Pk.ack e))), HK.out.trans pq.old⟩
   subst e3
   by_cases e4 : xd = yd
   rotate_left
   ·have z4 : (xd == yd) = false := by rw [beq_eq_false_iff_ne]; exact e4
    go_upto_region 6 with fail
    refine wp_region_quiet_old (by kernel_rfl) (by kernel_rfl) ?_
    simp only [List.append]
    repeat (go_big_quiet_step ((fail)))
    refine wpQuiet_nil ?_
    intro _ hpq
    obtain ⟨pq, hpq'⟩ := hpq
    subst hpq'
    go_wp2_with fail
    go_ret
    exact ⟨ret_bool20 (by symm; rw [decide_eq_false_iff_not]; exact hne.out (fun e => e4 (congrArg Pk.data e))), HK.out.trans pq.old⟩
   subst e4
   have z4 : (xd == xd) = true := by simp
   go_upto_region 6 with fail
   refine wp_region_quiet_old (by kernel_rfl) (by kernel_rfl) ?_
   simp only [List.append]
   repeat (go_big_quiet_step ((fail)))
   refine wpQuiet_nil ?_
   intro _ hpq
   obtain ⟨pq, hpq'⟩ := hpq
   subst hpq'
   go_wp2_with fail
   go_roundg (l.length - (i + 1))
   case measure => omega
   case rel => exact ⟨i + 1, by omega, rfl, by go_num, by rw [HT.out.1, HT.out.2, HR.out], HK.out.trans pq.old⟩
  ·obtain rfl : i = l.length := by omega
   have HK := Lib.hid hk
   clear hk
   go_wp2_with fail
   go_ret
   refine ⟨ret_bool20 ?_, HK.out⟩
   symm
   rw [decide_eq_true_iff]
   have := HR.out
   rw [List.take_of_length_le (by simp), List.take_of_length_le (by simp; have := H.out.2.2.1; omega)] at this
   exact this
end Go.Proofs.Ytllnlimbfoingaa

namespace Go.Proofs.Ytllnlimbfoingaa
open Go.RowKit Go.Conc

theorem Try.infoPk20 : (Try.prog.info? 34).map (fun i => (i.zero, i.size, i.bytes)) = some (some (.agg #[.int .u64 0, .int .u64 0, .int .u64 0, .int .u64 0, .slice none 0 0]), 5, 56) := by kernel_rfl
set_option maxRecDepth 100000 in
set_option maxHeartbeats 1000000 in
theorem theirs_any (v : Value) (l : List Pv) (w : World) (h : SeesR w 5 Pv.cells v l) (hf : ∀ x ∈ l, Sees w x.v x.d ∧ x.d.length ≤ 140737488355328) (hl : l.length ≤ 100000) :
  Calls Try.prog 19 #[v] w fun e w' => ∃ p n c, ∃ m : List Pv, e = .returned (.slice p n c) ∧ SeesR w' 5 Pv.cells (.slice p n c) m ∧ m.map Pv.plain = l.map Pv.plain ∧ (∀ x ∈ m, Sees w' x.v x.d ∧ x.d.length ≤ 140737488355328) ∧ Old w w' ∧ (∀ b, (Value.slice p n c).ownBlock = some b → w.heap.size ≤ b) ∧ ∀ x ∈ m, ∀ b, x.v.ownBlock = some b → w.heap.size ≤ b := by
 obtain ⟨p, c, rfl, hb1, hb2⟩ := h.len
 have H := Lib.hid (And.intro h (And.intro hf hl))
 have hmm : l.length ≤ 9223372036854775807 := by omega
 clear h hf hl hb1 hb2
 go_enter Try.func19, Try.ntmps19
 go_wp2_with fail
 go_loopg [3, 8] l.length (fun n v3 v8 wr => ∃ i : Nat, i ≤ l.length ∧ n = l.length - i ∧ v8 = .int .i64 (i : Int) ∧ Old w wr ∧ ∃ m : List Pv, OwnsR wr w.heap.size 34 5 Pv.cells v3 m ∧ m.map Pv.plain = (l.map Pv.plain).take i ∧ ∀ x ∈ m, Sees wr x.v x.d ∧ x.d.length ≤ 140737488355328 ∧ ∀ b, x.v.ownBlock = some b → w.heap.size ≤ b ∧ b < wr.heap.size ∧ v3.ownBlock ≠ some b)
 case atStart => exact ⟨0, by omega, rfl, rfl, Keeps.refl _ _, [], OwnsR.nil _ _, rfl, fun _ h => (by cases h)⟩
 case round =>
  obtain ⟨i, hi, rfl, rfl, hk, m, ho, hm, hmf⟩ := hrel
  by_cases hlt : i < l.length
  ·obtain ⟨b, o, cc, he, _, _, hc⟩ := H.out.1.at (by omega)
   simp only [Value.slice.injEq, true_and] at he
   obtain ⟨rfl, rfl⟩ := he
   obtain ⟨x, hx⟩ : ∃ x, l[i]? = some x := ⟨_, List.getElem?_eq_getElem hlt⟩
   have sx := (H.out.2.1 x (List.mem_of_getElem? hx)).1.old hk
   have dx := (H.out.2.1 x (List.mem_of_getElem? hx)).2
   obtain ⟨x0, x1, x2, x3, xv, xd⟩ := x
   simp only at sx dx
   obtain ⟨xp, xc, rfl, _, _⟩ := sx.len
   have c0 : wr.cell? ⟨b, o + i * 5, none⟩ = some (.int .u64 (x0 : Int)) := by have := hk.cell (hc i _ hx 0 _ rfl) (fun f => f); simpa using this
   have c1 : wr.cell? ⟨b, o + i * 5 + 1, none⟩ = some (.int .u64 (x1 : Int)) := by have := hk.cell (hc i _ hx 1 _ rfl) (fun f => f); simpa using this
   have c2 : wr.cell? ⟨b, o + i * 5 + 2, none⟩ = some (.int .u64 (x2 : Int)) := by have := hk.cell (hc i _ hx 2 _ rfl) (fun f => f); simpa using this
   have c3 : wr.cell? ⟨b, o + i * 5 + 3, none⟩ = some (.int .u64 (x3 : Int)) := by have := hk.cell (hc i _ hx 3 _ rfl) (fun f => f); simpa using this
   have c4 : wr.cell? ⟨b, o + i * 5 + 4, none⟩ = some (.slice xp xd.length xc) := by have := hk.cell (hc i _ hx 4 _ rfl) (fun f => f); simpa using this
   have i1 : (0 : Int) ≤ (i : Int) := by omega
   have i2 : (i : Int) < (l.length : Int) := by omega
   obtain ⟨w1, hw1⟩ : ∃ w1, wr.alloc (.cells #[.int .u64 (x0 : Int), .int .u64 (x1 : Int), .int .u64 (x2 : Int), .int .u64 (x3 : Int), .slice xp xd.length xc] 37) = w1 := ⟨_, rfl⟩
   have o1 : Old wr w1 := by rw [← hw1]; exact (Keeps.refl _ _).alloc _
   have b1 : w1.heap[wr.heap.size]? = some (.cells #[.int .u64 (x0 : Int), .int .u64 (x1 : Int), .int .u64 (x2 : Int), .int .u64 (x3 : Int), .slice xp xd.length xc] 37 (0, 0)) := by rw [← hw1]; exact heap_alloc_new _ _
   have HH := Lib.hid (And.intro (hk.trans o1) (And.intro (ho.old o1) (And.intro hm (And.intro (sx.old o1) (And.intro dx (And.intro hmf (And.intro o1 (And.intro b1 hx))))))))
   have HO := Lib.hid (And.intro ho.block hk)
   clear hk ho hm sx dx hmf o1 b1 hx hc
   go_upto_region 5 with fail
   have hS := (show w1.drew.heap[wr.heap.size]? = _ from HH.out.2.2.2.2.2.2.2.1)
   refine wp_region_g (S := fun W => W.heap[wr.heap.size]? = some (.cells #[.int .u64 (x0 : Int), .int .u64 (x1 : Int), .int .u64 (x2 : Int), .int .u64 (x3 : Int), .slice xp xd.length xc] 37 (0, 0))) (M := [0, 1, 2, 3, 4, 5, 6, 7, 8, 9, 10, 11, 12, 13, 14, 15]) (by kernel_rfl) ?_
   refine wpAnyG_takeL (i := 0) (oi := _) (v := ?vt0) rfl (by kernel_rfl) (by kernel_rfl) (by kernel_rfl) (by kernel_rfl) (fun _ _ _ h => h) (Or.inl ⟨by rfl, ?yt0⟩) hS ?rt0
   case yt0 => (intro W hSw; obtain ⟨⟨y0, y1, y2, y3, y4⟩, -⟩ := blk5 hSw; go_simp; try with_reducible rfl)
   try simp only [Act.put, List.setIfInBounds_toArray, List.set_cons_zero, List.set_cons_succ]
   refine wpAnyG_takeL (i := 1) (oi := _) (v := ?vt1) rfl (by kernel_rfl) (by kernel_rfl) (by kernel_rfl) (by kernel_rfl) (fun _ _ _ h => h) (Or.inl ⟨by rfl, ?yt1⟩) hS ?rt1
   case yt1 => (intro W hSw; obtain ⟨⟨y0, y1, y2, y3, y4⟩, -⟩ := blk5 hSw; go_simp; try with_reducible rfl)
   try simp only [Act.put, List.setIfInBounds_toArray, List.set_cons_zero, List.set_cons_succ]
   refine wpAnyG_takeL (i := 2) (oi := _) (v := ?vt2) rfl (by kernel_rfl) (by kernel_rfl) (by kernel_rfl) (by kernel_rfl) (fun _ _ _ h => h) (Or.inl ⟨by rfl, ?yt2⟩) hS ?rt2
   case yt2 => (intro W hSw; obtain ⟨⟨y0, y1, y2, y3, y4⟩, -⟩ := blk5 hSw; go_simp; try with_reducible rfl)
   try simp only [Act.put, List.setIfInBounds_toArray, List.set_cons_zero, List.set_cons_succ]
   refine wpAnyG_takeL (i := 3) (oi := _) (v := ?vt3) rfl (by kernel_rfl) (by kernel_rfl) (by kernel_rfl) (by kernel_rfl) (fun _ _ _ h => h) (Or.inl ⟨by rfl, ?yt3⟩) hS ?rt3
   case yt3 => (intro W hSw; obtain ⟨⟨y0, y1, y2, y3, y4⟩, -⟩ := blk5 hSw; go_simp; try with_reducible rfl)
   try simp only [Act.put, List.setIfInBounds_toArray, List.set_cons_zero, List.set_cons_succ]
   refine wpAnyG_takeL (i := 4) (oi := _) (v := ?vt4) rfl (by kernel_rfl) (by kernel_rfl) (by kernel_rfl) (by kernel_rfl) (fun _ _ _ h => h) (Or.inl ⟨by rfl, ?yt4⟩) hS ?rt4
   case yt4 => (intro W hSw; obtain ⟨⟨y0, y1, y2, y3, y4⟩, -⟩ := blk5 hSw; go_simp; try with_reducible rfl)
   try simp only [Act.put, List.setIfInBounds_toArray, List.set_cons_zero, List.set_cons_succ]
   refine wpAnyG_takeL (i := 5) (oi := _) (v := ?vt5) rfl (by kernel_rfl) (by kernel_rfl) (by kernel_rfl) (by kernel_rfl) (fun _ _ _ h => h) (Or.inl ⟨by rfl, ?yt5⟩) hS ?rt5
   case yt5 => (intro W hSw; obtain ⟨⟨y0, y1, y2, y3, y4⟩, -⟩ := blk5 hSw; go_simp; try with_reducible rfl)
   try simp only [Act.put, List.setIfInBounds_toArray, List.set_cons_zero, List.set_cons_succ]
   refine wpAnyG_takeL (i := 6) (oi := _) (v := ?vt6) rfl (by kernel_rfl) (by kernel_rfl) (by kernel_rfl) (by kernel_rfl) (fun _ _ _ h => h) (Or.inl ⟨by rfl, ?yt6⟩) hS ?rt6
   case yt6 => (intro W hSw; obtain ⟨⟨y0, y1, y2, y3, y4⟩, -⟩ := blk5 hSw; go_simp; try with_reducible rfl)
   try simp only [Act.put, List.setIfInBounds_toArray, List.set_cons_zero, List.set_cons_succ]
   refine wpAnyG_takeL (i := 7) (oi := _) (v := ?vt7) rfl (by kernel_rfl) (by kernel_rfl) (by kernel_rfl) (by kernel_rfl) (fun _ _ _ h => h) (Or.inl ⟨by rfl, ?yt7⟩) hS ?rt7
   case yt7 => (intro W hSw; obtain ⟨⟨y0, y1, y2, y3, y4⟩, -⟩ := blk5 hSw; go_simp; try with_reducible rfl)
   try simp only [Act.put, List.setIfInBounds_toArray, List.set_cons_zero, List.set_cons_succ]
   refine wpAnyG_takeL (i := 8) (oi := _) (v := ?vt8) rfl (by kernel_rfl) (by kernel_rfl) (by kernel_rfl) (by kernel_rfl) (fun _ _ _ h => h) (Or.inl ⟨by rfl, ?yt8⟩) hS ?rt8
   case yt8 => (intro W hSw; obtain ⟨⟨y0, y1, y2, y3, y4⟩, -⟩ := blk5 hSw; go_simp; try with_reducible rfl)
   try simp only [Act.put, List.setIfInBounds_toArray, List.set_cons_zero, List.set_cons_succ]
   refine wpAnyG_takeL (i := 9) (oi := _) (v := ?vt9) rfl (by kernel_rfl) (by kernel_rfl) (by kernel_rfl) (by kernel_rfl) (fun _ _ _ h => h) (Or.inl ⟨by rfl, ?yt9⟩) hS ?rt9
   case yt9 => (intro W hSw; obtain ⟨⟨y0, y1, y2, y3, y4⟩, -⟩ := blk5 hSw; go_simp; try with_reducible rfl)
   try simp only [Act.put, List.setIfInBounds_toArray, List.set_cons_zero, List.set_cons_succ]
   refine wpAnyG_takeL (i := 10) (oi := _) (v := ?vt10) rfl (by kernel_rfl) (by kernel_rfl) (by kernel_rfl) (by kernel_rfl) (fun _ _ _ h => h) (Or.inl ⟨by rfl, ?yt10⟩) hS ?rt10
   case yt10 => (intro W hSw; obtain ⟨⟨y0, y1, y2, y3, y4⟩, -⟩ := blk5 hSw; go_simp; try with_reducible rfl)
   try simp only [Act.put, List.setIfInBounds_toArray, List.set_cons_zero, List.set_cons_succ]
   refine wpAnyG_onlyL (i := 11) (o := _) (by kernel_rfl) rfl (fun K hK => ?_)
   go_simp
   refine (own20 _ xd _ (HH.out.2.2.2.1.old (Keeps.refl _ _).drew) HH.out.2.2.2.2.1).mono ?_
   rintro e w2 ⟨p2, n2, c2, rfl, ho2, hk2⟩
   have hS2 := (hk2.block _ (lt_of_block hS) (fun f => f)).trans hS
   have H2 := Lib.hid (And.intro ho2 hk2)
   clear ho2 hk2
   go_wp2_with fail
   refine hK.out _ _ (fun _ => hS2) ?_
   clear hK K
   try simp only [Act.put, List.setIfInBounds_toArray, List.set_cons_zero, List.set_cons_succ]
   refine wpAnyG_onlyL (i := 12) (o := _) (by kernel_rfl) rfl (fun K hK => ?_)
   go_simp
   refine hK.out _ _ (fun _ => hS2) ?_
   clear hK K
   try simp only [Act.put, List.setIfInBounds_toArray, List.set_cons_zero, List.set_cons_succ]
   refine wpAnyG_onlyL (i := 13) (o := _) (by kernel_rfl) rfl (fun K hK => ?_)
   go_simp
   obtain ⟨w3, hw3⟩ : ∃ w3, w2.alloc (.cells #[.int .u64 (x0 : Int), .int .u64 (x1 : Int), .int .u64 (x2 : Int), .int .u64 (x3 : Int), .slice p2 n2 c2] 34) = w3 := ⟨_, rfl⟩
   have k3 : Old w2 w3 := by rw [← hw3]; exact (Keeps.refl _ _).alloc _
   have sn : SeesR w3 5 Pv.cells (.slice (some ⟨w2.heap.size, 0, none⟩) 1 1) [(⟨x0, x1, x2, x3, .slice p2 n2 c2, xd⟩ : Pv)] := by
    rw [← hw3]
    exact SeesR.new (k := 5) (enc := Pv.cells) w2 _ (0, 0) [(⟨x0, x1, x2, x3, .slice p2 n2 c2, xd⟩ : Pv)] _ rfl (fun _ => rfl) (by unfold maxLen; simp)
   have kk : Old wr w3 := ((HH.out.2.2.2.2.2.2.1.drew).trans H2.out.2).trans k3
   have hS3 := (k3.block _ (lt_of_block hS2) (fun f => f)).trans hS2
   have hml : m.length = i := by have := congrArg List.length HH.out.2.2.1; simpa [Nat.min_eq_left hi] using this
   have hs2 := H2.out.2.size
   have HN := Lib.hid (And.intro (show m.length + [(⟨x0, x1, x2, x3, .slice p2 n2 c2, xd⟩ : Pv)].length ≤ maxLen by unfold maxLen; simp; have := H.out.2.2; omega) (And.intro (show (m.length + [(⟨x0, x1, x2, x3, .slice p2 n2 c2, xd⟩ : Pv)].length) * 56 ≤ 140737488355328 by simp; have := H.out.2.2; omega) (Nat.le_trans (show w.heap.size ≤ w1.heap.size from Keeps.size HH.out.1) (Nat.le_trans (show w1.heap.size ≤ w2.heap.size from hs2) k3.size))))
   have O3 := Lib.hid (And.intro kk (And.intro k3 (And.intro sn ((HH.out.2.1.old (Keeps.refl (fun _ => False) w1).drew).old (H2.out.2.trans k3)))))
   clear kk k3 sn hml hs2
   rw [hw3]
   clear hw3
   refine hK.out _ _ (fun _ => hS3) ?_
   clear hK K
   try simp only [Act.put, List.setIfInBounds_toArray, List.set_cons_zero, List.set_cons_succ]
   refine wpAnyG_onlyL (i := 14) (o := _) (by kernel_rfl) rfl (fun K hK => ?_)
   refine step_append_rows (P := Try.prog) rfl _ _ 48 rfl w.heap.size 34 5 56 Pv.cells _ Try.underlying48 Try.infoPk20 rfl (by decide) u3 m (by rfl) O3.out.2.2.2 _ [(⟨x0, x1, x2, x3, .slice p2 n2 c2, xd⟩ : Pv)] (by rfl) O3.out.2.2.1 (fun _ _ => rfl) (by simp [Pv.cells, Value.oneCell']) HN.out.1 HN.out.2.1 HN.out.2.2 ?_
   intro v' w4 ho4 hg4 hv4
   have hbu := HO.out.1
   have k4 : Keeps (fun k => u3.ownBlock = some k) w3 w4 := (Keeps.refl _ _).grown hg4 (fun k hb _ => hb)
   have hS4 := (k4.block _ (lt_of_block hS3) (fun e => by have := (hbu _ e).2; omega)).trans hS3
   have O4 := Lib.hid (And.intro ho4 (And.intro k4 (And.intro hv4 hbu)))
   clear ho4 k4 hg4 hv4 hbu
   refine hK.out _ _ (fun _ => hS4) ?_
   clear hK K
   try simp only [Act.put, List.setIfInBounds_toArray, List.set_cons_zero, List.set_cons_succ]
   refine wpAnyG_onlyL (i := 15) (o := _) (by kernel_rfl) rfl (fun K hK => ?_)
   go_simp
   refine hK.out _ _ (fun _ => hS4) ?_
   clear hK K
   try simp only [Act.put, List.setIfInBounds_toArray, List.set_cons_zero, List.set_cons_succ]
   refine wpAnyG_done (by kernel_rfl) ?_ _
   go_wp2_with fail
   go_roundg (l.length - (i + 1))
   case measure => omega
   case rel =>
    obtain ⟨ho4, k4, hv4, hbu⟩ := O4.out
    have ha := O3.out.1.size
    have hb := k4.size
    have hw3 : w1.heap.size ≤ w2.heap.size := H2.out.2.size
    have hw1 := lt_of_block HH.out.2.2.2.2.2.2.2.1
    have hw2 := O3.out.2.1.size
    refine ⟨i + 1, by omega, rfl, by go_num, (HO.out.2.trans O3.out.1).then k4 (fun i hi e => by have := (hbu i e).1; omega), m ++ [⟨x0, x1, x2, x3, .slice p2 n2 c2, xd⟩], ho4, ?_, fun z hz => ?_⟩
    ·rw [List.map_append, HH.out.2.2.1, List.take_add_one, List.getElem?_map, HH.out.2.2.2.2.2.2.2.2]; rfl
    ·rcases List.mem_append.1 hz with hz | hz
     ·obtain ⟨s, d, bb⟩ := HH.out.2.2.2.2.2.1 z hz
      refine ⟨(s.old O3.out.1).keeps k4 (fun b hb e => (bb b hb).2.2 e), d, fun b hb => ?_⟩
      obtain ⟨g1, g2, g3⟩ := bb b hb
      refine ⟨g1, by omega, fun e => ?_⟩
      rcases hv4 with e2 | e2
      ·rw [e2] at e; exact g3 e
      ·rw [e2] at e; have := Option.some.inj e; omega
     ·obtain rfl := List.mem_singleton.1 hz
      have hbb := H2.out.1.block
      have hq : ∀ b, (Value.slice p2 n2 c2).ownBlock = some b → w1.heap.size ≤ b ∧ b < w2.heap.size := hbb
      have hx0 := HO.out.2.size
      refine ⟨(H2.out.1.sees.old O3.out.2.1).keeps k4 (fun b hb e => by have := (hbu b e).2; have := (hq b hb).1; omega), HH.out.2.2.2.2.1, fun b hb => ?_⟩
      obtain ⟨g1, g2⟩ := hq b hb
      refine ⟨by omega, by omega, fun e => ?_⟩
      rcases hv4 with e2 | e2
      ·rw [e2] at e; have := (hbu b e).2; omega
      ·rw [e2] at e; have := Option.some.inj e; omega
  ·obtain rfl : i = l.length := by omega
   obtain ⟨q, e, rfl, _, _⟩ := (ho.sees (fun _ => rfl) (by decide)).len
   have K := Lib.hid (And.intro hk (And.intro ho (And.intro hm hmf)))
   clear hk ho hm hmf
   go_wp2_with fail
   go_ret
   obtain ⟨hk, ho, hm, hmf⟩ := K.out
   rw [List.take_of_length_le (by simp)] at hm
   exact ⟨q, _, e, m, rfl, ho.sees (fun _ => rfl) (by decide), hm, fun x hx => ⟨(hmf x hx).1, (hmf x hx).2.1⟩, hk, fun b hb => (ho.block b hb).1, fun x hx b hb => ((hmf x hx).2.2 b hb).1⟩
end Go.Proofs.Ytllnlimbfoingaa
