/- DERIVED. Appending rows of several cells. · DERIVED. Chapter 20: what flies; all, lay of the window. -/
import Derived.Test.YtllnlimbfoingaaY01
import Derived.Maps.AppendAt
namespace Go.Proofs.Ytllnlimbfoingaa
open Go.RowKit

/-- v is a slice of rows of the call's own (from block B on) -/
def OwnsR {α : Type} (w : World) (B : Nat) (E : TypeId) (k : Nat) (enc : α → List Value) (v : Value) (l : List α) : Prop := w.ownsRow B E k v l.length (l.flatMap enc)

section
variable {α : Type} {w w' : World} {B : Nat} {E : TypeId} {k : Nat} {enc : α → List Value} {v : Value} {l : List α}
theorem flat_len (hk : ∀ x ∈ l, (enc x).length = k) : (l.flatMap enc).length = l.length * k := by
 induction l with
 | nil => simp
 | cons x r ih =>
  rw [List.flatMap_cons, List.length_append, hk x (by simp), ih (fun y hy => hk y (by simp [hy])), List.length_cons, Nat.succ_mul]
  omega
theorem OwnsR.nil (w : World) (B : Nat) : OwnsR w B E k enc (.slice none 0 0) [] := World.ownsRow_nil w B _ k
theorem OwnsR.keeps {S : Nat → Prop} (h : OwnsR w B E k enc v l) (hk : Keeps S w w') (hS : ∀ b, v.ownBlock = some b → ¬ S b) : OwnsR w' B E k enc v l := ownsRow_keeps h hk hS
theorem OwnsR.old (h : OwnsR w B E k enc v l) (hk : Old w w') : OwnsR w' B E k enc v l := h.keeps hk (fun _ _ f => f)
theorem OwnsR.mono {B' : Nat} (h : OwnsR w B E k enc v l) (hb : B' ≤ B) : OwnsR w B' E k enc v l := ownsRow_mono h hb
theorem OwnsR.block (h : OwnsR w B E k enc v l) : ∀ b, v.ownBlock = some b → B ≤ b ∧ b < w.heap.size := h.lt
theorem OwnsR.alloc (h : OwnsR w B E k enc v l) (o : Obj) : OwnsR (w.alloc o) B E k enc v l := h.old ((Keeps.refl _ _).alloc o)
theorem OwnsR.sees (h : OwnsR w B E k enc v l) (hk : ∀ x, (enc x).length = k) (_hpos : 0 < k) : SeesR w k enc v l := by
 obtain ⟨h1, h2⟩ := h
 rcases h2 with ⟨rfl, h0⟩ | ⟨g, cap, cur, rfl, hb, hgg, hn, hm, hs, ht⟩
 ·have hl : l = [] := List.eq_nil_of_length_eq_zero h0
  subst hl
  exact SeesR.nil w
 ·refine ⟨_, cap, rfl, hn, hm, fun h => (by cases h), fun a ha => ?_⟩
  cases ha
  refine ⟨fun _ => rfl, fun j x hj i u hu => ?_⟩
  have hi : i < k := by rw [← hk x]; exact (List.getElem?_eq_some_iff.1 hu).1
  have hjl : j < l.length := (List.getElem?_eq_some_iff.1 hj).1
  rw [show (⟨g, 0, none⟩ : Addr).add (j * k + i) = ⟨g, j * k + i, none⟩ from by unfold Addr.add; split <;> simp_all]
  rw [cell_of_row w g _ cur _ (0, 0) hgg]
  have hj' := flat_at hk l j x hj i hi
  rw [← ht, List.getElem?_take, hu] at hj'
  split at hj'
  ·simpa using hj'
  ·cases hj'
end

/-- append(own.., seen..) -/
theorem wpList_append_rows {P : Program} {α : Type} {w : World} {ops : Array Oper} {rest : List Oper} {o : Oper} {a : Act} {Q : Exit → Act → World → Prop} (hgd : o.guard = none) (s x : Operand) (T : TypeId)
  (ho : o.op = .call { callee := .builtin .append, args := #[s, x], argTypes := #[T, T] })
  (B : Nat) (E : TypeId) (k by_ : Nat) (enc : α → List Value) (z : Value) (ht : P.underlying T = some (.slice E)) (hinfo : (P.info? E).map (fun i => (i.zero, i.size, i.bytes)) = some (some z, k, by_)) (hzs : z.cells.size = k) (hpos : 0 < k)
  (v : Value) (l : List α) (hs : a.eval s = v) (hown : OwnsR w B E k enc v l) (u : Value) (m : List α) (hx : a.eval x = u) (hu : SeesR w k enc u m) (hk : ∀ x ∈ m, (enc x).length = k) (h1 : ∀ x ∈ m, ∀ c ∈ enc x, c.oneCell' = true)
  (h63 : l.length + m.length ≤ maxLen) (hlen : (l.length + m.length) * by_ ≤ 140737488355328) (hB : B ≤ w.heap.size)
  (h : ∀ v' w', OwnsR w' B E k enc v' (l ++ m) → w.grownBy w' v.ownBlock → (v'.ownBlock = v.ownBlock ∨ v'.ownBlock = some w.heap.size) → wpList P ops Q rest (a.put o.dst v') w') : wpList P ops Q (o :: rest) a w := by
 obtain ⟨p, c, rfl, g1, g2, g3, g4⟩ := hu
 obtain ⟨i0, hi, hz0, hz1, hz2⟩ := info_parts hinfo
 cases p with
 | none =>
  obtain rfl := g3 rfl
  obtain rfl : m = [] := List.eq_nil_of_length_eq_zero (by omega)
  exact wpList_append_own_none hgd s x T ho B E i0 k ht hi v l.length (l.flatMap enc) hs hown hx (h v w (by simpa [OwnsR] using hown) (World.grownBy.refl _ _) (.inl rfl))
 | some ad =>
  refine wpList_append_own_at w hgd s x T ho B E i0 z k by_ ht hi hz0 hz1 hz2 hzs hpos v l.length (l.flatMap enc) hs hown
   ad m.length c (m.flatMap enc) hx (flat_len hk) ?_ ?_ h63 hlen hB ?_
  ·intro j u hu
   have hj : j < m.length * k := by rw [← flat_len hk]; exact (List.getElem?_eq_some_iff.1 hu).1
   have hq : j / k < m.length := (Nat.div_lt_iff_lt_mul hpos).2 hj
   have hx' : m[j / k]? = some m[j / k] := List.getElem?_eq_getElem hq
   have hjr : j = j / k * k + j % k := by rw [Nat.mul_comm]; exact (Nat.div_add_mod j k).symm
   rw [hjr]
   refine (g4 ad rfl).2 (j / k) _ hx' (j % k) u ?_
   rw [← hu]
   have := flat_at' hk (j / k) _ hx' (j % k) (Nat.mod_lt _ hpos)
   rw [← this, ← hjr]
  ·intro u hu
   obtain ⟨y, hy, hyu⟩ := List.mem_flatMap.1 hu
   exact h1 y hy u hyu
  ·intro v' w' ho' hg' _ hat
   exact h v' w' (by unfold OwnsR; simpa using ho') hg' hat

/-- .. as one step of a region that draws -/
theorem step_append_rows {P : Program} {α : Type} {w : World} {ops : Array Oper} {o : Oper} {a : Act} {K : Act → World → Prop} {Q : Exit → Act → World → Prop} {G : Prop} (hgd : o.guard = none) (s x : Operand) (T : TypeId)
  (ho : o.op = .call { callee := .builtin .append, args := #[s, x], argTypes := #[T, T] })
  (B : Nat) (E : TypeId) (k by_ : Nat) (enc : α → List Value) (z : Value) (ht : P.underlying T = some (.slice E)) (hinfo : (P.info? E).map (fun i => (i.zero, i.size, i.bytes)) = some (some z, k, by_)) (hzs : z.cells.size = k) (hpos : 0 < k)
  (v : Value) (l : List α) (hs : a.eval s = v) (hown : OwnsR w B E k enc v l) (u : Value) (m : List α) (hx : a.eval x = u) (hu : SeesR w k enc u m) (hk : ∀ x ∈ m, (enc x).length = k) (h1 : ∀ x ∈ m, ∀ c ∈ enc x, c.oneCell' = true)
  (h63 : l.length + m.length ≤ maxLen) (hlen : (l.length + m.length) * by_ ≤ 140737488355328) (hB : B ≤ w.heap.size)
  (h : ∀ v' w', OwnsR w' B E k enc v' (l ++ m) → w.grownBy w' v.ownBlock → (v'.ownBlock = v.ownBlock ∨ v'.ownBlock = some w.heap.size) → K (a.put o.dst v') w') :
  if Region.wanted o (yielded ops a.tmps) = true then Oper.wp P o a w K Q else G := by
 have hw : Region.wanted o (yielded ops a.tmps) = true := by simp [Region.wanted, hgd]
 rw [if_pos hw]
 obtain ⟨p, c, rfl, g1, g2, g3, g4⟩ := hu
 obtain ⟨i0, hi, hz0, hz1, hz2⟩ := info_parts hinfo
 cases p with
 | none =>
  obtain rfl := g3 rfl
  obtain rfl : m = [] := List.eq_nil_of_length_eq_zero (by omega)
  have hrun := run_append_owned_none (P := P) (w := w) B T o.type E i0 k ht hi v l.length (l.flatMap enc) hown
  unfold Oper.wp
  simp [execOp, ho, resolve, invoke, builtin, hs, hx, hrun, Result.andThen]
  exact h v w (by simpa [OwnsR] using hown) (World.grownBy.refl _ _) (.inl rfl)
 | some ad =>
  obtain ⟨v', w', hr, h2, h3, _, h5⟩ := run_append_own_at (P := P) w B T o.type E i0 z k by_ ht hi hz0 hz1 hz2 hzs hpos v l.length (l.flatMap enc) hown ad m.length c (m.flatMap enc) (flat_len hk) (by
    intro j u hu
    have hj : j < m.length * k := by rw [← flat_len hk]; exact (List.getElem?_eq_some_iff.1 hu).1
    have hq : j / k < m.length := (Nat.div_lt_iff_lt_mul hpos).2 hj
    have hx' : m[j / k]? = some m[j / k] := List.getElem?_eq_getElem hq
    have hjr : j = j / k * k + j % k := by rw [Nat.mul_comm]; exact (Nat.div_add_mod j k).symm
    rw [hjr]
    refine (g4 ad rfl).2 (j / k) _ hx' (j % k) u ?_
    rw [← hu]
    have := flat_at' hk (j / k) _ hx' (j % k) (Nat.mod_lt _ hpos)
    rw [← this, ← hjr]) (by
    intro u hu
    obtain ⟨y, hy, hyu⟩ := List.mem_flatMap.1 hu
    exact h1 y hy u hyu) h63 hlen hB
  unfold Oper.wp
  simp [execOp, ho, resolve, invoke, builtin, hs, hx, hr, Result.andThen]
  exact h v' w' (by unfold OwnsR; simpa using h2) h3 h5
end Go.Proofs.Ytllnlimbfoingaa

namespace Go.Proofs.Ytllnlimbfoingaa
open Go.RowKit Go.Conc

/-- a message that flies: its number, where it lies, what it is -/
structure Fl where
 seq : Nat
 v : Value
 d : List UInt8
def Fl.cells (f : Fl) : List Value := [.int .u64 (f.seq : Int), f.v]
def Fl.val (f : Fl) : Value := .agg f.cells.toArray
theorem Try.infoFl : (Try.prog.info? 92).map (fun i => (i.zero, i.size, i.bytes)) = some (some (.agg #[.int .u64 0, .slice none 0 0]), 2, 32) := by kernel_rfl
/-- the window at block c -/
def Win (w : World) (c : Nat) (l : List Fl) : Prop := ∃ s r, w.heap[c]? = some (.chan 8 (l.map Fl.val).toArray false s r false)
theorem Win.keeps {S : Nat → Prop} {w w' : World} {c : Nat} {l : List Fl} (h : Win w c l) (hk : Keeps S w w') (hc : ¬ S c) : Win w' c l := by
 obtain ⟨s, r, h⟩ := h
 exact ⟨s, r, (hk.block c (Array.getElem?_eq_some_iff.1 h).1 hc).trans h⟩
theorem Win.lt {w : World} {c : Nat} {l : List Fl} (h : Win w c l) : c < w.heap.size := by
 obtain ⟨s, r, h⟩ := h
 exact (Array.getElem?_eq_some_iff.1 h).1

/-- the loop of all, at the head of a round -/
def AllI (B lb c : Nat) (W : World) (l : List Fl) (n : Nat) (a : Act) (w : World) : Prop :=
 ∃ (t1 t2 v t4 t5 t6 t7 t8 t9 t10 t11 t12 t13 t14 t15 t16 t17 : Value) (x y : List Fl), a = ⟨#[.pointer (some ⟨lb, 0, none⟩), t1, t2, v, t4, t5, t6, t7, t8, t9, t10, t11, t12, t13, t14, t15, t16, t17], []⟩ ∧ l = x ++ y ∧ n = y.length ∧
  OwnsR w B 92 2 Fl.cells v x ∧ Win w c y ∧ Keeps (fun k => k = c) W w ∧ (∀ b, v.ownBlock = some b → b ≠ c)
theorem fl_zero (w : World) : (zeroValue 92).run Try.prog w = .ok (.agg #[.int .u64 0, .slice none 0 0]) w := by
 obtain ⟨i0, hi, hz0, _⟩ := info_parts Try.infoFl
 simp [go_sem]
set_option maxRecDepth 100000 in
theorem all_any (lb c : Nat) (l : List Fl) (W : World) (h : Win W c l) (hl : l.length ≤ 8) (h3 : W.cell? ⟨lb, 3, none⟩ = some (.chan (some c))) (hne : lb ≠ c) (h1 : ∀ f ∈ l, ∃ p n c, f.v = .slice p n c) :
  Calls Try.prog 39 #[.pointer (some ⟨lb, 0, none⟩)] W fun e w' => ∃ v, e = .returned v ∧ OwnsR w' W.heap.size 92 2 Fl.cells v l ∧ Win w' c [] ∧ Keeps (fun k => k = c) W w' := by
 refine calls_of_wpN Try.func39 rfl ?_
 simp only [Try.ntmps39, List.size_toArray, List.length_cons, List.length_nil, Nat.reduceAdd, Nat.reduceSub, Array.replicate_succ, Array.replicate_zero, List.push_toArray, List.append_toArray, List.nil_append, List.cons_append]
 refine wpN_seq (wpN_of_wp ?_)
 go_wp2_with fail
 refine wpN_seq (wpN_of_wp ?_)
 go_wp2_with fail
 refine wpN_block (wpN_loop (AllI W.heap.size lb c W l) l.length ⟨_, _, _, _, _, _, _, _, _, _, _, _, _, _, _, _, _, [], l, rfl, rfl, rfl, OwnsR.nil _ _, h, Keeps.refl _ _, fun b hb => by cases hb⟩ ?_)
 rintro n a w ⟨t1, t2, v, t4, t5, t6, t7, t8, t9, t10, t11, t12, t13, t14, t15, t16, t17, x, y, rfl, hxy, rfl, ho, hw, hk, hvc⟩
 have h3' := hk.cell h3 hne
 refine wpN_block (wpN_seq (wpN_seq (wpN_of_wp ?_)))
 go_wp2_with fail
 obtain ⟨s, r, hw⟩ := hw
 have hr : ∀ (a : Act) (t : TypeId) (e : Array Edge), a.eval (.tmp 8) = .chan (some c) → (execOp a.eval ⟨some 9, .select #[{ chan := .tmp 8, send := none, elem := 92 }] false, 0, "link.go:69", #[], none⟩).run Try.prog w = .ok (.comm #[rcase c (.agg #[.int .u64 0, .slice none 0 0])] false .select) w := by
  intro a t e ha
  have := fl_zero w
  have ha' : a.tmps[8]?.getD undef = .chan (some c) := by simpa [Act.eval] using ha
  simp [go_sem, execOp, rcase, ha', this]
 have FZ := Lib.hid (And.intro hxy (And.intro ho (And.intro hk hvc)))
 have H1 := Lib.hid (And.intro h1 hl)
 cases y with
 | nil =>
  refine wpN_seq (wpN_recv_none rfl (hr _ 0 #[] rfl) hw ?_)
  have HW := Lib.hid hw
  clear hr hw hxy ho hk hvc h h1 hl
  go_wp2_with fail
  refine wpN_of_wp ?_
  go_wp2_with fail
  refine wpN_of_wp ?_
  go_wp2_with fail
  go_ret
  obtain ⟨hxy, ho, hk, hvc⟩ := FZ.out
  rw [List.append_nil] at hxy
  exact ⟨v, rfl, hxy ▸ ho, ⟨s, r, HW.out⟩, hk⟩
 | cons f y =>
  obtain ⟨q, fv, fd⟩ := f
  obtain ⟨fp, fn, fc, rfl⟩ : ∃ p n c, fv = .slice p n c := h1 ⟨q, fv, fd⟩ (by rw [hxy]; simp)
  have hw : w.heap[c]? = some (.chan 8 ((.agg #[.int .u64 (q : Int), .slice fp fn fc]) :: y.map Fl.val).toArray false s r false) := hw
  refine wpN_seq (wpN_recv rfl (hr _ 0 #[] rfl) hw ?_)
  have b1 := chan_same w hw 8 (y.map Fl.val).toArray false s (r + 1) false
  have k1 : Keeps (fun k => k = c) w (w.setChan c 8 (y.map Fl.val).toArray false s (r + 1) false) := Keeps.setChan (S := fun k => k = c) (Keeps.refl _ _) (fun _ => rfl) _ _ _ _ _ _
  obtain ⟨w1, hw1⟩ : ∃ w1, w.setChan c 8 (y.map Fl.val).toArray false s (r + 1) false = w1 := ⟨_, rfl⟩
  rw [hw1] at b1 k1 ⊢
  have HW := Lib.hid (And.intro b1 k1)
  obtain ⟨w2, hw2⟩ : ∃ w2, w1.alloc (.cells #[.int .u64 (q : Int), .slice fp fn fc] 92) = w2 := ⟨_, rfl⟩
  obtain ⟨w3, hw3⟩ : ∃ w3, w2.alloc (.cells #[.int .u64 (q : Int), .slice fp fn fc] 92) = w3 := ⟨_, rfl⟩
  have s2 : w2.heap.size = w1.heap.size + 1 := by rw [← hw2]; simp
  have c20 : w2.cell? ⟨w1.heap.size, 0, none⟩ = some (.int .u64 (q : Int)) := by rw [← hw2]; simp
  have c21 : w2.cell? ⟨w1.heap.size, 1, none⟩ = some (.slice fp fn fc) := by rw [← hw2]; simp
  have k2 : Keeps (fun k => k = c) w w2 := by rw [← hw2]; exact k1.alloc _
  have k3 : Keeps (fun k => k = c) w w3 := by rw [← hw3]; exact k2.alloc _
  have sn : SeesR w3 2 Fl.cells (.slice (some ⟨w1.heap.size + 1, 0, none⟩) 1 1) [(⟨q, .slice fp fn fc, fd⟩ : Fl)] := by
   rw [← hw3, ← s2]
   exact SeesR.new (k := 2) (enc := Fl.cells) w2 _ (0, 0) [⟨q, .slice fp fn fc, fd⟩] _ rfl (fun _ => rfl) (by unfold maxLen; simp)
  have o3 := ho.keeps k3 hvc
  have hlx : x.length ≤ 8 := by
   have : l.length = x.length + (y.length + 1) := by (rw [hxy]; simp)
   omega
  obtain ⟨vp, vc, hv, _⟩ := (o3.sees (fun _ => rfl) (by decide)).len
  subst hv
  have HN := Lib.hid (And.intro (show x.length + [(⟨q, .slice fp fn fc, fd⟩ : Fl)].length ≤ maxLen by unfold maxLen; simp; omega) (And.intro (show (x.length + [(⟨q, .slice fp fn fc, fd⟩ : Fl)].length) * 32 ≤ 140737488355328 by simp; omega)
   (Nat.le_trans hk.size k3.size)))
  have H3 := Lib.hid (And.intro o3 (And.intro sn (And.intro k2 k3)))
  clear hr hw hxy ho hk hvc h h1 hl b1 k1 hw1 k2 k3 sn o3 hlx
  go_wp2_with fail
  refine wpN_of_wp ?_
  go_wp2_with (at_builtin; refine wpList_append_rows (P := Try.prog) rfl _ _ 89 rfl W.heap.size 92 2 32 Fl.cells _ Try.underlying89 Try.infoFl rfl (by decide) (.slice vp x.length vc) x (by rfl) H3.out.1 _ [(⟨q, .slice fp fn fc, fd⟩ : Fl)] (by rfl) H3.out.2.1 (fun _ _ => rfl) (by simp [Fl.cells, Value.oneCell']) HN.out.1 HN.out.2.1 HN.out.2.2 ?_; intro v' w4 ho4 hg4 hv4)
  have F := Lib.hid (And.intro ho4 (And.intro hg4 hv4))
  clear ho4 hg4 hv4
  go_wp2_with fail
  obtain ⟨ho4, hg4, hv4⟩ := F.out
  obtain ⟨hxy, ho, hk, hvc⟩ := FZ.out
  obtain ⟨o3, sn, k2, k3⟩ := H3.out
  obtain ⟨b1, k1⟩ := HW.out
  have l1 : c < w1.heap.size := (Array.getElem?_eq_some_iff.1 b1).1
  have b3 : w3.heap[c]? = some (.chan 8 (y.map Fl.val).toArray false s (r + 1) false) := by
   rw [← hw3, Below.heap_alloc _ _ _ (by omega), ← hw2, Below.heap_alloc _ _ _ l1]
   exact b1
  have l3 : c < w3.heap.size := (Array.getElem?_eq_some_iff.1 b3).1
  refine ⟨y.length, by simp, _, _, _, _, _, _, _, _, _, _, _, _, _, _, _, _, _, x ++ [(⟨q, .slice fp fn fc, fd⟩ : Fl)], y, rfl, by rw [hxy]; simp, rfl, ho4, ⟨s, r + 1, ?_⟩, ?_, ?_⟩
  ·rw [hg4.block c l3 (fun e => hvc c e.symm rfl)]
   exact b3
  ·exact (hk.trans k3).grown hg4 (fun k hb hlt => by have := (ho.block k hb).1; omega)
  ·intro b hb
   rcases hv4 with e | e
   ·rw [e] at hb; exact hvc b hb
   ·rw [e] at hb
    have : b = w3.heap.size := by simpa using hb.symm
    omega

set_option maxRecDepth 100000 in
theorem lay_room (lb c : Nat) (l : List Fl) (W : World) (q : Nat) (fp : Option Addr) (fn fc : Nat) (fd : List UInt8) (h : Win W c l) (hl : l.length < 8) (h3 : W.cell? ⟨lb, 3, none⟩ = some (.chan (some c))) :
  Calls Try.prog 41 #[.pointer (some ⟨lb, 0, none⟩), .agg #[.int .u64 (q : Int), .slice fp fn fc]] W fun e w' => e = .returned (.bool true) ∧ Win w' c (l ++ [⟨q, .slice fp fn fc, fd⟩]) ∧ Keeps (fun k => k = c) W w' := by
 refine calls_of_wpN Try.func41 rfl ?_
 simp only [Try.ntmps41, List.size_toArray, List.length_cons, List.length_nil, Nat.reduceAdd, Nat.reduceSub, Array.replicate_succ, Array.replicate_zero, List.push_toArray, List.append_toArray, List.nil_append, List.cons_append]
 obtain ⟨w1, hw1⟩ : ∃ w1, W.alloc (.cells #[.int .u64 (q : Int), .slice fp fn fc] 92) = w1 := ⟨_, rfl⟩
 have c10 : w1.cell? ⟨W.heap.size, 0, none⟩ = some (.int .u64 (q : Int)) := by rw [← hw1]; simp
 have c11 : w1.cell? ⟨W.heap.size, 1, none⟩ = some (.slice fp fn fc) := by rw [← hw1]; simp
 have o1 : Old W w1 := by rw [← hw1]; exact (Keeps.refl _ _).alloc _
 have c3 := o1.cell h3 (fun f => f)
 obtain ⟨s, r, h1⟩ := h.keeps o1 (fun f => f)
 have HL := Lib.hid (And.intro o1 hl)
 have h0 := h1
 have H0 := Lib.hid h0
 clear h0 h o1 hl
 refine wpN_seq (wpN_of_wp ?_)
 go_wp2_with fail
 refine wpN_seq (wpN_seq (wpN_of_wp ?_))
 go_wp2_with fail
 refine wpN_of_wp ?_
 go_wp2_with fail
 refine wpN_seq (wpN_send (c := c) (u := .agg #[.int .u64 (q : Int), .slice fp fn fc]) (z := .agg #[.int .u64 0, .slice none 0 0]) rfl ?_ H0.out (by simpa using HL.out.2) ?_)
 ·have := fl_zero w1
  simp [go_sem, execOp, scase, this]
 have b1 := chan_same w1 H0.out 8 ((l.map Fl.val).toArray.push (.agg #[.int .u64 (q : Int), .slice fp fn fc])) false (s + 1) r false
 have k1 : Keeps (fun k => k = c) w1 (w1.setChan c 8 ((l.map Fl.val).toArray.push (.agg #[.int .u64 (q : Int), .slice fp fn fc])) false (s + 1) r false) := Keeps.setChan (S := fun k => k = c) (Keeps.refl _ _) (fun _ => rfl) _ _ _ _ _ _
 obtain ⟨w2, hw2⟩ : ∃ w2, w1.setChan c 8 ((l.map Fl.val).toArray.push (.agg #[.int .u64 (q : Int), .slice fp fn fc])) false (s + 1) r false = w2 := ⟨_, rfl⟩
 rw [hw2] at b1 k1 ⊢
 have HB := Lib.hid (And.intro b1 k1)
 clear b1 k1 hw2 h1 c3 c10 c11 h3 hw1
 go_wp2_with fail
 refine wpN_of_wp ?_
 go_wp2_with fail
 go_ret
 refine ⟨rfl, ⟨s + 1, r, ?_⟩, (HL.out.1.weaken (fun _ _ f => f.elim)).trans HB.out.2⟩
 rw [HB.out.1]
 simp [Fl.val, Fl.cells]
set_option maxRecDepth 100000 in
theorem lay_full (lb c : Nat) (l : List Fl) (W : World) (q : Nat) (fp : Option Addr) (fn fc : Nat) (h : Win W c l) (hl : 8 ≤ l.length) (h3 : W.cell? ⟨lb, 3, none⟩ = some (.chan (some c))) :
  Calls Try.prog 41 #[.pointer (some ⟨lb, 0, none⟩), .agg #[.int .u64 (q : Int), .slice fp fn fc]] W fun e w' => e = .returned (.bool false) ∧ Win w' c l ∧ Keeps (fun k => k = c) W w' := by
 refine calls_of_wpN Try.func41 rfl ?_
 simp only [Try.ntmps41, List.size_toArray, List.length_cons, List.length_nil, Nat.reduceAdd, Nat.reduceSub, Array.replicate_succ, Array.replicate_zero, List.push_toArray, List.append_toArray, List.nil_append, List.cons_append]
 obtain ⟨w1, hw1⟩ : ∃ w1, W.alloc (.cells #[.int .u64 (q : Int), .slice fp fn fc] 92) = w1 := ⟨_, rfl⟩
 have c10 : w1.cell? ⟨W.heap.size, 0, none⟩ = some (.int .u64 (q : Int)) := by rw [← hw1]; simp
 have c11 : w1.cell? ⟨W.heap.size, 1, none⟩ = some (.slice fp fn fc) := by rw [← hw1]; simp
 have o1 : Old W w1 := by rw [← hw1]; exact (Keeps.refl _ _).alloc _
 have c3 := o1.cell h3 (fun f => f)
 obtain ⟨s, r, h1⟩ := h.keeps o1 (fun f => f)
 have HL := Lib.hid (And.intro o1 hl)
 have h0 := h1
 have H0 := Lib.hid h0
 clear h0 h o1 hl
 refine wpN_seq (wpN_of_wp ?_)
 go_wp2_with fail
 refine wpN_seq (wpN_seq (wpN_of_wp ?_))
 go_wp2_with fail
 refine wpN_of_wp ?_
 go_wp2_with fail
 refine wpN_seq (wpN_send_full (c := c) (u := .agg #[.int .u64 (q : Int), .slice fp fn fc]) (z := .agg #[.int .u64 0, .slice none 0 0]) rfl ?_ H0.out (by simpa using HL.out.2) ?_)
 ·have := fl_zero w1
  simp [go_sem, execOp, scase, this]
 clear h1 c3 c10 c11 h3 hw1
 go_wp2_with fail
 refine wpN_of_wp ?_
 go_wp2_with fail
 go_ret
 exact ⟨rfl, ⟨s, r, H0.out⟩, HL.out.1.weaken (fun _ _ f => f.elim)⟩
end Go.Proofs.Ytllnlimbfoingaa
