/- DERIVED. Appending rows of several cells. · DERIVED. The contract of codec's reader: event. · DERIVED. Predicates: what may be (layer 4), the program's answer. · DERIVED. Predicates: pred.MayCons and pred.May. · DERIVED. Rows of the call's own whose elements hold slices of their own. Plain forms of constraints, items, gaps. · DERIVED. The contract of codec's reader: constraint. · DERIVED. The contract of codec's reader: pred. -/
import Derived.Test.YtfnanbadbmmicaaGreatDoorY03
import Derived.Maps.AppendAt
import Derived.Test.YtfnanbadbmmicaaGreatDoorY07
import Derived.Test.YtfnanbadbmmicaaGreatDoorY04
import Derived.Deep.DeepCutAuto
namespace Go.Proofs.YtfnanbadbmmicaaGreatDoor
open Go.RowKit

/-- v is a slice of rows of the call's own (from block B on) -/
def OwnsR {α : Type} (w : World) (B : Nat) (E : TypeId) (k : Nat) (enc : α → List Value) (v : Value) (l : List α) : Prop := w.ownsRow B E k v l.length (l.flatMap enc)

section
variable {α : Type} {w w' : World} {B : Nat} {E : TypeId} {k : Nat} {enc : α → List Value} {v : Value} {l : List α}
theorem flat_len (hk : ∀ x ∈ l, (enc x).length = k) : (l.flatMap enc).length = l.length * k := by
 induction l with
 | nil => simp
 | cons x r ih =>
  rw [List.flatMap_cons, List.length_append, hk x (by simp), ih (fun y hy => hk y (by simp [hy])), List.length_cons, Nat.succ_mul]
  omega
theorem OwnsR.nil (w : World) (B : Nat) : OwnsR w B E k enc (.slice none 0 0) [] := World.ownsRow_nil w B _ k
theorem OwnsR.keeps {S : Nat → Prop} (h : OwnsR w B E k enc v l) (hk : Keeps S w w') (hS : ∀ b, v.ownBlock = some b → ¬ S b) : OwnsR w' B E k enc v l := ownsRow_keeps h hk hS
theorem OwnsR.old (h : OwnsR w B E k enc v l) (hk : Old w w') : OwnsR w' B E k enc v l := h.keeps hk (fun _ _ f => f)
theorem OwnsR.mono {B' : Nat} (h : OwnsR w B E k enc v l) (hb : B' ≤ B) : OwnsR w B' E k enc v l := ownsRow_mono h hb
theorem OwnsR.block (h : OwnsR w B E k enc v l) : ∀ b, v.ownBlock = some b → B ≤ b ∧ b < w.heap.size := h.lt
theorem OwnsR.alloc (h : OwnsR w B E k enc v l) (o : Obj) : OwnsR (w.alloc o) B E k enc v l := h.old ((Keeps.refl _ _).alloc o)
theorem OwnsR.sees (h : OwnsR w B E k enc v l) (hk : ∀ x, (enc x).length = k) (_hpos : 0 < k) : SeesR w k enc v l := by
 obtain ⟨h1, h2⟩ := h
 rcases h2 with ⟨rfl, h0⟩ | ⟨g, cap, cur, rfl, hb, hgg, hn, hm, hs, ht⟩
 ·have hl : l = [] := List.eq_nil_of_length_eq_zero h0
  subst hl
  exact SeesR.nil w
 ·refine ⟨_, cap, rfl, hn, hm, fun h => (by cases h), fun a ha => ?_⟩
  cases ha
  refine ⟨fun _ => rfl, fun j x hj i u hu => ?_⟩
  have hi : i < k := by rw [← hk x]; exact (List.getElem?_eq_some_iff.1 hu).1
  have hjl : j < l.length := (List.getElem?_eq_some_iff.1 hj).1
  rw [show (⟨g, 0, none⟩ : Addr).add (j * k + i) = ⟨g, j * k + i, none⟩ from by unfold Addr.add; split <;> simp_all]
  rw [cell_of_row w g _ cur _ (0, 0) hgg]
  have hj' := flat_at hk l j x hj i hi
  rw [← ht, List.getElem?_take, hu] at hj'
  split at hj'
  ·simpa using hj'
  ·cases hj'
end

/-- append(own.., seen..) -/
theorem wpList_append_rows {P : Program} {α : Type} {w : World} {ops : Array Oper} {rest : List Oper} {o : Oper} {a : Act} {Q : Exit → Act → World → Prop} (hgd : o.guard = none) (s x : Operand) (T : TypeId)
  (ho : o.op = .call { callee := .builtin .append, args := #[s, x], argTypes := #[T, T] })
  (B : Nat) (E : TypeId) (k by_ : Nat) (enc : α → List Value) (z : Value) (ht : P.underlying T = some (.slice E)) (hinfo : (P.info? E).map (fun i => (i.zero, i.size, i.bytes)) = some (some z, k, by_)) (hzs : z.cells.size = k) (hpos : 0 < k)
  (v : Value) (l : List α) (hs : a.eval s = v) (hown : OwnsR w B E k enc v l) (u : Value) (m : List α) (hx : a.eval x = u) (hu : SeesR w k enc u m) (hk : ∀ x ∈ m, (enc x).length = k) (h1 : ∀ x ∈ m, ∀ c ∈ enc x, c.oneCell' = true)
  (h63 : l.length + m.length ≤ maxLen) (hlen : (l.length + m.length) * by_ ≤ 140737488355328) (hB : B ≤ w.heap.size)
  (h : ∀ v' w', OwnsR w' B E k enc v' (l ++ m) → w.grownBy w' v.ownBlock → (v'.ownBlock = v.ownBlock ∨ v'.ownBlock = some w.heap.size) → wpList P ops Q rest (a.put o.dst v') w') : wpList P ops Q (o :: rest) a w := by
 obtain ⟨p, c, rfl, g1, g2, g3, g4⟩ := hu
 obtain ⟨i0, hi, hz0, hz1, hz2⟩ := info_parts hinfo
 cases p with
 | none =>
  obtain rfl := g3 rfl
  obtain rfl : m = [] := List.eq_nil_of_length_eq_zero (by omega)
  exact wpList_append_own_none hgd s x T ho B E i0 k ht hi v l.length (l.flatMap enc) hs hown hx (h v w (by simpa [OwnsR] using hown) (World.grownBy.refl _ _) (.inl rfl))
 | some ad =>
  refine wpList_append_own_at w hgd s x T ho B E i0 z k by_ ht hi hz0 hz1 hz2 hzs hpos v l.length (l.flatMap enc) hs hown
   ad m.length c (m.flatMap enc) hx (flat_len hk) ?_ ?_ h63 hlen hB ?_
  ·intro j u hu
   have hj : j < m.length * k := by rw [← flat_len hk]; exact (List.getElem?_eq_some_iff.1 hu).1
   have hq : j / k < m.length := (Nat.div_lt_iff_lt_mul hpos).2 hj
   have hx' : m[j / k]? = some m[j / k] := List.getElem?_eq_getElem hq
   have hjr : j = j / k * k + j % k := by rw [Nat.mul_comm]; exact (Nat.div_add_mod j k).symm
   rw [hjr]
   refine (g4 ad rfl).2 (j / k) _ hx' (j % k) u ?_
   rw [← hu]
   have := flat_at' hk (j / k) _ hx' (j % k) (Nat.mod_lt _ hpos)
   rw [← this, ← hjr]
  ·intro u hu
   obtain ⟨y, hy, hyu⟩ := List.mem_flatMap.1 hu
   exact h1 y hy u hyu
  ·intro v' w' ho' hg' _ hat
   exact h v' w' (by unfold OwnsR; simpa using ho') hg' hat

/-- .. as one step of a region that draws -/
theorem step_append_rows {P : Program} {α : Type} {w : World} {ops : Array Oper} {o : Oper} {a : Act} {K : Act → World → Prop} {Q : Exit → Act → World → Prop} {G : Prop} (hgd : o.guard = none) (s x : Operand) (T : TypeId)
  (ho : o.op = .call { callee := .builtin .append, args := #[s, x], argTypes := #[T, T] })
  (B : Nat) (E : TypeId) (k by_ : Nat) (enc : α → List Value) (z : Value) (ht : P.underlying T = some (.slice E)) (hinfo : (P.info? E).map (fun i => (i.zero, i.size, i.bytes)) = some (some z, k, by_)) (hzs : z.cells.size = k) (hpos : 0 < k)
  (v : Value) (l : List α) (hs : a.eval s = v) (hown : OwnsR w B E k enc v l) (u : Value) (m : List α) (hx : a.eval x = u) (hu : SeesR w k enc u m) (hk : ∀ x ∈ m, (enc x).length = k) (h1 : ∀ x ∈ m, ∀ c ∈ enc x, c.oneCell' = true)
  (h63 : l.length + m.length ≤ maxLen) (hlen : (l.length + m.length) * by_ ≤ 140737488355328) (hB : B ≤ w.heap.size)
  (h : ∀ v' w', OwnsR w' B E k enc v' (l ++ m) → w.grownBy w' v.ownBlock → (v'.ownBlock = v.ownBlock ∨ v'.ownBlock = some w.heap.size) → K (a.put o.dst v') w') :
  if Region.wanted o (yielded ops a.tmps) = true then Oper.wp P o a w K Q else G := by
 have hw : Region.wanted o (yielded ops a.tmps) = true := by simp [Region.wanted, hgd]
 rw [if_pos hw]
 obtain ⟨p, c, rfl, g1, g2, g3, g4⟩ := hu
 obtain ⟨i0, hi, hz0, hz1, hz2⟩ := info_parts hinfo
 cases p with
 | none =>
  obtain rfl := g3 rfl
  obtain rfl : m = [] := List.eq_nil_of_length_eq_zero (by omega)
  have hrun := run_append_owned_none (P := P) (w := w) B T o.type E i0 k ht hi v l.length (l.flatMap enc) hown
  unfold Oper.wp
  simp [execOp, ho, resolve, invoke, builtin, hs, hx, hrun, Result.andThen]
  exact h v w (by simpa [OwnsR] using hown) (World.grownBy.refl _ _) (.inl rfl)
 | some ad =>
  obtain ⟨v', w', hr, h2, h3, _, h5⟩ := run_append_own_at (P := P) w B T o.type E i0 z k by_ ht hi hz0 hz1 hz2 hzs hpos v l.length (l.flatMap enc) hown ad m.length c (m.flatMap enc) (flat_len hk) (by
    intro j u hu
    have hj : j < m.length * k := by rw [← flat_len hk]; exact (List.getElem?_eq_some_iff.1 hu).1
    have hq : j / k < m.length := (Nat.div_lt_iff_lt_mul hpos).2 hj
    have hx' : m[j / k]? = some m[j / k] := List.getElem?_eq_getElem hq
    have hjr : j = j / k * k + j % k := by rw [Nat.mul_comm]; exact (Nat.div_add_mod j k).symm
    rw [hjr]
    refine (g4 ad rfl).2 (j / k) _ hx' (j % k) u ?_
    rw [← hu]
    have := flat_at' hk (j / k) _ hx' (j % k) (Nat.mod_lt _ hpos)
    rw [← this, ← hjr]) (by
    intro u hu
    obtain ⟨y, hy, hyu⟩ := List.mem_flatMap.1 hu
    exact h1 y hy u hyu) h63 hlen hB
  unfold Oper.wp
  simp [execOp, ho, resolve, invoke, builtin, hs, hx, hr, Result.andThen]
  exact h v' w' (by unfold OwnsR; simpa using h2) h3 h5
end Go.Proofs.YtfnanbadbmmicaaGreatDoor

namespace Go.Proofs.YtfnanbadbmmicaaGreatDoor
open Go.RowKit

abbrev OwnsA (w : World) (B : Nat) (v : Value) (l : List At) : Prop := OwnsR w B 102 5 At.cells v l
theorem Tryz.infoAttr : (Tryz.prog.info? 102).map (fun i => (i.zero, i.size, i.bytes)) = some (some (.agg #[.string ⟨#[]⟩, .int .i64 0, .int .i64 0, .string ⟨#[]⟩, .bool false]), 5, 56) := by kernel_rfl
theorem blk2 {w : World} {b : Nat} {t : TypeId} {a0 a1 : Value} (h : w.heap[b]? = some (.cells #[a0, a1] t (0, 0))) :
  (w.cell? ⟨b, 0, none⟩ = some a0 ∧ w.cell? ⟨b, 1, none⟩ = some a1) ∧ (w.frozen? ⟨b, 0, none⟩ = false ∧ w.frozen? ⟨b, 1, none⟩ = false) := by simp [World.cell?, World.frozen?, h]

/-- while an event's attributes are read -/
def EvInv (w : World) (B rb bb rp ep : Nat) (key : ByteArray) (s : List At) (l : List UInt8) (W : World) : Prop :=
 Rd W B rb bb l ∧ W.heap[rp]? = some (.cells #[.pointer (some ⟨rb, 0, none⟩)] 98 (0, 0)) ∧
 (∃ v, W.heap[ep]? = some (.cells #[.string key, v] 37 (0, 0)) ∧ OwnsA W (ep + 1) v s) ∧ RK rb w W

theorem pAt_cases {l r : List UInt8} {a : At} (h : pAt l = some (a, r)) : ∃ l1, pText 16 l = some (a.name, l1) ∧ pVal l1 = some (a.val, r) := by
 unfold pAt at h
 cases hk : pText 16 l with
 | none => rw [hk] at h; cases h
 | some x =>
  rw [hk] at h
  simp only [Option.bind_some] at h
  cases hi : pVal x.2 with
  | none => rw [hi] at h; cases h
  | some y =>
   rw [hi] at h
   simp only [Option.map_some, Option.some.injEq, Prod.mk.injEq] at h
   obtain ⟨rfl, rfl⟩ := h
   exact ⟨x.2, rfl, hi⟩
theorem pAt_nones {l : List UInt8} (h : pAt l = none) : pText 16 l = none ∨ ∃ s l1, pText 16 l = some (s, l1) ∧ pVal l1 = none := by
 unfold pAt at h
 cases hk : pText 16 l with
 | none => exact .inl rfl
 | some x =>
  rw [hk] at h
  simp only [Option.bind_some] at h
  exact .inr ⟨x.1, x.2, rfl, by simpa using h⟩

theorem EvInv.rk {w W W' : World} {B rb bb rp ep : Nat} {key : ByteArray} {s : List At} {l l' : List UInt8} (hrb : rb < w.heap.size) (hrp : rp ≠ rb) (_hep : rp < ep) (hwe : w.heap.size ≤ ep) (h : EvInv w B rb bb rp ep key s l W) (hk : RK rb W W') (hR : Rd W' B rb bb l') : EvInv w B rb bb rp ep key s l' W' := by
 obtain ⟨_, h1, ⟨v, h2, h3⟩, h4⟩ := h
 have l1 : rp < W.heap.size := lt_of_heap h1
 have l2 : ep < W.heap.size := lt_of_heap h2
 exact ⟨hR, (hk.block rp l1 (by omega)).trans h1, ⟨v, (hk.block ep l2 (by omega)).trans h2, h3.keeps hk (fun b hb e => by have := (h3.block b hb).1; omega)⟩, h4.trans hk⟩

set_option maxRecDepth 100000 in
set_option maxHeartbeats 1000000 in
theorem cev1_yes (B rb bb rp ep : Nat) (key : ByteArray) (s : List At) (a : At) (l r : List UInt8) (w W : World) (hB : B ≤ w.heap.size) (hrb : rb < w.heap.size) (hrp : rp ≠ rb) (hep : rp < ep) (hwe : w.heap.size ≤ ep)
  (h : EvInv w B rb bb rp ep key s l W) (hs : s.length < 8) (hp : pAt l = some (a, r)) :
  Calls Tryz.prog 99 #[.pointer (some ⟨rp, 0, none⟩), .pointer (some ⟨ep, 0, none⟩)] W fun e W' => e = .returned (.tuple #[]) ∧ EvInv w B rb bb rp ep key (s ++ [a]) r W' := by
 obtain ⟨l1, q1, q2⟩ := pAt_cases hp
 obtain ⟨nm, ⟨vk, vn, vs, vi⟩⟩ := a
 simp only at q1 q2
 obtain ⟨hR, h1, ⟨v, h2, ho⟩, hk⟩ := h
 have f0 := (blk1 h1).1
 have HT := Lib.hid (ctext_yes B rb bb 16 nm l l1 W hR (by decide) q1)
 have hv := fun W' (h : Rd W' B rb bb l1) => cval_yes B rb bb ⟨vk, vn, vs, vi⟩ l1 r W' h q2
 unfold Val.cells at hv
 simp only at hv
 have HV := Lib.hid hv
 have hwW := hk.size
 have G := Lib.hid (And.intro h1 (And.intro h2 (And.intro ho hk)))
 clear h1 h2 ho hk hp q1 q2 hR hv
 go_enter Tryz.func99, Tryz.ntmps99
 go_wp2_with fail
 refine HT.out.mono ?_
 rintro e w1 ⟨rfl, hR1, k1⟩
 have b1 := (k1.block rp (lt_of_heap G.out.1) (by omega)).trans G.out.1
 have b2 := (k1.block ep (lt_of_heap G.out.2.1) (by omega)).trans G.out.2.1
 have g1 := (blk1 b1).1
 have g2 := (blk2 b2).1.2
 have o1 := G.out.2.2.1.keeps k1 (fun b hb e => by have := (G.out.2.2.1.block b hb).1; omega)
 have H := Lib.hid (And.intro hR1 (And.intro b1 (And.intro b2 (And.intro o1 (G.out.2.2.2.trans k1)))))
 clear hR1 k1 b1 b2 o1 f0
 go_wp2_with fail
 refine wp_region_g (S := fun W' => W'.cell? ⟨ep, 1, none⟩ = some v ∧ W'.cell? ⟨rp, 0, none⟩ = some (.pointer (some ⟨rb, 0, none⟩))) (M := [0, 1, 2, 3, 4, 5, 6, 7, 8]) (by kernel_rfl) ?_
 have hS : w1.drew.cell? ⟨ep, 1, none⟩ = some v ∧ w1.drew.cell? ⟨rp, 0, none⟩ = some (.pointer (some ⟨rb, 0, none⟩)) := ⟨g2, g1⟩
 refine wpAnyG_takeL (i := 0) (oi := _) (v := ?va0) rfl (by kernel_rfl) (by kernel_rfl) (by kernel_rfl) (by kernel_rfl) (fun _ _ _ h => h) (Or.inl ⟨by rfl, ?ya0⟩) hS ?ra0
 case ya0 => (intro W hSw; go_simp; try with_reducible rfl)
 try simp only [Act.put, List.setIfInBounds_toArray, List.set_cons_zero, List.set_cons_succ]
 refine wpAnyG_takeL (i := 1) (oi := _) (v := ?va1) rfl (by kernel_rfl) (by kernel_rfl) (by kernel_rfl) (by kernel_rfl) (fun _ _ _ h => h) (Or.inl ⟨by rfl, ?ya1⟩) hS ?ra1
 case ya1 => (intro W hSw; obtain ⟨y1, y2⟩ := hSw; go_simp; try with_reducible rfl)
 try simp only [Act.put, List.setIfInBounds_toArray, List.set_cons_zero, List.set_cons_succ]
 refine wpAnyG_takeL (i := 2) (oi := _) (v := ?va2) rfl (by kernel_rfl) (by kernel_rfl) (by kernel_rfl) (by kernel_rfl) (fun _ _ _ h => h) (Or.inl ⟨by rfl, ?ya2⟩) hS ?ra2
 case ya2 => (intro W hSw; go_simp; try with_reducible rfl)
 try simp only [Act.put, List.setIfInBounds_toArray, List.set_cons_zero, List.set_cons_succ]
 refine wpAnyG_takeL (i := 3) (oi := _) (v := ?va3) rfl (by kernel_rfl) (by kernel_rfl) (by kernel_rfl) (by kernel_rfl) (fun _ _ _ h => h) (Or.inl ⟨by rfl, ?ya3⟩) hS ?ra3
 case ya3 => (intro W hSw; obtain ⟨y1, y2⟩ := hSw; go_simp; try with_reducible rfl)
 try simp only [Act.put, List.setIfInBounds_toArray, List.set_cons_zero, List.set_cons_succ]
 refine wpAnyG_onlyL (i := 4) (o := _) (by kernel_rfl) rfl (fun K hK => ?_)
 go_simp
 refine (HV.out _ (H.out.1.old (Keeps.refl _ _).drew)).mono ?_
 rintro e w2 ⟨rfl, hR2, k2⟩
 have hS2 : w2.cell? ⟨ep, 1, none⟩ = some v ∧ w2.cell? ⟨rp, 0, none⟩ = some (.pointer (some ⟨rb, 0, none⟩)) := ⟨k2.cell hS.1 (by dsimp only; omega), k2.cell hS.2 (by dsimp only; omega)⟩
 go_wp2_with fail
 refine hK.out _ _ (fun _ => hS2) ?_
 clear hK K
 try simp only [Act.put, List.setIfInBounds_toArray, List.set_cons_zero, List.set_cons_succ]
 refine wpAnyG_takeL (i := 5) (oi := _) (v := ?va5) rfl (by kernel_rfl) (by kernel_rfl) (by kernel_rfl) (by kernel_rfl) (fun _ _ _ h => h) (Or.inl ⟨by rfl, ?ya5⟩) hS2 ?ra5
 case ya5 => (intro W hSw; go_simp; try with_reducible rfl)
 try simp only [Act.put, List.setIfInBounds_toArray, List.set_cons_zero, List.set_cons_succ]
 have H2 := Lib.hid (And.intro hR2 (And.intro k2 ((k2.block rp (lt_of_heap H.out.2.1) (by omega)).trans H.out.2.1)))
 have b3 := (k2.block ep (lt_of_heap H.out.2.2.1) (by omega)).trans H.out.2.2.1
 have o2 := (H.out.2.2.2.1.old ((Keeps.refl _ _).drew)).keeps k2 (fun b hb e => by have := (H.out.2.2.2.1.block b hb).1; omega)
 have B3 := Lib.hid b3
 have OB := Lib.hid (fun b (hb : v.ownBlock = some b) => (o2.block b hb).1)
 have hz : ep + 1 ≤ w2.heap.size := lt_of_heap b3
 have SN := Lib.hid (SeesR.new (k := 5) (enc := At.cells) w2 102 (0, 0) [(⟨nm, ⟨vk, vn, vs, vi⟩⟩ : At)] #[.string nm, .int .i64 vk, .int .i64 vn, .string vs, .bool vi] (by simp [At.cells]) (fun _ => rfl) (by unfold maxLen; simp))
 have O2 := Lib.hid (o2.alloc (.cells #[.string nm, .int .i64 vk, .int .i64 vn, .string vs, .bool vi] 102))
 have HN := Lib.hid (show s.length + 1 ≤ maxLen ∧ (s.length + 1) * 56 ≤ 140737488355328 ∧ ep + 1 ≤ (w2.alloc (.cells #[.string nm, .int .i64 vk, .int .i64 vn, .string vs, .bool vi] 102)).heap.size from ⟨by unfold maxLen; omega, by omega, by simp; omega⟩)
 clear hR2 k2 b3 o2
 refine wpAnyG_onlyL (i := 6) (o := _) (by kernel_rfl) rfl (fun K hK => ?_)
 go_simp
 have hS3 : (w2.alloc (.cells #[.string nm, .int .i64 vk, .int .i64 vn, .string vs, .bool vi] 102)).cell? ⟨ep, 1, none⟩ = some v ∧ (w2.alloc (.cells #[.string nm, .int .i64 vk, .int .i64 vn, .string vs, .bool vi] 102)).cell? ⟨rp, 0, none⟩ = some (.pointer (some ⟨rb, 0, none⟩)) := ⟨((Keeps.refl (fun _ => False) w2).alloc _).cell hS2.1 (fun f => f), ((Keeps.refl (fun _ => False) w2).alloc _).cell hS2.2 (fun f => f)⟩
 refine hK.out _ _ (fun _ => hS3) ?_
 clear hK K
 try simp only [Act.put, List.setIfInBounds_toArray, List.set_cons_zero, List.set_cons_succ]
 refine wpAnyG_onlyL (i := 7) (o := _) (by kernel_rfl) rfl (fun K hK => ?_)
 refine step_append_rows (P := Tryz.prog) rfl _ _ 35 rfl (ep + 1) 102 5 56 At.cells _ Tryz.underlying35 Tryz.infoAttr rfl (by decide) v s (by rfl) O2.out _ [(⟨nm, ⟨vk, vn, vs, vi⟩⟩ : At)] (by rfl) SN.out (fun _ _ => rfl) (by simp [At.cells, Value.oneCell']) HN.out.1 HN.out.2.1 HN.out.2.2 ?_
 intro v' w3 ho3 hg3 _
 obtain ⟨p', n', c', rfl⟩ : ∃ p n c, v' = .slice p n c := by obtain ⟨p, c, h, _⟩ := (ho3.sees (fun _ => rfl) (by decide)).len; exact ⟨p, _, c, h⟩
 have k3 : Keeps (fun k => ep < k) w2 w3 := (((Keeps.refl _ _).alloc _).grown hg3 (fun k hk _ => OB.out k hk))
 have hS4 : w3.cell? ⟨ep, 1, none⟩ = some v ∧ w3.cell? ⟨rp, 0, none⟩ = some (.pointer (some ⟨rb, 0, none⟩)) := ⟨k3.cell hS2.1 (by dsimp only; omega), k3.cell hS2.2 (by dsimp only; omega)⟩
 have b4 := (k3.block ep hz (by omega)).trans B3.out
 have F := Lib.hid (And.intro k3 (And.intro ho3 b4))
 have g4 := (blk2 b4).1.2
 have g5 := (blk2 b4).2.2
 clear k3 ho3 b4 hg3 hS3
 refine hK.out _ _ (fun _ => hS4) ?_
 clear hK K
 try simp only [Act.put, List.setIfInBounds_toArray, List.set_cons_zero, List.set_cons_succ]
 refine wpAnyG_takeL (i := 8) (oi := _) (v := ?va8) rfl (by kernel_rfl) (by kernel_rfl) (by kernel_rfl) (by kernel_rfl) (fun _ _ _ h => h) (Or.inl ⟨by rfl, ?ya8⟩) hS4 ?ra8
 case ya8 => (intro W hSw; go_simp; try with_reducible rfl)
 try simp only [Act.put, List.setIfInBounds_toArray, List.set_cons_zero, List.set_cons_succ]
 refine wpAnyG_onlyL (i := 9) (o := _) (by kernel_rfl) rfl (fun K hK => ?_)
 go_simp
 refine hK.out _ _ (fun h => absurd h (by decide)) ?_
 clear hK K
 refine wpAnyG_done (by kernel_rfl) ?_ _
 go_simp
 go_wp2_with fail
 go_end0
 refine ⟨rfl, ?_⟩
 have hb4 := F.out.2.1.block
 have kF : Keeps (fun k => ep ≤ k) w2 (w3.setCell ⟨ep, 1, none⟩ (.slice p' n' c')) := (F.out.1.weaken (fun i _ h => Nat.le_of_lt h)).setCell (fun _ => Nat.le_refl _) _
 refine ⟨H2.out.1.far kF (fun k hk => ⟨by omega, by omega⟩), (kF.block rp (lt_of_heap H2.out.2.2) (by omega)).trans H2.out.2.2, ⟨.slice p' n' c', ?_, ?_⟩, ?_⟩
 ·have := heap_setCell_same w3 ep 1 _ _ (.slice p' n' c') F.out.2.2
  simpa using this
 ·exact F.out.2.1.keeps ((Keeps.refl (fun k => k = ep) _).setCell (fun _ => rfl) _) (fun b hb e => by have := (hb4 b hb).1; omega)
 ·exact ((H.out.2.2.2.2.then (Keeps.refl (fun _ => False) w1).drew (fun _ _ f => f.elim)).trans H2.out.2.1).then kF (fun i hi h => by omega)

def Bad (w : World) (B rb bb : Nat) (W : World) : Prop := (∃ r, Rd W B rb bb r) ∧ RK rb w W
theorem EvInv.bad {w W : World} {B rb bb rp ep : Nat} {key : ByteArray} {s : List At} {l : List UInt8} (h : EvInv w B rb bb rp ep key s l W) : Bad w B rb bb W := ⟨⟨l, h.1⟩, h.2.2.2⟩
set_option maxRecDepth 100000 in
set_option maxHeartbeats 1000000 in
theorem cev1_no (B rb bb rp ep : Nat) (key : ByteArray) (s : List At) (l : List UInt8) (w W : World) (_hB : B ≤ w.heap.size) (hrb : rb < w.heap.size) (hrp : rp ≠ rb) (_hep : rp < ep) (hwe : w.heap.size ≤ ep)
  (h : EvInv w B rb bb rp ep key s l W) (hp : pAt l = none) :
  Calls Tryz.prog 99 #[.pointer (some ⟨rp, 0, none⟩), .pointer (some ⟨ep, 0, none⟩)] W fun e W' => e = .panicked fault ∧ Bad w B rb bb W' := by
 obtain ⟨hR, h1, ⟨v, h2, ho⟩, hk⟩ := h
 have f0 := (blk1 h1).1
 rcases pAt_nones hp with q | ⟨nm, l1, q1, q2⟩
 ·have HT := Lib.hid (ctext_no B rb bb 16 l W hR (by decide) q)
  have G := Lib.hid hk
  clear h1 h2 ho hk hp q hR
  go_enter Tryz.func99, Tryz.ntmps99
  go_wp2_with fail
  refine HT.out.mono ?_
  rintro e w1 ⟨rfl, hR1, k1⟩
  have R := Lib.hid (show Bad w B rb bb w1 from ⟨hR1, G.out.trans k1⟩)
  clear hR1 k1
  go_wp2_with fail
  exact ⟨rfl, rfl, R.out⟩
 ·have HT := Lib.hid (ctext_yes B rb bb 16 nm l l1 W hR (by decide) q1)
  have HV := Lib.hid (fun W' (h : Rd W' B rb bb l1) => cval_no B rb bb l1 W' h q2)
  have G := Lib.hid (And.intro h1 (And.intro h2 (And.intro ho hk)))
  clear h1 h2 ho hk hp q1 q2 hR
  go_enter Tryz.func99, Tryz.ntmps99
  go_wp2_with fail
  refine HT.out.mono ?_
  rintro e w1 ⟨rfl, hR1, k1⟩
  have b1 := (k1.block rp (lt_of_heap G.out.1) (by omega)).trans G.out.1
  have b2 := (k1.block ep (lt_of_heap G.out.2.1) (by omega)).trans G.out.2.1
  have g1 := (blk1 b1).1
  have g2 := (blk2 b2).1.2
  have H := Lib.hid (And.intro hR1 (G.out.2.2.2.trans k1))
  clear hR1 k1 b1 b2 f0
  go_wp2_with fail
  refine wp_region_g (S := fun W' => W'.cell? ⟨ep, 1, none⟩ = some v ∧ W'.cell? ⟨rp, 0, none⟩ = some (.pointer (some ⟨rb, 0, none⟩))) (M := [0, 1, 2, 3, 4, 5, 6, 7, 8]) (by kernel_rfl) ?_
  have hS : w1.drew.cell? ⟨ep, 1, none⟩ = some v ∧ w1.drew.cell? ⟨rp, 0, none⟩ = some (.pointer (some ⟨rb, 0, none⟩)) := ⟨g2, g1⟩
  refine wpAnyG_takeL (i := 0) (oi := _) (v := ?va0) rfl (by kernel_rfl) (by kernel_rfl) (by kernel_rfl) (by kernel_rfl) (fun _ _ _ h => h) (Or.inl ⟨by rfl, ?ya0⟩) hS ?ra0
  case ya0 => (intro W hSw; go_simp; try with_reducible rfl)
  try simp only [Act.put, List.setIfInBounds_toArray, List.set_cons_zero, List.set_cons_succ]
  refine wpAnyG_takeL (i := 1) (oi := _) (v := ?va1) rfl (by kernel_rfl) (by kernel_rfl) (by kernel_rfl) (by kernel_rfl) (fun _ _ _ h => h) (Or.inl ⟨by rfl, ?ya1⟩) hS ?ra1
  case ya1 => (intro W hSw; obtain ⟨y1, y2⟩ := hSw; go_simp; try with_reducible rfl)
  try simp only [Act.put, List.setIfInBounds_toArray, List.set_cons_zero, List.set_cons_succ]
  refine wpAnyG_takeL (i := 2) (oi := _) (v := ?va2) rfl (by kernel_rfl) (by kernel_rfl) (by kernel_rfl) (by kernel_rfl) (fun _ _ _ h => h) (Or.inl ⟨by rfl, ?ya2⟩) hS ?ra2
  case ya2 => (intro W hSw; go_simp; try with_reducible rfl)
  try simp only [Act.put, List.setIfInBounds_toArray, List.set_cons_zero, List.set_cons_succ]
  refine wpAnyG_takeL (i := 3) (oi := _) (v := ?va3) rfl (by kernel_rfl) (by kernel_rfl) (by kernel_rfl) (by kernel_rfl) (fun _ _ _ h => h) (Or.inl ⟨by rfl, ?ya3⟩) hS ?ra3
  case ya3 => (intro W hSw; obtain ⟨y1, y2⟩ := hSw; go_simp; try with_reducible rfl)
  try simp only [Act.put, List.setIfInBounds_toArray, List.set_cons_zero, List.set_cons_succ]
  refine wpAnyG_onlyL (i := 4) (o := _) (by kernel_rfl) rfl (fun K hK => ?_)
  go_simp
  refine (HV.out _ (H.out.1.old (Keeps.refl _ _).drew)).mono ?_
  rintro e w2 ⟨rfl, hR2, k2⟩
  have R := Lib.hid (show Bad w B rb bb w2 from ⟨hR2, (H.out.2.then (Keeps.refl (fun _ => False) w1).drew (fun _ _ f => f.elim)).trans k2⟩)
  clear hR2 k2
  go_wp2_with fail
  exact ⟨rfl, rfl, R.out⟩

theorem pEvent_eq (l : List UInt8) : pEvent l = (pText 16 l).bind fun x => (pList 8 pAt x.2).map fun y => ((x.1, y.1), y.2) := rfl

/-- an event was read -/
def EvPost (w : World) (B rb bb : Nat) (res : Option ((ByteArray × List At) × List UInt8)) (e : Ending) (w' : World) : Prop :=
 match res with
 | some x => (∃ p n c, e = .returned (.agg #[.string x.1.1, .slice p n c]) ∧ OwnsA w' w.heap.size (.slice p n c) x.1.2) ∧ Rd w' B rb bb x.2 ∧ RK rb w w'
 | none => e = .panicked fault ∧ Bad w B rb bb w'

set_option maxRecDepth 100000 in
set_option maxHeartbeats 1000000 in
theorem cevent_any (B rb bb : Nat) (l : List UInt8) (w : World) (h : Rd w B rb bb l) :
  Calls Tryz.prog 74 #[rdV rb] w (EvPost w B rb bb (pEvent l)) := by
 rw [pEvent_eq]
 have hrb := h.lt
 have hbase := h.base
 obtain ⟨W0, hW0⟩ : ∃ W0, (w.alloc (.cells #[.pointer (some ⟨rb, 0, none⟩)] 98)).alloc (.cells #[.string ⟨#[]⟩, .slice none 0 0] 37) = W0 := ⟨_, rfl⟩
 have k0 : Old w W0 := by rw [← hW0]; exact ((Keeps.refl _ _).alloc _).alloc _
 have hb := two_blocks w (.cells #[.pointer (some ⟨rb, 0, none⟩)] 98) (.cells #[.string ⟨#[]⟩, .slice none 0 0] 37)
 rw [hW0] at hb
 have kk : RK rb w W0 := k0.weaken (fun _ _ f => f.elim)
 have hR0 := h.old k0
 have HB := Lib.hid hb
 have HK := Lib.hid kk
 have f0 := (blk1 hb.1).1
 cases ht : pText 16 l with
 | none =>
  have HT := Lib.hid (ctext_no B rb bb 16 l W0 hR0 (by decide) ht)
  simp only [Option.bind_none]
  clear hb kk h k0 hR0 ht
  go_enter Tryz.func74, Tryz.ntmps74
  go_wp2_with fail
  refine HT.out.mono ?_
  rintro e w1 ⟨rfl, hR1, k1⟩
  have R := Lib.hid (show Bad w B rb bb w1 from ⟨hR1, HK.out.trans k1⟩)
  clear hR1 k1
  go_wp2_with fail
  exact ⟨rfl, rfl, R.out⟩
 | some x =>
  obtain ⟨key, r1⟩ := x
  have HT := Lib.hid (ctext_yes B rb bb 16 key l r1 W0 hR0 (by decide) ht)
  simp only [Option.bind_some]
  obtain ⟨res, hres⟩ : ∃ res, pList 8 pAt r1 = res := ⟨_, rfl⟩
  rw [hres]
  have HRES := Lib.hid hres
  clear hb kk h k0 hR0 ht hres
  go_enter Tryz.func74, Tryz.ntmps74
  go_wp2_with fail
  refine HT.out.mono ?_
  rintro e w1 ⟨rfl, h1, h2⟩
  have b0 := (h2.block _ (lt_of_heap HB.out.1) (by omega)).trans HB.out.1
  have b1 := (h2.block _ (lt_of_heap HB.out.2) (by omega)).trans HB.out.2
  have hk1 := HK.out.trans h2
  have f1 := (blk1 b0).1
  have hlt0 := lt_of_heap b0
  have hlt1 := lt_of_heap b1
  have hrb1 := h1.lt
  obtain ⟨W1, hW1⟩ : ∃ W1, w1.alloc (.cells #[.string key, .slice none 0 0] 37) = W1 := ⟨_, rfl⟩
  have o1 : Old w1 W1 := by rw [← hW1]; exact (Keeps.refl _ _).alloc _
  have b2 : W1.heap[w1.heap.size]? = some (.cells #[.string key, .slice none 0 0] 37 (0, 0)) := by rw [← hW1]; exact heap_alloc_new _ _
  have b0' := (o1.block _ hlt0 (fun f => f)).trans b0
  have inv : EvInv w1 B rb bb w.heap.size w1.heap.size key [] r1 W1 := ⟨h1.old o1, b0', ⟨_, b2, OwnsR.nil _ _⟩, o1.weaken (fun _ _ f => f.elim)⟩
  have hB1 : B ≤ w1.heap.size := h1.base
  have T := times_any B rb bb 8 99 #[.pointer (some ⟨w.heap.size, 0, none⟩), .pointer (some ⟨w1.heap.size, 0, none⟩)] pAt (EvInv w1 B rb bb w.heap.size w1.heap.size key) (Bad w1 B rb bb) [] r1 W1
   (by decide) (fun args W => by simp [go_sem, callFunc, Tryz.func99]; rfl) (fun _ _ _ h => h.1) (fun s l l' W W' h k r => h.rk hrb1 (by omega) hlt0 (Nat.le_refl _) k r) (fun _ _ _ h => h.bad)
   (fun s l x r W h hs hp => cev1_yes B rb bb _ _ key s x l r w1 W hB1 hrb1 (by omega) hlt0 (Nat.le_refl _) h (by simpa using hs) hp)
   (fun s l W h hp => cev1_no B rb bb _ _ key s l w1 W hB1 hrb1 (by omega) hlt0 (Nat.le_refl _) h hp) inv
  have T' : Calls Tryz.prog 98 #[rdV rb, .int .u64 (8 : Nat), .func (.func 99) #[] #[.pointer (some ⟨w.heap.size, 0, none⟩), .pointer (some ⟨w1.heap.size, 0, none⟩)]] W1 (TPost (EvInv w1 B rb bb w.heap.size w1.heap.size key) (Bad w1 B rb bb) res) := by rw [← HRES.out]; exact T
  have HT2 := Lib.hid T'
  have G := Lib.hid (And.intro hk1 b1)
  have HW1 := Lib.hid hW1
  clear h1 h2 b0 b1 hk1 o1 b2 b0' inv T T' hW1 HT
  go_wp2_with fail
  rw [HW1.out]
  refine HT2.out.mono ?_
  intro e w2 ht
  clear HRES HT2
  rcases res with _ | ⟨es, r⟩
  ·obtain ⟨rfl, ht⟩ : e = .panicked fault ∧ Bad w1 B rb bb w2 := ht
   have R := Lib.hid (show Bad w B rb bb w2 from ⟨ht.1, G.out.1.trans ht.2⟩)
   clear ht
   go_wp2_with fail
   exact ⟨rfl, rfl, R.out⟩
  ·obtain ⟨rfl, hR2, _, ⟨v, hv, ho⟩, k2⟩ : e = .returned (.tuple #[]) ∧ EvInv w1 B rb bb w.heap.size w1.heap.size key es r w2 := ht
   obtain ⟨p', n', c', rfl⟩ : ∃ p n c, v = .slice p n c := by obtain ⟨p, c, h, _⟩ := (ho.sees (fun _ => rfl) (by decide)).len; exact ⟨p, _, c, h⟩
   have c1 := (k2.block _ hlt1 (by omega)).trans G.out.2
   have g1 := blk2 c1
   have g2 := blk2 hv
   have H := Lib.hid (And.intro hR2 (And.intro ho (G.out.1.trans k2)))
   clear hR2 hv ho k2 c1
   go_wp2_with fail
   refine bodyPost_ret (v := .agg #[.string key, .slice p' n' c']) (by simp [results, Tryz.results74, go_sem, g1]) rfl ⟨⟨p', n', c', rfl, ?_⟩, rd_close H.out.1 H.out.2.2 hbase hrb ?_⟩
   ·refine (H.out.2.1.mono (Nat.le_trans (Nat.le_of_lt hlt0) (Nat.le_succ _))).keeps (S := fun k => k ≤ w1.heap.size) ?_ (fun b hb e => by have := (H.out.2.1.block b hb).1; omega)
    repeat (first | exact Keeps.refl _ _ | refine Keeps.setCell ?_ (fun _ => by dsimp only; omega) _)
   ·repeat (first | exact Keeps.refl _ _ | refine Keeps.setCell ?_ (fun _ => by dsimp only; omega) _)
end Go.Proofs.YtfnanbadbmmicaaGreatDoor

namespace Go.Proofs.YtfnanbadbmmicaaGreatDoor
open Go.RowKit

def valL (v : Val) : List Value := [.int .i64 v.kind, .int .i64 v.num, .string v.str, .bool v.is]
abbrev SeesV (w : World) (v : Value) (l : List Val) : Prop := SeesR w 4 valL v l
/-- a constraint: sv is where its set lies -/
structure Con where
 name : ByteArray
 op : Int
 val : Val
 sv : Value
 set : List Val
def Con.cells (c : Con) : List Value := [.string c.name, .int .i64 c.op, .int .i64 c.val.kind, .int .i64 c.val.num, .string c.val.str, .bool c.val.is, c.sv]
/-- has a value nothing? -/
def bare (v : Val) : Bool := (v.kind == 0) && ((v.num == 0) && (v.str.toList.isEmpty && !v.is))
/-- may a constraint be? -/
def conOk (c : Con) : Bool :=
 decide (1 ≤ c.name.size) && decide (c.name.size ≤ 16) &&
 if c.op = 1 then bare c.val && decide (c.set.length = 0)
 else if 2 ≤ c.op ∧ c.op ≤ 7 then c.val.ok && decide (c.set.length = 0)
 else if c.op = 8 then c.val.ok && (decide (c.val.kind = 2) && decide (c.set.length = 0))
 else if c.op = 9 then bare c.val && (decide (1 ≤ c.set.length) && (decide (c.set.length ≤ 6) && c.set.all Val.ok))
 else false

theorem eql_bare (v : Val) (W : World) : (binOp .eql 100 (.agg v.cells) (.agg #[.int .i64 0, .int .i64 0, .string ⟨#[]⟩, .bool false])).run Tryz.prog W = .ok (.bool (bare v)) W := by
 obtain ⟨k, n, s, b⟩ := v
 unfold Val.cells bare
 rw [eql_val, empty_eq]
 cases b <;> simp

end Go.Proofs.YtfnanbadbmmicaaGreatDoor

namespace Go.Proofs.YtfnanbadbmmicaaGreatDoor
open Go.RowKit

/-- a constraint's set lies in w -/
def Con.fine (w : World) (x : Con) : Prop := SeesV w x.sv x.set ∧ (x.name.size ≤ 9223372036854775807 ∧ (-9223372036854775808 ≤ x.val.num ∧ x.val.num ≤ 9223372036854775807)) ∧ (∀ v ∈ x.set, -9223372036854775808 ≤ v.num ∧ v.num ≤ 9223372036854775807) ∧ (0 < x.set.length → ∀ b, x.sv.ownBlock = some b → b < w.heap.size)
theorem Con.fine.old {w w' : World} {x : Con} (h : x.fine w) (hk : Old w w') : x.fine w' := ⟨h.1.old hk, h.2.1, h.2.2.1, fun h0 b hb => Nat.lt_of_lt_of_le (h.2.2.2 h0 b hb) hk.size⟩
/-- may a predicate be? -/
def predOk (l : List Con) : Bool := decide (l.length ≤ 6) && l.all conOk
/-- the constraints l lie at v -/
def Cons (w : World) (v : Value) (l : List Con) : Prop := SeesR w 7 Con.cells v l ∧ ∀ x ∈ l, x.fine w
theorem Cons.old {w w' : World} {v : Value} {l : List Con} (h : Cons w v l) (hk : Old w w') : Cons w' v l := ⟨h.1.old hk, fun x hx => (h.2 x hx).old hk⟩
end Go.Proofs.YtfnanbadbmmicaaGreatDoor

namespace Go.Proofs.YtfnanbadbmmicaaGreatDoor
open Go.RowKit

section
variable {α : Type} {w w' : World} {B : Nat} {E : TypeId} {k : Nat} {enc : α → List Value} {nv : α → Value} {fine : α → World → Prop} {v : Value} {l : List α}
/-- rows of the call's own (from block B on), each with a slice of its own that is fine -/
def OwnN (w : World) (B : Nat) (E : TypeId) (k : Nat) (enc : α → List Value) (nv : α → Value) (fine : α → World → Prop) (v : Value) (l : List α) : Prop :=
 OwnsR w B E k enc v l ∧ ∀ x ∈ l, fine x w ∧ ∀ b, (nv x).ownBlock = some b → B ≤ b ∧ b < w.heap.size ∧ v.ownBlock ≠ some b
theorem OwnN.nil (w : World) (B : Nat) : OwnN w B E k enc nv fine (.slice none 0 0) [] := ⟨OwnsR.nil w B, fun _ h => by cases h⟩
/-- what fine says hangs on the slice's block alone -/
def FineK (nv : α → Value) (fine : α → World → Prop) : Prop := ∀ (S : Nat → Prop) (x : α) (w w' : World), fine x w → Keeps S w w' → (∀ b, (nv x).ownBlock = some b → ¬ S b) → fine x w'
theorem OwnN.keeps {S : Nat → Prop} (hf : FineK nv fine) (h : OwnN w B E k enc nv fine v l) (hk : Keeps S w w') (hS : ∀ b, B ≤ b → b < w.heap.size → ¬ S b) : OwnN w' B E k enc nv fine v l :=
 ⟨h.1.keeps hk (fun b hb => hS b (h.1.block b hb).1 (h.1.block b hb).2), fun x hx =>
  ⟨hf S x w w' (h.2 x hx).1 hk (fun b hb => hS b ((h.2 x hx).2 b hb).1 ((h.2 x hx).2 b hb).2.1), fun b hb =>
   ⟨((h.2 x hx).2 b hb).1, Nat.lt_of_lt_of_le ((h.2 x hx).2 b hb).2.1 hk.size, ((h.2 x hx).2 b hb).2.2⟩⟩⟩
/-- an element more, behind an append -/
theorem OwnN.snoc {v' : Value} {y : α} (hf : FineK nv fine) (h : OwnN w B E k enc nv fine v l) (hy : fine y w) (hb : ∀ b, (nv y).ownBlock = some b → B ≤ b ∧ b < w.heap.size ∧ v.ownBlock ≠ some b)
  (ho : OwnsR w' B E k enc v' (l ++ [y])) (hg : w.grownBy w' v.ownBlock) (hv : v'.ownBlock = v.ownBlock ∨ v'.ownBlock = some w.heap.size) : OwnN w' B E k enc nv fine v' (l ++ [y]) := by
 have hk : Keeps (fun b => v.ownBlock = some b) w w' := (Keeps.refl _ w).grown hg (fun b hb _ => hb)
 have key : ∀ x, fine x w → (∀ b, (nv x).ownBlock = some b → B ≤ b ∧ b < w.heap.size ∧ v.ownBlock ≠ some b) → fine x w' ∧ ∀ b, (nv x).ownBlock = some b → B ≤ b ∧ b < w'.heap.size ∧ v'.ownBlock ≠ some b := by
  intro x hx hxb
  refine ⟨hf _ x w w' hx hk (fun b hb e => (hxb b hb).2.2 e), fun b hb => ⟨(hxb b hb).1, Nat.lt_of_lt_of_le (hxb b hb).2.1 hk.size, fun e => ?_⟩⟩
  rcases hv with hv | hv
  ·exact (hxb b hb).2.2 (hv ▸ e)
  ·rw [hv] at e
   have : b = w.heap.size := by simpa using e.symm
   have := (hxb b hb).2.1
   omega
 refine ⟨ho, fun x hx => ?_⟩
 rcases List.mem_append.1 hx with hx | hx
 ·exact key x (h.2 x hx).1 (h.2 x hx).2
 ·obtain rfl : x = y := by simpa using hx
  exact key x hy hb
end

/-- a constraint, without where its set lies -/
structure PCon where
 name : ByteArray
 op : Int
 val : Val
 set : List Val
def Con.plain (c : Con) : PCon := ⟨c.name, c.op, c.val, c.set⟩
abbrev noVal : Val := ⟨0, 0, ⟨#[]⟩, false⟩
def pCon (l : List UInt8) : Option (PCon × List UInt8) := (pText 16 l).bind fun x => (pNum 9 x.2).bind fun y =>
 if y.1 = 1 then some (⟨x.1, 1, noVal, []⟩, y.2)
 else if y.1 = 9 then (pList 6 pVal y.2).map fun z => (⟨x.1, 9, noVal, z.1⟩, z.2)
 else (pVal y.2).map fun z => (⟨x.1, y.1, z.1, []⟩, z.2)
abbrev OwnsV (w : World) (B : Nat) (v : Value) (l : List Val) : Prop := OwnsR w B 100 4 valL v l
theorem Tryz.infoVal : (Tryz.prog.info? 100).map (fun i => (i.zero, i.size, i.bytes)) = some (some (.agg #[.int .i64 0, .int .i64 0, .string ⟨#[]⟩, .bool false]), 4, 40) := by kernel_rfl
theorem blk7 {w : World} {b : Nat} {t : TypeId} {a0 a1 a2 a3 a4 a5 a6 : Value} (h : w.heap[b]? = some (.cells #[a0, a1, a2, a3, a4, a5, a6] t (0, 0))) :
  (w.cell? ⟨b, 0, none⟩ = some a0 ∧ w.cell? ⟨b, 1, none⟩ = some a1 ∧ w.cell? ⟨b, 2, none⟩ = some a2 ∧ w.cell? ⟨b, 3, none⟩ = some a3 ∧ w.cell? ⟨b, 4, none⟩ = some a4 ∧ w.cell? ⟨b, 5, none⟩ = some a5 ∧ w.cell? ⟨b, 6, none⟩ = some a6) ∧
  (w.frozen? ⟨b, 0, none⟩ = false ∧ w.frozen? ⟨b, 1, none⟩ = false ∧ w.frozen? ⟨b, 2, none⟩ = false ∧ w.frozen? ⟨b, 3, none⟩ = false ∧ w.frozen? ⟨b, 4, none⟩ = false ∧ w.frozen? ⟨b, 5, none⟩ = false ∧ w.frozen? ⟨b, 6, none⟩ = false) := by simp [World.cell?, World.frozen?, h]
end Go.Proofs.YtfnanbadbmmicaaGreatDoor

namespace Go.Proofs.YtfnanbadbmmicaaGreatDoor
open Go.RowKit

theorem set7 {w : World} {b : Nat} {t : TypeId} {x0 x1 x2 x3 x4 x5 x6 a0 a1 a2 a3 a4 a5 a6 : Value} (h : w.heap[b]? = some (.cells #[x0, x1, x2, x3, x4, x5, x6] t (0, 0))) :
  (((((((w.setCell ⟨b, 0, none⟩ a0).setCell ⟨b, 1, none⟩ a1).setCell ⟨b, 2, none⟩ a2).setCell ⟨b, 3, none⟩ a3).setCell ⟨b, 4, none⟩ a4).setCell ⟨b, 5, none⟩ a5).setCell ⟨b, 6, none⟩ a6).heap[b]? = some (.cells #[a0, a1, a2, a3, a4, a5, a6] t (0, 0)) := by
 have h0 := heap_setCell_same w b 0 _ _ a0 h
 have h1 := heap_setCell_same _ b 1 _ _ a1 h0
 have h2 := heap_setCell_same _ b 2 _ _ a2 h1
 have h3 := heap_setCell_same _ b 3 _ _ a3 h2
 have h4 := heap_setCell_same _ b 4 _ _ a4 h3
 have h5 := heap_setCell_same _ b 5 _ _ a5 h4
 have h6 := heap_setCell_same _ b 6 _ _ a6 h5
 simpa using h6
/-- a constraint was read -/
def ConPost (w : World) (B rb bb : Nat) (res : Option (PCon × List UInt8)) (e : Ending) (w' : World) : Prop :=
 match res with
 | some x => (∃ p n c, e = .returned (.agg #[.string x.1.name, .int .i64 x.1.op, .int .i64 x.1.val.kind, .int .i64 x.1.val.num, .string x.1.val.str, .bool x.1.val.is, .slice p n c]) ∧ OwnsV w' w.heap.size (.slice p n c) x.1.set) ∧ Rd w' B rb bb x.2 ∧ RK rb w w'
 | none => e = .panicked fault ∧ Bad w B rb bb w'

end Go.Proofs.YtfnanbadbmmicaaGreatDoor

namespace Go.Proofs.YtfnanbadbmmicaaGreatDoor
open Go.RowKit

def ConF (x : Con) (W : World) : Prop := SeesV W x.sv x.set
theorem conF_k : FineK Con.sv ConF := fun _ _ _ _ h hk hS => SeesR.keeps h hk hS
def pPred (l : List UInt8) : Option (List PCon × List UInt8) := pList 6 pCon l
theorem OwnN.mono {α : Type} {w : World} {B B' : Nat} {E : TypeId} {k : Nat} {enc : α → List Value} {nv : α → Value} {fine : α → World → Prop} {v : Value} {l : List α} (h : OwnN w B E k enc nv fine v l) (hb : B' ≤ B) : OwnN w B' E k enc nv fine v l :=
 ⟨h.1.mono hb, fun x hx => ⟨(h.2 x hx).1, fun b hb' => ⟨Nat.le_trans hb ((h.2 x hx).2 b hb').1, ((h.2 x hx).2 b hb').2⟩⟩⟩

end Go.Proofs.YtfnanbadbmmicaaGreatDoor
