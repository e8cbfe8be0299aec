/- DERIVED. index: what lies in memory; New, none; an event, a row is laid in. · DERIVED. index: New, none. -/
import Derived.Test.YtehmlaplodjenaaGreatZTopDual13
import Derived.Test.YtehmlaplodjenaaGreatZTopDual14
import Derived.Test.YtehmlaplodjenaaGreatYpTopDual02
import Derived.Test.YtehmlaplodjenaaGreatYpTopDual03
import Derived.Test.YtehmlaplodjenaaGreatZTopDual19
import Derived.Deep.DeepCutAuto
import Derived.WideLaws
import Derived.Test.YtehmlaplodjenaaGreatZTopDual12
import Derived.Test.YtehmlaplodjenaaGreatYpTopDual01
import Derived.Test.YtehmlaplodjenaaGreatZTopDual06
set_option maxRecDepth 100000
namespace Go.Proofs.YtehmlaplodjenaaGreat
section
open Go.RowKit
theorem eql_nil_D (T E : TypeId) (h : Tryz.prog.underlying T = some (.slice E)) (w : World) (a : Option Addr) (n c : Nat) : (binOp .eql T (.slice a n c) (.slice none 0 0)).run Tryz.prog w = .ok (.bool a.isNone) w :=
 Lib.run_eql_slice_nil w _ _ a n c 0 0 h
theorem own_newD (w : World) {k n c : Nat} (hk : (Value.slice (some ⟨w.heap.size, 0, none⟩) n c).ownBlock = some k) (hlt : k < w.heap.size) : False := by
 have e : w.heap.size = k := by simpa [Value.ownBlock] using hk
 omega
theorem OwnsR.litD {α : Type} {E : TypeId} {k : Nat} {enc : α → List Value} (w : World) : OwnsR (w.alloc (.cells #[] E)) w.heap.size E k enc (.slice (some ⟨w.heap.size, 0, none⟩) 0 0) [] :=
 World.ownsRow_lit (base := w.heap.size) (e := E) (size := k) w #[] 0 (Nat.le_refl _) (Nat.zero_le _) (by simp)
theorem clone_at (v : Value) (l : List At) (w : World) (h : SeesR w 5 At.cells v l) (h1 : ∀ x ∈ l, ∀ c ∈ At.cells x, c.oneCell' = true) (hl : l.length ≤ 100000) :
  Calls Tryz.prog 16 #[v] w fun e w' => ∃ p n c, e = .returned (.slice p n c) ∧ OwnsR w' w.heap.size 63 5 At.cells (.slice p n c) l ∧ Old w w' := by
 obtain ⟨p, c, rfl, g1, g2, g3, g4⟩ := id h
 have hnil := eql_nil_D 31 63 Tryz.underlying31
 cases p with
 | none =>
  obtain rfl := g3 rfl
  obtain rfl : l = [] := List.eq_nil_of_length_eq_zero (by omega)
  clear g3 g4 h
  go_enter Tryz.func16, Tryz.ntmps16
  go_wp2_with fail
  go_ret
  exact ⟨_, _, _, rfl, OwnsR.nil _ _, Keeps.refl _ _⟩
 | some ad =>
  clear g3 g4
  have hlen : ∀ x : At, (At.cells x).length = 5 := fun _ => rfl
  have HX := Lib.hid (And.intro (h.alloc (.cells #[] 63)) h1)
  clear h1 h
  go_enter Tryz.func16, Tryz.ntmps16
  go_wp2_with (at_builtin; refine wpList_append_rows rfl _ _ 31 rfl w.heap.size 63 5 56 At.cells _ Tryz.underlying31 Tryz.infoAttr rfl (by decide) _ [] rfl (OwnsR.litD w) _ l rfl HX.out.1 (fun x _ => hlen x) HX.out.2 (by unfold maxLen; simp; omega) (by simp; omega) (by simp) ?_; intro v' w1 ho hg hb)
  obtain ⟨p', c', hv', _⟩ := (ho.sees hlen (by decide)).len
  subst hv'
  have hk := ((Keeps.refl (fun _ => False) w).alloc (.cells #[] 63)).grown hg (fun k hk hlt => own_newD w hk hlt)
  have H := Lib.hid (And.intro ho hk)
  clear ho hk hg hb
  go_ret
  exact ⟨_, _, _, rfl, by simpa using H.out.1, H.out.2⟩
abbrev EvT := ByteArray × Value × List At
def evV (t : EvT) : Value := .agg #[.string t.1, t.2.1]
def upd (G : ByteArray → Value × List En) (s : ByteArray) (r : Value × List En) : ByteArray → Value × List En := fun t => if t.toList = s.toList then r else G t
theorem toList_inj {a b : ByteArray} (h : a.toList = b.toList) : a = b := by rw [← mk_toList a, ← mk_toList b, h]
structure IxS (w0 : World) (xb eb nb K : Nat) (ev : Nat → Option EvT) (G : ByteArray → Value × List En) (W : World) : Prop where
 old : Old w0 W
 x : W.heap[xb]? = some (.cells #[.map (some eb), .map (some nb)] 52 (0, 0))
 xlo : w0.heap.size ≤ xb
 elo : w0.heap.size ≤ eb
 nlo : w0.heap.size ≤ nb
 ne : eb ≠ nb
 e : ∃ n f, MapF (.int .u64) W eb n f ∧ (∀ k : Nat, f (.int .u64 (k : Int)) = (ev k).map evV) ∧ ∀ z : Int, z < 0 → f (.int .u64 z) = none
 n : ∃ n f, MapF .string W nb n f ∧ ∀ s : ByteArray, (f (.string s)).getD (.slice none 0 0) = (G s).1
 rows : ∀ s, OwnsR W w0.heap.size 66 5 En.cells (G s).1 (G s).2
 len : ∀ s, (G s).2.length ≤ K
 apart : ∀ s t b, s ≠ t → (G s).1.ownBlock = some b → (G t).1.ownBlock ≠ some b
 evs : ∀ k t, ev k = some t → OwnsR W w0.heap.size 63 5 At.cells t.2.1 t.2.2
section
variable {w0 W W' : World} {xb eb nb K : Nat} {ev : Nat → Option EvT} {G : ByteArray → Value × List En}
theorem MapF.heap {d : TypeDesc} {w : World} {m n : Nat} {f : Value → Option Value} (h : MapF d w m n f) : ∃ es clk, w.heap[m]? = some (.map es clk) := by
 obtain ⟨es, clk, h1, _⟩ := h
 exact ⟨es, clk, h1⟩
theorem IxS.to (h : IxS w0 xb eb nb K ev G W) (k : Old W W') : IxS w0 xb eb nb K ev G W' := by
 obtain ⟨n1, f1, m1, e1⟩ := h.e
 obtain ⟨n2, f2, m2, e2⟩ := h.n
 exact ⟨h.old.trans k, (k.block _ (lt_of_heap h.x) (fun f => f)).trans h.x, h.xlo, h.elo, h.nlo, h.ne, ⟨n1, f1, m1.old k, e1⟩, ⟨n2, f2, m2.old k, e2⟩, fun s => (h.rows s).old k, h.len, h.apart, fun k' t ht => (h.evs k' t ht).old k⟩
theorem IxS.xe (h : IxS w0 xb eb nb K ev G W) : xb ≠ eb ∧ xb ≠ nb := by
 obtain ⟨_, _, m1, _⟩ := h.e
 obtain ⟨_, _, m2, _⟩ := h.n
 obtain ⟨_, _, h1⟩ := m1.heap
 obtain ⟨_, _, h2⟩ := m2.heap
 constructor
 ·rintro rfl
  rw [h.x] at h1
  cases h1
 ·rintro rfl
  rw [h.x] at h2
  cases h2
theorem own_map {α : Type} {w : World} {B k m : Nat} {E : TypeId} {enc : α → List Value} {v : Value} {l : List α} {es : Array MapEntry} {clk : Nat} (h : OwnsR w B E k enc v l) (hm : w.heap[m]? = some (.map es clk)) (b : Nat) (hb : v.ownBlock = some b) : b ≠ m := by
 rintro rfl
 exact h.neO hm (fun _ _ => by simp) hb
theorem IxS.putEv (h : IxS w0 xb eb nb K ev G W) (n : Nat) (t : EvT) (ho : OwnsR W w0.heap.size 63 5 At.cells t.2.1 t.2.2) :
  ∃ W', (Instr.mapUpdate 49 (.map (some eb)) (.int .u64 (n : Int)) (evV t)).run Tryz.prog W = .ok () W' ∧ IxS w0 xb eb nb K (fun k => if k = n then some t else ev k) G W' ∧ Keeps (fun i => i = eb) W W' := by
 obtain ⟨n1, f1, m1, e1⟩ := h.e
 obtain ⟨n2, f2, m2, e2⟩ := h.n
 obtain ⟨es1, c1, he1⟩ := m1.heap
 obtain ⟨W', hrun, hk, _, hput⟩ := m1.put (P := Tryz.prog) (k := .int .u64 (n : Int)) Tryz.underlying49 Tryz.underlying30 rfl (evV t)
 have xe := h.xe
 refine ⟨W', hrun, ⟨h.old.then hk (fun i hi e => by have := h.elo; omega), (hk.block _ (lt_of_heap h.x) xe.1).trans h.x, h.xlo, h.elo, h.nlo, h.ne, ?_, ⟨n2, f2, m2.keeps hk (fun e => h.ne e.symm), e2⟩, fun s => (h.rows s).keeps hk (fun b hb e => own_map (h.rows s) he1 b hb e), h.len, h.apart, fun k' t' ht => ?_⟩, hk⟩
 ·classical
  refine ⟨n1 + 1, fun v => if v = .int .u64 (n : Int) then some (evV t) else f1 v, hput _ ⟨by simp, fun k' _ hne => by simp [hne]⟩, fun k' => ?_, fun z hz => ?_⟩
  ·by_cases hkn : k' = n
   ·subst hkn
    simp
   ·have : ¬ (Value.int .u64 (k' : Int) = Value.int .u64 (n : Int)) := by
     intro e
     simp only [Value.int.injEq, true_and] at e
     omega
    simp only [if_neg this, if_neg hkn]
    exact e1.1 k'
  ·have : ¬ (Value.int .u64 z = Value.int .u64 (n : Int)) := by
    intro e
    simp only [Value.int.injEq, true_and] at e
    omega
   simp only [if_neg this]
   exact e1.2 z hz
 ·split at ht
  ·simp only [Option.some.injEq] at ht
   subst ht
   exact ho.keeps hk (fun b hb e => own_map ho he1 b hb e)
  ·exact (h.evs k' t' ht).keeps hk (fun b hb e => own_map (h.evs k' t' ht) he1 b hb e)
theorem IxS.putRow (h : IxS w0 xb eb nb K ev G W) {W1 : World} (s : ByteArray) (v' : Value) (L' : List En) (hk1 : Keeps (fun k => (G s).1.ownBlock = some k) W W1) (ho : OwnsR W1 w0.heap.size 66 5 En.cells v' L') (hlen : L'.length ≤ K + 1) (hb : v'.ownBlock = (G s).1.ownBlock ∨ ∃ b, v'.ownBlock = some b ∧ W.heap.size ≤ b) :
  ∃ W', (Instr.mapUpdate 50 (.map (some nb)) (.string s) v').run Tryz.prog W1 = .ok () W' ∧ IxS w0 xb eb nb (K + 1) ev (upd G s (v', L')) W' ∧ Keeps (fun i => i = nb) W1 W' := by
 obtain ⟨n1, f1, m1, e1⟩ := h.e
 obtain ⟨n2, f2, m2, e2⟩ := h.n
 obtain ⟨es1, c1, he1⟩ := m1.heap
 obtain ⟨es2, c2, he2⟩ := m2.heap
 have hme : ¬ (G s).1.ownBlock = some eb := fun e => own_map (h.rows s) he1 _ e rfl
 have hmn : ¬ (G s).1.ownBlock = some nb := fun e => own_map (h.rows s) he2 _ e rfl
 have hmx : ¬ (G s).1.ownBlock = some xb := (h.rows s).neE h.x (by decide)
 have m2' := m2.keeps hk1 hmn
 obtain ⟨W', hrun, hk, _, hput⟩ := m2'.put (P := Tryz.prog) (k := .string s) Tryz.underlying50 Tryz.underlying9 trivial v'
 have xe := h.xe
 have he2' := (hk1.block _ (lt_of_heap he2) hmn).trans he2
 have xw := (hk1.block _ (lt_of_heap h.x) hmx).trans h.x
 refine ⟨W', hrun, ⟨(h.old.then hk1 (fun i hi e => by have := ((h.rows s).block i e).1; omega)).then hk (fun i hi e => by have := h.nlo; omega), (hk.block _ (lt_of_heap xw) xe.2).trans xw, h.xlo, h.elo, h.nlo, h.ne,
  ⟨n1, f1, (m1.keeps hk1 hme).keeps hk h.ne, e1⟩, ?_, fun t => ?_, fun t => ?_, fun t u b htu h1 h2 => ?_, fun k' t' ht => ?_⟩, hk⟩
 ·classical
  refine ⟨n2 + 1, fun v => if v = .string s then some v' else f2 v, hput _ ⟨by simp, fun k' _ hne => by simp [hne]⟩, fun t => ?_⟩
  unfold upd
  by_cases hts : t.toList = s.toList
  ·have := toList_inj hts
   subst this
   simp
  ·have : ¬ (Value.string t = Value.string s) := by
    intro e
    simp only [Value.string.injEq] at e
    exact hts (by rw [e])
   simp only [if_neg this, if_neg hts]
   exact e2 t
 ·unfold upd
  split
  ·exact ho.keeps hk (fun b hb e => own_map ho he2' b hb e)
  ·next hts =>
   have hne : s ≠ t := fun e => hts (by rw [e])
   have r1 := (h.rows t).keeps hk1 (fun b hb e => h.apart s t b hne e hb)
   exact r1.keeps hk (fun b hb e => own_map r1 he2' b hb e)
 ·unfold upd
  split
  ·exact hlen
  ·have := h.len t; omega
 ·unfold upd at h1 h2
  split at h1
  ·next e1 =>
   split at h2
   ·next e2 => exact htu (toList_inj (e1.trans e2.symm))
   ·next e2 =>
    have hne : s ≠ u := fun e => e2 (by rw [e])
    rcases hb with hb | ⟨c, hc, hlo⟩
    ·rw [hb] at h1
     exact h.apart s u b hne h1 h2
    ·have hbc : c = b := by
      have h1' : v'.ownBlock = some b := h1
      rw [hc] at h1'
      exact Option.some.inj h1'
     have := ((h.rows u).block b h2).2
     omega
  ·next e1 =>
   split at h2
   ·next e2 =>
    have hne : s ≠ t := fun e => e1 (by rw [e])
    rcases hb with hb | ⟨c, hc, hlo⟩
    ·have h2' : v'.ownBlock = some b := h2
     rw [hb] at h2'
     exact h.apart s t b hne h2' h1
    ·have hbc : c = b := by
      have h2' : v'.ownBlock = some b := h2
      rw [hc] at h2'
      exact Option.some.inj h2'
     have := ((h.rows t).block b h1).2
     omega
   ·exact h.apart t u b htu h1 h2
 ·have r1 := (h.evs k' t' ht).keeps hk1 (fun b hb e => by
   rcases (h.evs k' t' ht).2 with ⟨hv, _⟩ | ⟨g, cap, cur, hv, _, hg, _⟩
   ·rw [hv] at hb; simp [Value.ownBlock] at hb
   ·rw [hv] at hb
    simp only [Value.ownBlock, Option.some.injEq] at hb
    subst hb
    exact (h.rows s).neE hg (by decide) e)
  exact r1.keeps hk (fun b hb e => own_map r1 he2' b hb e)
end
end
section
open Go.RowKit
theorem inew_any (w : World) : Calls Tryz.prog 4 #[] w fun e w' => ∃ xb eb nb, e = .returned (.pointer (some ⟨xb, 0, none⟩)) ∧ IxS w xb eb nb 0 (fun _ => none) (fun _ => (.slice none 0 0, [])) w' := by
 obtain ⟨W3, hW3⟩ : ∃ W3, ((w.alloc (.map #[] 0)).alloc (.map #[] 0)).alloc (.cells #[.map (some w.heap.size), .map (some (w.heap.size + 1))] 52) = W3 := ⟨_, rfl⟩
 have o3 : Old w W3 := by rw [← hW3]; exact (((Keeps.refl _ _).alloc _).alloc _).alloc _
 obtain ⟨b1, b2, b3, _⟩ := three_blocks w (.map #[] 0) (.map #[] 0) (.cells #[.map (some w.heap.size), .map (some (w.heap.size + 1))] 52)
 rw [hW3] at b1 b2 b3
 have m1 : MapF (.int .u64) W3 w.heap.size 0 (fun _ => none) := ⟨#[], 0, b1, MapKept.stamped_empty 0, by simp, by simp, fun k v _ => by simp⟩
 have m2 : MapF .string W3 (w.heap.size + 1) 0 (fun _ => none) := ⟨#[], 0, b2, MapKept.stamped_empty 0, by simp, by simp, fun k v _ => by simp⟩
 have Z := Lib.hid (show IxS w (w.heap.size + 1 + 1) w.heap.size (w.heap.size + 1) 0 (fun _ => none) (fun _ => (.slice none 0 0, [])) W3 from
  ⟨o3, b3, by omega, by omega, by omega, by omega, ⟨0, _, m1, fun _ => rfl, fun _ _ => rfl⟩, ⟨0, _, m2, fun _ => rfl⟩, fun _ => OwnsR.nil _ _, fun _ => Nat.le_refl _, fun s t b _ h => by simp [Value.ownBlock] at h, fun k t h => by simp at h⟩)
 clear o3 b1 b2 b3 m1 m2
 have k1 : ∀ W, (Instr.makeMap 49 none).run Tryz.prog W = .ok (.map (some W.heap.size)) (W.alloc (.map #[] 0)) := fun W => by kernel_rfl
 have k2 : ∀ W, (Instr.makeMap 50 none).run Tryz.prog W = .ok (.map (some W.heap.size)) (W.alloc (.map #[] 0)) := fun W => by kernel_rfl
 go_enter Tryz.func4, Tryz.ntmps4
 go_wp2_with fail
 try rw [hW3]
 go_ret
 exact ⟨_, _, _, rfl, Z.out⟩
theorem eql_map49 (m : Nat) (w : World) : (binOp .eql 49 (.map (some m)) (.map none)).run Tryz.prog w = .ok (.bool false) w := by
 simp only [binOp]
 simp [Op.equal, Op.maxDepth, run_equalIn_map_nil w 9999 49 30 33 (some m) Tryz.underlying49]
theorem inone_any (xb eb : Nat) (nv : Value) (w : World) (h : w.heap[xb]? = some (.cells #[.map (some eb), nv] 52 (0, 0))) :
  Calls Tryz.prog 15 #[.pointer (some ⟨xb, 0, none⟩)] w fun e w' => e = .returned (.bool false) ∧ w' = w := by
 have x0 : w.cell? ⟨xb, 0, none⟩ = some (.map (some eb)) := by simp [World.cell?, h]
 have em := eql_map49 eb
 clear h
 go_enter Tryz.func15, Tryz.ntmps15
 go_wp2_with fail
 go_ret
 exact ⟨rfl, rfl⟩
end
section
open Go.RowKit
theorem orderZ_le (a b : En) : orderZ a b ≤ 0 ↔ valCmp a.v b.v ≤ 0 ∧ (valCmp a.v b.v = 0 → a.n ≤ b.n) := by
 unfold orderZ
 split
 ·next h =>
  rw [cmpZ_le]
  constructor
  ·intro h1; exact ⟨by omega, fun _ => by omega⟩
  ·rintro ⟨_, h2⟩; have := h2 h; omega
 ·next h =>
  constructor
  ·intro h1; exact ⟨h1, fun h2 => absurd h2 h⟩
  ·exact fun h1 => h1.1
theorem valCmp_zero_symm {a b : Val} (h : valCmp a b = 0) : valCmp b a = 0 := by
 have h1 := (valCmp_ge a b).1 (by omega)
 have h2 := (valCmp_ge b a).2 (by omega)
 omega
theorem orderZ_ge (a b : En) : 0 ≤ orderZ a b ↔ orderZ b a ≤ 0 := by
 rw [orderZ_le]
 unfold orderZ
 split
 ·next h =>
  have h' := valCmp_zero_symm h
  have hz : ∀ x y : Int, 0 ≤ cmpZ x y ↔ y ≤ x := fun a b => by unfold cmpZ; split <;> (try split) <;> omega
  rw [hz]
  constructor
  ·intro h1; exact ⟨by omega, fun _ => by omega⟩
  ·rintro ⟨_, h2⟩; have := h2 h'; omega
 ·next h =>
  rw [valCmp_ge]
  constructor
  ·intro h1; exact ⟨h1, fun h2 => absurd (valCmp_zero_symm h2) h⟩
  ·exact fun h1 => h1.1
theorem orderZ_trans {a b c : En} (h1 : orderZ a b ≤ 0) (h2 : orderZ b c ≤ 0) : orderZ a c ≤ 0 := by
 rw [orderZ_le] at h1 h2 ⊢
 refine ⟨valCmp_trans h1.1 h2.1, fun h => ?_⟩
 have hca := (valCmp_ge a.v c.v).1 (by omega)
 have hba : valCmp b.v a.v ≤ 0 := valCmp_trans h2.1 hca
 have hcb : valCmp c.v b.v ≤ 0 := valCmp_trans hca h1.1
 have e1 : valCmp a.v b.v = 0 := by have := (valCmp_ge a.v b.v).2 hba; omega
 have e2 : valCmp b.v c.v = 0 := by have := (valCmp_ge b.v c.v).2 hcb; omega
 have := h1.2 e1
 have := h2.2 e2
 omega
def SortedO (L : List En) : Prop := L.Pairwise fun x y => orderZ x y ≤ 0
theorem SortedO.val {L : List En} (h : SortedO L) : Sorted5 L := List.Pairwise.imp (fun hab => ((orderZ_le _ _).1 hab).1) h
theorem orderZ_self (a : En) : orderZ a a ≤ 0 := by rw [orderZ_le, valCmp_self]; exact ⟨by omega, fun _ => Nat.le_refl _⟩
theorem SortedO.mono {L : List En} (h : SortedO L) (t : En) : Mono (fun x => decide (orderZ x t < 0)) L := by
 intro i j x y hij hx hy hq
 have hxy : orderZ x y ≤ 0 := by
  by_cases e : i = j
  ·subst e
   rw [hx] at hy
   simp only [Option.some.injEq] at hy
   subst hy
   exact orderZ_self _
  ·obtain ⟨hi, rfl⟩ := List.getElem?_eq_some_iff.1 hx
   obtain ⟨hj, rfl⟩ := List.getElem?_eq_some_iff.1 hy
   exact List.pairwise_iff_getElem.1 h i j hi hj (by omega)
 have hq' : orderZ y t < 0 := of_decide_eq_true hq
 show decide (orderZ x t < 0) = true
 rw [decide_eq_true_eq]
 refine Int.not_le.1 fun hge => ?_
 have h1 := (orderZ_ge x t).1 hge
 have h2 := orderZ_trans h1 hxy
 have h3 := (orderZ_ge y t).2 h2
 omega
theorem SortedO.put {L : List En} (h : SortedO L) {t : En} {i : Nat} (hs : SplitS (fun x => decide (orderZ x t < 0)) L i) : SortedO (L.take i ++ [t] ++ L.drop i) := by
 have h0 := h
 unfold SortedO at h ⊢
 rw [← List.take_append_drop i L, List.pairwise_append] at h
 have hb : ∀ x ∈ L.take i, orderZ x t ≤ 0 := by
  intro x hx
  obtain ⟨j, hj, rfl⟩ := List.mem_iff_getElem.1 hx
  rw [List.length_take] at hj
  have := hs.2.1 j _ (by omega) (List.getElem?_eq_getElem (show j < L.length by omega))
  have := of_decide_eq_true this
  rw [List.getElem_take]
  omega
 have ha : ∀ x ∈ L.drop i, orderZ t x ≤ 0 := by
  intro x hx
  obtain ⟨j, hj, rfl⟩ := List.mem_iff_getElem.1 hx
  rw [List.length_drop] at hj
  have h1 := hs.2.2 (i + j) _ (by omega) (List.getElem?_eq_getElem (show i + j < L.length by omega))
  rw [List.getElem_drop]
  exact (orderZ_ge _ _).1 (by have := of_decide_eq_false h1; omega)
 rw [List.pairwise_append, List.pairwise_append]
 refine ⟨⟨h.1, List.pairwise_singleton _ _, fun x hx y hy => ?_⟩, h.2.1, fun x hx y hy => ?_⟩
 ·rw [List.mem_singleton] at hy
  subst hy
  exact hb x hx
 ·rcases List.mem_append.1 hx with hx | hx
  ·exact h.2.2 x hx y hy
  ·rw [List.mem_singleton] at hx
   subst hx
   exact ha y hy
theorem mem_put {L : List En} {t x : En} {i : Nat} : x ∈ L.take i ++ [t] ++ L.drop i ↔ x ∈ L ∨ x = t := by
 have h : x ∈ L ↔ x ∈ L.take i ∨ x ∈ L.drop i := by
  rw [← List.mem_append, List.take_append_drop]
 rw [List.mem_append, List.mem_append, List.mem_singleton, h]
 constructor
 ·rintro ((h | h) | h)
  ·exact .inl (.inl h)
  ·exact .inr h
  ·exact .inl (.inr h)
 ·rintro ((h | h) | h)
  ·exact .inl (.inl h)
  ·exact .inr h
  ·exact .inl (.inr h)
theorem put5 {w : World} {b : Nat} {t : TypeId} {a0 a1 a2 a3 a4 : Value} (h : w.heap[b]? = some (.cells #[a0, a1, a2, a3, a4] t (0, 0))) (v0 v1 v2 v3 v4 : Value) :
  (((((w.setCell ⟨b, 0, none⟩ v0).setCell ⟨b, 1, none⟩ v1).setCell ⟨b, 2, none⟩ v2).setCell ⟨b, 3, none⟩ v3).setCell ⟨b, 4, none⟩ v4).heap[b]? = some (.cells #[v0, v1, v2, v3, v4] t (0, 0)) := by
 have e1 := heap_setCell_same w b 0 _ _ v0 h
 have e2 := heap_setCell_same _ b 1 _ _ v1 e1
 have e3 := heap_setCell_same _ b 2 _ _ v2 e2
 have e4 := heap_setCell_same _ b 3 _ _ v3 e3
 have e5 := heap_setCell_same _ b 4 _ _ v4 e4
 simpa using e5
theorem keep55 (w : World) (b : Nat) (v0 v1 v2 v3 v4 : Value) : Keeps (fun k => k = b) w (((((w.setCell ⟨b, 0, none⟩ v0).setCell ⟨b, 1, none⟩ v1).setCell ⟨b, 2, none⟩ v2).setCell ⟨b, 3, none⟩ v3).setCell ⟨b, 4, none⟩ v4) := (keep44 w b v0 v1 v2 v3).trans (keepV _ _ _ _)
end
section
open Go.RowKit
def IsT (W : World) (t : TypeId) (i : Nat) : Prop := ∃ cs fr, W.heap[i]? = some (.cells cs t fr)
abbrev Frm (a b : Nat) (t : TypeId) (W W' : World) : Prop := Keeps (fun i => i = a ∨ i = b ∨ IsT W t i) W W'
theorem Frm.own {α : Type} {Wa W : World} {a b B k i : Nat} {t : TypeId} {enc : α → List Value} {v : Value} {l : List α} (K : Frm a b t Wa W) (ho : OwnsR W B t k enc v l) (hi : i < Wa.heap.size) (e : v.ownBlock = some i) : i = a ∨ i = b ∨ IsT Wa t i := by
 classical
 by_cases h : i = a ∨ i = b ∨ IsT Wa t i
 ·exact h
 ·have h1 := K.block i hi h
  rcases ho.2 with ⟨rfl, _⟩ | ⟨g, cap, cur, rfl, _, hg, _⟩
  ·simp [Value.ownBlock] at e
  ·simp only [Value.ownBlock, Option.some.injEq] at e
   subst e
   rw [h1] at hg
   exact .inr (.inr ⟨_, _, hg⟩)
end
end Go.Proofs.YtehmlaplodjenaaGreat
