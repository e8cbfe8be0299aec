/- DERIVED. The contracts of codec.MayItem, the writer of items, codec.PutItem. · DERIVED. The contract of codec.MayPage. · DERIVED. codec.MayPage, whole. · DERIVED. codec.PutPage. · DERIVED. Plain: items, constraints, predicates, gaps, pages: what is read, laid, is what went, and back. -/
import Derived.Test.YtfnanbadbmmicaaGreatDoorY09
namespace Go.Proofs.YtfnanbadbmmicaaGreatDoor
open Go.RowKit

/-- may an item be? -/
def itOk (x : PIt) : Bool := decide (1 ≤ x.n) && (decide (x.n ≤ 1099511627776) && (decide (x.time ≤ 1099511627776) && evOk x.key x.es))
def itForm (x : PIt) : List UInt8 := form x.n ++ form x.time ++ evForm x.key x.es
theorem itForm_le {x : PIt} (h : itOk x = true) (hf : Fits x.es) : (itForm x).length ≤ 820 := by
 unfold itOk at h
 simp at h
 have h1 : (form x.n).length ≤ 10 := form_le10 (by omega)
 have h2 : (form x.time).length ≤ 10 := form_le10 (by omega)
 have h3 := evForm_le h.2.2.2 hf
 unfold itForm
 simp only [List.length_append]
 omega

set_option maxRecDepth 100000 in
theorem may_item_any (x : It) (w : World) (h : x.fine w) : Calls Tryz.prog 22 #[.agg x.cells.toArray] w fun e w' => e = .returned (.bool (itOk x.plain)) ∧ Old w w' := by
 have M := fun W (k : Old w W) => ev_may_any x.key x.av x.es W (h.1.old k)
 obtain ⟨n, t, key, av, es⟩ := x
 obtain ⟨p, c, e9, _, _⟩ := h.1.len
 simp only at e9
 subst e9
 unfold It.cells itOk It.plain
 simp only at M ⊢
 have hn := h.2.2.2.1
 have ht := h.2.2.2.2
 simp only at hn ht
 generalize hW0 : w.alloc (.cells #[.int .u64 n, .int .u64 t, .string key, .slice p es.length c] 39) = W0
 have k0 : Old w W0 := by rw [← hW0]; exact (Keeps.refl _ _).alloc _
 have hb0 : W0.heap[w.heap.size]? = some (.cells #[.int .u64 n, .int .u64 t, .string key, .slice p es.length c] 39 (0, 0)) := by rw [← hW0]; exact heap_alloc_new _ _
 have g := (blk4 hb0).1
 have C := Lib.hid (M W0 k0)
 have H := Lib.hid k0
 clear M k0 hb0 h
 by_cases a : 1 ≤ n
 ·have a1 : decide (1 ≤ n) = true := decide_eq_true a
  have a2 : decide ((1 : Int) ≤ (n : Int)) = true := by simp; omega
  by_cases b : n ≤ 1099511627776
  ·have b1 : decide (n ≤ 1099511627776) = true := decide_eq_true b
   have b2 : decide ((n : Int) ≤ 1099511627776) = true := by simp; omega
   by_cases d : t ≤ 1099511627776
   ·have d1 : decide (t ≤ 1099511627776) = true := decide_eq_true d
    have d2 : decide ((t : Int) ≤ 1099511627776) = true := by simp; omega
    go_enter Tryz.func22, Tryz.ntmps22
    go_wp2_with fail
    refine C.out.mono ?_
    rintro e w1 ⟨rfl, hk⟩
    have K := Lib.hid (H.out.trans hk)
    clear hk
    go_wp2_with fail
    go_ret
    exact ⟨by first | rfl | simp [a, b, d], K.out⟩
   ·have d1 : decide (t ≤ 1099511627776) = false := decide_eq_false d
    have d2 : decide ((t : Int) ≤ 1099511627776) = false := by simp; omega
    go_enter Tryz.func22, Tryz.ntmps22
    go_wp2_with fail
    go_ret
    exact ⟨by first | rfl | simp, H.out⟩
  ·have b1 : decide (n ≤ 1099511627776) = false := decide_eq_false b
   have b2 : decide ((n : Int) ≤ 1099511627776) = false := by simp; omega
   go_enter Tryz.func22, Tryz.ntmps22
   go_wp2_with fail
   go_ret
   exact ⟨by first | rfl | simp, H.out⟩
 ·have a1 : decide (1 ≤ n) = false := decide_eq_false a
  have a2 : decide ((1 : Int) ≤ (n : Int)) = false := by simp; omega
  go_enter Tryz.func22, Tryz.ntmps22
  go_wp2_with fail
  go_ret
  exact ⟨by first | rfl | simp, H.out⟩

set_option maxRecDepth 100000 in
theorem witem_any (B pw : Nat) (l : List UInt8) (x : It) (w : World) (h : Wr w B pw l) (hl : l.length ≤ 999980000) (hf : x.fine w) (hne : 0 < x.es.length → ∀ k, x.av.ownBlock = some k → k ≠ pw) (hok : itOk x.plain = true) :
  Calls Tryz.prog 24 #[.pointer (some ⟨pw, 0, none⟩), .agg x.cells.toArray] w (Laid w B pw (l ++ itForm x.plain)) := by
 obtain ⟨n, t, key, av, es⟩ := x
 obtain ⟨p, c, e9, _, _⟩ := hf.1.len
 simp only at e9
 subst e9
 unfold itOk It.plain at hok
 simp only [Bool.and_eq_true, decide_eq_true_eq] at hok
 unfold It.cells itForm It.plain
 simp only at hne ⊢
 have hw := h.lt
 have hnb : pw ≠ w.heap.size := by omega
 generalize hW0 : w.alloc (.cells #[.int .u64 n, .int .u64 t, .string key, .slice p es.length c] 39) = W0
 have k0 : Old w W0 := by rw [← hW0]; exact (Keeps.refl _ _).alloc _
 have hb0 : W0.heap[w.heap.size]? = some (.cells #[.int .u64 n, .int .u64 t, .string key, .slice p es.length c] 39 (0, 0)) := by rw [← hW0]; exact heap_alloc_new _ _
 have g := (blk4 hb0).1
 have f1 : (form n).length ≤ 10 := form_le10 (by omega)
 have f2 : (form t).length ≤ 10 := form_le10 (by omega)
 have C := Lib.hid (wnum_any B pw l n W0 (h.old k0) (by omega) (by omega))
 have H := Lib.hid (And.intro k0 (And.intro hb0 (And.intro hf (And.intro hne hok))))
 have ht2 : t < 18446744073709551616 := by omega
 clear k0 hb0 h hf hne hok
 go_enter Tryz.func24, Tryz.ntmps24
 go_wp2_with fail
 refine C.out.mono ?_
 rintro e w1 ⟨rfl, hwr1, hk1⟩
 have m1 := (hk1.block _ (lt_of_heap H.out.2.1) (fun f => hnb f.symm)).trans H.out.2.1
 have g1 := (blk4 m1).1
 have C2 := Lib.hid (wnum_any B pw _ t w1 hwr1 (by simp only [List.length_append]; omega) ht2)
 have K := Lib.hid (And.intro ((H.out.1.weaken (fun _ _ f => f.elim) : Keeps (fun k => k = pw) w W0).trans hk1) m1)
 clear hwr1 hk1 m1 g C
 go_wp2_with fail
 refine C2.out.mono ?_
 rintro e w2 ⟨rfl, hwr2, hk2⟩
 have m2 := (hk2.block _ (lt_of_heap K.out.2) (fun f => hnb f.symm)).trans K.out.2
 have g2 := (blk4 m2).1
 have K2 := K.out.1.trans hk2
 have hsee : SeesA w2 (.slice p es.length c) es := by
  obtain ⟨hs, hlt, _⟩ := H.out.2.2.1
  rcases Nat.eq_zero_or_pos es.length with h0 | h0
  ·have h00 := List.eq_nil_of_length_eq_zero h0
   obtain ⟨p3, c3', e3, q1, q2, q3, q4⟩ := hs
   exact ⟨p3, c3', e3, q1, q2, q3, fun ad had => ⟨(q4 ad had).1, fun j x hj => by rw [h00] at hj; cases hj⟩⟩
  ·exact SeesR.keeps hs K2 (fun b' hb' => H.out.2.2.2.1 h0 b' hb')
 have C3 := Lib.hid (wevent_any B pw _ key _ es w2 hwr2 (by simp only [List.length_append]; omega) hsee H.out.2.2.2.1 H.out.2.2.2.2.2.2.2 H.out.2.2.1.2.2.1)
 have R2 := Lib.hid K2
 clear hwr2 hk2 m2 K2 hsee C2 g1
 go_wp2_with fail
 refine C3.out.mono ?_
 rintro e w3 ⟨rfl, hwr3, hk3⟩
 have R := Lib.hid (And.intro hwr3 (R2.out.trans hk3))
 clear hwr3 hk3
 go_wp2_with fail
 go_end0
 exact ⟨rfl, by simpa using R.out.1, R.out.2⟩
theorem put_item1_any (B pw eb : Nat) (l : List UInt8) (x : It) (w : World) (h : Wr w B pw l) (hl : l.length ≤ 999980000)
  (hb : w.heap[eb]? = some (.cells x.cells.toArray 39 (0, 0))) (hf : x.fine w) (hne : 0 < x.es.length → ∀ k, x.av.ownBlock = some k → k ≠ pw) (hok : itOk x.plain = true) :
  Calls Tryz.prog 23 #[.pointer (some ⟨pw, 0, none⟩), .pointer (some ⟨eb, 0, none⟩)] w (Laid w B pw (l ++ itForm x.plain)) := by
 have C := Lib.hid (witem_any B pw l x w h hl hf hne hok)
 obtain ⟨n, t, key, av, es⟩ := x
 have g := (blk4 hb).1
 clear h hf hne hb
 unfold It.cells at C
 go_enter Tryz.func23, Tryz.ntmps23
 go_wp2_with fail
 refine C.out.mono ?_
 rintro e w1 ⟨rfl, hwr, hk⟩
 have K := Lib.hid (And.intro hwr hk)
 clear hwr hk
 go_wp2_with fail
 go_end0
 exact ⟨rfl, K.out.1, K.out.2⟩
theorem put_item_any (x : It) (w : World) (hf : x.fine w) (hok : itOk x.plain = true) :
  Calls Tryz.prog 7 #[.agg x.cells.toArray] w (Formed w (itForm x.plain)) := by
 have hmf : ∀ (fn : Fn) (first cap : Array Value) (w : World), (Instr.makeFunc fn first cap).run Tryz.prog w = .ok (.func fn first cap) w := fun _ _ _ _ => rfl
 have M := fun W k => may_item_any x W (It.fine.old hf k)
 rw [hok] at M
 have P1 := Lib.hid (fun B pw eb l W => put_item1_any B pw eb l x W)
 obtain ⟨n, t, key, av, es⟩ := x
 obtain ⟨p, c, e9, _, _⟩ := hf.1.len
 simp only at e9
 subst e9
 unfold It.cells at M P1 ⊢
 simp only at M P1 ⊢
 generalize hW0 : w.alloc (.cells #[.int .u64 n, .int .u64 t, .string key, .slice p es.length c] 39) = W0
 have k0 : Old w W0 := by rw [← hW0]; exact (Keeps.refl _ _).alloc _
 have hb0 : W0.heap[w.heap.size]? = some (.cells #[.int .u64 n, .int .u64 t, .string key, .slice p es.length c] 39 (0, 0)) := by rw [← hW0]; exact heap_alloc_new _ _
 have g := (blk4 hb0).1
 have C := Lib.hid (M W0 k0)
 have H := Lib.hid (And.intro k0 (And.intro hb0 hf))
 clear M k0 hb0 hf
 go_enter Tryz.func7, Tryz.ntmps7
 go_wp2_with fail
 refine C.out.mono ?_
 rintro e w1 ⟨rfl, hk1⟩
 obtain ⟨k0, hb0, hf⟩ := H.out
 have F := Lib.hid (form_yes_any 23 w.heap.size (itForm (It.plain ⟨n, t, key, .slice p es.length c, es⟩)) w1 (fun args W => by simp [go_sem, callFunc, Tryz.func23]; rfl) (fun W pw hO hp hwr => by
  have hx := P1.out w1.heap.size pw w.heap.size [] W hwr (by simp) ((hO.block _ (by have := k0.size; have := hk1.size; have := lt_of_heap hb0; omega) (fun f => f)).trans ((hk1.block _ (lt_of_heap hb0) (fun f => f)).trans hb0))
   (It.fine.old hf ((k0.trans hk1).trans hO)) (fun h0 k hk => by have := hf.2.1 h0 k hk; have := k0.size; have := hk1.size; omega) hok
  simpa using hx))
 have K := Lib.hid (k0.trans hk1)
 clear k0 hb0 hf hk1
 go_wp2_with fail
 refine F.out.mono ?_
 rintro e w2 ⟨p2, n2, c2, rfl, ho2, hk2⟩
 have R := Lib.hid (And.intro ho2 hk2)
 clear ho2 hk2
 go_wp2_with fail
 go_ret2
 exact ⟨p2, n2, c2, rfl, R.out.1.mono K.out.size, K.out.trans R.out.2⟩
theorem put_item_no_any (x : It) (w : World) (hf : x.fine w) (hok : itOk x.plain = false) :
  Calls Tryz.prog 7 #[.agg x.cells.toArray] w fun e w' => e = .returned (.tuple #[.slice none 0 0, .int .i64 30]) ∧ Old w w' := by
 have hmf : ∀ (fn : Fn) (first cap : Array Value) (w : World), (Instr.makeFunc fn first cap).run Tryz.prog w = .ok (.func fn first cap) w := fun _ _ _ _ => rfl
 have M := fun W k => may_item_any x W (It.fine.old hf k)
 rw [hok] at M
 obtain ⟨n, t, key, av, es⟩ := x
 obtain ⟨p, c, e9, _, _⟩ := hf.1.len
 simp only at e9
 subst e9
 unfold It.cells at M ⊢
 simp only at M ⊢
 generalize hW0 : w.alloc (.cells #[.int .u64 n, .int .u64 t, .string key, .slice p es.length c] 39) = W0
 have k0 : Old w W0 := by rw [← hW0]; exact (Keeps.refl _ _).alloc _
 have hb0 : W0.heap[w.heap.size]? = some (.cells #[.int .u64 n, .int .u64 t, .string key, .slice p es.length c] 39 (0, 0)) := by rw [← hW0]; exact heap_alloc_new _ _
 have g := (blk4 hb0).1
 have C := Lib.hid (M W0 k0)
 have H := Lib.hid k0
 clear M k0 hb0 hf
 go_enter Tryz.func7, Tryz.ntmps7
 go_wp2_with fail
 refine C.out.mono ?_
 rintro e w1 ⟨rfl, hk1⟩
 have K := Lib.hid (H.out.trans hk1)
 clear hk1
 go_wp2_with fail
 refine (form_no_any _ _).mono ?_
 rintro e w2 ⟨rfl, rfl⟩
 go_wp2_with fail
 go_ret2
 exact ⟨rfl, K.out⟩
end Go.Proofs.YtfnanbadbmmicaaGreatDoor

namespace Go.Proofs.YtfnanbadbmmicaaGreatDoor
open Go.RowKit

/-- an item outside a gap -/
def outG (g : PGap) (x : It) : Bool := !(decide (g.1 ≤ x.n) && decide (x.n ≤ g.2))
/-- a page: iv, gv are where its items, its gaps lie -/
structure Pg where
 fr : Nat
 en : Nat
 iv : Value
 its : List It
 gv : Value
 gs : List PGap
 last : Bool
def Pg.cells (x : Pg) : List Value := [.int .u64 x.fr, .int .u64 x.en, x.iv, x.gv, .bool x.last]
def Pg.fine (w : World) (x : Pg) : Prop := (SeesR w 4 It.cells x.iv x.its ∧ (∀ y ∈ x.its, y.fine w) ∧ SeesR w 2 gapL x.gv x.gs) ∧ (∀ g ∈ x.gs, g.1 < 18446744073709551616 ∧ g.2 < 18446744073709551616) ∧ (x.fr < 18446744073709551616 ∧ x.en < 18446744073709551616) ∧
 ((0 < x.its.length → ∀ b, x.iv.ownBlock = some b → b < w.heap.size) ∧ (0 < x.gs.length → ∀ b, x.gv.ownBlock = some b → b < w.heap.size))
def itsOk (en : Nat) : Nat → List PIt → Bool
 | _, [] => true
 | a, x :: r => itOk x && (decide (a ≤ x.n) && (decide (x.n < en) && itsOk en (x.n + 1) r))
def gapsOk (en : Nat) (its : List PIt) : Nat → List PGap → Bool
 | _, [] => true
 | a, g :: r => decide (a ≤ g.1) && (decide (g.1 ≤ g.2) && (decide (g.2 < en) && ((its.all fun x => !(decide (g.1 ≤ x.n) && decide (x.n ≤ g.2))) && gapsOk en its (g.2 + 1) r)))
def topOk (x : PPg) : Bool := decide (1 ≤ x.fr) && (decide (x.fr ≤ x.en) && (decide (x.en ≤ 1099511627777) && (decide (x.items.length ≤ 4) && decide (x.gaps.length ≤ 16))))
/-- may a page be? -/
def pgOk (x : PPg) : Bool := topOk x && (itsOk x.en x.fr x.items && gapsOk x.en x.items x.fr x.gaps)
def Pg.plain (x : Pg) : PPg := ⟨x.fr, x.en, x.its.map It.plain, x.gs, x.last⟩
theorem Pg.fine.old {w w' : World} {x : Pg} (h : x.fine w) (hk : Old w w') : x.fine w' :=
 ⟨⟨h.1.1.old hk, fun y hy => It.fine.old (h.1.2.1 y hy) hk, h.1.2.2.old hk⟩, h.2.1, h.2.2.1, fun h0 b hb => Nat.lt_of_lt_of_le (h.2.2.2.1 h0 b hb) hk.size, fun h0 b hb => Nat.lt_of_lt_of_le (h.2.2.2.2 h0 b hb) hk.size⟩
theorem all_plain (g : PGap) (l : List It) : ((l.map It.plain).all fun x => !(decide (g.1 ≤ x.n) && decide (x.n ≤ g.2))) = l.all (outG g) := by
 rw [List.all_map]; rfl

end Go.Proofs.YtfnanbadbmmicaaGreatDoor

namespace Go.Proofs.YtfnanbadbmmicaaGreatDoor
open Go.RowKit

end Go.Proofs.YtfnanbadbmmicaaGreatDoor

namespace Go.Proofs.YtfnanbadbmmicaaGreatDoor
open Go.RowKit

def gapForm (g : PGap) : List UInt8 := form g.1 ++ form g.2
def pageForm (x : PPg) : List UInt8 := form x.fr ++ form x.en ++ form x.items.length ++ x.items.flatMap itForm ++ form x.gaps.length ++ x.gaps.flatMap gapForm ++ form (if x.last then 1 else 0)
theorem itsOk_mem (en : Nat) : ∀ (l : List PIt) (a : Nat), itsOk en a l = true → ∀ x ∈ l, itOk x = true
 | [], _, _, x, hx => by cases hx
 | y :: r, a, h, x, hx => by
  rw [itsOk] at h
  simp only [Bool.and_eq_true] at h
  rcases List.mem_cons.1 hx with rfl | hx
  ·exact h.1
  ·exact itsOk_mem en r _ h.2.2.2 x hx
theorem its_le {l : List It} (h : ∀ x ∈ l, itOk x.plain = true) (hf : ∀ x ∈ l, Fits x.es) : ((l.map It.plain).flatMap itForm).length ≤ 820 * l.length := by
 induction l with
 | nil => simp
 | cons x r ih =>
  have h1 := itForm_le (h x (by simp)) (hf x (by simp))
  have h2 := ih (fun y hy => h y (by simp [hy])) (fun y hy => hf y (by simp [hy]))
  simp only [List.map_cons, List.flatMap_cons, List.length_append, List.length_cons]
  omega
theorem gaps_le {l : List PGap} (h : ∀ g ∈ l, g.1 < 18446744073709551616 ∧ g.2 < 18446744073709551616) : (l.flatMap gapForm).length ≤ 20 * l.length := by
 induction l with
 | nil => simp
 | cons x r ih =>
  have h1 : (form x.1).length ≤ 10 := form_le10 (h x (by simp)).1
  have h2 : (form x.2).length ≤ 10 := form_le10 (h x (by simp)).2
  have h3 := ih (fun y hy => h y (by simp [hy]))
  simp only [List.flatMap_cons, List.length_append, List.length_cons, gapForm]
  omega

end Go.Proofs.YtfnanbadbmmicaaGreatDoor

namespace Go.Proofs.YtfnanbadbmmicaaGreatDoor

theorem pItem_inv {l r : List UInt8} {x : PIt} (h : pItem l = some (x, r)) : Fits x.es ∧ x.n ≤ 1099511627776 ∧ x.time ≤ 1099511627776 ∧ (itOk x = true → l = itForm x ++ r) := by
 unfold pItem at h
 cases ha : pNum 1099511627776 l with
 | none => rw [ha] at h; cases h
 | some a =>
  rw [ha] at h
  simp only [Option.bind_some] at h
  cases hb : pNum 1099511627776 a.2 with
  | none => rw [hb] at h; cases h
  | some b =>
   rw [hb] at h
   simp only [Option.bind_some] at h
   cases hc : pEvent b.2 with
   | none => rw [hc] at h; cases h
   | some c =>
    obtain ⟨⟨key, es⟩, r'⟩ := c
    rw [hc] at h
    simp only [Option.map_some, Option.some.injEq, Prod.mk.injEq] at h
    obtain ⟨rfl, rfl⟩ := h
    obtain ⟨e1, l1, _⟩ := pNum_inv ha
    obtain ⟨e2, l2, _⟩ := pNum_inv hb
    obtain ⟨_, _, f, e3⟩ := pEvent_inv hc
    refine ⟨f, l1, l2, fun hok => ?_⟩
    unfold itOk at hok
    simp only [Bool.and_eq_true, decide_eq_true_eq] at hok
    rw [e1, e2, e3 hok.2.2.2]
    simp [itForm]
theorem pItem_fwd {x : PIt} (r : List UInt8) (hok : itOk x = true) (hf : Fits x.es) : pItem (itForm x ++ r) = some (x, r) := by
 unfold itOk at hok
 simp only [Bool.and_eq_true, decide_eq_true_eq] at hok
 unfold pItem itForm
 rw [show form x.n ++ form x.time ++ evForm x.key x.es ++ r = form x.n ++ (form x.time ++ (evForm x.key x.es ++ r)) from by simp, pNum_fwd _ hok.2.1 (by omega)]
 simp only [Option.bind_some]
 rw [pNum_fwd _ hok.2.2.1 (by omega)]
 simp only [Option.bind_some]
 rw [pEvent_fwd r hok.2.2.2 hf]
 rfl

/-- may a constraint be, wherever its set lies -/
def conOkP (c : PCon) : Bool := conOk ⟨c.name, c.op, c.val, .nilIface, c.set⟩
theorem conOk_plain (x : Con) : conOk x = conOkP x.plain := rfl
def okP (l : List PCon) : Bool := decide (l.length ≤ 6) && l.all conOkP
theorem predOk_plain (l : List Con) : predOk l = okP (l.map Con.plain) := by
 unfold predOk okP
 rw [List.length_map, List.all_map]
 rfl
/-- numbers within their kinds, names that fit -/
def ConG (c : PCon) : Prop := c.name.size ≤ 16 ∧ VFits c.val ∧ ∀ v ∈ c.set, VFits v
theorem vfits_none : VFits noVal := ⟨by simp, by simp⟩
theorem bare_eq {v : Val} (h : bare v = true) : v = noVal := by
 obtain ⟨k, n, s, b⟩ := v
 unfold bare at h
 simp only [Bool.and_eq_true, beq_iff_eq, Bool.not_eq_true'] at h
 obtain ⟨rfl, rfl, hs, rfl⟩ := h
 rw [empty_arr hs]
theorem pCon_inv {l r : List UInt8} {c : PCon} (h : pCon l = some (c, r)) : ConG c ∧ (conOkP c = true → l = conForm c ++ r) := by
 unfold pCon at h
 cases ha : pText 16 l with
 | none => rw [ha] at h; cases h
 | some a =>
  rw [ha] at h
  simp only [Option.bind_some] at h
  cases hb : pNum 9 a.2 with
  | none => rw [hb] at h; cases h
  | some b =>
   rw [hb] at h
   simp only [Option.bind_some] at h
   obtain ⟨e1, l1⟩ := pText_inv (by decide) ha
   obtain ⟨e2, l2, _⟩ := pNum_inv hb
   by_cases o1 : b.1 = 1
   ·rw [if_pos o1] at h
    simp only [Option.some.injEq, Prod.mk.injEq] at h
    obtain ⟨rfl, rfl⟩ := h
    refine ⟨⟨l1, vfits_none, fun v hv => by cases hv⟩, fun _ => ?_⟩
    rw [e1, e2, o1]; simp [conForm]
   ·rw [if_neg o1] at h
    by_cases o9 : b.1 = 9
    ·rw [if_pos o9] at h
     cases hc : pList 6 pVal b.2 with
     | none => rw [hc] at h; cases h
     | some c =>
      rw [hc] at h
      simp only [Option.map_some, Option.some.injEq, Prod.mk.injEq] at h
      obtain ⟨rfl, rfl⟩ := h
      obtain ⟨_, g2, g3⟩ := pList_inv (f := valForm) (ok := fun v => v.ok = true) (good := VFits) (fun l x r h => ⟨(pVal_inv h).1, (pVal_inv h).2.2.2.2⟩) hc
      refine ⟨⟨l1, vfits_none, g2⟩, fun hok => ?_⟩
      have hs := (conOk_parts hok).2.2.2.1 rfl
      rw [e1, e2, o9, g3 hs.2]; simp [conForm]
    ·rw [if_neg o9] at h
     cases hc : pVal b.2 with
     | none => rw [hc] at h; cases h
     | some c =>
      rw [hc] at h
      simp only [Option.map_some, Option.some.injEq, Prod.mk.injEq] at h
      obtain ⟨rfl, rfl⟩ := h
      obtain ⟨g1, _, _, _, g5⟩ := pVal_inv hc
      refine ⟨⟨l1, g1, fun v hv => by cases hv⟩, fun hok => ?_⟩
      have hv := (conOk_parts hok).2.2.2.2 (by simp; omega) (by simp; omega)
      have n1 : ¬ ((b.1 : Int) = 1) := by omega
      have n9 : ¬ ((b.1 : Int) = 9) := by omega
      rw [e1, e2, g5 hv]; simp [conForm, n1, n9]
theorem conOk_bare {x : Con} (h : conOk x = true) : ((x.op = 1 ∨ x.op = 9) → x.val = noVal) ∧ (x.op ≠ 9 → x.set = []) := by
 unfold conOk at h
 simp only [Bool.and_eq_true, decide_eq_true_eq] at h
 obtain ⟨_, h3⟩ := h
 by_cases o1 : x.op = 1
 ·rw [if_pos o1] at h3; simp at h3; exact ⟨fun _ => bare_eq h3.1, fun _ => h3.2⟩
 ·rw [if_neg o1] at h3
  by_cases o2 : 2 ≤ x.op ∧ x.op ≤ 7
  ·rw [if_pos o2] at h3; simp at h3; exact ⟨fun h => by omega, fun _ => h3.2⟩
  ·rw [if_neg o2] at h3
   by_cases o3 : x.op = 8
   ·rw [if_pos o3] at h3; simp at h3; exact ⟨fun h => by omega, fun _ => h3.2.2⟩
   ·rw [if_neg o3] at h3
    by_cases o4 : x.op = 9
    ·rw [if_pos o4] at h3; simp at h3; exact ⟨fun _ => bare_eq h3.1, fun h => absurd o4 h⟩
    ·rw [if_neg o4] at h3; cases h3
theorem pCon_fwd {c : PCon} (r : List UInt8) (hok : conOkP c = true) (hg : ConG c) : pCon (conForm c ++ r) = some (c, r) := by
 obtain ⟨nm, op, val, set⟩ := c
 obtain ⟨h1, h2, h3, h4, h5⟩ := conOk_parts hok
 obtain ⟨b1, b2⟩ := conOk_bare hok
 simp only at h1 h2 h3 h4 h5 b1 b2
 obtain ⟨q, rfl⟩ := Int.eq_ofNat_of_zero_le (show 0 ≤ op by omega)
 unfold pCon conForm
 simp only [Int.toNat_natCast]
 have ht := fun t => pText_fwd (most := 16) (s := nm) t h1 (by decide)
 by_cases o1 : q = 1
 ·obtain rfl := b1 (.inl (by omega))
  obtain rfl := b2 (by omega)
  rw [if_pos (by omega), List.append_nil, List.append_assoc, ht]
  simp only [Option.bind_some]
  rw [pNum_fwd _ (by omega) (by omega)]
  simp [o1]
 ·by_cases o9 : q = 9
  ·obtain rfl := b1 (.inr (by omega))
   obtain ⟨g1, g2⟩ := h4 (by omega)
   rw [if_neg (by omega), if_pos (by omega)]
   rw [show form nm.size ++ nm.toList ++ form q ++ (form set.length ++ set.flatMap valForm) ++ r = form nm.size ++ nm.toList ++ (form q ++ (form set.length ++ set.flatMap valForm ++ r)) from by simp, ht]
   simp only [Option.bind_some]
   rw [pNum_fwd _ (by omega) (by omega)]
   simp only [Option.bind_some]
   rw [if_neg o1, if_pos o9, pList_fwd set g1 (by omega) (fun v hv t => pVal_fwd t (g2 v hv) (hg.2.2 v hv))]
   simp [o9]
  ·obtain rfl := b2 (by omega)
   rw [if_neg (by omega), if_neg (by omega)]
   rw [show form nm.size ++ nm.toList ++ form q ++ valForm val ++ r = form nm.size ++ nm.toList ++ (form q ++ (valForm val ++ r)) from by simp, ht]
   simp only [Option.bind_some]
   rw [pNum_fwd _ (by omega) (by omega)]
   simp only [Option.bind_some]
   rw [if_neg o1, if_neg o9, pVal_fwd r (h5 (by omega) (by omega)) hg.2.1]
   rfl
theorem okP_parts {l : List PCon} (h : okP l = true) : l.length ≤ 6 ∧ ∀ c ∈ l, conOkP c = true := by
 unfold okP at h; simp at h; exact h
theorem pPred_inv {l r : List UInt8} {cs : List PCon} (h : pPred l = some (cs, r)) : (∀ c ∈ cs, ConG c) ∧ (okP cs = true → l = predForm cs ++ r) := by
 obtain ⟨_, g2, g3⟩ := pList_inv (f := conForm) (ok := fun c => conOkP c = true) (good := ConG) (fun l x r h => pCon_inv h) h
 exact ⟨g2, fun hok => by rw [g3 (okP_parts hok).2]; simp [predForm]⟩
theorem pPred_fwd {cs : List PCon} (r : List UInt8) (hok : okP cs = true) (hg : ∀ c ∈ cs, ConG c) : pPred (predForm cs ++ r) = some (cs, r) := by
 obtain ⟨h1, h2⟩ := okP_parts hok
 exact pList_fwd cs h1 (by omega) (fun c hc t => pCon_fwd t (h2 c hc) (hg c hc)) r

theorem pGap_inv {l r : List UInt8} {g : PGap} (h : pGap l = some (g, r)) : (g.1 ≤ 1099511627776 ∧ g.2 ≤ 1099511627776) ∧ l = gapForm g ++ r := by
 obtain ⟨l1, q1, q2⟩ := pGap_cases h
 obtain ⟨e1, h1, _⟩ := pNum_inv q1
 obtain ⟨e2, h2, _⟩ := pNum_inv q2
 exact ⟨⟨h1, h2⟩, by rw [e1, e2]; simp [gapForm]⟩
theorem pGap_fwd {g : PGap} (r : List UInt8) (h1 : g.1 ≤ 1099511627776) (h2 : g.2 ≤ 1099511627776) : pGap (gapForm g ++ r) = some (g, r) := by
 unfold pGap gapForm
 rw [List.append_assoc, pNum_fwd _ h1 (by omega)]
 simp only [Option.bind_some]
 rw [pNum_fwd _ h2 (by omega)]
 rfl
theorem pPage_inv {l r : List UInt8} {x : PPg} (h : pPage l = some (x, r)) : (x.fr ≤ 1099511627777 ∧ x.en ≤ 1099511627777) ∧ (∀ y ∈ x.items, Fits y.es ∧ y.n ≤ 1099511627776 ∧ y.time ≤ 1099511627776) ∧ (∀ g ∈ x.gaps, g.1 ≤ 1099511627776 ∧ g.2 ≤ 1099511627776) ∧ (pgOk x = true → l = pageForm x ++ r) := by
 unfold pPage at h
 cases ha : pNum 1099511627777 l with
 | none => rw [ha] at h; cases h
 | some a =>
  rw [ha] at h
  simp only [Option.bind_some] at h
  cases hb : pNum 1099511627777 a.2 with
  | none => rw [hb] at h; cases h
  | some b =>
   rw [hb] at h
   simp only [Option.bind_some] at h
   cases hc : pList 4 pItem b.2 with
   | none => rw [hc] at h; cases h
   | some c =>
    rw [hc] at h
    simp only [Option.bind_some] at h
    cases hd : pList 16 pGap c.2 with
    | none => rw [hd] at h; cases h
    | some d =>
     rw [hd] at h
     simp only [Option.bind_some] at h
     cases he : pNum 1 d.2 with
     | none => rw [he] at h; cases h
     | some e =>
      rw [he] at h
      simp only [Option.map_some, Option.some.injEq, Prod.mk.injEq] at h
      obtain ⟨rfl, rfl⟩ := h
      obtain ⟨e1, l1, _⟩ := pNum_inv ha
      obtain ⟨e2, l2, _⟩ := pNum_inv hb
      obtain ⟨e5, l5, _⟩ := pNum_inv he
      obtain ⟨_, g2, g3⟩ := pList_inv (f := itForm) (ok := fun y => itOk y = true) (good := fun y => Fits y.es ∧ y.n ≤ 1099511627776 ∧ y.time ≤ 1099511627776) (fun l x r h => ⟨⟨(pItem_inv h).1, (pItem_inv h).2.1, (pItem_inv h).2.2.1⟩, (pItem_inv h).2.2.2⟩) hc
      obtain ⟨_, k2, k3⟩ := pList_inv (f := gapForm) (ok := fun _ => True) (good := fun g => g.1 ≤ 1099511627776 ∧ g.2 ≤ 1099511627776) (fun l x r h => ⟨(pGap_inv h).1, fun _ => (pGap_inv h).2⟩) hd
      refine ⟨⟨l1, l2⟩, g2, k2, fun hok => ?_⟩
      unfold pgOk at hok
      simp only [Bool.and_eq_true] at hok
      have hi := itsOk_mem _ _ _ hok.2.1
      rw [e1, e2, g3 hi, k3 (fun _ _ => trivial), e5]
      have : e.1 = 0 ∨ e.1 = 1 := by omega
      rcases this with h0 | h0 <;> simp [pageForm, h0]
theorem pPage_fwd {x : PPg} (r : List UInt8) (hok : pgOk x = true) (hi : ∀ y ∈ x.items, Fits y.es) (hg : ∀ g ∈ x.gaps, g.1 ≤ 1099511627776 ∧ g.2 ≤ 1099511627776) : pPage (pageForm x ++ r) = some (x, r) := by
 have hok' := hok
 unfold pgOk topOk at hok'
 simp only [Bool.and_eq_true, decide_eq_true_eq] at hok'
 obtain ⟨⟨h1, h2, h3, h4, h5⟩, h6, _⟩ := hok'
 have his := itsOk_mem _ _ _ h6
 unfold pPage pageForm
 rw [show form x.fr ++ form x.en ++ form x.items.length ++ x.items.flatMap itForm ++ form x.gaps.length ++ x.gaps.flatMap gapForm ++ form (if x.last then 1 else 0) ++ r = form x.fr ++ (form x.en ++ (form x.items.length ++ x.items.flatMap itForm ++ (form x.gaps.length ++ x.gaps.flatMap gapForm ++ (form (if x.last then 1 else 0) ++ r)))) from by simp]
 rw [pNum_fwd _ (by omega) (by omega)]
 simp only [Option.bind_some]
 rw [pNum_fwd _ (by omega) (by omega)]
 simp only [Option.bind_some]
 rw [pList_fwd x.items h4 (by omega) (fun y hy t => pItem_fwd t (his y hy) (hi y hy))]
 simp only [Option.bind_some]
 rw [pList_fwd x.gaps h5 (by omega) (fun g hg' t => pGap_fwd t (hg g hg').1 (hg g hg').2)]
 simp only [Option.bind_some]
 rw [pNum_fwd _ (by split <;> decide) (by split <;> decide)]
 obtain ⟨fr, en, items, gaps, last⟩ := x
 cases last <;> rfl
end Go.Proofs.YtfnanbadbmmicaaGreatDoor
