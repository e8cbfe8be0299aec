/- DERIVED. The contract of codec's reader: item. · DERIVED. Items. · DERIVED. The contract of codec's reader: page. · DERIVED. Names and events: the document's answer (layer 2). · DERIVED. The document's writer of forms (layer 7): bytes are appended to a row of the call's own. · DERIVED. The document's writer of values and events (layer 7). · DERIVED. The document's writer of events (layer 7), and its sizes. · DERIVED. The contracts of codec.form, PutEvent and Size. · DERIVED. The document's PutEvent. · DERIVED. codec.TakeEvent. · DERIVED. The contracts of the writer of constraints, and of codec.PutPred. · DERIVED. The contract of codec.PutPred. -/
import Derived.Test.YtfnanbadbmmicaaGreatDoorY08
import Derived.Deep.DeepCutAuto
import Derived.Test.YtfnanbadbmmicaaGreatDoorY04
import Derived.Test.YtfnanbadbmmicaaGreatDoorY05
import Derived.Lib.AppendStr
import Derived.Deep.RegionWith
import Derived.Deep.RegionHeld3
import Derived.Defers
import Derived.Recover
namespace Go.Proofs.YtfnanbadbmmicaaGreatDoor
open Go.RowKit

/-- an item, without where its attributes lie -/
structure PIt where
 n : Nat
 time : Nat
 key : ByteArray
 es : List At
def pItem (l : List UInt8) : Option (PIt × List UInt8) := (pNum 1099511627776 l).bind fun x => (pNum 1099511627776 x.2).bind fun y => (pEvent y.2).map fun z => (⟨x.1, y.1, z.1.1, z.1.2⟩, z.2)
/-- an item was read -/
def ItPost (w : World) (B rb bb : Nat) (res : Option (PIt × List UInt8)) (e : Ending) (w' : World) : Prop :=
 match res with
 | some x => (∃ p n c, e = .returned (.agg #[.int .u64 x.1.n, .int .u64 x.1.time, .string x.1.key, .slice p n c]) ∧ OwnsA w' w.heap.size (.slice p n c) x.1.es) ∧ Rd w' B rb bb x.2 ∧ RK rb w w'
 | none => e = .panicked fault ∧ Bad w B rb bb w'

set_option maxRecDepth 100000 in
set_option maxHeartbeats 2000000 in
theorem citem_any (B rb bb : Nat) (l : List UInt8) (w : World) (h : Rd w B rb bb l) :
  Calls Tryz.prog 48 #[rdV rb] w (ItPost w B rb bb (pItem l)) := by
 have hrb := h.lt
 have hbase := h.base
 obtain ⟨W0, hW0⟩ : ∃ W0, (w.alloc (.cells #[.pointer (some ⟨rb, 0, none⟩)] 98)).alloc (.cells #[.int .u64 0, .int .u64 0, .string ⟨#[]⟩, .slice none 0 0] 39) = W0 := ⟨_, rfl⟩
 have k0 : Old w W0 := by rw [← hW0]; exact ((Keeps.refl _ _).alloc _).alloc _
 have hb := two_blocks w (.cells #[.pointer (some ⟨rb, 0, none⟩)] 98) (.cells #[.int .u64 0, .int .u64 0, .string ⟨#[]⟩, .slice none 0 0] 39)
 rw [hW0] at hb
 have kk : RK rb w W0 := k0.weaken (fun _ _ f => f.elim)
 have hR0 := h.old k0
 have HB := Lib.hid hb
 have HK := Lib.hid (kk.then (Keeps.refl (fun _ => False) W0).drew (fun _ _ f => f.elim))
 have hsz : w.heap.size + 1 < W0.heap.size := lt_of_heap hb.2
 have f0 := (blk1 hb.1).1
 have HR0 := Lib.hid (hR0.old (Keeps.refl (fun _ => False) W0).drew)
 unfold pItem
 cases hn : pNum 1099511627776 l with
 | none =>
  have HT := Lib.hid (fun W (h : Rd W B rb bb l) => cnum_no B rb bb 1099511627776 l W h (by decide) hn)
  simp only [Option.bind_none]
  clear hb kk h k0 hR0 hn
  go_enter Tryz.func48, Tryz.ntmps48
  go_upto_region 1 with fail
  refine wp_region_g (S := fun W' => W'.cell? ⟨w.heap.size, 0, none⟩ = some (.pointer (some ⟨rb, 0, none⟩))) (M := [0, 1, 2, 3, 4, 5]) (by kernel_rfl) ?_
  have hS : W0.drew.cell? ⟨w.heap.size, 0, none⟩ = some (.pointer (some ⟨rb, 0, none⟩)) := f0
  refine wpAnyG_takeL (i := 0) (oi := _) (v := ?va0) rfl (by kernel_rfl) (by kernel_rfl) (by kernel_rfl) (by kernel_rfl) (fun _ _ _ h => h) (Or.inl ⟨by rfl, ?ya0⟩) hS ?ra0
  case ya0 => (intro W hSw; go_simp; try with_reducible rfl)
  try simp only [Act.put, List.setIfInBounds_toArray, List.set_cons_zero, List.set_cons_succ]
  refine wpAnyG_takeL (i := 2) (oi := _) (v := ?va2) rfl (by kernel_rfl) (by kernel_rfl) (by kernel_rfl) (by kernel_rfl) (fun _ _ _ h => h) (Or.inl ⟨by rfl, ?ya2⟩) hS ?ra2
  case ya2 => (intro W hSw; go_simp; try with_reducible rfl)
  try simp only [Act.put, List.setIfInBounds_toArray, List.set_cons_zero, List.set_cons_succ]
  refine wpAnyG_onlyL (i := 1) (o := _) (by kernel_rfl) rfl (fun K hK => ?_)
  go_simp
  refine (HT.out _ HR0.out).mono ?_
  rintro e w1 ⟨rfl, hR1, k1⟩
  have R := Lib.hid (show Bad w B rb bb w1 from ⟨⟨_, hR1⟩, HK.out.trans k1⟩)
  clear hR1 k1
  go_wp2_with fail
  exact ⟨rfl, rfl, R.out⟩
 | some x =>
  obtain ⟨n, l1⟩ := x
  have HT := Lib.hid (fun W (h : Rd W B rb bb l) => cnum_yes B rb bb 1099511627776 n l l1 W h (by decide) hn)
  simp only [Option.bind_some]
  cases hm : pNum 1099511627776 l1 with
  | none =>
   have HM := Lib.hid (fun W (h : Rd W B rb bb l1) => cnum_no B rb bb 1099511627776 l1 W h (by decide) hm)
   simp only [Option.bind_none]
   clear hb kk h k0 hR0 hn hm
   go_enter Tryz.func48, Tryz.ntmps48
   go_upto_region 1 with fail
   refine wp_region_g (S := fun W' => W'.cell? ⟨w.heap.size, 0, none⟩ = some (.pointer (some ⟨rb, 0, none⟩))) (M := [0, 1, 2, 3, 4, 5]) (by kernel_rfl) ?_
   have hS : W0.drew.cell? ⟨w.heap.size, 0, none⟩ = some (.pointer (some ⟨rb, 0, none⟩)) := f0
   refine wpAnyG_takeL (i := 0) (oi := _) (v := ?vb0) rfl (by kernel_rfl) (by kernel_rfl) (by kernel_rfl) (by kernel_rfl) (fun _ _ _ h => h) (Or.inl ⟨by rfl, ?yb0⟩) hS ?rb0
   case yb0 => (intro W hSw; go_simp; try with_reducible rfl)
   try simp only [Act.put, List.setIfInBounds_toArray, List.set_cons_zero, List.set_cons_succ]
   refine wpAnyG_takeL (i := 2) (oi := _) (v := ?vb2) rfl (by kernel_rfl) (by kernel_rfl) (by kernel_rfl) (by kernel_rfl) (fun _ _ _ h => h) (Or.inl ⟨by rfl, ?yb2⟩) hS ?rb2
   case yb2 => (intro W hSw; go_simp; try with_reducible rfl)
   try simp only [Act.put, List.setIfInBounds_toArray, List.set_cons_zero, List.set_cons_succ]
   refine wpAnyG_onlyL (i := 1) (o := _) (by kernel_rfl) rfl (fun K hK => ?_)
   go_simp
   refine (HT.out _ HR0.out).mono ?_
   rintro e w1 ⟨rfl, hR1, k1⟩
   have hS1 : w1.cell? ⟨w.heap.size, 0, none⟩ = some (.pointer (some ⟨rb, 0, none⟩)) := k1.cell hS (by dsimp only; omega)
   have H1 := Lib.hid (And.intro hR1 (HK.out.trans k1))
   clear hR1 k1
   go_wp2_with fail
   refine hK.out _ _ (fun _ => hS1) ?_
   clear hK K
   try simp only [Act.put, List.setIfInBounds_toArray, List.set_cons_zero, List.set_cons_succ]
   refine wpAnyG_onlyL (i := 3) (o := _) (by kernel_rfl) rfl (fun K hK => ?_)
   go_simp
   refine (HM.out _ H1.out.1).mono ?_
   rintro e w2 ⟨rfl, hR2, k2⟩
   have R := Lib.hid (show Bad w B rb bb w2 from ⟨⟨_, hR2⟩, H1.out.2.trans k2⟩)
   clear hR2 k2
   go_wp2_with fail
   exact ⟨rfl, rfl, R.out⟩
  | some x =>
   obtain ⟨m, l2⟩ := x
   have HM := Lib.hid (fun W (h : Rd W B rb bb l1) => cnum_yes B rb bb 1099511627776 m l1 l2 W h (by decide) hm)
   simp only [Option.bind_some]
   have HV := Lib.hid (fun W (h : Rd W B rb bb l2) => cevent_any B rb bb l2 W h)
   obtain ⟨rs, hrs⟩ : ∃ rs, pEvent l2 = rs := ⟨_, rfl⟩
   rw [hrs]
   have HRS := Lib.hid hrs
   clear hb kk h k0 hR0 hn hm hrs
   go_enter Tryz.func48, Tryz.ntmps48
   go_upto_region 1 with fail
   refine wp_region_g (S := fun W' => W'.cell? ⟨w.heap.size, 0, none⟩ = some (.pointer (some ⟨rb, 0, none⟩))) (M := [0, 1, 2, 3, 4, 5]) (by kernel_rfl) ?_
   have hS : W0.drew.cell? ⟨w.heap.size, 0, none⟩ = some (.pointer (some ⟨rb, 0, none⟩)) := f0
   refine wpAnyG_takeL (i := 0) (oi := _) (v := ?vc0) rfl (by kernel_rfl) (by kernel_rfl) (by kernel_rfl) (by kernel_rfl) (fun _ _ _ h => h) (Or.inl ⟨by rfl, ?yc0⟩) hS ?rc0
   case yc0 => (intro W hSw; go_simp; try with_reducible rfl)
   try simp only [Act.put, List.setIfInBounds_toArray, List.set_cons_zero, List.set_cons_succ]
   refine wpAnyG_takeL (i := 2) (oi := _) (v := ?vc2) rfl (by kernel_rfl) (by kernel_rfl) (by kernel_rfl) (by kernel_rfl) (fun _ _ _ h => h) (Or.inl ⟨by rfl, ?yc2⟩) hS ?rc2
   case yc2 => (intro W hSw; go_simp; try with_reducible rfl)
   try simp only [Act.put, List.setIfInBounds_toArray, List.set_cons_zero, List.set_cons_succ]
   refine wpAnyG_onlyL (i := 1) (o := _) (by kernel_rfl) rfl (fun K hK => ?_)
   go_simp
   refine (HT.out _ HR0.out).mono ?_
   rintro e w1 ⟨rfl, hR1, k1⟩
   have hS1 : w1.cell? ⟨w.heap.size, 0, none⟩ = some (.pointer (some ⟨rb, 0, none⟩)) := k1.cell hS (by dsimp only; omega)
   have b1 := (k1.block _ (show w.heap.size + 1 < W0.drew.heap.size from hsz) (by omega)).trans HB.out.2
   have H1 := Lib.hid (And.intro hR1 (And.intro (HK.out.trans k1) b1))
   clear hR1 k1 b1
   go_wp2_with fail
   refine hK.out _ _ (fun _ => hS1) ?_
   clear hK K
   try simp only [Act.put, List.setIfInBounds_toArray, List.set_cons_zero, List.set_cons_succ]
   refine wpAnyG_onlyL (i := 3) (o := _) (by kernel_rfl) rfl (fun K hK => ?_)
   go_simp
   refine (HM.out _ H1.out.1).mono ?_
   rintro e w2 ⟨rfl, hR2, k2⟩
   have hS2 : w2.cell? ⟨w.heap.size, 0, none⟩ = some (.pointer (some ⟨rb, 0, none⟩)) := k2.cell hS1 (by dsimp only; omega)
   have b2 := (k2.block _ (lt_of_heap H1.out.2.2) (by omega)).trans H1.out.2.2
   have hw2 := lt_of_heap b2
   have H2 := Lib.hid (And.intro hR2 (And.intro (H1.out.2.1.trans k2) b2))
   clear hR2 k2 b2
   go_wp2_with fail
   refine hK.out _ _ (fun _ => hS2) ?_
   clear hK K
   try simp only [Act.put, List.setIfInBounds_toArray, List.set_cons_zero, List.set_cons_succ]
   refine wpAnyG_takeL (i := 4) (oi := _) (v := ?vc4) rfl (by kernel_rfl) (by kernel_rfl) (by kernel_rfl) (by kernel_rfl) (fun _ _ _ h => h) (Or.inl ⟨by rfl, ?yc4⟩) hS2 ?rc4
   case yc4 => (intro W hSw; go_simp; try with_reducible rfl)
   try simp only [Act.put, List.setIfInBounds_toArray, List.set_cons_zero, List.set_cons_succ]
   refine wpAnyG_takeL (i := 5) (oi := _) (v := ?vc5) rfl (by kernel_rfl) (by kernel_rfl) (by kernel_rfl) (by kernel_rfl) (fun _ _ _ h => h) (Or.inl ⟨by rfl, ?yc5⟩) hS2 ?rc5
   case yc5 => (intro W hSw; go_simp; try with_reducible rfl)
   try simp only [Act.put, List.setIfInBounds_toArray, List.set_cons_zero, List.set_cons_succ]
   refine wpAnyG_done (by kernel_rfl) ?_ _
   go_simp
   go_wp2_with fail
   refine (HV.out _ H2.out.1).mono ?_
   intro e w3 ht
   rw [HRS.out] at ht
   clear HRS
   rcases rs with _ | ⟨⟨key, es⟩, r⟩
   ·obtain ⟨rfl, ht⟩ : e = .panicked fault ∧ Bad w2 B rb bb w3 := ht
    have R := Lib.hid (show Bad w B rb bb w3 from ⟨ht.1, H2.out.2.1.trans ht.2⟩)
    clear ht
    go_wp2_with fail
    exact ⟨rfl, rfl, R.out⟩
   ·obtain ⟨⟨p', n', c', rfl, ho⟩, hR3, k3⟩ : (∃ p n c, e = .returned (.agg #[.string key, .slice p n c]) ∧ OwnsA w3 w2.heap.size (.slice p n c) es) ∧ Rd w3 B rb bb r ∧ RK rb w2 w3 := ht
    have b3 := (k3.block _ hw2 (by omega)).trans H2.out.2.2
    have g3 := blk4 b3
    have H := Lib.hid (And.intro hR3 (And.intro ho (H2.out.2.1.trans k3)))
    clear hR3 ho k3 b3
    go_wp2_with fail
    refine bodyPost_ret (v := .agg #[.int .u64 n, .int .u64 m, .string key, .slice p' n' c']) (by simp [results, Tryz.results48, go_sem, g3]) rfl ⟨⟨p', n', c', rfl, ?_⟩, rd_close H.out.1 H.out.2.2 hbase hrb ?_⟩
    ·refine (H.out.2.1.mono (by omega)).keeps (S := fun k => k = w.heap.size + 1) ?_ (fun b hb e => by have := (H.out.2.1.block b hb).1; omega)
     repeat (first | refine Keeps.setCell ?_ (fun _ => by rfl) _ | exact Keeps.refl _ _)
    ·repeat (first | refine Keeps.setCell ?_ (fun _ => by dsimp only; omega) _ | exact Keeps.refl _ _)
end Go.Proofs.YtfnanbadbmmicaaGreatDoor

namespace Go.Proofs.YtfnanbadbmmicaaGreatDoor
open Go.RowKit

/-- an item: av is where its attributes lie -/
structure It where
 n : Nat
 time : Nat
 key : ByteArray
 av : Value
 es : List At
def It.cells (x : It) : List Value := [.int .u64 x.n, .int .u64 x.time, .string x.key, x.av]
/-- an item's attributes lie in w -/
def It.fine (w : World) (x : It) : Prop := SeesA w x.av x.es ∧ (0 < x.es.length → ∀ k, x.av.ownBlock = some k → k < w.heap.size) ∧ Fits x.es ∧ x.n < 18446744073709551616 ∧ x.time < 18446744073709551616
theorem It.fine.old {w w' : World} {x : It} (h : x.fine w) (hk : Old w w') : x.fine w' :=
 ⟨h.1.old hk, fun h0 k hk' => Nat.lt_of_lt_of_le (h.2.1 h0 k hk') hk.size, h.2.2⟩

def It.plain (x : It) : PIt := ⟨x.n, x.time, x.key, x.es⟩
def ItF (x : It) (W : World) : Prop := SeesA W x.av x.es
theorem itF_k : FineK It.av ItF := fun _ _ _ _ h hk hS => SeesR.keeps h hk hS
abbrev PGap := Nat × Nat
def gapL (g : PGap) : List Value := [.int .u64 g.1, .int .u64 g.2]
theorem Tryz.infoItem : (Tryz.prog.info? 39).map (fun i => (i.zero, i.size, i.bytes)) = some (some (.agg #[.int .u64 0, .int .u64 0, .string ⟨#[]⟩, .slice none 0 0]), 4, 56) := by kernel_rfl
theorem blk5 {w : World} {b : Nat} {t : TypeId} {a0 a1 a2 a3 a4 : Value} (h : w.heap[b]? = some (.cells #[a0, a1, a2, a3, a4] t (0, 0))) :
  (w.cell? ⟨b, 0, none⟩ = some a0 ∧ w.cell? ⟨b, 1, none⟩ = some a1 ∧ w.cell? ⟨b, 2, none⟩ = some a2 ∧ w.cell? ⟨b, 3, none⟩ = some a3 ∧ w.cell? ⟨b, 4, none⟩ = some a4) ∧
  (w.frozen? ⟨b, 0, none⟩ = false ∧ w.frozen? ⟨b, 1, none⟩ = false ∧ w.frozen? ⟨b, 2, none⟩ = false ∧ w.frozen? ⟨b, 3, none⟩ = false ∧ w.frozen? ⟨b, 4, none⟩ = false) := by simp [World.cell?, World.frozen?, h]
end Go.Proofs.YtfnanbadbmmicaaGreatDoor

namespace Go.Proofs.YtfnanbadbmmicaaGreatDoor
open Go.RowKit

def pGap (l : List UInt8) : Option (PGap × List UInt8) := (pNum 1099511627776 l).bind fun x => (pNum 1099511627776 x.2).map fun y => ((x.1, y.1), y.2)
theorem pGap_cases {l r : List UInt8} {g : PGap} (h : pGap l = some (g, r)) : ∃ l1, pNum 1099511627776 l = some (g.1, l1) ∧ pNum 1099511627776 l1 = some (g.2, r) := by
 unfold pGap at h
 cases hk : pNum 1099511627776 l with
 | none => rw [hk] at h; cases h
 | some x =>
  rw [hk] at h
  simp only [Option.bind_some] at h
  cases hi : pNum 1099511627776 x.2 with
  | none => rw [hi] at h; cases h
  | some y =>
   rw [hi] at h
   simp only [Option.map_some, Option.some.injEq, Prod.mk.injEq] at h
   obtain ⟨rfl, rfl⟩ := h
   exact ⟨x.2, rfl, hi⟩
theorem pGap_nones {l : List UInt8} (h : pGap l = none) : pNum 1099511627776 l = none ∨ ∃ s l1, pNum 1099511627776 l = some (s, l1) ∧ pNum 1099511627776 l1 = none := by
 unfold pGap at h
 cases hk : pNum 1099511627776 l with
 | none => exact .inl rfl
 | some x =>
  rw [hk] at h
  simp only [Option.bind_some] at h
  exact .inr ⟨x.1, x.2, rfl, by simpa using h⟩

end Go.Proofs.YtfnanbadbmmicaaGreatDoor

namespace Go.Proofs.YtfnanbadbmmicaaGreatDoor
open Go.RowKit

/-- a page, without where its items and gaps lie -/
structure PPg where
 fr : Nat
 en : Nat
 items : List PIt
 gaps : List PGap
 last : Bool
def pPage (l : List UInt8) : Option (PPg × List UInt8) := (pNum 1099511627777 l).bind fun a => (pNum 1099511627777 a.2).bind fun b => (pList 4 pItem b.2).bind fun c => (pList 16 pGap c.2).bind fun d => (pNum 1 d.2).map fun f => (⟨a.1, b.1, c.1, d.1, f.1 == 1⟩, f.2)
theorem set5 {w : World} {b : Nat} {t : TypeId} {x0 x1 x2 x3 x4 a0 a1 a2 a3 a4 : Value} (h : w.heap[b]? = some (.cells #[x0, x1, x2, x3, x4] t (0, 0))) :
  (((((w.setCell ⟨b, 0, none⟩ a0).setCell ⟨b, 1, none⟩ a1).setCell ⟨b, 2, none⟩ a2).setCell ⟨b, 3, none⟩ a3).setCell ⟨b, 4, none⟩ a4).heap[b]? = some (.cells #[a0, a1, a2, a3, a4] t (0, 0)) := by
 have h0 := heap_setCell_same w b 0 _ _ a0 h
 have h1 := heap_setCell_same _ b 1 _ _ a1 h0
 have h2 := heap_setCell_same _ b 2 _ _ a2 h1
 have h3 := heap_setCell_same _ b 3 _ _ a3 h2
 have h4 := heap_setCell_same _ b 4 _ _ a4 h3
 simpa using h4
end Go.Proofs.YtfnanbadbmmicaaGreatDoor

namespace Go.Proofs.YtfnanbadbmmicaaGreatDoor
open Go.RowKit

theorem good_iff (c : Nat) : goodB c = true ↔ ((97 ≤ c ∧ c ≤ 122) ∨ (48 ≤ c ∧ c ≤ 57) ∨ c = 45 ∨ c = 46 ∨ c = 95) := by
 unfold goodB; simp; omega
theorem bad_iff (c : Nat) : goodB c = false ↔ ¬ ((97 ≤ c ∧ c ≤ 122) ∨ (48 ≤ c ∧ c ≤ 57) ∨ c = 45 ∨ c = 46 ∨ c = 95) := by
 rw [← good_iff]; simp

end Go.Proofs.YtfnanbadbmmicaaGreatDoor

namespace Go.Proofs.YtfnanbadbmmicaaGreatDoor
open Go.RowKit

/-- block k lies from B on, and holds bytes -/
def U8 (w : World) (B k : Nat) : Prop := B ≤ k ∧ ∃ cs fr, w.heap[k]? = some (.cells cs 5 fr)
/-- only rows of bytes from B on have turned -/
abbrev K8 (B : Nat) (w w' : World) : Prop := Keeps (U8 w B) w w'
theorem K8.trans {B : Nat} {a b c : World} (h : K8 B a b) (k : K8 B b c) : K8 B a c := by
 refine h.then k (fun i hi hu => ?_)
 by_cases hn : U8 a B i
 ·exact hn
 ·have := h.block i hi hn
  obtain ⟨h1, cs, fr, h2⟩ := hu
  exact ⟨h1, cs, fr, this ▸ h2⟩
theorem K8.old {B : Nat} {a b : World} (h : Old a b) : K8 B a b := h.weaken (fun _ _ f => f.elim)
theorem K8.grown {B : Nat} {a b : World} {v : Value} {l : List UInt8} (ho : Owns a B v l) (hg : a.grownBy b v.ownBlock) : K8 B a b :=
 (Keeps.refl _ _).grown hg (fun k hk hlt => ⟨(ho.block k hk).1, by
  obtain ⟨h1, h2⟩ := ho
  rcases h2 with ⟨rfl, h0⟩ | ⟨g, cap, cur, rfl, hb, hgg, _⟩
  ·cases hk
  ·simp only [Value.ownBlock, Option.some.injEq] at hk
   subst hk
   exact ⟨_, _, hgg⟩⟩)
theorem K8.block {B : Nat} {a b : World} (h : K8 B a b) {k : Nat} {cs : Array Value} {t : TypeId} {fr : Nat × Nat} (hk : a.heap[k]? = some (.cells cs t fr)) (ht : t ≠ 5) : b.heap[k]? = some (.cells cs t fr) := by
 refine (Keeps.block h k (Array.getElem?_eq_some_iff.1 hk).1 ?_).trans hk
 rintro ⟨_, cs', fr', h'⟩
 rw [hk] at h'
 simp only [Option.some.injEq, Obj.cells.injEq] at h'
 exact ht h'.2.1
theorem K8.below {B : Nat} {a b : World} (h : K8 B a b) (hB : B ≤ a.heap.size) : Below B a b := Keeps.below (h.weaken (fun _ _ u => u.1)) hB
theorem K8.to_old {a b : World} (h : K8 a.heap.size a b) : Old a b := ⟨h.os, h.tape, h.output, h.size, fun k hk _ => Keeps.block h k hk (fun u => by have := u.1; omega)⟩
theorem K8.alloc {B : Nat} {a b : World} (h : K8 B a b) (o : Obj) : K8 B a (b.alloc o) := Keeps.alloc h o

/-- a row of the call's own came back -/
def Gro (w : World) (B : Nat) (l : List UInt8) (e : Ending) (w' : World) : Prop := ∃ p n c, e = .returned (.slice p n c) ∧ Owns w' B (.slice p n c) l ∧ K8 B w w'
theorem gro {w w' : World} {B : Nat} {l : List UInt8} {e : Ending} {v : Value} (he : e = .returned v) (ho : Owns w' B v l) (hk : K8 B w w') : Gro w B l e w' := by
 obtain ⟨p, c, rfl, _, _⟩ := ho.sees.len
 exact ⟨p, _, c, he, ho, hk⟩

/-- append(own.., s...) of a string -/
theorem wpList_append_text {w : World} {ops : Array Oper} {rest : List Oper} {o : Oper} {a : Act} {Q : Exit → Act → World → Prop} (hgd : o.guard = none) (s x : Operand)
  (ho : o.op = .call { callee := .builtin .append, args := #[s, x], argTypes := #[25, 9] })
  (B : Nat) (v : Value) (l : List UInt8) (hs : a.eval s = v) (hown : Owns w B v l) (t : ByteArray) (hx : a.eval x = .string t)
  (hlen : l.length + t.size ≤ 1152921504606) (hB : B ≤ w.heap.size)
  (h : ∀ v' w', Owns w' B v' (l ++ t.toList) → w.grownBy w' v.ownBlock → wpList Tryz.prog ops Q rest (a.put o.dst v') w') : wpList Tryz.prog ops Q (o :: rest) a w := by
 obtain ⟨i0, hi, hz0, hz1, hz2⟩ := info_parts Tryz.infoU8
 refine Lib.wpList_append_own_string w hgd s x 25 9 ho B 5 i0 Tryz.underlying25 Tryz.underlying9 hi hz0 hz1 hz2 v l.length (l.map u8) hs hown t hx (by unfold maxLen; omega) (by omega) hB ?_
 intro v' w' ho' hg' _
 refine h v' w' ?_ hg'
 unfold Owns
 have e1 : (l ++ t.toList).length = l.length + t.size := by simp [size_toList]
 have e2 : (l ++ t.toList).map u8 = l.map u8 ++ Lib.strCells t := by
  rw [List.map_append, ByteArray.toList_eq]
  simp [Lib.strCells, u8]
 rw [e1, e2]
 exact ho'

end Go.Proofs.YtfnanbadbmmicaaGreatDoor

namespace Go.Proofs.YtfnanbadbmmicaaGreatDoor
open Go.RowKit

end Go.Proofs.YtfnanbadbmmicaaGreatDoor

namespace Go.Proofs.YtfnanbadbmmicaaGreatDoor
open Go.RowKit

end Go.Proofs.YtfnanbadbmmicaaGreatDoor

namespace Go.Proofs.YtfnanbadbmmicaaGreatDoor
open Go.RowKit

/-- a form was made -/
def Formed (w : World) (l : List UInt8) (e : Ending) (w' : World) : Prop := ∃ p n c, e = .returned (.tuple #[.slice p n c, .int .i64 0]) ∧ Owns w' w.heap.size (.slice p n c) l ∧ Old w w'

theorem form_no_any (fv : Value) (w : World) : Calls Tryz.prog 21 #[.bool false, fv] w fun e w' => e = .returned (.tuple #[.slice none 0 0, .int .i64 30]) ∧ w = w' := by
 go_enter Tryz.func21, Tryz.ntmps21
 go_wp2_with fail
 go_ret2
 exact ⟨rfl, rfl⟩
theorem form_yes_any (f : FuncId) (eb : Nat) (l : List UInt8) (w : World) (hent : ∀ (args : Array Value) (w : World), (callFunc f args).run Tryz.prog w = .ok (.enter f args) w)
  (hlay : ∀ W pw, Old w W → w.heap.size ≤ pw → Wr W w.heap.size pw [] → Calls Tryz.prog f #[.pointer (some ⟨pw, 0, none⟩), .pointer (some ⟨eb, 0, none⟩)] W (Laid W w.heap.size pw l)) :
  Calls Tryz.prog 21 #[.bool true, .func (.func f) #[] #[.pointer (some ⟨eb, 0, none⟩)]] w (Formed w l) := by
 have o1 := Owns.lit w w.heap.size [] (Nat.le_refl _) (Nat.zero_le _)
 generalize hW0 : (w.alloc (.cells #[] 5)).alloc (.cells #[.slice (some ⟨w.heap.size, 0, none⟩) 0 0] 80) = W0
 have k0 : Old w W0 := by rw [← hW0]; exact ((Keeps.refl _ _).alloc _).alloc _
 have hwr : Wr W0 w.heap.size (w.heap.size + 1) [] := by
  refine ⟨.slice (some ⟨w.heap.size, 0, none⟩) 0 0, ?_, ?_, ?_, k0.size⟩
  ·rw [← hW0]
   have := heap_alloc_new (w.alloc (.cells #[] 5)) (.cells #[.slice (some ⟨w.heap.size, 0, none⟩) 0 0] 80)
   simpa using this
  ·rw [← hW0]; exact o1.alloc _
  ·intro k hk; simp [Value.ownBlock] at hk; omega
 have C := Lib.hid (hlay W0 (w.heap.size + 1) k0 (by omega) hwr)
 have H := Lib.hid k0
 clear hlay hwr k0 o1
 go_enter Tryz.func21, Tryz.ntmps21
 go_wp2_with fail
 refine C.out.mono ?_
 rintro e w1 ⟨rfl, ⟨v, h1, h2, h3, h4⟩, hk⟩
 have q1 : w1.cell? ⟨w.heap.size + 1, 0, none⟩ = some v := by simp [World.cell?, h1]
 have K := Lib.hid (And.intro h2 hk)
 clear h1 h2 h3 h4 hk C
 go_wp2_with fail
 go_ret2
 obtain ⟨p, c, rfl, _, _⟩ := K.out.1.sees.len
 refine ⟨p, _, c, rfl, K.out.1, ?_⟩
 exact H.out.then K.out.2 (fun i hi e => by have e' : i = w.heap.size + 1 := e; omega)

/-- an event's size -/
def evSize (key : ByteArray) (es : List At) : Nat := if evOk key es then (evForm key es).length else 0
theorem evSize_le {key : ByteArray} {es : List At} (hf : Fits es) : evSize key es ≤ 800 := by
 unfold evSize; split
 ·exact evForm_le (by assumption) hf
 ·omega
end Go.Proofs.YtfnanbadbmmicaaGreatDoor

namespace Go.Proofs.YtfnanbadbmmicaaGreatDoor
open Go.RowKit

end Go.Proofs.YtfnanbadbmmicaaGreatDoor

namespace Go.Proofs.YtfnanbadbmmicaaGreatDoor
open Go.RowKit

theorem set2 {w : World} {b : Nat} {t : TypeId} {x0 x1 a0 a1 : Value} (h : w.heap[b]? = some (.cells #[x0, x1] t (0, 0))) : ((w.setCell ⟨b, 0, none⟩ a0).setCell ⟨b, 1, none⟩ a1).heap[b]? = some (.cells #[a0, a1] t (0, 0)) := by
 have h0 := heap_setCell_same w b 0 _ _ a0 h
 have h1 := heap_setCell_same _ b 1 _ _ a1 h0
 simpa using h1
theorem set4 {w : World} {b : Nat} {t : TypeId} {x0 x1 x2 x3 a0 a1 a2 a3 : Value} (h : w.heap[b]? = some (.cells #[x0, x1, x2, x3] t (0, 0))) : ((((w.setCell ⟨b, 0, none⟩ a0).setCell ⟨b, 1, none⟩ a1).setCell ⟨b, 2, none⟩ a2).setCell ⟨b, 3, none⟩ a3).heap[b]? = some (.cells #[a0, a1, a2, a3] t (0, 0)) := by
 have h0 := heap_setCell_same w b 0 _ _ a0 h
 have h1 := heap_setCell_same _ b 1 _ _ a1 h0
 have h2 := heap_setCell_same _ b 2 _ _ a2 h1
 have h3 := heap_setCell_same _ b 3 _ _ a3 h2
 simpa using h3
theorem set1 {w : World} {b : Nat} {t : TypeId} {x0 a0 : Value} (h : w.heap[b]? = some (.cells #[x0] t (0, 0))) : (w.setCell ⟨b, 0, none⟩ a0).heap[b]? = some (.cells #[a0] t (0, 0)) := by
 have h0 := heap_setCell_same w b 0 _ _ a0 h
 simpa using h0
theorem keepS {ep : Nat} {a b : World} {i : Nat} (u : Value) (h : Keeps (fun k => k = ep) a b) : Keeps (fun k => k = ep) a (b.setCell ⟨ep, i, none⟩ u) := h.setCell (fun _ => rfl) u
theorem keep1 {a0 : Value} (w : World) (b : Nat) : Keeps (fun k => k = b) w (w.setCell ⟨b, 0, none⟩ a0) := keepS _ (Keeps.refl _ _)
theorem keep2 {a0 a1 : Value} (w : World) (b : Nat) : Keeps (fun k => k = b) w ((w.setCell ⟨b, 0, none⟩ a0).setCell ⟨b, 1, none⟩ a1) := keepS _ (keepS _ (Keeps.refl _ _))
theorem keep4 {a0 a1 a2 a3 : Value} (w : World) (b : Nat) : Keeps (fun k => k = b) w ((((w.setCell ⟨b, 0, none⟩ a0).setCell ⟨b, 1, none⟩ a1).setCell ⟨b, 2, none⟩ a2).setCell ⟨b, 3, none⟩ a3) := keepS _ (keepS _ (keepS _ (keepS _ (Keeps.refl _ _))))
theorem keep5 {a0 a1 a2 a3 a4 : Value} (w : World) (b : Nat) : Keeps (fun k => k = b) w (((((w.setCell ⟨b, 0, none⟩ a0).setCell ⟨b, 1, none⟩ a1).setCell ⟨b, 2, none⟩ a2).setCell ⟨b, 3, none⟩ a3).setCell ⟨b, 4, none⟩ a4) := keepS _ (keepS _ (keepS _ (keepS _ (keepS _ (Keeps.refl _ _)))))

/-- bytes as an event -/
def takeE (l : List UInt8) : Option (ByteArray × List At) := (pEvent l).bind fun x => if evOk x.1.1 x.1.2 && decide (x.2 = []) then some x.1 else none
/-- what is told of bytes as an event -/
def TkE (w : World) (res : Option (ByteArray × List At)) (e : Ending) (w' : World) : Prop :=
 Old w w' ∧ match res with
 | some x => ∃ p n c, e = .returned (.tuple #[.agg #[.string x.1, .slice p n c], .int .i64 0]) ∧ OwnsA w' w.heap.size (.slice p n c) x.2
 | none => e = .returned (.tuple #[.agg #[.string ⟨#[]⟩, .slice none 0 0], .int .i64 5])
theorem TkE.no {w w' : World} {res : Option (ByteArray × List At)} (h : res = none) (k : Old w w') : TkE w res (.returned (.tuple #[.agg #[.string ⟨#[]⟩, .slice none 0 0], .int .i64 5])) w' := by subst h; exact ⟨k, rfl⟩
theorem TkE.yes {w w' : World} {res : Option (ByteArray × List At)} {key : ByteArray} {es : List At} {p : Option Addr} {n c : Nat} (h : res = some (key, es)) (k : Old w w') (ho : OwnsA w' w.heap.size (.slice p n c) es) : TkE w res (.returned (.tuple #[.agg #[.string key, .slice p n c], .int .i64 0])) w' := by subst h; exact ⟨k, p, n, c, rfl, ho⟩

end Go.Proofs.YtfnanbadbmmicaaGreatDoor

namespace Go.Proofs.YtfnanbadbmmicaaGreatDoor
open Go.RowKit

/-- a constraint's form -/
def conForm (c : PCon) : List UInt8 := form c.name.size ++ c.name.toList ++ form c.op.toNat ++
 (if c.op = 1 then [] else if c.op = 9 then form c.set.length ++ c.set.flatMap valForm else valForm c.val)
def predForm (l : List PCon) : List UInt8 := form l.length ++ l.flatMap conForm
/-- ranges of a constraint's integers -/
def ConR (x : Con) : Prop := VFits x.val ∧ ∀ v ∈ x.set, VFits v
theorem conOk_parts {x : Con} (h : conOk x = true) : x.name.size ≤ 16 ∧ 1 ≤ x.op ∧ x.op ≤ 9 ∧ (x.op = 9 → x.set.length ≤ 6 ∧ ∀ v ∈ x.set, v.ok = true) ∧ (x.op ≠ 1 → x.op ≠ 9 → x.val.ok = true) := by
 unfold conOk at h
 simp only [Bool.and_eq_true, decide_eq_true_eq] at h
 obtain ⟨⟨h1, h2⟩, h3⟩ := h
 by_cases o1 : x.op = 1
 ·rw [if_pos o1] at h3; exact ⟨h2, by omega, by omega, fun h => by omega, fun h => absurd o1 h⟩
 ·rw [if_neg o1] at h3
  by_cases o2 : 2 ≤ x.op ∧ x.op ≤ 7
  ·rw [if_pos o2] at h3; simp at h3; exact ⟨h2, by omega, by omega, fun h => by omega, fun _ _ => h3.1⟩
  ·rw [if_neg o2] at h3
   by_cases o3 : x.op = 8
   ·rw [if_pos o3] at h3; simp at h3; exact ⟨h2, by omega, by omega, fun h => by omega, fun _ _ => h3.1⟩
   ·rw [if_neg o3] at h3
    by_cases o4 : x.op = 9
    ·rw [if_pos o4] at h3; simp at h3; exact ⟨h2, by omega, by omega, fun _ => ⟨h3.2.2.1, fun v hv => h3.2.2.2 v hv⟩, fun _ h => absurd o4 h⟩
    ·rw [if_neg o4] at h3; cases h3
theorem vals_le {l : List Val} (h : ∀ v ∈ l, v.ok = true) (hf : ∀ v ∈ l, VFits v) : (l.flatMap valForm).length ≤ 60 * l.length := by
 induction l with
 | nil => simp
 | cons v r ih =>
  have h1 := valForm_le (h v (by simp)) (hf v (by simp))
  have h2 := ih (fun x hx => h x (by simp [hx])) (fun x hx => hf x (by simp [hx]))
  simp only [List.flatMap_cons, List.length_append, List.length_cons]
  omega
theorem conForm_le {x : Con} (h : conOk x = true) (hr : ConR x) : (conForm x.plain).length ≤ 500 := by
 obtain ⟨h1, h2, h3, h4, h5⟩ := conOk_parts h
 have f1 : (form x.name.size).length ≤ 10 := form_le10 (by omega)
 have f2 : (form x.op.toNat).length ≤ 10 := form_le10 (by omega)
 unfold conForm Con.plain
 simp only [List.length_append, size_toList]
 split
 ·simp; omega
 ·split
  ·rename_i o1 o9
   have f3 : (form x.set.length).length ≤ 10 := form_le10 (by have := (h4 o9).1; omega)
   have := vals_le (h4 o9).2 hr.2
   have := (h4 o9).1
   simp only [List.length_append]; omega
  ·rename_i o1 o9
   have := valForm_le (h5 o1 o9) hr.1
   omega

end Go.Proofs.YtfnanbadbmmicaaGreatDoor

namespace Go.Proofs.YtfnanbadbmmicaaGreatDoor
open Go.RowKit

theorem Con.fine.ranges {w : World} {x : Con} (h : x.fine w) : ConR x := ⟨h.2.1.2, h.2.2.1⟩
theorem predOk_parts {l : List Con} (h : predOk l = true) : l.length ≤ 6 ∧ ∀ x ∈ l, conOk x = true := by
 unfold predOk at h; simp at h; exact h
theorem cons_le {l : List Con} (h : ∀ x ∈ l, conOk x = true) (hr : ∀ x ∈ l, ConR x) : ((l.map Con.plain).flatMap conForm).length ≤ 500 * l.length := by
 induction l with
 | nil => simp
 | cons x r ih =>
  have h1 := conForm_le (h x (by simp)) (hr x (by simp))
  have h2 := ih (fun y hy => h y (by simp [hy])) (fun y hy => hr y (by simp [hy]))
  simp only [List.map_cons, List.flatMap_cons, List.length_append, List.length_cons]
  omega

end Go.Proofs.YtfnanbadbmmicaaGreatDoor
