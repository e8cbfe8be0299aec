/- DERIVED. disk: what is asked first. · DERIVED. disk: one file on a disk; the questions. · DERIVED. disk: names, what is used. · DERIVED. disk: what is used; whether there is room. · DERIVED. disk: whether there is room; the other questions. · DERIVED. disk: Create. · DERIVED. disk: New, Create. -/
import Derived.Test.YtfnanbadbmmicaaGreatDoorZTopTorn02
import Derived.Test.YtfnanbadbmmicaaGreatDoorY07
import Derived.Test.YtfnanbadbmmicaaGreatDoorY08
import Derived.RangeFuncBox
import Derived.Deep.DeepCutAuto
import Derived.IntWalk
namespace Go.Proofs.YtfnanbadbmmicaaGreatDoor
open Go.RowKit

abbrev encV (x : Value) : List Value := [x]
/-- a question that is answered by no error, whatever old memory is kept -/
def Asks (w : World) (x : Value) : Prop := ∃ g bd lb, x = .func (.func g) bd lb ∧ (∀ args W, (callFunc g args).run Tryz.prog W = .ok (.enter g args) W) ∧ ∀ W, Old w W → Calls Tryz.prog g (bd ++ lb) W fun e W' => e = .returned (.int .i64 0) ∧ Old W W'
theorem Asks.later {w w' : World} {x : Value} (h : Asks w x) (k : Old w w') : Asks w' x := by
 obtain ⟨g, bd, lb, e, h1, h2⟩ := h
 exact ⟨g, bd, lb, e, h1, fun W hW => h2 W (k.trans hW)⟩

set_option maxRecDepth 100000 in
set_option maxHeartbeats 1000000 in
theorem first_ok (fs : List Value) (v : Value) (w : World) (h : SeesR w 1 encV v fs) (hp : 0 < fs.length) (hl : fs.length ≤ 100) (hs : ∀ x ∈ fs, Asks w x) :
  Calls Tryz.prog 14 #[v] w fun e w' => e = .returned (.int .i64 0) ∧ Old w w' := by
 obtain ⟨b, o, c, rfl, h1, h2, hat⟩ := h.at hp
 have HH := Lib.hid (And.intro h (And.intro hat hs))
 clear h hat hs h1 h2
 go_enter Tryz.func14, Tryz.ntmps14
 go_wp2_with fail
 go_loopw [8] (fun i wr => ∃ k : Nat, k ≤ fs.length ∧ i = .int .i64 k ∧ Old w wr) (fun i _ => fs.length - (intOf i).toNat)
 case atStart => exact ⟨0, by omega, rfl, Keeps.refl _ _⟩
 case round =>
  obtain ⟨k, hk, rfl, ho⟩ := hrel
  have HO := Lib.hid ho
  clear ho
  by_cases hlt : k < fs.length
  ·have hx : fs[k]? = some fs[k] := List.getElem?_eq_getElem hlt
   obtain ⟨g, bd, lb, hf, hent, hcall⟩ := HH.out.2.2 fs[k] (List.getElem_mem hlt)
   rw [hf] at hx
   have hcell := HO.out.cell (HH.out.2.1 k _ hx 0 _ rfl) (fun f => f)
   simp only [Nat.mul_one, Nat.add_zero] at hcell
   have HC := Lib.hid (hcall wr HO.out)
   clear hx hf hcall
   go_wp2_with fail
   go_goals
   refine HC.out.mono ?_
   rintro e w2 ⟨rfl, o2⟩
   have H2 := Lib.hid (HO.out.trans o2)
   clear o2
   go_wp2_with fail
   go_roundw
   case rel => exact ⟨k + 1, by omega, by go_num, H2.out⟩
   case measure => simp [intOf]; omega
  ·go_wp2_with fail
   go_ret
   exact ⟨rfl, HO.out⟩
end Go.Proofs.YtfnanbadbmmicaaGreatDoor

namespace Go.Proofs.YtfnanbadbmmicaaGreatDoor
open Go.RowKit

/-- a disk's four cells, as it is while the power is on and no fuse is set -/
def DkD (w : World) (d m : Nat) (q : Nat) : Prop := w.heap[d]? = some (.cells #[.map (some m), .int .i64 (q : Int), .int .i64 (-1), .bool false] 49 (0, 0))
/-- the map with one file, named log -/
def DkM (w : World) (m f : Nat) : Prop := w.heap[m]? = some (.map #[⟨.string logS, .pointer (some ⟨f, 0, none⟩), 0⟩] 1)
/-- a disk with the file log alone -/
structure Dk (w : World) (B d m f : Nat) (v : Value) (q : Nat) (L : List UInt8) (fast : Nat) : Prop where
 dd : DkD w d m q
 dm : DkM w m f
 df : w.heap[f]? = some (.cells #[v, .int .i64 (fast : Int)] 56 (0, 0))
 own : Owns w B v L
 ne : d ≠ m ∧ d ≠ f ∧ m ≠ f ∧ v.ownBlock ≠ some d ∧ v.ownBlock ≠ some m ∧ v.ownBlock ≠ some f
section
variable {w w' : World} {B d m f : Nat} {v : Value} {q : Nat} {L : List UInt8} {fast : Nat} {S : Nat → Prop}
theorem Dk.keeps (h : Dk w B d m f v q L fast) (k : Keeps S w w') (h1 : ¬ S d) (h2 : ¬ S m) (h3 : ¬ S f) (h4 : ∀ b, v.ownBlock = some b → ¬ S b) : Dk w' B d m f v q L fast :=
 ⟨(k.block _ (hp_lt h.dd) h1).trans h.dd, (k.block _ (hp_lt h.dm) h2).trans h.dm, (k.block _ (hp_lt h.df) h3).trans h.df, h.own.keeps k h4, h.ne⟩
theorem Dk.old (h : Dk w B d m f v q L fast) (k : Old w w') : Dk w' B d m f v q L fast := h.keeps k (fun f => f) (fun f => f) (fun f => f) (fun _ _ f => f)
theorem DkM.look (h : DkM w m f) : (Instr.lookup 47 (.map (some m)) (.string ⟨#[108, 111, 103]⟩) false).run Tryz.prog w = .ok (.pointer (some ⟨f, 0, none⟩)) w :=
 map_get (P := Tryz.prog) (r := some (0, .pointer (some ⟨f, 0, none⟩))) Tryz.underlying47 Tryz.underlying9 (by trivial) h (z := .pointer none) (by simp [go_sem]) (by rfl)
theorem DkM.lookNo (h : w.heap[m]? = some (.map #[] 0)) : (Instr.lookup 47 (.map (some m)) (.string ⟨#[108, 111, 103]⟩) false).run Tryz.prog w = .ok (.pointer none) w :=
 map_get (P := Tryz.prog) (r := none) Tryz.underlying47 Tryz.underlying9 (by trivial) h (z := .pointer none) (by simp [go_sem]) (by rfl)
end
theorem eql_map (m : Nat) (w : World) : (binOp .eql 47 (.map (some m)) (.map none)).run Tryz.prog w = .ok (.bool false) w := by
 simp only [binOp]
 simp [Op.equal, Op.maxDepth, run_equalIn_map_nil w 9999 47 9 54 (some m) Tryz.underlying47]

set_option maxRecDepth 100000 in
theorem answers_any (d m q : Nat) (w : World) (h : DkD w d m q) : Calls Tryz.prog 15 #[.pointer (some ⟨d, 0, none⟩)] w fun e w' => e = .returned (.int .i64 0) ∧ w = w' := by
 have em := eql_map m
 obtain ⟨⟨c0, c1, c2, c3⟩, ⟨f0, f1, f2, f3⟩⟩ := blk4 h
 clear h
 go_enter Tryz.func15, Tryz.ntmps15
 go_wp2_with fail
 go_ret
 exact ⟨rfl, rfl⟩
set_option maxRecDepth 100000 in
theorem burns_any (d m q : Nat) (w : World) (h : DkD w d m q) : Calls Tryz.prog 20 #[.pointer (some ⟨d, 0, none⟩)] w fun e w' => e = .returned (.int .i64 0) ∧ w = w' := by
 obtain ⟨⟨c0, c1, c2, c3⟩, ⟨f0, f1, f2, f3⟩⟩ := blk4 h
 clear h
 go_enter Tryz.func20, Tryz.ntmps20
 go_wp2_with fail
 go_ret
 exact ⟨rfl, rfl⟩
set_option maxRecDepth 100000 in
theorem there1_any (nb pb d m f q : Nat) (w : World) (hn : w.heap[nb]? = some (.cells #[.string logS] 9 (0, 0))) (hp : w.heap[pb]? = some (.cells #[.pointer (some ⟨d, 0, none⟩)] 26 (0, 0))) (h : DkD w d m q) (hm : DkM w m f) :
  Calls Tryz.prog 43 #[.pointer (some ⟨nb, 0, none⟩), .pointer (some ⟨pb, 0, none⟩)] w fun e w' => e = .returned (.int .i64 0) ∧ Old w w' := by
 have M := Lib.hid (may_log w)
 have H := Lib.hid (And.intro hn (And.intro hp (And.intro h hm)))
 have cn := (blk1 hn).1
 clear hn hp h hm
 go_enter Tryz.func43, Tryz.ntmps43
 go_wp2_with fail
 refine M.out.mono ?_
 rintro e w1 ⟨rfl, o1⟩
 have hd1 : DkD w1 d m q := (o1.block _ (hp_lt H.out.2.2.1) (fun f => f)).trans H.out.2.2.1
 have hm1 : DkM w1 m f := (o1.block _ (hp_lt H.out.2.2.2) (fun f => f)).trans H.out.2.2.2
 have cn1 := (blk1 ((o1.block _ (hp_lt H.out.1) (fun f => f)).trans H.out.1)).1
 have cp1 := (blk1 ((o1.block _ (hp_lt H.out.2.1) (fun f => f)).trans H.out.2.1)).1
 have c0 := (blk4 hd1).1.1
 have lk : ∀ n, (Instr.lookup 47 (.map (some m)) (.string ⟨#[108, 111, 103]⟩) false).run Tryz.prog (w1.drewN n) = .ok (.pointer (some ⟨f, 0, none⟩)) (w1.drewN n) := fun n => DkM.look (w := w1.drewN n) hm1
 have H1 := Lib.hid o1
 clear o1 hd1 hm1 cn
 go_wp2_with fail
 go_quiet (fail)
 go_wp2_with fail
 go_ret
 exact ⟨rfl, Old.drewN H1.out _⟩
set_option maxRecDepth 100000 in
theorem there_any (d : Nat) (w : World) : Calls Tryz.prog 27 #[.pointer (some ⟨d, 0, none⟩), .string logS] w fun e w' =>
  e = .returned (.func (.func 43) #[] #[.pointer (some ⟨w.heap.size + 1, 0, none⟩), .pointer (some ⟨w.heap.size, 0, none⟩)]) ∧ w'.heap[w.heap.size]? = some (.cells #[.pointer (some ⟨d, 0, none⟩)] 26 (0, 0)) ∧ w'.heap[w.heap.size + 1]? = some (.cells #[.string logS] 9 (0, 0)) ∧ Old w w' := by
 have a2 := heap_alloc_new (w.alloc (.cells #[.pointer (some ⟨d, 0, none⟩)] 26)) (.cells #[.string logS] 9)
 rw [World.size_alloc] at a2
 have H := Lib.hid (And.intro ((Below.heap_alloc (w.alloc (.cells #[.pointer (some ⟨d, 0, none⟩)] 26)) (.cells #[.string logS] 9) w.heap.size (by simp)).trans (heap_alloc_new w _)) (And.intro a2 (((Keeps.refl (fun _ => False) w).alloc (.cells #[.pointer (some ⟨d, 0, none⟩)] 26)).alloc (.cells #[.string logS] 9))))
 clear a2
 go_enter Tryz.func27, Tryz.ntmps27
 go_wp2_with fail
 go_ret
 exact ⟨rfl, H.out.1, H.out.2.1, H.out.2.2⟩
end Go.Proofs.YtfnanbadbmmicaaGreatDoor

namespace Go.Proofs.YtfnanbadbmmicaaGreatDoor
open Go.RowKit

def noR : Value → Option (DataW Unit × List MemPlace) := fun _ => some (.nil, [])
theorem DkM.owns {w : World} {m f : Nat} (h : DkM w m f) : w.ownsMap Tryz.prog 9 noR m 1 (.map [(.string [108, 111, 103], .nil)]) := by
 have hk : keyOf Tryz.prog 9 (.string logS) = some (.string [108, 111, 103]) := by kernel_rfl
 refine ⟨_, _, h, ⟨by simp [maxLen], MapKept.stamped_push (MapKept.stamped_empty 0) (by simp), fun x hx => ?_⟩, by simp, ?_⟩
 ·obtain rfl : x = ⟨.string logS, .pointer (some ⟨f, 0, none⟩), 0⟩ := by simpa using hx
  exact ⟨_, Go.WideElems.rd_mk (yv := (.nil, [])) hk rfl⟩
 ·have := Go.WideElems.rg_of (Go.WideElems.rd_mk (P := Tryz.prog) (k := 9) (R := noR) (val := .pointer (some ⟨f, 0, none⟩)) (born := 0) (yv := (.nil, [])) hk rfl)
  simp only [List.map_cons, List.map_nil, List.foldr_cons, List.foldr_nil, this]
  rfl
set_option maxRecDepth 100000 in
theorem names_any (d m f q : Nat) (w : World) (h : DkD w d m q) (hm : DkM w m f) : Calls Tryz.prog 30 #[.pointer (some ⟨d, 0, none⟩)] w fun e w' =>
  ∃ g c, e = .returned (.slice (some ⟨g, 0, none⟩) 1 c) ∧ w'.cell? ⟨g, 0, none⟩ = some (.string logS) ∧ Old w w' := by
 have A := Lib.hid (answers_any d m q w h)
 have K := Lib.hid ((callsIn_wide (n := 5)).1 (sh_maps_keys (some m) w))
 have S := Lib.hid ((callsIn_wide (n := 5)).1 (sh_sorted_keys m 1 (.map [(.string [108, 111, 103], .nil)]) noR w hm.owns (by decide) (by decide)))
 obtain ⟨⟨c0, c1, c2, c3⟩, _⟩ := blk4 h
 have HM := Lib.hid hm
 clear h hm
 go_enter Tryz.func30, Tryz.ntmps30
 go_wp2_with fail
 refine A.out.mono ?_
 rintro e w1 ⟨rfl, rfl⟩
 go_wp2_with fail
 refine K.out.mono ?_
 rintro e w1 ⟨rfl, rfl⟩
 go_wp2_with fail
 refine S.out.mono ?_
 rintro e w1 ⟨v, ss, rfl, hp, hown, hnil, hb⟩
 obtain rfl : ss = [[108, 111, 103]] := by
  have e : Go.strKeys (H := Unit) (.map [(.string [108, 111, 103], .nil)]) = [[108, 111, 103]] := rfl
  rw [e] at hp
  exact List.perm_singleton.1 hp
 obtain ⟨g, c, rfl⟩ := ownsRow_succ hown
 have hc : w1.cell? ⟨g, 0, none⟩ = some (.string logS) := by
  obtain ⟨_, hn | ⟨g', cap, cur, e, _, hg, _, _, _, ht⟩⟩ := hown
  ·simp at hn
  ·simp only [Value.slice.injEq, Option.some.injEq, Addr.mk.injEq, and_true] at e
   obtain ⟨rfl, _⟩ := e
   rw [cell_of_row w1 g 0 cur _ _ hg, ← Array.getElem?_toList]
   rw [List.mergeSort_singleton] at ht
   have this := congrArg (fun l => l[0]?) ht
   simp only [List.length_singleton, List.map_cons, List.map_nil, Nat.mul_one, List.getElem?_cons_zero, encStr] at this
   rw [List.getElem?_take] at this
   simpa using this
 have HR := Lib.hid (And.intro hc (((Keeps.refl (fun _ => False) w).alloc _).trans (Old.of_below hb (Nat.le_refl _))))
 clear hp hown hnil hb hc
 go_wp2_with fail
 go_ret
 exact ⟨g, c, rfl, HR.out.1, HR.out.2⟩
end Go.Proofs.YtfnanbadbmmicaaGreatDoor

namespace Go.Proofs.YtfnanbadbmmicaaGreatDoor
open Go.RowKit

set_option maxRecDepth 100000 in
theorem used_any (B d m f : Nat) (v : Value) (q : Nat) (L : List UInt8) (fast : Nat) (w : World) (h : Dk w B d m f v q L fast) (hl : L.length ≤ 1000000000) : Calls Tryz.prog 29 #[.pointer (some ⟨d, 0, none⟩)] w fun e w' => e = .returned (.int .i64 (L.length : Int)) ∧ Old w w' := by
 have N := Lib.hid (names_any d m f q w h.dd h.dm)
 have H := Lib.hid h
 clear h
 go_enter Tryz.func29, Tryz.ntmps29
 go_wp2_with fail
 refine N.out.mono ?_
 rintro e w1 ⟨g, c, rfl, hc, o1⟩
 have h1 := H.out.old o1
 have H1 := Lib.hid (And.intro h1 o1)
 obtain ⟨⟨c0, c1, c2, c3⟩, _⟩ := blk4 h1.dd
 obtain ⟨⟨x0, x1⟩, _⟩ := blk2 h1.df
 obtain ⟨p, cv, rfl, _, _⟩ := h1.own.sees.len
 have lk := DkM.look h1.dm
 clear h1 o1
 go_wp2_with fail
 go_loop [3, 9] (fun n i => (n = .int .i64 0 ∧ i = .int .i64 0) ∨ (n = .int .i64 (L.length : Int) ∧ i = .int .i64 1)) (fun _ i => 1 - (intOf i).toNat)
 case atStart => exact .inl ⟨rfl, rfl⟩
 case round =>
  rcases hrel with ⟨rfl, rfl⟩ | ⟨rfl, rfl⟩
  ·go_wp2_with fail
   go_round
   case rel => exact .inr ⟨by first | rfl | simp, by first | rfl | simp⟩
   case measure => simp [intOf]
  ·go_wp2_with fail
   go_ret
   exact ⟨rfl, H1.out.2⟩
end Go.Proofs.YtfnanbadbmmicaaGreatDoor

namespace Go.Proofs.YtfnanbadbmmicaaGreatDoor
open Go.RowKit

set_option maxRecDepth 100000 in
set_option maxHeartbeats 1000000 in
theorem append1_any (bb pb B d m f : Nat) (v : Value) (q : Nat) (L M : List UInt8) (fast : Nat) (u : Value) (w : World) (h : Dk w B d m f v q L fast) (hb : w.heap[bb]? = some (.cells #[u] 25 (0, 0))) (hu : Sees w u M)
  (hp : w.heap[pb]? = some (.cells #[.pointer (some ⟨d, 0, none⟩)] 26 (0, 0))) (hq : q ≤ 4194304) (hr : M.length + L.length ≤ q) :
  Calls Tryz.prog 28 #[.pointer (some ⟨bb, 0, none⟩), .pointer (some ⟨pb, 0, none⟩)] w fun e w' => e = .returned (.int .i64 0) ∧ Old w w' := by
 obtain ⟨p, cu, rfl, _, _⟩ := hu.len
 have U := Lib.hid (used_any B d m f v q L fast w.drew (h.old (Keeps.refl _ _).drew) (by omega))
 have c1 := (blk1 hb).1
 have c2 := (blk1 hp).1
 have c3 := (blk4 h.dd).1.2.1
 have hS : w.drew.cell? ⟨bb, 0, none⟩ = some (.slice p M.length cu) ∧ w.drew.cell? ⟨pb, 0, none⟩ = some (.pointer (some ⟨d, 0, none⟩)) ∧ w.drew.cell? ⟨d, 1, none⟩ = some (.int .i64 (q : Int)) := ⟨c1, c2, c3⟩
 have hw : IntKind.i64.wrap ((q : Int) - (L.length : Int)) = (q : Int) - (L.length : Int) := IntWalk.i64_in _ (by omega)
 have hd : decide ((q : Int) - (L.length : Int) < (M.length : Int)) = false := decide_eq_false (by omega)
 clear h hb hu hp c1 c2 c3 hq hr
 go_enter Tryz.func28, Tryz.ntmps28
 go_wp2_with fail
 refine wp_region_g (S := fun W => W.cell? ⟨bb, 0, none⟩ = some (.slice p M.length cu) ∧ W.cell? ⟨pb, 0, none⟩ = some (.pointer (some ⟨d, 0, none⟩)) ∧ W.cell? ⟨d, 1, none⟩ = some (.int .i64 (q : Int))) (M := [0, 1, 2, 3, 4, 5, 6, 7, 8, 9, 10, 11, 12]) (by kernel_rfl) ?_
 refine wpAnyG_takeL (i := 0) (oi := _) (v := ?va0) rfl (by kernel_rfl) (by kernel_rfl) (by kernel_rfl) (by kernel_rfl) (fun _ _ _ h => h) (Or.inl ⟨by rfl, ?ya0⟩) hS ?ra0
 case ya0 => (intro W hSw; obtain ⟨y1, y2, y3⟩ := hSw; go_simp; try with_reducible rfl)
 try simp only [Act.put, List.setIfInBounds_toArray, List.set_cons_zero, List.set_cons_succ]
 refine wpAnyG_takeL (i := 1) (oi := _) (v := ?va1) rfl (by kernel_rfl) (by kernel_rfl) (by kernel_rfl) (by kernel_rfl) (fun _ _ _ h => h) (Or.inl ⟨by rfl, ?ya1⟩) hS ?ra1
 case ya1 => (intro W hSw; go_simp; try with_reducible rfl)
 try simp only [Act.put, List.setIfInBounds_toArray, List.set_cons_zero, List.set_cons_succ]
 refine wpAnyG_takeL (i := 2) (oi := _) (v := ?va2) rfl (by kernel_rfl) (by kernel_rfl) (by kernel_rfl) (by kernel_rfl) (fun _ _ _ h => h) (Or.inl ⟨by rfl, ?ya2⟩) hS ?ra2
 case ya2 => (intro W hSw; obtain ⟨y1, y2, y3⟩ := hSw; go_simp; try with_reducible rfl)
 try simp only [Act.put, List.setIfInBounds_toArray, List.set_cons_zero, List.set_cons_succ]
 refine wpAnyG_takeL (i := 3) (oi := _) (v := ?va3) rfl (by kernel_rfl) (by kernel_rfl) (by kernel_rfl) (by kernel_rfl) (fun _ _ _ h => h) (Or.inl ⟨by rfl, ?ya3⟩) hS ?ra3
 case ya3 => (intro W hSw; go_simp; try with_reducible rfl)
 try simp only [Act.put, List.setIfInBounds_toArray, List.set_cons_zero, List.set_cons_succ]
 refine wpAnyG_takeL (i := 4) (oi := _) (v := ?va4) rfl (by kernel_rfl) (by kernel_rfl) (by kernel_rfl) (by kernel_rfl) (fun _ _ _ h => h) (Or.inl ⟨by rfl, ?ya4⟩) hS ?ra4
 case ya4 => (intro W hSw; go_simp; try with_reducible rfl)
 try simp only [Act.put, List.setIfInBounds_toArray, List.set_cons_zero, List.set_cons_succ]
 refine wpAnyG_takeL (i := 5) (oi := _) (v := ?va5) rfl (by kernel_rfl) (by kernel_rfl) (by kernel_rfl) (by kernel_rfl) (fun _ _ _ h => h) (Or.inl ⟨by rfl, ?ya5⟩) hS ?ra5
 case ya5 => (intro W hSw; obtain ⟨y1, y2, y3⟩ := hSw; go_simp; try with_reducible rfl)
 try simp only [Act.put, List.setIfInBounds_toArray, List.set_cons_zero, List.set_cons_succ]
 refine wpAnyG_takeL (i := 6) (oi := _) (v := ?va6) rfl (by kernel_rfl) (by kernel_rfl) (by kernel_rfl) (by kernel_rfl) (fun _ _ _ h => h) (Or.inl ⟨by rfl, ?ya6⟩) hS ?ra6
 case ya6 => (intro W hSw; obtain ⟨y1, y2, y3⟩ := hSw; go_simp; try with_reducible rfl)
 try simp only [Act.put, List.setIfInBounds_toArray, List.set_cons_zero, List.set_cons_succ]
 refine wpAnyG_onlyL (i := 7) (o := _) (by kernel_rfl) rfl (fun K hK => ?_)
 go_simp
 refine U.out.mono ?_
 rintro e w1 ⟨rfl, o1⟩
 have hS1 : w1.cell? ⟨bb, 0, none⟩ = some (.slice p M.length cu) ∧ w1.cell? ⟨pb, 0, none⟩ = some (.pointer (some ⟨d, 0, none⟩)) ∧ w1.cell? ⟨d, 1, none⟩ = some (.int .i64 (q : Int)) := ⟨o1.cell hS.1 (fun f => f), o1.cell hS.2.1 (fun f => f), o1.cell hS.2.2 (fun f => f)⟩
 have H1 := Lib.hid (((Keeps.refl (fun _ => False) w).drew).trans o1)
 have W1 := Lib.hid (wrong_no 7 w1)
 clear o1
 go_wp2_with fail
 refine hK.out _ _ (fun _ => hS1) ?_
 clear hK K
 try simp only [Act.put, List.setIfInBounds_toArray, List.set_cons_zero, List.set_cons_succ]
 refine wpAnyG_takeL (i := 8) (oi := _) (v := ?va8) rfl (by kernel_rfl) (by kernel_rfl) (by kernel_rfl) (by kernel_rfl) (fun _ _ _ h => h) (Or.inl ⟨by rfl, ?ya8⟩) hS1 ?ra8
 case ya8 => (intro W hSw; go_simp; try with_reducible rfl)
 try simp only [Act.put, List.setIfInBounds_toArray, List.set_cons_zero, List.set_cons_succ]
 refine wpAnyG_takeL (i := 9) (oi := _) (v := ?va9) rfl (by kernel_rfl) (by kernel_rfl) (by kernel_rfl) (by kernel_rfl) (fun _ _ _ h => h) (Or.inl ⟨by rfl, ?ya9⟩) hS1 ?ra9
 case ya9 => (intro W hSw; go_simp; try with_reducible rfl)
 try simp only [Act.put, List.setIfInBounds_toArray, List.set_cons_zero, List.set_cons_succ]
 refine wpAnyG_onlyL (i := 10) (o := _) (by kernel_rfl) rfl (fun K hK => ?_)
 go_simp
 refine W1.out.mono ?_
 rintro e w2 ⟨rfl, hc, o2⟩
 have hS2 : w2.cell? ⟨bb, 0, none⟩ = some (.slice p M.length cu) ∧ w2.cell? ⟨pb, 0, none⟩ = some (.pointer (some ⟨d, 0, none⟩)) ∧ w2.cell? ⟨d, 1, none⟩ = some (.int .i64 (q : Int)) := ⟨o2.cell hS1.1 (fun f => f), o2.cell hS1.2.1 (fun f => f), o2.cell hS1.2.2 (fun f => f)⟩
 have H2 := Lib.hid (H1.out.trans o2)
 have W2 := Lib.hid (wrong1_no w1.heap.size (w1.heap.size + 1) 7 w2 hc)
 clear o2 hc
 go_wp2_with fail
 refine hK.out _ _ (fun _ => hS2) ?_
 clear hK K
 try simp only [Act.put, List.setIfInBounds_toArray, List.set_cons_zero, List.set_cons_succ]
 refine wpAnyG_onlyL (i := 11) (o := _) (by kernel_rfl) rfl (fun K hK => ?_)
 go_simp
 refine W2.out.mono ?_
 rintro e w3 ⟨rfl, rfl⟩
 go_wp2_with fail
 refine hK.out _ _ (fun _ => hS2) ?_
 clear hK K
 try simp only [Act.put, List.setIfInBounds_toArray, List.set_cons_zero, List.set_cons_succ]
 refine wpAnyG_takeL (i := 12) (oi := _) (v := ?va12) rfl (by kernel_rfl) (by kernel_rfl) (by kernel_rfl) (by kernel_rfl) (fun _ _ _ h => h) (Or.inl ⟨by rfl, ?ya12⟩) hS2 ?ra12
 case ya12 => (intro W hSw; go_simp; try with_reducible rfl)
 try simp only [Act.put, List.setIfInBounds_toArray, List.set_cons_zero, List.set_cons_succ]
 refine wpAnyG_done (by kernel_rfl) ?_ _
 go_simp
 go_wp2_with fail
 go_ret
 exact ⟨rfl, H2.out⟩
end Go.Proofs.YtfnanbadbmmicaaGreatDoor

namespace Go.Proofs.YtfnanbadbmmicaaGreatDoor
open Go.RowKit

theorem len_none (m : Nat) (w : World) (hm : w.heap[m]? = some (.map #[] 0)) : (Builtin.len_ #[47] 3 #[.map (some m)]).run Tryz.prog w = .ok (.int .i64 0) w := by
 simp [Builtin.len_, run_underlying Tryz.underlying47, MapKept.run_getObj_map hm, Result.andThen, go_sem]
theorem neq_file (w : World) : (binOp .neq 54 (.pointer none) (.pointer none)).run Tryz.prog w = .ok (.bool false) w := by simp [go_sem]
set_option maxRecDepth 100000 in
set_option maxHeartbeats 1000000 in
theorem create1_any (pb nb d m q : Nat) (w : World) (h : DkD w d m q) (hm : w.heap[m]? = some (.map #[] 0)) (hp : w.heap[pb]? = some (.cells #[.pointer (some ⟨d, 0, none⟩)] 26 (0, 0))) (hn : w.heap[nb]? = some (.cells #[.string logS] 9 (0, 0))) :
  Calls Tryz.prog 18 #[.pointer (some ⟨pb, 0, none⟩), .pointer (some ⟨nb, 0, none⟩)] w fun e w' => e = .returned (.int .i64 0) ∧ Old w w' := by
 have c1 := (blk1 hn).1
 have c2 := (blk1 hp).1
 have c3 := (blk4 h).1.1
 have hS : w.drew.cell? ⟨pb, 0, none⟩ = some (.pointer (some ⟨d, 0, none⟩)) ∧ w.drew.cell? ⟨nb, 0, none⟩ = some (.string ⟨#[108, 111, 103]⟩) ∧ w.drew.cell? ⟨d, 0, none⟩ = some (.map (some m)) ∧ w.drew.heap[m]? = some (.map #[] 0) := ⟨c2, c1, c3, hm⟩
 have W1 := Lib.hid (wrong_no 9 w.drew)
 clear h hm hp hn c1 c2 c3
 go_enter Tryz.func18, Tryz.ntmps18
 go_wp2_with fail
 refine wp_region_g (S := fun W => W.cell? ⟨pb, 0, none⟩ = some (.pointer (some ⟨d, 0, none⟩)) ∧ W.cell? ⟨nb, 0, none⟩ = some (.string ⟨#[108, 111, 103]⟩) ∧ W.cell? ⟨d, 0, none⟩ = some (.map (some m)) ∧ W.heap[m]? = some (.map #[] 0)) (M := [0, 1, 2, 3, 4, 5, 6, 7, 8, 9]) (by kernel_rfl) ?_
 refine wpAnyG_takeL (i := 0) (oi := _) (v := ?va0) rfl (by kernel_rfl) (by kernel_rfl) (by kernel_rfl) (by kernel_rfl) (fun _ _ _ h => h) (Or.inl ⟨by rfl, ?ya0⟩) hS ?ra0
 case ya0 => (intro W hSw; obtain ⟨y1, y2, y3, y4⟩ := hSw; go_simp; try with_reducible rfl)
 try simp only [Act.put, List.setIfInBounds_toArray, List.set_cons_zero, List.set_cons_succ]
 refine wpAnyG_takeL (i := 1) (oi := _) (v := ?va1) rfl (by kernel_rfl) (by kernel_rfl) (by kernel_rfl) (by kernel_rfl) (fun _ _ _ h => h) (Or.inl ⟨by rfl, ?ya1⟩) hS ?ra1
 case ya1 => (intro W hSw; go_simp; try with_reducible rfl)
 try simp only [Act.put, List.setIfInBounds_toArray, List.set_cons_zero, List.set_cons_succ]
 refine wpAnyG_takeL (i := 2) (oi := _) (v := ?va2) rfl (by kernel_rfl) (by kernel_rfl) (by kernel_rfl) (by kernel_rfl) (fun _ _ _ h => h) (Or.inl ⟨by rfl, ?ya2⟩) hS ?ra2
 case ya2 => (intro W hSw; go_simp; try with_reducible rfl)
 try simp only [Act.put, List.setIfInBounds_toArray, List.set_cons_zero, List.set_cons_succ]
 refine wpAnyG_takeL (i := 3) (oi := _) (v := ?va3) rfl (by kernel_rfl) (by kernel_rfl) (by kernel_rfl) (by kernel_rfl) (fun _ _ _ h => h) (Or.inl ⟨by rfl, ?ya3⟩) hS ?ra3
 case ya3 => (intro W hSw; obtain ⟨y1, y2, y3, y4⟩ := hSw; go_simp; try with_reducible rfl)
 try simp only [Act.put, List.setIfInBounds_toArray, List.set_cons_zero, List.set_cons_succ]
 refine wpAnyG_takeL (i := 4) (oi := _) (v := ?va4) rfl (by kernel_rfl) (by kernel_rfl) (by kernel_rfl) (by kernel_rfl) (fun _ _ _ h => h) (Or.inl ⟨by rfl, ?ya4⟩) hS ?ra4
 case ya4 => (intro W hSw; obtain ⟨y1, y2, y3, y4⟩ := hSw; go_simp; try with_reducible rfl)
 try simp only [Act.put, List.setIfInBounds_toArray, List.set_cons_zero, List.set_cons_succ]
 refine wpAnyG_takeL (i := 5) (oi := _) (v := ?va5) rfl (by kernel_rfl) (by kernel_rfl) (by kernel_rfl) (by kernel_rfl) (fun _ _ _ h => h) (Or.inl ⟨by rfl, ?ya5⟩) hS ?ra5
 case ya5 => (intro W hSw; obtain ⟨y1, y2, y3, y4⟩ := hSw; have lk := DkM.lookNo y4; go_simp; try with_reducible rfl)
 try simp only [Act.put, List.setIfInBounds_toArray, List.set_cons_zero, List.set_cons_succ]
 refine wpAnyG_takeL (i := 6) (oi := _) (v := ?va6) rfl (by kernel_rfl) (by kernel_rfl) (by kernel_rfl) (by kernel_rfl) (fun _ _ _ h => h) (Or.inl ⟨by rfl, ?ya6⟩) hS ?ra6
 case ya6 => (intro W hSw; go_simp; try with_reducible rfl)
 try simp only [Act.put, List.setIfInBounds_toArray, List.set_cons_zero, List.set_cons_succ]
 refine wpAnyG_onlyL (i := 7) (o := _) (by kernel_rfl) rfl (fun K hK => ?_)
 go_simp
 refine W1.out.mono ?_
 rintro e w2 ⟨rfl, hc, o2⟩
 have hS2 : w2.cell? ⟨pb, 0, none⟩ = some (.pointer (some ⟨d, 0, none⟩)) ∧ w2.cell? ⟨nb, 0, none⟩ = some (.string ⟨#[108, 111, 103]⟩) ∧ w2.cell? ⟨d, 0, none⟩ = some (.map (some m)) ∧ w2.heap[m]? = some (.map #[] 0) := ⟨o2.cell hS.1 (fun f => f), o2.cell hS.2.1 (fun f => f), o2.cell hS.2.2.1 (fun f => f), (o2.block _ (hp_lt hS.2.2.2) (fun f => f)).trans hS.2.2.2⟩
 have H2 := Lib.hid (((Keeps.refl (fun _ => False) w).drew).trans o2)
 have W2 := Lib.hid (wrong1_no w.drew.heap.size (w.drew.heap.size + 1) 9 w2 hc)
 clear o2 hc
 go_wp2_with fail
 refine hK.out _ _ (fun _ => hS2) ?_
 clear hK K
 try simp only [Act.put, List.setIfInBounds_toArray, List.set_cons_zero, List.set_cons_succ]
 refine wpAnyG_onlyL (i := 8) (o := _) (by kernel_rfl) rfl (fun K hK => ?_)
 go_simp
 refine W2.out.mono ?_
 rintro e w3 ⟨rfl, rfl⟩
 go_wp2_with fail
 refine hK.out _ _ (fun _ => hS2) ?_
 clear hK K
 try simp only [Act.put, List.setIfInBounds_toArray, List.set_cons_zero, List.set_cons_succ]
 refine wpAnyG_takeL (i := 9) (oi := _) (v := ?va9) rfl (by kernel_rfl) (by kernel_rfl) (by kernel_rfl) (by kernel_rfl) (fun _ _ _ h => h) (Or.inl ⟨by rfl, ?ya9⟩) hS2 ?ra9
 case ya9 => (intro W hSw; go_simp; try with_reducible rfl)
 try simp only [Act.put, List.setIfInBounds_toArray, List.set_cons_zero, List.set_cons_succ]
 refine wpAnyG_done (by kernel_rfl) ?_ _
 go_simp
 go_wp2_with fail
 go_ret
 exact ⟨rfl, H2.out⟩
set_option maxRecDepth 100000 in
set_option maxHeartbeats 1000000 in
theorem create2_any (pb d m q : Nat) (w : World) (h : DkD w d m q) (hm : w.heap[m]? = some (.map #[] 0)) (hp : w.heap[pb]? = some (.cells #[.pointer (some ⟨d, 0, none⟩)] 26 (0, 0))) :
  Calls Tryz.prog 19 #[.pointer (some ⟨pb, 0, none⟩)] w fun e w' => e = .returned (.int .i64 0) ∧ Old w w' := by
 have c2 := (blk1 hp).1
 have c3 := (blk4 h).1.1
 have W1 := Lib.hid (wrong_no 7 w)
 have hg := len_none m w hm
 clear h hm hp
 go_enter Tryz.func19, Tryz.ntmps19
 go_wp2_with fail
 go_goals
 refine W1.out.mono ?_
 rintro e w2 ⟨rfl, hc, o2⟩
 have H2 := Lib.hid o2
 have W2 := Lib.hid (wrong1_no w.heap.size (w.heap.size + 1) 7 w2 hc)
 clear o2 hc
 go_wp2_with fail
 refine W2.out.mono ?_
 rintro e w3 ⟨rfl, rfl⟩
 go_wp2_with fail
 go_ret
 exact ⟨rfl, H2.out⟩
end Go.Proofs.YtfnanbadbmmicaaGreatDoor

namespace Go.Proofs.YtfnanbadbmmicaaGreatDoor
open Go.RowKit

theorem enters_answers : ∀ args W, (callFunc 15 args).run Tryz.prog W = .ok (.enter 15 args) W := fun args W => by simp [go_sem, callFunc, Tryz.func15]; rfl
theorem enters_burns : ∀ args W, (callFunc 20 args).run Tryz.prog W = .ok (.enter 20 args) W := fun args W => by simp [go_sem, callFunc, Tryz.func20]; rfl
theorem enters_wrong1 : ∀ args W, (callFunc 36 args).run Tryz.prog W = .ok (.enter 36 args) W := fun args W => by simp [go_sem, callFunc, Tryz.func36]; rfl
theorem enters_create1 : ∀ args W, (callFunc 18 args).run Tryz.prog W = .ok (.enter 18 args) W := fun args W => by simp [go_sem, callFunc, Tryz.func18]; rfl
theorem enters_create2 : ∀ args W, (callFunc 19 args).run Tryz.prog W = .ok (.enter 19 args) W := fun args W => by simp [go_sem, callFunc, Tryz.func19]; rfl
theorem enters_there1 : ∀ args W, (callFunc 43 args).run Tryz.prog W = .ok (.enter 43 args) W := fun args W => by simp [go_sem, callFunc, Tryz.func43]; rfl
theorem enters_append1 : ∀ args W, (callFunc 28 args).run Tryz.prog W = .ok (.enter 28 args) W := fun args W => by simp [go_sem, callFunc, Tryz.func28]; rfl
theorem DkD.old {w w' : World} {d m q : Nat} (h : DkD w d m q) (k : Old w w') : DkD w' d m q := (k.block _ (hp_lt h) (fun f => f)).trans h
theorem DkM.old {w w' : World} {m f : Nat} (h : DkM w m f) (k : Old w w') : DkM w' m f := (k.block _ (hp_lt h) (fun f => f)).trans h
theorem asks_answers {d m q : Nat} {w : World} (h : DkD w d m q) : Asks w (.func (.func 15) #[.pointer (some ⟨d, 0, none⟩)] #[]) :=
 ⟨_, _, _, rfl, enters_answers, fun W k => (answers_any d m q W (h.old k)).mono fun _ _ ⟨e, k2⟩ => ⟨e, by subst k2; exact Keeps.refl _ _⟩⟩
theorem asks_burns {d m q : Nat} {w : World} (h : DkD w d m q) : Asks w (.func (.func 20) #[.pointer (some ⟨d, 0, none⟩)] #[]) :=
 ⟨_, _, _, rfl, enters_burns, fun W k => (burns_any d m q W (h.old k)).mono fun _ _ ⟨e, k2⟩ => ⟨e, by subst k2; exact Keeps.refl _ _⟩⟩
theorem asks_wrong {ib eb : Nat} {w : World} (h : w.heap[ib]? = some (.cells #[.bool false] 4 (0, 0))) : Asks w (.func (.func 36) #[] #[.pointer (some ⟨ib, 0, none⟩), .pointer (some ⟨eb, 0, none⟩)]) :=
 ⟨_, _, _, rfl, enters_wrong1, fun W k => (wrong1_no ib eb 0 W ((k.block _ (hp_lt h) (fun f => f)).trans h)).mono fun _ _ ⟨e, k2⟩ => ⟨e, by subst k2; exact Keeps.refl _ _⟩⟩
theorem asks_create1 {pb nb d m q : Nat} {w : World} (h : DkD w d m q) (hm : w.heap[m]? = some (.map #[] 0)) (hp : w.heap[pb]? = some (.cells #[.pointer (some ⟨d, 0, none⟩)] 26 (0, 0))) (hn : w.heap[nb]? = some (.cells #[.string logS] 9 (0, 0))) :
  Asks w (.func (.func 18) #[] #[.pointer (some ⟨pb, 0, none⟩), .pointer (some ⟨nb, 0, none⟩)]) :=
 ⟨_, _, _, rfl, enters_create1, fun W k => create1_any pb nb d m q W (h.old k) ((k.block _ (hp_lt hm) (fun f => f)).trans hm) ((k.block _ (hp_lt hp) (fun f => f)).trans hp) ((k.block _ (hp_lt hn) (fun f => f)).trans hn)⟩
theorem asks_create2 {pb d m q : Nat} {w : World} (h : DkD w d m q) (hm : w.heap[m]? = some (.map #[] 0)) (hp : w.heap[pb]? = some (.cells #[.pointer (some ⟨d, 0, none⟩)] 26 (0, 0))) :
  Asks w (.func (.func 19) #[] #[.pointer (some ⟨pb, 0, none⟩)]) :=
 ⟨_, _, _, rfl, enters_create2, fun W k => create2_any pb d m q W (h.old k) ((k.block _ (hp_lt hm) (fun f => f)).trans hm) ((k.block _ (hp_lt hp) (fun f => f)).trans hp)⟩
theorem asks_there {nb pb d m f q : Nat} {w : World} (h : DkD w d m q) (hm : DkM w m f) (hp : w.heap[pb]? = some (.cells #[.pointer (some ⟨d, 0, none⟩)] 26 (0, 0))) (hn : w.heap[nb]? = some (.cells #[.string logS] 9 (0, 0))) :
  Asks w (.func (.func 43) #[] #[.pointer (some ⟨nb, 0, none⟩), .pointer (some ⟨pb, 0, none⟩)]) :=
 ⟨_, _, _, rfl, enters_there1, fun W k => there1_any nb pb d m f q W ((k.block _ (hp_lt hn) (fun f => f)).trans hn) ((k.block _ (hp_lt hp) (fun f => f)).trans hp) (h.old k) (hm.old k)⟩

set_option maxRecDepth 100000 in
theorem disk_new_any (q : Nat) (w : World) (hq : q ≤ 4194304) : Calls Tryz.prog 4 #[.int .i64 (q : Int)] w fun e w' => e = .returned (.tuple #[.pointer (some ⟨w.heap.size + 1, 0, none⟩), .int .i64 0]) ∧ DkD w' (w.heap.size + 1) w.heap.size q ∧ w'.heap[w.heap.size]? = some (.map #[] 0) ∧ Old w w' := by
 have b0 : decide ((q : Int) < 0) = false := decide_eq_false (by omega)
 have b1 : decide ((4194304 : Int) < (q : Int)) = false := decide_eq_false (by omega)
 have hmm := @run_makeMap Tryz.prog
 have a2 := heap_alloc_new (w.alloc (.map #[] 0)) (.cells #[.map (some w.heap.size), .int .i64 (q : Int), .int .i64 (-1), .bool false] 49)
 rw [World.size_alloc] at a2
 have H := Lib.hid (And.intro a2 (And.intro ((Below.heap_alloc (w.alloc (.map #[] 0)) (.cells #[.map (some w.heap.size), .int .i64 (q : Int), .int .i64 (-1), .bool false] 49) w.heap.size (by simp)).trans (heap_alloc_new w _)) (((Keeps.refl (fun _ => False) w).alloc (.map #[] 0)).alloc (.cells #[.map (some w.heap.size), .int .i64 (q : Int), .int .i64 (-1), .bool false] 49))))
 clear a2
 go_enter Tryz.func4, Tryz.ntmps4
 go_wp2_with fail
 go_ret2
 exact ⟨rfl, H.out.1, H.out.2.1, H.out.2.2⟩
end Go.Proofs.YtfnanbadbmmicaaGreatDoor
