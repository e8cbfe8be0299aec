/- DERIVED. index: holding: what a constraint's entries lie between. -/
import Derived.Test.YtehmlaplodjenaaGreatZTopDual11
import Derived.Deep.DeepCutAuto
import Derived.Laws.EntriesVeiled
set_option maxRecDepth 100000
set_option maxHeartbeats 4000000
namespace Go.Proofs.YtehmlaplodjenaaGreat
section
open Go.RowKit
def Sorted5 (L : List En) : Prop := L.Pairwise fun x y => valCmp x.v y.v ≤ 0
theorem Sorted5.le {L : List En} (h : Sorted5 L) {i j : Nat} {x y : En} (hij : i ≤ j) (hx : L[i]? = some x) (hy : L[j]? = some y) : valCmp x.v y.v ≤ 0 := by
 by_cases e : i = j
 ·subst e
  rw [hx] at hy
  simp only [Option.some.injEq] at hy
  subst hy
  rw [valCmp_self]
  omega
 ·obtain ⟨hi, rfl⟩ := List.getElem?_eq_some_iff.1 hx
  obtain ⟨hj, rfl⟩ := List.getElem?_eq_some_iff.1 hy
  exact List.pairwise_iff_getElem.1 h i j hi hj (by omega)
theorem Sorted5.mono {L : List En} (h : Sorted5 L) {p : Val → Bool} (hp : ∀ x y, valCmp x y ≤ 0 → p x = true → p y = true) : Mono (fun x => !p x.v) L := by
 intro i j x y hij hx hy hq
 cases hpx : p x.v with
 | false => simp [hpx]
 | true =>
  have h9 : (!p y.v) = true := hq
  rw [hp _ _ (h.le hij hx hy) hpx] at h9
  cases h9
theorem between_law {P : PCon} {L : List En} (h2 : 2 ≤ P.op) (h8 : P.op ≤ 8) {i j : Nat} (hi : SplitS (fun x => !lowP P x.v) L i) (hj : SplitS (fun x => !highP P x.v) L j) :
  i ≤ j ∧ (∀ x ∈ (L.take j).drop i, x ∈ L) ∧ ((L.take j).drop i).length ≤ L.length ∧ ∀ x ∈ L, asksV P x.v = true → x ∈ (L.take j).drop i := by
 refine ⟨?_, fun x hx => List.mem_of_mem_take (List.mem_of_mem_drop hx), by simp; omega, fun x hx ha => ?_⟩
 ·refine Nat.le_of_not_lt fun hji => ?_
  have hlt : j < L.length := by have := hi.1; omega
  obtain ⟨x, hx⟩ : ∃ x, L[j]? = some x := ⟨_, List.getElem?_eq_getElem hlt⟩
  have a1 := hi.2.1 j x hji hx
  have a2 := hj.2.2 j x (Nat.le_refl _) hx
  simp only [Bool.not_eq_true', Bool.not_eq_false'] at a1 a2
  rw [high_low h2 h8 a2] at a1
  cases a1
 ·obtain ⟨k, hk, rfl⟩ := List.mem_iff_getElem.1 hx
  obtain ⟨hl, hh⟩ := asks_between h2 h8 ha
  have hik : i ≤ k := Nat.le_of_not_lt fun hki => by
   have := hi.2.1 k _ hki (List.getElem?_eq_getElem hk)
   simp only [hl] at this
   cases this
  have hkj : k < j := Nat.lt_of_not_le fun hjk => by
   have := hj.2.2 k _ hjk (List.getElem?_eq_getElem hk)
   simp only [hh] at this
   cases this
  rw [List.mem_iff_getElem?]
  refine ⟨k - i, ?_⟩
  rw [List.getElem?_drop, show i + (k - i) = k by omega, List.getElem?_take, if_pos hkj, List.getElem?_eq_getElem hk]
def HoldPost (L : List En) (c : Con) (w : World) (e : Ending) (w' : World) : Prop :=
 ∃ v' L', e = .returned v' ∧ SeesR w' 5 En.cells v' L' ∧ (∀ x ∈ L', x ∈ L) ∧ L'.length ≤ L.length ∧ (∀ x ∈ L, asksV c.plain x.v = true → x ∈ L') ∧ Old w w'
theorem holding1_any (v : Value) (L : List En) (c : Con) (w : World) (h : SeesR w 5 En.cells v L) (hs : SeesV w c.sv c.set) (ho : c.op = 1) :
  Calls Tryz.prog 27 #[v, .agg c.cells.toArray] w (HoldPost L c w) := by
 obtain ⟨p, n, rfl, _, hnm⟩ := h.len
 obtain ⟨ps, cc, e9, _, _⟩ := hs.len
 obtain ⟨C, hC⟩ : ∃ C, c = C := ⟨_, rfl⟩
 have hcl : c.cells = C.cells := by rw [hC]
 obtain ⟨W1, hW1⟩ : ∃ W1, ((w.alloc (.cells c.cells.toArray 78)).alloc (.cells #[.func (.func 67) #[] #[.pointer (some ⟨w.heap.size, 0, none⟩)]] 72)).alloc (.cells #[.func (.func 68) #[] #[.pointer (some ⟨w.heap.size, 0, none⟩)]] 72) = W1 := ⟨_, rfl⟩
 have o1 : Old w W1 := by rw [← hW1]; exact (((Keeps.refl _ _).alloc _).alloc _).alloc _
 obtain ⟨b1, b2, b3, z1⟩ := three_blocks w (.cells c.cells.toArray 78) (.cells #[.func (.func 67) #[] #[.pointer (some ⟨w.heap.size, 0, none⟩)]] 72) (.cells #[.func (.func 68) #[] #[.pointer (some ⟨w.heap.size, 0, none⟩)]] 72)
 rw [hW1] at b1 b2 b3
 have F1 := Lib.hid (And.intro o1 (And.intro b1 (And.intro b2 b3)))
 have HL := Lib.hid h
 clear h hs o1 z1 hcl hC
 obtain ⟨nm, op, ⟨ck, cn, cs, ci⟩, sv, set⟩ := c
 simp only at ho e9
 subst ho e9
 simp only [Con.cells] at b1 hW1 ⊢
 have q2 := blk1 b2
 have q2' := OldOf.cell q2.1
 clear b1 b2 b3
 go_enter Tryz.func27, Tryz.ntmps27
 go_upto_region 5 with fail
 clear q2
 try rw [hW1]
 clear hW1
 refine wp_region_quiet_old (by kernel_rfl) (by kernel_rfl) ?_
 repeat (go_big_quiet_step ((fail)))
 refine wpQuiet_nil ?_
 intro _ hpq
 obtain ⟨pq, hpq'⟩ := hpq
 subst hpq'
 have q1 := blk7 ((pq.old.block _ (lt_of_heap F1.out.2.1) (fun f => f)).trans F1.out.2.1)
 clear q2'
 have OZ := Lib.hid (F1.out.1.trans pq.old)
 go_wp2_with fail
 go_ret
 exact ⟨_, L, rfl, HL.out.old OZ.out, fun x hx => hx, Nat.le_refl _, fun x hx _ => hx, OZ.out⟩
theorem holding9_any (v : Value) (L : List En) (c : Con) (w : World) (h : SeesR w 5 En.cells v L) (hs : SeesV w c.sv c.set) (ho : c.op = 9) :
  Calls Tryz.prog 27 #[v, .agg c.cells.toArray] w (HoldPost L c w) := by
 obtain ⟨p, n, rfl, _, hnm⟩ := h.len
 obtain ⟨ps, cc, e9, _, _⟩ := hs.len
 obtain ⟨C, hC⟩ : ∃ C, c = C := ⟨_, rfl⟩
 have hcl : c.cells = C.cells := by rw [hC]
 obtain ⟨W1, hW1⟩ : ∃ W1, ((w.alloc (.cells c.cells.toArray 78)).alloc (.cells #[.func (.func 67) #[] #[.pointer (some ⟨w.heap.size, 0, none⟩)]] 72)).alloc (.cells #[.func (.func 68) #[] #[.pointer (some ⟨w.heap.size, 0, none⟩)]] 72) = W1 := ⟨_, rfl⟩
 have o1 : Old w W1 := by rw [← hW1]; exact (((Keeps.refl _ _).alloc _).alloc _).alloc _
 obtain ⟨b1, b2, b3, z1⟩ := three_blocks w (.cells c.cells.toArray 78) (.cells #[.func (.func 67) #[] #[.pointer (some ⟨w.heap.size, 0, none⟩)]] 72) (.cells #[.func (.func 68) #[] #[.pointer (some ⟨w.heap.size, 0, none⟩)]] 72)
 rw [hW1] at b1 b2 b3
 have F1 := Lib.hid (And.intro o1 (And.intro b1 (And.intro b2 b3)))
 have HL := Lib.hid h
 clear h hs o1 z1 hcl hC
 obtain ⟨nm, op, ⟨ck, cn, cs, ci⟩, sv, set⟩ := c
 simp only at ho e9
 subst ho e9
 simp only [Con.cells] at b1 hW1 ⊢
 have q2 := blk1 b2
 have q2' := OldOf.cell q2.1
 clear b1 b2 b3
 go_enter Tryz.func27, Tryz.ntmps27
 go_upto_region 5 with fail
 clear q2
 try rw [hW1]
 clear hW1
 refine wp_region_quiet_old (by kernel_rfl) (by kernel_rfl) ?_
 repeat (go_big_quiet_step ((fail)))
 refine wpQuiet_nil ?_
 intro _ hpq
 obtain ⟨pq, hpq'⟩ := hpq
 subst hpq'
 have q1 := blk7 ((pq.old.block _ (lt_of_heap F1.out.2.1) (fun f => f)).trans F1.out.2.1)
 clear q2'
 have OZ := Lib.hid (F1.out.1.trans pq.old)
 go_wp2_with fail
 go_ret
 exact ⟨_, L, rfl, HL.out.old OZ.out, fun x hx => hx, Nat.le_refl _, fun x hx _ => hx, OZ.out⟩
theorem holding2_any (v : Value) (L : List En) (c : Con) (w : World) (h : SeesR w 5 En.cells v L) (hs : SeesV w c.sv c.set) (ho : c.op = 2) (hsort : Sorted5 L) (hl : L.length ≤ 1000000) :
  Calls Tryz.prog 27 #[v, .agg c.cells.toArray] w (HoldPost L c w) := by
 obtain ⟨p, n, rfl, _, hnm⟩ := h.len
 obtain ⟨ps, cc, e9, _, _⟩ := hs.len
 obtain ⟨C, hC⟩ : ∃ C, c = C := ⟨_, rfl⟩
 have hcl : c.cells = C.cells := by rw [hC]
 obtain ⟨W1, hW1⟩ : ∃ W1, ((w.alloc (.cells c.cells.toArray 78)).alloc (.cells #[.func (.func 67) #[] #[.pointer (some ⟨w.heap.size, 0, none⟩)]] 72)).alloc (.cells #[.func (.func 68) #[] #[.pointer (some ⟨w.heap.size, 0, none⟩)]] 72) = W1 := ⟨_, rfl⟩
 have o1 : Old w W1 := by rw [← hW1]; exact (((Keeps.refl _ _).alloc _).alloc _).alloc _
 obtain ⟨b1, b2, b3, z1⟩ := three_blocks w (.cells c.cells.toArray 78) (.cells #[.func (.func 67) #[] #[.pointer (some ⟨w.heap.size, 0, none⟩)]] 72) (.cells #[.func (.func 68) #[] #[.pointer (some ⟨w.heap.size, 0, none⟩)]] 72)
 rw [hW1] at b1 b2 b3
 have F1 := Lib.hid (And.intro o1 (And.intro b1 (And.intro b2 b3)))
 have HL := Lib.hid (And.intro h (And.intro hsort ho))
 clear h hs hsort o1 z1 hcl hC
 have el : lowP c.plain = fromP c.plain := by funext x; simp [lowP, Con.plain, ho]
 have eh : highP c.plain = aboveP c.plain := by funext x; simp [highP, Con.plain, ho]
 have EL := Lib.hid (And.intro el eh)
 clear el eh
 obtain ⟨nm, op, ⟨ck, cn, cs, ci⟩, sv, set⟩ := c
 simp only at ho e9
 subst ho e9
 simp only [Con.cells] at b1 hW1 ⊢
 have q2 := blk1 b2
 have q2' := OldOf.cell q2.1
 clear b1 b2 b3
 go_enter Tryz.func27, Tryz.ntmps27
 go_upto_region 5 with fail
 clear q2
 try rw [hW1]
 clear hW1
 refine wp_region_quiet_old (by kernel_rfl) (by kernel_rfl) ?_
 repeat (go_big_quiet_step ((fail)))
 refine wpQuiet_nil ?_
 intro _ hpq
 obtain ⟨pq, hpq'⟩ := hpq
 subst hpq'
 have q2 := blk1 ((pq.old.block _ (lt_of_heap F1.out.2.2.1) (fun f => f)).trans F1.out.2.2.1)
 have q3 := blk1 ((pq.old.block _ (lt_of_heap F1.out.2.2.2) (fun f => f)).trans F1.out.2.2.2)
 have q1 := blk7 ((pq.old.block _ (lt_of_heap F1.out.2.1) (fun f => f)).trans F1.out.2.1)
 clear q2'
 obtain ⟨wz, hwz⟩ : ∃ wz, pq.to = wz := ⟨_, rfl⟩
 have oz := F1.out.1.trans pq.old
 have FZ := And.intro oz (And.intro ((pq.old.block _ (lt_of_heap F1.out.2.1) (fun f => f)).trans F1.out.2.1) (And.intro ((pq.old.block _ (lt_of_heap F1.out.2.2.1) (fun f => f)).trans F1.out.2.2.1) ((pq.old.block _ (lt_of_heap F1.out.2.2.2) (fun f => f)).trans F1.out.2.2.2)))
 rw [hwz] at FZ q1 q2 q3 ⊢
 clear hwz oz
 generalize hc : (⟨nm, 2, ⟨ck, cn, cs, ci⟩, .slice ps set.length cc, set⟩ : Con) = c at FZ EL HL 
 have F := Lib.hid FZ
 clear FZ
 have AL := Lib.hid (show AskF wz (.func (.func 68) #[] #[.pointer (some ⟨w.heap.size, 0, none⟩)]) (fun v => .agg v.cells) (fromP c.plain) (L.map (·.v)) from ⟨_, #[], _, rfl, fun args W => by simp [go_sem, callFunc, Tryz.func68]; rfl, fun x hx W hW => hold3_any w.heap.size c x W ((hW.block _ (lt_of_heap F.out.2.1) (fun f => f)).trans F.out.2.1)⟩)
 have AH := Lib.hid (show AskF wz (.func (.func 69) #[] #[.pointer (some ⟨w.heap.size, 0, none⟩)]) (fun v => .agg v.cells) (aboveP c.plain) (L.map (·.v)) from ⟨_, #[], _, rfl, fun args W => by simp [go_sem, callFunc, Tryz.func69]; rfl, fun x hx W hW => hold4_any w.heap.size c x W ((hW.block _ (lt_of_heap F.out.2.1) (fun f => f)).trans F.out.2.1)⟩)
 go_upto_region 23 with fail
 clear q1 q2 q3
 have C1 := Lib.hid (first_any_i _ L _ (fromP c.plain) wz (HL.out.1.old F.out.1) AL.out (HL.out.2.1.mono (fun x y => fromP_up)) hl)
 go_wp2_with fail
 refine C1.out.mono ?_
 rintro e w2 ⟨i, rfl, hsi, k2⟩
 have C2 := Lib.hid (first_any_i _ L _ (aboveP c.plain) w2 ((HL.out.1.old F.out.1).old k2) (AH.out.later k2) (HL.out.2.1.mono (fun x y => aboveP_up)) hl)
 have K2 := Lib.hid (And.intro hsi k2)
 clear hsi k2
 go_wp2_with fail
 refine C2.out.mono ?_
 rintro e w3 ⟨j, rfl, hsj, k3⟩
 have hop : c.plain.op = 2 := by rw [← hc]; rfl
 have BL := between_law (P := c.plain) (by omega) (by omega) (i := i) (j := j) (by rw [EL.out.1]; exact K2.out.1) (by rw [EL.out.2]; exact hsj)
 obtain ⟨sp, sc, hsl, hsl2⟩ := SeesR.between (T := 64) (E := 66) HL.out.1 i j BL.1 hsj.1 Tryz.underlying64 (by kernel_rfl)
 have Z := Lib.hid (And.intro (hsl2 w3 (((HL.out.1.old F.out.1).old K2.out.2).old k3)) (And.intro BL ((F.out.1.trans K2.out.2).trans k3)))
 clear hsj k3 BL hsl2 hop
 go_wp2_with fail
 go_ret
 exact ⟨_, _, rfl, Z.out.1, Z.out.2.1.2.1, Z.out.2.1.2.2.1, by rw [hc]; exact Z.out.2.1.2.2.2, Z.out.2.2⟩
theorem holding3_any (v : Value) (L : List En) (c : Con) (w : World) (h : SeesR w 5 En.cells v L) (hs : SeesV w c.sv c.set) (ho : c.op = 3) (hsort : Sorted5 L) (hl : L.length ≤ 1000000) :
  Calls Tryz.prog 27 #[v, .agg c.cells.toArray] w (HoldPost L c w) := by
 obtain ⟨p, n, rfl, _, hnm⟩ := h.len
 obtain ⟨ps, cc, e9, _, _⟩ := hs.len
 obtain ⟨C, hC⟩ : ∃ C, c = C := ⟨_, rfl⟩
 have hcl : c.cells = C.cells := by rw [hC]
 obtain ⟨W1, hW1⟩ : ∃ W1, ((w.alloc (.cells c.cells.toArray 78)).alloc (.cells #[.func (.func 67) #[] #[.pointer (some ⟨w.heap.size, 0, none⟩)]] 72)).alloc (.cells #[.func (.func 68) #[] #[.pointer (some ⟨w.heap.size, 0, none⟩)]] 72) = W1 := ⟨_, rfl⟩
 have o1 : Old w W1 := by rw [← hW1]; exact (((Keeps.refl _ _).alloc _).alloc _).alloc _
 obtain ⟨b1, b2, b3, z1⟩ := three_blocks w (.cells c.cells.toArray 78) (.cells #[.func (.func 67) #[] #[.pointer (some ⟨w.heap.size, 0, none⟩)]] 72) (.cells #[.func (.func 68) #[] #[.pointer (some ⟨w.heap.size, 0, none⟩)]] 72)
 rw [hW1] at b1 b2 b3
 have F1 := Lib.hid (And.intro o1 (And.intro b1 (And.intro b2 b3)))
 have HL := Lib.hid (And.intro h (And.intro hsort ho))
 clear h hs hsort o1 z1 hcl hC
 have el : lowP c.plain = kindP c.plain := by funext x; simp [lowP, Con.plain, ho]
 have eh : highP c.plain = pastP c.plain := by funext x; simp [highP, Con.plain, ho]
 have EL := Lib.hid (And.intro el eh)
 clear el eh
 obtain ⟨nm, op, ⟨ck, cn, cs, ci⟩, sv, set⟩ := c
 simp only at ho e9
 subst ho e9
 simp only [Con.cells] at b1 hW1 ⊢
 have q2 := blk1 b2
 have q2' := OldOf.cell q2.1
 clear b1 b2 b3
 go_enter Tryz.func27, Tryz.ntmps27
 go_upto_region 5 with fail
 clear q2
 try rw [hW1]
 clear hW1
 refine wp_region_quiet_old (by kernel_rfl) (by kernel_rfl) ?_
 repeat (go_big_quiet_step ((fail)))
 refine wpQuiet_nil ?_
 intro _ hpq
 obtain ⟨pq, hpq'⟩ := hpq
 subst hpq'
 have q2 := blk1 ((pq.old.block _ (lt_of_heap F1.out.2.2.1) (fun f => f)).trans F1.out.2.2.1)
 have q3 := blk1 ((pq.old.block _ (lt_of_heap F1.out.2.2.2) (fun f => f)).trans F1.out.2.2.2)
 have q1 := blk7 ((pq.old.block _ (lt_of_heap F1.out.2.1) (fun f => f)).trans F1.out.2.1)
 clear q2'
 obtain ⟨wz, hwz⟩ : ∃ wz, pq.to = wz := ⟨_, rfl⟩
 have oz := F1.out.1.trans pq.old
 have FZ := And.intro oz (And.intro ((pq.old.block _ (lt_of_heap F1.out.2.1) (fun f => f)).trans F1.out.2.1) (And.intro ((pq.old.block _ (lt_of_heap F1.out.2.2.1) (fun f => f)).trans F1.out.2.2.1) ((pq.old.block _ (lt_of_heap F1.out.2.2.2) (fun f => f)).trans F1.out.2.2.2)))
 rw [hwz] at FZ q1 q2 q3 ⊢
 clear hwz oz
 generalize hc : (⟨nm, 3, ⟨ck, cn, cs, ci⟩, .slice ps set.length cc, set⟩ : Con) = c at FZ EL HL 
 have F := Lib.hid FZ
 clear FZ
 have AL := Lib.hid (show AskF wz (.func (.func 66) #[] #[.pointer (some ⟨w.heap.size, 0, none⟩)]) (fun v => .agg v.cells) (kindP c.plain) (L.map (·.v)) from ⟨_, #[], _, rfl, fun args W => by simp [go_sem, callFunc, Tryz.func66]; rfl, fun x hx W hW => hold1_any w.heap.size c x W ((hW.block _ (lt_of_heap F.out.2.1) (fun f => f)).trans F.out.2.1)⟩)
 have AH := Lib.hid (show AskF wz (.func (.func 67) #[] #[.pointer (some ⟨w.heap.size, 0, none⟩)]) (fun v => .agg v.cells) (pastP c.plain) (L.map (·.v)) from ⟨_, #[], _, rfl, fun args W => by simp [go_sem, callFunc, Tryz.func67]; rfl, fun x hx W hW => hold2_any w.heap.size c x W ((hW.block _ (lt_of_heap F.out.2.1) (fun f => f)).trans F.out.2.1)⟩)
 go_upto_region 23 with fail
 clear q1 q2 q3
 have C1 := Lib.hid (first_any_i _ L _ (kindP c.plain) wz (HL.out.1.old F.out.1) AL.out (HL.out.2.1.mono (fun x y => kindP_up)) hl)
 go_wp2_with fail
 refine C1.out.mono ?_
 rintro e w2 ⟨i, rfl, hsi, k2⟩
 have C2 := Lib.hid (first_any_i _ L _ (pastP c.plain) w2 ((HL.out.1.old F.out.1).old k2) (AH.out.later k2) (HL.out.2.1.mono (fun x y => pastP_up)) hl)
 have K2 := Lib.hid (And.intro hsi k2)
 clear hsi k2
 go_wp2_with fail
 refine C2.out.mono ?_
 rintro e w3 ⟨j, rfl, hsj, k3⟩
 have hop : c.plain.op = 3 := by rw [← hc]; rfl
 have BL := between_law (P := c.plain) (by omega) (by omega) (i := i) (j := j) (by rw [EL.out.1]; exact K2.out.1) (by rw [EL.out.2]; exact hsj)
 obtain ⟨sp, sc, hsl, hsl2⟩ := SeesR.between (T := 64) (E := 66) HL.out.1 i j BL.1 hsj.1 Tryz.underlying64 (by kernel_rfl)
 have Z := Lib.hid (And.intro (hsl2 w3 (((HL.out.1.old F.out.1).old K2.out.2).old k3)) (And.intro BL ((F.out.1.trans K2.out.2).trans k3)))
 clear hsj k3 BL hsl2 hop
 go_wp2_with fail
 go_ret
 exact ⟨_, _, rfl, Z.out.1, Z.out.2.1.2.1, Z.out.2.1.2.2.1, by rw [hc]; exact Z.out.2.1.2.2.2, Z.out.2.2⟩
theorem holding4_any (v : Value) (L : List En) (c : Con) (w : World) (h : SeesR w 5 En.cells v L) (hs : SeesV w c.sv c.set) (ho : c.op = 4) (hsort : Sorted5 L) (hl : L.length ≤ 1000000) :
  Calls Tryz.prog 27 #[v, .agg c.cells.toArray] w (HoldPost L c w) := by
 obtain ⟨p, n, rfl, _, hnm⟩ := h.len
 obtain ⟨ps, cc, e9, _, _⟩ := hs.len
 obtain ⟨C, hC⟩ : ∃ C, c = C := ⟨_, rfl⟩
 have hcl : c.cells = C.cells := by rw [hC]
 obtain ⟨W1, hW1⟩ : ∃ W1, ((w.alloc (.cells c.cells.toArray 78)).alloc (.cells #[.func (.func 67) #[] #[.pointer (some ⟨w.heap.size, 0, none⟩)]] 72)).alloc (.cells #[.func (.func 68) #[] #[.pointer (some ⟨w.heap.size, 0, none⟩)]] 72) = W1 := ⟨_, rfl⟩
 have o1 : Old w W1 := by rw [← hW1]; exact (((Keeps.refl _ _).alloc _).alloc _).alloc _
 obtain ⟨b1, b2, b3, z1⟩ := three_blocks w (.cells c.cells.toArray 78) (.cells #[.func (.func 67) #[] #[.pointer (some ⟨w.heap.size, 0, none⟩)]] 72) (.cells #[.func (.func 68) #[] #[.pointer (some ⟨w.heap.size, 0, none⟩)]] 72)
 rw [hW1] at b1 b2 b3
 have F1 := Lib.hid (And.intro o1 (And.intro b1 (And.intro b2 b3)))
 have HL := Lib.hid (And.intro h (And.intro hsort ho))
 clear h hs hsort o1 z1 hcl hC
 have el : lowP c.plain = kindP c.plain := by funext x; simp [lowP, Con.plain, ho]
 have eh : highP c.plain = fromP c.plain := by funext x; simp [highP, Con.plain, ho]
 have EL := Lib.hid (And.intro el eh)
 clear el eh
 obtain ⟨nm, op, ⟨ck, cn, cs, ci⟩, sv, set⟩ := c
 simp only at ho e9
 subst ho e9
 simp only [Con.cells] at b1 hW1 ⊢
 have q2 := blk1 b2
 have q2' := OldOf.cell q2.1
 clear b1 b2 b3
 go_enter Tryz.func27, Tryz.ntmps27
 go_upto_region 5 with fail
 clear q2
 try rw [hW1]
 clear hW1
 refine wp_region_quiet_old (by kernel_rfl) (by kernel_rfl) ?_
 repeat (go_big_quiet_step ((fail)))
 refine wpQuiet_nil ?_
 intro _ hpq
 obtain ⟨pq, hpq'⟩ := hpq
 subst hpq'
 have q2 := blk1 ((pq.old.block _ (lt_of_heap F1.out.2.2.1) (fun f => f)).trans F1.out.2.2.1)
 have q3 := blk1 ((pq.old.block _ (lt_of_heap F1.out.2.2.2) (fun f => f)).trans F1.out.2.2.2)
 have q1 := blk7 ((pq.old.block _ (lt_of_heap F1.out.2.1) (fun f => f)).trans F1.out.2.1)
 clear q2'
 obtain ⟨wz, hwz⟩ : ∃ wz, pq.to = wz := ⟨_, rfl⟩
 have oz := F1.out.1.trans pq.old
 have FZ := And.intro oz (And.intro ((pq.old.block _ (lt_of_heap F1.out.2.1) (fun f => f)).trans F1.out.2.1) (And.intro ((pq.old.block _ (lt_of_heap F1.out.2.2.1) (fun f => f)).trans F1.out.2.2.1) ((pq.old.block _ (lt_of_heap F1.out.2.2.2) (fun f => f)).trans F1.out.2.2.2)))
 rw [hwz] at FZ q1 q2 q3 ⊢
 clear hwz oz
 generalize hc : (⟨nm, 4, ⟨ck, cn, cs, ci⟩, .slice ps set.length cc, set⟩ : Con) = c at FZ EL HL 
 have F := Lib.hid FZ
 clear FZ
 have AL := Lib.hid (show AskF wz (.func (.func 66) #[] #[.pointer (some ⟨w.heap.size, 0, none⟩)]) (fun v => .agg v.cells) (kindP c.plain) (L.map (·.v)) from ⟨_, #[], _, rfl, fun args W => by simp [go_sem, callFunc, Tryz.func66]; rfl, fun x hx W hW => hold1_any w.heap.size c x W ((hW.block _ (lt_of_heap F.out.2.1) (fun f => f)).trans F.out.2.1)⟩)
 have AH := Lib.hid (show AskF wz (.func (.func 68) #[] #[.pointer (some ⟨w.heap.size, 0, none⟩)]) (fun v => .agg v.cells) (fromP c.plain) (L.map (·.v)) from ⟨_, #[], _, rfl, fun args W => by simp [go_sem, callFunc, Tryz.func68]; rfl, fun x hx W hW => hold3_any w.heap.size c x W ((hW.block _ (lt_of_heap F.out.2.1) (fun f => f)).trans F.out.2.1)⟩)
 go_upto_region 23 with fail
 clear q1 q2 q3
 have C1 := Lib.hid (first_any_i _ L _ (kindP c.plain) wz (HL.out.1.old F.out.1) AL.out (HL.out.2.1.mono (fun x y => kindP_up)) hl)
 go_wp2_with fail
 refine C1.out.mono ?_
 rintro e w2 ⟨i, rfl, hsi, k2⟩
 have C2 := Lib.hid (first_any_i _ L _ (fromP c.plain) w2 ((HL.out.1.old F.out.1).old k2) (AH.out.later k2) (HL.out.2.1.mono (fun x y => fromP_up)) hl)
 have K2 := Lib.hid (And.intro hsi k2)
 clear hsi k2
 go_wp2_with fail
 refine C2.out.mono ?_
 rintro e w3 ⟨j, rfl, hsj, k3⟩
 have hop : c.plain.op = 4 := by rw [← hc]; rfl
 have BL := between_law (P := c.plain) (by omega) (by omega) (i := i) (j := j) (by rw [EL.out.1]; exact K2.out.1) (by rw [EL.out.2]; exact hsj)
 obtain ⟨sp, sc, hsl, hsl2⟩ := SeesR.between (T := 64) (E := 66) HL.out.1 i j BL.1 hsj.1 Tryz.underlying64 (by kernel_rfl)
 have Z := Lib.hid (And.intro (hsl2 w3 (((HL.out.1.old F.out.1).old K2.out.2).old k3)) (And.intro BL ((F.out.1.trans K2.out.2).trans k3)))
 clear hsj k3 BL hsl2 hop
 go_wp2_with fail
 go_ret
 exact ⟨_, _, rfl, Z.out.1, Z.out.2.1.2.1, Z.out.2.1.2.2.1, by rw [hc]; exact Z.out.2.1.2.2.2, Z.out.2.2⟩
theorem holding5_any (v : Value) (L : List En) (c : Con) (w : World) (h : SeesR w 5 En.cells v L) (hs : SeesV w c.sv c.set) (ho : c.op = 5) (hsort : Sorted5 L) (hl : L.length ≤ 1000000) :
  Calls Tryz.prog 27 #[v, .agg c.cells.toArray] w (HoldPost L c w) := by
 obtain ⟨p, n, rfl, _, hnm⟩ := h.len
 obtain ⟨ps, cc, e9, _, _⟩ := hs.len
 obtain ⟨C, hC⟩ : ∃ C, c = C := ⟨_, rfl⟩
 have hcl : c.cells = C.cells := by rw [hC]
 obtain ⟨W1, hW1⟩ : ∃ W1, ((w.alloc (.cells c.cells.toArray 78)).alloc (.cells #[.func (.func 67) #[] #[.pointer (some ⟨w.heap.size, 0, none⟩)]] 72)).alloc (.cells #[.func (.func 68) #[] #[.pointer (some ⟨w.heap.size, 0, none⟩)]] 72) = W1 := ⟨_, rfl⟩
 have o1 : Old w W1 := by rw [← hW1]; exact (((Keeps.refl _ _).alloc _).alloc _).alloc _
 obtain ⟨b1, b2, b3, z1⟩ := three_blocks w (.cells c.cells.toArray 78) (.cells #[.func (.func 67) #[] #[.pointer (some ⟨w.heap.size, 0, none⟩)]] 72) (.cells #[.func (.func 68) #[] #[.pointer (some ⟨w.heap.size, 0, none⟩)]] 72)
 rw [hW1] at b1 b2 b3
 have F1 := Lib.hid (And.intro o1 (And.intro b1 (And.intro b2 b3)))
 have HL := Lib.hid (And.intro h (And.intro hsort ho))
 clear h hs hsort o1 z1 hcl hC
 have el : lowP c.plain = kindP c.plain := by funext x; simp [lowP, Con.plain, ho]
 have eh : highP c.plain = aboveP c.plain := by funext x; simp [highP, Con.plain, ho]
 have EL := Lib.hid (And.intro el eh)
 clear el eh
 obtain ⟨nm, op, ⟨ck, cn, cs, ci⟩, sv, set⟩ := c
 simp only at ho e9
 subst ho e9
 simp only [Con.cells] at b1 hW1 ⊢
 have q2 := blk1 b2
 have q2' := OldOf.cell q2.1
 clear b1 b2 b3
 go_enter Tryz.func27, Tryz.ntmps27
 go_upto_region 5 with fail
 clear q2
 try rw [hW1]
 clear hW1
 refine wp_region_quiet_old (by kernel_rfl) (by kernel_rfl) ?_
 repeat (go_big_quiet_step ((fail)))
 refine wpQuiet_nil ?_
 intro _ hpq
 obtain ⟨pq, hpq'⟩ := hpq
 subst hpq'
 have q2 := blk1 ((pq.old.block _ (lt_of_heap F1.out.2.2.1) (fun f => f)).trans F1.out.2.2.1)
 have q3 := blk1 ((pq.old.block _ (lt_of_heap F1.out.2.2.2) (fun f => f)).trans F1.out.2.2.2)
 have q1 := blk7 ((pq.old.block _ (lt_of_heap F1.out.2.1) (fun f => f)).trans F1.out.2.1)
 clear q2'
 obtain ⟨wz, hwz⟩ : ∃ wz, pq.to = wz := ⟨_, rfl⟩
 have oz := F1.out.1.trans pq.old
 have FZ := And.intro oz (And.intro ((pq.old.block _ (lt_of_heap F1.out.2.1) (fun f => f)).trans F1.out.2.1) (And.intro ((pq.old.block _ (lt_of_heap F1.out.2.2.1) (fun f => f)).trans F1.out.2.2.1) ((pq.old.block _ (lt_of_heap F1.out.2.2.2) (fun f => f)).trans F1.out.2.2.2)))
 rw [hwz] at FZ q1 q2 q3 ⊢
 clear hwz oz
 generalize hc : (⟨nm, 5, ⟨ck, cn, cs, ci⟩, .slice ps set.length cc, set⟩ : Con) = c at FZ EL HL 
 have F := Lib.hid FZ
 clear FZ
 have AL := Lib.hid (show AskF wz (.func (.func 66) #[] #[.pointer (some ⟨w.heap.size, 0, none⟩)]) (fun v => .agg v.cells) (kindP c.plain) (L.map (·.v)) from ⟨_, #[], _, rfl, fun args W => by simp [go_sem, callFunc, Tryz.func66]; rfl, fun x hx W hW => hold1_any w.heap.size c x W ((hW.block _ (lt_of_heap F.out.2.1) (fun f => f)).trans F.out.2.1)⟩)
 have AH := Lib.hid (show AskF wz (.func (.func 69) #[] #[.pointer (some ⟨w.heap.size, 0, none⟩)]) (fun v => .agg v.cells) (aboveP c.plain) (L.map (·.v)) from ⟨_, #[], _, rfl, fun args W => by simp [go_sem, callFunc, Tryz.func69]; rfl, fun x hx W hW => hold4_any w.heap.size c x W ((hW.block _ (lt_of_heap F.out.2.1) (fun f => f)).trans F.out.2.1)⟩)
 go_upto_region 23 with fail
 clear q1 q2 q3
 have C1 := Lib.hid (first_any_i _ L _ (kindP c.plain) wz (HL.out.1.old F.out.1) AL.out (HL.out.2.1.mono (fun x y => kindP_up)) hl)
 go_wp2_with fail
 refine C1.out.mono ?_
 rintro e w2 ⟨i, rfl, hsi, k2⟩
 have C2 := Lib.hid (first_any_i _ L _ (aboveP c.plain) w2 ((HL.out.1.old F.out.1).old k2) (AH.out.later k2) (HL.out.2.1.mono (fun x y => aboveP_up)) hl)
 have K2 := Lib.hid (And.intro hsi k2)
 clear hsi k2
 go_wp2_with fail
 refine C2.out.mono ?_
 rintro e w3 ⟨j, rfl, hsj, k3⟩
 have hop : c.plain.op = 5 := by rw [← hc]; rfl
 have BL := between_law (P := c.plain) (by omega) (by omega) (i := i) (j := j) (by rw [EL.out.1]; exact K2.out.1) (by rw [EL.out.2]; exact hsj)
 obtain ⟨sp, sc, hsl, hsl2⟩ := SeesR.between (T := 64) (E := 66) HL.out.1 i j BL.1 hsj.1 Tryz.underlying64 (by kernel_rfl)
 have Z := Lib.hid (And.intro (hsl2 w3 (((HL.out.1.old F.out.1).old K2.out.2).old k3)) (And.intro BL ((F.out.1.trans K2.out.2).trans k3)))
 clear hsj k3 BL hsl2 hop
 go_wp2_with fail
 go_ret
 exact ⟨_, _, rfl, Z.out.1, Z.out.2.1.2.1, Z.out.2.1.2.2.1, by rw [hc]; exact Z.out.2.1.2.2.2, Z.out.2.2⟩
theorem holding6_any (v : Value) (L : List En) (c : Con) (w : World) (h : SeesR w 5 En.cells v L) (hs : SeesV w c.sv c.set) (ho : c.op = 6) (hsort : Sorted5 L) (hl : L.length ≤ 1000000) :
  Calls Tryz.prog 27 #[v, .agg c.cells.toArray] w (HoldPost L c w) := by
 obtain ⟨p, n, rfl, _, hnm⟩ := h.len
 obtain ⟨ps, cc, e9, _, _⟩ := hs.len
 obtain ⟨C, hC⟩ : ∃ C, c = C := ⟨_, rfl⟩
 have hcl : c.cells = C.cells := by rw [hC]
 obtain ⟨W1, hW1⟩ : ∃ W1, ((w.alloc (.cells c.cells.toArray 78)).alloc (.cells #[.func (.func 67) #[] #[.pointer (some ⟨w.heap.size, 0, none⟩)]] 72)).alloc (.cells #[.func (.func 68) #[] #[.pointer (some ⟨w.heap.size, 0, none⟩)]] 72) = W1 := ⟨_, rfl⟩
 have o1 : Old w W1 := by rw [← hW1]; exact (((Keeps.refl _ _).alloc _).alloc _).alloc _
 obtain ⟨b1, b2, b3, z1⟩ := three_blocks w (.cells c.cells.toArray 78) (.cells #[.func (.func 67) #[] #[.pointer (some ⟨w.heap.size, 0, none⟩)]] 72) (.cells #[.func (.func 68) #[] #[.pointer (some ⟨w.heap.size, 0, none⟩)]] 72)
 rw [hW1] at b1 b2 b3
 have F1 := Lib.hid (And.intro o1 (And.intro b1 (And.intro b2 b3)))
 have HL := Lib.hid (And.intro h (And.intro hsort ho))
 clear h hs hsort o1 z1 hcl hC
 have el : lowP c.plain = aboveP c.plain := by funext x; simp [lowP, Con.plain, ho]
 have eh : highP c.plain = pastP c.plain := by funext x; simp [highP, Con.plain, ho]
 have EL := Lib.hid (And.intro el eh)
 clear el eh
 obtain ⟨nm, op, ⟨ck, cn, cs, ci⟩, sv, set⟩ := c
 simp only at ho e9
 subst ho e9
 simp only [Con.cells] at b1 hW1 ⊢
 have q2 := blk1 b2
 have q2' := OldOf.cell q2.1
 clear b1 b2 b3
 go_enter Tryz.func27, Tryz.ntmps27
 go_upto_region 5 with fail
 clear q2
 try rw [hW1]
 clear hW1
 refine wp_region_quiet_old (by kernel_rfl) (by kernel_rfl) ?_
 repeat (go_big_quiet_step ((fail)))
 refine wpQuiet_nil ?_
 intro _ hpq
 obtain ⟨pq, hpq'⟩ := hpq
 subst hpq'
 have q2 := blk1 ((pq.old.block _ (lt_of_heap F1.out.2.2.1) (fun f => f)).trans F1.out.2.2.1)
 have q3 := blk1 ((pq.old.block _ (lt_of_heap F1.out.2.2.2) (fun f => f)).trans F1.out.2.2.2)
 have q1 := blk7 ((pq.old.block _ (lt_of_heap F1.out.2.1) (fun f => f)).trans F1.out.2.1)
 clear q2'
 obtain ⟨wz, hwz⟩ : ∃ wz, pq.to = wz := ⟨_, rfl⟩
 have oz := F1.out.1.trans pq.old
 have FZ := And.intro oz (And.intro ((pq.old.block _ (lt_of_heap F1.out.2.1) (fun f => f)).trans F1.out.2.1) (And.intro ((pq.old.block _ (lt_of_heap F1.out.2.2.1) (fun f => f)).trans F1.out.2.2.1) ((pq.old.block _ (lt_of_heap F1.out.2.2.2) (fun f => f)).trans F1.out.2.2.2)))
 rw [hwz] at FZ q1 q2 q3 ⊢
 clear hwz oz
 generalize hc : (⟨nm, 6, ⟨ck, cn, cs, ci⟩, .slice ps set.length cc, set⟩ : Con) = c at FZ EL HL 
 have F := Lib.hid FZ
 clear FZ
 have AL := Lib.hid (show AskF wz (.func (.func 69) #[] #[.pointer (some ⟨w.heap.size, 0, none⟩)]) (fun v => .agg v.cells) (aboveP c.plain) (L.map (·.v)) from ⟨_, #[], _, rfl, fun args W => by simp [go_sem, callFunc, Tryz.func69]; rfl, fun x hx W hW => hold4_any w.heap.size c x W ((hW.block _ (lt_of_heap F.out.2.1) (fun f => f)).trans F.out.2.1)⟩)
 have AH := Lib.hid (show AskF wz (.func (.func 67) #[] #[.pointer (some ⟨w.heap.size, 0, none⟩)]) (fun v => .agg v.cells) (pastP c.plain) (L.map (·.v)) from ⟨_, #[], _, rfl, fun args W => by simp [go_sem, callFunc, Tryz.func67]; rfl, fun x hx W hW => hold2_any w.heap.size c x W ((hW.block _ (lt_of_heap F.out.2.1) (fun f => f)).trans F.out.2.1)⟩)
 go_upto_region 23 with fail
 clear q1 q2 q3
 have C1 := Lib.hid (first_any_i _ L _ (aboveP c.plain) wz (HL.out.1.old F.out.1) AL.out (HL.out.2.1.mono (fun x y => aboveP_up)) hl)
 go_wp2_with fail
 refine C1.out.mono ?_
 rintro e w2 ⟨i, rfl, hsi, k2⟩
 have C2 := Lib.hid (first_any_i _ L _ (pastP c.plain) w2 ((HL.out.1.old F.out.1).old k2) (AH.out.later k2) (HL.out.2.1.mono (fun x y => pastP_up)) hl)
 have K2 := Lib.hid (And.intro hsi k2)
 clear hsi k2
 go_wp2_with fail
 refine C2.out.mono ?_
 rintro e w3 ⟨j, rfl, hsj, k3⟩
 have hop : c.plain.op = 6 := by rw [← hc]; rfl
 have BL := between_law (P := c.plain) (by omega) (by omega) (i := i) (j := j) (by rw [EL.out.1]; exact K2.out.1) (by rw [EL.out.2]; exact hsj)
 obtain ⟨sp, sc, hsl, hsl2⟩ := SeesR.between (T := 64) (E := 66) HL.out.1 i j BL.1 hsj.1 Tryz.underlying64 (by kernel_rfl)
 have Z := Lib.hid (And.intro (hsl2 w3 (((HL.out.1.old F.out.1).old K2.out.2).old k3)) (And.intro BL ((F.out.1.trans K2.out.2).trans k3)))
 clear hsj k3 BL hsl2 hop
 go_wp2_with fail
 go_ret
 exact ⟨_, _, rfl, Z.out.1, Z.out.2.1.2.1, Z.out.2.1.2.2.1, by rw [hc]; exact Z.out.2.1.2.2.2, Z.out.2.2⟩
theorem holding7_any (v : Value) (L : List En) (c : Con) (w : World) (h : SeesR w 5 En.cells v L) (hs : SeesV w c.sv c.set) (ho : c.op = 7) (hsort : Sorted5 L) (hl : L.length ≤ 1000000) :
  Calls Tryz.prog 27 #[v, .agg c.cells.toArray] w (HoldPost L c w) := by
 obtain ⟨p, n, rfl, _, hnm⟩ := h.len
 obtain ⟨ps, cc, e9, _, _⟩ := hs.len
 obtain ⟨C, hC⟩ : ∃ C, c = C := ⟨_, rfl⟩
 have hcl : c.cells = C.cells := by rw [hC]
 obtain ⟨W1, hW1⟩ : ∃ W1, ((w.alloc (.cells c.cells.toArray 78)).alloc (.cells #[.func (.func 67) #[] #[.pointer (some ⟨w.heap.size, 0, none⟩)]] 72)).alloc (.cells #[.func (.func 68) #[] #[.pointer (some ⟨w.heap.size, 0, none⟩)]] 72) = W1 := ⟨_, rfl⟩
 have o1 : Old w W1 := by rw [← hW1]; exact (((Keeps.refl _ _).alloc _).alloc _).alloc _
 obtain ⟨b1, b2, b3, z1⟩ := three_blocks w (.cells c.cells.toArray 78) (.cells #[.func (.func 67) #[] #[.pointer (some ⟨w.heap.size, 0, none⟩)]] 72) (.cells #[.func (.func 68) #[] #[.pointer (some ⟨w.heap.size, 0, none⟩)]] 72)
 rw [hW1] at b1 b2 b3
 have F1 := Lib.hid (And.intro o1 (And.intro b1 (And.intro b2 b3)))
 have HL := Lib.hid (And.intro h (And.intro hsort ho))
 clear h hs hsort o1 z1 hcl hC
 have el : lowP c.plain = fromP c.plain := by funext x; simp [lowP, Con.plain, ho]
 have eh : highP c.plain = pastP c.plain := by funext x; simp [highP, Con.plain, ho]
 have EL := Lib.hid (And.intro el eh)
 clear el eh
 obtain ⟨nm, op, ⟨ck, cn, cs, ci⟩, sv, set⟩ := c
 simp only at ho e9
 subst ho e9
 simp only [Con.cells] at b1 hW1 ⊢
 have q2 := blk1 b2
 have q2' := OldOf.cell q2.1
 clear b1 b2 b3
 go_enter Tryz.func27, Tryz.ntmps27
 go_upto_region 5 with fail
 clear q2
 try rw [hW1]
 clear hW1
 refine wp_region_quiet_old (by kernel_rfl) (by kernel_rfl) ?_
 repeat (go_big_quiet_step ((fail)))
 refine wpQuiet_nil ?_
 intro _ hpq
 obtain ⟨pq, hpq'⟩ := hpq
 subst hpq'
 have q2 := blk1 ((pq.old.block _ (lt_of_heap F1.out.2.2.1) (fun f => f)).trans F1.out.2.2.1)
 have q3 := blk1 ((pq.old.block _ (lt_of_heap F1.out.2.2.2) (fun f => f)).trans F1.out.2.2.2)
 have q1 := blk7 ((pq.old.block _ (lt_of_heap F1.out.2.1) (fun f => f)).trans F1.out.2.1)
 clear q2'
 obtain ⟨wz, hwz⟩ : ∃ wz, pq.to = wz := ⟨_, rfl⟩
 have oz := F1.out.1.trans pq.old
 have FZ := And.intro oz (And.intro ((pq.old.block _ (lt_of_heap F1.out.2.1) (fun f => f)).trans F1.out.2.1) (And.intro ((pq.old.block _ (lt_of_heap F1.out.2.2.1) (fun f => f)).trans F1.out.2.2.1) ((pq.old.block _ (lt_of_heap F1.out.2.2.2) (fun f => f)).trans F1.out.2.2.2)))
 rw [hwz] at FZ q1 q2 q3 ⊢
 clear hwz oz
 generalize hc : (⟨nm, 7, ⟨ck, cn, cs, ci⟩, .slice ps set.length cc, set⟩ : Con) = c at FZ EL HL 
 have F := Lib.hid FZ
 clear FZ
 have AL := Lib.hid (show AskF wz (.func (.func 68) #[] #[.pointer (some ⟨w.heap.size, 0, none⟩)]) (fun v => .agg v.cells) (fromP c.plain) (L.map (·.v)) from ⟨_, #[], _, rfl, fun args W => by simp [go_sem, callFunc, Tryz.func68]; rfl, fun x hx W hW => hold3_any w.heap.size c x W ((hW.block _ (lt_of_heap F.out.2.1) (fun f => f)).trans F.out.2.1)⟩)
 have AH := Lib.hid (show AskF wz (.func (.func 67) #[] #[.pointer (some ⟨w.heap.size, 0, none⟩)]) (fun v => .agg v.cells) (pastP c.plain) (L.map (·.v)) from ⟨_, #[], _, rfl, fun args W => by simp [go_sem, callFunc, Tryz.func67]; rfl, fun x hx W hW => hold2_any w.heap.size c x W ((hW.block _ (lt_of_heap F.out.2.1) (fun f => f)).trans F.out.2.1)⟩)
 go_upto_region 23 with fail
 clear q1 q2 q3
 have C1 := Lib.hid (first_any_i _ L _ (fromP c.plain) wz (HL.out.1.old F.out.1) AL.out (HL.out.2.1.mono (fun x y => fromP_up)) hl)
 go_wp2_with fail
 refine C1.out.mono ?_
 rintro e w2 ⟨i, rfl, hsi, k2⟩
 have C2 := Lib.hid (first_any_i _ L _ (pastP c.plain) w2 ((HL.out.1.old F.out.1).old k2) (AH.out.later k2) (HL.out.2.1.mono (fun x y => pastP_up)) hl)
 have K2 := Lib.hid (And.intro hsi k2)
 clear hsi k2
 go_wp2_with fail
 refine C2.out.mono ?_
 rintro e w3 ⟨j, rfl, hsj, k3⟩
 have hop : c.plain.op = 7 := by rw [← hc]; rfl
 have BL := between_law (P := c.plain) (by omega) (by omega) (i := i) (j := j) (by rw [EL.out.1]; exact K2.out.1) (by rw [EL.out.2]; exact hsj)
 obtain ⟨sp, sc, hsl, hsl2⟩ := SeesR.between (T := 64) (E := 66) HL.out.1 i j BL.1 hsj.1 Tryz.underlying64 (by kernel_rfl)
 have Z := Lib.hid (And.intro (hsl2 w3 (((HL.out.1.old F.out.1).old K2.out.2).old k3)) (And.intro BL ((F.out.1.trans K2.out.2).trans k3)))
 clear hsj k3 BL hsl2 hop
 go_wp2_with fail
 go_ret
 exact ⟨_, _, rfl, Z.out.1, Z.out.2.1.2.1, Z.out.2.1.2.2.1, by rw [hc]; exact Z.out.2.1.2.2.2, Z.out.2.2⟩
theorem holding8_any (v : Value) (L : List En) (c : Con) (w : World) (h : SeesR w 5 En.cells v L) (hs : SeesV w c.sv c.set) (ho : c.op = 8) (h8 : c.val.kind = 2) (hsort : Sorted5 L) (hl : L.length ≤ 1000000) :
  Calls Tryz.prog 27 #[v, .agg c.cells.toArray] w (HoldPost L c w) := by
 obtain ⟨p, n, rfl, _, hnm⟩ := h.len
 obtain ⟨ps, cc, e9, _, _⟩ := hs.len
 obtain ⟨C, hC⟩ : ∃ C, c = C := ⟨_, rfl⟩
 have hcl : c.cells = C.cells := by rw [hC]
 obtain ⟨W1, hW1⟩ : ∃ W1, ((w.alloc (.cells c.cells.toArray 78)).alloc (.cells #[.func (.func 67) #[] #[.pointer (some ⟨w.heap.size, 0, none⟩)]] 72)).alloc (.cells #[.func (.func 68) #[] #[.pointer (some ⟨w.heap.size, 0, none⟩)]] 72) = W1 := ⟨_, rfl⟩
 have o1 : Old w W1 := by rw [← hW1]; exact (((Keeps.refl _ _).alloc _).alloc _).alloc _
 obtain ⟨b1, b2, b3, z1⟩ := three_blocks w (.cells c.cells.toArray 78) (.cells #[.func (.func 67) #[] #[.pointer (some ⟨w.heap.size, 0, none⟩)]] 72) (.cells #[.func (.func 68) #[] #[.pointer (some ⟨w.heap.size, 0, none⟩)]] 72)
 rw [hW1] at b1 b2 b3
 have F1 := Lib.hid (And.intro o1 (And.intro b1 (And.intro b2 b3)))
 have HL := Lib.hid (And.intro h (And.intro hsort ho))
 clear h hs hsort o1 z1 hcl hC
 have el : lowP c.plain = fromP c.plain := by funext x; simp [lowP, Con.plain, ho]
 have eh : highP c.plain = pre5P c.plain := by funext x; simp [highP, Con.plain, ho]
 have EL := Lib.hid (And.intro el eh)
 clear el eh
 obtain ⟨nm, op, ⟨ck, cn, cs, ci⟩, sv, set⟩ := c
 simp only at ho e9
 subst ho e9
 simp only [Con.cells] at b1 hW1 ⊢
 have q2 := blk1 b2
 have q2' := OldOf.cell q2.1
 clear b1 b2 b3
 go_enter Tryz.func27, Tryz.ntmps27
 go_upto_region 5 with fail
 clear q2
 try rw [hW1]
 clear hW1
 refine wp_region_quiet_old (by kernel_rfl) (by kernel_rfl) ?_
 repeat (go_big_quiet_step ((fail)))
 refine wpQuiet_nil ?_
 intro _ hpq
 obtain ⟨pq, hpq'⟩ := hpq
 subst hpq'
 have q2 := blk1 ((pq.old.block _ (lt_of_heap F1.out.2.2.1) (fun f => f)).trans F1.out.2.2.1)
 have q3 := blk1 ((pq.old.block _ (lt_of_heap F1.out.2.2.2) (fun f => f)).trans F1.out.2.2.2)
 have q1 := blk7 ((pq.old.block _ (lt_of_heap F1.out.2.1) (fun f => f)).trans F1.out.2.1)
 clear q2'
 obtain ⟨wz, hwz⟩ : ∃ wz, pq.to = wz := ⟨_, rfl⟩
 have oz := F1.out.1.trans pq.old
 have FZ := And.intro oz (And.intro ((pq.old.block _ (lt_of_heap F1.out.2.1) (fun f => f)).trans F1.out.2.1) (And.intro ((pq.old.block _ (lt_of_heap F1.out.2.2.1) (fun f => f)).trans F1.out.2.2.1) ((pq.old.block _ (lt_of_heap F1.out.2.2.2) (fun f => f)).trans F1.out.2.2.2)))
 rw [hwz] at FZ q1 q2 q3 ⊢
 clear hwz oz
 generalize hc : (⟨nm, 8, ⟨ck, cn, cs, ci⟩, .slice ps set.length cc, set⟩ : Con) = c at FZ EL HL h8
 have F := Lib.hid FZ
 clear FZ
 have AL := Lib.hid (show AskF wz (.func (.func 68) #[] #[.pointer (some ⟨w.heap.size, 0, none⟩)]) (fun v => .agg v.cells) (fromP c.plain) (L.map (·.v)) from ⟨_, #[], _, rfl, fun args W => by simp [go_sem, callFunc, Tryz.func68]; rfl, fun x hx W hW => hold3_any w.heap.size c x W ((hW.block _ (lt_of_heap F.out.2.1) (fun f => f)).trans F.out.2.1)⟩)
 have AH := Lib.hid (show AskF wz (.func (.func 70) #[] #[.pointer (some ⟨w.heap.size + 1, 0, none⟩), .pointer (some ⟨w.heap.size + 1 + 1, 0, none⟩), .pointer (some ⟨w.heap.size, 0, none⟩)]) (fun v => .agg v.cells) (pre5P c.plain) (L.map (·.v)) from ⟨_, #[], _, rfl, fun args W => by simp [go_sem, callFunc, Tryz.func70]; rfl, fun x hx W hW => hold5_any w.heap.size (w.heap.size + 1) (w.heap.size + 1 + 1) c x W ((hW.block _ (lt_of_heap F.out.2.1) (fun f => f)).trans F.out.2.1) ((hW.block _ (lt_of_heap F.out.2.2.1) (fun f => f)).trans F.out.2.2.1) ((hW.block _ (lt_of_heap F.out.2.2.2) (fun f => f)).trans F.out.2.2.2)⟩)
 go_upto_region 23 with fail
 clear q1 q2 q3
 have C1 := Lib.hid (first_any_i _ L _ (fromP c.plain) wz (HL.out.1.old F.out.1) AL.out (HL.out.2.1.mono (fun x y => fromP_up)) hl)
 go_wp2_with fail
 refine C1.out.mono ?_
 rintro e w2 ⟨i, rfl, hsi, k2⟩
 have C2 := Lib.hid (first_any_i _ L _ (pre5P c.plain) w2 ((HL.out.1.old F.out.1).old k2) (AH.out.later k2) (HL.out.2.1.mono (fun x y => pre5P_up h8)) hl)
 have K2 := Lib.hid (And.intro hsi k2)
 clear hsi k2
 go_wp2_with fail
 refine C2.out.mono ?_
 rintro e w3 ⟨j, rfl, hsj, k3⟩
 have hop : c.plain.op = 8 := by rw [← hc]; rfl
 have BL := between_law (P := c.plain) (by omega) (by omega) (i := i) (j := j) (by rw [EL.out.1]; exact K2.out.1) (by rw [EL.out.2]; exact hsj)
 obtain ⟨sp, sc, hsl, hsl2⟩ := SeesR.between (T := 64) (E := 66) HL.out.1 i j BL.1 hsj.1 Tryz.underlying64 (by kernel_rfl)
 have Z := Lib.hid (And.intro (hsl2 w3 (((HL.out.1.old F.out.1).old K2.out.2).old k3)) (And.intro BL ((F.out.1.trans K2.out.2).trans k3)))
 clear hsj k3 BL hsl2 hop
 go_wp2_with fail
 go_ret
 exact ⟨_, _, rfl, Z.out.1, Z.out.2.1.2.1, Z.out.2.1.2.2.1, by rw [hc]; exact Z.out.2.1.2.2.2, Z.out.2.2⟩
theorem holding_any (v : Value) (L : List En) (c : Con) (w : World) (h : SeesR w 5 En.cells v L) (hs : SeesV w c.sv c.set) (h1 : 1 ≤ c.op) (h9 : c.op ≤ 9) (h8 : c.op = 8 → c.val.kind = 2) (hsort : Sorted5 L) (hl : L.length ≤ 1000000) :
  Calls Tryz.prog 27 #[v, .agg c.cells.toArray] w (HoldPost L c w) := by
 have hc : c.op = 1 ∨ c.op = 2 ∨ c.op = 3 ∨ c.op = 4 ∨ c.op = 5 ∨ c.op = 6 ∨ c.op = 7 ∨ c.op = 8 ∨ c.op = 9 := by omega
 rcases hc with e | e | e | e | e | e | e | e | e
 ·exact holding1_any v L c w h hs e
 ·exact holding2_any v L c w h hs e hsort hl
 ·exact holding3_any v L c w h hs e hsort hl
 ·exact holding4_any v L c w h hs e hsort hl
 ·exact holding5_any v L c w h hs e hsort hl
 ·exact holding6_any v L c w h hs e hsort hl
 ·exact holding7_any v L c w h hs e hsort hl
 ·exact holding8_any v L c w h hs e (h8 e) hsort hl
 ·exact holding9_any v L c w h hs e
end
end Go.Proofs.YtehmlaplodjenaaGreat
