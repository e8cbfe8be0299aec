/- DERIVED. index: Add. · DERIVED. Rows of numbers without sign; what a sort needs. -/
import Derived.Test.YtehmlaplodjenaaGreatZTopDual20
import Derived.Test.YtehmlaplodjenaaGreatZTopDual13
import Derived.Deep.DeepCutAuto
import Derived.Deep.CutRange
import Derived.Test.YtehmlaplodjenaaGreatYpTopDual05
set_option maxRecDepth 100000
set_option maxHeartbeats 8000000
namespace Go.Proofs.YtehmlaplodjenaaGreat
section
open Go.RowKit
def zeroEv : Value := .agg #[.string ⟨#[]⟩, .slice none 0 0]
section
variable {w0 W : World} {xb eb nb K : Nat} {ev : Nat → Option EvT} {G : ByteArray → Value × List En}
theorem IxS.look (h : IxS w0 xb eb nb K ev G W) (s : ByteArray) : (Instr.lookup 50 (.map (some nb)) (.string s) false).run Tryz.prog W = .ok (G s).1 W := by
 obtain ⟨n2, f2, m2, e2⟩ := h.n
 have := m2.get (P := Tryz.prog) (k := .string s) (z := .slice none 0 0) Tryz.underlying50 Tryz.underlying9 trivial (by simp [go_sem])
 rwa [e2 s] at this
theorem IxS.lookE2 (h : IxS w0 xb eb nb K ev G W) (k : Nat) : (Instr.lookup 49 (.map (some eb)) (.int .u64 (k : Int)) true).run Tryz.prog W = .ok (.tuple #[((ev k).map evV).getD zeroEv, .bool (ev k).isSome]) W := by
 obtain ⟨n1, f1, m1, e1⟩ := h.e
 have := m1.get2 (P := Tryz.prog) (k := .int .u64 (k : Int)) (z := zeroEv) Tryz.underlying49 Tryz.underlying30 rfl (by kernel_rfl)
 rw [e1.1 k, Option.isSome_map] at this
 exact this
theorem IxS.lookE (h : IxS w0 xb eb nb K ev G W) (k : Nat) : (Instr.lookup 49 (.map (some eb)) (.int .u64 (k : Int)) false).run Tryz.prog W = .ok (((ev k).map evV).getD zeroEv) W := by
 obtain ⟨n1, f1, m1, e1⟩ := h.e
 have := m1.get (P := Tryz.prog) (k := .int .u64 (k : Int)) (z := zeroEv) Tryz.underlying49 Tryz.underlying30 rfl (by kernel_rfl)
 rwa [e1.1 k] at this
end
theorem cell_at0 {w : World} {b : Nat} {x y : Value} {t : TypeId} (h : w.heap[b]? = some (.cells #[x, y] t (0, 0))) : w.cell? ⟨b, 0, none⟩ = some x := by simp [World.cell?, h]
theorem cell_at1 {w : World} {b : Nat} {x y : Value} {t : TypeId} (h : w.heap[b]? = some (.cells #[x, y] t (0, 0))) : w.cell? ⟨b, 1, none⟩ = some y := by simp [World.cell?, h]
def nmC : List At → ByteArray → Nat
 | [], _ => 0
 | a :: l, s => (if a.name.toList = s.toList then 1 else 0) + nmC l s
theorem nmC_snoc (l : List At) (a : At) (s : ByteArray) : nmC (l ++ [a]) s = nmC l s + if a.name.toList = s.toList then 1 else 0 := by
 induction l with
 | nil => simp [nmC]
 | cons b l ih => rw [List.cons_append, nmC, nmC, ih]; omega
theorem nmC_le (s : ByteArray) : ∀ l : List At, l.Pairwise (fun a b => a.name.toList ≠ b.name.toList) → nmC l s ≤ 1
 | [], _ => Nat.zero_le _
 | a :: l, h => by
  obtain ⟨h1, h2⟩ := List.pairwise_cons.1 h
  have ih := nmC_le s l h2
  rw [nmC]
  by_cases e : a.name.toList = s.toList
  ·have : ∀ m : List At, (∀ b ∈ m, a.name.toList ≠ b.name.toList) → nmC m s = 0 := by
    intro m
    induction m with
    | nil => intro _; rfl
    | cons b m ihm =>
     intro hb
     rw [nmC, ihm (fun x hx => hb x (List.mem_cons_of_mem _ hx)), if_neg (fun e2 => hb b (by simp) (e.trans e2.symm))]
   rw [if_pos e, this l h1]
   omega
  ·rw [if_neg e]; omega
theorem attrs_rise {l : List At} (h : attrsOk l = true) : ∀ (j i : Nat) (x y : At), i < j → l[i]? = some x → l[j]? = some y → Op.bytesLess x.name.toList y.name.toList = true := by
 intro j
 unfold attrsOk at h
 rw [List.all_eq_true] at h
 induction j with
 | zero => intro i x y hij; omega
 | succ j ih =>
  intro i x y hij hx hy
  have hj : j + 1 < l.length := (List.getElem?_eq_some_iff.1 hy).1
  obtain ⟨z, hz⟩ : ∃ z, l[j]? = some z := ⟨_, List.getElem?_eq_getElem (by omega)⟩
  have hzy : Op.bytesLess z.name.toList y.name.toList = true := by
   have := h (j + 1) (by simpa using hj)
   unfold okAt at this
   rw [hy] at this
   simp only [Nat.add_sub_cancel, hz, Bool.and_eq_true, Bool.or_eq_true] at this
   rcases this.2 with h0 | h0
   ·simp at h0
   ·exact h0
  by_cases e : i = j
  ·subst e
   rw [hx] at hz
   simp only [Option.some.injEq] at hz
   subst hz
   exact hzy
  ·exact bl_trans _ _ _ (ih i x z (by omega) hx hz) hzy
theorem nmC_ok {key : ByteArray} {l : List At} (h : evOk key l = true) (s : ByteArray) : nmC l s ≤ 1 := by
 refine nmC_le s l (List.pairwise_iff_getElem.2 fun i j hi hj hij e => ?_)
 have ha : attrsOk l = true := by unfold evOk at h; simp at h; exact h.2
 have := attrs_rise ha j i l[i] l[j] hij (List.getElem?_eq_getElem hi) (List.getElem?_eq_getElem hj)
 rw [e, bl_irrefl] at this
 cases this
def AddP (w0 : World) (xb eb nb K : Nat) (ev : Nat → Option EvT) (G : ByteArray → Value × List En) (n : Nat) (key : ByteArray) (l : List At) (W : World) (e : Ending) (W' : World) : Prop :=
 (evOk key l = false ∧ e = .returned (.int .i64 30) ∧ Old W W') ∨
 (evOk key l = true ∧ e = .returned (.int .i64 0) ∧ ∃ (G' : ByteArray → Value × List En) (t : EvT), t.1 = key ∧ t.2.2 = l ∧ IxS w0 xb eb nb (K + l.length) (fun k => if k = n then some t else ev k) G' W' ∧ (∀ s, SortedO (G' s).2) ∧
  (∀ s x, x ∈ (G' s).2 ↔ x ∈ (G s).2 ∨ (x.n = n ∧ ∃ a ∈ l, a.name.toList = s.toList ∧ a.val = x.v)) ∧ (∀ s, (G' s).2.length ≤ (G s).2.length + nmC l s) ∧ Frm eb nb 66 W W')
theorem iadd_any (w0 Wa : World) (xb eb nb Kc : Nat) (ev : Nat → Option EvT) (G : ByteArray → Value × List En) (n : Nat) (key : ByteArray) (av : Value) (l : List At) (h : IxS w0 xb eb nb Kc ev G Wa) (_hn : n ≤ 1000000) (hev : ev n = none) (ha : SeesA w0 av l) (hs : ∀ s, SortedO (G s).2) (hK : Kc ≤ 1000) :
  Calls Tryz.prog 6 #[.pointer (some ⟨xb, 0, none⟩), .int .u64 (n : Int), .agg #[.string key, av]] Wa (AddP w0 xb eb nb Kc ev G n key l Wa) := by
 obtain ⟨p, c, rfl, _, _⟩ := ha.len
 obtain ⟨W1, hW1⟩ : ∃ W1, Wa.alloc (.cells #[.string key, .slice p l.length c] 33) = W1 := ⟨_, rfl⟩
 have o1 : Old Wa W1 := by rw [← hW1]; exact (Keeps.refl _ _).alloc _
 have b1 : W1.heap[Wa.heap.size]? = some (.cells #[.string key, .slice p l.length c] 33 (0, 0)) := by rw [← hW1]; exact heap_alloc_new _ _
 have h1 := h.to o1
 have NN := Lib.hid (inone_any xb eb (.map (some nb)) W1 h1.x)
 have MY := Lib.hid (fun V (hV : Old W1 V) => ev_may_any key (.slice p l.length c) l V ((ha.old h1.old).old hV))
 have q1 := blk2 b1
 have H := Lib.hid (And.intro h1 (And.intro b1 (And.intro o1 (And.intro ha (And.intro hs hev)))))
 clear h h1 o1 b1 ha hs hev
 go_enter Tryz.func6, Tryz.ntmps6
 go_upto_region 1 with fail
 clear hW1
 go_wp2_with fail
 refine NN.out.mono ?_
 rintro e W2 ⟨rfl, e2⟩
 subst e2
 rcases (Bool.eq_false_or_eq_true (evOk key l)).symm with hok | hok
 ·rw [hok] at MY
  have HOK := Lib.hid hok
  clear hok
  go_wp2_with fail
  refine (MY.out W2 (Keeps.refl _ _)).mono ?_
  rintro e W3 ⟨rfl, k3⟩
  have K3 := Lib.hid (H.out.2.2.1.trans k3)
  clear k3
  go_wp2_with fail
  go_ret
  exact .inl ⟨HOK.out, rfl, K3.out⟩
 rw [hok] at MY
 have HOK := Lib.hid hok
 clear hok
 go_wp2_with fail
 refine (MY.out W2 (Keeps.refl _ _)).mono ?_
 rintro e W3 ⟨rfl, k3⟩
 have h3 := H.out.1.to k3
 have lk := h3.lookE2 n
 rw [H.out.2.2.2.2.2] at lk
 simp only [Option.map_none, Option.getD_none, Option.isSome_none, zeroEv] at lk
 have x0 : W3.cell? ⟨xb, 0, none⟩ = some (.map (some eb)) := by simp [World.cell?, h3.x]
 obtain ⟨W4, hW4⟩ : ∃ W4, W3.alloc (.cells #[.string ⟨#[]⟩, .slice none 0 0] 33) = W4 := ⟨_, rfl⟩
 have o4 : Old W3 W4 := by rw [← hW4]; exact (Keeps.refl _ _).alloc _
 have b3 := (k3.block _ (lt_of_heap H.out.2.1) (fun f => f)).trans H.out.2.1
 have b4 := (o4.block _ (lt_of_heap b3) (fun f => f)).trans b3
 have F := Lib.hid (And.intro (h3.to o4) (And.intro b4 ((H.out.2.2.1.trans k3).trans o4)))
 have HW4 := Lib.hid hW4
 clear k3 h3 o4 b3 b4 q1 hW4
 go_upto_region 8 with fail
 rw [HW4.out]
 clear HW4 lk x0
 have rd : W4.drew.heap[xb]? = some (.cells #[.map (some eb), .map (some nb)] 52 (0, 0)) ∧ W4.drew.heap[Wa.heap.size]? = some (.cells #[.string key, .slice p l.length c] 33 (0, 0)) := ⟨F.out.1.x, F.out.2.1⟩
 refine wp_region_g (S := fun V => V.heap[xb]? = some (.cells #[.map (some eb), .map (some nb)] 52 (0, 0)) ∧ V.heap[Wa.heap.size]? = some (.cells #[.string key, .slice p l.length c] 33 (0, 0))) (M := [0, 1, 2, 3, 4, 5, 6, 7, 8, 9, 10, 11]) (by kernel_rfl) ?_
 refine tkG (i := 0) (v := ?vf0) ?yf0 rd ?rf0
 case yf0 => (intro W hSw; go_simp; try with_reducible rfl)
 try simp only [Act.put, List.setIfInBounds_toArray, List.set_cons_zero, List.set_cons_succ]
 refine tkG (i := 1) (v := ?vf1) ?yf1 rd ?rf1
 case yf1 => (intro W hSw; go_simp; try with_reducible rfl)
 try simp only [Act.put, List.setIfInBounds_toArray, List.set_cons_zero, List.set_cons_succ]
 refine tkG (i := 2) (v := ?vf2) ?yf2 rd ?rf2
 case yf2 => (intro W hSw; go_simp; try with_reducible rfl)
 try simp only [Act.put, List.setIfInBounds_toArray, List.set_cons_zero, List.set_cons_succ]
 refine tkG (i := 3) (v := ?vf3) ?yf3 rd ?rf3
 case yf3 => (intro W hSw; obtain ⟨g1, g2⟩ := hSw; have q1 := cell_at0 g1; go_simp; try with_reducible rfl)
 try simp only [Act.put, List.setIfInBounds_toArray, List.set_cons_zero, List.set_cons_succ]
 refine tkG (i := 4) (v := ?vf4) ?yf4 rd ?rf4
 case yf4 => (intro W hSw; go_simp; try with_reducible rfl)
 try simp only [Act.put, List.setIfInBounds_toArray, List.set_cons_zero, List.set_cons_succ]
 refine tkG (i := 5) (v := ?vf5) ?yf5 rd ?rf5
 case yf5 => (intro W hSw; go_simp; try with_reducible rfl)
 try simp only [Act.put, List.setIfInBounds_toArray, List.set_cons_zero, List.set_cons_succ]
 refine tkG (i := 6) (v := ?vf6) ?yf6 rd ?rf6
 case yf6 => (intro W hSw; obtain ⟨g1, g2⟩ := hSw; have q2 := blk2 g2; go_simp; try with_reducible rfl)
 try simp only [Act.put, List.setIfInBounds_toArray, List.set_cons_zero, List.set_cons_succ]
 refine tkG (i := 7) (v := ?vf7) ?yf7 rd ?rf7
 case yf7 => (intro W hSw; go_simp; try with_reducible rfl)
 try simp only [Act.put, List.setIfInBounds_toArray, List.set_cons_zero, List.set_cons_succ]
 refine tkG (i := 8) (v := ?vf8) ?yf8 rd ?rf8
 case yf8 => (intro W hSw; obtain ⟨g1, g2⟩ := hSw; have q2 := blk2 g2; go_simp; try with_reducible rfl)
 try simp only [Act.put, List.setIfInBounds_toArray, List.set_cons_zero, List.set_cons_succ]
 refine wpAnyG_onlyL (i := 9) (o := _) (by kernel_rfl) rfl (fun K hK => ?_)
 go_simp
 have o4d : Old w0 W4.drew := F.out.1.old.trans (Keeps.refl _ _).drew
 refine (clone_at _ l W4.drew (H.out.2.2.2.1.old o4d) (by simp [At.cells, Value.oneCell']) (by have := HOK.out; unfold evOk at this; simp at this; omega)).mono ?_
 rintro e W5 ⟨p5, n5, c5, rfl, ho5, k5⟩
 have hD5 : W5.heap[xb]? = some (.cells #[.map (some eb), .map (some nb)] 52 (0, 0)) ∧ W5.heap[Wa.heap.size]? = some (.cells #[.string key, .slice p l.length c] 33 (0, 0)) := ⟨(k5.block _ (lt_of_heap rd.1) (fun f => f)).trans rd.1, (k5.block _ (lt_of_heap rd.2) (fun f => f)).trans rd.2⟩
 have i5 := F.out.1.to ((Keeps.refl (fun _ => False) W4).drew.trans k5)
 obtain ⟨W6, hrun, i6, k6⟩ := i5.putEv n (key, .slice p5 n5 c5, l) (ho5.mono (B' := w0.heap.size) o4d.size)
 simp only [evV] at hrun
 have I6 := Lib.hid (And.intro i6 (i5.xe))
 have km6 : Frm eb nb 66 Wa W6 := (((F.out.2.2.trans (Keeps.refl _ _).drew).trans k5).weaken (fun _ _ f => f.elim)).then k6 (fun i hi e => .inl e)
 have b6 := (k6.block _ (lt_of_heap hD5.2) (fun e => by
  obtain ⟨_, _, m1, _⟩ := i5.e
  obtain ⟨_, _, h1⟩ := m1.heap
  rw [← show Wa.heap.size = eb from e, hD5.2] at h1
  cases h1)).trans hD5.2
 clear ho5 k5 i5 o4d i6
 go_wp2_with fail
 refine hK.out _ _ (fun _ => hD5) ?_
 clear hK K
 try simp only [Act.put, List.setIfInBounds_toArray, List.set_cons_zero, List.set_cons_succ]
 refine tkG (i := 10) (v := ?vf10) ?yf10 hD5 ?rf10
 case yf10 => (intro W hSw; go_simp; try with_reducible rfl)
 try simp only [Act.put, List.setIfInBounds_toArray, List.set_cons_zero, List.set_cons_succ]
 refine wpAnyG_onlyL (i := 11) (o := _) (by kernel_rfl) rfl (fun K hK => ?_)
 go_simp
 refine hK.out _ _ (fun _ => ⟨I6.out.1.x, b6⟩) ?_
 clear hK K
 try simp only [Act.put, List.setIfInBounds_toArray, List.set_cons_zero, List.set_cons_succ]
 refine wpAnyG_done (by kernel_rfl) ?_ _
 go_simp
 have q2 := blk2 b6
 have hl8 : l.length ≤ 8 := by have := HOK.out; unfold evOk at this; simp at this; omega
 obtain ⟨t, ht⟩ : ∃ t : EvT, t = (key, .slice p5 n5 c5, l) := ⟨_, rfl⟩
 have T := Lib.hid (show t.1 = key ∧ t.2.2 = l ∧ IxS w0 xb eb nb Kc (fun k => if k = n then some t else ev k) G W6 from by subst ht; exact ⟨rfl, rfl, I6.out.1⟩)
 have KM6 := Lib.hid km6
 clear ht km6 hrun k6 hD5 rd b6 I6
 go_upto_region 10 with fail
 clear q2
 go_loopw [46] (fun v46 wr => ∃ i : Nat, i ≤ l.length ∧ v46 = .int .i64 i ∧ ∃ G' : ByteArray → Value × List En, IxS w0 xb eb nb (Kc + i) (fun k => if k = n then some t else ev k) G' wr ∧ (∀ s, SortedO (G' s).2) ∧
  (∀ s x, x ∈ (G' s).2 ↔ x ∈ (G s).2 ∨ (x.n = n ∧ ∃ a ∈ l.take i, a.name.toList = s.toList ∧ a.val = x.v)) ∧ (∀ s, (G' s).2.length ≤ (G s).2.length + nmC (l.take i) s) ∧ Frm eb nb 66 Wa wr) (fun v46 _ => l.length - (intOf v46).toNat)
 case atStart => exact ⟨0, Nat.zero_le _, rfl, G, T.out.2.2, H.out.2.2.2.2.1, (fun s x => by simp), (fun s => by simp [nmC]), KM6.out⟩
 case round =>
  obtain ⟨wq, hwq⟩ : ∃ wq : World, wq = wr := ⟨_, rfl⟩
  subst hwq
  obtain ⟨i, hi, rfl, Gi, hix, hso, hmem, hcnt, hkm⟩ := hrel
  have HC := Lib.hid hcnt
  clear hcnt
  by_cases hlt : i < l.length
  ·obtain ⟨b, o, cp, he, _, _, hc⟩ := H.out.2.2.2.1.at (by omega)
   simp only [Value.slice.injEq, true_and] at he
   obtain ⟨rfl, rfl⟩ := he
   obtain ⟨a, hax⟩ : ∃ a, l[i]? = some a := ⟨_, List.getElem?_eq_getElem hlt⟩
   have cell : ∀ k u, (At.cells a)[k]? = some u → wq.cell? ⟨b, o + i * 5 + k, none⟩ = some u := fun k u hu => hix.old.cell (hc i a hax k u hu) (fun f => f)
   have c0 := cell 0 _ rfl
   have c1 := cell 1 _ rfl
   have c2 := cell 2 _ rfl
   have c3 := cell 3 _ rfl
   have c4 := cell 4 _ rfl
   simp only [Nat.add_zero] at c0
   obtain ⟨nm, ⟨vk, vn, vs, vb⟩⟩ := a
   obtain ⟨W7, hW7⟩ : ∃ W7, wq.alloc (.cells #[.string nm, .int .i64 vk, .int .i64 vn, .string vs, .bool vb] 63) = W7 := ⟨_, rfl⟩
   have o7 : Old wq W7 := by rw [← hW7]; exact (Keeps.refl _ _).alloc _
   have b7 : W7.heap[wq.heap.size]? = some (.cells #[.string nm, .int .i64 vk, .int .i64 vn, .string vs, .bool vb] 63 (0, 0)) := by rw [← hW7]; exact heap_alloc_new _ _
   have HH := Lib.hid (And.intro (hix.to o7) (And.intro hso (And.intro hmem (And.intro b7 (And.intro hax (hkm.trans (o7.weaken (fun _ _ f => f.elim))))))))
   clear cell hc hix hso hmem o7 b7 hax hkm
   go_upto_region 12 with fail
   clear c0 c1 c2 c3 c4 hW7
   have rd : Old W7 W7.drew := (Keeps.refl _ _).drew
   refine wp_region_g (S := fun V => Old W7 V) (M := [0, 1, 2, 3, 4, 5, 6, 7, 8, 9, 10, 11, 12, 13]) (by kernel_rfl) ?_
   refine tkG (i := 0) (v := ?ve0) ?ye0 rd ?re0
   case ye0 => (intro W hSw; go_simp; try with_reducible rfl)
   try simp only [Act.put, List.setIfInBounds_toArray, List.set_cons_zero, List.set_cons_succ]
   refine tkG (i := 1) (v := ?ve1) ?ye1 rd ?re1
   case ye1 => (intro W hSw; go_simp; try with_reducible rfl)
   try simp only [Act.put, List.setIfInBounds_toArray, List.set_cons_zero, List.set_cons_succ]
   refine tkG (i := 2) (v := ?ve2) ?ye2 rd ?re2
   case ye2 => (intro W hSw; go_simp; try with_reducible rfl)
   try simp only [Act.put, List.setIfInBounds_toArray, List.set_cons_zero, List.set_cons_succ]
   refine tkG (i := 3) (v := ?ve3) ?ye3 rd ?re3
   case ye3 => (intro W hSw; have q1 := cell_at1 (HH.out.1.to hSw).x; go_simp; try with_reducible rfl)
   try simp only [Act.put, List.setIfInBounds_toArray, List.set_cons_zero, List.set_cons_succ]
   refine tkG (i := 4) (v := ?ve4) ?ye4 rd ?re4
   case ye4 => (intro W hSw; go_simp; try with_reducible rfl)
   try simp only [Act.put, List.setIfInBounds_toArray, List.set_cons_zero, List.set_cons_succ]
   refine tkG (i := 5) (v := ?ve5) ?ye5 rd ?re5
   case ye5 => (intro W hSw; have q1 := blk5 ((hSw.block _ (lt_of_heap HH.out.2.2.2.1) (fun f => f)).trans HH.out.2.2.2.1); go_simp; try with_reducible rfl)
   try simp only [Act.put, List.setIfInBounds_toArray, List.set_cons_zero, List.set_cons_succ]
   refine tkG (i := 6) (v := ?ve6) ?ye6 rd ?re6
   case ye6 => (intro W hSw; have q1 := (HH.out.1.to hSw).look nm; go_simp; try with_reducible rfl)
   try simp only [Act.put, List.setIfInBounds_toArray, List.set_cons_zero, List.set_cons_succ]
   refine tkG (i := 7) (v := ?ve7) ?ye7 rd ?re7
   case ye7 => (intro W hSw; go_simp; try with_reducible rfl)
   try simp only [Act.put, List.setIfInBounds_toArray, List.set_cons_zero, List.set_cons_succ]
   refine tkG (i := 8) (v := ?ve8) ?ye8 rd ?re8
   case ye8 => (intro W hSw; have q1 := blk5 ((hSw.block _ (lt_of_heap HH.out.2.2.2.1) (fun f => f)).trans HH.out.2.2.2.1); go_simp; try with_reducible rfl)
   try simp only [Act.put, List.setIfInBounds_toArray, List.set_cons_zero, List.set_cons_succ]
   refine tkG (i := 9) (v := ?ve9) ?ye9 rd ?re9
   case ye9 => (intro W hSw; go_simp; try with_reducible rfl)
   try simp only [Act.put, List.setIfInBounds_toArray, List.set_cons_zero, List.set_cons_succ]
   refine tkG (i := 10) (v := ?ve10) ?ye10 rd ?re10
   case ye10 => (intro W hSw; go_simp; try with_reducible rfl)
   try simp only [Act.put, List.setIfInBounds_toArray, List.set_cons_zero, List.set_cons_succ]
   refine wpAnyG_onlyL (i := 11) (o := _) (by kernel_rfl) rfl (fun K hK => ?_)
   go_simp
   obtain ⟨W8, hW8⟩ : ∃ W8, (W7.alloc (.cells #[.int .i64 0, .int .i64 0, .string ⟨#[]⟩, .bool false, .int .u64 0] 66)).drew = W8 := ⟨_, rfl⟩
   have o8 : Old W7 W8 := by rw [← hW8]; exact ((Keeps.refl _ _).alloc _).drew
   have b8 : W8.heap[W7.heap.size]? = some (.cells #[.int .i64 0, .int .i64 0, .string ⟨#[]⟩, .bool false, .int .u64 0] 66 (0, 0)) := by rw [← hW8]; exact heap_alloc_new W7 _
   rw [hW8]
   clear hW8
   refine hK.out _ _ (fun _ => o8) ?_
   clear hK K
   try simp only [Act.put, List.setIfInBounds_toArray, List.set_cons_zero, List.set_cons_succ]
   have q8 := blk5 b8
   refine tkG (i := 12) (v := ?ve12) ?ye12 o8 ?re12
   case ye12 => (intro W hSw; go_simp; try with_reducible rfl)
   try simp only [Act.put, List.setIfInBounds_toArray, List.set_cons_zero, List.set_cons_succ]
   refine wpAnyG_onlyL (i := 13) (o := _) (by kernel_rfl) rfl (fun K hK => ?_)
   go_simp
   have k9 := keep55 W8 W7.heap.size (.int .i64 vk) (.int .i64 vn) (.string vs) (.bool vb) (.int .u64 (n : Int))
   have b9 := put5 b8 (.int .i64 vk) (.int .i64 vn) (.string vs) (.bool vb) (.int .u64 (n : Int))
   obtain ⟨W9, hW9⟩ : ∃ W9, ((((W8.setCell ⟨W7.heap.size, 0, none⟩ (.int .i64 vk)).setCell ⟨W7.heap.size, 1, none⟩ (.int .i64 vn)).setCell ⟨W7.heap.size, 2, none⟩ (.string vs)).setCell ⟨W7.heap.size, 3, none⟩ (.bool vb)).setCell ⟨W7.heap.size, 4, none⟩ (.int .u64 (n : Int)) = W9 := ⟨_, rfl⟩
   rw [hW9] at k9 b9 ⊢
   have o9 : Old W7 W9 := o8.then k9 (fun i hi e => absurd (show i = W7.heap.size from e) (by omega))
   refine hK.out _ _ (fun _ => o9) ?_
   clear hK K
   try simp only [Act.put, List.setIfInBounds_toArray, List.set_cons_zero, List.set_cons_succ]
   clear hW9 k9 b8 q8 o8
   refine wpAnyG_done (by kernel_rfl) ?_ _
   go_simp
   have i9 := HH.out.1.to o9
   have BS0 := bsf_entry (Gi nm).1 (Gi nm).2 ⟨⟨vk, vn, vs, vb⟩, n⟩ W9 ((i9.rows nm).sees (fun x => x.len) (by decide)) ((HH.out.2.1 nm).mono _) (by have := i9.len nm; omega)
   simp only [En.cells] at BS0
   have BS := Lib.hid BS0
   have q9 := blk5 b9
   have b9a := (o9.block _ (lt_of_heap HH.out.2.2.2.1) (fun f => f)).trans HH.out.2.2.2.1
   have Q := Lib.hid (And.intro i9 (And.intro b9 (And.intro b9a (show Frm eb nb 66 Wa W9 from HH.out.2.2.2.2.2.trans (o9.weaken (fun _ _ f => f.elim))))))
   obtain ⟨rv, hrv⟩ : ∃ rv, (Gi nm).1 = rv := ⟨_, rfl⟩
   rw [hrv] at BS ⊢
   have HRV := Lib.hid hrv
   clear BS0 i9 b9 b9a o9 rd hrv
   go_wp2_with fail
   refine BS.out.mono ?_
   rintro e W10 ⟨j, u, rfl, hsp, k10⟩
   have i10 := Q.out.1.to k10
   have rd : W10.drew.heap[xb]? = some (.cells #[.map (some eb), .map (some nb)] 52 (0, 0)) ∧ W10.drew.heap[wq.heap.size]? = some (.cells #[.string nm, .int .i64 vk, .int .i64 vn, .string vs, .bool vb] 63 (0, 0)) ∧ W10.drew.heap[W7.heap.size]? = some (.cells #[.int .i64 vk, .int .i64 vn, .string vs, .bool vb, .int .u64 (n : Int)] 66 (0, 0)) :=
    ⟨i10.x, (k10.block _ (lt_of_heap Q.out.2.2.1) (fun f => f)).trans Q.out.2.2.1, (k10.block _ (lt_of_heap Q.out.2.1) (fun f => f)).trans Q.out.2.1⟩
   have R := Lib.hid (And.intro i10 (And.intro hsp (show Frm eb nb 66 Wa W10 from Q.out.2.2.2.trans (k10.weaken (fun _ _ f => f.elim)))))
   clear i10 hsp k10 q9
   go_upto_region 14 with fail
   refine wp_region_g (S := fun V => V.heap[xb]? = some (.cells #[.map (some eb), .map (some nb)] 52 (0, 0)) ∧ V.heap[wq.heap.size]? = some (.cells #[.string nm, .int .i64 vk, .int .i64 vn, .string vs, .bool vb] 63 (0, 0)) ∧ V.heap[W7.heap.size]? = some (.cells #[.int .i64 vk, .int .i64 vn, .string vs, .bool vb, .int .u64 (n : Int)] 66 (0, 0))) (M := [0, 1, 2, 3, 4, 5, 6, 7, 8, 9, 10, 11]) (by kernel_rfl) ?_
   refine tkG (i := 0) (v := ?vd0) ?yd0 rd ?rd0
   case yd0 => (intro W hSw; go_simp; try with_reducible rfl)
   try simp only [Act.put, List.setIfInBounds_toArray, List.set_cons_zero, List.set_cons_succ]
   refine tkG (i := 1) (v := ?vd1) ?yd1 rd ?rd1
   case yd1 => (intro W hSw; go_simp; try with_reducible rfl)
   try simp only [Act.put, List.setIfInBounds_toArray, List.set_cons_zero, List.set_cons_succ]
   refine tkG (i := 2) (v := ?vd2) ?yd2 rd ?rd2
   case yd2 => (intro W hSw; go_simp; try with_reducible rfl)
   try simp only [Act.put, List.setIfInBounds_toArray, List.set_cons_zero, List.set_cons_succ]
   refine tkG (i := 3) (v := ?vd3) ?yd3 rd ?rd3
   case yd3 => (intro W hSw; obtain ⟨g1, g2, g3⟩ := hSw; have q1 := cell_at1 g1; go_simp; try with_reducible rfl)
   try simp only [Act.put, List.setIfInBounds_toArray, List.set_cons_zero, List.set_cons_succ]
   refine tkG (i := 4) (v := ?vd4) ?yd4 rd ?rd4
   case yd4 => (intro W hSw; go_simp; try with_reducible rfl)
   try simp only [Act.put, List.setIfInBounds_toArray, List.set_cons_zero, List.set_cons_succ]
   refine tkG (i := 5) (v := ?vd5) ?yd5 rd ?rd5
   case yd5 => (intro W hSw; obtain ⟨g1, g2, g3⟩ := hSw; have q2 := blk5 g2; go_simp; try with_reducible rfl)
   try simp only [Act.put, List.setIfInBounds_toArray, List.set_cons_zero, List.set_cons_succ]
   refine tkG (i := 6) (v := ?vd6) ?yd6 rd ?rd6
   case yd6 => (intro W hSw; go_simp; try with_reducible rfl)
   try simp only [Act.put, List.setIfInBounds_toArray, List.set_cons_zero, List.set_cons_succ]
   refine tkG (i := 7) (v := ?vd7) ?yd7 rd ?rd7
   case yd7 => (intro W hSw; go_simp; try with_reducible rfl)
   try simp only [Act.put, List.setIfInBounds_toArray, List.set_cons_zero, List.set_cons_succ]
   refine tkG (i := 8) (v := ?vd8) ?yd8 rd ?rd8
   case yd8 => (intro W hSw; obtain ⟨g1, g2, g3⟩ := hSw; have q3 := blk5 g3; go_simp; try with_reducible rfl)
   try simp only [Act.put, List.setIfInBounds_toArray, List.set_cons_zero, List.set_cons_succ]
   refine wpAnyG_onlyL (i := 9) (o := _) (by kernel_rfl) rfl (fun K hK => ?_)
   go_simp
   obtain ⟨WB, hWB⟩ : ∃ WB, (W10.alloc (.cells #[.int .i64 vk, .int .i64 vn, .string vs, .bool vb, .int .u64 (n : Int)] 66)).drew = WB := ⟨_, rfl⟩
   have oB : Old W10 WB := by rw [← hWB]; exact ((Keeps.refl _ _).alloc _).drew
   have bB : WB.heap[W10.heap.size]? = some (.cells (En.cells ⟨⟨vk, vn, vs, vb⟩, n⟩).toArray 66 (0, 0)) := by rw [← hWB]; exact heap_alloc_new W10 _
   rw [hWB]
   clear hWB
   have hDB : WB.heap[xb]? = some (.cells #[.map (some eb), .map (some nb)] 52 (0, 0)) ∧ WB.heap[wq.heap.size]? = some (.cells #[.string nm, .int .i64 vk, .int .i64 vn, .string vs, .bool vb] 63 (0, 0)) ∧ WB.heap[W7.heap.size]? = some (.cells #[.int .i64 vk, .int .i64 vn, .string vs, .bool vb, .int .u64 (n : Int)] 66 (0, 0)) :=
    ⟨(oB.block _ (lt_of_heap rd.1) (fun f => f)).trans rd.1, (oB.block _ (lt_of_heap rd.2.1) (fun f => f)).trans rd.2.1, (oB.block _ (lt_of_heap rd.2.2) (fun f => f)).trans rd.2.2⟩
   have iB := R.out.1.to oB
   have hown := iB.rows nm
   have hblk : ∀ k, (Gi nm).1.ownBlock = some k → k < W10.heap.size := fun k e => ((R.out.1.rows nm).block k e).2
   have INS0 := insert_any (Gi nm).1 (Gi nm).2 w0.heap.size j W10.heap.size ⟨⟨vk, vn, vs, vb⟩, n⟩ WB hown R.out.2.1.1 (by have := iB.len nm; omega) bB (fun e => by have := hblk _ e; omega) iB.old.size
   rw [HRV.out] at INS0
   have INS := Lib.hid INS0
   have KB := Lib.hid (And.intro iB (And.intro hblk (show Frm eb nb 66 Wa WB from R.out.2.2.trans (oB.weaken (fun _ _ f => f.elim)))))
   clear INS0 oB bB hown iB hblk
   refine hK.out _ _ (fun _ => hDB) ?_
   clear hK K
   try simp only [Act.put, List.setIfInBounds_toArray, List.set_cons_zero, List.set_cons_succ]
   refine wpAnyG_onlyL (i := 10) (o := _) (by kernel_rfl) rfl (fun K hK => ?_)
   go_simp
   refine INS.out.mono ?_
   rintro e WC ⟨v', rfl, hoC, hbC, kC⟩
   have kC' : Keeps (fun k => (Gi nm).1.ownBlock = some k) WB WC := by rw [HRV.out]; exact kC
   have hlt7 : W7.heap.size < W10.heap.size := lt_of_heap rd.2.2
   obtain ⟨WD, hrun, iD, kD⟩ := KB.out.1.putRow nm v' _ kC' hoC (by rw [List.length_append, List.length_append, List.length_take, List.length_drop]; have := KB.out.1.len nm; have := R.out.2.1.1; simp; omega) (by rw [HRV.out]; rcases hbC with h | h; exact .inl h; exact .inr h)
   have hDC : WC.heap[xb]? = some (.cells #[.map (some eb), .map (some nb)] 52 (0, 0)) ∧ WC.heap[wq.heap.size]? = some (.cells #[.string nm, .int .i64 vk, .int .i64 vn, .string vs, .bool vb] 63 (0, 0)) ∧ WC.heap[W7.heap.size]? = some (.cells #[.int .i64 vk, .int .i64 vn, .string vs, .bool vb, .int .u64 (n : Int)] 66 (0, 0)) :=
    ⟨(kC'.block _ (lt_of_heap hDB.1) ((KB.out.1.rows nm).neE hDB.1 (by decide))).trans hDB.1, (kC'.block _ (lt_of_heap hDB.2.1) ((KB.out.1.rows nm).neE hDB.2.1 (by decide))).trans hDB.2.1, (kC'.block _ (lt_of_heap hDB.2.2) (fun e => by
     have h1 := ((HH.out.1.rows nm).block _ e).2
     omega)).trans hDB.2.2⟩
   obtain ⟨es9, ck9, hm9⟩ : ∃ es ck, WC.heap[nb]? = some (.map es ck) := by
    obtain ⟨_, _, m2, _⟩ := KB.out.1.n
    obtain ⟨es, ck, hm⟩ := m2.heap
    exact ⟨es, ck, (kC'.block _ (lt_of_heap hm) (fun e => own_map (KB.out.1.rows nm) hm _ e rfl)).trans hm⟩
   have hDD : WD.heap[xb]? = some (.cells #[.map (some eb), .map (some nb)] 52 (0, 0)) ∧ WD.heap[wq.heap.size]? = some (.cells #[.string nm, .int .i64 vk, .int .i64 vn, .string vs, .bool vb] 63 (0, 0)) ∧ WD.heap[W7.heap.size]? = some (.cells #[.int .i64 vk, .int .i64 vn, .string vs, .bool vb, .int .u64 (n : Int)] 66 (0, 0)) :=
    ⟨iD.x, (kD.block _ (lt_of_heap hDC.2.1) (fun e => by rw [show wq.heap.size = nb from e, hm9] at hDC; cases hDC.2.1)).trans hDC.2.1, (kD.block _ (lt_of_heap hDC.2.2) (fun e => by rw [show W7.heap.size = nb from e, hm9] at hDC; cases hDC.2.2)).trans hDC.2.2⟩
   have Z := Lib.hid (And.intro iD (show Frm eb nb 66 Wa WD from (KB.out.2.2.then kC' (fun i hi e => Frm.own KB.out.2.2 (KB.out.1.rows nm) hi e)).then kD (fun i hi e => .inr (.inl e))))
   clear hoC hbC kC kC' iD kD hm9 hlt7
   go_wp2_with fail
   refine hK.out _ _ (fun _ => hDC) ?_
   clear hK K
   try simp only [Act.put, List.setIfInBounds_toArray, List.set_cons_zero, List.set_cons_succ]
   refine wpAnyG_onlyL (i := 11) (o := _) (by kernel_rfl) rfl (fun K hK => ?_)
   go_simp
   refine hK.out _ _ (fun _ => hDD) ?_
   clear hK K
   try simp only [Act.put, List.setIfInBounds_toArray, List.set_cons_zero, List.set_cons_succ]
   clear hrun hDB hDC hDD rd
   refine wpAnyG_done (by kernel_rfl) ?_ _
   go_simp
   go_wp2_with fail
   go_roundw
   case rel =>
    refine ⟨i + 1, by omega, by go_num, _, Z.out.1, fun s => ?_, fun s x => ?_, fun s => ?_, Z.out.2⟩
    ·unfold upd
     split
     ·exact SortedO.put (HH.out.2.1 nm) R.out.2.1
     ·exact HH.out.2.1 s
    ·have ht : l.take (i + 1) = l.take i ++ [⟨nm, ⟨vk, vn, vs, vb⟩⟩] := by rw [List.take_add_one, HH.out.2.2.2.2.1]; rfl
     rw [ht]
     unfold upd
     split
     ·next hsn =>
      rw [mem_put, HH.out.2.2.1 nm x]
      have hGs : (G nm).2 = (G s).2 := by rw [toList_inj hsn]
      rw [hGs]
      constructor
      ·rintro ((hx | ⟨hx, a, ha, h1, h2⟩) | rfl)
       ·exact .inl hx
       ·exact .inr ⟨hx, a, List.mem_append.2 (.inl ha), by rw [h1, hsn], h2⟩
       ·exact .inr ⟨rfl, _, List.mem_append.2 (.inr (List.mem_singleton.2 rfl)), hsn.symm, rfl⟩
      ·rintro (hx | ⟨hx, a, ha, h1, h2⟩)
       ·exact .inl (.inl hx)
       ·rcases List.mem_append.1 ha with ha | ha
        ·exact .inl (.inr ⟨hx, a, ha, by rw [h1, hsn], h2⟩)
        ·rw [List.mem_singleton] at ha
         subst ha
         right
         obtain ⟨xv, xn⟩ := x
         simp only at hx h2
         rw [hx, ← h2]
     ·next hsn =>
      rw [HH.out.2.2.1 s x]
      constructor
      ·rintro (hx | ⟨hx, a, ha, h1, h2⟩)
       ·exact .inl hx
       ·exact .inr ⟨hx, a, List.mem_append.2 (.inl ha), h1, h2⟩
      ·rintro (hx | ⟨hx, a, ha, h1, h2⟩)
       ·exact .inl hx
       ·rcases List.mem_append.1 ha with ha | ha
        ·exact .inr ⟨hx, a, ha, h1, h2⟩
        ·rw [List.mem_singleton] at ha
         subst ha
         exact absurd h1.symm hsn
    ·have ht : l.take (i + 1) = l.take i ++ [⟨nm, ⟨vk, vn, vs, vb⟩⟩] := by rw [List.take_add_one, HH.out.2.2.2.2.1]; rfl
     rw [ht, nmC_snoc]
     have hc := HC.out s
     unfold upd
     split
     ·next hsn =>
      rw [toList_inj hsn] at hc ⊢
      rw [if_pos rfl]
      simp only [List.length_append, List.length_take, List.length_drop, List.length_singleton]
      omega
     ·next hsn => omega
   case measure => simp [intOf]; omega
  ·have hil : i = l.length := by omega
   subst hil
   have E := Lib.hid (And.intro hix (And.intro hso (And.intro hmem hkm)))
   have hnl : ¬ l.length < l.length := hlt
   clear hix hso hmem hkm
   go_wp2_with fail
   go_ret
   refine .inr ⟨HOK.out, rfl, Gi, t, T.out.1, T.out.2.1, E.out.1, E.out.2.1, fun s x => ?_, fun s => ?_, E.out.2.2.2⟩
   ·have := E.out.2.2.1 s x
    rwa [List.take_of_length_le (Nat.le_refl _)] at this
   ·have := HC.out s
    rwa [List.take_of_length_le (Nat.le_refl _)] at this
end
section
open Go.RowKit
def encU (n : Nat) : Value := .int .u64 (n : Int)
theorem OwnsR.len_of {α : Type} {w : World} {B k : Nat} {E : TypeId} {enc : α → List Value} {L : List α} {p : Option Addr} {n cap : Nat} (h : OwnsR w B E k enc (.slice p n cap) L) : n = L.length := by
 rcases h.2 with ⟨e, h0⟩ | ⟨_, _, _, e, _⟩
 ·simp only [Value.slice.injEq] at e; omega
 ·simp only [Value.slice.injEq] at e; exact e.2.1
theorem perm_swap {α : Type} {M L : List α} {i j : Nat} {x y : α} (h : M.Perm L) (hx : M[j]? = some x) (hy : M[i]? = some y) : ((M.set j y).set i x).Perm L := by
 obtain ⟨h1, rfl⟩ := List.getElem?_eq_some_iff.1 hx
 obtain ⟨h2, rfl⟩ := List.getElem?_eq_some_iff.1 hy
 exact (List.set_set_perm h1 h2).trans h
theorem wpAnyG_true {P : Program} {ops : Array Oper} {Q : Exit → Act → World → Prop} {md : Region.Mode} (S' : World → Prop) {M : List Nat} (M' : List Nat) :
  ∀ (fuel : Nat) (listed : Array Bool) (a : Act) (w : World), wpAnyG P md ops Q S' M' fuel listed a w → wpAnyG P md ops Q (fun _ => True) M fuel listed a w
 | 0, _, _, _, k => k
 | fuel + 1, _, _, _, k => ⟨k.1, fun i hi => wpOp_mono (fun a' w' k' => ⟨fun _ => trivial, wpAnyG_true S' M' fuel _ a' w' k'.2⟩) (k.2 i hi)⟩
theorem Tryz.infoU64 : (Tryz.prog.info? 30).map (fun i => (i.zero, i.size, i.bytes)) = some (some (.int .u64 0), 1, 8) := by kernel_rfl
end
end Go.Proofs.YtehmlaplodjenaaGreat
