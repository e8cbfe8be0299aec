/- DERIVED. Sorting of numbers without sign: the pivot; the try of an insertion sort; at less than fifty numbers. Written by gen_piv.py. · DERIVED. Sorting of numbers without sign: the try of an insertion sort; at less than fifty numbers. Written by gen_piv.py. -/
import Derived.Test.YtehmlaplodjenaaGreatZTopDual24
import Derived.Deep.DeepCutAuto
import Derived.IntWalk
import Derived.BigQuiet
set_option maxRecDepth 100000
set_option maxHeartbeats 4000000
namespace Go.Proofs.YtehmlaplodjenaaGreat
section
open Go.RowKit
def Cnt (W : World) (sb : Nat) : Prop := ∃ s : Int, W.heap[sb]? = some (.cells #[.int .i64 s] 3 (0, 0))
theorem Cnt.old {W W' : World} {sb : Nat} (h : Cnt W sb) (k : Old W W') : Cnt W' sb := by
 obtain ⟨s, hs⟩ := h
 exact ⟨s, (k.block _ (lt_of_heap hs) (fun f => f)).trans hs⟩
theorem Cnt.ne {W : World} {sb B g n cap : Nat} {L : List Nat} (h : Cnt W sb) (ho : OwnsU W B (.slice (some ⟨g, 0, none⟩) n cap) L) : g ≠ sb := by
 obtain ⟨s, hs⟩ := h
 intro e
 exact ho.neE hs (by decide) (by simp [Value.ownBlock, e])
theorem OwnsU.keepN {W W' : World} {B g n cap sb : Nat} {L : List Nat} (h : OwnsU W B (.slice (some ⟨g, 0, none⟩) n cap) L) (hc : Cnt W sb) (k : Keeps (fun i => i = sb) W W') : OwnsU W' B (.slice (some ⟨g, 0, none⟩) n cap) L :=
 h.keeps k (fun b hb e => by
  have hg : g = b := by simpa [Value.ownBlock] using hb
  exact hc.ne h (hg.trans e))
theorem order2_u64 (a b lo hi sb : Nat) (g n cap B : Nat) (L : List Nat) (w : World) (h : OwnsU w B (.slice (some ⟨g, 0, none⟩) n cap) L) (hc : Cnt w sb) (ha : lo ≤ a ∧ a < hi) (hb : lo ≤ b ∧ b < hi) (hn : hi ≤ n) (_hn6 : n ≤ 1000000) :
  Calls Tryz.prog 199 #[.slice (some ⟨g, 0, none⟩) n cap, .int .i64 a, .int .i64 b, .pointer (some ⟨sb, 0, none⟩)] w fun e w' => ∃ x y : Nat, e = .returned (.tuple #[.int .i64 x, .int .i64 y]) ∧ (lo ≤ x ∧ x < hi) ∧ (lo ≤ y ∧ y < hi) ∧ Cnt w' sb ∧ Keeps (fun k => k = sb) w w' := by
 have HL := Lib.hid h.len_of
 have hML : L.length = n := h.len_of.symm
 have hpn : a < n := by omega
 have hqn : b < n := by omega
 obtain ⟨x, hx⟩ : ∃ x, L[b]? = some x := ⟨_, List.getElem?_eq_getElem (by omega)⟩
 obtain ⟨y, hy⟩ : ∃ y, L[a]? = some y := ⟨_, List.getElem?_eq_getElem (by omega)⟩
 have HX := Lib.hid (fun W (hW : Old w W) => OwnsU.cell (h.old hW) hx)
 have HY := Lib.hid (fun W (hW : Old w W) => OwnsU.cell (h.old hW) hy)
 obtain ⟨tb, htb⟩ : ∃ tb, decide ((x : Int) < (y : Int)) = tb := ⟨_, rfl⟩
 have LT0 := fun W => less_u64 (x : Int) (y : Int) W
 rw [htb] at LT0
 have LT := Lib.hid LT0
 have H := Lib.hid (And.intro h (And.intro hc (And.intro ha hb)))
 clear h hc ha hb hx hy hML LT0 htb
 go_enter Tryz.func199, Tryz.ntmps199
 go_upto_region 1 with fail
 have rd : Old w w.drew := (Keeps.refl _ _).drew
 refine wp_region_g (S := fun V => Old w V) (M := List.range 9) (by kernel_rfl) ?_
 refine tkG (i := 0) (v := ?vo0) ?yo0 rd ?ro0
 case yo0 => (intro W hSw; go_simp; try with_reducible rfl)
 try simp only [Act.put, List.setIfInBounds_toArray, List.set_cons_zero, List.set_cons_succ]
 refine tkG (i := 1) (v := ?vo1) ?yo1 rd ?ro1
 case yo1 => (intro W hSw; go_simp; try with_reducible rfl)
 try simp only [Act.put, List.setIfInBounds_toArray, List.set_cons_zero, List.set_cons_succ]
 refine tkG (i := 2) (v := ?vo2) ?yo2 rd ?ro2
 case yo2 => (intro W hSw; go_simp; try with_reducible rfl)
 try simp only [Act.put, List.setIfInBounds_toArray, List.set_cons_zero, List.set_cons_succ]
 refine tkG (i := 3) (v := ?vo3) ?yo3 rd ?ro3
 case yo3 => (intro W hSw; have q1 := (HX.out _ hSw).1; go_simp; try with_reducible rfl)
 try simp only [Act.put, List.setIfInBounds_toArray, List.set_cons_zero, List.set_cons_succ]
 refine tkG (i := 4) (v := ?vo4) ?yo4 rd ?ro4
 case yo4 => (intro W hSw; go_simp; try with_reducible rfl)
 try simp only [Act.put, List.setIfInBounds_toArray, List.set_cons_zero, List.set_cons_succ]
 refine tkG (i := 5) (v := ?vo5) ?yo5 rd ?ro5
 case yo5 => (intro W hSw; go_simp; try with_reducible rfl)
 try simp only [Act.put, List.setIfInBounds_toArray, List.set_cons_zero, List.set_cons_succ]
 refine tkG (i := 6) (v := ?vo6) ?yo6 rd ?ro6
 case yo6 => (intro W hSw; go_simp; try with_reducible rfl)
 try simp only [Act.put, List.setIfInBounds_toArray, List.set_cons_zero, List.set_cons_succ]
 refine tkG (i := 7) (v := ?vo7) ?yo7 rd ?ro7
 case yo7 => (intro W hSw; have q1 := (HY.out _ hSw).1; go_simp; try with_reducible rfl)
 try simp only [Act.put, List.setIfInBounds_toArray, List.set_cons_zero, List.set_cons_succ]
 refine wpAnyG_onlyL (i := 8) (o := _) (by kernel_rfl) rfl (fun K hK => ?_)
 go_simp
 refine (LT.out _).mono ?_
 rintro e W8 ⟨rfl, k8⟩
 have o8 : Old w W8 := rd.trans k8
 clear k8 rd
 go_wp2_with fail
 refine hK.out _ _ (fun _ => o8) ?_
 clear hK K
 try simp only [Act.put, List.setIfInBounds_toArray, List.set_cons_zero, List.set_cons_succ]
 refine wpAnyG_done (by kernel_rfl) ?_ _
 go_simp
 have O8 := Lib.hid o8
 cases tb
 ·clear o8
  go_wp2_with fail
  go_ret2
  exact ⟨a, b, rfl, H.out.2.2.1, H.out.2.2.2, H.out.2.1.old O8.out, O8.out.weaken (fun _ _ f => f.elim)⟩
 ·obtain ⟨s, hs⟩ := H.out.2.1.old o8
  have HS := Lib.hid hs
  have q1 := (blk1 hs).1
  have q2 := (blk1 hs).2
  clear o8 hs
  go_wp2_with fail
  go_ret2
  exact ⟨b, a, rfl, H.out.2.2.2, H.out.2.2.1, ⟨_, blk1_setD HS.out _⟩, (O8.out.weaken (fun _ _ f => f.elim)).trans (keepV _ _ _ _)⟩
theorem median_u64 (a b c lo hi sb : Nat) (g n cap B : Nat) (L : List Nat) (w : World) (h : OwnsU w B (.slice (some ⟨g, 0, none⟩) n cap) L) (hct : Cnt w sb) (ha : lo ≤ a ∧ a < hi) (hb : lo ≤ b ∧ b < hi) (hc : lo ≤ c ∧ c < hi) (hn : hi ≤ n) (hn6 : n ≤ 1000000) :
  Calls Tryz.prog 168 #[.slice (some ⟨g, 0, none⟩) n cap, .int .i64 a, .int .i64 b, .int .i64 c, .pointer (some ⟨sb, 0, none⟩)] w fun e w' => ∃ x : Nat, e = .returned (.int .i64 x) ∧ (lo ≤ x ∧ x < hi) ∧ Cnt w' sb ∧ Keeps (fun k => k = sb) w w' := by
 have H := Lib.hid (And.intro h (And.intro ha (And.intro hb (And.intro hc hn))))
 have C1 := Lib.hid (order2_u64 a b lo hi sb g n cap B L w h hct ha hb hn hn6)
 have NE := Lib.hid (fun W (ho : OwnsU W B (.slice (some ⟨g, 0, none⟩) n cap) L) (hc : Cnt W sb) W' (k : Keeps (fun i => i = sb) W W') => OwnsU.keepN ho hc k)
 have HC := Lib.hid hct
 clear h ha hb hc hct hn
 go_enter Tryz.func168, Tryz.ntmps168
 go_wp2_with fail
 refine C1.out.mono ?_
 rintro e w1 ⟨a1, b1, rfl, h1, h2, h3, k1⟩
 have o1 := NE.out _ H.out.1 HC.out _ k1
 have C2 := Lib.hid (order2_u64 b1 c lo hi sb g n cap B L w1 o1 h3 h2 H.out.2.2.2.1 H.out.2.2.2.2 hn6)
 have Q1 := Lib.hid (And.intro o1 (And.intro h1 (And.intro h3 k1)))
 clear o1 h1 h2 h3 k1 C1
 go_wp2_with fail
 refine C2.out.mono ?_
 rintro e w2 ⟨b2, c2, rfl, h1, h2, h3, k1⟩
 have o1 := NE.out _ Q1.out.1 Q1.out.2.2.1 _ k1
 have C3 := Lib.hid (order2_u64 a1 b2 lo hi sb g n cap B L w2 o1 h3 Q1.out.2.1 h1 H.out.2.2.2.2 hn6)
 have Q2 := Lib.hid (Q1.out.2.2.2.trans k1)
 clear o1 h1 h2 h3 k1 C2
 go_wp2_with fail
 refine C3.out.mono ?_
 rintro e w3 ⟨a3, b3, rfl, h1, h2, h3, k1⟩
 have Q3 := Lib.hid (And.intro h2 (And.intro h3 (Q2.out.trans k1)))
 clear h1 h2 h3 k1 C3
 go_wp2_with fail
 go_ret
 exact ⟨b3, rfl, Q3.out⟩
theorem pivot_u64 (a b : Nat) (g n cap B : Nat) (L : List Nat) (w : World) (h : OwnsU w B (.slice (some ⟨g, 0, none⟩) n cap) L) (hab : a + 12 < b) (hb : b < a + 50) (hn : b ≤ n) (hn6 : n ≤ 1000000) :
  Calls Tryz.prog 114 #[.slice (some ⟨g, 0, none⟩) n cap, .int .i64 a, .int .i64 b] w fun e w' => ∃ (x : Nat) (z : Int), e = .returned (.tuple #[.int .i64 x, .int .i64 z]) ∧ (a ≤ x ∧ x < b) ∧ Old w w' := by
 obtain ⟨d, hd⟩ : ∃ d, b - a = d := ⟨_, rfl⟩
 obtain ⟨q, hq⟩ : ∃ q, d / 4 = q := ⟨_, rfl⟩
 have w1 : IntKind.i64.wrap ((b : Int) - (a : Int)) = (d : Int) := by rw [IntWalk.i64_in _ (by omega)]; omega
 have w2 : Int.tdiv (d : Int) 4 = (q : Int) := by rw [Int.tdiv_eq_ediv_of_nonneg (by omega)]; omega
 have w3 : IntKind.i64.wrap (q : Int) = (q : Int) := IntWalk.i64_in _ (by omega)
 obtain ⟨i, hi⟩ : ∃ i, a + q = i := ⟨_, rfl⟩
 obtain ⟨q2, hq2⟩ : ∃ q2, q * 2 = q2 := ⟨_, rfl⟩
 obtain ⟨j, hj⟩ : ∃ j, a + q2 = j := ⟨_, rfl⟩
 obtain ⟨q3, hq3⟩ : ∃ q3, q * 3 = q3 := ⟨_, rfl⟩
 obtain ⟨k, hk⟩ : ∃ k, a + q3 = k := ⟨_, rfl⟩
 have w4 : IntKind.i64.wrap ((a : Int) + (q : Int)) = (i : Int) := by rw [IntWalk.i64_in _ (by omega)]; omega
 have w5 : IntKind.i64.wrap ((q : Int) * 2) = (q2 : Int) := by rw [IntWalk.i64_in _ (by omega)]; omega
 have w6 : IntKind.i64.wrap ((a : Int) + (q2 : Int)) = (j : Int) := by rw [IntWalk.i64_in _ (by omega)]; omega
 have w7 : IntKind.i64.wrap ((q : Int) * 3) = (q3 : Int) := by rw [IntWalk.i64_in _ (by omega)]; omega
 have w8 : IntKind.i64.wrap ((a : Int) + (q3 : Int)) = (k : Int) := by rw [IntWalk.i64_in _ (by omega)]; omega
 have hg1 : (8 : Int) ≤ (d : Int) := by omega
 have hg2 : ¬ (50 : Int) ≤ (d : Int) := by omega
 have hg3 : (d : Int) ≥ 8 := by omega
 have hg4 : ¬ (d : Int) ≥ 50 := by omega
 have hi2 : a ≤ i ∧ i < b := by omega
 have hj2 : a ≤ j ∧ j < b := by omega
 have hk2 : a ≤ k ∧ k < b := by omega
 obtain ⟨sb, hsb⟩ : ∃ sb, w.heap.size = sb := ⟨_, rfl⟩
 obtain ⟨W1, hW1⟩ : ∃ W1, w.alloc (.cells #[.int .i64 0] 3) = W1 := ⟨_, rfl⟩
 have o1 : Old w W1 := by rw [← hW1]; exact (Keeps.refl _ _).alloc _
 have c1 : Cnt W1 sb := ⟨0, by rw [← hW1, ← hsb]; exact heap_alloc_new _ _⟩
 have M := Lib.hid (median_u64 i j k a b sb g n cap B L W1 (h.old o1) c1 hi2 hj2 hk2 hn hn6)
 have H := Lib.hid (And.intro o1 (Nat.le_of_eq hsb))
 clear hi hj hk hq hd hq2 hq3 hi2 hj2 hk2 o1 c1 h
 go_enter Tryz.func114, Tryz.ntmps114
 go_upto_region 3 with fail
 try rw [hsb]
 try rw [hW1]
 clear hW1 hsb
 go_wp2_with fail
 refine M.out.mono ?_
 rintro e w2 ⟨x, rfl, h1, ⟨s, h2⟩, k2⟩
 have Z := Lib.hid (And.intro h1 (H.out.1.then k2 (fun i hi e => by have := H.out.2; omega)))
 have qs := (blk1 h2).1
 clear h1 h2 k2 M
 obtain ⟨t0, ht0⟩ : ∃ t, decide (s = 0) = t := ⟨_, rfl⟩
 obtain ⟨t1, ht1⟩ : ∃ t, decide (s = 12) = t := ⟨_, rfl⟩
 have hb0 : (s == 0) = t0 := by rw [← ht0]; rfl
 have hb1 : (s == 12) = t1 := by rw [← ht1]; rfl
 clear ht0 ht1
 go_wp2_with fail
 all_goals (go_ret2; exact ⟨x, _, rfl, Z.out⟩)
end
section
open Go.RowKit
theorem partial_u64 (a b : Nat) (g n cap B : Nat) (L : List Nat) (w : World) (h : OwnsU w B (.slice (some ⟨g, 0, none⟩) n cap) L) (hab : a < b) (hb : b < a + 50) (hn : b ≤ n) (hn6 : n ≤ 1000000) :
  Calls Tryz.prog 116 #[.slice (some ⟨g, 0, none⟩) n cap, .int .i64 a, .int .i64 b] w fun e w' => ∃ z : Bool, e = .returned (.bool z) ∧ SrtP B g n cap L w w' := by
 have HL := Lib.hid h.len_of
 have H := Lib.hid (SrtP.refl h)
 clear h
 obtain ⟨i0, hi0⟩ : ∃ i0, a + 1 = i0 := ⟨_, rfl⟩
 obtain ⟨d, hd⟩ : ∃ d, b - a = d := ⟨_, rfl⟩
 have w1 : IntKind.i64.wrap ((a : Int) + 1) = (i0 : Int) := by rw [IntWalk.i64_in _ (by omega)]; omega
 have w2 : IntKind.i64.wrap ((b : Int) - (a : Int)) = (d : Int) := by rw [IntWalk.i64_in _ (by omega)]; omega
 have hd50 : (d : Int) < 50 := by omega
 have hi1 : 1 ≤ i0 := by omega
 have hib : i0 ≤ b := by omega
 clear hi0 hd
 go_enter Tryz.func116, Tryz.ntmps116
 go_wp2_with fail
 go_loopw [7, 8] (fun v7 v8 wr => v7 = .int .i64 i0 ∧ v8 = .int .i64 0 ∧ w = wr) (fun _ _ _ => 0)
 case atStart => exact ⟨rfl, rfl, rfl⟩
 case round =>
  obtain ⟨rfl, rfl, rfl⟩ := hrel
  go_wp2_with fail
  go_loopw [7] (fun v wr => ∃ i : Nat, 1 ≤ i ∧ i ≤ b ∧ v = .int .i64 i ∧ SrtP B g n cap L w wr) (fun v _ => b + 1 - (intOf v).toNat)
  case atStart => exact ⟨i0, hi1, hib, rfl, H.out⟩
  case round =>
   obtain ⟨wx, hwx⟩ : ∃ wx : World, wx = wr := ⟨_, rfl⟩
   subst hwx
   obtain ⟨i, hi2, hi3, rfl, hs⟩ := hrel
   obtain ⟨j, hj⟩ : ∃ j, j + 1 = i := ⟨i - 1, by omega⟩
   have wj : IntKind.i64.wrap ((i : Int) - 1) = (j : Int) := by rw [IntWalk.i64_in _ (by omega)]; omega
   go_upto_region 5 with fail
   go_cut [32] (fun v wc => ∃ (t : Bool) (wy : World), wy = wc ∧ v = .bool t ∧ (t = true → i < b) ∧ SrtP B g n cap L w wy)
   case first =>
    by_cases hij : i < b
    ·obtain ⟨M, hp, ho, hk⟩ := hs
     have hML : M.length = n := hp.length_eq.trans HL.out.symm
     have hpn : i < n := by omega
     have hqn : j < n := by omega
     obtain ⟨x, hx⟩ : ∃ x, M[i]? = some x := ⟨_, List.getElem?_eq_getElem (by omega)⟩
     obtain ⟨y, hy⟩ : ∃ y, M[j]? = some y := ⟨_, List.getElem?_eq_getElem (by omega)⟩
     have HX := Lib.hid (fun W (hW : Old wx W) => OwnsU.cell (ho.old hW) hx)
     have HY := Lib.hid (fun W (hW : Old wx W) => OwnsU.cell (ho.old hW) hy)
     have hgd : decide ((i : Int) < (b : Int)) = true := by simp; omega
     have hgd2 : decide (i < b) = true := decide_eq_true hij
     obtain ⟨tb, htb⟩ : ∃ tb, decide ((x : Int) < (y : Int)) = tb := ⟨_, rfl⟩
     have LT0 := fun W => less_u64 (x : Int) (y : Int) W
     rw [htb] at LT0
     have LT := Lib.hid LT0
     have Q := Lib.hid (And.intro hp (And.intro ho (And.intro hk hij)))
     clear hp ho hk hx hy hML LT0 htb hij
     have rd : Old wx wx.drew := (Keeps.refl _ _).drew
     refine wp_region_g (S := fun V => Old wx V) (M := List.range 16) (by kernel_rfl) ?_
     refine tkG (i := 0) (v := ?vpy0) ?ypy0 rd ?rpy0
     case ypy0 => (intro W hSw; go_simp; try with_reducible rfl)
     try simp only [Act.put, List.setIfInBounds_toArray, List.set_cons_zero, List.set_cons_succ]
     refine tkG (i := 1) (v := ?vpy1) ?ypy1 rd ?rpy1
     case ypy1 => (intro W hSw; go_simp; try with_reducible rfl)
     try simp only [Act.put, List.setIfInBounds_toArray, List.set_cons_zero, List.set_cons_succ]
     refine tkG (i := 2) (v := ?vpy2) ?ypy2 rd ?rpy2
     case ypy2 => (intro W hSw; go_simp; try with_reducible rfl)
     try simp only [Act.put, List.setIfInBounds_toArray, List.set_cons_zero, List.set_cons_succ]
     refine tkG (i := 3) (v := ?vpy3) ?ypy3 rd ?rpy3
     case ypy3 => (intro W hSw; go_simp; try with_reducible rfl)
     try simp only [Act.put, List.setIfInBounds_toArray, List.set_cons_zero, List.set_cons_succ]
     refine tkG (i := 4) (v := ?vpy4) ?ypy4 rd ?rpy4
     case ypy4 => (intro W hSw; go_simp; try with_reducible rfl)
     try simp only [Act.put, List.setIfInBounds_toArray, List.set_cons_zero, List.set_cons_succ]
     refine tkG (i := 5) (v := ?vpy5) ?ypy5 rd ?rpy5
     case ypy5 => (intro W hSw; go_simp; try with_reducible rfl)
     try simp only [Act.put, List.setIfInBounds_toArray, List.set_cons_zero, List.set_cons_succ]
     refine tkG (i := 6) (v := ?vpy6) ?ypy6 rd ?rpy6
     case ypy6 => (intro W hSw; go_simp; try with_reducible rfl)
     try simp only [Act.put, List.setIfInBounds_toArray, List.set_cons_zero, List.set_cons_succ]
     refine tkG (i := 7) (v := ?vpy7) ?ypy7 rd ?rpy7
     case ypy7 => (intro W hSw; have q1 := (HX.out _ hSw).1; go_simp; try with_reducible rfl)
     try simp only [Act.put, List.setIfInBounds_toArray, List.set_cons_zero, List.set_cons_succ]
     refine tkG (i := 8) (v := ?vpy8) ?ypy8 rd ?rpy8
     case ypy8 => (intro W hSw; go_simp; try with_reducible rfl)
     try simp only [Act.put, List.setIfInBounds_toArray, List.set_cons_zero, List.set_cons_succ]
     refine tkG (i := 9) (v := ?vpy9) ?ypy9 rd ?rpy9
     case ypy9 => (intro W hSw; go_simp; try with_reducible rfl)
     try simp only [Act.put, List.setIfInBounds_toArray, List.set_cons_zero, List.set_cons_succ]
     refine tkG (i := 10) (v := ?vpy10) ?ypy10 rd ?rpy10
     case ypy10 => (intro W hSw; go_simp; try with_reducible rfl)
     try simp only [Act.put, List.setIfInBounds_toArray, List.set_cons_zero, List.set_cons_succ]
     refine tkG (i := 11) (v := ?vpy11) ?ypy11 rd ?rpy11
     case ypy11 => (intro W hSw; go_simp; try with_reducible rfl)
     try simp only [Act.put, List.setIfInBounds_toArray, List.set_cons_zero, List.set_cons_succ]
     refine tkG (i := 12) (v := ?vpy12) ?ypy12 rd ?rpy12
     case ypy12 => (intro W hSw; have q1 := (HY.out _ hSw).1; go_simp; try with_reducible rfl)
     try simp only [Act.put, List.setIfInBounds_toArray, List.set_cons_zero, List.set_cons_succ]
     refine wpAnyG_onlyL (i := 13) (o := _) (by kernel_rfl) rfl (fun K hK => ?_)
     go_simp
     refine (LT.out _).mono ?_
     rintro e W8 ⟨rfl, k8⟩
     have o8 : Old wx W8 := rd.trans k8
     clear k8 rd
     go_wp2_with fail
     refine hK.out _ _ (fun _ => o8) ?_
     clear hK K
     try simp only [Act.put, List.setIfInBounds_toArray, List.set_cons_zero, List.set_cons_succ]
     refine tkG (i := 14) (v := ?vpy14) ?ypy14 o8 ?rpy14
     case ypy14 => (intro W hSw; go_simp; try with_reducible rfl)
     try simp only [Act.put, List.setIfInBounds_toArray, List.set_cons_zero, List.set_cons_succ]
     refine tkG (i := 15) (v := ?vpy15) ?ypy15 o8 ?rpy15
     case ypy15 => (intro W hSw; go_simp; try with_reducible rfl)
     try simp only [Act.put, List.setIfInBounds_toArray, List.set_cons_zero, List.set_cons_succ]
     refine wpAnyG_done (by kernel_rfl) ?_ _
     go_simp
     have Y8 := Lib.hid o8
     clear o8
     go_wp2_with fail
     go_meet
     case rel => exact ⟨_, _, rfl, rfl, fun _ => Q.out.2.2.2, _, Q.out.1, Q.out.2.1.old Y8.out, Q.out.2.2.1.trans (Y8.out.weaken (fun _ _ f => f.elim))⟩
    ·have hgd : decide ((i : Int) < (b : Int)) = false := by simp; omega
     have hgd2 : decide (i < b) = false := decide_eq_false hij
     have K8 := Lib.hid hs
     clear hs hij
     have rt : True := trivial
     refine wp_region_g (S := fun _ => True) (M := List.range 16) (by kernel_rfl) ?_
     refine tkG (i := 0) (v := ?vpn0) ?ypn0 rt ?rpn0
     case ypn0 => (intro W hSw; go_simp; try with_reducible rfl)
     try simp only [Act.put, List.setIfInBounds_toArray, List.set_cons_zero, List.set_cons_succ]
     refine tkG (i := 1) (v := ?vpn1) ?ypn1 rt ?rpn1
     case ypn1 => (intro W hSw; go_simp; try with_reducible rfl)
     try simp only [Act.put, List.setIfInBounds_toArray, List.set_cons_zero, List.set_cons_succ]
     refine tkG (i := 2) (v := ?vpn2) ?ypn2 rt ?rpn2
     case ypn2 => (intro W hSw; go_simp; try with_reducible rfl)
     try simp only [Act.put, List.setIfInBounds_toArray, List.set_cons_zero, List.set_cons_succ]
     refine tkG (i := 3) (v := ?vpn3) ?ypn3 rt ?rpn3
     case ypn3 => (intro W hSw; go_simp; try with_reducible rfl)
     try simp only [Act.put, List.setIfInBounds_toArray, List.set_cons_zero, List.set_cons_succ]
     refine tnG (i := 4) rt ?rpn4
     try simp only [Act.put, List.setIfInBounds_toArray, List.set_cons_zero, List.set_cons_succ]
     refine tnG (i := 5) rt ?rpn5
     try simp only [Act.put, List.setIfInBounds_toArray, List.set_cons_zero, List.set_cons_succ]
     refine tnG (i := 6) rt ?rpn6
     try simp only [Act.put, List.setIfInBounds_toArray, List.set_cons_zero, List.set_cons_succ]
     refine tnG (i := 7) rt ?rpn7
     try simp only [Act.put, List.setIfInBounds_toArray, List.set_cons_zero, List.set_cons_succ]
     refine tnG (i := 8) rt ?rpn8
     try simp only [Act.put, List.setIfInBounds_toArray, List.set_cons_zero, List.set_cons_succ]
     refine tnG (i := 9) rt ?rpn9
     try simp only [Act.put, List.setIfInBounds_toArray, List.set_cons_zero, List.set_cons_succ]
     refine tnG (i := 10) rt ?rpn10
     try simp only [Act.put, List.setIfInBounds_toArray, List.set_cons_zero, List.set_cons_succ]
     refine tnG (i := 11) rt ?rpn11
     try simp only [Act.put, List.setIfInBounds_toArray, List.set_cons_zero, List.set_cons_succ]
     refine tnG (i := 12) rt ?rpn12
     try simp only [Act.put, List.setIfInBounds_toArray, List.set_cons_zero, List.set_cons_succ]
     refine tnG (i := 13) rt ?rpn13
     try simp only [Act.put, List.setIfInBounds_toArray, List.set_cons_zero, List.set_cons_succ]
     refine tnG (i := 14) rt ?rpn14
     try simp only [Act.put, List.setIfInBounds_toArray, List.set_cons_zero, List.set_cons_succ]
     refine tkG (i := 15) (v := ?vpn15) ?ypn15 rt ?rpn15
     case ypn15 => (intro W hSw; go_simp; try with_reducible rfl)
     try simp only [Act.put, List.setIfInBounds_toArray, List.set_cons_zero, List.set_cons_succ]
     refine wpAnyG_done (by kernel_rfl) ?_ _
     go_simp
     go_wp2_with fail
     go_meet
     case rel => exact ⟨_, _, rfl, rfl, fun e => (by cases e), K8.out.old ((Keeps.refl _ _).drew)⟩
   case rest =>
    obtain ⟨t, wy, rfl, rfl, hte, hs⟩ := hcut
    have Z := Lib.hid hs
    clear hs
    cases t
    ·clear hte
     obtain ⟨tb, htb⟩ : ∃ tb, decide ((i : Int) = (b : Int)) = tb := ⟨_, rfl⟩
     have hbe : ((i : Int) == (b : Int)) = tb := by rw [← htb]; rfl
     clear htb
     cases tb
     ·go_wp2_with fail
      go_ret
      exact ⟨false, rfl, Z.out⟩
     ·go_wp2_with fail
      go_ret
      exact ⟨true, rfl, Z.out⟩
    ·have hib2 := hte rfl
     clear hte
     go_wp2_with fail
     go_roundw
     case rel => exact ⟨i + 1, by omega, by omega, by go_num, Z.out⟩
     case measure => simp [intOf]; omega
end
end Go.Proofs.YtehmlaplodjenaaGreat
