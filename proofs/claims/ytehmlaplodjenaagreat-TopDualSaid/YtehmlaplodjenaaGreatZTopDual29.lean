/- DERIVED. Sorting of numbers without sign: slices.Sort of less than fifty numbers, a permutation. Written by gen_pdq.py. · DERIVED. The keys of a map of numbers without sign, collected: each once. -/
import Derived.Test.YtehmlaplodjenaaGreatZTopDual25
import Derived.Test.YtehmlaplodjenaaGreatZTopDual26
import Derived.Test.YtehmlaplodjenaaGreatZTopDual27
import Derived.Test.YtehmlaplodjenaaGreatZTopDual28
import Derived.Test.YtehmlaplodjenaaGreatZTopDual16
import Derived.Deep.DeepCutAuto
import Derived.IntWalk
import Derived.BigQuiet
import Derived.Test.YtehmlaplodjenaaGreatZTopDual19
import Derived.Test.YtehmlaplodjenaaGreatZTopDual21
import Derived.OwnWalkIn
import Derived.TacticsInMore
import Derived.Maps.RangeWalk
import Derived.RangeFuncSeq
import Derived.RangeFuncCalls
import Derived.Sort.KeysCollected
set_option maxRecDepth 100000
set_option maxHeartbeats 16000000
namespace Go.Proofs.YtehmlaplodjenaaGreat
section
open Go.RowKit
theorem insert_nil (w : World) : Calls Tryz.prog 111 #[.slice none 0 0, .int .i64 0, .int .i64 0] w fun e w' => e = .returned (.tuple #[]) ∧ Old w w' := by
 go_enter Tryz.func111, Tryz.ntmps111
 go_wp2_with fail
 go_loopw [6] (fun v6 wr => v6 = .int .i64 1 ∧ Old w wr) (fun _ _ => 0)
 case atStart => exact ⟨rfl, Keeps.refl _ _⟩
 case round =>
  obtain ⟨rfl, hkw⟩ := hrel
  have K1 := Lib.hid hkw
  clear hkw
  go_wp2_with fail
  refine bodyPost_end (results_none rfl _ _ _) rfl ?_
  exact ⟨rfl, K1.out⟩
theorem pdq_nil (lim : Nat) (w : World) : Calls Tryz.prog 73 #[.slice none 0 0, .int .i64 0, .int .i64 0, .int .i64 lim] w fun e w' => e = .returned (.tuple #[]) ∧ Old w w' := by
 have C := Lib.hid (fun W => insert_nil W)
 go_enter Tryz.func73, Tryz.ntmps73
 go_wp2_with fail
 go_loopw [1, 2] (fun v1 v2 wr => v1 = .int .i64 0 ∧ v2 = .int .i64 0 ∧ w = wr) (fun _ _ _ => 0)
 case atStart => exact ⟨rfl, rfl, rfl⟩
 case round =>
  obtain ⟨rfl, rfl, rfl⟩ := hrel
  go_wp2_with fail
  refine (C.out _).mono ?_
  rintro e w1 ⟨rfl, Z⟩
  have HZ := Lib.hid Z
  clear Z
  go_wp2_with fail
  exact bodyPost_ret (v := .tuple #[]) (by simp [results, Tryz.results73, go_sem]) rfl ⟨rfl, HZ.out⟩
theorem pdq_u64 (g n cap B : Nat) (hn : n ≤ 1000000) : ∀ (d a0 b0 lim0 : Nat) (L : List Nat) (w : World), OwnsU w B (.slice (some ⟨g, 0, none⟩) n cap) L → a0 ≤ b0 → b0 ≤ n → b0 < a0 + 50 → b0 < a0 + d → lim0 ≤ 1000 →
  Calls Tryz.prog 73 #[.slice (some ⟨g, 0, none⟩) n cap, .int .i64 a0, .int .i64 b0, .int .i64 lim0] w fun e w' => e = .returned (.tuple #[]) ∧ SrtP B g n cap L w w'
 := by
 intro d
 induction d with
 | zero => intro a0 b0 lim0 L w _ h1 _ _ h4 _; omega
 | succ d ih =>
 intro a0 b0 lim0 L w h hab0 hbn0 h50 hd0 hlim0
 have HL := Lib.hid h.len_of
 have H := Lib.hid (SrtP.refl h)
 have IH := Lib.hid ih
 clear h ih
 go_enter Tryz.func73, Tryz.ntmps73
 go_wp2_with fail
 go_loopw [1, 2, 3, 8, 9] (fun v1 v2 v3 v8 v9 wr => ∃ (a b lim : Nat) (z1 z2 : Bool), a0 ≤ a ∧ a ≤ b ∧ b ≤ b0 ∧ v1 = .int .i64 a ∧ v2 = .int .i64 b ∧ v3 = .int .i64 lim ∧ lim ≤ 1000 ∧ v8 = .bool z1 ∧ v9 = .bool z2 ∧ SrtP B g n cap L w wr) (fun v1 v2 _ _ _ _ => (intOf v2).toNat - (intOf v1).toNat)
 case atStart => exact ⟨a0, b0, lim0, true, true, Nat.le_refl _, hab0, Nat.le_refl _, rfl, rfl, rfl, hlim0, rfl, rfl, H.out⟩
 case round =>
  obtain ⟨wx, hwx⟩ : ∃ wx : World, wx = wr := ⟨_, rfl⟩
  subst hwx
  obtain ⟨a, b, lim, z1, z2, haa, hab, hbb, rfl, rfl, rfl, hlim, rfl, rfl, hs⟩ := hrel
  have hbn : b ≤ n := by omega
  obtain ⟨dd, hdd⟩ : ∃ dd, b - a = dd := ⟨_, rfl⟩
  have w1 : IntKind.i64.wrap ((b : Int) - (a : Int)) = (dd : Int) := by rw [IntWalk.i64_in _ (by omega)]; omega
  by_cases h12 : dd ≤ 12
  ·obtain ⟨M, hp, ho, hk⟩ := hs
   have hle : (dd : Int) ≤ 12 := by omega
   have C := Lib.hid (insert_u64 a b g n cap B M wx ho hbn hab hn)
   have Q := Lib.hid (And.intro hp hk)
   clear hp ho hk hdd h12
   go_wp2_with fail
   refine C.out.mono ?_
   rintro e w1 ⟨rfl, M2, h1, h2, h3⟩
   have Z := Lib.hid (show SrtP B g n cap L w w1 from ⟨M2, h1.trans Q.out.1, h2, Q.out.2.trans h3⟩)
   clear h1 h2 h3
   go_wp2_with fail
   first | exact bodyPost_ret (v := .tuple #[]) (by simp [results, Tryz.results73, go_sem]) rfl ⟨rfl, Z.out⟩ | (refine bodyPost_end (results_none rfl _ _ _) rfl ?_; exact ⟨rfl, Z.out⟩)
  have hle : ¬ (dd : Int) ≤ 12 := by omega
  rcases Nat.eq_zero_or_pos lim with h0 | hpos
  ·subst h0
   obtain ⟨M, hp, ho, hk⟩ := hs
   have C := Lib.hid (heap_u64 a b g n cap B M wx ho hbn hab hn)
   have Q := Lib.hid (And.intro hp hk)
   clear hp ho hk hdd h12
   go_wp2_with fail
   refine C.out.mono ?_
   rintro e w1 ⟨rfl, M2, h1, h2, h3⟩
   have Z := Lib.hid (show SrtP B g n cap L w w1 from ⟨M2, h1.trans Q.out.1, h2, Q.out.2.trans h3⟩)
   clear h1 h2 h3
   go_wp2_with fail
   first | exact bodyPost_ret (v := .tuple #[]) (by simp [results, Tryz.results73, go_sem]) rfl ⟨rfl, Z.out⟩ | (refine bodyPost_end (results_none rfl _ _ _) rfl ?_; exact ⟨rfl, Z.out⟩)
  have hl0 : ¬ (lim : Int) = 0 := by omega
  have hl1 : ((lim : Int) == 0) = false := by simp; omega
  have hA12 : a + 12 < b := by omega
  have hA50 : b < a + 50 := by omega
  have hS0 := Lib.hid hs
  have hdd50 : dd < 50 := by omega
  clear hs hdd
  go_upto_if 35 with fail
  go_cut [3] (fun v3 wc => ∃ (l : Nat) (wy : World), wy = wc ∧ v3 = .int .i64 l ∧ l ≤ 1000 ∧ SrtP B g n cap L w wy)
  case first =>
   cases z1
   ·obtain ⟨M, hp, ho, hk⟩ := hS0.out
    have C := Lib.hid (break_u64 a b g n cap B M wx ho hA12 hA50 hbn hn)
    have Q := Lib.hid (And.intro hp hk)
    obtain ⟨l1, hl1'⟩ : ∃ l1, l1 + 1 = lim := ⟨lim - 1, by omega⟩
    have wl : IntKind.i64.wrap ((lim : Int) - 1) = (l1 : Int) := by rw [IntWalk.i64_in _ (by omega)]; omega
    clear hp ho hk
    go_wp2_with fail
    refine C.out.mono ?_
    rintro e w1 ⟨rfl, M2, h1, h2, h3⟩
    have Z := Lib.hid (show SrtP B g n cap L w w1 from ⟨M2, h1.trans Q.out.1, h2, Q.out.2.trans h3⟩)
    clear h1 h2 h3
    go_wp2_with fail
    go_meet
    case rel => exact ⟨l1, _, rfl, rfl, by omega, Z.out⟩
   ·go_wp2_with fail
    go_meet
    case rel => exact ⟨lim, _, rfl, rfl, hlim, hS0.out⟩
  case rest =>
  obtain ⟨l, wy, rfl, rfl, hl, hs⟩ := hcut
  obtain ⟨M, hp, ho, hk⟩ := hs
  have C := Lib.hid (pivot_u64 a b g n cap B M wy ho hA12 hA50 hbn hn)
  have Q := Lib.hid (And.intro hp (And.intro ho hk))
  clear hp ho hk hl0 hl1 hpos hlim hS0
  go_wp2_with fail
  refine C.out.mono ?_
  rintro e w2 ⟨p, z, rfl, hpb, k2⟩
  have S2 := Lib.hid (show SrtP B g n cap L w w2 from ⟨M, Q.out.1, Q.out.2.1.old k2, Q.out.2.2.trans (k2.weaken (fun _ _ f => f.elim))⟩)
  clear k2 C Q
  go_upto_if 50 with fail
  go_cut [11, 12] (fun v11 v12 wc => ∃ (p : Nat) (z : Int) (wy : World), wy = wc ∧ v11 = .int .i64 p ∧ v12 = .int .i64 z ∧ a ≤ p ∧ p < b ∧ SrtP B g n cap L w wy)
  case first =>
   obtain ⟨t, ht⟩ : ∃ t, decide (z = 2) = t := ⟨_, rfl⟩
   have ht2 : (z == 2) = t := by rw [← ht]; rfl
   clear ht
   cases t
   ·go_wp2_with fail
    go_meet
    case rel => exact ⟨p, z, _, rfl, rfl, rfl, hpb.1, hpb.2, S2.out⟩
   ·obtain ⟨M, hp, ho, hk⟩ := S2.out
    have C := Lib.hid (reverse_u64 a b g n cap B M w2 ho hbn hab hn)
    have Q := Lib.hid (And.intro hp hk)
    obtain ⟨b1, hb1⟩ : ∃ b1, b1 + 1 = b := ⟨b - 1, by omega⟩
    obtain ⟨p1, hp1⟩ : ∃ p1, p1 + a = p := ⟨p - a, by omega⟩
    obtain ⟨p2, hp2⟩ : ∃ p2, p2 + p1 = b1 := ⟨b1 - p1, by omega⟩
    have wb1 : IntKind.i64.wrap ((b : Int) - 1) = (b1 : Int) := by rw [IntWalk.i64_in _ (by omega)]; omega
    have wp1 : IntKind.i64.wrap ((p : Int) - (a : Int)) = (p1 : Int) := by rw [IntWalk.i64_in _ (by omega)]; omega
    have wp2 : IntKind.i64.wrap ((b1 : Int) - (p1 : Int)) = (p2 : Int) := by rw [IntWalk.i64_in _ (by omega)]; omega
    have hq1 : a ≤ p2 := by omega
    have hq2 : p2 < b := by omega
    clear hp ho hk hb1 hp1 hp2
    go_wp2_with fail
    refine C.out.mono ?_
    rintro e w3 ⟨rfl, M2, h1, h2, h3⟩
    have Z := Lib.hid (show SrtP B g n cap L w w3 from ⟨M2, h1.trans Q.out.1, h2, Q.out.2.trans h3⟩)
    clear h1 h2 h3
    go_wp2_with fail
    go_meet
    case rel => exact ⟨p2, 1, _, rfl, rfl, rfl, hq1, hq2, Z.out⟩
  case rest =>
  clear S2 hpb
  obtain ⟨p, z, wy, rfl, rfl, rfl, hpa, hpb, hs⟩ := hcut
  have S3 := Lib.hid hs
  clear hs
  go_upto_region 15 with fail
  go_cut [68] (fun v68 wc => ∃ (t : Bool) (wz : World), wz = wc ∧ v68 = .bool t ∧ SrtP B g n cap L w wz)
  case first =>
   obtain ⟨t, ht⟩ : ∃ t, decide (z = 1) = t := ⟨_, rfl⟩
   have ht2 : (z == 1) = t := by rw [← ht]; rfl
   clear ht
   cases z1 <;> cases z2 <;> (go_wp2_with fail; go_meet; case rel => exact ⟨_, _, rfl, rfl, S3.out⟩)
  case rest =>
  clear S3
  obtain ⟨t68, wz, rfl, rfl, hs⟩ := hcut
  have S4 := Lib.hid hs
  clear hs
  go_upto_if 68 with fail
  go_cut [] (fun wc => ∃ wx : World, wx = wc ∧ SrtP B g n cap L w wx)
  case first =>
   cases t68
   ·go_wp2_with fail
    go_meet
    case rel => exact ⟨_, rfl, S4.out⟩
   ·obtain ⟨M, hp, ho, hk⟩ := S4.out
    have C := Lib.hid (partial_u64 a b g n cap B M wz ho (by omega) hA50 hbn hn)
    have Q := Lib.hid (And.intro hp hk)
    clear hp ho hk
    go_wp2_with fail
    refine C.out.mono ?_
    rintro e w3 ⟨t3, rfl, M2, h1, h2, h3⟩
    have Z := Lib.hid (show SrtP B g n cap L w w3 from ⟨M2, h1.trans Q.out.1, h2, Q.out.2.trans h3⟩)
    clear h1 h2 h3
    cases t3
    ·go_wp2_with fail
     go_meet
     case rel => exact ⟨_, rfl, Z.out⟩
    ·go_wp2_with fail
     first | exact bodyPost_ret (v := .tuple #[]) (by simp [results, Tryz.results73, go_sem]) rfl ⟨rfl, Z.out⟩ | (refine bodyPost_end (results_none rfl _ _ _) rfl ?_; exact ⟨rfl, Z.out⟩)
  case rest =>
  clear S4
  obtain ⟨wx, rfl, hs⟩ := hcut
  obtain ⟨a1, ha1⟩ : ∃ a1, a - 1 = a1 := ⟨_, rfl⟩
  go_upto_region 17 with fail
  go_cut [87] (fun v wc => ∃ (t : Bool) (wy : World), wy = wc ∧ v = .bool t ∧ (t = true → 0 < a) ∧ SrtP B g n cap L w wy)
  case first =>
   by_cases hij : 0 < a
   ·obtain ⟨M, hp, ho, hk⟩ := hs
    have hML : M.length = n := hp.length_eq.trans HL.out.symm
    have hpn : a1 < n := by omega
    have hqn : p < n := by omega
    obtain ⟨x, hx⟩ : ∃ x, M[a1]? = some x := ⟨_, List.getElem?_eq_getElem (by omega)⟩
    obtain ⟨y, hy⟩ : ∃ y, M[p]? = some y := ⟨_, List.getElem?_eq_getElem (by omega)⟩
    have HX := Lib.hid (fun W (hW : Old wx W) => OwnsU.cell (ho.old hW) hx)
    have HY := Lib.hid (fun W (hW : Old wx W) => OwnsU.cell (ho.old hW) hy)
    have hgd : decide ((a : Int) > 0) = true := by simp; omega
    have hgd2 : decide (0 < a) = true := decide_eq_true hij
    have wa1 : IntKind.i64.wrap ((a : Int) - 1) = (a1 : Int) := by rw [IntWalk.i64_in _ (by omega)]; omega
    obtain ⟨tb, htb⟩ : ∃ tb, decide ((x : Int) < (y : Int)) = tb := ⟨_, rfl⟩
    have LT0 := fun W => less_u64 (x : Int) (y : Int) W
    rw [htb] at LT0
    have LT := Lib.hid LT0
    have Q := Lib.hid (And.intro hp (And.intro ho (And.intro hk hij)))
    clear hp ho hk hx hy hML LT0 htb hij
    have rd : Old wx wx.drew := (Keeps.refl _ _).drew
    refine wp_region_g (S := fun V => Old wx V) (M := List.range 15) (by kernel_rfl) ?_
    refine tkG (i := 0) (v := ?vqy0) ?yqy0 rd ?rqy0
    case yqy0 => (intro W hSw; go_simp; try with_reducible rfl)
    try simp only [Act.put, List.setIfInBounds_toArray, List.set_cons_zero, List.set_cons_succ]
    refine tkG (i := 1) (v := ?vqy1) ?yqy1 rd ?rqy1
    case yqy1 => (intro W hSw; go_simp; try with_reducible rfl)
    try simp only [Act.put, List.setIfInBounds_toArray, List.set_cons_zero, List.set_cons_succ]
    refine tkG (i := 2) (v := ?vqy2) ?yqy2 rd ?rqy2
    case yqy2 => (intro W hSw; go_simp; try with_reducible rfl)
    try simp only [Act.put, List.setIfInBounds_toArray, List.set_cons_zero, List.set_cons_succ]
    refine tkG (i := 3) (v := ?vqy3) ?yqy3 rd ?rqy3
    case yqy3 => (intro W hSw; go_simp; try with_reducible rfl)
    try simp only [Act.put, List.setIfInBounds_toArray, List.set_cons_zero, List.set_cons_succ]
    refine tkG (i := 4) (v := ?vqy4) ?yqy4 rd ?rqy4
    case yqy4 => (intro W hSw; go_simp; try with_reducible rfl)
    try simp only [Act.put, List.setIfInBounds_toArray, List.set_cons_zero, List.set_cons_succ]
    refine tkG (i := 5) (v := ?vqy5) ?yqy5 rd ?rqy5
    case yqy5 => (intro W hSw; go_simp; try with_reducible rfl)
    try simp only [Act.put, List.setIfInBounds_toArray, List.set_cons_zero, List.set_cons_succ]
    refine tkG (i := 6) (v := ?vqy6) ?yqy6 rd ?rqy6
    case yqy6 => (intro W hSw; go_simp; try with_reducible rfl)
    try simp only [Act.put, List.setIfInBounds_toArray, List.set_cons_zero, List.set_cons_succ]
    refine tkG (i := 7) (v := ?vqy7) ?yqy7 rd ?rqy7
    case yqy7 => (intro W hSw; have q1 := (HX.out _ hSw).1; go_simp; try with_reducible rfl)
    try simp only [Act.put, List.setIfInBounds_toArray, List.set_cons_zero, List.set_cons_succ]
    refine tkG (i := 8) (v := ?vqy8) ?yqy8 rd ?rqy8
    case yqy8 => (intro W hSw; go_simp; try with_reducible rfl)
    try simp only [Act.put, List.setIfInBounds_toArray, List.set_cons_zero, List.set_cons_succ]
    refine tkG (i := 9) (v := ?vqy9) ?yqy9 rd ?rqy9
    case yqy9 => (intro W hSw; go_simp; try with_reducible rfl)
    try simp only [Act.put, List.setIfInBounds_toArray, List.set_cons_zero, List.set_cons_succ]
    refine tkG (i := 10) (v := ?vqy10) ?yqy10 rd ?rqy10
    case yqy10 => (intro W hSw; go_simp; try with_reducible rfl)
    try simp only [Act.put, List.setIfInBounds_toArray, List.set_cons_zero, List.set_cons_succ]
    refine tkG (i := 11) (v := ?vqy11) ?yqy11 rd ?rqy11
    case yqy11 => (intro W hSw; have q1 := (HY.out _ hSw).1; go_simp; try with_reducible rfl)
    try simp only [Act.put, List.setIfInBounds_toArray, List.set_cons_zero, List.set_cons_succ]
    refine wpAnyG_onlyL (i := 12) (o := _) (by kernel_rfl) rfl (fun K hK => ?_)
    go_simp
    refine (LT.out _).mono ?_
    rintro e W8 ⟨rfl, k8⟩
    have o8 : Old wx W8 := rd.trans k8
    clear k8 rd
    go_wp2_with fail
    refine hK.out _ _ (fun _ => o8) ?_
    clear hK K
    try simp only [Act.put, List.setIfInBounds_toArray, List.set_cons_zero, List.set_cons_succ]
    refine tkG (i := 13) (v := ?vqy13) ?yqy13 o8 ?rqy13
    case yqy13 => (intro W hSw; go_simp; try with_reducible rfl)
    try simp only [Act.put, List.setIfInBounds_toArray, List.set_cons_zero, List.set_cons_succ]
    refine tkG (i := 14) (v := ?vqy14) ?yqy14 o8 ?rqy14
    case yqy14 => (intro W hSw; go_simp; try with_reducible rfl)
    try simp only [Act.put, List.setIfInBounds_toArray, List.set_cons_zero, List.set_cons_succ]
    refine wpAnyG_done (by kernel_rfl) ?_ _
    go_simp
    have Y8 := Lib.hid o8
    clear o8
    go_wp2_with fail
    go_meet
    case rel => exact ⟨_, _, rfl, rfl, fun _ => Q.out.2.2.2, _, Q.out.1, Q.out.2.1.old Y8.out, Q.out.2.2.1.trans (Y8.out.weaken (fun _ _ f => f.elim))⟩
   ·have hgd : decide ((a : Int) > 0) = false := by simp; omega
    have hgd2 : decide (0 < a) = false := decide_eq_false hij
    have K8 := Lib.hid hs
    clear hs hij
    have rt : True := trivial
    refine wp_region_g (S := fun _ => True) (M := List.range 15) (by kernel_rfl) ?_
    refine tkG (i := 0) (v := ?vqn0) ?yqn0 rt ?rqn0
    case yqn0 => (intro W hSw; go_simp; try with_reducible rfl)
    try simp only [Act.put, List.setIfInBounds_toArray, List.set_cons_zero, List.set_cons_succ]
    refine tkG (i := 1) (v := ?vqn1) ?yqn1 rt ?rqn1
    case yqn1 => (intro W hSw; go_simp; try with_reducible rfl)
    try simp only [Act.put, List.setIfInBounds_toArray, List.set_cons_zero, List.set_cons_succ]
    refine tkG (i := 2) (v := ?vqn2) ?yqn2 rt ?rqn2
    case yqn2 => (intro W hSw; go_simp; try with_reducible rfl)
    try simp only [Act.put, List.setIfInBounds_toArray, List.set_cons_zero, List.set_cons_succ]
    refine tnG (i := 3) rt ?rqn3
    try simp only [Act.put, List.setIfInBounds_toArray, List.set_cons_zero, List.set_cons_succ]
    refine tnG (i := 4) rt ?rqn4
    try simp only [Act.put, List.setIfInBounds_toArray, List.set_cons_zero, List.set_cons_succ]
    refine tnG (i := 5) rt ?rqn5
    try simp only [Act.put, List.setIfInBounds_toArray, List.set_cons_zero, List.set_cons_succ]
    refine tnG (i := 6) rt ?rqn6
    try simp only [Act.put, List.setIfInBounds_toArray, List.set_cons_zero, List.set_cons_succ]
    refine tnG (i := 7) rt ?rqn7
    try simp only [Act.put, List.setIfInBounds_toArray, List.set_cons_zero, List.set_cons_succ]
    refine tnG (i := 8) rt ?rqn8
    try simp only [Act.put, List.setIfInBounds_toArray, List.set_cons_zero, List.set_cons_succ]
    refine tnG (i := 9) rt ?rqn9
    try simp only [Act.put, List.setIfInBounds_toArray, List.set_cons_zero, List.set_cons_succ]
    refine tnG (i := 10) rt ?rqn10
    try simp only [Act.put, List.setIfInBounds_toArray, List.set_cons_zero, List.set_cons_succ]
    refine tnG (i := 11) rt ?rqn11
    try simp only [Act.put, List.setIfInBounds_toArray, List.set_cons_zero, List.set_cons_succ]
    refine tnG (i := 12) rt ?rqn12
    try simp only [Act.put, List.setIfInBounds_toArray, List.set_cons_zero, List.set_cons_succ]
    refine tnG (i := 13) rt ?rqn13
    try simp only [Act.put, List.setIfInBounds_toArray, List.set_cons_zero, List.set_cons_succ]
    refine tkG (i := 14) (v := ?vqn14) ?yqn14 rt ?rqn14
    case yqn14 => (intro W hSw; go_simp; try with_reducible rfl)
    try simp only [Act.put, List.setIfInBounds_toArray, List.set_cons_zero, List.set_cons_succ]
    refine wpAnyG_done (by kernel_rfl) ?_ _
    go_simp
    go_wp2_with fail
    go_meet
    case rel => exact ⟨_, _, rfl, rfl, fun e => (by cases e), K8.out.old ((Keeps.refl _ _).drew)⟩
  case rest =>
  obtain ⟨t, wy, rfl, rfl, hte, hs⟩ := hcut
  clear hte
  obtain ⟨M, hp, ho, hk⟩ := hs
  cases t
  ·have C := Lib.hid (part_u64 a b p g n cap B M wy ho (by omega) hbn hpa hpb hn)
   have Q := Lib.hid (And.intro hp hk)
   obtain ⟨q8, hq8⟩ : ∃ q8, dd / 8 = q8 := ⟨_, rfl⟩
   have wq8 : Int.tdiv (dd : Int) 8 = (q8 : Int) := by rw [Int.tdiv_eq_ediv_of_nonneg (by omega)]; omega
   have wq9 : IntKind.i64.wrap (q8 : Int) = (q8 : Int) := IntWalk.i64_in _ (by omega)
   clear hp ho hk
   go_wp2_with fail
   refine C.out.mono ?_
   rintro e w3 ⟨m, zz, rfl, hm1, hm2, M2, h1, h2, h3⟩
   have Z0 : SrtP B g n cap L w w3 := ⟨M2, h1.trans Q.out.1, h2, Q.out.2.trans h3⟩
   obtain ⟨l1, hl1⟩ : ∃ l1, l1 + a = m := ⟨m - a, by omega⟩
   obtain ⟨l2, hl2⟩ : ∃ l2, l2 + m = b := ⟨b - m, by omega⟩
   have wm1 : IntKind.i64.wrap ((m : Int) - (a : Int)) = (l1 : Int) := by rw [IntWalk.i64_in _ (by omega)]; omega
   have wm2 : IntKind.i64.wrap ((b : Int) - (m : Int)) = (l2 : Int) := by rw [IntWalk.i64_in _ (by omega)]; omega
   obtain ⟨m1, hm3⟩ : ∃ m1, m + 1 = m1 := ⟨_, rfl⟩
   have wm3 : IntKind.i64.wrap ((m : Int) + 1) = (m1 : Int) := by rw [IntWalk.i64_in _ (by omega)]; omega
   clear h1 h2 h3
   obtain ⟨M3, hp, ho, hk⟩ := Z0
   have Q3 := Lib.hid (And.intro hp hk)
   by_cases hlr : l1 < l2
   ·have hlr2 : (l1 : Int) < (l2 : Int) := by omega
    have C3 := Lib.hid (IH.out a m l M3 w3 ho hm1 (by omega) (by omega) (by omega) hl)
    obtain ⟨tz, htz⟩ : ∃ tz, decide ((l1 : Int) ≥ (q8 : Int)) = tz := ⟨_, rfl⟩
    clear hp ho hk
    go_wp2_with fail
    refine C3.out.mono ?_
    rintro e w4 ⟨rfl, M4, h1, h2, h3⟩
    have Z := Lib.hid (show SrtP B g n cap L w w4 from ⟨M4, h1.trans Q3.out.1, h2, Q3.out.2.trans h3⟩)
    clear h1 h2 h3
    go_wp2_with fail
    go_roundw
    case rel => exact ⟨m1, b, l, _, _, by omega, by omega, by omega, rfl, rfl, rfl, hl, rfl, rfl, Z.out⟩
    case measure => simp [intOf]; omega
   ·have hlr2 : ¬ (l1 : Int) < (l2 : Int) := by omega
    have C3 := Lib.hid (IH.out m1 b l M3 w3 ho (by omega) (by omega) (by omega) (by omega) hl)
    obtain ⟨tz, htz⟩ : ∃ tz, decide ((l2 : Int) ≥ (q8 : Int)) = tz := ⟨_, rfl⟩
    clear hp ho hk
    go_wp2_with fail
    refine C3.out.mono ?_
    rintro e w4 ⟨rfl, M4, h1, h2, h3⟩
    have Z := Lib.hid (show SrtP B g n cap L w w4 from ⟨M4, h1.trans Q3.out.1, h2, Q3.out.2.trans h3⟩)
    clear h1 h2 h3
    go_wp2_with fail
    go_roundw
    case rel => exact ⟨a, m, l, _, _, by omega, by omega, by omega, rfl, rfl, rfl, hl, rfl, rfl, Z.out⟩
    case measure => simp [intOf]; omega
  ·have C := Lib.hid (parteq_u64 a b p g n cap B M wy ho (by omega) hbn hpa hpb hn)
   have Q := Lib.hid (And.intro hp hk)
   clear hp ho hk
   go_wp2_with fail
   refine C.out.mono ?_
   rintro e w3 ⟨m, rfl, hm1, hm2, M2, h1, h2, h3⟩
   have Z := Lib.hid (show SrtP B g n cap L w w3 from ⟨M2, h1.trans Q.out.1, h2, Q.out.2.trans h3⟩)
   clear h1 h2 h3
   go_wp2_with fail
   go_roundw
   case rel => exact ⟨m, b, l, _, _, by omega, by omega, by omega, rfl, rfl, rfl, hl, rfl, rfl, Z.out⟩
   case measure => simp [intOf]; omega
theorem sort_u64 (v : Value) (L : List Nat) (B : Nat) (w : World) (h : OwnsR w B 30 1 (oneL encU) v L) (hl : L.length ≤ 40) :
  Calls Tryz.prog 28 #[v] w fun e w' => e = .returned (.tuple #[]) ∧ ∃ M : List Nat, M.Perm L ∧ OwnsR w' B 30 1 (oneL encU) v M ∧ Keeps (fun k => v.ownBlock = some k) w w' := by
 have CB := Lib.hid (fun W => sh_bits_Len (L.length : Int) W (by omega) (by omega))
 have wu : IntKind.u64.wrap (L.length : Int) = (L.length : Int) := IntWalk.u64_in _ (by omega)
 have hbl : Lib.bitLen (L.length : Int).toNat ≤ 1000 := by
  rw [Int.toNat_natCast]
  have : ∀ k, k ≤ 40 → Lib.bitLen k ≤ 1000 := by decide
  exact this _ hl
 obtain ⟨bl, hbl2⟩ : ∃ bl, Lib.bitLen (L.length : Int).toNat = bl := ⟨_, rfl⟩
 rw [hbl2] at hbl CB
 clear hbl2
 rcases id h.2 with ⟨rfl, h0⟩ | ⟨g, cap, cur, rfl, _, _, hn, _⟩
 ·obtain rfl : L = [] := List.eq_nil_of_length_eq_zero h0
  have C := Lib.hid (pdq_nil bl w)
  have H := Lib.hid h
  clear h
  simp only [List.length_nil] at CB wu
  go_enter Tryz.func28, Tryz.ntmps28
  go_wp2_with fail
  refine (CB.out _).mono ?_
  rintro e w1 ⟨rfl, rfl⟩
  go_wp2_with fail
  refine C.out.mono ?_
  rintro e w2 ⟨rfl, k2⟩
  have K2 := Lib.hid k2
  clear k2
  go_wp2_with fail
  refine bodyPost_end (results_none rfl _ _ _) rfl ?_
  exact ⟨rfl, [], List.Perm.refl _, OwnsR.nil _ _, K2.out.weaken (fun _ _ f => f.elim)⟩
 ·have C := Lib.hid (pdq_u64 g L.length cap B (by omega) 50 0 L.length bl L w h (by omega) (Nat.le_refl _) (by omega) (by omega) hbl)
  clear h
  go_enter Tryz.func28, Tryz.ntmps28
  go_wp2_with fail
  refine (CB.out _).mono ?_
  rintro e w1 ⟨rfl, rfl⟩
  go_wp2_with fail
  refine C.out.mono ?_
  rintro e w2 ⟨rfl, M, h1, h2, h3⟩
  have Z := Lib.hid (And.intro h1 (And.intro h2 h3))
  clear h1 h2 h3
  go_wp2_with fail
  refine bodyPost_end (results_none rfl _ _ _) rfl ?_
  exact ⟨rfl, M, Z.out.1, Z.out.2.1, Z.out.2.2.weaken (fun k _ e => by simp [Value.ownBlock, e])⟩
end
section
open Go.RowKit Go.Maps
attribute [local go_sem] Oper.semAt_some
def keyU : Value → Int
 | .int _ z => z
 | _ => 0
def noRU : Value → Option (DataW Unit × List MemPlace) := fun _ => some (.nil, [])
theorem nodup_le : ∀ (m : Nat) (L : List Nat), L.Nodup → (∀ n ∈ L, n < m) → L.length ≤ m
 | 0, L, _, h => by
  cases L with
  | nil => exact Nat.le_refl _
  | cons a l => have := h a (by simp); omega
 | m + 1, L, hn, h => by
  by_cases hm : m ∈ L
  ·have := nodup_le m (L.erase m) (hn.erase m) (fun n hn' => by have h1 := hn.mem_erase_iff.1 hn'; have := h n h1.2; have := h1.1; omega)
   rw [List.length_erase_of_mem hm] at this
   omega
  ·have := nodup_le m L hn (fun n hn' => by have := h n hn'; have : n ≠ m := fun e => hm (e ▸ hn'); omega)
   omega
theorem MapF.ownsU {w : World} {m n : Nat} {f : Value → Option Value} (h : MapF (.int .u64) w m n f) (hf : ∀ z, f (.int .u64 z) ≠ none → 0 ≤ z ∧ z < 40) :
  ∃ D : DataW Unit, w.ownsMap Tryz.prog 30 noRU m n D ∧ ∀ z, has D (.int .u64 z) = true ↔ f (.int .u64 z) ≠ none := by
 obtain ⟨es, clk, h1, h2, h3, h4, h5⟩ := h
 have key : ∀ x ∈ es.toList, ∃ z, x.key = .int .u64 z ∧ f (.int .u64 z) ≠ none ∧ keyOf Tryz.prog 30 x.key = some (.int .u64 z) := by
  intro x hx
  have hk := h3 x hx
  obtain ⟨z, hz⟩ : ∃ z, x.key = .int .u64 z := by
   revert hk
   cases x.key <;> simp [MapKept.IsKey]
  have hne : f (.int .u64 z) ≠ none := by
   rw [(h5 (.int .u64 z) x.val (by rw [← hz]; exact hk)).2 ⟨x, hx, hz, rfl⟩]
   simp
  have hb := hf z hne
  refine ⟨z, hz, hne, ?_⟩
  rw [hz]
  have hw : (Lit.int .u64 z).wf = true := by
   have e1 : IntKind.u64.min = 0 := by decide
   have e2 : IntKind.u64.max = 18446744073709551615 := by decide
   simp [Lit.wf, e1, e2]; omega
  simp [keyOf, mapKey, Tryz.underlying30, hw]
 have hsz : es.size ≤ 40 := by
  have hpw := ((MapKept.stamped_iff es clk).1 h2).2.2
  have := nodup_le 40 (es.toList.map fun x => (keyU x.key).toNat) (by
   rw [List.Nodup, List.pairwise_map]
   refine hpw.imp_of_mem (fun {x y} hx hy hne e => hne ?_)
   obtain ⟨z, hz, hz1, _⟩ := key x hx
   obtain ⟨z', hz', hz2, _⟩ := key y hy
   have b1 := hf z hz1
   have b2 := hf z' hz2
   rw [hz, hz'] at e ⊢
   simp only [keyU] at e
   have : z = z' := by omega
   rw [this]) (fun k hk => by
   obtain ⟨x, hx, rfl⟩ := List.mem_map.1 hk
   obtain ⟨z, hz, hz1, _⟩ := key x hx
   have b1 := hf z hz1
   rw [hz]
   simp only [keyU]
   omega)
  rw [List.length_map, Array.length_toList] at this
  exact this
 have rgx : ∀ x ∈ es.toList, WideElems.rg (H := Unit) Tryz.prog 30 noRU x = (.int .u64 (keyU x.key), .nil) := by
  intro x hx
  obtain ⟨z, hz, _, hko⟩ := key x hx
  have := WideElems.rg_of (WideElems.rd_mk (P := Tryz.prog) (k := 30) (R := noRU) (val := x.val) (born := x.born) (yv := (.nil, [])) hko rfl)
  have e : keyU x.key = z := by rw [hz]; rfl
  rw [e]
  exact this
 refine ⟨_, ⟨es, clk, h1, ⟨by unfold maxLen; omega, h2, fun x hx => ?_⟩, h4, rfl⟩, fun z => ?_⟩
 ·obtain ⟨z, hz, _, hko⟩ := key x hx
  exact ⟨_, WideElems.rd_mk (val := x.val) (born := x.born) (yv := (.nil, [])) hko rfl⟩
 ·rw [has_eq, List.any_eq_true]
  constructor
  ·rintro ⟨p, hp, he⟩
   obtain ⟨x, hx, rfl⟩ := List.mem_map.1 ((WideShapes.sorted_perm _).mem_iff.1 hp)
   obtain ⟨z', hz', hne, _⟩ := key x hx
   rw [rgx x hx, hz'] at he
   simp only [keyU, Lit.sameKey] at he
   have : z' = z := by simpa using he
   rw [← this]
   exact hne
  ·intro hne
   cases hfz : f (.int .u64 z) with
   | none => exact absurd hfz hne
   | some v =>
    obtain ⟨x, hx, e, _⟩ := (h5 (.int .u64 z) v rfl).1 hfz
    refine ⟨_, (WideShapes.sorted_perm _).mem_iff.2 (List.mem_map_of_mem hx), ?_⟩
    rw [rgx x hx, e]
    simp [keyU, Lit.sameKey]
def CollU (D : DataW Unit) (left : Lit → Bool) (L : List Nat) : Prop := L.Nodup ∧ ∀ x : Nat, x ∈ L ↔ (has D (.int .u64 (x : Int)) = true ∧ left (.int .u64 (x : Int)) = false)
theorem CollU.start (D : DataW Unit) : CollU D (has D) [] := ⟨List.nodup_nil, fun x => by cases has D (.int .u64 (x : Int)) <;> simp⟩
theorem CollU.step {D : DataW Unit} {left : Lit → Bool} {L : List Nat} (h : CollU D left L) {x : Nat} {y : DataW Unit} (hlk : left (.int .u64 (x : Int)) = true) (hat : ∀ zd, D.atKey (.int .u64 (x : Int)) zd = y) : CollU D (fun z => left z && !z.sameKey (.int .u64 (x : Int))) (L ++ [x]) := by
 have hhas : has D (.int .u64 (x : Int)) = true := has_true_of_atKey hat
 have hnew : x ∉ L := fun hx => by have := ((h.2 x).1 hx).2; rw [hlk] at this; cases this
 refine ⟨List.nodup_append.2 ⟨h.1, by simp, fun a ha b hb => by simp at hb; subst hb; exact fun e => hnew (e ▸ ha)⟩, fun y => ?_⟩
 by_cases hy : y = x
 ·subst hy; simp [hhas, Lit.sameKey]
 ·have hy' : ¬ (y : Int) = (x : Int) := by omega
  simp [h.2 y, hy, hy', Lit.sameKey]
structure Apd (w0 : World) (R : Loop) (L : List Nat) (W : World) : Prop where
 old : Old w0 W
 box : ∃ v, W.heap[w0.heap.size]? = some (.cells #[v] 41 (0, 0)) ∧ OwnsR W (w0.heap.size + 3) 30 1 (oneL encU) v L
 d : W.heap[w0.heap.size + 1]? = some (.deferred (some []))
 r : W.heap[w0.heap.size + 2]? = some (.loop R)
theorem Apd.size {w0 W : World} {R : Loop} {L : List Nat} (h : Apd w0 R L W) : w0.heap.size + 3 ≤ W.heap.size := by have := lt_of_heap h.r; omega
theorem Apd.grown {w0 W W' : World} {R : Loop} {L : List Nat} {row : Option Nat} (h : Apd w0 R L W) (hg : W.grownBy W' row) (hr : ∀ r, row = some r → w0.heap.size + 3 ≤ r ∧ ∃ o : Obj, W.heap[r]? = some o ∧ o.isWalk = true) : Apd w0 R L W' := by
 have hz := h.size
 have k : Keeps (fun i => row = some i) W W' := (Keeps.refl (fun i => row = some i) W).grown hg (fun k e _ => e)
 have hne : ∀ i, i < w0.heap.size + 3 → ¬ row = some i := fun i hi e => by have := (hr i e).1; omega
 obtain ⟨v, h1, h2⟩ := h.box
 refine ⟨h.old.then k (fun i hi e => hne i (by omega) e), ⟨v, (k.block _ (by omega) (hne _ (by omega))).trans h1, h2.keeps k (fun b hb e => ?_)⟩, (k.block _ (by omega) (hne _ (by omega))).trans h.d, (k.block _ (by omega) (hne _ (by omega))).trans h.r⟩
 obtain ⟨_, o, ho, hw⟩ := hr b e
 exact h2.neO ho (fun cs fr e2 => by rw [e2] at hw; cases hw) hb
theorem keys1_any (w0 W : World) (R : Loop) (Bm mb nn : Nat) (f : Value → Option Value) (h0 : Apd w0 R [] W) (hbx : w0.heap[Bm]? = some (.cells #[.map (some mb)] 49 (0, 0))) (hm : MapF (.int .u64) w0 mb nn f) (hf : ∀ z, f (.int .u64 z) ≠ none → 0 ≤ z ∧ z < 40)
  (hR : ∀ (L : List Nat) (x : Nat) (W1 : World), L.Nodup → (∀ n ∈ L, n < 40) → Apd w0 R L W1 → Round Tryz.prog (w0.heap.size + 2) #[.int .u64 (x : Int)] W1 (fun W' => Apd w0 R (L ++ [x]) W' ∧ KeepsWalks W1 W')) :
  Calls Tryz.prog 107 #[.func (.yield (w0.heap.size + 2)) #[] #[], .pointer (some ⟨Bm, 0, none⟩)] W fun e W' => (∃ u, e = .returned u) ∧ ∃ L : List Nat, Apd w0 R L W' ∧ L.Nodup ∧ ∀ n : Nat, n ∈ L ↔ f (.int .u64 (n : Int)) ≠ none := by
 obtain ⟨D, hown, hhas⟩ := (hm.old h0.old).ownsU hf
 have qb := (blk1 ((h0.old.block _ (lt_of_heap hbx) (fun f => f)).trans hbx)).1
 have HR := Lib.hid hR
 have HO := Lib.hid hown
 have H := Lib.hid (And.intro h0 (And.intro hhas hf))
 clear hR h0 hbx hm hf hhas hown
 go_enter Tryz.func107, Tryz.ntmps107
 go_wp2_with (at_range; refine wpList_range_own _ rfl _ 49 rfl 30 33 (int_keyed Tryz.underlying30) Tryz.underlying49 noRU mb nn D rfl HO.out ?_; intro w1 hrg0 hg0 hs0)
 have R0 := Lib.hid (And.intro hrg0 (H.out.1.grown hg0 (fun r e => by cases e)))
 clear hrg0 hg0 hs0 qb
 go_frame
 go_loopw [3] (fun _ wr => ∃ (left : Lit → Bool) (cnt : Nat) (L : List Nat), wr.ranges Tryz.prog 30 noRU mb W.heap.size nn D left cnt ∧ CollU D left L ∧ Apd w0 R L wr) (fun _ wr => wr.rangeLeft mb W.heap.size)
 case atStart => exact ⟨_, _, [], R0.out.1, CollU.start D, R0.out.2⟩
 case round =>
  obtain ⟨left, cnt, L, hrg, hC, hA⟩ := hrel
  have RR := Lib.hid (And.intro hrg (And.intro hC hA))
  clear hrg hC hA
  go_wp2_with (at_next; refine wpList_next_ranges _ rfl _ rfl 30 (int_keyed Tryz.underlying30) noRU (Value.int .u64) id (fun key kl hk => by obtain ⟨x, hx, _⟩ := Maps.keyOf_int_inv Tryz.underlying30 hk; exact ⟨x, hx⟩) (fun v _ _ => ⟨v, rfl⟩) mb W.heap.size nn _ _ _ rfl RR.out.1 ?_ ?_)
  ·intro hc0 hl0
   have HL := Lib.hid hl0
   clear hc0 hl0
   go_wp2_with fail
   go_end0
   refine ⟨⟨_, rfl⟩, L, RR.out.2.2, RR.out.2.1.1, fun n => ?_⟩
   rw [RR.out.2.1.2 n, HL.out, ← H.out.2.1]
   simp
  ·intro x c kl yd yp w2 cnt2 hkey hlk hv hat hrg2 hlt hg2 hs2 hen
   obtain ⟨x', ex, rfl, _⟩ := Maps.keyOf_int_inv Tryz.underlying30 hkey
   obtain rfl : x = x' := by simpa using ex
   have hx40 := H.out.2.2 x ((H.out.2.1 x).1 (has_true_of_atKey hat))
   obtain ⟨k, rfl⟩ : ∃ k : Nat, x = (k : Int) := ⟨x.toNat, by omega⟩
   have hA2 := RR.out.2.2.grown hg2 (fun r e => by cases e; exact ⟨H.out.1.size, RR.out.1.iter_walk⟩)
   have hbd : ∀ n ∈ L, n < 40 := fun n hn => by
    have h1 := H.out.2.2 n ((H.out.2.1 n).1 ((RR.out.2.1.2 n).1 hn).1)
    omega
   obtain ⟨fn, tmps, assign, body, hy, hr⟩ := HR.out L k w2 RR.out.2.1.1 hbd hA2
   have HRD := Lib.hid (And.intro hr (And.intro hrg2 (And.intro (RR.out.2.1.step hlk hat) hlt)))
   clear hkey hlk hv hat hrg2 hlt hg2 hs2 hA2 hr hbd hx40
   go_upto_region 3 with fail
   refine (wpIn_wide (n := 1)).1 ?_
   gi_wp2
   refine HRD.out.1.mono ?_
   rintro e W3 ⟨rfl, hA3, hk3⟩
   have Z := Lib.hid (And.intro hA3 (HRD.out.2.1.of_walks hk3))
   clear hA3 hk3 hy hen
   gi_wp2
   go_wp2_with fail
   go_roundw
   case rel => exact ⟨_, cnt2, L ++ [k], Z.out.2, HRD.out.2.2.1, Z.out.1⟩
   case measure => rw [Z.out.2.left_eq, RR.out.1.left_eq]; exact HRD.out.2.2.2
end
end Go.Proofs.YtehmlaplodjenaaGreat
