/- DERIVED. Sorting of numbers without sign: heap sort. Written by gen_heap.py. -/
import Derived.Test.YtehmlaplodjenaaGreatZTopDual23
import Derived.Deep.DeepCutAuto
import Derived.IntWalk
import Derived.BigQuiet
set_option maxRecDepth 100000
set_option maxHeartbeats 8000000
namespace Go.Proofs.YtehmlaplodjenaaGreat
section
open Go.RowKit
theorem heap_u64 (a b : Nat) (g n cap B : Nat) (L : List Nat) (w : World) (h : OwnsU w B (.slice (some ⟨g, 0, none⟩) n cap) L) (hb : b ≤ n) (hab : a ≤ b) (hn : n ≤ 1000000) :
  Calls Tryz.prog 112 #[.slice (some ⟨g, 0, none⟩) n cap, .int .i64 a, .int .i64 b] w fun e w' => e = .returned (.tuple #[]) ∧ SrtP B g n cap L w w' := by
 have HL := Lib.hid h.len_of
 have H := Lib.hid (SrtP.refl h)
 clear h
 obtain ⟨d, hd⟩ : ∃ d, b - a = d := ⟨_, rfl⟩
 have wd : IntKind.i64.wrap ((b : Int) - (a : Int)) = (d : Int) := by rw [IntWalk.i64_in _ (by omega)]; omega
 have wd1 : IntKind.i64.wrap ((d : Int) - 1) = (d : Int) - 1 := IntWalk.i64_in _ (by omega)
 obtain ⟨q, hq⟩ : ∃ q : Int, Int.tdiv ((d : Int) - 1) 2 = q := ⟨_, rfl⟩
 have hq0 : -1 ≤ q ∧ q ≤ 1000000 := by
  rw [← hq]
  rcases Nat.eq_zero_or_pos d with h0 | h0
  ·subst h0; decide
  ·rw [Int.tdiv_eq_ediv_of_nonneg (by omega)]
   omega
 have wq : IntKind.i64.wrap q = q := IntWalk.i64_in _ (by omega)
 have hdn : a + d ≤ n := by omega
 have hd6 : d ≤ 1000000 := by omega
 clear hd
 go_enter Tryz.func112, Tryz.ntmps112
 go_upto_region 4 with fail
 go_loopw [9] (fun v9 wr => ∃ i : Int, -1 ≤ i ∧ i ≤ 1000000 ∧ v9 = .int .i64 i ∧ SrtP B g n cap L w wr) (fun v9 _ => ((match v9 with | .int _ z => z | _ => 0) + 1).toNat)
 case atStart => exact ⟨q, hq0.1, hq0.2, rfl, H.out⟩
 case round =>
  obtain ⟨wx, hwx⟩ : ∃ wx : World, wx = wr := ⟨_, rfl⟩
  subst hwx
  obtain ⟨i, hi1, hi2, rfl, hs⟩ := hrel
  by_cases hlt : 0 ≤ i
  ·obtain ⟨k, rfl⟩ : ∃ k : Nat, i = (k : Int) := ⟨i.toNat, by omega⟩
   obtain ⟨M, hp, ho, hk⟩ := hs
   have SF := Lib.hid (sift_u64 k d a g n cap B M wx ho hdn (by omega) hn)
   have Q := Lib.hid (And.intro hp (And.intro ho hk))
   have hge : (k : Int) ≥ 0 := by omega
   clear hp ho hk
   go_wp2_with fail
   refine SF.out.mono ?_
   rintro e w1 ⟨rfl, M2, h1, h2, h3⟩
   have Z := Lib.hid (show SrtP B g n cap L w w1 from ⟨M2, h1.trans Q.out.1, h2, Q.out.2.2.trans h3⟩)
   clear h1 h2 h3 SF
   go_wp2_with fail
   go_roundw
   case rel => exact ⟨(k : Int) - 1, by omega, by omega, by go_num, Z.out⟩
   case measure => simp
  ·have K1 := Lib.hid hs
   clear hs
   have hge : ¬ i ≥ 0 := by omega
   go_upto_region 8 with fail
   go_loopw [10] (fun v10 wr => ∃ i : Int, -1 ≤ i ∧ i ≤ (d : Int) - 1 ∧ v10 = .int .i64 i ∧ SrtP B g n cap L w wr) (fun v10 _ => ((match v10 with | .int _ z => z | _ => 0) + 1).toNat)
   case atStart => exact ⟨(d : Int) - 1, by omega, by omega, rfl, K1.out⟩
   case round =>
    obtain ⟨wx, hwx⟩ : ∃ wx : World, wx = wr := ⟨_, rfl⟩
    subst hwx
    obtain ⟨j, hj1, hj2, rfl, hs⟩ := hrel
    by_cases hlt2 : 0 ≤ j
    ·obtain ⟨k, rfl⟩ : ∃ k : Nat, j = (k : Int) := ⟨j.toNat, by omega⟩
     obtain ⟨M, hp, ho, hk⟩ := hs
     have hML : M.length = n := hp.length_eq.trans HL.out.symm
     obtain ⟨pk, hpk⟩ : ∃ pk, a + k = pk := ⟨_, rfl⟩
     obtain ⟨x, hx⟩ : ∃ x, M[a]? = some x := ⟨_, List.getElem?_eq_getElem (by omega)⟩
     obtain ⟨y, hy⟩ : ∃ y, M[pk]? = some y := ⟨_, List.getElem?_eq_getElem (by omega)⟩
     obtain ⟨⟨fp1, fp2⟩, ⟨z, fq1, fq2⟩, hsw⟩ := swap_u64 hp ho hk hx hy
     have HP := Lib.hid (fun W (hW : Old wx W) => OwnsU.cell (ho.old hW) hx)
     have HQ := Lib.hid (fun W (hW : Old wx W) => OwnsU.cell (ho.old hW) hy)
     have wk : IntKind.i64.wrap ((a : Int) + (k : Int)) = (pk : Int) := by rw [IntWalk.i64_in _ (by omega)]; omega
     have han : a < n := by omega
     have hpn : pk < n := by omega
     have hkd : k + a ≤ n := by omega
     have hk6 : k ≤ 1000000 := by omega
     have hge2 : (k : Int) ≥ 0 := by omega
     have S2 := Lib.hid hsw
     clear hp ho hk hx hy hML hpk hsw
     go_upto_region 10 with fail
     have rts : True := trivial
     refine wp_region_g (S := fun _ => True) (M := List.range 20) (by kernel_rfl) ?_
     refine tkG (i := 0) (v := ?vs0) ?ys0 rts ?rs0
     case ys0 => (intro W hSw; go_simp; try with_reducible rfl)
     try simp only [Act.put, List.setIfInBounds_toArray, List.set_cons_zero, List.set_cons_succ]
     refine tkG (i := 1) (v := ?vs1) ?ys1 rts ?rs1
     case ys1 => (intro W hSw; go_simp; try with_reducible rfl)
     try simp only [Act.put, List.setIfInBounds_toArray, List.set_cons_zero, List.set_cons_succ]
     refine tkG (i := 2) (v := ?vs2) ?ys2 rts ?rs2
     case ys2 => (intro W hSw; go_simp; try with_reducible rfl)
     try simp only [Act.put, List.setIfInBounds_toArray, List.set_cons_zero, List.set_cons_succ]
     refine tkG (i := 3) (v := ?vs3) ?ys3 rts ?rs3
     case ys3 => (intro W hSw; go_simp; try with_reducible rfl)
     try simp only [Act.put, List.setIfInBounds_toArray, List.set_cons_zero, List.set_cons_succ]
     refine tkG (i := 4) (v := ?vs4) ?ys4 rts ?rs4
     case ys4 => (intro W hSw; go_simp; try with_reducible rfl)
     try simp only [Act.put, List.setIfInBounds_toArray, List.set_cons_zero, List.set_cons_succ]
     refine tkG (i := 5) (v := ?vs5) ?ys5 rts ?rs5
     case ys5 => (intro W hSw; go_simp; try with_reducible rfl)
     try simp only [Act.put, List.setIfInBounds_toArray, List.set_cons_zero, List.set_cons_succ]
     refine tkG (i := 6) (v := ?vs6) ?ys6 rts ?rs6
     case ys6 => (intro W hSw; go_simp; try with_reducible rfl)
     try simp only [Act.put, List.setIfInBounds_toArray, List.set_cons_zero, List.set_cons_succ]
     refine tkG (i := 7) (v := ?vs7) ?ys7 rts ?rs7
     case ys7 => (intro W hSw; go_simp; try with_reducible rfl)
     try simp only [Act.put, List.setIfInBounds_toArray, List.set_cons_zero, List.set_cons_succ]
     refine tkG (i := 8) (v := ?vs8) ?ys8 rts ?rs8
     case ys8 => (intro W hSw; go_simp; try with_reducible rfl)
     try simp only [Act.put, List.setIfInBounds_toArray, List.set_cons_zero, List.set_cons_succ]
     refine tkG (i := 9) (v := ?vs9) ?ys9 rts ?rs9
     case ys9 => (intro W hSw; go_simp; try with_reducible rfl)
     try simp only [Act.put, List.setIfInBounds_toArray, List.set_cons_zero, List.set_cons_succ]
     refine tkG (i := 10) (v := ?vs10) ?ys10 rts ?rs10
     case ys10 => (intro W hSw; go_simp; try with_reducible rfl)
     try simp only [Act.put, List.setIfInBounds_toArray, List.set_cons_zero, List.set_cons_succ]
     refine tkG (i := 12) (v := ?vs12) ?ys12 rts ?rs12
     case ys12 => (intro W hSw; go_simp; try with_reducible rfl)
     try simp only [Act.put, List.setIfInBounds_toArray, List.set_cons_zero, List.set_cons_succ]
     refine tkG (i := 13) (v := ?vs13) ?ys13 rts ?rs13
     case ys13 => (intro W hSw; go_simp; try with_reducible rfl)
     try simp only [Act.put, List.setIfInBounds_toArray, List.set_cons_zero, List.set_cons_succ]
     refine tkG (i := 14) (v := ?vs14) ?ys14 rts ?rs14
     case ys14 => (intro W hSw; go_simp; try with_reducible rfl)
     try simp only [Act.put, List.setIfInBounds_toArray, List.set_cons_zero, List.set_cons_succ]
     refine wpAnyG_true (fun V => Old wx V) [0, 1, 2, 3, 4, 5, 6, 7, 8, 9, 10, 11, 12, 13, 14, 15, 16] _ _ _ _ ?_
     have r8s : Old wx wx.drew := (Keeps.refl _ _).drew
     refine tkG (i := 11) (v := ?vs11) ?ys11 r8s ?rs11
     case ys11 => (intro W hSw; have q1 := (HQ.out _ hSw).1; go_simp; try with_reducible rfl)
     try simp only [Act.put, List.setIfInBounds_toArray, List.set_cons_zero, List.set_cons_succ]
     refine tkG (i := 15) (v := ?vs15) ?ys15 r8s ?rs15
     case ys15 => (intro W hSw; have q1 := (HP.out _ hSw).1; go_simp; try with_reducible rfl)
     try simp only [Act.put, List.setIfInBounds_toArray, List.set_cons_zero, List.set_cons_succ]
     refine tkG (i := 16) (v := ?vs16) ?ys16 r8s ?rs16
     case ys16 => (intro W hSw; go_simp; try with_reducible rfl)
     try simp only [Act.put, List.setIfInBounds_toArray, List.set_cons_zero, List.set_cons_succ]
     refine wpAnyG_onlyL (i := 17) (o := _) (by kernel_rfl) rfl (fun K hK => ?_)
     go_simp
     refine hK.out _ _ (fun h => absurd h (by decide)) ?_
     clear hK K
     try simp only [Act.put, List.setIfInBounds_toArray, List.set_cons_zero, List.set_cons_succ]
     refine wpAnyG_onlyL (i := 18) (o := _) (by kernel_rfl) rfl (fun K hK => ?_)
     go_simp
     refine hK.out _ _ (fun h => absurd h (by decide)) ?_
     clear hK K
     try simp only [Act.put, List.setIfInBounds_toArray, List.set_cons_zero, List.set_cons_succ]
     refine wpAnyG_onlyL (i := 19) (o := _) (by kernel_rfl) rfl (fun K hK => ?_)
     go_simp
     refine hK.out _ _ (fun h => absurd h (by decide)) ?_
     clear hK K
     try simp only [Act.put, List.setIfInBounds_toArray, List.set_cons_zero, List.set_cons_succ]
     refine wpAnyG_done (by kernel_rfl) ?_ _
     go_simp
     clear fp1 fp2 fq1 fq2
     obtain ⟨M2, g1, g2, g3⟩ := S2.out.old ((Keeps.refl (fun _ => False) _).drew)
     have SF := Lib.hid (sift_u64 0 k a g n cap B M2 _ g2 (by omega) (by omega) hn)
     have G := Lib.hid (And.intro g1 g3)
     clear g1 g2 g3
     go_wp2_with fail
     refine SF.out.mono ?_
     rintro e w1 ⟨rfl, M3, h1, h2, h3⟩
     have Z := Lib.hid (show SrtP B g n cap L w w1 from ⟨M3, h1.trans G.out.1, h2, G.out.2.trans h3⟩)
     clear h1 h2 h3 SF
     go_wp2_with fail
     go_roundw
     case rel => exact ⟨(k : Int) - 1, by omega, by omega, by go_num, Z.out⟩
     case measure => simp
    ·have K2 := Lib.hid hs
     clear hs
     have hge2 : ¬ j ≥ 0 := by omega
     go_wp2_with fail
     first | exact bodyPost_ret (v := .tuple #[]) (by simp [results, go_sem]) rfl ⟨rfl, K2.out⟩ | (refine bodyPost_end (results_none rfl _ _ _) rfl ?_; exact ⟨rfl, K2.out⟩)
end
end Go.Proofs.YtehmlaplodjenaaGreat
