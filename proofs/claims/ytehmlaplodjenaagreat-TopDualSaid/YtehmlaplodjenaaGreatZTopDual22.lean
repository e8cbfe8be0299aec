/- DERIVED. Sorting of numbers without sign: what every step leaves; insertion sort. · DERIVED. Sorting of numbers without sign: a swap; reverse. -/
import Derived.Test.YtehmlaplodjenaaGreatZTopDual21
import Derived.Deep.DeepCutAuto
import Derived.IntWalk
import Derived.BigQuiet
set_option maxRecDepth 100000
set_option maxHeartbeats 4000000
namespace Go.Proofs.YtehmlaplodjenaaGreat
section
open Go.RowKit
abbrev OwnsU (W : World) (B : Nat) (v : Value) (L : List Nat) : Prop := OwnsR W B 30 1 (oneL encU) v L
theorem OwnsU.cell {W : World} {B g n cap i x : Nat} {L : List Nat} (h : OwnsU W B (.slice (some ⟨g, 0, none⟩) n cap) L) (hx : L[i]? = some x) : W.cell? ⟨g, i, none⟩ = some (.int .u64 (x : Int)) ∧ W.frozen? ⟨g, i, none⟩ = false := by
 have hlt : i < L.length := (List.getElem?_eq_some_iff.1 hx).1
 obtain ⟨b, o, c, e, _, _, hcell⟩ := (OwnsR.sees (enc := oneL encU) h (fun _ => rfl) (by decide)).at (by omega)
 obtain ⟨g', cap', cur, e2, _, hg, _⟩ := h.row (by simp [Value.ownBlock])
 simp only [Value.slice.injEq, Option.some.injEq, Addr.mk.injEq, and_true] at e e2
 obtain ⟨⟨rfl, rfl⟩, _⟩ := e
 obtain ⟨rfl, _⟩ := e2
 refine ⟨?_, by simp [World.frozen?, hg]⟩
 have := hcell i x hx 0 _ rfl
 exact (by simpa using this : W.cell? ⟨g, i, none⟩ = some (encU x))
theorem OwnsU.set {W : World} {B g n cap i : Nat} {L : List Nat} (h : OwnsU W B (.slice (some ⟨g, 0, none⟩) n cap) L) (hi : i < L.length) (x : Nat) : OwnsU (W.setCell ⟨g, i, none⟩ (.int .u64 (x : Int))) B (.slice (some ⟨g, 0, none⟩) n cap) (L.set i x) := by
 obtain rfl := h.len_of
 have := OwnsR.set (enc := oneL encU) (fun _ => rfl) h i x hi
 rw [Nat.mul_one] at this
 exact this
def SrtP (B g n cap : Nat) (L : List Nat) (w w' : World) : Prop := ∃ M : List Nat, M.Perm L ∧ OwnsU w' B (.slice (some ⟨g, 0, none⟩) n cap) M ∧ Keeps (fun k => k = g) w w'
theorem SrtP.refl {B g n cap : Nat} {L : List Nat} {w : World} (h : OwnsU w B (.slice (some ⟨g, 0, none⟩) n cap) L) : SrtP B g n cap L w w := ⟨L, List.Perm.refl _, h, Keeps.refl _ _⟩
theorem SrtP.old {B g n cap : Nat} {L : List Nat} {w w1 w2 : World} (h : SrtP B g n cap L w w1) (k : Old w1 w2) : SrtP B g n cap L w w2 := by
 obtain ⟨M, h1, h2, h3⟩ := h
 exact ⟨M, h1, h2.old k, h3.trans (k.weaken (fun _ _ f => f.elim))⟩
theorem nan_u64 (x : Int) (w : World) : Calls Tryz.prog 96 #[.int .u64 x] w fun e w' => e = .returned (.bool false) ∧ Old w w' := by
 go_enter Tryz.func96, Tryz.ntmps96
 go_wp2_with fail
 go_ret
 exact ⟨by simp, Keeps.refl _ _⟩
theorem less_u64 (x y : Int) (w : World) : Calls Tryz.prog 117 #[.int .u64 x, .int .u64 y] w fun e w' => e = .returned (.bool (decide (x < y))) ∧ Old w w' := by
 have N := Lib.hid (fun z W => nan_u64 z W)
 go_enter Tryz.func117, Tryz.ntmps117
 go_wp2_with fail
 refine (N.out _ _).mono ?_
 rintro e w1 ⟨rfl, k1⟩
 have K1 := Lib.hid k1
 clear k1
 go_wp2_with fail
 go_ret
 exact ⟨by simp, K1.out⟩
theorem insert_u64 (a b : Nat) (g n cap B : Nat) (L : List Nat) (w : World) (h : OwnsU w B (.slice (some ⟨g, 0, none⟩) n cap) L) (hb : b ≤ n) (hab : a ≤ b) (hn : n ≤ 1000000) :
  Calls Tryz.prog 111 #[.slice (some ⟨g, 0, none⟩) n cap, .int .i64 a, .int .i64 b] w fun e w' => e = .returned (.tuple #[]) ∧ SrtP B g n cap L w w' := by
 have HL := Lib.hid h.len_of
 have H := Lib.hid (SrtP.refl h)
 have LS := Lib.hid (fun x y W => less_u64 x y W)
 clear h
 go_enter Tryz.func111, Tryz.ntmps111
 go_wp2_with fail
 go_loopw [6] (fun v6 wr => ∃ i : Nat, a + 1 ≤ i ∧ i ≤ b + 1 ∧ v6 = .int .i64 i ∧ SrtP B g n cap L w wr) (fun v6 _ => b + 1 - (intOf v6).toNat)
 case atStart => exact ⟨a + 1, Nat.le_refl _, by omega, by go_num, H.out⟩
 case round =>
  obtain ⟨i, hi1, hi2, rfl, hs⟩ := hrel
  by_cases hlt : i < b
  ·have R := Lib.hid hs
   obtain ⟨wo, hwo⟩ : ∃ wo : World, wo = wr := ⟨_, rfl⟩
   subst hwo
   clear hs
   go_wp2_with fail
   go_loopw [7] (fun v7 wr => ∃ j : Nat, a ≤ j ∧ j < b ∧ v7 = .int .i64 j ∧ SrtP B g n cap L w wr) (fun v7 _ => (intOf v7).toNat)
   case atStart => exact ⟨i, by omega, hlt, rfl, R.out⟩
   case round =>
    obtain ⟨wx, hwx⟩ : ∃ wx : World, wx = wr := ⟨_, rfl⟩
    subst hwx
    obtain ⟨j, hja, hj, rfl, hs⟩ := hrel
    clear R
    by_cases hj0 : a < j
    ·obtain ⟨M, hp, ho, hk⟩ := hs
     have hML : M.length = n := hp.length_eq.trans HL.out.symm
     obtain ⟨j', hj'⟩ : ∃ j', j' + 1 = j := ⟨j - 1, by omega⟩
     obtain ⟨x, hx⟩ : ∃ x, M[j]? = some x := ⟨_, List.getElem?_eq_getElem (by omega)⟩
     obtain ⟨y, hy⟩ : ∃ y, M[j']? = some y := ⟨_, List.getElem?_eq_getElem (by omega)⟩
     have HX := Lib.hid (fun W (hW : Old wx W) => (OwnsU.cell (ho.old hW) hx))
     have HY := Lib.hid (fun W (hW : Old wx W) => (OwnsU.cell (ho.old hW) hy))
     have hd : decide ((j : Int) > (a : Int)) = true := by simp; omega
     have wj : IntKind.i64.wrap ((j : Int) - 1) = (j' : Int) := by rw [IntWalk.i64_in _ (by omega)]; omega
     have hjn : j < n := by omega
     have hjn' : j' < n := by omega
     have Q := Lib.hid (And.intro hp (And.intro ho (And.intro hk (And.intro hx (And.intro hy (And.intro hj' hML))))))
     clear hp ho hk hx hy hML hj'
     go_upto_region 4 with fail
     have rd : Old wx wx.drew := (Keeps.refl _ _).drew
     refine wp_region_g (S := fun V => Old wx V) (M := List.range 15) (by kernel_rfl) ?_
     refine tkG (i := 0) (v := ?vb0) ?yb0 rd ?rb0
     case yb0 => (intro W hSw; go_simp; try with_reducible rfl)
     try simp only [Act.put, List.setIfInBounds_toArray, List.set_cons_zero, List.set_cons_succ]
     refine tkG (i := 1) (v := ?vb1) ?yb1 rd ?rb1
     case yb1 => (intro W hSw; go_simp; try with_reducible rfl)
     try simp only [Act.put, List.setIfInBounds_toArray, List.set_cons_zero, List.set_cons_succ]
     refine tkG (i := 2) (v := ?vb2) ?yb2 rd ?rb2
     case yb2 => (intro W hSw; go_simp; try with_reducible rfl)
     try simp only [Act.put, List.setIfInBounds_toArray, List.set_cons_zero, List.set_cons_succ]
     refine tkG (i := 3) (v := ?vb3) ?yb3 rd ?rb3
     case yb3 => (intro W hSw; go_simp; try with_reducible rfl)
     try simp only [Act.put, List.setIfInBounds_toArray, List.set_cons_zero, List.set_cons_succ]
     refine tkG (i := 4) (v := ?vb4) ?yb4 rd ?rb4
     case yb4 => (intro W hSw; go_simp; try with_reducible rfl)
     try simp only [Act.put, List.setIfInBounds_toArray, List.set_cons_zero, List.set_cons_succ]
     refine tkG (i := 5) (v := ?vb5) ?yb5 rd ?rb5
     case yb5 => (intro W hSw; go_simp; try with_reducible rfl)
     try simp only [Act.put, List.setIfInBounds_toArray, List.set_cons_zero, List.set_cons_succ]
     refine tkG (i := 6) (v := ?vb6) ?yb6 rd ?rb6
     case yb6 => (intro W hSw; go_simp; try with_reducible rfl)
     try simp only [Act.put, List.setIfInBounds_toArray, List.set_cons_zero, List.set_cons_succ]
     refine tkG (i := 7) (v := ?vb7) ?yb7 rd ?rb7
     case yb7 => (intro W hSw; have q1 := (HX.out _ hSw).1; go_simp; try with_reducible rfl)
     try simp only [Act.put, List.setIfInBounds_toArray, List.set_cons_zero, List.set_cons_succ]
     refine tkG (i := 8) (v := ?vb8) ?yb8 rd ?rb8
     case yb8 => (intro W hSw; go_simp; try with_reducible rfl)
     try simp only [Act.put, List.setIfInBounds_toArray, List.set_cons_zero, List.set_cons_succ]
     refine tkG (i := 9) (v := ?vb9) ?yb9 rd ?rb9
     case yb9 => (intro W hSw; go_simp; try with_reducible rfl)
     try simp only [Act.put, List.setIfInBounds_toArray, List.set_cons_zero, List.set_cons_succ]
     refine tkG (i := 10) (v := ?vb10) ?yb10 rd ?rb10
     case yb10 => (intro W hSw; go_simp; try with_reducible rfl)
     try simp only [Act.put, List.setIfInBounds_toArray, List.set_cons_zero, List.set_cons_succ]
     refine tkG (i := 11) (v := ?vb11) ?yb11 rd ?rb11
     case yb11 => (intro W hSw; go_simp; try with_reducible rfl)
     try simp only [Act.put, List.setIfInBounds_toArray, List.set_cons_zero, List.set_cons_succ]
     refine tkG (i := 12) (v := ?vb12) ?yb12 rd ?rb12
     case yb12 => (intro W hSw; have q1 := (HY.out _ hSw).1; go_simp; try with_reducible rfl)
     try simp only [Act.put, List.setIfInBounds_toArray, List.set_cons_zero, List.set_cons_succ]
     refine wpAnyG_onlyL (i := 13) (o := _) (by kernel_rfl) rfl (fun K hK => ?_)
     go_simp
     refine (LS.out _ _ _).mono ?_
     rintro e W8 ⟨rfl, k8⟩
     have o8 : Old wx W8 := rd.trans k8
     clear k8 rd
     go_wp2_with fail
     refine hK.out _ _ (fun _ => o8) ?_
     clear hK K
     try simp only [Act.put, List.setIfInBounds_toArray, List.set_cons_zero, List.set_cons_succ]
     refine tkG (i := 14) (v := ?vb14) ?yb14 o8 ?rb14
     case yb14 => (intro W hSw; go_simp; try with_reducible rfl)
     try simp only [Act.put, List.setIfInBounds_toArray, List.set_cons_zero, List.set_cons_succ]
     refine wpAnyG_done (by kernel_rfl) ?_ _
     go_simp
     have Y := Lib.hid o8
     clear o8
     cases hz : decide ((x : Int) < (y : Int))
     ·have hz2 : ¬ x < y := by simp at hz; omega
      go_wp2_with fail
      go_roundw
      case rel => exact ⟨i + 1, by omega, by omega, by go_num, M, Q.out.1, Q.out.2.1.old Y.out, Q.out.2.2.1.trans (Y.out.weaken (fun _ _ f => f.elim))⟩
      case measure => simp [intOf]; omega
     ·have hz2 : x < y := by simp at hz; omega
      obtain ⟨V8, hV8⟩ : ∃ V8, W8 = V8 := ⟨_, rfl⟩
      have sy := OwnsU.set (Q.out.2.1.old Y.out) (i := j) (by have := Q.out.2.2.2.2.2.2; omega) y
      have cx := (HX.out W8 Y.out).2
      have sx := OwnsU.set sy (i := j') (by rw [List.length_set]; have := Q.out.2.2.2.2.2.2; omega) x
      have fx2 : (M.set j y)[j']? = some y := by rw [List.getElem?_set_ne (by have := Q.out.2.2.2.2.2.1; omega)]; exact Q.out.2.2.2.2.1
      have cy := OwnsU.cell sy fx2
      have kz := (keepV W8 g j (.int .u64 (y : Int))).trans (keepV (W8.setCell ⟨g, j, none⟩ (.int .u64 (y : Int))) g j' (.int .u64 (x : Int)))
      have k0 : Keeps (fun k => k = g) w W8 := Q.out.2.2.1.trans (Y.out.weaken (fun _ _ f => f.elim))
      have Z := Lib.hid (show SrtP B g n cap L w ((W8.setCell ⟨g, j, none⟩ (.int .u64 (y : Int))).setCell ⟨g, j', none⟩ (.int .u64 (x : Int))) from ⟨_, perm_swap Q.out.1 Q.out.2.2.2.1 Q.out.2.2.2.2.1, sx, k0.trans kz⟩)
      have cx1 := (HX.out W8 Y.out).1
      have cy1 := cy.1
      have cy2 := cy.2
      clear sy sx fx2 cy kz k0 hV8
      go_upto_region 6 with fail
      have rt : True := trivial
      refine wp_region_g (S := fun _ => True) (M := List.range 18) (by kernel_rfl) ?_
      refine tkG (i := 0) (v := ?vd0) ?yd0 rt ?rd0
      case yd0 => (intro W hSw; go_simp; try with_reducible rfl)
      try simp only [Act.put, List.setIfInBounds_toArray, List.set_cons_zero, List.set_cons_succ]
      refine tkG (i := 1) (v := ?vd1) ?yd1 rt ?rd1
      case yd1 => (intro W hSw; go_simp; try with_reducible rfl)
      try simp only [Act.put, List.setIfInBounds_toArray, List.set_cons_zero, List.set_cons_succ]
      refine tkG (i := 2) (v := ?vd2) ?yd2 rt ?rd2
      case yd2 => (intro W hSw; go_simp; try with_reducible rfl)
      try simp only [Act.put, List.setIfInBounds_toArray, List.set_cons_zero, List.set_cons_succ]
      refine tkG (i := 3) (v := ?vd3) ?yd3 rt ?rd3
      case yd3 => (intro W hSw; go_simp; try with_reducible rfl)
      try simp only [Act.put, List.setIfInBounds_toArray, List.set_cons_zero, List.set_cons_succ]
      refine tkG (i := 4) (v := ?vd4) ?yd4 rt ?rd4
      case yd4 => (intro W hSw; go_simp; try with_reducible rfl)
      try simp only [Act.put, List.setIfInBounds_toArray, List.set_cons_zero, List.set_cons_succ]
      refine tkG (i := 5) (v := ?vd5) ?yd5 rt ?rd5
      case yd5 => (intro W hSw; go_simp; try with_reducible rfl)
      try simp only [Act.put, List.setIfInBounds_toArray, List.set_cons_zero, List.set_cons_succ]
      refine tkG (i := 6) (v := ?vd6) ?yd6 rt ?rd6
      case yd6 => (intro W hSw; go_simp; try with_reducible rfl)
      try simp only [Act.put, List.setIfInBounds_toArray, List.set_cons_zero, List.set_cons_succ]
      refine tkG (i := 7) (v := ?vd7) ?yd7 rt ?rd7
      case yd7 => (intro W hSw; go_simp; try with_reducible rfl)
      try simp only [Act.put, List.setIfInBounds_toArray, List.set_cons_zero, List.set_cons_succ]
      refine tkG (i := 10) (v := ?vd10) ?yd10 rt ?rd10
      case yd10 => (intro W hSw; go_simp; try with_reducible rfl)
      try simp only [Act.put, List.setIfInBounds_toArray, List.set_cons_zero, List.set_cons_succ]
      refine tkG (i := 11) (v := ?vd11) ?yd11 rt ?rd11
      case yd11 => (intro W hSw; go_simp; try with_reducible rfl)
      try simp only [Act.put, List.setIfInBounds_toArray, List.set_cons_zero, List.set_cons_succ]
      refine tkG (i := 8) (v := ?vd8) ?yd8 rt ?rd8
      case yd8 => (intro W hSw; go_simp; try with_reducible rfl)
      try simp only [Act.put, List.setIfInBounds_toArray, List.set_cons_zero, List.set_cons_succ]
      refine tkG (i := 12) (v := ?vd12) ?yd12 rt ?rd12
      case yd12 => (intro W hSw; go_simp; try with_reducible rfl)
      try simp only [Act.put, List.setIfInBounds_toArray, List.set_cons_zero, List.set_cons_succ]
      refine wpAnyG_true (fun V => Old W8 V) [0, 1, 2, 3, 4, 5, 6, 7, 8, 9, 10, 11, 12, 13, 14] _ _ _ _ ?_
      have r8 : Old W8 W8.drew := (Keeps.refl _ _).drew
      refine tkG (i := 9) (v := ?vd9) ?yd9 r8 ?rd9
      case yd9 => (intro W hSw; have q1 := (HY.out _ (Y.out.trans hSw)).1; go_simp; try with_reducible rfl)
      try simp only [Act.put, List.setIfInBounds_toArray, List.set_cons_zero, List.set_cons_succ]
      refine tkG (i := 13) (v := ?vd13) ?yd13 r8 ?rd13
      case yd13 => (intro W hSw; have q1 := (HX.out _ (Y.out.trans hSw)).1; go_simp; try with_reducible rfl)
      try simp only [Act.put, List.setIfInBounds_toArray, List.set_cons_zero, List.set_cons_succ]
      refine tkG (i := 14) (v := ?vd14) ?yd14 r8 ?rd14
      case yd14 => (intro W hSw; go_simp; try with_reducible rfl)
      try simp only [Act.put, List.setIfInBounds_toArray, List.set_cons_zero, List.set_cons_succ]
      refine wpAnyG_onlyL (i := 15) (o := _) (by kernel_rfl) rfl (fun K hK => ?_)
      go_simp
      refine hK.out _ _ (fun h => absurd h (by decide)) ?_
      clear hK K
      try simp only [Act.put, List.setIfInBounds_toArray, List.set_cons_zero, List.set_cons_succ]
      refine wpAnyG_onlyL (i := 16) (o := _) (by kernel_rfl) rfl (fun K hK => ?_)
      go_simp
      refine hK.out _ _ (fun h => absurd h (by decide)) ?_
      clear hK K
      try simp only [Act.put, List.setIfInBounds_toArray, List.set_cons_zero, List.set_cons_succ]
      refine wpAnyG_onlyL (i := 17) (o := _) (by kernel_rfl) rfl (fun K hK => ?_)
      go_simp
      refine hK.out _ _ (fun h => absurd h (by decide)) ?_
      clear hK K
      try simp only [Act.put, List.setIfInBounds_toArray, List.set_cons_zero, List.set_cons_succ]
      refine wpAnyG_done (by kernel_rfl) ?_ _
      go_simp
      clear cx cx1 cy1 cy2
      go_wp2_with fail
      go_roundw
      case rel => exact ⟨j', by have := Q.out.2.2.2.2.2.1; omega, by have := Q.out.2.2.2.2.2.1; omega, by have := Q.out.2.2.2.2.2.1; go_num, Z.out.old ((Keeps.refl _ _).drew)⟩
      case measure => have := Q.out.2.2.2.2.2.1; simp [intOf]; omega
    ·have hd : decide ((j : Int) > (a : Int)) = false := by simp; omega
     have K1 := Lib.hid hs
     clear hs
     go_upto_region 4 with fail
     have rt : True := trivial
     refine wp_region_g (S := fun _ => True) (M := List.range 15) (by kernel_rfl) ?_
     refine tkG (i := 0) (v := ?ve0) ?ye0 rt ?re0
     case ye0 => (intro W hSw; go_simp; try with_reducible rfl)
     try simp only [Act.put, List.setIfInBounds_toArray, List.set_cons_zero, List.set_cons_succ]
     refine tkG (i := 1) (v := ?ve1) ?ye1 rt ?re1
     case ye1 => (intro W hSw; go_simp; try with_reducible rfl)
     try simp only [Act.put, List.setIfInBounds_toArray, List.set_cons_zero, List.set_cons_succ]
     refine tkG (i := 2) (v := ?ve2) ?ye2 rt ?re2
     case ye2 => (intro W hSw; go_simp; try with_reducible rfl)
     try simp only [Act.put, List.setIfInBounds_toArray, List.set_cons_zero, List.set_cons_succ]
     refine tkG (i := 3) (v := ?ve3) ?ye3 rt ?re3
     case ye3 => (intro W hSw; go_simp; try with_reducible rfl)
     try simp only [Act.put, List.setIfInBounds_toArray, List.set_cons_zero, List.set_cons_succ]
     refine tnG (i := 4) rt ?re4
     try simp only [Act.put, List.setIfInBounds_toArray, List.set_cons_zero, List.set_cons_succ]
     refine tnG (i := 5) rt ?re5
     try simp only [Act.put, List.setIfInBounds_toArray, List.set_cons_zero, List.set_cons_succ]
     refine tnG (i := 6) rt ?re6
     try simp only [Act.put, List.setIfInBounds_toArray, List.set_cons_zero, List.set_cons_succ]
     refine tnG (i := 7) rt ?re7
     try simp only [Act.put, List.setIfInBounds_toArray, List.set_cons_zero, List.set_cons_succ]
     refine tnG (i := 8) rt ?re8
     try simp only [Act.put, List.setIfInBounds_toArray, List.set_cons_zero, List.set_cons_succ]
     refine tnG (i := 9) rt ?re9
     try simp only [Act.put, List.setIfInBounds_toArray, List.set_cons_zero, List.set_cons_succ]
     refine tnG (i := 10) rt ?re10
     try simp only [Act.put, List.setIfInBounds_toArray, List.set_cons_zero, List.set_cons_succ]
     refine tnG (i := 11) rt ?re11
     try simp only [Act.put, List.setIfInBounds_toArray, List.set_cons_zero, List.set_cons_succ]
     refine tnG (i := 12) rt ?re12
     try simp only [Act.put, List.setIfInBounds_toArray, List.set_cons_zero, List.set_cons_succ]
     refine tnG (i := 13) rt ?re13
     try simp only [Act.put, List.setIfInBounds_toArray, List.set_cons_zero, List.set_cons_succ]
     refine tkG (i := 14) (v := ?ve14) ?ye14 rt ?re14
     case ye14 => (intro W hSw; go_simp; try with_reducible rfl)
     try simp only [Act.put, List.setIfInBounds_toArray, List.set_cons_zero, List.set_cons_succ]
     refine wpAnyG_done (by kernel_rfl) ?_ _
     go_simp
     go_wp2_with fail
     go_roundw
     case rel => exact ⟨i + 1, by omega, by omega, by go_num, K1.out.old ((Keeps.refl _ _).drew)⟩
     case measure => simp [intOf]; omega
  ·have K1 := Lib.hid hs
   clear hs
   go_wp2_with fail
   refine bodyPost_end (results_none rfl _ _ _) rfl ?_
   exact ⟨rfl, K1.out⟩
end
section
open Go.RowKit
theorem swap_u64 {W w : World} {B g n cap p q x y : Nat} {L M : List Nat} (hp : M.Perm L) (ho : OwnsU W B (.slice (some ⟨g, 0, none⟩) n cap) M) (hk : Keeps (fun k => k = g) w W) (hx : M[p]? = some x) (hy : M[q]? = some y) :
  (W.cell? ⟨g, p, none⟩ = some (.int .u64 (x : Int)) ∧ W.frozen? ⟨g, p, none⟩ = false) ∧ (∃ z : Nat, (W.setCell ⟨g, p, none⟩ (.int .u64 (y : Int))).cell? ⟨g, q, none⟩ = some (.int .u64 (z : Int)) ∧ (W.setCell ⟨g, p, none⟩ (.int .u64 (y : Int))).frozen? ⟨g, q, none⟩ = false) ∧
   SrtP B g n cap L w ((W.setCell ⟨g, p, none⟩ (.int .u64 (y : Int))).setCell ⟨g, q, none⟩ (.int .u64 (x : Int))) := by
 have hpl := (List.getElem?_eq_some_iff.1 hx).1
 have hql := (List.getElem?_eq_some_iff.1 hy).1
 have s1 := OwnsU.set ho hpl y
 have hz : (M.set p y)[q]? = some ((M.set p y)[q]'(by rw [List.length_set]; exact hql)) := List.getElem?_eq_getElem _
 have s2 := OwnsU.set s1 (i := q) (by rw [List.length_set]; exact hql) x
 exact ⟨OwnsU.cell ho hx, ⟨_, OwnsU.cell s1 hz⟩, _, perm_swap hp hx hy, s2, hk.trans ((keepV _ _ _ _).trans (keepV _ _ _ _))⟩
theorem reverse_u64 (a b : Nat) (g n cap B : Nat) (L : List Nat) (w : World) (h : OwnsU w B (.slice (some ⟨g, 0, none⟩) n cap) L) (hb : b ≤ n) (hab : a ≤ b) (hn : n ≤ 1000000) :
  Calls Tryz.prog 115 #[.slice (some ⟨g, 0, none⟩) n cap, .int .i64 a, .int .i64 b] w fun e w' => e = .returned (.tuple #[]) ∧ SrtP B g n cap L w w' := by
 have HL := Lib.hid h.len_of
 have H := Lib.hid (SrtP.refl h)
 clear h
 go_enter Tryz.func115, Tryz.ntmps115
 go_wp2_with fail
 go_loopw [6, 7] (fun v6 v7 wr => ∃ (i : Nat) (j : Int), a ≤ i ∧ i ≤ b + 1 ∧ v6 = .int .i64 i ∧ v7 = .int .i64 j ∧ -2 ≤ j ∧ j < b ∧ SrtP B g n cap L w wr) (fun v6 _ _ => b + 1 - (intOf v6).toNat)
 case atStart => exact ⟨a, (b : Int) - 1, Nat.le_refl _, by omega, rfl, by go_num, by omega, by omega, H.out⟩
 case round =>
  obtain ⟨wx, hwx⟩ : ∃ wx : World, wx = wr := ⟨_, rfl⟩
  subst hwx
  obtain ⟨i, j0, hia, hib, rfl, rfl, hj1, hj2, hs⟩ := hrel
  by_cases hlt : (i : Int) < j0
  ·obtain ⟨j, rfl⟩ : ∃ j : Nat, j0 = (j : Int) := ⟨j0.toNat, by omega⟩
   obtain ⟨M, hp, ho, hk⟩ := hs
   have hML : M.length = n := hp.length_eq.trans HL.out.symm
   obtain ⟨x, hx⟩ : ∃ x, M[i]? = some x := ⟨_, List.getElem?_eq_getElem (by omega)⟩
   obtain ⟨y, hy⟩ : ∃ y, M[j]? = some y := ⟨_, List.getElem?_eq_getElem (by omega)⟩
   obtain ⟨⟨fp1, fp2⟩, ⟨z, fq1, fq2⟩, hsw⟩ := swap_u64 hp ho hk hx hy
   have HP := Lib.hid (fun W (hW : Old wx W) => OwnsU.cell (ho.old hW) hx)
   have HQ := Lib.hid (fun W (hW : Old wx W) => OwnsU.cell (ho.old hW) hy)
   have Z := Lib.hid hsw
   have hin : i < n := by omega
   have hjn : j < n := by omega
   have hij : i < j := by omega
   clear hp ho hk hx hy hML hsw
   go_upto_region 3 with fail
   have rts : True := trivial
   refine wp_region_g (S := fun _ => True) (M := List.range 16) (by kernel_rfl) ?_
   refine tkG (i := 0) (v := ?vs0) ?ys0 rts ?rs0
   case ys0 => (intro W hSw; go_simp; try with_reducible rfl)
   try simp only [Act.put, List.setIfInBounds_toArray, List.set_cons_zero, List.set_cons_succ]
   refine tkG (i := 1) (v := ?vs1) ?ys1 rts ?rs1
   case ys1 => (intro W hSw; go_simp; try with_reducible rfl)
   try simp only [Act.put, List.setIfInBounds_toArray, List.set_cons_zero, List.set_cons_succ]
   refine tkG (i := 2) (v := ?vs2) ?ys2 rts ?rs2
   case ys2 => (intro W hSw; go_simp; try with_reducible rfl)
   try simp only [Act.put, List.setIfInBounds_toArray, List.set_cons_zero, List.set_cons_succ]
   refine tkG (i := 3) (v := ?vs3) ?ys3 rts ?rs3
   case ys3 => (intro W hSw; go_simp; try with_reducible rfl)
   try simp only [Act.put, List.setIfInBounds_toArray, List.set_cons_zero, List.set_cons_succ]
   refine tkG (i := 4) (v := ?vs4) ?ys4 rts ?rs4
   case ys4 => (intro W hSw; go_simp; try with_reducible rfl)
   try simp only [Act.put, List.setIfInBounds_toArray, List.set_cons_zero, List.set_cons_succ]
   refine tkG (i := 5) (v := ?vs5) ?ys5 rts ?rs5
   case ys5 => (intro W hSw; go_simp; try with_reducible rfl)
   try simp only [Act.put, List.setIfInBounds_toArray, List.set_cons_zero, List.set_cons_succ]
   refine tkG (i := 6) (v := ?vs6) ?ys6 rts ?rs6
   case ys6 => (intro W hSw; go_simp; try with_reducible rfl)
   try simp only [Act.put, List.setIfInBounds_toArray, List.set_cons_zero, List.set_cons_succ]
   refine tkG (i := 8) (v := ?vs8) ?ys8 rts ?rs8
   case ys8 => (intro W hSw; go_simp; try with_reducible rfl)
   try simp only [Act.put, List.setIfInBounds_toArray, List.set_cons_zero, List.set_cons_succ]
   refine tkG (i := 9) (v := ?vs9) ?ys9 rts ?rs9
   case ys9 => (intro W hSw; go_simp; try with_reducible rfl)
   try simp only [Act.put, List.setIfInBounds_toArray, List.set_cons_zero, List.set_cons_succ]
   refine tkG (i := 10) (v := ?vs10) ?ys10 rts ?rs10
   case ys10 => (intro W hSw; go_simp; try with_reducible rfl)
   try simp only [Act.put, List.setIfInBounds_toArray, List.set_cons_zero, List.set_cons_succ]
   refine wpAnyG_true (fun V => Old wx V) [0, 1, 2, 3, 4, 5, 6, 7, 8, 9, 10, 11, 12] _ _ _ _ ?_
   have r8s : Old wx wx.drew := (Keeps.refl _ _).drew
   refine tkG (i := 7) (v := ?vs7) ?ys7 r8s ?rs7
   case ys7 => (intro W hSw; have q1 := (HQ.out _ hSw).1; go_simp; try with_reducible rfl)
   try simp only [Act.put, List.setIfInBounds_toArray, List.set_cons_zero, List.set_cons_succ]
   refine tkG (i := 11) (v := ?vs11) ?ys11 r8s ?rs11
   case ys11 => (intro W hSw; have q1 := (HP.out _ hSw).1; go_simp; try with_reducible rfl)
   try simp only [Act.put, List.setIfInBounds_toArray, List.set_cons_zero, List.set_cons_succ]
   refine tkG (i := 12) (v := ?vs12) ?ys12 r8s ?rs12
   case ys12 => (intro W hSw; go_simp; try with_reducible rfl)
   try simp only [Act.put, List.setIfInBounds_toArray, List.set_cons_zero, List.set_cons_succ]
   refine wpAnyG_onlyL (i := 13) (o := _) (by kernel_rfl) rfl (fun K hK => ?_)
   go_simp
   refine hK.out _ _ (fun h => absurd h (by decide)) ?_
   clear hK K
   try simp only [Act.put, List.setIfInBounds_toArray, List.set_cons_zero, List.set_cons_succ]
   refine wpAnyG_onlyL (i := 14) (o := _) (by kernel_rfl) rfl (fun K hK => ?_)
   go_simp
   refine hK.out _ _ (fun h => absurd h (by decide)) ?_
   clear hK K
   try simp only [Act.put, List.setIfInBounds_toArray, List.set_cons_zero, List.set_cons_succ]
   refine wpAnyG_onlyL (i := 15) (o := _) (by kernel_rfl) rfl (fun K hK => ?_)
   go_simp
   refine hK.out _ _ (fun h => absurd h (by decide)) ?_
   clear hK K
   try simp only [Act.put, List.setIfInBounds_toArray, List.set_cons_zero, List.set_cons_succ]
   refine wpAnyG_done (by kernel_rfl) ?_ _
   go_simp
   clear fp1 fp2 fq1 fq2
   go_wp2_with fail
   go_roundw
   case rel => exact ⟨i + 1, (j : Int) - 1, by omega, by omega, by go_num, by go_num, by omega, by omega, Z.out.old ((Keeps.refl _ _).drew)⟩
   case measure => simp [intOf]; omega
  ·have K1 := Lib.hid hs
   clear hs
   go_wp2_with fail
   refine bodyPost_end (results_none rfl _ _ _) rfl ?_
   exact ⟨rfl, K1.out⟩
end
end Go.Proofs.YtehmlaplodjenaaGreat
