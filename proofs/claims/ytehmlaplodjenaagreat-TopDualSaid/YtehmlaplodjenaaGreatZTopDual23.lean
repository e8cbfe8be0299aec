/- DERIVED. Sorting of numbers without sign: sift down, heap sort. Written by gen_hp.py. -/
import Derived.Test.YtehmlaplodjenaaGreatZTopDual22
import Derived.Deep.DeepCutAuto
import Derived.IntWalk
import Derived.BigQuiet
set_option maxRecDepth 100000
set_option maxHeartbeats 8000000
namespace Go.Proofs.YtehmlaplodjenaaGreat
section
open Go.RowKit
theorem sift_u64 (lo hi f : Nat) (g n cap B : Nat) (L : List Nat) (w : World) (h : OwnsU w B (.slice (some ⟨g, 0, none⟩) n cap) L) (hfh : f + hi ≤ n) (hlo : lo ≤ 1000000) (hn : n ≤ 1000000) :
  Calls Tryz.prog 164 #[.slice (some ⟨g, 0, none⟩) n cap, .int .i64 lo, .int .i64 hi, .int .i64 f] w fun e w' => e = .returned (.tuple #[]) ∧ SrtP B g n cap L w w' := by
 have HL := Lib.hid h.len_of
 have H := Lib.hid (SrtP.refl h)
 have LS := Lib.hid (fun x y W => less_u64 x y W)
 clear h
 go_enter Tryz.func164, Tryz.ntmps164
 go_wp2_with fail
 go_loopw [8] (fun v8 wr => ∃ r : Nat, r ≤ 1000000 ∧ v8 = .int .i64 r ∧ SrtP B g n cap L w wr) (fun v8 _ => hi - (intOf v8).toNat)
 case atStart => exact ⟨lo, hlo, rfl, H.out⟩
 case round =>
  obtain ⟨wx, hwx⟩ : ∃ wx : World, wx = wr := ⟨_, rfl⟩
  subst hwx
  obtain ⟨r, hr, rfl, hs⟩ := hrel
  obtain ⟨c, hc⟩ : ∃ c, 2 * r + 1 = c := ⟨_, rfl⟩
  have wc1 : IntKind.i64.wrap (2 * (r : Int)) = 2 * (r : Int) := IntWalk.i64_in _ (by omega)
  have wc2 : IntKind.i64.wrap (2 * (r : Int) + 1) = (c : Int) := by rw [IntWalk.i64_in _ (by omega)]; omega
  have hrc : r < c := by omega
  have hc2 : c ≤ 2000001 := by omega
  clear hc
  by_cases hch : c < hi
  ·obtain ⟨M, hp, ho, hk⟩ := hs
   have hML : M.length = n := hp.length_eq.trans HL.out.symm
   obtain ⟨pi, hpi⟩ : ∃ pi, f + r = pi := ⟨_, rfl⟩
   obtain ⟨x, hx⟩ : ∃ x, M[pi]? = some x := ⟨_, List.getElem?_eq_getElem (by omega)⟩
   have wf1 : IntKind.i64.wrap ((f : Int) + (r : Int)) = (pi : Int) := by rw [IntWalk.i64_in _ (by omega)]; omega
   have hpin : pi < n := by omega
   have HX := Lib.hid (fun W (hW : Old wx W) => OwnsU.cell (ho.old hW) hx)
   obtain ⟨u, hu⟩ : ∃ u, M[f + c]? = some u := ⟨_, List.getElem?_eq_getElem (by omega)⟩
   have HU := Lib.hid (fun W (hW : Old wx W) => OwnsU.cell (ho.old hW) hu)
   obtain ⟨c1, hcc⟩ : ∃ c1, c + 1 = c1 := ⟨_, rfl⟩
   obtain ⟨p0, hp0⟩ : ∃ p0, f + c = p0 := ⟨_, rfl⟩
   obtain ⟨p1, hp1⟩ : ∃ p1, f + c1 = p1 := ⟨_, rfl⟩
   have wc3 : IntKind.i64.wrap ((c : Int) + 1) = (c1 : Int) := by rw [IntWalk.i64_in _ (by omega)]; omega
   have wf0 : IntKind.i64.wrap ((f : Int) + (c : Int)) = (p0 : Int) := by rw [IntWalk.i64_in _ (by omega)]; omega
   have wf3 : IntKind.i64.wrap ((p0 : Int) + 1) = (p1 : Int) := by rw [IntWalk.i64_in _ (by omega)]; omega
   have wf4 : IntKind.i64.wrap ((f : Int) + (c1 : Int)) = (p1 : Int) := by rw [IntWalk.i64_in _ (by omega)]; omega
   rw [hp0] at HU hu
   have HUM := Lib.hid hu
   have hcg : ¬ ((c : Int) ≥ (hi : Int)) := by omega
   have hfc : p0 < n := by omega
   have CC := Lib.hid (And.intro hcc (And.intro hp0 hp1))
   have hch2 : c < hi := by omega
   have Q := Lib.hid (And.intro hp (And.intro ho (And.intro hk hx)))
   have hc1 : c ≤ 1000000 := by omega
   clear hp ho hk hx hu hcc hp0 hp1 hpi
   go_upto_region 3 with fail
   by_cases hg : c1 < hi
   ·obtain ⟨v, hv⟩ : ∃ v, M[p1]? = some v := ⟨_, List.getElem?_eq_getElem (by have := CC.out.2.2; omega)⟩
    have HV := Lib.hid (fun W (hW : Old wx W) => OwnsU.cell (Q.out.2.1.old hW) hv)
    have HVM := Lib.hid hv
    have hp1n : p1 < n := by have := CC.out.2.2; omega
    have hgd : decide ((c1 : Int) < (hi : Int)) = true := by simp; omega
    clear hv
    have rd : Old wx wx.drew := (Keeps.refl _ _).drew
    refine wp_region_g (S := fun V => Old wx V) (M := List.range 20) (by kernel_rfl) ?_
    refine tkG (i := 0) (v := ?vga0) ?yga0 rd ?rga0
    case yga0 => (intro W hSw; go_simp; try with_reducible rfl)
    try simp only [Act.put, List.setIfInBounds_toArray, List.set_cons_zero, List.set_cons_succ]
    refine tkG (i := 1) (v := ?vga1) ?yga1 rd ?rga1
    case yga1 => (intro W hSw; go_simp; try with_reducible rfl)
    try simp only [Act.put, List.setIfInBounds_toArray, List.set_cons_zero, List.set_cons_succ]
    refine tkG (i := 2) (v := ?vga2) ?yga2 rd ?rga2
    case yga2 => (intro W hSw; go_simp; try with_reducible rfl)
    try simp only [Act.put, List.setIfInBounds_toArray, List.set_cons_zero, List.set_cons_succ]
    refine tkG (i := 3) (v := ?vga3) ?yga3 rd ?rga3
    case yga3 => (intro W hSw; go_simp; try with_reducible rfl)
    try simp only [Act.put, List.setIfInBounds_toArray, List.set_cons_zero, List.set_cons_succ]
    refine tkG (i := 4) (v := ?vga4) ?yga4 rd ?rga4
    case yga4 => (intro W hSw; go_simp; try with_reducible rfl)
    try simp only [Act.put, List.setIfInBounds_toArray, List.set_cons_zero, List.set_cons_succ]
    refine tkG (i := 5) (v := ?vga5) ?yga5 rd ?rga5
    case yga5 => (intro W hSw; go_simp; try with_reducible rfl)
    try simp only [Act.put, List.setIfInBounds_toArray, List.set_cons_zero, List.set_cons_succ]
    refine tkG (i := 6) (v := ?vga6) ?yga6 rd ?rga6
    case yga6 => (intro W hSw; go_simp; try with_reducible rfl)
    try simp only [Act.put, List.setIfInBounds_toArray, List.set_cons_zero, List.set_cons_succ]
    refine tkG (i := 7) (v := ?vga7) ?yga7 rd ?rga7
    case yga7 => (intro W hSw; go_simp; try with_reducible rfl)
    try simp only [Act.put, List.setIfInBounds_toArray, List.set_cons_zero, List.set_cons_succ]
    refine tkG (i := 8) (v := ?vga8) ?yga8 rd ?rga8
    case yga8 => (intro W hSw; go_simp; try with_reducible rfl)
    try simp only [Act.put, List.setIfInBounds_toArray, List.set_cons_zero, List.set_cons_succ]
    refine tkG (i := 9) (v := ?vga9) ?yga9 rd ?rga9
    case yga9 => (intro W hSw; go_simp; try with_reducible rfl)
    try simp only [Act.put, List.setIfInBounds_toArray, List.set_cons_zero, List.set_cons_succ]
    refine tkG (i := 10) (v := ?vga10) ?yga10 rd ?rga10
    case yga10 => (intro W hSw; have q1 := (HU.out _ hSw).1; go_simp; try with_reducible rfl)
    try simp only [Act.put, List.setIfInBounds_toArray, List.set_cons_zero, List.set_cons_succ]
    refine tkG (i := 11) (v := ?vga11) ?yga11 rd ?rga11
    case yga11 => (intro W hSw; go_simp; try with_reducible rfl)
    try simp only [Act.put, List.setIfInBounds_toArray, List.set_cons_zero, List.set_cons_succ]
    refine tkG (i := 12) (v := ?vga12) ?yga12 rd ?rga12
    case yga12 => (intro W hSw; go_simp; try with_reducible rfl)
    try simp only [Act.put, List.setIfInBounds_toArray, List.set_cons_zero, List.set_cons_succ]
    refine tkG (i := 13) (v := ?vga13) ?yga13 rd ?rga13
    case yga13 => (intro W hSw; go_simp; try with_reducible rfl)
    try simp only [Act.put, List.setIfInBounds_toArray, List.set_cons_zero, List.set_cons_succ]
    refine tkG (i := 14) (v := ?vga14) ?yga14 rd ?rga14
    case yga14 => (intro W hSw; go_simp; try with_reducible rfl)
    try simp only [Act.put, List.setIfInBounds_toArray, List.set_cons_zero, List.set_cons_succ]
    refine tkG (i := 15) (v := ?vga15) ?yga15 rd ?rga15
    case yga15 => (intro W hSw; go_simp; try with_reducible rfl)
    try simp only [Act.put, List.setIfInBounds_toArray, List.set_cons_zero, List.set_cons_succ]
    refine tkG (i := 16) (v := ?vga16) ?yga16 rd ?rga16
    case yga16 => (intro W hSw; go_simp; try with_reducible rfl)
    try simp only [Act.put, List.setIfInBounds_toArray, List.set_cons_zero, List.set_cons_succ]
    refine tkG (i := 17) (v := ?vga17) ?yga17 rd ?rga17
    case yga17 => (intro W hSw; have q1 := (HV.out _ hSw).1; go_simp; try with_reducible rfl)
    try simp only [Act.put, List.setIfInBounds_toArray, List.set_cons_zero, List.set_cons_succ]
    refine wpAnyG_onlyL (i := 18) (o := _) (by kernel_rfl) rfl (fun K hK => ?_)
    go_simp
    refine (LS.out _ _ _).mono ?_
    rintro e W8 ⟨rfl, k8⟩
    have o8 : Old wx W8 := rd.trans k8
    clear k8 rd
    go_wp2_with fail
    refine hK.out _ _ (fun _ => o8) ?_
    clear hK K
    try simp only [Act.put, List.setIfInBounds_toArray, List.set_cons_zero, List.set_cons_succ]
    refine tkG (i := 19) (v := ?vga19) ?yga19 o8 ?rga19
    case yga19 => (intro W hSw; go_simp; try with_reducible rfl)
    try simp only [Act.put, List.setIfInBounds_toArray, List.set_cons_zero, List.set_cons_succ]
    refine wpAnyG_done (by kernel_rfl) ?_ _
    go_simp
    have Y8 := Lib.hid o8
    clear o8
    cases hz8 : decide ((u : Int) < (v : Int))
    ·have hz82 : ¬ u < v := by simp at hz8; omega
     have HQ := HU
     obtain ⟨tb, htb⟩ : ∃ tb, decide ((x : Int) < (u : Int)) = tb := ⟨_, rfl⟩
     have LT0 := fun W => less_u64 (x : Int) (u : Int) W
     rw [htb] at LT0
     have LT := Lib.hid LT0
     clear LT0 htb
     have rdra : Old wx W8.drew := (Y8.out).trans (Keeps.refl _ _).drew
     go_upto_region 5 with fail
     refine wp_region_g (S := fun V => Old wx V) (M := List.range 14) (by kernel_rfl) ?_
     refine tkG (i := 0) (v := ?vrar0) ?yrar0 rdra ?rrar0
     case yrar0 => (intro W hSw; go_simp; try with_reducible rfl)
     try simp only [Act.put, List.setIfInBounds_toArray, List.set_cons_zero, List.set_cons_succ]
     refine tkG (i := 1) (v := ?vrar1) ?yrar1 rdra ?rrar1
     case yrar1 => (intro W hSw; go_simp; try with_reducible rfl)
     try simp only [Act.put, List.setIfInBounds_toArray, List.set_cons_zero, List.set_cons_succ]
     refine tkG (i := 2) (v := ?vrar2) ?yrar2 rdra ?rrar2
     case yrar2 => (intro W hSw; go_simp; try with_reducible rfl)
     try simp only [Act.put, List.setIfInBounds_toArray, List.set_cons_zero, List.set_cons_succ]
     refine tkG (i := 3) (v := ?vrar3) ?yrar3 rdra ?rrar3
     case yrar3 => (intro W hSw; go_simp; try with_reducible rfl)
     try simp only [Act.put, List.setIfInBounds_toArray, List.set_cons_zero, List.set_cons_succ]
     refine tkG (i := 4) (v := ?vrar4) ?yrar4 rdra ?rrar4
     case yrar4 => (intro W hSw; go_simp; try with_reducible rfl)
     try simp only [Act.put, List.setIfInBounds_toArray, List.set_cons_zero, List.set_cons_succ]
     refine tkG (i := 5) (v := ?vrar5) ?yrar5 rdra ?rrar5
     case yrar5 => (intro W hSw; have q1 := (HX.out _ hSw).1; go_simp; try with_reducible rfl)
     try simp only [Act.put, List.setIfInBounds_toArray, List.set_cons_zero, List.set_cons_succ]
     refine tkG (i := 6) (v := ?vrar6) ?yrar6 rdra ?rrar6
     case yrar6 => (intro W hSw; go_simp; try with_reducible rfl)
     try simp only [Act.put, List.setIfInBounds_toArray, List.set_cons_zero, List.set_cons_succ]
     refine tkG (i := 7) (v := ?vrar7) ?yrar7 rdra ?rrar7
     case yrar7 => (intro W hSw; go_simp; try with_reducible rfl)
     try simp only [Act.put, List.setIfInBounds_toArray, List.set_cons_zero, List.set_cons_succ]
     refine tkG (i := 8) (v := ?vrar8) ?yrar8 rdra ?rrar8
     case yrar8 => (intro W hSw; go_simp; try with_reducible rfl)
     try simp only [Act.put, List.setIfInBounds_toArray, List.set_cons_zero, List.set_cons_succ]
     refine tkG (i := 9) (v := ?vrar9) ?yrar9 rdra ?rrar9
     case yrar9 => (intro W hSw; go_simp; try with_reducible rfl)
     try simp only [Act.put, List.setIfInBounds_toArray, List.set_cons_zero, List.set_cons_succ]
     refine tkG (i := 10) (v := ?vrar10) ?yrar10 rdra ?rrar10
     case yrar10 => (intro W hSw; go_simp; try with_reducible rfl)
     try simp only [Act.put, List.setIfInBounds_toArray, List.set_cons_zero, List.set_cons_succ]
     refine tkG (i := 11) (v := ?vrar11) ?yrar11 rdra ?rrar11
     case yrar11 => (intro W hSw; have q1 := (HQ.out _ hSw).1; go_simp; try with_reducible rfl)
     try simp only [Act.put, List.setIfInBounds_toArray, List.set_cons_zero, List.set_cons_succ]
     refine wpAnyG_onlyL (i := 12) (o := _) (by kernel_rfl) rfl (fun K hK => ?_)
     go_simp
     refine (LT.out _).mono ?_
     rintro e W9 ⟨rfl, k9⟩
     have o9 : Old wx W9 := rdra.trans k9
     clear k9 rdra
     go_wp2_with fail
     refine hK.out _ _ (fun _ => o9) ?_
     clear hK K
     try simp only [Act.put, List.setIfInBounds_toArray, List.set_cons_zero, List.set_cons_succ]
     refine tkG (i := 13) (v := ?vrar13) ?yrar13 o9 ?rrar13
     case yrar13 => (intro W hSw; go_simp; try with_reducible rfl)
     try simp only [Act.put, List.setIfInBounds_toArray, List.set_cons_zero, List.set_cons_succ]
     refine wpAnyG_done (by kernel_rfl) ?_ _
     go_simp
     have Y9 := Lib.hid o9
     clear o9
     cases tb
     ·go_wp2_with fail
      have fin : SrtP B g n cap L w W9 := ⟨M, Q.out.1, Q.out.2.1.old Y9.out, Q.out.2.2.1.trans (Y9.out.weaken (fun _ _ f => f.elim))⟩
      first | exact bodyPost_ret (v := .tuple #[]) (by simp [results, Tryz.results164, go_sem]) rfl ⟨rfl, fin⟩ | (refine bodyPost_end (results_none rfl _ _ _) rfl ?_; exact ⟨rfl, fin⟩)
     ·obtain ⟨⟨fp1, fp2⟩, ⟨z, fq1, fq2⟩, hsw⟩ := swap_u64 (w := w) Q.out.1 (Q.out.2.1.old Y9.out) (Q.out.2.2.1.trans (Y9.out.weaken (fun _ _ f => f.elim))) Q.out.2.2.2 HUM.out
      have HP := Lib.hid (fun W (hW : Old W9 W) => HX.out W (Y9.out.trans hW))
      have HQ9 := HQ
      clear HQ
      have HQ := Lib.hid (fun W (hW : Old W9 W) => HQ9.out W (Y9.out.trans hW))
      have Z := Lib.hid hsw
      clear hsw
      go_upto_region 6 with fail
      have rtras : True := trivial
      refine wp_region_g (S := fun _ => True) (M := List.range 24) (by kernel_rfl) ?_
      refine tkG (i := 0) (v := ?vras0) ?yras0 rtras ?rras0
      case yras0 => (intro W hSw; go_simp; try with_reducible rfl)
      try simp only [Act.put, List.setIfInBounds_toArray, List.set_cons_zero, List.set_cons_succ]
      refine tkG (i := 1) (v := ?vras1) ?yras1 rtras ?rras1
      case yras1 => (intro W hSw; go_simp; try with_reducible rfl)
      try simp only [Act.put, List.setIfInBounds_toArray, List.set_cons_zero, List.set_cons_succ]
      refine tkG (i := 2) (v := ?vras2) ?yras2 rtras ?rras2
      case yras2 => (intro W hSw; go_simp; try with_reducible rfl)
      try simp only [Act.put, List.setIfInBounds_toArray, List.set_cons_zero, List.set_cons_succ]
      refine tkG (i := 3) (v := ?vras3) ?yras3 rtras ?rras3
      case yras3 => (intro W hSw; go_simp; try with_reducible rfl)
      try simp only [Act.put, List.setIfInBounds_toArray, List.set_cons_zero, List.set_cons_succ]
      refine tkG (i := 4) (v := ?vras4) ?yras4 rtras ?rras4
      case yras4 => (intro W hSw; go_simp; try with_reducible rfl)
      try simp only [Act.put, List.setIfInBounds_toArray, List.set_cons_zero, List.set_cons_succ]
      refine tkG (i := 5) (v := ?vras5) ?yras5 rtras ?rras5
      case yras5 => (intro W hSw; go_simp; try with_reducible rfl)
      try simp only [Act.put, List.setIfInBounds_toArray, List.set_cons_zero, List.set_cons_succ]
      refine tkG (i := 6) (v := ?vras6) ?yras6 rtras ?rras6
      case yras6 => (intro W hSw; go_simp; try with_reducible rfl)
      try simp only [Act.put, List.setIfInBounds_toArray, List.set_cons_zero, List.set_cons_succ]
      refine tkG (i := 7) (v := ?vras7) ?yras7 rtras ?rras7
      case yras7 => (intro W hSw; go_simp; try with_reducible rfl)
      try simp only [Act.put, List.setIfInBounds_toArray, List.set_cons_zero, List.set_cons_succ]
      refine tkG (i := 8) (v := ?vras8) ?yras8 rtras ?rras8
      case yras8 => (intro W hSw; go_simp; try with_reducible rfl)
      try simp only [Act.put, List.setIfInBounds_toArray, List.set_cons_zero, List.set_cons_succ]
      refine tkG (i := 9) (v := ?vras9) ?yras9 rtras ?rras9
      case yras9 => (intro W hSw; go_simp; try with_reducible rfl)
      try simp only [Act.put, List.setIfInBounds_toArray, List.set_cons_zero, List.set_cons_succ]
      refine tkG (i := 10) (v := ?vras10) ?yras10 rtras ?rras10
      case yras10 => (intro W hSw; go_simp; try with_reducible rfl)
      try simp only [Act.put, List.setIfInBounds_toArray, List.set_cons_zero, List.set_cons_succ]
      refine tkG (i := 11) (v := ?vras11) ?yras11 rtras ?rras11
      case yras11 => (intro W hSw; go_simp; try with_reducible rfl)
      try simp only [Act.put, List.setIfInBounds_toArray, List.set_cons_zero, List.set_cons_succ]
      refine tkG (i := 12) (v := ?vras12) ?yras12 rtras ?rras12
      case yras12 => (intro W hSw; go_simp; try with_reducible rfl)
      try simp only [Act.put, List.setIfInBounds_toArray, List.set_cons_zero, List.set_cons_succ]
      refine tkG (i := 14) (v := ?vras14) ?yras14 rtras ?rras14
      case yras14 => (intro W hSw; go_simp; try with_reducible rfl)
      try simp only [Act.put, List.setIfInBounds_toArray, List.set_cons_zero, List.set_cons_succ]
      refine tkG (i := 15) (v := ?vras15) ?yras15 rtras ?rras15
      case yras15 => (intro W hSw; go_simp; try with_reducible rfl)
      try simp only [Act.put, List.setIfInBounds_toArray, List.set_cons_zero, List.set_cons_succ]
      refine tkG (i := 16) (v := ?vras16) ?yras16 rtras ?rras16
      case yras16 => (intro W hSw; go_simp; try with_reducible rfl)
      try simp only [Act.put, List.setIfInBounds_toArray, List.set_cons_zero, List.set_cons_succ]
      refine tkG (i := 17) (v := ?vras17) ?yras17 rtras ?rras17
      case yras17 => (intro W hSw; go_simp; try with_reducible rfl)
      try simp only [Act.put, List.setIfInBounds_toArray, List.set_cons_zero, List.set_cons_succ]
      refine tkG (i := 18) (v := ?vras18) ?yras18 rtras ?rras18
      case yras18 => (intro W hSw; go_simp; try with_reducible rfl)
      try simp only [Act.put, List.setIfInBounds_toArray, List.set_cons_zero, List.set_cons_succ]
      refine wpAnyG_true (fun V => Old W9 V) [0, 1, 2, 3, 4, 5, 6, 7, 8, 9, 10, 11, 12, 13, 14, 15, 16, 17, 18, 19, 20] _ _ _ _ ?_
      have r8ras : Old W9 W9.drew := (Keeps.refl _ _).drew
      refine tkG (i := 13) (v := ?vras13) ?yras13 r8ras ?rras13
      case yras13 => (intro W hSw; have q1 := (HQ.out _ hSw).1; go_simp; try with_reducible rfl)
      try simp only [Act.put, List.setIfInBounds_toArray, List.set_cons_zero, List.set_cons_succ]
      refine tkG (i := 19) (v := ?vras19) ?yras19 r8ras ?rras19
      case yras19 => (intro W hSw; have q1 := (HP.out _ hSw).1; go_simp; try with_reducible rfl)
      try simp only [Act.put, List.setIfInBounds_toArray, List.set_cons_zero, List.set_cons_succ]
      refine tkG (i := 20) (v := ?vras20) ?yras20 r8ras ?rras20
      case yras20 => (intro W hSw; go_simp; try with_reducible rfl)
      try simp only [Act.put, List.setIfInBounds_toArray, List.set_cons_zero, List.set_cons_succ]
      refine wpAnyG_onlyL (i := 21) (o := _) (by kernel_rfl) rfl (fun K hK => ?_)
      go_simp
      refine hK.out _ _ (fun h => absurd h (by decide)) ?_
      clear hK K
      try simp only [Act.put, List.setIfInBounds_toArray, List.set_cons_zero, List.set_cons_succ]
      refine wpAnyG_onlyL (i := 22) (o := _) (by kernel_rfl) rfl (fun K hK => ?_)
      go_simp
      refine hK.out _ _ (fun h => absurd h (by decide)) ?_
      clear hK K
      try simp only [Act.put, List.setIfInBounds_toArray, List.set_cons_zero, List.set_cons_succ]
      refine wpAnyG_onlyL (i := 23) (o := _) (by kernel_rfl) rfl (fun K hK => ?_)
      go_simp
      refine hK.out _ _ (fun h => absurd h (by decide)) ?_
      clear hK K
      try simp only [Act.put, List.setIfInBounds_toArray, List.set_cons_zero, List.set_cons_succ]
      refine wpAnyG_done (by kernel_rfl) ?_ _
      go_simp
      clear fp1 fp2 fq1 fq2
      go_wp2_with fail
      go_roundw
      case rel => exact ⟨c, by have := CC.out.1; omega, by go_num, Z.out.old ((Keeps.refl _ _).drew)⟩
      case measure => have := CC.out.1; simp [intOf]; omega
    ·have hz82 : u < v := by simp at hz8; omega
     have HQ := HV
     obtain ⟨tb, htb⟩ : ∃ tb, decide ((x : Int) < (v : Int)) = tb := ⟨_, rfl⟩
     have LT0 := fun W => less_u64 (x : Int) (v : Int) W
     rw [htb] at LT0
     have LT := Lib.hid LT0
     clear LT0 htb
     have rdrb : Old wx W8.drew := (Y8.out).trans (Keeps.refl _ _).drew
     go_upto_region 5 with fail
     refine wp_region_g (S := fun V => Old wx V) (M := List.range 14) (by kernel_rfl) ?_
     refine tkG (i := 0) (v := ?vrbr0) ?yrbr0 rdrb ?rrbr0
     case yrbr0 => (intro W hSw; go_simp; try with_reducible rfl)
     try simp only [Act.put, List.setIfInBounds_toArray, List.set_cons_zero, List.set_cons_succ]
     refine tkG (i := 1) (v := ?vrbr1) ?yrbr1 rdrb ?rrbr1
     case yrbr1 => (intro W hSw; go_simp; try with_reducible rfl)
     try simp only [Act.put, List.setIfInBounds_toArray, List.set_cons_zero, List.set_cons_succ]
     refine tkG (i := 2) (v := ?vrbr2) ?yrbr2 rdrb ?rrbr2
     case yrbr2 => (intro W hSw; go_simp; try with_reducible rfl)
     try simp only [Act.put, List.setIfInBounds_toArray, List.set_cons_zero, List.set_cons_succ]
     refine tkG (i := 3) (v := ?vrbr3) ?yrbr3 rdrb ?rrbr3
     case yrbr3 => (intro W hSw; go_simp; try with_reducible rfl)
     try simp only [Act.put, List.setIfInBounds_toArray, List.set_cons_zero, List.set_cons_succ]
     refine tkG (i := 4) (v := ?vrbr4) ?yrbr4 rdrb ?rrbr4
     case yrbr4 => (intro W hSw; go_simp; try with_reducible rfl)
     try simp only [Act.put, List.setIfInBounds_toArray, List.set_cons_zero, List.set_cons_succ]
     refine tkG (i := 5) (v := ?vrbr5) ?yrbr5 rdrb ?rrbr5
     case yrbr5 => (intro W hSw; have q1 := (HX.out _ hSw).1; go_simp; try with_reducible rfl)
     try simp only [Act.put, List.setIfInBounds_toArray, List.set_cons_zero, List.set_cons_succ]
     refine tkG (i := 6) (v := ?vrbr6) ?yrbr6 rdrb ?rrbr6
     case yrbr6 => (intro W hSw; go_simp; try with_reducible rfl)
     try simp only [Act.put, List.setIfInBounds_toArray, List.set_cons_zero, List.set_cons_succ]
     refine tkG (i := 7) (v := ?vrbr7) ?yrbr7 rdrb ?rrbr7
     case yrbr7 => (intro W hSw; go_simp; try with_reducible rfl)
     try simp only [Act.put, List.setIfInBounds_toArray, List.set_cons_zero, List.set_cons_succ]
     refine tkG (i := 8) (v := ?vrbr8) ?yrbr8 rdrb ?rrbr8
     case yrbr8 => (intro W hSw; go_simp; try with_reducible rfl)
     try simp only [Act.put, List.setIfInBounds_toArray, List.set_cons_zero, List.set_cons_succ]
     refine tkG (i := 9) (v := ?vrbr9) ?yrbr9 rdrb ?rrbr9
     case yrbr9 => (intro W hSw; go_simp; try with_reducible rfl)
     try simp only [Act.put, List.setIfInBounds_toArray, List.set_cons_zero, List.set_cons_succ]
     refine tkG (i := 10) (v := ?vrbr10) ?yrbr10 rdrb ?rrbr10
     case yrbr10 => (intro W hSw; go_simp; try with_reducible rfl)
     try simp only [Act.put, List.setIfInBounds_toArray, List.set_cons_zero, List.set_cons_succ]
     refine tkG (i := 11) (v := ?vrbr11) ?yrbr11 rdrb ?rrbr11
     case yrbr11 => (intro W hSw; have q1 := (HQ.out _ hSw).1; go_simp; try with_reducible rfl)
     try simp only [Act.put, List.setIfInBounds_toArray, List.set_cons_zero, List.set_cons_succ]
     refine wpAnyG_onlyL (i := 12) (o := _) (by kernel_rfl) rfl (fun K hK => ?_)
     go_simp
     refine (LT.out _).mono ?_
     rintro e W9 ⟨rfl, k9⟩
     have o9 : Old wx W9 := rdrb.trans k9
     clear k9 rdrb
     go_wp2_with fail
     refine hK.out _ _ (fun _ => o9) ?_
     clear hK K
     try simp only [Act.put, List.setIfInBounds_toArray, List.set_cons_zero, List.set_cons_succ]
     refine tkG (i := 13) (v := ?vrbr13) ?yrbr13 o9 ?rrbr13
     case yrbr13 => (intro W hSw; go_simp; try with_reducible rfl)
     try simp only [Act.put, List.setIfInBounds_toArray, List.set_cons_zero, List.set_cons_succ]
     refine wpAnyG_done (by kernel_rfl) ?_ _
     go_simp
     have Y9 := Lib.hid o9
     clear o9
     cases tb
     ·go_wp2_with fail
      have fin : SrtP B g n cap L w W9 := ⟨M, Q.out.1, Q.out.2.1.old Y9.out, Q.out.2.2.1.trans (Y9.out.weaken (fun _ _ f => f.elim))⟩
      first | exact bodyPost_ret (v := .tuple #[]) (by simp [results, Tryz.results164, go_sem]) rfl ⟨rfl, fin⟩ | (refine bodyPost_end (results_none rfl _ _ _) rfl ?_; exact ⟨rfl, fin⟩)
     ·obtain ⟨⟨fp1, fp2⟩, ⟨z, fq1, fq2⟩, hsw⟩ := swap_u64 (w := w) Q.out.1 (Q.out.2.1.old Y9.out) (Q.out.2.2.1.trans (Y9.out.weaken (fun _ _ f => f.elim))) Q.out.2.2.2 HVM.out
      have HP := Lib.hid (fun W (hW : Old W9 W) => HX.out W (Y9.out.trans hW))
      have HQ9 := HQ
      clear HQ
      have HQ := Lib.hid (fun W (hW : Old W9 W) => HQ9.out W (Y9.out.trans hW))
      have Z := Lib.hid hsw
      clear hsw
      go_upto_region 6 with fail
      have rtrbs : True := trivial
      refine wp_region_g (S := fun _ => True) (M := List.range 24) (by kernel_rfl) ?_
      refine tkG (i := 0) (v := ?vrbs0) ?yrbs0 rtrbs ?rrbs0
      case yrbs0 => (intro W hSw; go_simp; try with_reducible rfl)
      try simp only [Act.put, List.setIfInBounds_toArray, List.set_cons_zero, List.set_cons_succ]
      refine tkG (i := 1) (v := ?vrbs1) ?yrbs1 rtrbs ?rrbs1
      case yrbs1 => (intro W hSw; go_simp; try with_reducible rfl)
      try simp only [Act.put, List.setIfInBounds_toArray, List.set_cons_zero, List.set_cons_succ]
      refine tkG (i := 2) (v := ?vrbs2) ?yrbs2 rtrbs ?rrbs2
      case yrbs2 => (intro W hSw; go_simp; try with_reducible rfl)
      try simp only [Act.put, List.setIfInBounds_toArray, List.set_cons_zero, List.set_cons_succ]
      refine tkG (i := 3) (v := ?vrbs3) ?yrbs3 rtrbs ?rrbs3
      case yrbs3 => (intro W hSw; go_simp; try with_reducible rfl)
      try simp only [Act.put, List.setIfInBounds_toArray, List.set_cons_zero, List.set_cons_succ]
      refine tkG (i := 4) (v := ?vrbs4) ?yrbs4 rtrbs ?rrbs4
      case yrbs4 => (intro W hSw; go_simp; try with_reducible rfl)
      try simp only [Act.put, List.setIfInBounds_toArray, List.set_cons_zero, List.set_cons_succ]
      refine tkG (i := 5) (v := ?vrbs5) ?yrbs5 rtrbs ?rrbs5
      case yrbs5 => (intro W hSw; go_simp; try with_reducible rfl)
      try simp only [Act.put, List.setIfInBounds_toArray, List.set_cons_zero, List.set_cons_succ]
      refine tkG (i := 6) (v := ?vrbs6) ?yrbs6 rtrbs ?rrbs6
      case yrbs6 => (intro W hSw; go_simp; try with_reducible rfl)
      try simp only [Act.put, List.setIfInBounds_toArray, List.set_cons_zero, List.set_cons_succ]
      refine tkG (i := 7) (v := ?vrbs7) ?yrbs7 rtrbs ?rrbs7
      case yrbs7 => (intro W hSw; go_simp; try with_reducible rfl)
      try simp only [Act.put, List.setIfInBounds_toArray, List.set_cons_zero, List.set_cons_succ]
      refine tkG (i := 8) (v := ?vrbs8) ?yrbs8 rtrbs ?rrbs8
      case yrbs8 => (intro W hSw; go_simp; try with_reducible rfl)
      try simp only [Act.put, List.setIfInBounds_toArray, List.set_cons_zero, List.set_cons_succ]
      refine tkG (i := 9) (v := ?vrbs9) ?yrbs9 rtrbs ?rrbs9
      case yrbs9 => (intro W hSw; go_simp; try with_reducible rfl)
      try simp only [Act.put, List.setIfInBounds_toArray, List.set_cons_zero, List.set_cons_succ]
      refine tkG (i := 10) (v := ?vrbs10) ?yrbs10 rtrbs ?rrbs10
      case yrbs10 => (intro W hSw; go_simp; try with_reducible rfl)
      try simp only [Act.put, List.setIfInBounds_toArray, List.set_cons_zero, List.set_cons_succ]
      refine tkG (i := 11) (v := ?vrbs11) ?yrbs11 rtrbs ?rrbs11
      case yrbs11 => (intro W hSw; go_simp; try with_reducible rfl)
      try simp only [Act.put, List.setIfInBounds_toArray, List.set_cons_zero, List.set_cons_succ]
      refine tkG (i := 12) (v := ?vrbs12) ?yrbs12 rtrbs ?rrbs12
      case yrbs12 => (intro W hSw; go_simp; try with_reducible rfl)
      try simp only [Act.put, List.setIfInBounds_toArray, List.set_cons_zero, List.set_cons_succ]
      refine tkG (i := 14) (v := ?vrbs14) ?yrbs14 rtrbs ?rrbs14
      case yrbs14 => (intro W hSw; go_simp; try with_reducible rfl)
      try simp only [Act.put, List.setIfInBounds_toArray, List.set_cons_zero, List.set_cons_succ]
      refine tkG (i := 15) (v := ?vrbs15) ?yrbs15 rtrbs ?rrbs15
      case yrbs15 => (intro W hSw; go_simp; try with_reducible rfl)
      try simp only [Act.put, List.setIfInBounds_toArray, List.set_cons_zero, List.set_cons_succ]
      refine tkG (i := 16) (v := ?vrbs16) ?yrbs16 rtrbs ?rrbs16
      case yrbs16 => (intro W hSw; go_simp; try with_reducible rfl)
      try simp only [Act.put, List.setIfInBounds_toArray, List.set_cons_zero, List.set_cons_succ]
      refine tkG (i := 17) (v := ?vrbs17) ?yrbs17 rtrbs ?rrbs17
      case yrbs17 => (intro W hSw; go_simp; try with_reducible rfl)
      try simp only [Act.put, List.setIfInBounds_toArray, List.set_cons_zero, List.set_cons_succ]
      refine tkG (i := 18) (v := ?vrbs18) ?yrbs18 rtrbs ?rrbs18
      case yrbs18 => (intro W hSw; go_simp; try with_reducible rfl)
      try simp only [Act.put, List.setIfInBounds_toArray, List.set_cons_zero, List.set_cons_succ]
      refine wpAnyG_true (fun V => Old W9 V) [0, 1, 2, 3, 4, 5, 6, 7, 8, 9, 10, 11, 12, 13, 14, 15, 16, 17, 18, 19, 20] _ _ _ _ ?_
      have r8rbs : Old W9 W9.drew := (Keeps.refl _ _).drew
      refine tkG (i := 13) (v := ?vrbs13) ?yrbs13 r8rbs ?rrbs13
      case yrbs13 => (intro W hSw; have q1 := (HQ.out _ hSw).1; go_simp; try with_reducible rfl)
      try simp only [Act.put, List.setIfInBounds_toArray, List.set_cons_zero, List.set_cons_succ]
      refine tkG (i := 19) (v := ?vrbs19) ?yrbs19 r8rbs ?rrbs19
      case yrbs19 => (intro W hSw; have q1 := (HP.out _ hSw).1; go_simp; try with_reducible rfl)
      try simp only [Act.put, List.setIfInBounds_toArray, List.set_cons_zero, List.set_cons_succ]
      refine tkG (i := 20) (v := ?vrbs20) ?yrbs20 r8rbs ?rrbs20
      case yrbs20 => (intro W hSw; go_simp; try with_reducible rfl)
      try simp only [Act.put, List.setIfInBounds_toArray, List.set_cons_zero, List.set_cons_succ]
      refine wpAnyG_onlyL (i := 21) (o := _) (by kernel_rfl) rfl (fun K hK => ?_)
      go_simp
      refine hK.out _ _ (fun h => absurd h (by decide)) ?_
      clear hK K
      try simp only [Act.put, List.setIfInBounds_toArray, List.set_cons_zero, List.set_cons_succ]
      refine wpAnyG_onlyL (i := 22) (o := _) (by kernel_rfl) rfl (fun K hK => ?_)
      go_simp
      refine hK.out _ _ (fun h => absurd h (by decide)) ?_
      clear hK K
      try simp only [Act.put, List.setIfInBounds_toArray, List.set_cons_zero, List.set_cons_succ]
      refine wpAnyG_onlyL (i := 23) (o := _) (by kernel_rfl) rfl (fun K hK => ?_)
      go_simp
      refine hK.out _ _ (fun h => absurd h (by decide)) ?_
      clear hK K
      try simp only [Act.put, List.setIfInBounds_toArray, List.set_cons_zero, List.set_cons_succ]
      refine wpAnyG_done (by kernel_rfl) ?_ _
      go_simp
      clear fp1 fp2 fq1 fq2
      go_wp2_with fail
      go_roundw
      case rel => exact ⟨c1, by have := CC.out.1; omega, by go_num, Z.out.old ((Keeps.refl _ _).drew)⟩
      case measure => have := CC.out.1; simp [intOf]; omega
   ·have hgd : decide ((c1 : Int) < (hi : Int)) = false := by simp; omega
    have rd0 : Old wx wx := Keeps.refl _ _
    have rt : True := trivial
    refine wp_region_g (S := fun _ => True) (M := List.range 20) (by kernel_rfl) ?_
    refine tkG (i := 0) (v := ?vgb0) ?ygb0 rt ?rgb0
    case ygb0 => (intro W hSw; go_simp; try with_reducible rfl)
    try simp only [Act.put, List.setIfInBounds_toArray, List.set_cons_zero, List.set_cons_succ]
    refine tkG (i := 1) (v := ?vgb1) ?ygb1 rt ?rgb1
    case ygb1 => (intro W hSw; go_simp; try with_reducible rfl)
    try simp only [Act.put, List.setIfInBounds_toArray, List.set_cons_zero, List.set_cons_succ]
    refine tkG (i := 2) (v := ?vgb2) ?ygb2 rt ?rgb2
    case ygb2 => (intro W hSw; go_simp; try with_reducible rfl)
    try simp only [Act.put, List.setIfInBounds_toArray, List.set_cons_zero, List.set_cons_succ]
    refine tkG (i := 3) (v := ?vgb3) ?ygb3 rt ?rgb3
    case ygb3 => (intro W hSw; go_simp; try with_reducible rfl)
    try simp only [Act.put, List.setIfInBounds_toArray, List.set_cons_zero, List.set_cons_succ]
    refine tkG (i := 4) (v := ?vgb4) ?ygb4 rt ?rgb4
    case ygb4 => (intro W hSw; go_simp; try with_reducible rfl)
    try simp only [Act.put, List.setIfInBounds_toArray, List.set_cons_zero, List.set_cons_succ]
    refine tnG (i := 5) rt ?rgb5
    try simp only [Act.put, List.setIfInBounds_toArray, List.set_cons_zero, List.set_cons_succ]
    refine tnG (i := 6) rt ?rgb6
    try simp only [Act.put, List.setIfInBounds_toArray, List.set_cons_zero, List.set_cons_succ]
    refine tnG (i := 7) rt ?rgb7
    try simp only [Act.put, List.setIfInBounds_toArray, List.set_cons_zero, List.set_cons_succ]
    refine tnG (i := 8) rt ?rgb8
    try simp only [Act.put, List.setIfInBounds_toArray, List.set_cons_zero, List.set_cons_succ]
    refine tnG (i := 9) rt ?rgb9
    try simp only [Act.put, List.setIfInBounds_toArray, List.set_cons_zero, List.set_cons_succ]
    refine tnG (i := 10) rt ?rgb10
    try simp only [Act.put, List.setIfInBounds_toArray, List.set_cons_zero, List.set_cons_succ]
    refine tnG (i := 11) rt ?rgb11
    try simp only [Act.put, List.setIfInBounds_toArray, List.set_cons_zero, List.set_cons_succ]
    refine tnG (i := 12) rt ?rgb12
    try simp only [Act.put, List.setIfInBounds_toArray, List.set_cons_zero, List.set_cons_succ]
    refine tnG (i := 13) rt ?rgb13
    try simp only [Act.put, List.setIfInBounds_toArray, List.set_cons_zero, List.set_cons_succ]
    refine tnG (i := 14) rt ?rgb14
    try simp only [Act.put, List.setIfInBounds_toArray, List.set_cons_zero, List.set_cons_succ]
    refine tnG (i := 15) rt ?rgb15
    try simp only [Act.put, List.setIfInBounds_toArray, List.set_cons_zero, List.set_cons_succ]
    refine tnG (i := 16) rt ?rgb16
    try simp only [Act.put, List.setIfInBounds_toArray, List.set_cons_zero, List.set_cons_succ]
    refine tnG (i := 17) rt ?rgb17
    try simp only [Act.put, List.setIfInBounds_toArray, List.set_cons_zero, List.set_cons_succ]
    refine tnG (i := 18) rt ?rgb18
    try simp only [Act.put, List.setIfInBounds_toArray, List.set_cons_zero, List.set_cons_succ]
    refine tkG (i := 19) (v := ?vgb19) ?ygb19 rt ?rgb19
    case ygb19 => (intro W hSw; go_simp; try with_reducible rfl)
    try simp only [Act.put, List.setIfInBounds_toArray, List.set_cons_zero, List.set_cons_succ]
    refine wpAnyG_done (by kernel_rfl) ?_ _
    go_simp
    have HQ := HU
    obtain ⟨tb, htb⟩ : ∃ tb, decide ((x : Int) < (u : Int)) = tb := ⟨_, rfl⟩
    have LT0 := fun W => less_u64 (x : Int) (u : Int) W
    rw [htb] at LT0
    have LT := Lib.hid LT0
    clear LT0 htb
    have rdrc : Old wx wx.drew.drew := ((Keeps.refl _ _).drew).trans (Keeps.refl _ _).drew
    go_upto_region 5 with fail
    refine wp_region_g (S := fun V => Old wx V) (M := List.range 14) (by kernel_rfl) ?_
    refine tkG (i := 0) (v := ?vrcr0) ?yrcr0 rdrc ?rrcr0
    case yrcr0 => (intro W hSw; go_simp; try with_reducible rfl)
    try simp only [Act.put, List.setIfInBounds_toArray, List.set_cons_zero, List.set_cons_succ]
    refine tkG (i := 1) (v := ?vrcr1) ?yrcr1 rdrc ?rrcr1
    case yrcr1 => (intro W hSw; go_simp; try with_reducible rfl)
    try simp only [Act.put, List.setIfInBounds_toArray, List.set_cons_zero, List.set_cons_succ]
    refine tkG (i := 2) (v := ?vrcr2) ?yrcr2 rdrc ?rrcr2
    case yrcr2 => (intro W hSw; go_simp; try with_reducible rfl)
    try simp only [Act.put, List.setIfInBounds_toArray, List.set_cons_zero, List.set_cons_succ]
    refine tkG (i := 3) (v := ?vrcr3) ?yrcr3 rdrc ?rrcr3
    case yrcr3 => (intro W hSw; go_simp; try with_reducible rfl)
    try simp only [Act.put, List.setIfInBounds_toArray, List.set_cons_zero, List.set_cons_succ]
    refine tkG (i := 4) (v := ?vrcr4) ?yrcr4 rdrc ?rrcr4
    case yrcr4 => (intro W hSw; go_simp; try with_reducible rfl)
    try simp only [Act.put, List.setIfInBounds_toArray, List.set_cons_zero, List.set_cons_succ]
    refine tkG (i := 5) (v := ?vrcr5) ?yrcr5 rdrc ?rrcr5
    case yrcr5 => (intro W hSw; have q1 := (HX.out _ hSw).1; go_simp; try with_reducible rfl)
    try simp only [Act.put, List.setIfInBounds_toArray, List.set_cons_zero, List.set_cons_succ]
    refine tkG (i := 6) (v := ?vrcr6) ?yrcr6 rdrc ?rrcr6
    case yrcr6 => (intro W hSw; go_simp; try with_reducible rfl)
    try simp only [Act.put, List.setIfInBounds_toArray, List.set_cons_zero, List.set_cons_succ]
    refine tkG (i := 7) (v := ?vrcr7) ?yrcr7 rdrc ?rrcr7
    case yrcr7 => (intro W hSw; go_simp; try with_reducible rfl)
    try simp only [Act.put, List.setIfInBounds_toArray, List.set_cons_zero, List.set_cons_succ]
    refine tkG (i := 8) (v := ?vrcr8) ?yrcr8 rdrc ?rrcr8
    case yrcr8 => (intro W hSw; go_simp; try with_reducible rfl)
    try simp only [Act.put, List.setIfInBounds_toArray, List.set_cons_zero, List.set_cons_succ]
    refine tkG (i := 9) (v := ?vrcr9) ?yrcr9 rdrc ?rrcr9
    case yrcr9 => (intro W hSw; go_simp; try with_reducible rfl)
    try simp only [Act.put, List.setIfInBounds_toArray, List.set_cons_zero, List.set_cons_succ]
    refine tkG (i := 10) (v := ?vrcr10) ?yrcr10 rdrc ?rrcr10
    case yrcr10 => (intro W hSw; go_simp; try with_reducible rfl)
    try simp only [Act.put, List.setIfInBounds_toArray, List.set_cons_zero, List.set_cons_succ]
    refine tkG (i := 11) (v := ?vrcr11) ?yrcr11 rdrc ?rrcr11
    case yrcr11 => (intro W hSw; have q1 := (HQ.out _ hSw).1; go_simp; try with_reducible rfl)
    try simp only [Act.put, List.setIfInBounds_toArray, List.set_cons_zero, List.set_cons_succ]
    refine wpAnyG_onlyL (i := 12) (o := _) (by kernel_rfl) rfl (fun K hK => ?_)
    go_simp
    refine (LT.out _).mono ?_
    rintro e W9 ⟨rfl, k9⟩
    have o9 : Old wx W9 := rdrc.trans k9
    clear k9 rdrc
    go_wp2_with fail
    refine hK.out _ _ (fun _ => o9) ?_
    clear hK K
    try simp only [Act.put, List.setIfInBounds_toArray, List.set_cons_zero, List.set_cons_succ]
    refine tkG (i := 13) (v := ?vrcr13) ?yrcr13 o9 ?rrcr13
    case yrcr13 => (intro W hSw; go_simp; try with_reducible rfl)
    try simp only [Act.put, List.setIfInBounds_toArray, List.set_cons_zero, List.set_cons_succ]
    refine wpAnyG_done (by kernel_rfl) ?_ _
    go_simp
    have Y9 := Lib.hid o9
    clear o9
    cases tb
    ·go_wp2_with fail
     have fin : SrtP B g n cap L w W9 := ⟨M, Q.out.1, Q.out.2.1.old Y9.out, Q.out.2.2.1.trans (Y9.out.weaken (fun _ _ f => f.elim))⟩
     first | exact bodyPost_ret (v := .tuple #[]) (by simp [results, Tryz.results164, go_sem]) rfl ⟨rfl, fin⟩ | (refine bodyPost_end (results_none rfl _ _ _) rfl ?_; exact ⟨rfl, fin⟩)
    ·obtain ⟨⟨fp1, fp2⟩, ⟨z, fq1, fq2⟩, hsw⟩ := swap_u64 (w := w) Q.out.1 (Q.out.2.1.old Y9.out) (Q.out.2.2.1.trans (Y9.out.weaken (fun _ _ f => f.elim))) Q.out.2.2.2 HUM.out
     have HP := Lib.hid (fun W (hW : Old W9 W) => HX.out W (Y9.out.trans hW))
     have HQ9 := HQ
     clear HQ
     have HQ := Lib.hid (fun W (hW : Old W9 W) => HQ9.out W (Y9.out.trans hW))
     have Z := Lib.hid hsw
     clear hsw
     go_upto_region 6 with fail
     have rtrcs : True := trivial
     refine wp_region_g (S := fun _ => True) (M := List.range 24) (by kernel_rfl) ?_
     refine tkG (i := 0) (v := ?vrcs0) ?yrcs0 rtrcs ?rrcs0
     case yrcs0 => (intro W hSw; go_simp; try with_reducible rfl)
     try simp only [Act.put, List.setIfInBounds_toArray, List.set_cons_zero, List.set_cons_succ]
     refine tkG (i := 1) (v := ?vrcs1) ?yrcs1 rtrcs ?rrcs1
     case yrcs1 => (intro W hSw; go_simp; try with_reducible rfl)
     try simp only [Act.put, List.setIfInBounds_toArray, List.set_cons_zero, List.set_cons_succ]
     refine tkG (i := 2) (v := ?vrcs2) ?yrcs2 rtrcs ?rrcs2
     case yrcs2 => (intro W hSw; go_simp; try with_reducible rfl)
     try simp only [Act.put, List.setIfInBounds_toArray, List.set_cons_zero, List.set_cons_succ]
     refine tkG (i := 3) (v := ?vrcs3) ?yrcs3 rtrcs ?rrcs3
     case yrcs3 => (intro W hSw; go_simp; try with_reducible rfl)
     try simp only [Act.put, List.setIfInBounds_toArray, List.set_cons_zero, List.set_cons_succ]
     refine tkG (i := 4) (v := ?vrcs4) ?yrcs4 rtrcs ?rrcs4
     case yrcs4 => (intro W hSw; go_simp; try with_reducible rfl)
     try simp only [Act.put, List.setIfInBounds_toArray, List.set_cons_zero, List.set_cons_succ]
     refine tkG (i := 5) (v := ?vrcs5) ?yrcs5 rtrcs ?rrcs5
     case yrcs5 => (intro W hSw; go_simp; try with_reducible rfl)
     try simp only [Act.put, List.setIfInBounds_toArray, List.set_cons_zero, List.set_cons_succ]
     refine tkG (i := 6) (v := ?vrcs6) ?yrcs6 rtrcs ?rrcs6
     case yrcs6 => (intro W hSw; go_simp; try with_reducible rfl)
     try simp only [Act.put, List.setIfInBounds_toArray, List.set_cons_zero, List.set_cons_succ]
     refine tkG (i := 7) (v := ?vrcs7) ?yrcs7 rtrcs ?rrcs7
     case yrcs7 => (intro W hSw; go_simp; try with_reducible rfl)
     try simp only [Act.put, List.setIfInBounds_toArray, List.set_cons_zero, List.set_cons_succ]
     refine tkG (i := 8) (v := ?vrcs8) ?yrcs8 rtrcs ?rrcs8
     case yrcs8 => (intro W hSw; go_simp; try with_reducible rfl)
     try simp only [Act.put, List.setIfInBounds_toArray, List.set_cons_zero, List.set_cons_succ]
     refine tkG (i := 9) (v := ?vrcs9) ?yrcs9 rtrcs ?rrcs9
     case yrcs9 => (intro W hSw; go_simp; try with_reducible rfl)
     try simp only [Act.put, List.setIfInBounds_toArray, List.set_cons_zero, List.set_cons_succ]
     refine tkG (i := 10) (v := ?vrcs10) ?yrcs10 rtrcs ?rrcs10
     case yrcs10 => (intro W hSw; go_simp; try with_reducible rfl)
     try simp only [Act.put, List.setIfInBounds_toArray, List.set_cons_zero, List.set_cons_succ]
     refine tkG (i := 11) (v := ?vrcs11) ?yrcs11 rtrcs ?rrcs11
     case yrcs11 => (intro W hSw; go_simp; try with_reducible rfl)
     try simp only [Act.put, List.setIfInBounds_toArray, List.set_cons_zero, List.set_cons_succ]
     refine tkG (i := 12) (v := ?vrcs12) ?yrcs12 rtrcs ?rrcs12
     case yrcs12 => (intro W hSw; go_simp; try with_reducible rfl)
     try simp only [Act.put, List.setIfInBounds_toArray, List.set_cons_zero, List.set_cons_succ]
     refine tkG (i := 14) (v := ?vrcs14) ?yrcs14 rtrcs ?rrcs14
     case yrcs14 => (intro W hSw; go_simp; try with_reducible rfl)
     try simp only [Act.put, List.setIfInBounds_toArray, List.set_cons_zero, List.set_cons_succ]
     refine tkG (i := 15) (v := ?vrcs15) ?yrcs15 rtrcs ?rrcs15
     case yrcs15 => (intro W hSw; go_simp; try with_reducible rfl)
     try simp only [Act.put, List.setIfInBounds_toArray, List.set_cons_zero, List.set_cons_succ]
     refine tkG (i := 16) (v := ?vrcs16) ?yrcs16 rtrcs ?rrcs16
     case yrcs16 => (intro W hSw; go_simp; try with_reducible rfl)
     try simp only [Act.put, List.setIfInBounds_toArray, List.set_cons_zero, List.set_cons_succ]
     refine tkG (i := 17) (v := ?vrcs17) ?yrcs17 rtrcs ?rrcs17
     case yrcs17 => (intro W hSw; go_simp; try with_reducible rfl)
     try simp only [Act.put, List.setIfInBounds_toArray, List.set_cons_zero, List.set_cons_succ]
     refine tkG (i := 18) (v := ?vrcs18) ?yrcs18 rtrcs ?rrcs18
     case yrcs18 => (intro W hSw; go_simp; try with_reducible rfl)
     try simp only [Act.put, List.setIfInBounds_toArray, List.set_cons_zero, List.set_cons_succ]
     refine wpAnyG_true (fun V => Old W9 V) [0, 1, 2, 3, 4, 5, 6, 7, 8, 9, 10, 11, 12, 13, 14, 15, 16, 17, 18, 19, 20] _ _ _ _ ?_
     have r8rcs : Old W9 W9.drew := (Keeps.refl _ _).drew
     refine tkG (i := 13) (v := ?vrcs13) ?yrcs13 r8rcs ?rrcs13
     case yrcs13 => (intro W hSw; have q1 := (HQ.out _ hSw).1; go_simp; try with_reducible rfl)
     try simp only [Act.put, List.setIfInBounds_toArray, List.set_cons_zero, List.set_cons_succ]
     refine tkG (i := 19) (v := ?vrcs19) ?yrcs19 r8rcs ?rrcs19
     case yrcs19 => (intro W hSw; have q1 := (HP.out _ hSw).1; go_simp; try with_reducible rfl)
     try simp only [Act.put, List.setIfInBounds_toArray, List.set_cons_zero, List.set_cons_succ]
     refine tkG (i := 20) (v := ?vrcs20) ?yrcs20 r8rcs ?rrcs20
     case yrcs20 => (intro W hSw; go_simp; try with_reducible rfl)
     try simp only [Act.put, List.setIfInBounds_toArray, List.set_cons_zero, List.set_cons_succ]
     refine wpAnyG_onlyL (i := 21) (o := _) (by kernel_rfl) rfl (fun K hK => ?_)
     go_simp
     refine hK.out _ _ (fun h => absurd h (by decide)) ?_
     clear hK K
     try simp only [Act.put, List.setIfInBounds_toArray, List.set_cons_zero, List.set_cons_succ]
     refine wpAnyG_onlyL (i := 22) (o := _) (by kernel_rfl) rfl (fun K hK => ?_)
     go_simp
     refine hK.out _ _ (fun h => absurd h (by decide)) ?_
     clear hK K
     try simp only [Act.put, List.setIfInBounds_toArray, List.set_cons_zero, List.set_cons_succ]
     refine wpAnyG_onlyL (i := 23) (o := _) (by kernel_rfl) rfl (fun K hK => ?_)
     go_simp
     refine hK.out _ _ (fun h => absurd h (by decide)) ?_
     clear hK K
     try simp only [Act.put, List.setIfInBounds_toArray, List.set_cons_zero, List.set_cons_succ]
     refine wpAnyG_done (by kernel_rfl) ?_ _
     go_simp
     clear fp1 fp2 fq1 fq2
     go_wp2_with fail
     go_roundw
     case rel => exact ⟨c, by have := CC.out.1; omega, by go_num, Z.out.old ((Keeps.refl _ _).drew)⟩
     case measure => have := CC.out.1; simp [intOf]; omega
  ·have K1 := Lib.hid hs
   clear hs
   have hcg : ((c : Int) ≥ (hi : Int)) := by omega
   go_wp2_with fail
   first | exact bodyPost_ret (v := .tuple #[]) (by simp [results, go_sem]) rfl ⟨rfl, K1.out⟩ | (refine bodyPost_end (results_none rfl _ _ _) rfl ?_; exact ⟨rfl, K1.out⟩)
end
end Go.Proofs.YtehmlaplodjenaaGreat
