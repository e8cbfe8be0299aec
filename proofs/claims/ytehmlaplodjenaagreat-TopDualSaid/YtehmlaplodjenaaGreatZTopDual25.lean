/- DERIVED. Sorting of numbers without sign: the two partitions. Written by gen_part.py. -/
import Derived.Test.YtehmlaplodjenaaGreatZTopDual24
import Derived.Deep.DeepCutAuto
import Derived.IntWalk
import Derived.BigQuiet
set_option maxRecDepth 100000
set_option maxHeartbeats 16000000
namespace Go.Proofs.YtehmlaplodjenaaGreat
section
open Go.RowKit
theorem parteq_u64 (a b p : Nat) (g n cap B : Nat) (L : List Nat) (w : World) (h : OwnsU w B (.slice (some ⟨g, 0, none⟩) n cap) L) (hab : a < b) (hbn : b ≤ n) (_hpa : a ≤ p) (hpb : p < b) (hn : n ≤ 1000000) :
  Calls Tryz.prog 118 #[.slice (some ⟨g, 0, none⟩) n cap, .int .i64 a, .int .i64 b, .int .i64 p] w fun e w' => ∃ m : Nat, e = .returned (.int .i64 m) ∧ a < m ∧ m ≤ b ∧ SrtP B g n cap L w w' := by
 have HL := Lib.hid h.len_of
 have hs := SrtP.refl h
 clear h
 obtain ⟨i0, hi0⟩ : ∃ i0, a + 1 = i0 := ⟨_, rfl⟩
 obtain ⟨j, hj⟩ : ∃ j, b - 1 = j := ⟨_, rfl⟩
 have wa : IntKind.i64.wrap ((a : Int) + 1) = (i0 : Int) := by rw [IntWalk.i64_in _ (by omega)]; omega
 have wb : IntKind.i64.wrap ((b : Int) - 1) = (j : Int) := by rw [IntWalk.i64_in _ (by omega)]; omega
 have hia : a < i0 := by omega
 have hib : i0 ≤ b := by omega
 have hja : a ≤ j := by omega
 have hjb : j + 1 ≤ b := by omega
 clear hi0 hj
 go_enter Tryz.func118, Tryz.ntmps118
 obtain ⟨M, hp, ho, hk⟩ := hs
 have hML : M.length = n := hp.length_eq.trans HL.out.symm
 have hpn : a < n := by omega
 have hqn : p < n := by omega
 obtain ⟨x, hx⟩ : ∃ x, M[a]? = some x := ⟨_, List.getElem?_eq_getElem (by omega)⟩
 obtain ⟨y, hy⟩ : ∃ y, M[p]? = some y := ⟨_, List.getElem?_eq_getElem (by omega)⟩
 obtain ⟨⟨fp1, fp2⟩, ⟨z, fq1, fq2⟩, hsw⟩ := swap_u64 hp ho hk hx hy
 have HP := Lib.hid (fun W (hW : Old w W) => OwnsU.cell (ho.old hW) hx)
 have HQ := Lib.hid (fun W (hW : Old w W) => OwnsU.cell (ho.old hW) hy)
 have Ss0 := Lib.hid (hsw.old ((Keeps.refl (fun _ => False) _).drew))
 clear hp ho hk hx hy hML hsw
 go_upto_region 1 with fail
 have rts0 : True := trivial
 refine wp_region_g (S := fun _ => True) (M := List.range 16) (by kernel_rfl) ?_
 refine tkG (i := 0) (v := ?vs00) ?ys00 rts0 ?rs00
 case ys00 => (intro W hSw; go_simp; try with_reducible rfl)
 try simp only [Act.put, List.setIfInBounds_toArray, List.set_cons_zero, List.set_cons_succ]
 refine tkG (i := 1) (v := ?vs01) ?ys01 rts0 ?rs01
 case ys01 => (intro W hSw; go_simp; try with_reducible rfl)
 try simp only [Act.put, List.setIfInBounds_toArray, List.set_cons_zero, List.set_cons_succ]
 refine tkG (i := 2) (v := ?vs02) ?ys02 rts0 ?rs02
 case ys02 => (intro W hSw; go_simp; try with_reducible rfl)
 try simp only [Act.put, List.setIfInBounds_toArray, List.set_cons_zero, List.set_cons_succ]
 refine tkG (i := 3) (v := ?vs03) ?ys03 rts0 ?rs03
 case ys03 => (intro W hSw; go_simp; try with_reducible rfl)
 try simp only [Act.put, List.setIfInBounds_toArray, List.set_cons_zero, List.set_cons_succ]
 refine tkG (i := 4) (v := ?vs04) ?ys04 rts0 ?rs04
 case ys04 => (intro W hSw; go_simp; try with_reducible rfl)
 try simp only [Act.put, List.setIfInBounds_toArray, List.set_cons_zero, List.set_cons_succ]
 refine tkG (i := 5) (v := ?vs05) ?ys05 rts0 ?rs05
 case ys05 => (intro W hSw; go_simp; try with_reducible rfl)
 try simp only [Act.put, List.setIfInBounds_toArray, List.set_cons_zero, List.set_cons_succ]
 refine tkG (i := 6) (v := ?vs06) ?ys06 rts0 ?rs06
 case ys06 => (intro W hSw; go_simp; try with_reducible rfl)
 try simp only [Act.put, List.setIfInBounds_toArray, List.set_cons_zero, List.set_cons_succ]
 refine tkG (i := 8) (v := ?vs08) ?ys08 rts0 ?rs08
 case ys08 => (intro W hSw; go_simp; try with_reducible rfl)
 try simp only [Act.put, List.setIfInBounds_toArray, List.set_cons_zero, List.set_cons_succ]
 refine tkG (i := 9) (v := ?vs09) ?ys09 rts0 ?rs09
 case ys09 => (intro W hSw; go_simp; try with_reducible rfl)
 try simp only [Act.put, List.setIfInBounds_toArray, List.set_cons_zero, List.set_cons_succ]
 refine tkG (i := 10) (v := ?vs010) ?ys010 rts0 ?rs010
 case ys010 => (intro W hSw; go_simp; try with_reducible rfl)
 try simp only [Act.put, List.setIfInBounds_toArray, List.set_cons_zero, List.set_cons_succ]
 refine wpAnyG_true (fun V => Old w V) [0, 1, 2, 3, 4, 5, 6, 7, 8, 9, 10, 11, 12] _ _ _ _ ?_
 have r8s0 : Old w w.drew := (Keeps.refl _ _).drew
 refine tkG (i := 7) (v := ?vs07) ?ys07 r8s0 ?rs07
 case ys07 => (intro W hSw; have q1 := (HQ.out _ hSw).1; go_simp; try with_reducible rfl)
 try simp only [Act.put, List.setIfInBounds_toArray, List.set_cons_zero, List.set_cons_succ]
 refine tkG (i := 11) (v := ?vs011) ?ys011 r8s0 ?rs011
 case ys011 => (intro W hSw; have q1 := (HP.out _ hSw).1; go_simp; try with_reducible rfl)
 try simp only [Act.put, List.setIfInBounds_toArray, List.set_cons_zero, List.set_cons_succ]
 refine tkG (i := 12) (v := ?vs012) ?ys012 r8s0 ?rs012
 case ys012 => (intro W hSw; go_simp; try with_reducible rfl)
 try simp only [Act.put, List.setIfInBounds_toArray, List.set_cons_zero, List.set_cons_succ]
 refine wpAnyG_onlyL (i := 13) (o := _) (by kernel_rfl) rfl (fun K hK => ?_)
 go_simp
 refine hK.out _ _ (fun h => absurd h (by decide)) ?_
 clear hK K
 try simp only [Act.put, List.setIfInBounds_toArray, List.set_cons_zero, List.set_cons_succ]
 refine wpAnyG_onlyL (i := 14) (o := _) (by kernel_rfl) rfl (fun K hK => ?_)
 go_simp
 refine hK.out _ _ (fun h => absurd h (by decide)) ?_
 clear hK K
 try simp only [Act.put, List.setIfInBounds_toArray, List.set_cons_zero, List.set_cons_succ]
 refine wpAnyG_onlyL (i := 15) (o := _) (by kernel_rfl) rfl (fun K hK => ?_)
 go_simp
 refine hK.out _ _ (fun h => absurd h (by decide)) ?_
 clear hK K
 try simp only [Act.put, List.setIfInBounds_toArray, List.set_cons_zero, List.set_cons_succ]
 refine wpAnyG_done (by kernel_rfl) ?_ _
 go_simp
 clear fp1 fp2 fq1 fq2 HP HQ
 go_wp2_with fail
 go_loopw [9, 10] (fun v v' wr => ∃ i j : Nat, a < i ∧ i ≤ b ∧ a ≤ j ∧ j + 1 ≤ b ∧ v = .int .i64 i ∧ v' = .int .i64 j ∧ SrtP B g n cap L w wr) (fun _ v' _ => (intOf v').toNat)
 case atStart => exact ⟨i0, j, hia, hib, hja, hjb, rfl, rfl, Ss0.out⟩
 case round =>
  clear Ss0
  obtain ⟨wo, hwo⟩ : ∃ wo : World, wo = wr := ⟨_, rfl⟩
  subst hwo
  obtain ⟨iz, jz, hz1, hz2, hz3, hz4, rfl, rfl, hs⟩ := hrel
  obtain ⟨i0, hii⟩ : ∃ i0, i0 = iz := ⟨_, rfl⟩
  subst hii
  obtain ⟨j, hjj⟩ : ∃ j, j = jz := ⟨_, rfl⟩
  subst hjj
  have SU := Lib.hid hs
  clear hs
  go_wp2_with fail
  go_loopw [9] (fun v wr => ∃ i : Nat, i0 ≤ i ∧ i ≤ b ∧ v = .int .i64 i ∧ SrtP B g n cap L w wr) (fun v _ => b + 1 - (intOf v).toNat)
  case atStart => exact ⟨i0, Nat.le_refl _, by omega, rfl, SU.out⟩
  case round =>
   obtain ⟨wx, hwx⟩ : ∃ wx : World, wx = wr := ⟨_, rfl⟩
   subst hwx
   obtain ⟨i, hi1, hi2, rfl, hs⟩ := hrel
   go_upto_region 3 with fail
   go_cut [43] (fun v wc => ∃ (t : Bool) (wy : World), wy = wc ∧ v = .bool t ∧ (t = true → i ≤ j) ∧ SrtP B g n cap L w wy)
   case first =>
    by_cases hij : i ≤ j
    ·obtain ⟨M, hp, ho, hk⟩ := hs
     have hML : M.length = n := hp.length_eq.trans HL.out.symm
     have hpn : a < n := by omega
     have hqn : i < n := by omega
     obtain ⟨x, hx⟩ : ∃ x, M[a]? = some x := ⟨_, List.getElem?_eq_getElem (by omega)⟩
     obtain ⟨y, hy⟩ : ∃ y, M[i]? = some y := ⟨_, List.getElem?_eq_getElem (by omega)⟩
     have HX := Lib.hid (fun W (hW : Old wx W) => OwnsU.cell (ho.old hW) hx)
     have HY := Lib.hid (fun W (hW : Old wx W) => OwnsU.cell (ho.old hW) hy)
     have hgd : decide ((i : Int) ≤ (j : Int)) = true := by simp; omega
     have hgd2 : decide (i ≤ j) = true := decide_eq_true hij
     obtain ⟨tb, htb⟩ : ∃ tb, decide ((x : Int) < (y : Int)) = tb := ⟨_, rfl⟩
     have LT0 := fun W => less_u64 (x : Int) (y : Int) W
     rw [htb] at LT0
     have LT := Lib.hid LT0
     have Q := Lib.hid (And.intro hp (And.intro ho (And.intro hk hij)))
     clear hp ho hk hx hy hML LT0 htb hij
     have rd : Old wx wx.drew := (Keeps.refl _ _).drew
     refine wp_region_g (S := fun V => Old wx V) (M := List.range 15) (by kernel_rfl) ?_
     refine tkG (i := 0) (v := ?vt3y0) ?yt3y0 rd ?rt3y0
     case yt3y0 => (intro W hSw; go_simp; try with_reducible rfl)
     try simp only [Act.put, List.setIfInBounds_toArray, List.set_cons_zero, List.set_cons_succ]
     refine tkG (i := 1) (v := ?vt3y1) ?yt3y1 rd ?rt3y1
     case yt3y1 => (intro W hSw; go_simp; try with_reducible rfl)
     try simp only [Act.put, List.setIfInBounds_toArray, List.set_cons_zero, List.set_cons_succ]
     refine tkG (i := 2) (v := ?vt3y2) ?yt3y2 rd ?rt3y2
     case yt3y2 => (intro W hSw; go_simp; try with_reducible rfl)
     try simp only [Act.put, List.setIfInBounds_toArray, List.set_cons_zero, List.set_cons_succ]
     refine tkG (i := 3) (v := ?vt3y3) ?yt3y3 rd ?rt3y3
     case yt3y3 => (intro W hSw; go_simp; try with_reducible rfl)
     try simp only [Act.put, List.setIfInBounds_toArray, List.set_cons_zero, List.set_cons_succ]
     refine tkG (i := 4) (v := ?vt3y4) ?yt3y4 rd ?rt3y4
     case yt3y4 => (intro W hSw; go_simp; try with_reducible rfl)
     try simp only [Act.put, List.setIfInBounds_toArray, List.set_cons_zero, List.set_cons_succ]
     refine tkG (i := 5) (v := ?vt3y5) ?yt3y5 rd ?rt3y5
     case yt3y5 => (intro W hSw; go_simp; try with_reducible rfl)
     try simp only [Act.put, List.setIfInBounds_toArray, List.set_cons_zero, List.set_cons_succ]
     refine tkG (i := 6) (v := ?vt3y6) ?yt3y6 rd ?rt3y6
     case yt3y6 => (intro W hSw; go_simp; try with_reducible rfl)
     try simp only [Act.put, List.setIfInBounds_toArray, List.set_cons_zero, List.set_cons_succ]
     refine tkG (i := 7) (v := ?vt3y7) ?yt3y7 rd ?rt3y7
     case yt3y7 => (intro W hSw; have q1 := (HX.out _ hSw).1; go_simp; try with_reducible rfl)
     try simp only [Act.put, List.setIfInBounds_toArray, List.set_cons_zero, List.set_cons_succ]
     refine tkG (i := 8) (v := ?vt3y8) ?yt3y8 rd ?rt3y8
     case yt3y8 => (intro W hSw; go_simp; try with_reducible rfl)
     try simp only [Act.put, List.setIfInBounds_toArray, List.set_cons_zero, List.set_cons_succ]
     refine tkG (i := 9) (v := ?vt3y9) ?yt3y9 rd ?rt3y9
     case yt3y9 => (intro W hSw; go_simp; try with_reducible rfl)
     try simp only [Act.put, List.setIfInBounds_toArray, List.set_cons_zero, List.set_cons_succ]
     refine tkG (i := 10) (v := ?vt3y10) ?yt3y10 rd ?rt3y10
     case yt3y10 => (intro W hSw; go_simp; try with_reducible rfl)
     try simp only [Act.put, List.setIfInBounds_toArray, List.set_cons_zero, List.set_cons_succ]
     refine tkG (i := 11) (v := ?vt3y11) ?yt3y11 rd ?rt3y11
     case yt3y11 => (intro W hSw; have q1 := (HY.out _ hSw).1; go_simp; try with_reducible rfl)
     try simp only [Act.put, List.setIfInBounds_toArray, List.set_cons_zero, List.set_cons_succ]
     refine wpAnyG_onlyL (i := 12) (o := _) (by kernel_rfl) rfl (fun K hK => ?_)
     go_simp
     refine (LT.out _).mono ?_
     rintro e W8 ⟨rfl, k8⟩
     have o8 : Old wx W8 := rd.trans k8
     clear k8 rd
     go_wp2_with fail
     refine hK.out _ _ (fun _ => o8) ?_
     clear hK K
     try simp only [Act.put, List.setIfInBounds_toArray, List.set_cons_zero, List.set_cons_succ]
     refine tkG (i := 13) (v := ?vt3y13) ?yt3y13 o8 ?rt3y13
     case yt3y13 => (intro W hSw; go_simp; try with_reducible rfl)
     try simp only [Act.put, List.setIfInBounds_toArray, List.set_cons_zero, List.set_cons_succ]
     refine tkG (i := 14) (v := ?vt3y14) ?yt3y14 o8 ?rt3y14
     case yt3y14 => (intro W hSw; go_simp; try with_reducible rfl)
     try simp only [Act.put, List.setIfInBounds_toArray, List.set_cons_zero, List.set_cons_succ]
     refine wpAnyG_done (by kernel_rfl) ?_ _
     go_simp
     have Y8 := Lib.hid o8
     clear o8
     go_wp2_with fail
     go_meet
     case rel => exact ⟨_, _, rfl, rfl, fun _ => Q.out.2.2.2, _, Q.out.1, Q.out.2.1.old Y8.out, Q.out.2.2.1.trans (Y8.out.weaken (fun _ _ f => f.elim))⟩
    ·have hgd : decide ((i : Int) ≤ (j : Int)) = false := by simp; omega
     have hgd2 : decide (i ≤ j) = false := decide_eq_false hij
     have K8 := Lib.hid hs
     clear hs hij
     have rt : True := trivial
     refine wp_region_g (S := fun _ => True) (M := List.range 15) (by kernel_rfl) ?_
     refine tkG (i := 0) (v := ?vt3n0) ?yt3n0 rt ?rt3n0
     case yt3n0 => (intro W hSw; go_simp; try with_reducible rfl)
     try simp only [Act.put, List.setIfInBounds_toArray, List.set_cons_zero, List.set_cons_succ]
     refine tkG (i := 1) (v := ?vt3n1) ?yt3n1 rt ?rt3n1
     case yt3n1 => (intro W hSw; go_simp; try with_reducible rfl)
     try simp only [Act.put, List.setIfInBounds_toArray, List.set_cons_zero, List.set_cons_succ]
     refine tkG (i := 2) (v := ?vt3n2) ?yt3n2 rt ?rt3n2
     case yt3n2 => (intro W hSw; go_simp; try with_reducible rfl)
     try simp only [Act.put, List.setIfInBounds_toArray, List.set_cons_zero, List.set_cons_succ]
     refine tkG (i := 3) (v := ?vt3n3) ?yt3n3 rt ?rt3n3
     case yt3n3 => (intro W hSw; go_simp; try with_reducible rfl)
     try simp only [Act.put, List.setIfInBounds_toArray, List.set_cons_zero, List.set_cons_succ]
     refine tnG (i := 4) rt ?rt3n4
     try simp only [Act.put, List.setIfInBounds_toArray, List.set_cons_zero, List.set_cons_succ]
     refine tnG (i := 5) rt ?rt3n5
     try simp only [Act.put, List.setIfInBounds_toArray, List.set_cons_zero, List.set_cons_succ]
     refine tnG (i := 6) rt ?rt3n6
     try simp only [Act.put, List.setIfInBounds_toArray, List.set_cons_zero, List.set_cons_succ]
     refine tnG (i := 7) rt ?rt3n7
     try simp only [Act.put, List.setIfInBounds_toArray, List.set_cons_zero, List.set_cons_succ]
     refine tnG (i := 8) rt ?rt3n8
     try simp only [Act.put, List.setIfInBounds_toArray, List.set_cons_zero, List.set_cons_succ]
     refine tnG (i := 9) rt ?rt3n9
     try simp only [Act.put, List.setIfInBounds_toArray, List.set_cons_zero, List.set_cons_succ]
     refine tnG (i := 10) rt ?rt3n10
     try simp only [Act.put, List.setIfInBounds_toArray, List.set_cons_zero, List.set_cons_succ]
     refine tnG (i := 11) rt ?rt3n11
     try simp only [Act.put, List.setIfInBounds_toArray, List.set_cons_zero, List.set_cons_succ]
     refine tnG (i := 12) rt ?rt3n12
     try simp only [Act.put, List.setIfInBounds_toArray, List.set_cons_zero, List.set_cons_succ]
     refine tnG (i := 13) rt ?rt3n13
     try simp only [Act.put, List.setIfInBounds_toArray, List.set_cons_zero, List.set_cons_succ]
     refine tkG (i := 14) (v := ?vt3n14) ?yt3n14 rt ?rt3n14
     case yt3n14 => (intro W hSw; go_simp; try with_reducible rfl)
     try simp only [Act.put, List.setIfInBounds_toArray, List.set_cons_zero, List.set_cons_succ]
     refine wpAnyG_done (by kernel_rfl) ?_ _
     go_simp
     go_wp2_with fail
     go_meet
     case rel => exact ⟨_, _, rfl, rfl, fun e => (by cases e), K8.out.old ((Keeps.refl _ _).drew)⟩
   case rest =>
    obtain ⟨t, wy, rfl, rfl, hte, hs⟩ := hcut
    cases t
    ·obtain ⟨wx, hwx⟩ : ∃ wx : World, wx = wy := ⟨_, rfl⟩
     subst hwx
     clear hte
     have wi1 : IntKind.i64.wrap ((i : Int) + 1) = ((i + 1 : Nat) : Int) := by rw [IntWalk.i64_in _ (by omega)]; omega
     clear SU
     have SDt4 := Lib.hid hs
     clear hs
     obtain ⟨j0, hj0⟩ : ∃ j0, j = j0 := ⟨_, rfl⟩
     subst hj0
     go_wp2_with fail
     go_loopw [10] (fun v wr => ∃ j' : Nat, a ≤ j' ∧ j' ≤ j ∧ v = .int .i64 j' ∧ SrtP B g n cap L w wr) (fun v _ => (intOf v).toNat)
     case atStart => exact ⟨j, by omega, Nat.le_refl _, rfl, SDt4.out⟩
     case round =>
      obtain ⟨wz, hwz⟩ : ∃ wz : World, wz = wr := ⟨_, rfl⟩
      subst hwz
      obtain ⟨jz, hjz1, hjz2, rfl, hs⟩ := hrel
      clear SDt4
      obtain ⟨wx, hwx⟩ : ∃ wx : World, wx = wz := ⟨_, rfl⟩
      subst hwx
      obtain ⟨jM, hjM⟩ : ∃ jM, jM = j := ⟨_, rfl⟩
      subst hjM
      obtain ⟨j, hjj⟩ : ∃ j, j = jz := ⟨_, rfl⟩
      subst hjj
      go_upto_region 5 with fail
      go_cut [59] (fun v wc => ∃ (t : Bool) (wy : World), wy = wc ∧ v = .bool t ∧ (t = true → i ≤ j) ∧ SrtP B g n cap L w wy)
      case first =>
       by_cases hij : i ≤ j
       ·obtain ⟨M, hp, ho, hk⟩ := hs
        have hML : M.length = n := hp.length_eq.trans HL.out.symm
        have hpn : a < n := by omega
        have hqn : j < n := by omega
        obtain ⟨x, hx⟩ : ∃ x, M[a]? = some x := ⟨_, List.getElem?_eq_getElem (by omega)⟩
        obtain ⟨y, hy⟩ : ∃ y, M[j]? = some y := ⟨_, List.getElem?_eq_getElem (by omega)⟩
        have HX := Lib.hid (fun W (hW : Old wx W) => OwnsU.cell (ho.old hW) hx)
        have HY := Lib.hid (fun W (hW : Old wx W) => OwnsU.cell (ho.old hW) hy)
        have hgd : decide ((i : Int) ≤ (j : Int)) = true := by simp; omega
        have hgd2 : decide (i ≤ j) = true := decide_eq_true hij
        obtain ⟨tb, htb⟩ : ∃ tb, decide ((x : Int) < (y : Int)) = tb := ⟨_, rfl⟩
        have LT0 := fun W => less_u64 (x : Int) (y : Int) W
        rw [htb] at LT0
        have LT := Lib.hid LT0
        have Q := Lib.hid (And.intro hp (And.intro ho (And.intro hk hij)))
        clear hp ho hk hx hy hML LT0 htb hij
        have rd : Old wx wx.drew := (Keeps.refl _ _).drew
        refine wp_region_g (S := fun V => Old wx V) (M := List.range 14) (by kernel_rfl) ?_
        refine tkG (i := 0) (v := ?vt4y0) ?yt4y0 rd ?rt4y0
        case yt4y0 => (intro W hSw; go_simp; try with_reducible rfl)
        try simp only [Act.put, List.setIfInBounds_toArray, List.set_cons_zero, List.set_cons_succ]
        refine tkG (i := 1) (v := ?vt4y1) ?yt4y1 rd ?rt4y1
        case yt4y1 => (intro W hSw; go_simp; try with_reducible rfl)
        try simp only [Act.put, List.setIfInBounds_toArray, List.set_cons_zero, List.set_cons_succ]
        refine tkG (i := 2) (v := ?vt4y2) ?yt4y2 rd ?rt4y2
        case yt4y2 => (intro W hSw; go_simp; try with_reducible rfl)
        try simp only [Act.put, List.setIfInBounds_toArray, List.set_cons_zero, List.set_cons_succ]
        refine tkG (i := 3) (v := ?vt4y3) ?yt4y3 rd ?rt4y3
        case yt4y3 => (intro W hSw; go_simp; try with_reducible rfl)
        try simp only [Act.put, List.setIfInBounds_toArray, List.set_cons_zero, List.set_cons_succ]
        refine tkG (i := 4) (v := ?vt4y4) ?yt4y4 rd ?rt4y4
        case yt4y4 => (intro W hSw; go_simp; try with_reducible rfl)
        try simp only [Act.put, List.setIfInBounds_toArray, List.set_cons_zero, List.set_cons_succ]
        refine tkG (i := 5) (v := ?vt4y5) ?yt4y5 rd ?rt4y5
        case yt4y5 => (intro W hSw; go_simp; try with_reducible rfl)
        try simp only [Act.put, List.setIfInBounds_toArray, List.set_cons_zero, List.set_cons_succ]
        refine tkG (i := 6) (v := ?vt4y6) ?yt4y6 rd ?rt4y6
        case yt4y6 => (intro W hSw; go_simp; try with_reducible rfl)
        try simp only [Act.put, List.setIfInBounds_toArray, List.set_cons_zero, List.set_cons_succ]
        refine tkG (i := 7) (v := ?vt4y7) ?yt4y7 rd ?rt4y7
        case yt4y7 => (intro W hSw; have q1 := (HX.out _ hSw).1; go_simp; try with_reducible rfl)
        try simp only [Act.put, List.setIfInBounds_toArray, List.set_cons_zero, List.set_cons_succ]
        refine tkG (i := 8) (v := ?vt4y8) ?yt4y8 rd ?rt4y8
        case yt4y8 => (intro W hSw; go_simp; try with_reducible rfl)
        try simp only [Act.put, List.setIfInBounds_toArray, List.set_cons_zero, List.set_cons_succ]
        refine tkG (i := 9) (v := ?vt4y9) ?yt4y9 rd ?rt4y9
        case yt4y9 => (intro W hSw; go_simp; try with_reducible rfl)
        try simp only [Act.put, List.setIfInBounds_toArray, List.set_cons_zero, List.set_cons_succ]
        refine tkG (i := 10) (v := ?vt4y10) ?yt4y10 rd ?rt4y10
        case yt4y10 => (intro W hSw; go_simp; try with_reducible rfl)
        try simp only [Act.put, List.setIfInBounds_toArray, List.set_cons_zero, List.set_cons_succ]
        refine tkG (i := 11) (v := ?vt4y11) ?yt4y11 rd ?rt4y11
        case yt4y11 => (intro W hSw; have q1 := (HY.out _ hSw).1; go_simp; try with_reducible rfl)
        try simp only [Act.put, List.setIfInBounds_toArray, List.set_cons_zero, List.set_cons_succ]
        refine wpAnyG_onlyL (i := 12) (o := _) (by kernel_rfl) rfl (fun K hK => ?_)
        go_simp
        refine (LT.out _).mono ?_
        rintro e W8 ⟨rfl, k8⟩
        have o8 : Old wx W8 := rd.trans k8
        clear k8 rd
        go_wp2_with fail
        refine hK.out _ _ (fun _ => o8) ?_
        clear hK K
        try simp only [Act.put, List.setIfInBounds_toArray, List.set_cons_zero, List.set_cons_succ]
        refine tkG (i := 13) (v := ?vt4y13) ?yt4y13 o8 ?rt4y13
        case yt4y13 => (intro W hSw; go_simp; try with_reducible rfl)
        try simp only [Act.put, List.setIfInBounds_toArray, List.set_cons_zero, List.set_cons_succ]
        refine wpAnyG_done (by kernel_rfl) ?_ _
        go_simp
        have Y8 := Lib.hid o8
        clear o8
        go_wp2_with fail
        go_meet
        case rel => exact ⟨_, _, rfl, rfl, fun _ => Q.out.2.2.2, _, Q.out.1, Q.out.2.1.old Y8.out, Q.out.2.2.1.trans (Y8.out.weaken (fun _ _ f => f.elim))⟩
       ·have hgd : decide ((i : Int) ≤ (j : Int)) = false := by simp; omega
        have hgd2 : decide (i ≤ j) = false := decide_eq_false hij
        have K8 := Lib.hid hs
        clear hs hij
        have rt : True := trivial
        refine wp_region_g (S := fun _ => True) (M := List.range 14) (by kernel_rfl) ?_
        refine tkG (i := 0) (v := ?vt4n0) ?yt4n0 rt ?rt4n0
        case yt4n0 => (intro W hSw; go_simp; try with_reducible rfl)
        try simp only [Act.put, List.setIfInBounds_toArray, List.set_cons_zero, List.set_cons_succ]
        refine tkG (i := 1) (v := ?vt4n1) ?yt4n1 rt ?rt4n1
        case yt4n1 => (intro W hSw; go_simp; try with_reducible rfl)
        try simp only [Act.put, List.setIfInBounds_toArray, List.set_cons_zero, List.set_cons_succ]
        refine tkG (i := 2) (v := ?vt4n2) ?yt4n2 rt ?rt4n2
        case yt4n2 => (intro W hSw; go_simp; try with_reducible rfl)
        try simp only [Act.put, List.setIfInBounds_toArray, List.set_cons_zero, List.set_cons_succ]
        refine tkG (i := 3) (v := ?vt4n3) ?yt4n3 rt ?rt4n3
        case yt4n3 => (intro W hSw; go_simp; try with_reducible rfl)
        try simp only [Act.put, List.setIfInBounds_toArray, List.set_cons_zero, List.set_cons_succ]
        refine tnG (i := 4) rt ?rt4n4
        try simp only [Act.put, List.setIfInBounds_toArray, List.set_cons_zero, List.set_cons_succ]
        refine tnG (i := 5) rt ?rt4n5
        try simp only [Act.put, List.setIfInBounds_toArray, List.set_cons_zero, List.set_cons_succ]
        refine tnG (i := 6) rt ?rt4n6
        try simp only [Act.put, List.setIfInBounds_toArray, List.set_cons_zero, List.set_cons_succ]
        refine tnG (i := 7) rt ?rt4n7
        try simp only [Act.put, List.setIfInBounds_toArray, List.set_cons_zero, List.set_cons_succ]
        refine tnG (i := 8) rt ?rt4n8
        try simp only [Act.put, List.setIfInBounds_toArray, List.set_cons_zero, List.set_cons_succ]
        refine tnG (i := 9) rt ?rt4n9
        try simp only [Act.put, List.setIfInBounds_toArray, List.set_cons_zero, List.set_cons_succ]
        refine tnG (i := 10) rt ?rt4n10
        try simp only [Act.put, List.setIfInBounds_toArray, List.set_cons_zero, List.set_cons_succ]
        refine tnG (i := 11) rt ?rt4n11
        try simp only [Act.put, List.setIfInBounds_toArray, List.set_cons_zero, List.set_cons_succ]
        refine tnG (i := 12) rt ?rt4n12
        try simp only [Act.put, List.setIfInBounds_toArray, List.set_cons_zero, List.set_cons_succ]
        refine tkG (i := 13) (v := ?vt4n13) ?yt4n13 rt ?rt4n13
        case yt4n13 => (intro W hSw; go_simp; try with_reducible rfl)
        try simp only [Act.put, List.setIfInBounds_toArray, List.set_cons_zero, List.set_cons_succ]
        refine wpAnyG_done (by kernel_rfl) ?_ _
        go_simp
        go_wp2_with fail
        go_meet
        case rel => exact ⟨_, _, rfl, rfl, fun e => (by cases e), K8.out.old ((Keeps.refl _ _).drew)⟩
      case rest =>
       obtain ⟨t, wy, rfl, rfl, hte, hs⟩ := hcut
       cases t
       ·obtain ⟨wx, hwx⟩ : ∃ wx : World, wx = wy := ⟨_, rfl⟩
        subst hwx
        clear hte
        by_cases hgt : j < i
        ·have hg1 : (i : Int) > (j : Int) := by omega
         have hg2 : decide ((i : Int) > (j : Int)) = true := decide_eq_true hg1
         have Z := Lib.hid hs
         clear hs
         go_wp2_with fail
         go_ret
         exact ⟨i, rfl, by omega, by omega, Z.out⟩
        ·have hg1 : ¬ (i : Int) > (j : Int) := by omega
         have hg2 : decide ((i : Int) > (j : Int)) = false := decide_eq_false hg1
         obtain ⟨M, hp, ho, hk⟩ := hs
         have hML : M.length = n := hp.length_eq.trans HL.out.symm
         have hpn : i < n := by omega
         have hqn : j < n := by omega
         obtain ⟨x, hx⟩ : ∃ x, M[i]? = some x := ⟨_, List.getElem?_eq_getElem (by omega)⟩
         obtain ⟨y, hy⟩ : ∃ y, M[j]? = some y := ⟨_, List.getElem?_eq_getElem (by omega)⟩
         obtain ⟨⟨fp1, fp2⟩, ⟨z, fq1, fq2⟩, hsw⟩ := swap_u64 hp ho hk hx hy
         have HP := Lib.hid (fun W (hW : Old wx W) => OwnsU.cell (ho.old hW) hx)
         have HQ := Lib.hid (fun W (hW : Old wx W) => OwnsU.cell (ho.old hW) hy)
         have Ss3 := Lib.hid (hsw.old ((Keeps.refl (fun _ => False) _).drew))
         clear hp ho hk hx hy hML hsw
         go_upto_region 8 with fail
         have rts3 : True := trivial
         refine wp_region_g (S := fun _ => True) (M := List.range 16) (by kernel_rfl) ?_
         refine tkG (i := 0) (v := ?vs30) ?ys30 rts3 ?rs30
         case ys30 => (intro W hSw; go_simp; try with_reducible rfl)
         try simp only [Act.put, List.setIfInBounds_toArray, List.set_cons_zero, List.set_cons_succ]
         refine tkG (i := 1) (v := ?vs31) ?ys31 rts3 ?rs31
         case ys31 => (intro W hSw; go_simp; try with_reducible rfl)
         try simp only [Act.put, List.setIfInBounds_toArray, List.set_cons_zero, List.set_cons_succ]
         refine tkG (i := 2) (v := ?vs32) ?ys32 rts3 ?rs32
         case ys32 => (intro W hSw; go_simp; try with_reducible rfl)
         try simp only [Act.put, List.setIfInBounds_toArray, List.set_cons_zero, List.set_cons_succ]
         refine tkG (i := 3) (v := ?vs33) ?ys33 rts3 ?rs33
         case ys33 => (intro W hSw; go_simp; try with_reducible rfl)
         try simp only [Act.put, List.setIfInBounds_toArray, List.set_cons_zero, List.set_cons_succ]
         refine tkG (i := 4) (v := ?vs34) ?ys34 rts3 ?rs34
         case ys34 => (intro W hSw; go_simp; try with_reducible rfl)
         try simp only [Act.put, List.setIfInBounds_toArray, List.set_cons_zero, List.set_cons_succ]
         refine tkG (i := 5) (v := ?vs35) ?ys35 rts3 ?rs35
         case ys35 => (intro W hSw; go_simp; try with_reducible rfl)
         try simp only [Act.put, List.setIfInBounds_toArray, List.set_cons_zero, List.set_cons_succ]
         refine tkG (i := 6) (v := ?vs36) ?ys36 rts3 ?rs36
         case ys36 => (intro W hSw; go_simp; try with_reducible rfl)
         try simp only [Act.put, List.setIfInBounds_toArray, List.set_cons_zero, List.set_cons_succ]
         refine tkG (i := 8) (v := ?vs38) ?ys38 rts3 ?rs38
         case ys38 => (intro W hSw; go_simp; try with_reducible rfl)
         try simp only [Act.put, List.setIfInBounds_toArray, List.set_cons_zero, List.set_cons_succ]
         refine tkG (i := 9) (v := ?vs39) ?ys39 rts3 ?rs39
         case ys39 => (intro W hSw; go_simp; try with_reducible rfl)
         try simp only [Act.put, List.setIfInBounds_toArray, List.set_cons_zero, List.set_cons_succ]
         refine tkG (i := 10) (v := ?vs310) ?ys310 rts3 ?rs310
         case ys310 => (intro W hSw; go_simp; try with_reducible rfl)
         try simp only [Act.put, List.setIfInBounds_toArray, List.set_cons_zero, List.set_cons_succ]
         refine wpAnyG_true (fun V => Old wx V) [0, 1, 2, 3, 4, 5, 6, 7, 8, 9, 10, 11, 12] _ _ _ _ ?_
         have r8s3 : Old wx wx.drew := (Keeps.refl _ _).drew
         refine tkG (i := 7) (v := ?vs37) ?ys37 r8s3 ?rs37
         case ys37 => (intro W hSw; have q1 := (HQ.out _ hSw).1; go_simp; try with_reducible rfl)
         try simp only [Act.put, List.setIfInBounds_toArray, List.set_cons_zero, List.set_cons_succ]
         refine tkG (i := 11) (v := ?vs311) ?ys311 r8s3 ?rs311
         case ys311 => (intro W hSw; have q1 := (HP.out _ hSw).1; go_simp; try with_reducible rfl)
         try simp only [Act.put, List.setIfInBounds_toArray, List.set_cons_zero, List.set_cons_succ]
         refine tkG (i := 12) (v := ?vs312) ?ys312 r8s3 ?rs312
         case ys312 => (intro W hSw; go_simp; try with_reducible rfl)
         try simp only [Act.put, List.setIfInBounds_toArray, List.set_cons_zero, List.set_cons_succ]
         refine wpAnyG_onlyL (i := 13) (o := _) (by kernel_rfl) rfl (fun K hK => ?_)
         go_simp
         refine hK.out _ _ (fun h => absurd h (by decide)) ?_
         clear hK K
         try simp only [Act.put, List.setIfInBounds_toArray, List.set_cons_zero, List.set_cons_succ]
         refine wpAnyG_onlyL (i := 14) (o := _) (by kernel_rfl) rfl (fun K hK => ?_)
         go_simp
         refine hK.out _ _ (fun h => absurd h (by decide)) ?_
         clear hK K
         try simp only [Act.put, List.setIfInBounds_toArray, List.set_cons_zero, List.set_cons_succ]
         refine wpAnyG_onlyL (i := 15) (o := _) (by kernel_rfl) rfl (fun K hK => ?_)
         go_simp
         refine hK.out _ _ (fun h => absurd h (by decide)) ?_
         clear hK K
         try simp only [Act.put, List.setIfInBounds_toArray, List.set_cons_zero, List.set_cons_succ]
         refine wpAnyG_done (by kernel_rfl) ?_ _
         go_simp
         clear fp1 fp2 fq1 fq2 HP HQ
         obtain ⟨j2, hj2⟩ : ∃ j2, j2 + 1 = j := ⟨j - 1, by omega⟩
         have wj2 : IntKind.i64.wrap ((j : Int) - 1) = (j2 : Int) := by rw [IntWalk.i64_in _ (by omega)]; omega
         go_wp2_with fail
         go_roundw
         case rel => exact ⟨i + 1, j2, by omega, by omega, by omega, by omega, by go_num, rfl, Ss3.out⟩
         case measure => simp [intOf]; omega
       ·have hij := hte rfl
        have Z := Lib.hid hs
        clear hs hte
        obtain ⟨j2, hj2⟩ : ∃ j2, j2 + 1 = j := ⟨j - 1, by omega⟩
        have wj2 : IntKind.i64.wrap ((j : Int) - 1) = (j2 : Int) := by rw [IntWalk.i64_in _ (by omega)]; omega
        go_wp2_with fail
        go_roundw
        case rel => exact ⟨j2, by omega, by omega, rfl, Z.out⟩
        case measure => simp [intOf]; omega
    ·have hij := hte rfl
     have Z := Lib.hid hs
     clear hs hte
     go_wp2_with fail
     go_roundw
     case rel => exact ⟨i + 1, by omega, by omega, by go_num, Z.out⟩
     case measure => simp [intOf]; omega
end
end Go.Proofs.YtehmlaplodjenaaGreat
