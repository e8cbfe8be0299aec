/- DERIVED. slices.SortFunc of at most twelve rows, at values and at constraints: a permutation. Written by gen_ins.py. -/
import Derived.Test.YtehmlaplodjenaaGreatZTopDual31
import Derived.Test.YtehmlaplodjenaaGreatYpTopDual05
import Derived.Deep.DeepCutAuto
import Derived.IntWalk
import Derived.BigQuiet
set_option maxRecDepth 100000
set_option maxHeartbeats 4000000
namespace Go.Proofs.YtehmlaplodjenaaGreat
section
open Go.RowKit
theorem OwnsR.loadRow {α : Type} {P : Program} {w : World} {B k : Nat} {E : TypeId} {enc : α → List Value} {L : List α} {g n cap : Nat} (hk : ∀ x, (enc x).length = k) (hpos : 0 < k) (h : OwnsR w B E k enc (.slice (some ⟨g, 0, none⟩) n cap) L) (i : Nat) (x : α) (hx : L[i]? = some x)
  (d : TypeDesc) (hu : P.underlying E = some d) (hd : d.isRow = true) (hi : (P.info? E).map (·.size) = some k) : (loadVar E ⟨g, i * k, none⟩).run P w = .ok (.agg (enc x).toArray) w := by
 have hlt : i < L.length := by
  rcases Nat.lt_or_ge i L.length with h | h
  ·exact h
  ·rw [List.getElem?_eq_none h] at hx; cases hx
 obtain ⟨b, o, c, e, _, _, hcell⟩ := (h.sees hk hpos).at (by omega)
 simp only [Value.slice.injEq, Option.some.injEq, Addr.mk.injEq, and_true] at e
 obtain ⟨⟨rfl, rfl⟩, _⟩ := e
 refine run_loadVar_mid w g (i * k) E (enc x) d (fun j v hv => ?_) hu hd (by rw [hi, hk])
 simpa using hcell i x hx j v hv
def SortW (α : Type) (w : World) (fv v : Value) (cells : α → List Value) (L : List α) : Prop :=
 ∃ g bd lb, fv = .func (.func g) bd lb ∧ (∀ args W, (callFunc g args).run Tryz.prog W = .ok (.enter g args) W) ∧ ∀ x ∈ L, ∀ y ∈ L, ∀ W, Keeps (fun k => v.ownBlock = some k) w W → Calls Tryz.prog g (bd ++ #[.agg (cells x).toArray, .agg (cells y).toArray] ++ lb) W fun e W' => (∃ z : Int, e = .returned (.int .i64 z)) ∧ Old W W'
attribute [-go_sem] loadVar storeVar
theorem Tryz.infoVal4 : (Tryz.prog.info? 61).map (·.size) = some 4 := by kernel_rfl
theorem Tryz.infoCon7 : (Tryz.prog.info? 78).map (·.size) = some 7 := by kernel_rfl
theorem len_valL (x : Val) : (valL x).length = 4 := rfl
theorem len_con (x : Con) : (Con.cells x).length = 7 := rfl
theorem ins_val (fv v : Value) (L : List Val) (B : Nat) (w : World) (h : OwnsR w B 61 4 valL v L) (h1 : ∀ x ∈ L, (valL x).toArray.all (·.oneCell') = true) (hl : L.length ≤ 1000000) (hf : SortW Val w fv v valL L) :
  Calls Tryz.prog 151 #[v, .int .i64 0, .int .i64 L.length, fv] w fun e w' => e = .returned (.tuple #[]) ∧ ∃ M, M.Perm L ∧ OwnsR w' B 61 4 valL v M ∧ Keeps (fun k => v.ownBlock = some k) w w' := by
 obtain ⟨gf, bd, lb, rfl, hent, hc⟩ := hf
 rcases h.2 with ⟨rfl, h0⟩ | ⟨g, cap, cur, rfl, hb, hgg, hn, hmc, _, _⟩
 ·have hL : L = [] := List.eq_nil_of_length_eq_zero h0
  subst hL
  have H := Lib.hid h
  clear h hent hc h1 hl
  go_enter Tryz.func151, Tryz.ntmps151
  go_wp2_with fail
  go_loopw [8] (fun v8 wr => v8 = .int .i64 1 ∧ Old w wr) (fun _ _ => 0)
  case atStart => exact ⟨rfl, Keeps.refl _ _⟩
  case round =>
   obtain ⟨rfl, hkw⟩ := hrel
   have K1 := Lib.hid hkw
   clear hkw
   go_wp2_with fail
   refine bodyPost_end (results_none rfl _ _ _) rfl ?_
   exact ⟨rfl, _, List.Perm.refl _, H.out.old K1.out, K1.out.weaken (fun _ _ f => f.elim)⟩
 ·have hg0 : g < w.heap.size := (Array.getElem?_eq_some_iff.1 hgg).1
  have HC := Lib.hid hc
  have HE := Lib.hid hent
  have H := Lib.hid (And.intro h (And.intro h1 hg0))
  have hn9 : L.length ≤ 9223372036854775807 := by omega
  clear h hc h1 hgg hb hent
  go_enter Tryz.func151, Tryz.ntmps151
  go_wp2_with fail
  go_loopw [8] (fun v8 wr => ∃ (i : Nat) (M : List Val), 1 ≤ i ∧ i ≤ L.length + 1 ∧ v8 = .int .i64 i ∧ M.Perm L ∧ OwnsR wr B 61 4 valL (.slice (some ⟨g, 0, none⟩) L.length cap) M ∧ Keeps (fun k => k = g) w wr) (fun v8 _ => L.length + 1 - (intOf v8).toNat)
  case atStart => exact ⟨1, L, Nat.le_refl _, by omega, rfl, List.Perm.refl _, H.out.1, Keeps.refl _ _⟩
  case round =>
   obtain ⟨i, M, hi1, hi2, rfl, hp, ho, hk⟩ := hrel
   by_cases hlt : i < L.length
   ·have R := Lib.hid (And.intro hp (And.intro ho hk))
    obtain ⟨wo, hwo⟩ : ∃ wo : World, wo = wr := ⟨_, rfl⟩
    subst hwo
    clear hp ho hk
    go_wp2_with fail
    go_loopw [9] (fun v9 wr => ∃ (j : Nat) (M : List Val), j < L.length ∧ v9 = .int .i64 j ∧ M.Perm L ∧ OwnsR wr B 61 4 valL (.slice (some ⟨g, 0, none⟩) L.length cap) M ∧ Keeps (fun k => k = g) w wr) (fun v9 _ => (intOf v9).toNat)
    case atStart => exact ⟨i, M, hlt, rfl, R.out⟩
    case round =>
     obtain ⟨wx, hwx⟩ : ∃ wx : World, wx = wr := ⟨_, rfl⟩
     subst hwx
     obtain ⟨j, M, hj, rfl, hp, ho, hk⟩ := hrel
     clear R
     have hML := hp.length_eq
     by_cases hj0 : 0 < j
     ·obtain ⟨j', hj'⟩ : ∃ j', j' + 1 = j := ⟨j - 1, by omega⟩
      have hx : M[j]? = some M[j] := List.getElem?_eq_getElem (by omega)
      have hy : M[j']? = some M[j'] := List.getElem?_eq_getElem (by omega)
      generalize M[j] = x at hx
      generalize M[j'] = y at hy
      have hxm : x ∈ L := hp.mem_iff.1 (List.mem_of_getElem? hx)
      have hym : y ∈ L := hp.mem_iff.1 (List.mem_of_getElem? hy)
      have N := fun W (hW : Old wx W) => HC.out x hxm y hym W ((hk.trans (hW.weaken (fun _ _ f => f.elim))).weaken (fun _ _ e => by subst e; rfl))
      have LX := fun W (hW : Old wx W) => (ho.old hW).loadRow (P := Tryz.prog) len_valL (by decide) j x hx _ Tryz.underlying61 rfl Tryz.infoVal4
      have LY := fun W (hW : Old wx W) => (ho.old hW).loadRow (P := Tryz.prog) len_valL (by decide) j' y hy _ Tryz.underlying61 rfl Tryz.infoVal4
      have hd : decide ((j : Int) > 0) = true := by simp; omega
      have wj : IntKind.i64.wrap ((j : Int) - 1) = (j' : Int) := by rw [IntWalk.i64_in _ (by omega)]; omega
      have hjl : j' < L.length := by omega
      simp only [Array.append_assoc] at N
      have HN := Lib.hid N
      have HLX := Lib.hid LX
      have HLY := Lib.hid LY
      have Q := Lib.hid (And.intro hp (And.intro ho (And.intro hk (And.intro hx (And.intro hy (And.intro hxm (And.intro hym (And.intro hj' hML))))))))
      have HE2 := HE.out
      clear N LX LY hp ho hk hx hy hxm hym hML hj'
      go_upto_region 4 with fail
      have rd : Old wx wx.drew := (Keeps.refl _ _).drew
      refine wp_region_g (S := fun V => Old wx V) (M := List.range 17) (by kernel_rfl) ?_
      refine tkG (i := 0) (v := ?vb0) ?yb0 rd ?rb0
      case yb0 => (intro W hSw; go_simp; try with_reducible rfl)
      try simp only [Act.put, List.setIfInBounds_toArray, List.set_cons_zero, List.set_cons_succ]
      refine tkG (i := 1) (v := ?vb1) ?yb1 rd ?rb1
      case yb1 => (intro W hSw; go_simp; try with_reducible rfl)
      try simp only [Act.put, List.setIfInBounds_toArray, List.set_cons_zero, List.set_cons_succ]
      refine tkG (i := 2) (v := ?vb2) ?yb2 rd ?rb2
      case yb2 => (intro W hSw; go_simp; try with_reducible rfl)
      try simp only [Act.put, List.setIfInBounds_toArray, List.set_cons_zero, List.set_cons_succ]
      refine tkG (i := 3) (v := ?vb3) ?yb3 rd ?rb3
      case yb3 => (intro W hSw; go_simp; try with_reducible rfl)
      try simp only [Act.put, List.setIfInBounds_toArray, List.set_cons_zero, List.set_cons_succ]
      refine tkG (i := 4) (v := ?vb4) ?yb4 rd ?rb4
      case yb4 => (intro W hSw; go_simp; try with_reducible rfl)
      try simp only [Act.put, List.setIfInBounds_toArray, List.set_cons_zero, List.set_cons_succ]
      refine tkG (i := 5) (v := ?vb5) ?yb5 rd ?rb5
      case yb5 => (intro W hSw; go_simp; try with_reducible rfl)
      try simp only [Act.put, List.setIfInBounds_toArray, List.set_cons_zero, List.set_cons_succ]
      refine tkG (i := 6) (v := ?vb6) ?yb6 rd ?rb6
      case yb6 => (intro W hSw; go_simp; try with_reducible rfl)
      try simp only [Act.put, List.setIfInBounds_toArray, List.set_cons_zero, List.set_cons_succ]
      refine tkG (i := 7) (v := ?vb7) ?yb7 rd ?rb7
      case yb7 => (intro W hSw; go_simp; try with_reducible rfl)
      try simp only [Act.put, List.setIfInBounds_toArray, List.set_cons_zero, List.set_cons_succ]
      refine tkG (i := 8) (v := ?vb8) ?yb8 rd ?rb8
      case yb8 => (intro W hSw; have q1 := HLX.out _ hSw; go_simp; try with_reducible rfl)
      try simp only [Act.put, List.setIfInBounds_toArray, List.set_cons_zero, List.set_cons_succ]
      refine tkG (i := 9) (v := ?vb9) ?yb9 rd ?rb9
      case yb9 => (intro W hSw; go_simp; try with_reducible rfl)
      try simp only [Act.put, List.setIfInBounds_toArray, List.set_cons_zero, List.set_cons_succ]
      refine tkG (i := 10) (v := ?vb10) ?yb10 rd ?rb10
      case yb10 => (intro W hSw; go_simp; try with_reducible rfl)
      try simp only [Act.put, List.setIfInBounds_toArray, List.set_cons_zero, List.set_cons_succ]
      refine tkG (i := 11) (v := ?vb11) ?yb11 rd ?rb11
      case yb11 => (intro W hSw; go_simp; try with_reducible rfl)
      try simp only [Act.put, List.setIfInBounds_toArray, List.set_cons_zero, List.set_cons_succ]
      refine tkG (i := 12) (v := ?vb12) ?yb12 rd ?rb12
      case yb12 => (intro W hSw; go_simp; try with_reducible rfl)
      try simp only [Act.put, List.setIfInBounds_toArray, List.set_cons_zero, List.set_cons_succ]
      refine tkG (i := 13) (v := ?vb13) ?yb13 rd ?rb13
      case yb13 => (intro W hSw; have q1 := HLY.out _ hSw; go_simp; try with_reducible rfl)
      try simp only [Act.put, List.setIfInBounds_toArray, List.set_cons_zero, List.set_cons_succ]
      refine wpAnyG_onlyL (i := 14) (o := _) (by kernel_rfl) rfl (fun K hK => ?_)
      go_simp
      refine (HN.out wx.drew rd).mono ?_
      rintro e W8 ⟨⟨z, rfl⟩, k8⟩
      have o8 : Old wx W8 := rd.trans k8
      clear k8 rd
      go_wp2_with fail
      refine hK.out _ _ (fun _ => o8) ?_
      clear hK K
      try simp only [Act.put, List.setIfInBounds_toArray, List.set_cons_zero, List.set_cons_succ]
      refine tkG (i := 15) (v := ?vb15) ?yb15 o8 ?rb15
      case yb15 => (intro W hSw; go_simp; try with_reducible rfl)
      try simp only [Act.put, List.setIfInBounds_toArray, List.set_cons_zero, List.set_cons_succ]
      refine tkG (i := 16) (v := ?vb16) ?yb16 o8 ?rb16
      case yb16 => (intro W hSw; go_simp; try with_reducible rfl)
      try simp only [Act.put, List.setIfInBounds_toArray, List.set_cons_zero, List.set_cons_succ]
      refine wpAnyG_done (by kernel_rfl) ?_ _
      go_simp
      have Y := Lib.hid o8
      clear o8
      cases hz : decide (z < 0)
      ·go_wp2_with fail
       go_roundw
       case rel => exact ⟨i + 1, M, by omega, by omega, by go_num, Q.out.1, Q.out.2.1.old Y.out, Q.out.2.2.1.trans (Y.out.weaken (fun _ _ f => f.elim))⟩
       case measure => simp [intOf]; omega
      ·go_upto_region 6 with fail
       have o8 : Old wx W8.drew := Y.out.trans (Keeps.refl _ _).drew
       obtain ⟨V8, hV8⟩ : ∃ V8, W8.drew = V8 := ⟨_, rfl⟩
       rw [hV8] at o8
       have lx := HLX.out V8 o8
       have ly := HLY.out V8 o8
       have s1 := (Q.out.2.1.old o8)
       have len1 := Q.out.2.2.2.2.2.2.2.2
       have xo := H.out.2.1 x Q.out.2.2.2.2.2.1
       have yo := H.out.2.1 y Q.out.2.2.2.2.2.2.1
       rw [← len1] at s1
       have st1 := s1.store (P := Tryz.prog) j (valL y).toArray (by rw [List.size_toArray, len_valL]) (by omega) Tryz.infoVal4 yo
       have s2 := s1.set len_valL j y (by omega)
       have k2 : Keeps (fun k => k = g) V8 (V8.setCells g (j * 4) (valL y)) := putAt_keeps _ _ V8 V8 (Keeps.refl _ _)
       obtain ⟨Wa, hWa⟩ : ∃ Wa, V8.setCells g (j * 4) (valL y) = Wa := ⟨_, rfl⟩
       rw [show (valL y).toArray.toList = valL y from rfl] at st1
       rw [hWa] at st1 s2 k2
       have len2 : (M.set j y).length = M.length := List.length_set
       rw [← len2] at s2
       have st2 := s2.store (P := Tryz.prog) j' (valL x).toArray (by rw [List.size_toArray, len_valL]) (by rw [len2]; have := Q.out.2.2.2.2.2.2.2.1; omega) Tryz.infoVal4 xo
       have s3 := s2.set len_valL j' x (by rw [len2]; have := Q.out.2.2.2.2.2.2.2.1; omega)
       have k3 : Keeps (fun k => k = g) Wa (Wa.setCells g (j' * 4) (valL x)) := putAt_keeps _ _ Wa Wa (Keeps.refl _ _)
       rw [show (valL x).toArray.toList = valL x from rfl] at st2
       obtain ⟨Wb, hWb⟩ : ∃ Wb, Wa.setCells g (j' * 4) (valL x) = Wb := ⟨_, rfl⟩
       rw [hWb] at st2 s3 k3
       rw [len2, len1] at s3
       have Z := Lib.hid (And.intro s3 (((Q.out.2.2.1.trans (o8.weaken (fun _ _ f => f.elim))).trans k2).trans k3))
       clear s1 s2 s3 k2 k3 len1 len2 xo yo hWb o8
       have rt : True := trivial
       refine wp_region_g (S := fun _ => True) (M := List.range 18) (by kernel_rfl) ?_
       refine tkG (i := 0) (v := ?vd0) ?yd0 rt ?rd0
       case yd0 => (intro W hSw; go_simp; try with_reducible rfl)
       try simp only [Act.put, List.setIfInBounds_toArray, List.set_cons_zero, List.set_cons_succ]
       refine tkG (i := 1) (v := ?vd1) ?yd1 rt ?rd1
       case yd1 => (intro W hSw; go_simp; try with_reducible rfl)
       try simp only [Act.put, List.setIfInBounds_toArray, List.set_cons_zero, List.set_cons_succ]
       refine tkG (i := 2) (v := ?vd2) ?yd2 rt ?rd2
       case yd2 => (intro W hSw; go_simp; try with_reducible rfl)
       try simp only [Act.put, List.setIfInBounds_toArray, List.set_cons_zero, List.set_cons_succ]
       refine tkG (i := 3) (v := ?vd3) ?yd3 rt ?rd3
       case yd3 => (intro W hSw; go_simp; try with_reducible rfl)
       try simp only [Act.put, List.setIfInBounds_toArray, List.set_cons_zero, List.set_cons_succ]
       refine tkG (i := 4) (v := ?vd4) ?yd4 rt ?rd4
       case yd4 => (intro W hSw; go_simp; try with_reducible rfl)
       try simp only [Act.put, List.setIfInBounds_toArray, List.set_cons_zero, List.set_cons_succ]
       refine tkG (i := 5) (v := ?vd5) ?yd5 rt ?rd5
       case yd5 => (intro W hSw; go_simp; try with_reducible rfl)
       try simp only [Act.put, List.setIfInBounds_toArray, List.set_cons_zero, List.set_cons_succ]
       refine tkG (i := 6) (v := ?vd6) ?yd6 rt ?rd6
       case yd6 => (intro W hSw; go_simp; try with_reducible rfl)
       try simp only [Act.put, List.setIfInBounds_toArray, List.set_cons_zero, List.set_cons_succ]
       refine tkG (i := 7) (v := ?vd7) ?yd7 rt ?rd7
       case yd7 => (intro W hSw; go_simp; try with_reducible rfl)
       try simp only [Act.put, List.setIfInBounds_toArray, List.set_cons_zero, List.set_cons_succ]
       refine tkG (i := 10) (v := ?vd10) ?yd10 rt ?rd10
       case yd10 => (intro W hSw; go_simp; try with_reducible rfl)
       try simp only [Act.put, List.setIfInBounds_toArray, List.set_cons_zero, List.set_cons_succ]
       refine tkG (i := 11) (v := ?vd11) ?yd11 rt ?rd11
       case yd11 => (intro W hSw; go_simp; try with_reducible rfl)
       try simp only [Act.put, List.setIfInBounds_toArray, List.set_cons_zero, List.set_cons_succ]
       refine tkG (i := 8) (v := ?vd8) ?yd8 rt ?rd8
       case yd8 => (intro W hSw; go_simp; try with_reducible rfl)
       try simp only [Act.put, List.setIfInBounds_toArray, List.set_cons_zero, List.set_cons_succ]
       refine tkG (i := 12) (v := ?vd12) ?yd12 rt ?rd12
       case yd12 => (intro W hSw; go_simp; try with_reducible rfl)
       try simp only [Act.put, List.setIfInBounds_toArray, List.set_cons_zero, List.set_cons_succ]
       refine wpAnyG_true (fun V => Old W8 V) [0, 1, 2, 3, 4, 5, 6, 7, 8, 9, 10, 11, 12, 13, 14] _ _ _ _ ?_
       have r8 : Old W8 W8.drew := (Keeps.refl _ _).drew
       refine tkG (i := 9) (v := ?vd9) ?yd9 r8 ?rd9
       case yd9 => (intro W hSw; have q1 := HLY.out _ (Y.out.trans hSw); go_simp; try with_reducible rfl)
       try simp only [Act.put, List.setIfInBounds_toArray, List.set_cons_zero, List.set_cons_succ]
       refine tkG (i := 13) (v := ?vd13) ?yd13 r8 ?rd13
       case yd13 => (intro W hSw; have q1 := HLX.out _ (Y.out.trans hSw); go_simp; try with_reducible rfl)
       try simp only [Act.put, List.setIfInBounds_toArray, List.set_cons_zero, List.set_cons_succ]
       refine tkG (i := 14) (v := ?vd14) ?yd14 r8 ?rd14
       case yd14 => (intro W hSw; go_simp; try with_reducible rfl)
       try simp only [Act.put, List.setIfInBounds_toArray, List.set_cons_zero, List.set_cons_succ]
       refine wpAnyG_onlyL (i := 15) (o := _) (by kernel_rfl) rfl (fun K hK => ?_)
       go_simp
       refine hK.out _ _ (fun h => absurd h (by decide)) ?_
       clear hK K
       try simp only [Act.put, List.setIfInBounds_toArray, List.set_cons_zero, List.set_cons_succ]
       refine wpAnyG_onlyL (i := 16) (o := _) (by kernel_rfl) rfl (fun K hK => ?_)
       go_simp
       refine hK.out _ _ (fun h => absurd h (by decide)) ?_
       clear hK K
       try simp only [Act.put, List.setIfInBounds_toArray, List.set_cons_zero, List.set_cons_succ]
       refine wpAnyG_onlyL (i := 17) (o := _) (by kernel_rfl) rfl (fun K hK => ?_)
       go_simp
       refine hK.out _ _ (fun h => absurd h (by decide)) ?_
       clear hK K
       try simp only [Act.put, List.setIfInBounds_toArray, List.set_cons_zero, List.set_cons_succ]
       refine wpAnyG_done (by kernel_rfl) ?_ _
       go_simp
       clear st1 st2
       go_wp2_with fail
       go_roundw
       case rel => exact ⟨j', (M.set j y).set j' x, by have := Q.out.2.2.2.2.2.2.2.1; omega, by have := Q.out.2.2.2.2.2.2.2.1; go_num, perm_swap Q.out.1 Q.out.2.2.2.1 Q.out.2.2.2.2.1, Z.out.1, Z.out.2⟩
       case measure => have := Q.out.2.2.2.2.2.2.2.1; simp [intOf]; omega
     ·have hjz : j = 0 := by omega
      subst hjz
      have hd : decide ((0 : Int) < 0) = false := by decide
      have K1 := Lib.hid (And.intro hp (And.intro ho hk))
      clear hp ho hk hML
      go_upto_region 4 with fail
      go_quiet (fail)
      go_wp2_with fail
      go_roundw
      case rel => exact ⟨i + 1, M, by omega, by omega, by go_num, K1.out.1, K1.out.2.1.old (keeps_drewN _ _ _), K1.out.2.2.trans (keeps_drewN _ _ _)⟩
      case measure => simp [intOf]; omega
   ·have K1 := Lib.hid (And.intro hp (And.intro ho hk))
    clear hp ho hk
    go_wp2_with fail
    refine bodyPost_end (results_none rfl _ _ _) rfl ?_
    exact ⟨rfl, M, K1.out.1, K1.out.2.1, K1.out.2.2.weaken (fun _ _ e => by subst e; rfl)⟩
theorem ins_con (fv v : Value) (L : List Con) (B : Nat) (w : World) (h : OwnsR w B 78 7 Con.cells v L) (h1 : ∀ x ∈ L, (Con.cells x).toArray.all (·.oneCell') = true) (hl : L.length ≤ 1000000) (hf : SortW Con w fv v Con.cells L) :
  Calls Tryz.prog 191 #[v, .int .i64 0, .int .i64 L.length, fv] w fun e w' => e = .returned (.tuple #[]) ∧ ∃ M, M.Perm L ∧ OwnsR w' B 78 7 Con.cells v M ∧ Keeps (fun k => v.ownBlock = some k) w w' := by
 obtain ⟨gf, bd, lb, rfl, hent, hc⟩ := hf
 rcases h.2 with ⟨rfl, h0⟩ | ⟨g, cap, cur, rfl, hb, hgg, hn, hmc, _, _⟩
 ·have hL : L = [] := List.eq_nil_of_length_eq_zero h0
  subst hL
  have H := Lib.hid h
  clear h hent hc h1 hl
  go_enter Tryz.func191, Tryz.ntmps191
  go_wp2_with fail
  go_loopw [8] (fun v8 wr => v8 = .int .i64 1 ∧ Old w wr) (fun _ _ => 0)
  case atStart => exact ⟨rfl, Keeps.refl _ _⟩
  case round =>
   obtain ⟨rfl, hkw⟩ := hrel
   have K1 := Lib.hid hkw
   clear hkw
   go_wp2_with fail
   refine bodyPost_end (results_none rfl _ _ _) rfl ?_
   exact ⟨rfl, _, List.Perm.refl _, H.out.old K1.out, K1.out.weaken (fun _ _ f => f.elim)⟩
 ·have hg0 : g < w.heap.size := (Array.getElem?_eq_some_iff.1 hgg).1
  have HC := Lib.hid hc
  have HE := Lib.hid hent
  have H := Lib.hid (And.intro h (And.intro h1 hg0))
  have hn9 : L.length ≤ 9223372036854775807 := by omega
  clear h hc h1 hgg hb hent
  go_enter Tryz.func191, Tryz.ntmps191
  go_wp2_with fail
  go_loopw [8] (fun v8 wr => ∃ (i : Nat) (M : List Con), 1 ≤ i ∧ i ≤ L.length + 1 ∧ v8 = .int .i64 i ∧ M.Perm L ∧ OwnsR wr B 78 7 Con.cells (.slice (some ⟨g, 0, none⟩) L.length cap) M ∧ Keeps (fun k => k = g) w wr) (fun v8 _ => L.length + 1 - (intOf v8).toNat)
  case atStart => exact ⟨1, L, Nat.le_refl _, by omega, rfl, List.Perm.refl _, H.out.1, Keeps.refl _ _⟩
  case round =>
   obtain ⟨i, M, hi1, hi2, rfl, hp, ho, hk⟩ := hrel
   by_cases hlt : i < L.length
   ·have R := Lib.hid (And.intro hp (And.intro ho hk))
    obtain ⟨wo, hwo⟩ : ∃ wo : World, wo = wr := ⟨_, rfl⟩
    subst hwo
    clear hp ho hk
    go_wp2_with fail
    go_loopw [9] (fun v9 wr => ∃ (j : Nat) (M : List Con), j < L.length ∧ v9 = .int .i64 j ∧ M.Perm L ∧ OwnsR wr B 78 7 Con.cells (.slice (some ⟨g, 0, none⟩) L.length cap) M ∧ Keeps (fun k => k = g) w wr) (fun v9 _ => (intOf v9).toNat)
    case atStart => exact ⟨i, M, hlt, rfl, R.out⟩
    case round =>
     obtain ⟨wx, hwx⟩ : ∃ wx : World, wx = wr := ⟨_, rfl⟩
     subst hwx
     obtain ⟨j, M, hj, rfl, hp, ho, hk⟩ := hrel
     clear R
     have hML := hp.length_eq
     by_cases hj0 : 0 < j
     ·obtain ⟨j', hj'⟩ : ∃ j', j' + 1 = j := ⟨j - 1, by omega⟩
      have hx : M[j]? = some M[j] := List.getElem?_eq_getElem (by omega)
      have hy : M[j']? = some M[j'] := List.getElem?_eq_getElem (by omega)
      generalize M[j] = x at hx
      generalize M[j'] = y at hy
      have hxm : x ∈ L := hp.mem_iff.1 (List.mem_of_getElem? hx)
      have hym : y ∈ L := hp.mem_iff.1 (List.mem_of_getElem? hy)
      have N := fun W (hW : Old wx W) => HC.out x hxm y hym W ((hk.trans (hW.weaken (fun _ _ f => f.elim))).weaken (fun _ _ e => by subst e; rfl))
      have LX := fun W (hW : Old wx W) => (ho.old hW).loadRow (P := Tryz.prog) len_con (by decide) j x hx _ Tryz.underlying78 rfl Tryz.infoCon7
      have LY := fun W (hW : Old wx W) => (ho.old hW).loadRow (P := Tryz.prog) len_con (by decide) j' y hy _ Tryz.underlying78 rfl Tryz.infoCon7
      have hd : decide ((j : Int) > 0) = true := by simp; omega
      have wj : IntKind.i64.wrap ((j : Int) - 1) = (j' : Int) := by rw [IntWalk.i64_in _ (by omega)]; omega
      have hjl : j' < L.length := by omega
      simp only [Array.append_assoc] at N
      have HN := Lib.hid N
      have HLX := Lib.hid LX
      have HLY := Lib.hid LY
      have Q := Lib.hid (And.intro hp (And.intro ho (And.intro hk (And.intro hx (And.intro hy (And.intro hxm (And.intro hym (And.intro hj' hML))))))))
      have HE2 := HE.out
      clear N LX LY hp ho hk hx hy hxm hym hML hj'
      go_upto_region 4 with fail
      have rd : Old wx wx.drew := (Keeps.refl _ _).drew
      refine wp_region_g (S := fun V => Old wx V) (M := List.range 17) (by kernel_rfl) ?_
      refine tkG (i := 0) (v := ?vb0) ?yb0 rd ?rb0
      case yb0 => (intro W hSw; go_simp; try with_reducible rfl)
      try simp only [Act.put, List.setIfInBounds_toArray, List.set_cons_zero, List.set_cons_succ]
      refine tkG (i := 1) (v := ?vb1) ?yb1 rd ?rb1
      case yb1 => (intro W hSw; go_simp; try with_reducible rfl)
      try simp only [Act.put, List.setIfInBounds_toArray, List.set_cons_zero, List.set_cons_succ]
      refine tkG (i := 2) (v := ?vb2) ?yb2 rd ?rb2
      case yb2 => (intro W hSw; go_simp; try with_reducible rfl)
      try simp only [Act.put, List.setIfInBounds_toArray, List.set_cons_zero, List.set_cons_succ]
      refine tkG (i := 3) (v := ?vb3) ?yb3 rd ?rb3
      case yb3 => (intro W hSw; go_simp; try with_reducible rfl)
      try simp only [Act.put, List.setIfInBounds_toArray, List.set_cons_zero, List.set_cons_succ]
      refine tkG (i := 4) (v := ?vb4) ?yb4 rd ?rb4
      case yb4 => (intro W hSw; go_simp; try with_reducible rfl)
      try simp only [Act.put, List.setIfInBounds_toArray, List.set_cons_zero, List.set_cons_succ]
      refine tkG (i := 5) (v := ?vb5) ?yb5 rd ?rb5
      case yb5 => (intro W hSw; go_simp; try with_reducible rfl)
      try simp only [Act.put, List.setIfInBounds_toArray, List.set_cons_zero, List.set_cons_succ]
      refine tkG (i := 6) (v := ?vb6) ?yb6 rd ?rb6
      case yb6 => (intro W hSw; go_simp; try with_reducible rfl)
      try simp only [Act.put, List.setIfInBounds_toArray, List.set_cons_zero, List.set_cons_succ]
      refine tkG (i := 7) (v := ?vb7) ?yb7 rd ?rb7
      case yb7 => (intro W hSw; go_simp; try with_reducible rfl)
      try simp only [Act.put, List.setIfInBounds_toArray, List.set_cons_zero, List.set_cons_succ]
      refine tkG (i := 8) (v := ?vb8) ?yb8 rd ?rb8
      case yb8 => (intro W hSw; have q1 := HLX.out _ hSw; go_simp; try with_reducible rfl)
      try simp only [Act.put, List.setIfInBounds_toArray, List.set_cons_zero, List.set_cons_succ]
      refine tkG (i := 9) (v := ?vb9) ?yb9 rd ?rb9
      case yb9 => (intro W hSw; go_simp; try with_reducible rfl)
      try simp only [Act.put, List.setIfInBounds_toArray, List.set_cons_zero, List.set_cons_succ]
      refine tkG (i := 10) (v := ?vb10) ?yb10 rd ?rb10
      case yb10 => (intro W hSw; go_simp; try with_reducible rfl)
      try simp only [Act.put, List.setIfInBounds_toArray, List.set_cons_zero, List.set_cons_succ]
      refine tkG (i := 11) (v := ?vb11) ?yb11 rd ?rb11
      case yb11 => (intro W hSw; go_simp; try with_reducible rfl)
      try simp only [Act.put, List.setIfInBounds_toArray, List.set_cons_zero, List.set_cons_succ]
      refine tkG (i := 12) (v := ?vb12) ?yb12 rd ?rb12
      case yb12 => (intro W hSw; go_simp; try with_reducible rfl)
      try simp only [Act.put, List.setIfInBounds_toArray, List.set_cons_zero, List.set_cons_succ]
      refine tkG (i := 13) (v := ?vb13) ?yb13 rd ?rb13
      case yb13 => (intro W hSw; have q1 := HLY.out _ hSw; go_simp; try with_reducible rfl)
      try simp only [Act.put, List.setIfInBounds_toArray, List.set_cons_zero, List.set_cons_succ]
      refine wpAnyG_onlyL (i := 14) (o := _) (by kernel_rfl) rfl (fun K hK => ?_)
      go_simp
      refine (HN.out wx.drew rd).mono ?_
      rintro e W8 ⟨⟨z, rfl⟩, k8⟩
      have o8 : Old wx W8 := rd.trans k8
      clear k8 rd
      go_wp2_with fail
      refine hK.out _ _ (fun _ => o8) ?_
      clear hK K
      try simp only [Act.put, List.setIfInBounds_toArray, List.set_cons_zero, List.set_cons_succ]
      refine tkG (i := 15) (v := ?vb15) ?yb15 o8 ?rb15
      case yb15 => (intro W hSw; go_simp; try with_reducible rfl)
      try simp only [Act.put, List.setIfInBounds_toArray, List.set_cons_zero, List.set_cons_succ]
      refine tkG (i := 16) (v := ?vb16) ?yb16 o8 ?rb16
      case yb16 => (intro W hSw; go_simp; try with_reducible rfl)
      try simp only [Act.put, List.setIfInBounds_toArray, List.set_cons_zero, List.set_cons_succ]
      refine wpAnyG_done (by kernel_rfl) ?_ _
      go_simp
      have Y := Lib.hid o8
      clear o8
      cases hz : decide (z < 0)
      ·go_wp2_with fail
       go_roundw
       case rel => exact ⟨i + 1, M, by omega, by omega, by go_num, Q.out.1, Q.out.2.1.old Y.out, Q.out.2.2.1.trans (Y.out.weaken (fun _ _ f => f.elim))⟩
       case measure => simp [intOf]; omega
      ·go_upto_region 6 with fail
       have o8 : Old wx W8.drew := Y.out.trans (Keeps.refl _ _).drew
       obtain ⟨V8, hV8⟩ : ∃ V8, W8.drew = V8 := ⟨_, rfl⟩
       rw [hV8] at o8
       have lx := HLX.out V8 o8
       have ly := HLY.out V8 o8
       have s1 := (Q.out.2.1.old o8)
       have len1 := Q.out.2.2.2.2.2.2.2.2
       have xo := H.out.2.1 x Q.out.2.2.2.2.2.1
       have yo := H.out.2.1 y Q.out.2.2.2.2.2.2.1
       rw [← len1] at s1
       have st1 := s1.store (P := Tryz.prog) j (Con.cells y).toArray (by rw [List.size_toArray, len_con]) (by omega) Tryz.infoCon7 yo
       have s2 := s1.set len_con j y (by omega)
       have k2 : Keeps (fun k => k = g) V8 (V8.setCells g (j * 7) (Con.cells y)) := putAt_keeps _ _ V8 V8 (Keeps.refl _ _)
       obtain ⟨Wa, hWa⟩ : ∃ Wa, V8.setCells g (j * 7) (Con.cells y) = Wa := ⟨_, rfl⟩
       rw [show (Con.cells y).toArray.toList = Con.cells y from rfl] at st1
       rw [hWa] at st1 s2 k2
       have len2 : (M.set j y).length = M.length := List.length_set
       rw [← len2] at s2
       have st2 := s2.store (P := Tryz.prog) j' (Con.cells x).toArray (by rw [List.size_toArray, len_con]) (by rw [len2]; have := Q.out.2.2.2.2.2.2.2.1; omega) Tryz.infoCon7 xo
       have s3 := s2.set len_con j' x (by rw [len2]; have := Q.out.2.2.2.2.2.2.2.1; omega)
       have k3 : Keeps (fun k => k = g) Wa (Wa.setCells g (j' * 7) (Con.cells x)) := putAt_keeps _ _ Wa Wa (Keeps.refl _ _)
       rw [show (Con.cells x).toArray.toList = Con.cells x from rfl] at st2
       obtain ⟨Wb, hWb⟩ : ∃ Wb, Wa.setCells g (j' * 7) (Con.cells x) = Wb := ⟨_, rfl⟩
       rw [hWb] at st2 s3 k3
       rw [len2, len1] at s3
       have Z := Lib.hid (And.intro s3 (((Q.out.2.2.1.trans (o8.weaken (fun _ _ f => f.elim))).trans k2).trans k3))
       clear s1 s2 s3 k2 k3 len1 len2 xo yo hWb o8
       have rt : True := trivial
       refine wp_region_g (S := fun _ => True) (M := List.range 18) (by kernel_rfl) ?_
       refine tkG (i := 0) (v := ?vd0) ?yd0 rt ?rd0
       case yd0 => (intro W hSw; go_simp; try with_reducible rfl)
       try simp only [Act.put, List.setIfInBounds_toArray, List.set_cons_zero, List.set_cons_succ]
       refine tkG (i := 1) (v := ?vd1) ?yd1 rt ?rd1
       case yd1 => (intro W hSw; go_simp; try with_reducible rfl)
       try simp only [Act.put, List.setIfInBounds_toArray, List.set_cons_zero, List.set_cons_succ]
       refine tkG (i := 2) (v := ?vd2) ?yd2 rt ?rd2
       case yd2 => (intro W hSw; go_simp; try with_reducible rfl)
       try simp only [Act.put, List.setIfInBounds_toArray, List.set_cons_zero, List.set_cons_succ]
       refine tkG (i := 3) (v := ?vd3) ?yd3 rt ?rd3
       case yd3 => (intro W hSw; go_simp; try with_reducible rfl)
       try simp only [Act.put, List.setIfInBounds_toArray, List.set_cons_zero, List.set_cons_succ]
       refine tkG (i := 4) (v := ?vd4) ?yd4 rt ?rd4
       case yd4 => (intro W hSw; go_simp; try with_reducible rfl)
       try simp only [Act.put, List.setIfInBounds_toArray, List.set_cons_zero, List.set_cons_succ]
       refine tkG (i := 5) (v := ?vd5) ?yd5 rt ?rd5
       case yd5 => (intro W hSw; go_simp; try with_reducible rfl)
       try simp only [Act.put, List.setIfInBounds_toArray, List.set_cons_zero, List.set_cons_succ]
       refine tkG (i := 6) (v := ?vd6) ?yd6 rt ?rd6
       case yd6 => (intro W hSw; go_simp; try with_reducible rfl)
       try simp only [Act.put, List.setIfInBounds_toArray, List.set_cons_zero, List.set_cons_succ]
       refine tkG (i := 7) (v := ?vd7) ?yd7 rt ?rd7
       case yd7 => (intro W hSw; go_simp; try with_reducible rfl)
       try simp only [Act.put, List.setIfInBounds_toArray, List.set_cons_zero, List.set_cons_succ]
       refine tkG (i := 10) (v := ?vd10) ?yd10 rt ?rd10
       case yd10 => (intro W hSw; go_simp; try with_reducible rfl)
       try simp only [Act.put, List.setIfInBounds_toArray, List.set_cons_zero, List.set_cons_succ]
       refine tkG (i := 11) (v := ?vd11) ?yd11 rt ?rd11
       case yd11 => (intro W hSw; go_simp; try with_reducible rfl)
       try simp only [Act.put, List.setIfInBounds_toArray, List.set_cons_zero, List.set_cons_succ]
       refine tkG (i := 8) (v := ?vd8) ?yd8 rt ?rd8
       case yd8 => (intro W hSw; go_simp; try with_reducible rfl)
       try simp only [Act.put, List.setIfInBounds_toArray, List.set_cons_zero, List.set_cons_succ]
       refine tkG (i := 12) (v := ?vd12) ?yd12 rt ?rd12
       case yd12 => (intro W hSw; go_simp; try with_reducible rfl)
       try simp only [Act.put, List.setIfInBounds_toArray, List.set_cons_zero, List.set_cons_succ]
       refine wpAnyG_true (fun V => Old W8 V) [0, 1, 2, 3, 4, 5, 6, 7, 8, 9, 10, 11, 12, 13, 14] _ _ _ _ ?_
       have r8 : Old W8 W8.drew := (Keeps.refl _ _).drew
       refine tkG (i := 9) (v := ?vd9) ?yd9 r8 ?rd9
       case yd9 => (intro W hSw; have q1 := HLY.out _ (Y.out.trans hSw); go_simp; try with_reducible rfl)
       try simp only [Act.put, List.setIfInBounds_toArray, List.set_cons_zero, List.set_cons_succ]
       refine tkG (i := 13) (v := ?vd13) ?yd13 r8 ?rd13
       case yd13 => (intro W hSw; have q1 := HLX.out _ (Y.out.trans hSw); go_simp; try with_reducible rfl)
       try simp only [Act.put, List.setIfInBounds_toArray, List.set_cons_zero, List.set_cons_succ]
       refine tkG (i := 14) (v := ?vd14) ?yd14 r8 ?rd14
       case yd14 => (intro W hSw; go_simp; try with_reducible rfl)
       try simp only [Act.put, List.setIfInBounds_toArray, List.set_cons_zero, List.set_cons_succ]
       refine wpAnyG_onlyL (i := 15) (o := _) (by kernel_rfl) rfl (fun K hK => ?_)
       go_simp
       refine hK.out _ _ (fun h => absurd h (by decide)) ?_
       clear hK K
       try simp only [Act.put, List.setIfInBounds_toArray, List.set_cons_zero, List.set_cons_succ]
       refine wpAnyG_onlyL (i := 16) (o := _) (by kernel_rfl) rfl (fun K hK => ?_)
       go_simp
       refine hK.out _ _ (fun h => absurd h (by decide)) ?_
       clear hK K
       try simp only [Act.put, List.setIfInBounds_toArray, List.set_cons_zero, List.set_cons_succ]
       refine wpAnyG_onlyL (i := 17) (o := _) (by kernel_rfl) rfl (fun K hK => ?_)
       go_simp
       refine hK.out _ _ (fun h => absurd h (by decide)) ?_
       clear hK K
       try simp only [Act.put, List.setIfInBounds_toArray, List.set_cons_zero, List.set_cons_succ]
       refine wpAnyG_done (by kernel_rfl) ?_ _
       go_simp
       clear st1 st2
       go_wp2_with fail
       go_roundw
       case rel => exact ⟨j', (M.set j y).set j' x, by have := Q.out.2.2.2.2.2.2.2.1; omega, by have := Q.out.2.2.2.2.2.2.2.1; go_num, perm_swap Q.out.1 Q.out.2.2.2.1 Q.out.2.2.2.2.1, Z.out.1, Z.out.2⟩
       case measure => have := Q.out.2.2.2.2.2.2.2.1; simp [intOf]; omega
     ·have hjz : j = 0 := by omega
      subst hjz
      have hd : decide ((0 : Int) < 0) = false := by decide
      have K1 := Lib.hid (And.intro hp (And.intro ho hk))
      clear hp ho hk hML
      go_upto_region 4 with fail
      go_quiet (fail)
      go_wp2_with fail
      go_roundw
      case rel => exact ⟨i + 1, M, by omega, by omega, by go_num, K1.out.1, K1.out.2.1.old (keeps_drewN _ _ _), K1.out.2.2.trans (keeps_drewN _ _ _)⟩
      case measure => simp [intOf]; omega
   ·have K1 := Lib.hid (And.intro hp (And.intro ho hk))
    clear hp ho hk
    go_wp2_with fail
    refine bodyPost_end (results_none rfl _ _ _) rfl ?_
    exact ⟨rfl, M, K1.out.1, K1.out.2.1, K1.out.2.2.weaken (fun _ _ e => by subst e; rfl)⟩
end
end Go.Proofs.YtehmlaplodjenaaGreat
