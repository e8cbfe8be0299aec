/- DERIVED. Chapter 25: slices.Clone of rows; slices.Delete of the first query. (gen_qc.py wrote it) · DERIVED. Chapter 25: the queue's state; New, Len, Drop, Forget, Copy. · DERIVED. Chapter 25: gone, Drop, Forget, Copy of a queue. -/
import Derived.Test.YtiednihagnehlaaY21
import Derived.Deep.RegionLaw
namespace Go.Proofs.Ytiednihagnehlaa
open Go.RowKit

theorem Try.infoQw : (Try.prog.info? 87).map (fun i => (i.zero, i.size, i.bytes)) = some (some (.agg zeroQ.cells.toArray), 19, 224) := by kernel_rfl
theorem eql_nil_any (T E : TypeId) (h : Try.prog.underlying T = some (.slice E)) (w : World) (a : Option Addr) (n c : Nat) : (binOp .eql T (.slice a n c) (.slice none 0 0)).run Try.prog w = .ok (.bool a.isNone) w :=
 Lib.run_eql_slice_nil w _ _ a n c 0 0 h
theorem own_new (w : World) {k n c : Nat} (hk : (Value.slice (some ⟨w.heap.size, 0, none⟩) n c).ownBlock = some k) (hlt : k < w.heap.size) : False := by
 have e : w.heap.size = k := by simpa [Value.ownBlock] using hk
 omega
theorem OwnsR.lit0 {α : Type} {E : TypeId} {k : Nat} {enc : α → List Value} (w : World) : OwnsR (w.alloc (.cells #[] E)) w.heap.size E k enc (.slice (some ⟨w.heap.size, 0, none⟩) 0 0) [] :=
 World.ownsRow_lit (base := w.heap.size) (e := E) (size := k) w #[] 0 (Nat.le_refl _) (Nat.zero_le _) (by simp)


theorem clone_q (v : Value) (l : List Qy) (w : World) (h : SeesR w 19 Qy.cells v l) (h1 : ∀ x ∈ l, ∀ c ∈ Qy.cells x, c.oneCell' = true) (hl : l.length ≤ 100000) :
  Calls Try.prog 36 #[v] w fun e w' => ∃ p n c, e = .returned (.slice p n c) ∧ OwnsR w' w.heap.size 87 19 Qy.cells (.slice p n c) l ∧ Old w w' := by
 obtain ⟨p, c, rfl, g1, g2, g3, g4⟩ := id h
 have hnil := eql_nil_any 80 87 Try.underlying80
 cases p with
 | none =>
  obtain rfl := g3 rfl
  obtain rfl : l = [] := List.eq_nil_of_length_eq_zero (by omega)
  clear g3 g4 h
  go_enter Try.func36, Try.ntmps36
  go_wp2_with fail
  go_ret
  exact ⟨_, _, _, rfl, OwnsR.nil _ _, Keeps.refl _ _⟩
 | some ad =>
  clear g3 g4
  have hlen : ∀ x : Qy, (Qy.cells x).length = 19 := fun _ => rfl
  have HX := Lib.hid (And.intro (h.alloc (.cells #[] 87)) h1)
  clear h1 h
  go_enter Try.func36, Try.ntmps36
  go_wp2_with (at_builtin; refine wpList_append_rows rfl _ _ 80 rfl w.heap.size 87 19 224 Qy.cells _ Try.underlying80 Try.infoQw rfl (by decide) _ [] rfl (OwnsR.lit0 w) _ l rfl HX.out.1 (fun x _ => hlen x) HX.out.2 (by unfold maxLen; simp; omega) (by simp; omega) (by simp) ?_; intro v' w1 ho hg hb)
  obtain ⟨p', c', hv', _⟩ := (ho.sees hlen (by decide)).len
  subst hv'
  have hk := ((Keeps.refl (fun _ => False) w).alloc (.cells #[] 87)).grown hg (fun k hk hlt => own_new w hk hlt)
  have H := Lib.hid (And.intro ho hk)
  clear ho hk hg hb
  go_ret
  exact ⟨_, _, _, rfl, by simpa using H.out.1, H.out.2⟩


theorem clone_p (v : Value) (l : List Con) (w : World) (h : SeesR w 7 Con.cells v l) (h1 : ∀ x ∈ l, ∀ c ∈ Con.cells x, c.oneCell' = true) (hl : l.length ≤ 100000) :
  Calls Try.prog 30 #[v] w fun e w' => ∃ p n c, e = .returned (.slice p n c) ∧ OwnsR w' w.heap.size 69 7 Con.cells (.slice p n c) l ∧ Old w w' := by
 obtain ⟨p, c, rfl, g1, g2, g3, g4⟩ := id h
 have hnil := eql_nil_any 30 69 Try.underlying30
 cases p with
 | none =>
  obtain rfl := g3 rfl
  obtain rfl : l = [] := List.eq_nil_of_length_eq_zero (by omega)
  clear g3 g4 h
  go_enter Try.func30, Try.ntmps30
  go_wp2_with fail
  go_ret
  exact ⟨_, _, _, rfl, OwnsR.nil _ _, Keeps.refl _ _⟩
 | some ad =>
  clear g3 g4
  have hlen : ∀ x : Con, (Con.cells x).length = 7 := fun _ => rfl
  have HX := Lib.hid (And.intro (h.alloc (.cells #[] 69)) h1)
  clear h1 h
  go_enter Try.func30, Try.ntmps30
  go_wp2_with (at_builtin; refine wpList_append_rows rfl _ _ 30 rfl w.heap.size 69 7 88 Con.cells _ Try.underlying30 Try.infoCon rfl (by decide) _ [] rfl (OwnsR.lit0 w) _ l rfl HX.out.1 (fun x _ => hlen x) HX.out.2 (by unfold maxLen; simp; omega) (by simp; omega) (by simp) ?_; intro v' w1 ho hg hb)
  obtain ⟨p', c', hv', _⟩ := (ho.sees hlen (by decide)).len
  subst hv'
  have hk := ((Keeps.refl (fun _ => False) w).alloc (.cells #[] 69)).grown hg (fun k hk hlt => own_new w hk hlt)
  have H := Lib.hid (And.intro ho hk)
  clear ho hk hg hb
  go_ret
  exact ⟨_, _, _, rfl, by simpa using H.out.1, H.out.2⟩


theorem clone_s (v : Value) (l : List Val) (w : World) (h : SeesR w 4 valL v l) (h1 : ∀ x ∈ l, ∀ c ∈ valL x, c.oneCell' = true) (hl : l.length ≤ 100000) :
  Calls Try.prog 31 #[v] w fun e w' => ∃ p n c, e = .returned (.slice p n c) ∧ OwnsR w' w.heap.size 66 4 valL (.slice p n c) l ∧ Old w w' := by
 obtain ⟨p, c, rfl, g1, g2, g3, g4⟩ := id h
 have hnil := eql_nil_any 67 66 Try.underlying67
 cases p with
 | none =>
  obtain rfl := g3 rfl
  obtain rfl : l = [] := List.eq_nil_of_length_eq_zero (by omega)
  clear g3 g4 h
  go_enter Try.func31, Try.ntmps31
  go_wp2_with fail
  go_ret
  exact ⟨_, _, _, rfl, OwnsR.nil _ _, Keeps.refl _ _⟩
 | some ad =>
  clear g3 g4
  have hlen : ∀ x : Val, (valL x).length = 4 := fun _ => rfl
  have HX := Lib.hid (And.intro (h.alloc (.cells #[] 66)) h1)
  clear h1 h
  go_enter Try.func31, Try.ntmps31
  go_wp2_with (at_builtin; refine wpList_append_rows rfl _ _ 67 rfl w.heap.size 66 4 40 valL _ Try.underlying67 Try.infoVal rfl (by decide) _ [] rfl (OwnsR.lit0 w) _ l rfl HX.out.1 (fun x _ => hlen x) HX.out.2 (by unfold maxLen; simp; omega) (by simp; omega) (by simp) ?_; intro v' w1 ho hg hb)
  obtain ⟨p', c', hv', _⟩ := (ho.sees hlen (by decide)).len
  subst hv'
  have hk := ((Keeps.refl (fun _ => False) w).alloc (.cells #[] 66)).grown hg (fun k hk hlt => own_new w hk hlt)
  have H := Lib.hid (And.intro ho hk)
  clear ho hk hg hb
  go_ret
  exact ⟨_, _, _, rfl, by simpa using H.out.1, H.out.2⟩


attribute [-go_sem] loadVar storeVar
set_option maxRecDepth 100000 in
theorem delete0_q (v : Value) (x : Qy) (L : List Qy) (B : Nat) (w : World) (h : OwnsQ w B v (x :: L)) (hone : ∀ y ∈ L, ∀ c ∈ y.cells, c.oneCell' = true) :
  Calls Try.prog 37 #[v, .int .i64 0, .int .i64 1] w fun e w' => ∃ p n c, e = .returned (.slice p n c) ∧ OwnsQ w' B (.slice p n c) L ∧ (Value.slice p n c).ownBlock = v.ownBlock ∧ Keeps (fun k => v.ownBlock = some k) w w' := by
 obtain ⟨g0, cap0, cur, rfl, hb, hgg, hn, hmc, _, _⟩ := h.row (by
   rcases h.2 with ⟨_, h0⟩ | ⟨g, cap, cur, rfl, _⟩
   ·simp at h0
   ·simp [Value.ownBlock])
 have hg0 : g0 < w.heap.size := (Array.getElem?_eq_some_iff.1 hgg).1
 have hm : L.length + 1 ≤ 9223372036854775807 := by unfold maxLen at hmc; simp at hn; omega
 obtain ⟨n, hnn⟩ : ∃ n, (x :: L).length = n := ⟨_, rfl⟩
 have hL : L.length = n - 1 ∧ 1 ≤ n := by rw [← hnn]; simp
 rw [hnn] at h hn ⊢
 have hs0 : ∀ W : World, (Instr.slice 80 (.slice (some ⟨g0, 0, none⟩) n cap0) none (some (.int .i64 0)) none).run Try.prog W = .ok (.slice (some ⟨g0, 0, none⟩) 0 cap0) W := by
  intro W
  simp [go_sem, Go.sliced]
 obtain ⟨ad, c1, hs1, hcell⟩ : ∃ ad c1, (∀ W : World, (Instr.slice 80 (.slice (some ⟨g0, 0, none⟩) n cap0) (some (.int .i64 1)) none none).run Try.prog W = .ok (.slice (some ad) (n - 1) c1) W) ∧ ∀ W j u, OwnsQ W B (.slice (some ⟨g0, 0, none⟩) n cap0) (x :: L) → (L.flatMap Qy.cells)[j]? = some u → W.cell? (ad.add j) = some u := by
  have hcells : ∀ (W : World) (o : Nat), OwnsQ W B (.slice (some ⟨g0, 0, none⟩) n cap0) (x :: L) → ∀ j u, (L.flatMap Qy.cells)[j]? = some u → W.cell? ⟨g0, 19 + j, none⟩ = some u := by
   intro W _ ho j u hu
   rw [← hnn] at ho
   obtain ⟨g, cap, cu, e, _, hg, hn', _, hs, ht⟩ := ho.row (by simp [Value.ownBlock])
   simp only [Value.slice.injEq, Option.some.injEq, Addr.mk.injEq, and_true, true_and] at e
   obtain ⟨rfl, rfl⟩ := e
   have hj : (cu.toList.take ((x :: L).length * 19))[19 + j]? = some u := by
    rw [ht, List.flatMap_cons, List.getElem?_append_right (by rw [Qy.len]; omega), Qy.len, show 19 + j - 19 = j by omega]
    exact hu
   rw [List.getElem?_take] at hj
   split at hj
   ·simpa [World.cell?, hg] using hj
   ·cases hj
  by_cases hc1 : cap0 = 1
  ·have hn1 : n = 1 := by omega
   have hL0 : L = [] := List.eq_nil_of_length_eq_zero (by omega)
   refine ⟨⟨g0, 0, none⟩, 0, fun W => ?_, fun W j u ho hu => ?_⟩
   ·subst hc1
    subst hn1
    simp [go_sem, Go.sliced]
   ·rw [hL0] at hu
    simp at hu
  ·refine ⟨⟨g0, 19, none⟩, cap0 - 1, fun W => ?_, fun W j u ho hu => ?_⟩
   ·have h1 : (1 : Int) ≤ (n : Int) := by omega
    simp [go_sem, Go.sliced, h1, hc1]
   ·have := hcells W 0 ho j u hu
    rwa [show (⟨g0, 19, none⟩ : Addr).add j = ⟨g0, 19 + j, none⟩ from by unfold Addr.add; split <;> simp_all]
 have hs2 : ∀ W : World, (Instr.slice 80 (.slice (some ⟨g0, 0, none⟩) n cap0) (some (.int .i64 0)) (some (.int .i64 1)) (some (.int .i64 (n : Int)))).run Try.prog W = .ok (.slice (some ⟨g0, 0, none⟩) 1 n) W := by
  intro W
  have h1 : (1 : Int) ≤ (n : Int) := by omega
  have h2 : (n : Int) ≤ (cap0 : Int) := by omega
  simp [go_sem, Go.sliced, h1, h2]
 have H := Lib.hid (And.intro h (And.intro hone (And.intro hg0 hcell)))
 clear h hone hg0 hcell hgg
 go_enter Try.func37, Try.ntmps37
 go_wp2_with fail
 have h0 : OwnsQ w.drew B (.slice (some ⟨g0, 0, none⟩) (x :: L).length cap0) (x :: L) := by rw [hnn]; exact H.out.1
 have hfl : (L.flatMap Qy.cells).length = (n - 1) * 19 := by rw [flat_len (fun y _ => Qy.len y), hL.1]
 have hth : ∀ j, j < (L.flatMap Qy.cells).length → (w.drew.cell? ⟨g0, 0 + 0 * 19 + j, none⟩).isSome = true ∧ w.drew.frozen? ⟨g0, 0 + 0 * 19 + j, none⟩ = false := by
  intro j hj
  have := h0.there 0 (L.length * 19) (by simp; omega) j (by omega)
  simpa using this
 have hone' : ∀ u ∈ L.flatMap Qy.cells, u.oneCell' = true := by
  intro u hu
  obtain ⟨y, hy, hu⟩ := List.mem_flatMap.1 hu
  exact H.out.2.1 y hy u hu
 have hcc : ∀ j u, (L.flatMap Qy.cells)[j]? = some u → w.drew.cell? (ad.add j) = some u := fun j u hu => H.out.2.2.2 w.drew j u H.out.1 hu
 obtain ⟨i0, hi, hz0, hz1, hz2⟩ := info_parts Try.infoQw
 have hs3 : ∀ W : World, (Instr.slice 80 (.slice (some ⟨g0, 0, none⟩) (n - 1) cap0) (some (.int .i64 ((n - 1 : Nat) : Int))) (some (.int .i64 (n : Int))) none).run Try.prog W = .ok (.slice (some ⟨g0, (n - 1) * 19, none⟩) (n - (n - 1)) (cap0 - (n - 1))) W := by
  intro W
  have h1 : ((n - 1 : Nat) : Int) ≤ (n : Int) := by omega
  have h2 : (n : Int) ≤ (cap0 : Int) := by omega
  have h3 : ¬ cap0 = n - 1 := by omega
  simp [go_sem, Go.sliced, h1, h2, h3]
 have hput := h0.put Qy.len 0 L (by simp)
 have hlist : (x :: L).take 0 ++ L ++ (x :: L).drop (0 + L.length) = L ++ (x :: L).drop L.length := by simp
 rw [hlist, Nat.zero_mul] at hput
 obtain ⟨W1, hW1⟩ : ∃ W, w.drew.setCells g0 0 (L.flatMap Qy.cells) = W := ⟨_, rfl⟩
 have k1 : Keeps (fun k => k = g0) w W1 := by
  rw [← hW1]
  exact putAt_keeps _ _ _ _ ((Keeps.refl _ _).drew)
 rw [hW1] at hput
 have hlen1 : (L ++ (x :: L).drop L.length).length = n := by simp; omega
 have hput' : OwnsQ W1 B (.slice (some ⟨g0, 0, none⟩) (L ++ (x :: L).drop L.length).length cap0) (L ++ (x :: L).drop L.length) := by rw [hlen1, ← hnn]; exact hput
 have hcl := fun ty => hput'.clear (P := Try.prog) (T := 80) (ty := ty) Qy.len (by decide) (n - 1) (by omega) (cap0 - (n - 1)) Try.underlying80 zero_q zeroQ rfl zeroQ_one
 rw [hlen1] at hcl
 have o2 := hput'.put Qy.len (n - 1) (List.replicate (n - (n - 1)) zeroQ) (by simp; omega)
 obtain ⟨W2, hW2⟩ : ∃ W, W1.setCells g0 ((n - 1) * 19) ((List.replicate (n - (n - 1)) zeroQ).flatMap Qy.cells) = W := ⟨_, rfl⟩
 have k2 : Keeps (fun k => k = g0) w W2 := by
  rw [← hW2]
  exact putAt_keeps _ _ _ _ k1
 rw [hW2] at o2 hcl
 have e2 : (L ++ (x :: L).drop L.length).take (n - 1) ++ List.replicate (n - (n - 1)) zeroQ ++ (L ++ (x :: L).drop L.length).drop (n - 1 + (List.replicate (n - (n - 1)) zeroQ).length) = L ++ [zeroQ] := by
  rw [List.take_append_of_le_length (by omega), ← hL.1, List.take_length, show n - L.length = 1 by omega, List.drop_of_length_le (by simp)]
  simp
 rw [e2, hlen1] at o2
 have o3 : OwnsQ W2 B (.slice (some ⟨g0, 0, none⟩) (n - 1) cap0) L := by
  have := o2.cut Qy.len (n - 1) (by simp; omega) (by simp)
  rw [List.take_append_of_le_length (by omega), ← hL.1, List.take_length] at this
  rw [← hL.1]
  exact this
 have F := Lib.hid (And.intro o3 k2)
 clear o2 o3 k1 k2 hput hput' e2 hlen1 hlist hW2
 have X := Lib.hid (And.intro hfl (And.intro hcc (And.intro hone' (And.intro (show 0 + (n - 1) ≤ cap0 by omega) hth))))
 have Y := Lib.hid (And.intro h0 hi)
 have Z := Lib.hid hz1
 clear h0 hth hfl hone' hcc hi hz0 hz1 hz2
 refine wp_region_g (S := fun _ => True) (M := [0, 1, 2, 3, 4, 5, 6, 7]) (by kernel_rfl) ?_
 have hS : True := trivial
 refine wpAnyG_takeL (i := 0) (oi := _) (v := ?va0) rfl (by kernel_rfl) (by kernel_rfl) (by kernel_rfl) (by kernel_rfl) (fun _ _ _ h => h) (Or.inl ⟨by rfl, ?ya0⟩) hS ?ra0
 case ya0 => (intro W hSw; go_simp; try with_reducible rfl)
 try simp only [Act.put, List.setIfInBounds_toArray, List.set_cons_zero, List.set_cons_succ]
 refine wpAnyG_takeL (i := 1) (oi := _) (v := ?va1) rfl (by kernel_rfl) (by kernel_rfl) (by kernel_rfl) (by kernel_rfl) (fun _ _ _ h => h) (Or.inl ⟨by rfl, ?ya1⟩) hS ?ra1
 case ya1 => (intro W hSw; go_simp; try with_reducible rfl)
 try simp only [Act.put, List.setIfInBounds_toArray, List.set_cons_zero, List.set_cons_succ]
 refine wpAnyG_takeL (i := 2) (oi := _) (v := ?va2) rfl (by kernel_rfl) (by kernel_rfl) (by kernel_rfl) (by kernel_rfl) (fun _ _ _ h => h) (Or.inl ⟨by rfl, ?ya2⟩) hS ?ra2
 case ya2 => (intro W hSw; go_simp; try with_reducible rfl)
 try simp only [Act.put, List.setIfInBounds_toArray, List.set_cons_zero, List.set_cons_succ]
 refine wpAnyG_takeL (i := 3) (oi := _) (v := ?va3) rfl (by kernel_rfl) (by kernel_rfl) (by kernel_rfl) (by kernel_rfl) (fun _ _ _ h => h) (Or.inl ⟨by rfl, ?ya3⟩) hS ?ra3
 case ya3 => (intro W hSw; go_simp; try with_reducible rfl)
 try simp only [Act.put, List.setIfInBounds_toArray, List.set_cons_zero, List.set_cons_succ]
 refine wpAnyG_takeL (i := 4) (oi := _) (v := ?va4) rfl (by kernel_rfl) (by kernel_rfl) (by kernel_rfl) (by kernel_rfl) (fun _ _ _ h => h) (Or.inl ⟨by rfl, ?ya4⟩) hS ?ra4
 case ya4 => (intro W hSw; go_simp; try with_reducible rfl)
 try simp only [Act.put, List.setIfInBounds_toArray, List.set_cons_zero, List.set_cons_succ]
 refine wpAnyG_takeL (i := 5) (oi := _) (v := ?va5) rfl (by kernel_rfl) (by kernel_rfl) (by kernel_rfl) (by kernel_rfl) (fun _ _ _ h => h) (Or.inl ⟨by rfl, ?ya5⟩) hS ?ra5
 case ya5 => (intro W hSw; go_simp; try with_reducible rfl)
 try simp only [Act.put, List.setIfInBounds_toArray, List.set_cons_zero, List.set_cons_succ]
 refine wpAnyG_onlyL (i := 6) (o := _) (by kernel_rfl) rfl (fun K hK => ?_)
 refine step_append_room rfl _ _ 80 rfl 87 i0 19 Try.underlying80 Y.out.2 Z.out g0 0 0 cap0 rfl ad (n - 1) c1 (L.flatMap Qy.cells) rfl X.out.1 X.out.2.1 X.out.2.2.1 X.out.2.2.2.1 X.out.2.2.2.2 ?_
 refine hK.out _ _ (fun _ => trivial) ?_
 clear hK K
 try simp only [Act.put, List.setIfInBounds_toArray, List.set_cons_zero, List.set_cons_succ]
 refine wpAnyG_onlyL (i := 7) (o := _) (by kernel_rfl) rfl (fun K hK => ?_)
 go_simp
 refine hK.out _ _ (fun _ => trivial) ?_
 clear hK K
 refine wpAnyG_done (by kernel_rfl) ?_ _
 go_simp
 go_wp2_with fail
 go_ret
 exact ⟨_, _, _, rfl, F.out.1, rfl, F.out.2.weaken (fun _ _ e => by subst e; rfl)⟩
end Go.Proofs.Ytiednihagnehlaa

namespace Go.Proofs.Ytiednihagnehlaa
open Go.RowKit

/-- a message whose parts lie outside S -/
def Steady (S : Nat → Prop) (w : World) (m : Ms) : Prop := ∀ w', Keeps S w w' → m.fine w'
theorem Steady.fine {S : Nat → Prop} {w : World} {m : Ms} (h : Steady S w m) : m.fine w := h w (Keeps.refl _ _)
theorem Steady.to {S : Nat → Prop} {w w' : World} {m : Ms} (h : Steady S w m) (hk : Keeps S w w') : Steady S w' m := fun w2 h2 => h w2 (hk.trans h2)
theorem Steady.old {S : Nat → Prop} {w w' : World} {m : Ms} (h : Steady S w m) (hk : Old w w') : Steady S w' m := h.to (hk.weaken (fun _ _ f => f.elim))
theorem Steady.ext {S S' : Nat → Prop} {w : World} {m : Ms} (h : Steady S w m) (hS : ∀ k, S' k → S k ∨ w.heap.size ≤ k) : Steady S' w m := fun w2 h2 => h w2 (h2.weaken (fun i hi hs => by rcases hS i hs with h | h; exact h; omega))
/-- nothing of it lies in memory -/
def BareMs (m : Ms) : Prop := ∀ S w, Steady S w m
theorem bare_of {m : Ms} (h : ∀ w, m.fine w) : BareMs m := fun _ _ w' _ => h w'

def Qy.plain (x : Qy) : Int × PMs := (x.link, x.m.plain)
/-- the queue at block qb: R is its memory, S the memory of all queues -/
def Qu (R S : Nat → Prop) (w : World) (qb most : Nat) (L : List Qy) : Prop :=
 ∃ p n c, w.heap[qb]? = some (.cells #[.int .i64 (most : Int), .slice p n c] 82 (0, 0)) ∧ OwnsQ w 0 (.slice p n c) L ∧ (∀ x ∈ L, Steady S w x.m) ∧ R qb ∧ (∀ b, (Value.slice p n c).ownBlock = some b → R b ∧ b ≠ qb) ∧
  (∀ k, R k → S k) ∧ (∀ k, S k → k < w.heap.size)
theorem Qu.old {R S : Nat → Prop} {w w' : World} {qb most : Nat} {L : List Qy} (h : Qu R S w qb most L) (hk : Old w w') : Qu R S w' qb most L := by
 obtain ⟨p, n, c, h1, h2, h3, h4, h5, h6, h7⟩ := h
 exact ⟨p, n, c, (hk.block qb (lt_of_heap h1) (fun f => f)).trans h1, h2.old hk, fun x hx => (h3 x hx).old hk, h4, h5, h6, fun k hk' => Nat.lt_of_lt_of_le (h7 k hk') hk.size⟩
/-- another queue was at work -/
theorem Qu.other {R R1 S S' : Nat → Prop} {w w' : World} {qb most : Nat} {L : List Qy} (h : Qu R S w qb most L) (hk : Keeps R1 w w') (h1 : ∀ k, R1 k → S k) (hd : ∀ k, R k → ¬ R1 k) (hS : ∀ k, S k → S' k) (hS' : ∀ k, S' k → S k ∨ w.heap.size ≤ k) (hz : ∀ k, S' k → k < w'.heap.size) : Qu R S' w' qb most L := by
 obtain ⟨p, n, c, g1, g2, g3, g4, g5, g6, g7⟩ := h
 exact ⟨p, n, c, (hk.block qb (lt_of_heap g1) (hd qb g4)).trans g1, g2.keeps hk (fun b hb => hd b (g5 b hb).1),
  fun x hx => ((g3 x hx).ext hS').to (hk.weaken (fun i _ hi => hS i (h1 i hi))), g4, g5, fun k hk' => hS k (g6 k hk'), hz⟩
theorem Qu.lt {R S : Nat → Prop} {w : World} {qb most : Nat} {L : List Qy} (h : Qu R S w qb most L) : qb < w.heap.size := by obtain ⟨p, n, c, h1, _⟩ := h; exact lt_of_heap h1
theorem Qu.one {R S : Nat → Prop} {w : World} {qb most : Nat} {L : List Qy} (h : Qu R S w qb most L) : ∀ x ∈ L, ∀ c ∈ x.cells, c.oneCell' = true := by
 obtain ⟨p, n, c, _, _, h3, _⟩ := h
 intro x hx u hu
 have := (h3 x hx).fine.one
 rw [Array.all_eq_true_iff_forall_mem] at this
 rcases List.mem_cons.1 hu with rfl | hu
 ·rfl
 ·exact this u (by simpa using hu)
theorem one_arr {x : Qy} (h : ∀ c ∈ x.cells, c.oneCell' = true) : x.cells.toArray.all (·.oneCell') = true := by
 rw [Array.all_eq_true_iff_forall_mem]
 intro u hu
 exact h u (by simpa using hu)
theorem blkQu {w : World} {b : Nat} {t : TypeId} {a0 a1 : Value} (h : w.heap[b]? = some (.cells #[a0, a1] t (0, 0))) :
  w.cell? ⟨b, 0, none⟩ = some a0 ∧ w.cell? ⟨b, 1, none⟩ = some a1 ∧ w.frozen? ⟨b, 0, none⟩ = false ∧ w.frozen? ⟨b, 1, none⟩ = false := by simp [World.cell?, World.frozen?, h]

theorem none_yes (qb most : Nat) (w : World) (h : w.cell? ⟨qb, 0, none⟩ = some (.int .i64 (most : Int))) (hm : 1 ≤ most) : Calls Try.prog 28 #[.pointer (some ⟨qb, 0, none⟩)] w fun e w' => e = .returned (.bool false) ∧ w = w' := by
 have d : (((most : Nat) : Int) == 0) = false := by simp; omega
 go_enter Try.func28, Try.ntmps28
 go_wp2_with fail
 go_ret
 exact ⟨rfl, rfl⟩
theorem none_zero (qb : Nat) (w : World) (h : w.cell? ⟨qb, 0, none⟩ = some (.int .i64 0)) : Calls Try.prog 28 #[.pointer (some ⟨qb, 0, none⟩)] w fun e w' => e = .returned (.bool true) ∧ w = w' := by
 go_enter Try.func28, Try.ntmps28
 go_wp2_with fail
 go_ret
 exact ⟨rfl, rfl⟩
theorem none_nil (w : World) : Calls Try.prog 28 #[.pointer none] w fun e w' => e = .returned (.bool true) ∧ w = w' := by
 go_enter Try.func28, Try.ntmps28
 go_wp2_with fail
 go_ret
 exact ⟨rfl, rfl⟩
theorem len_q {R S : Nat → Prop} {w : World} {qb most : Nat} {L : List Qy} (h : Qu R S w qb most L) (hm : 1 ≤ most) : Calls Try.prog 13 #[.pointer (some ⟨qb, 0, none⟩)] w fun e w' => e = .returned (.int .i64 (L.length : Int)) ∧ w = w' := by
 obtain ⟨p, n, c, h1, h2, _⟩ := h
 obtain ⟨p', c', e, _, _⟩ := (h2.sees Qy.len (by decide)).len
 simp only [Value.slice.injEq] at e
 obtain ⟨rfl, rfl, rfl⟩ := e
 obtain ⟨g0, g1, _⟩ := blkQu h1
 have C := Lib.hid (none_yes qb most w g0 hm)
 clear h1 h2
 go_enter Try.func13, Try.ntmps13
 go_wp2_with fail
 refine C.out.mono ?_
 rintro e w' ⟨rfl, rfl⟩
 go_wp2_with fail
 go_ret
 exact ⟨rfl, rfl⟩

set_option maxRecDepth 100000 in
/-- New of a most that may be -/
theorem new_yes (most : Nat) (w : World) (h : 1 ≤ most ∧ most ≤ 4096) : Calls Try.prog 8 #[.int .i64 (most : Int)] w fun e w' => ∃ qb, e = .returned (.tuple #[.pointer (some ⟨qb, 0, none⟩), .int .i64 0]) ∧ qb = w.heap.size ∧ Old w w' ∧
  ∀ S : Nat → Prop, (∀ k, S k → k < w.heap.size) → Qu (fun k => k = qb) (fun k => S k ∨ k = qb) w' qb most [] := by
 have d1 : decide ((most : Int) < 1) = false := by simp; omega
 have d2 : decide ((most : Int) > 4096) = false := by simp; omega
 have X := Lib.hid h
 clear h
 go_enter Try.func8, Try.ntmps8
 go_wp2_with fail
 go_ret2
 refine ⟨_, rfl, rfl, (Keeps.refl _ _).alloc _, fun S hS => ⟨none, 0, 0, heap_alloc_new _ _, OwnsR.nil _ _, fun x hx => (by cases hx), rfl, fun b hb => (by cases hb), fun k hk => .inr hk, fun k hk => ?_⟩⟩
 rcases hk with hk | rfl
 ·have := hS k hk
  simp
  omega
 ·simp
theorem new_no (most : Int) (w : World) (h : most < 1 ∨ 4096 < most) : Calls Try.prog 8 #[.int .i64 most] w fun e w' => e = .returned (.tuple #[.pointer none, .int .i64 1]) ∧ w = w' := by
 by_cases h1 : most < 1
 ·have d1 : decide (most < 1) = true := by simp; omega
  clear h h1
  go_enter Try.func8, Try.ntmps8
  go_wp2_with fail
  go_ret2
  exact ⟨rfl, rfl⟩
 ·have d1 : decide (most < 1) = false := by simp; omega
  have d2 : decide (most > 4096) = true := by simp; omega
  clear h h1
  go_enter Try.func8, Try.ntmps8
  go_wp2_with fail
  go_ret2
  exact ⟨rfl, rfl⟩
end Go.Proofs.Ytiednihagnehlaa

namespace Go.Proofs.Ytiednihagnehlaa
open Go.RowKit

def dropP (b : Int) (l : Nat) (x : Int × PMs) : Bool := x.2.tb == b && decide (x.2.tl < l)
def linkP (k : Int) (x : Int × PMs) : Bool := x.1 == k
def staleP (b : Int) (l c : Nat) (x : Int × PMs) : Bool := x.2.tb == b && (decide (l < x.2.tl) || (x.2.tl == l && x.2.tc == c))
/-- the queue, plain -/
def QuP (R S : Nat → Prop) (w : World) (qb most : Nat) (P : List (Int × PMs)) : Prop := ∃ L, L.map Qy.plain = P ∧ Qu R S w qb most L
theorem QuP.old {R S : Nat → Prop} {w w' : World} {qb most : Nat} {P : List (Int × PMs)} (h : QuP R S w qb most P) (hk : Old w w') : QuP R S w' qb most P := by obtain ⟨L, e, h⟩ := h; exact ⟨L, e, h.old hk⟩
theorem map_filter {pr : Qy → Bool} {pp : Int × PMs → Bool} (h : ∀ x, pr x = pp x.plain) (L : List Qy) : (L.filter fun y => !pr y).map Qy.plain = (L.map Qy.plain).filter fun y => !pp y := by
 rw [List.filter_map]
 congr 1
 apply List.filter_congr
 intro x _
 simp [h]

theorem gone_no (v : Value) (f : Value) (w : World) (h : Calls Try.prog 28 #[v] w fun e w' => e = .returned (.bool true) ∧ w = w') : Calls Try.prog 42 #[v, f] w fun e w' => e = .returned (.int .i64 0) ∧ w = w' := by
 have C := Lib.hid h
 clear h
 go_enter Try.func42, Try.ntmps42
 go_wp2_with fail
 refine C.out.mono ?_
 rintro e w' ⟨rfl, rfl⟩
 go_wp2_with fail
 go_ret
 exact ⟨rfl, rfl⟩
set_option maxRecDepth 100000 in
theorem gone_any {R S : Nat → Prop} {w : World} {qb most : Nat} {L : List Qy} (g : FuncId) (cap : Array Value) (pr : Qy → Bool) (h : Qu R S w qb most L) (hm : 1 ≤ most)
  (hent : ∀ (args : Array Value) (w : World), (callFunc g args).run Try.prog w = .ok (.enter g args) w)
  (hc : ∀ x ∈ L, ∀ W, Keeps R w W → Calls Try.prog g (#[.agg x.cells.toArray] ++ cap) W fun e W' => e = .returned (.bool (pr x)) ∧ Old W W') :
  Calls Try.prog 42 #[.pointer (some ⟨qb, 0, none⟩), .func (.func g) #[] cap] w fun e w' => e = .returned (.int .i64 ((L.length - (L.filter fun y => !pr y).length : Nat) : Int)) ∧ Qu R S w' qb most (L.filter fun y => !pr y) ∧ Keeps R w w' := by
 have hone := h.one
 obtain ⟨p, n, c, h1, h2, h3, h4, h5, h6, h7⟩ := h
 obtain ⟨p', c', e, hle, hmx⟩ := (h2.sees Qy.len (by decide)).len
 simp only [Value.slice.injEq] at e
 obtain ⟨rfl, rfl, rfl⟩ := e
 have hlm : L.length ≤ 9223372036854775807 := by unfold maxLen at hmx; omega
 have hfl : (L.filter fun y => !pr y).length ≤ L.length := List.length_filter_le _ _
 obtain ⟨g0, g1, g2, g3⟩ := blkQu h1
 have C := Lib.hid (none_yes qb most w g0 hm)
 have D := Lib.hid (delete_q g cap pr (.slice p L.length c) L 0 w h2 (fun x hx => one_arr (hone x hx)) hent (fun x hx W hW => hc x hx W (hW.weaken (fun i _ hi => (h5 i hi).1))))
 obtain ⟨L2, hL2⟩ : ∃ L2, (L.filter fun y => !pr y) = L2 := ⟨_, rfl⟩
 have h3' : ∀ x ∈ L2, Steady S w x.m := by rw [← hL2]; exact fun x hx => h3 x (List.mem_filter.1 hx).1
 rw [hL2] at D hfl ⊢
 have hsub : ((L.length - L2.length : Nat) : Int) = (L.length : Int) - (L2.length : Int) := by omega
 rw [hsub]
 have H := Lib.hid (And.intro h1 (And.intro h3' (And.intro h4 (And.intro h5 (And.intro h6 h7)))))
 clear h1 h2 h3 h3' h4 h5 h6 h7 hone hc hent hle hmx hL2 hsub
 go_enter Try.func42, Try.ntmps42
 go_wp2_with fail
 refine C.out.mono ?_
 rintro e w' ⟨rfl, rfl⟩
 go_wp2_with fail
 refine D.out.mono ?_
 rintro e w1 ⟨p1, n1, c1, rfl, o1, b1, k1⟩
 obtain ⟨p', c', e, _, _⟩ := (o1.sees Qy.len (by decide)).len
 simp only [Value.slice.injEq] at e
 obtain ⟨rfl, rfl, rfl⟩ := e
 have hq1 : w1.heap[qb]? = some (.cells #[.int .i64 (most : Int), .slice p L.length c] 82 (0, 0)) := (k1.block qb (lt_of_heap H.out.1) (fun e => (H.out.2.2.2.1 qb e).2 rfl)).trans H.out.1
 obtain ⟨f0, f1, f2, f3⟩ := blkQu hq1
 have hz : w1.heap.size = w1.heap.size := rfl
 have K1 := Lib.hid (And.intro o1 (And.intro b1 (And.intro k1 hq1)))
 clear o1 b1 k1 hq1 hz g0 g1 g2 g3
 go_wp2_with fail
 go_ret
 refine ⟨rfl, ?_, ?_⟩
 ·have hq2 := heap_setCell_same w1 qb 1 _ _ (.slice p1 L2.length c1) K1.out.2.2.2
  have hkq : Keeps (fun k => k = qb) w1 (w1.setCell ⟨qb, 1, none⟩ (.slice p1 L2.length c1)) := keepS _ (Keeps.refl _ _)
  refine ⟨p1, L2.length, c1, by simpa using hq2, K1.out.1.keeps hkq (fun b hb e => by rw [K1.out.2.1] at hb; exact (H.out.2.2.2.1 b hb).2 e), fun x hx => ?_, H.out.2.2.1, fun b hb => ?_, H.out.2.2.2.2.1, fun k hk => ?_⟩
  ·exact ((H.out.2.1 x hx).to (K1.out.2.2.1.weaken (fun i _ hi => H.out.2.2.2.2.1 i (H.out.2.2.2.1 i hi).1))).to (hkq.weaken (fun i _ e => by subst e; exact H.out.2.2.2.2.1 _ H.out.2.2.1))
  ·rw [K1.out.2.1] at hb; exact H.out.2.2.2.1 b hb
  ·exact Nat.lt_of_lt_of_le (H.out.2.2.2.2.2 k hk) (Nat.le_trans K1.out.2.2.1.size hkq.size)
 ·exact (K1.out.2.2.1.weaken (fun i _ hi => (H.out.2.2.2.1 i hi).1)).trans ((Keeps.refl _ _).setCell (fun _ => H.out.2.2.1) _)

theorem dropQ_plain (b : Int) (l : Nat) (x : Qy) : dropQ b l x = dropP b l x.plain := rfl
theorem linkQ_plain (k : Int) (x : Qy) : linkQ k x = linkP k x.plain := rfl
theorem staleQ_plain (b : Int) (l c : Nat) (x : Qy) : staleQ b l c x = staleP b l c x.plain := rfl
theorem qp_gone {R S : Nat → Prop} {w : World} {qb most : Nat} {L : List Qy} {P : List (Int × PMs)} {pr : Qy → Bool} {pp : Int × PMs → Bool} (hL : L.map Qy.plain = P) (hp : ∀ x, pr x = pp x.plain) (h : Qu R S w qb most (L.filter fun y => !pr y)) :
  QuP R S w qb most (P.filter fun y => !pp y) ∧ L.length - (L.filter fun y => !pr y).length = P.length - (P.filter fun y => !pp y).length := by
 have e := map_filter hp L
 rw [hL] at e
 exact ⟨⟨_, e, h⟩, by rw [← e, ← hL]; simp⟩

theorem drop_q {R S : Nat → Prop} {w : World} {qb most : Nat} {P : List (Int × PMs)} (b : Int) (l : Nat) (h : QuP R S w qb most P) (hm : 1 ≤ most) :
  Calls Try.prog 22 #[.pointer (some ⟨qb, 0, none⟩), .int .i64 b, .int .u64 (l : Int)] w fun e w' => e = .returned (.int .i64 ((P.length - (P.filter fun y => !dropP b l y).length : Nat) : Int)) ∧ QuP R S w' qb most (P.filter fun y => !dropP b l y) ∧ Keeps R w w' := by
 obtain ⟨L, hL, h⟩ := h
 obtain ⟨W0, hW0⟩ : ∃ W0, (w.alloc (.cells #[.int .i64 b] 3)).alloc (.cells #[.int .u64 (l : Int)] 28) = W0 := ⟨_, rfl⟩
 have o : Old w W0 := by rw [← hW0]; exact ((Keeps.refl _ _).alloc _).alloc _
 obtain ⟨b1, b2⟩ := two_blocks w (.cells #[.int .i64 b] 3) (.cells #[.int .u64 (l : Int)] 28)
 rw [hW0] at b1 b2
 have hlt : ∀ k, R k → k < w.heap.size := by obtain ⟨_, _, _, _, _, _, _, _, h6, h7⟩ := h; exact fun k hk => h7 k (h6 k hk)
 have hent : ∀ (args : Array Value) (w : World), (callFunc 43 args).run Try.prog w = .ok (.enter 43 args) w := fun args W => by simp [go_sem, callFunc, Try.func43]; rfl
 have G := Lib.hid (gone_any 43 #[.pointer (some ⟨w.heap.size, 0, none⟩), .pointer (some ⟨w.heap.size + 1, 0, none⟩)] (dropQ b l) (h.old o) hm hent (fun x _ W hW => drop1_any x b l w.heap.size (w.heap.size + 1) W
  (hW.cell (p := ⟨w.heap.size, 0, none⟩) (by simp [World.cell?, b1]) (fun hr => by have := hlt _ hr; simp at this)) (hW.cell (p := ⟨w.heap.size + 1, 0, none⟩) (by simp [World.cell?, b2]) (fun hr => by have := hlt _ hr; simp at this; omega))))
 have O := Lib.hid o
 clear h o b1 b2 hlt hent
 go_enter Try.func22, Try.ntmps22
 go_wp2_with fail
 refine G.out.mono ?_
 rintro e w1 ⟨rfl, h1, k1⟩
 have X := Lib.hid (And.intro (qp_gone hL (dropQ_plain b l) h1) ((O.out.weaken (T := R) (fun _ _ f => f.elim)).trans k1))
 clear h1 k1
 go_wp2_with fail
 go_ret
 exact ⟨by rw [X.out.1.2]; rfl, X.out.1.1, X.out.2⟩
theorem forget_q {R S : Nat → Prop} {w : World} {qb most : Nat} {P : List (Int × PMs)} (k : Int) (h : QuP R S w qb most P) (hm : 1 ≤ most) :
  Calls Try.prog 24 #[.pointer (some ⟨qb, 0, none⟩), .int .i64 k] w fun e w' => e = .returned (.int .i64 ((P.length - (P.filter fun y => !linkP k y).length : Nat) : Int)) ∧ QuP R S w' qb most (P.filter fun y => !linkP k y) ∧ Keeps R w w' := by
 obtain ⟨L, hL, h⟩ := h
 obtain ⟨W0, hW0⟩ : ∃ W0, w.alloc (.cells #[.int .i64 k] 3) = W0 := ⟨_, rfl⟩
 have o : Old w W0 := by rw [← hW0]; exact (Keeps.refl _ _).alloc _
 have b1 : W0.heap[w.heap.size]? = some (.cells #[.int .i64 k] 3 (0, 0)) := by rw [← hW0]; exact heap_alloc_new _ _
 have hlt : ∀ k, R k → k < w.heap.size := by obtain ⟨_, _, _, _, _, _, _, _, h6, h7⟩ := h; exact fun k hk => h7 k (h6 k hk)
 have hent : ∀ (args : Array Value) (w : World), (callFunc 44 args).run Try.prog w = .ok (.enter 44 args) w := fun args W => by simp [go_sem, callFunc, Try.func44]; rfl
 have G := Lib.hid (gone_any 44 #[.pointer (some ⟨w.heap.size, 0, none⟩)] (linkQ k) (h.old o) hm hent (fun x _ W hW => forget1_any x k w.heap.size W
  (hW.cell (p := ⟨w.heap.size, 0, none⟩) (by simp [World.cell?, b1]) (fun hr => by have := hlt _ hr; simp at this))))
 have O := Lib.hid o
 clear h o b1 hlt hent
 go_enter Try.func24, Try.ntmps24
 go_wp2_with fail
 refine G.out.mono ?_
 rintro e w1 ⟨rfl, h1, k1⟩
 have X := Lib.hid (And.intro (qp_gone hL (linkQ_plain k) h1) ((O.out.weaken (T := R) (fun _ _ f => f.elim)).trans k1))
 clear h1 k1
 go_wp2_with fail
 go_ret
 exact ⟨by rw [X.out.1.2]; rfl, X.out.1.1, X.out.2⟩
theorem drop_no (v : Value) (b : Int) (l : Nat) (w : World) (h : ∀ w, Calls Try.prog 28 #[v] w fun e w' => e = .returned (.bool true) ∧ w = w') : Calls Try.prog 22 #[v, .int .i64 b, .int .u64 (l : Int)] w fun e w' => e = .returned (.int .i64 0) ∧ Old w w' := by
 have G := Lib.hid (fun f w => gone_no v f w (h w))
 clear h
 go_enter Try.func22, Try.ntmps22
 go_wp2_with fail
 refine (G.out _ _).mono ?_
 rintro e w1 ⟨rfl, rfl⟩
 go_wp2_with fail
 go_ret
 exact ⟨rfl, ((Keeps.refl _ _).alloc _).alloc _⟩
theorem forget_no (v : Value) (k : Int) (w : World) (h : ∀ W, Old w W → Calls Try.prog 28 #[v] W fun e w' => e = .returned (.bool true) ∧ W = w') : Calls Try.prog 24 #[v, .int .i64 k] w fun e w' => e = .returned (.int .i64 0) ∧ Old w w' := by
 have G := Lib.hid (fun f => gone_no v f _ (h (w.alloc (.cells #[.int .i64 k] 3)) ((Keeps.refl _ _).alloc _)))
 clear h
 go_enter Try.func24, Try.ntmps24
 go_wp2_with fail
 refine (G.out _).mono ?_
 rintro e w1 ⟨rfl, rfl⟩
 go_wp2_with fail
 go_ret
 exact ⟨rfl, (Keeps.refl _ _).alloc _⟩
end Go.Proofs.Ytiednihagnehlaa
