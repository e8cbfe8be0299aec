/- DERIVED. overlap: may, both, asked. · DERIVED. A range over a function whose body never leaves early: laws for the plain walk. -/
import Derived.Test.YtehmlaplodjenaaGreatZTopDual17
import Derived.Test.YtehmlaplodjenaaGreatYpTopDual03
import Derived.Deep.DeepCutAuto
import Derived.Deep.CutRange
import Derived.Laws.EntriesVeiled
import Derived.Test.YtehmlaplodjenaaGreatYpTopDual01
import Derived.RangeFuncLeaves
import Derived.RangeFuncRecord
import Derived.TacticsIn
set_option maxRecDepth 100000
set_option maxHeartbeats 8000000
namespace Go.Proofs.YtehmlaplodjenaaGreat
section
open Go.RowKit
theorem omay_any (v1 v2 : Value) (lp lq : List Con) (w : World) (h1 : Cons w v1 lp) (h2 : Cons w v2 lq) :
  Calls Tryz.prog 45 #[v1, v2] w fun e w' => e = .returned (.bool (predOk lp && predOk lq)) ∧ Old w w' := by
 obtain ⟨p1, c1, e1, _, _⟩ := h1.1.len
 obtain ⟨p2, c2, e2, _, _⟩ := h2.1.len
 have M1 := Lib.hid (fun W (hW : Old w W) => pred_may_any v1 lp W (h1.old hW))
 have M2 := Lib.hid (fun W (hW : Old w W) => pred_may_any v2 lq W (h2.old hW))
 clear h1 h2
 subst e1 e2
 obtain ⟨z1, hz1⟩ : ∃ z, predOk lp = z := ⟨_, rfl⟩
 obtain ⟨z2, hz2⟩ : ∃ z, predOk lq = z := ⟨_, rfl⟩
 rw [hz1] at M1 ⊢
 rw [hz2] at M2 ⊢
 clear hz1 hz2
 go_enter Tryz.func45, Tryz.ntmps45
 cases z1
 ·go_wp2_with fail
  refine (M1.out w (Keeps.refl _ _)).mono ?_
  rintro e w1 ⟨rfl, k1⟩
  have K := Lib.hid k1
  clear k1
  go_wp2_with fail
  go_ret
  exact ⟨rfl, K.out⟩
 ·go_wp2_with fail
  refine (M1.out w (Keeps.refl _ _)).mono ?_
  rintro e w1 ⟨rfl, k1⟩
  have K := Lib.hid k1
  clear k1
  go_wp2_with fail
  refine (M2.out w1 K.out).mono ?_
  rintro e w2 ⟨rfl, k2⟩
  have K2 := Lib.hid (K.out.trans k2)
  clear k2
  go_wp2_with fail
  go_ret
  exact ⟨by cases z2 <;> rfl, K2.out⟩
def bothR (lp lq : List Con) (nm : ByteArray) : Rg := andR (AskedR (lp.map Con.plain) nm) (AskedR (lq.map Con.plain) nm)
theorem both_any (pb qb : Nat) (v1 v2 : Value) (lp lq : List Con) (nm : ByteArray) (w : World)
  (b1 : w.heap[pb]? = some (.cells #[v1] 39 (0, 0))) (b2 : w.heap[qb]? = some (.cells #[v2] 39 (0, 0)))
  (h1 : Cons w v1 lp) (h2 : Cons w v2 lq) (k1 : predOk lp = true) (k2 : predOk lq = true) :
  Calls Tryz.prog 145 #[.string nm, .pointer (some ⟨pb, 0, none⟩), .pointer (some ⟨qb, 0, none⟩)] w fun e w' => ∃ g, e = .returned g ∧ SeesG w' g (bothR lp lq nm) ∧ Old w w' := by
 unfold bothR
 have okP := AskedR_ok nm (h1.conP k1) (by rw [List.length_map]; exact (predOk_con k1).1)
 have okQ := AskedR_ok nm (h2.conP k2) (by rw [List.length_map]; exact (predOk_con k2).1)
 obtain ⟨W1, hW1⟩ : ∃ W1, w.alloc (.cells #[.slice none 0 0, .slice none 0 0, .slice none 0 0, .bool false] 102) = W1 := ⟨_, rfl⟩
 have o1 : Old w W1 := by rw [← hW1]; exact (Keeps.refl _ _).alloc _
 have z1 : W1.heap[w.heap.size]? = some (.cells #[.slice none 0 0, .slice none 0 0, .slice none 0 0, .bool false] 102 (0, 0)) := by rw [← hW1]; exact heap_alloc_new _ _
 have A1 := Lib.hid (fun W (hW : Old W1 W) => Asked_any v1 lp nm W ((h1.old o1).old hW) k1)
 have A2 := Lib.hid (fun W (hW : Old W1 W) => Asked_any v2 lq nm W ((h2.old o1).old hW) k2)
 obtain ⟨p1, c1, rfl, _, _⟩ := h1.1.len
 obtain ⟨p2, c2, rfl, _, _⟩ := h2.1.len
 obtain ⟨P, hP⟩ : ∃ P, AskedR (lp.map Con.plain) nm = P := ⟨_, rfl⟩
 obtain ⟨Q, hQ⟩ : ∃ Q, AskedR (lq.map Con.plain) nm = Q := ⟨_, rfl⟩
 rw [hP] at A1 okP ⊢
 rw [hQ] at A2 okQ ⊢
 have b1' := (o1.block _ (lt_of_heap b1) (fun f => f)).trans b1
 have b2' := (o1.block _ (lt_of_heap b2) (fun f => f)).trans b2
 have q1 := (blk1 b1').1
 have Bs := Lib.hid (And.intro b1' (And.intro b2' (And.intro z1 (And.intro okP (And.intro okQ o1)))))
 clear h1 h2 k1 k2 hP hQ b1 b2 b1' b2' okP okQ o1 z1
 go_enter Tryz.func145, Tryz.ntmps145
 go_upto_region 1 with fail
 clear hW1
 go_wp2_with fail
 refine (A1.out W1 (Keeps.refl _ _)).mono ?_
 rintro e w2 ⟨v2, rfl, g2, k2⟩
 obtain ⟨x1, x2, x3, x4, x5, x6, x7, x8, x9, rfl, SS⟩ := g2
 obtain ⟨W3, hW3⟩ : ∃ W3, w2.alloc (.cells #[.slice x1 x2 x3, .slice x4 x5 x6, .slice x7 x8 x9, .bool P.odd] 102) = W3 := ⟨_, rfl⟩
 have o3 : Old w2 W3 := by rw [← hW3]; exact (Keeps.refl _ _).alloc _
 have b3 : W3.heap[w2.heap.size]? = some (.cells #[.slice x1 x2 x3, .slice x4 x5 x6, .slice x7 x8 x9, .bool P.odd] 102 (0, 0)) := by rw [← hW3]; exact heap_alloc_new _ _
 have k3 := k2.trans o3
 have G := Lib.hid (And.intro (show SeesG W3 (.agg #[.slice x1 x2 x3, .slice x4 x5 x6, .slice x7 x8 x9, .bool P.odd]) P from ⟨_, _, _, _, _, _, _, _, _, rfl, SS.1.old o3, SS.2.1.old o3, SS.2.2.old o3⟩) (And.intro k3 b3))
 have q2 := (blk1 ((k3.block _ (lt_of_heap Bs.out.2.1) (fun f => f)).trans Bs.out.2.1)).1
 clear k2 SS o3 b3 q1 k3
 go_upto_region 2 with fail
 clear hW3
 go_wp2_with fail
 refine (A2.out W3 G.out.2.1).mono ?_
 rintro e w4 ⟨v4, rfl, g4, k4⟩
 obtain ⟨y1, y2, y3, y4, y5, y6, y7, y8, y9, rfl, TT⟩ := g4
 obtain ⟨W5, hW5⟩ : ∃ W5, w4.alloc (.cells #[.slice y1 y2 y3, .slice y4 y5 y6, .slice y7 y8 y9, .bool Q.odd] 102) = W5 := ⟨_, rfl⟩
 have o5 : Old w4 W5 := by rw [← hW5]; exact (Keeps.refl _ _).alloc _
 have b5 : W5.heap[w4.heap.size]? = some (.cells #[.slice y1 y2 y3, .slice y4 y5 y6, .slice y7 y8 y9, .bool Q.odd] 102 (0, 0)) := by rw [← hW5]; exact heap_alloc_new _ _
 have k5 := k4.trans o5
 have k6 := G.out.2.1.trans k5
 have F := Lib.hid (And.intro (G.out.1.old k5) (And.intro (show SeesG W5 (.agg #[.slice y1 y2 y3, .slice y4 y5 y6, .slice y7 y8 y9, .bool Q.odd]) Q from ⟨_, _, _, _, _, _, _, _, _, rfl, TT.1.old o5, TT.2.1.old o5, TT.2.2.old o5⟩) k6))
 have r1 := blk4 ((k5.block _ (lt_of_heap G.out.2.2) (fun f => f)).trans G.out.2.2)
 have r2 := blk4 b5
 clear k4 TT o5 b5 q2 k5 k6
 go_upto_region 3 with fail
 clear hW5
 go_wp2_with fail
 refine (And_any _ _ P Q 2000 2000 W5 F.out.1 F.out.2.1 Bs.out.2.2.2.1 Bs.out.2.2.2.2.1 (by omega)).mono ?_
 rintro e w6 ⟨v6, rfl, g6, k6⟩
 obtain ⟨t1, t2, t3, t4, t5, t6, t7, t8, t9, rfl, TS⟩ := g6
 have k7 := F.out.2.2.trans k6
 have rb := (k7.block _ (lt_of_heap Bs.out.2.2.1) (fun f => f)).trans Bs.out.2.2.1
 obtain ⟨FF, gF, kF⟩ := putG rb TS
 have Z := Lib.hid (And.intro FF (And.intro gF ((Bs.out.2.2.2.2.2.trans k7).then kF (fun i hi e => absurd (show i = w.heap.size from e) (by omega)))))
 have q7 := blk4 rb
 clear FF gF kF k6 k7 rb TS r1 r2
 go_wp2_with fail
 have Z9 := Z.out
 clear Z
 obtain ⟨W9, hW9⟩ : ∃ W9, (((w6.setCell ⟨w.heap.size, 0, none⟩ (.slice t1 t2 t3)).setCell ⟨w.heap.size, 1, none⟩ (.slice t4 t5 t6)).setCell ⟨w.heap.size, 2, none⟩ (.slice t7 t8 t9)).setCell ⟨w.heap.size, 3, none⟩ (.bool (andR P Q).odd) = W9 := ⟨_, rfl⟩
 rw [hW9] at Z9 ⊢
 have F4 := blk4 Z9.1
 exact bodyPost_ret (v := .agg #[.slice t1 t2 t3, .slice t4 t5 t6, .slice t7 t8 t9, .bool (andR P Q).odd]) (by simp [results, Tryz.results145, go_sem, F4]) rfl ⟨_, rfl, Z9.2.1, Z9.2.2⟩
theorem OwnsR.neD {α : Type} {w : World} {B k : Nat} {E : TypeId} {enc : α → List Value} {v : Value} {l : List α} {i : Nat} {u : Value} (h : OwnsR w B E k enc v l) (hk : w.heap[i]? = some (.cells #[u] 96 (0, 0))) (hE : E ≠ 96 := by decide) : ¬ v.ownBlock = some i := by
 intro e
 rcases h.2 with ⟨rfl, _⟩ | ⟨g, cap, cur, rfl, hb, hg, _⟩
 ·simp [Value.ownBlock] at e
 ·simp only [Value.ownBlock, Option.some.injEq] at e
  subst e
  rw [hg] at hk
  simp only [Option.some.injEq, Obj.cells.injEq] at hk
  exact hE hk.2.1
theorem blk1_setD {w : World} {b : Nat} {t : TypeId} {u : Value} (h : w.heap[b]? = some (.cells #[u] t (0, 0))) (v : Value) : (w.setCell ⟨b, 0, none⟩ v).heap[b]? = some (.cells #[v] t (0, 0)) := by
 have e1 := heap_setCell_same w b 0 _ _ v h
 simpa using e1
structure AskM (w : World) (v1 v2 : Value) (lp lq : List Con) (nb bb pb qb : Nat) (nv : Value) (L : List (List UInt8)) (W : World) : Prop where
 old : Old w W
 p : W.heap[pb]? = some (.cells #[v1] 39 (0, 0))
 q : W.heap[qb]? = some (.cells #[v2] 39 (0, 0))
 n : W.heap[nb]? = some (.cells #[nv] 96 (0, 0))
 b : W.heap[bb]? = some (.cells #[.func (.func 145) #[] #[.pointer (some ⟨pb, 0, none⟩), .pointer (some ⟨qb, 0, none⟩)]] (195) (0, 0))
 own : OwnsR W w.heap.size 9 1 (oneL encStr) nv L
 all : ∀ s, s ∈ L ↔ s ∈ lp.map nameL ∨ s ∈ lq.map nameL
 len : L.length ≤ 12
theorem asked_any (v1 v2 : Value) (lp lq : List Con) (w : World) (h1 : Cons w v1 lp) (h2 : Cons w v2 lq) (k1 : predOk lp = true) (k2 : predOk lq = true) :
  Calls Tryz.prog 91 #[v1, v2] w fun e w' => ∃ nb bb nv L, e = .returned (.func (.func 146) #[] #[.pointer (some ⟨nb, 0, none⟩), .pointer (some ⟨bb, 0, none⟩)]) ∧ AskM w v1 v2 lp lq nb bb w.heap.size (w.heap.size + 1) nv L w' := by
 have l1 := (predOk_con k1).1
 have l2 := (predOk_con k2).1
 obtain ⟨p1, c1, e1, _, _⟩ := h1.1.len
 obtain ⟨p2, c2, e2, _, _⟩ := h2.1.len
 obtain ⟨W0, hW0⟩ : ∃ W0, (w.alloc (.cells #[v1] 39)).alloc (.cells #[v2] 39) = W0 := ⟨_, rfl⟩
 have o0 : Old w W0 := by rw [← hW0]; exact ((Keeps.refl _ _).alloc _).alloc _
 obtain ⟨b1, b2⟩ := two_blocks w (.cells #[v1] 39) (.cells #[v2] 39)
 rw [hW0] at b1 b2
 have N1 := Lib.hid (fun W (hW : Old W0 W) => Names_any v1 lp W ((h1.old o0).old hW) (by omega))
 have N2 := Lib.hid (fun W (hW : Old W0 W) => Names_any v2 lq W ((h2.old o0).old hW) (by omega))
 have zw : W0.heap.size = w.heap.size + 2 := by rw [← hW0]; simp
 have H := Lib.hid (And.intro o0 (And.intro b1 (And.intro b2 zw)))
 clear h1 h2 k1 k2 o0 b1 b2 zw
 subst e1 e2
 go_enter Tryz.func91, Tryz.ntmps91
 go_upto_region 1 with fail
 clear hW0
 go_cut [5] from 7 to 12 (fun v5 wc => ∃ b5 v11 L wx, wx = wc ∧ v5 = .pointer (some ⟨b5, 0, none⟩) ∧ Old W0 wx ∧ W0.heap.size ≤ b5 ∧ wx.heap[b5]? = some (.cells #[v11] 96 (0, 0)) ∧ OwnsR wx W0.heap.size 9 1 (oneL encStr) v11 L ∧ (∀ s, s ∈ L ↔ s ∈ lp.map nameL ∨ s ∈ lq.map nameL) ∧ L.length ≤ 12)
 case first =>
  have rd : Old W0 W0.drew := (Keeps.refl _ _).drew
  refine wp_region_g (S := fun W => Old W0 W) (M := [0, 1, 2, 3, 4, 5, 6]) (by kernel_rfl) ?_
  refine tkG (i := 0) (v := ?va0) ?ya0 rd ?ra0
  case ya0 => (intro W hSw; have q := (blk1 ((hSw.block _ (lt_of_heap H.out.2.1) (fun f => f)).trans H.out.2.1)).1; go_simp; try with_reducible rfl)
  try simp only [Act.put, List.setIfInBounds_toArray, List.set_cons_zero, List.set_cons_succ]
  refine tkG (i := 2) (v := ?va2) ?ya2 rd ?ra2
  case ya2 => (intro W hSw; have q := (blk1 ((hSw.block _ (lt_of_heap H.out.2.2.1) (fun f => f)).trans H.out.2.2.1)).1; go_simp; try with_reducible rfl)
  try simp only [Act.put, List.setIfInBounds_toArray, List.set_cons_zero, List.set_cons_succ]
  refine wpAnyG_ready (rs := [1, 5]) (by kernel_rfl) (by simp) ?_
  refine AllReadyG.cons (o := _) rfl (fun K hK => ?_) (AllReadyG.cons (o := _) rfl (fun K hK => ?_) AllReadyG.nil)
  ·go_simp
   refine (N1.out _ rd).mono ?_
   rintro e y1 ⟨v8, rfl, M1, hM1, hl1, ho1, k1⟩
   have o1 : Old W0 y1 := rd.trans k1
   have A1 := Lib.hid (And.intro (ho1.mono (B' := W0.heap.size) rd.size) (And.intro hM1 hl1))
   clear hM1 hl1 ho1 k1
   go_wp2_with fail
   refine hK.out _ _ (fun _ => o1) ?_
   clear hK K
   try simp only [Act.put, List.setIfInBounds_toArray, List.set_cons_zero, List.set_cons_succ]
   refine wpAnyG_ready (rs := [3, 5]) (by kernel_rfl) (by simp) ?_
   refine AllReadyG.cons (o := _) rfl (fun K hK => ?_) (AllReadyG.cons (o := _) rfl (fun K hK => ?_) AllReadyG.nil)
   ·go_simp
    refine (N2.out _ o1).mono ?_
    rintro e y2 ⟨v10, rfl, M2, hM2, hl2, ho2, k1⟩
    have o2 : Old W0 y2 := o1.trans k1
    have A2 := Lib.hid (And.intro ((A1.out.1).old k1) (And.intro (OwnsR.sees (enc := oneL encStr) ho2 (fun _ => rfl) (by decide)) (And.intro hM2 hl2)))
    clear hM2 hl2 ho2 k1
    go_wp2_with fail
    refine hK.out _ _ (fun _ => o2) ?_
    clear hK K
    try simp only [Act.put, List.setIfInBounds_toArray, List.set_cons_zero, List.set_cons_succ]
    refine wpAnyG_ready (rs := [4, 5]) (by kernel_rfl) (by simp) ?_
    refine AllReadyG.cons (o := _) rfl (fun K hK => ?_) (AllReadyG.cons (o := _) rfl (fun K hK => ?_) AllReadyG.nil)
    ·refine step_append_rows (P := Tryz.prog) rfl _ _ 96 rfl W0.heap.size 9 1 16 (oneL encStr) _ Tryz.underlying96 Tryz.infoStrD rfl (by decide) v8 M1 (by rfl) A2.out.1 v10 M2 (by rfl) A2.out.2.1 (fun _ _ => rfl) (by simp [oneL, Value.oneCell']) (by unfold maxLen; have := A1.out.2.2; have := A2.out.2.2.2; omega) (by have := A1.out.2.2; have := A2.out.2.2.2; omega) o2.size ?_
     intro v11 y3 ho11 hg11 _
     have o3 : Old W0 y3 := o2.grown hg11 (fun k e hk => by have := (A2.out.1.block k e).1; omega)
     have AP := Lib.hid (And.intro ho11 (And.intro (show ∀ s, s ∈ M1 ++ M2 ↔ s ∈ lp.map nameL ∨ s ∈ lq.map nameL from fun s => by rw [List.mem_append, A1.out.2.1 s, A2.out.2.2.1 s]) (show (M1 ++ M2).length ≤ 12 by rw [List.length_append]; have := A1.out.2.2; have := A2.out.2.2.2; omega)))
     clear ho11 hg11
     refine hK.out _ _ (fun _ => o3) ?_
     clear hK K
     try simp only [Act.put, List.setIfInBounds_toArray]
     refine wpAnyG_onlyL (i := 5) (o := _) (by kernel_rfl) rfl (fun K hK => ?_)
     go_simp
     obtain ⟨y4, hy4⟩ : ∃ W', y3.alloc (.cells #[.slice none 0 0] 96) = W' := ⟨_, rfl⟩
     have kA : Old y3 y4 := by rw [← hy4]; exact (Keeps.refl _ _).alloc _
     have o4 : Old W0 y4 := o3.trans kA
     have bA : y4.heap[y3.heap.size]? = some (.cells #[.slice none 0 0] 96 (0, 0)) := by rw [← hy4]; exact heap_alloc_new _ _
     obtain ⟨b5, hb5⟩ : ∃ b5, y3.heap.size = b5 := ⟨_, rfl⟩
     have zA := o3.size
     rw [hb5] at bA zA
     rw [hy4]
     try rw [hb5]
     have AL := Lib.hid (And.intro zA bA)
     have AP' := Lib.hid (And.intro (AP.out.1.old kA) AP.out.2)
     clear AP
     have AP := AP'
     clear AP'
     clear kA bA zA hy4 hb5
     refine hK.out _ _ (fun _ => o4) ?_
     clear hK K
     try simp only [Act.put, List.setIfInBounds_toArray, List.set_cons_zero, List.set_cons_succ]
     obtain ⟨p9, n9, c9, e9⟩ : ∃ p n c, v11 = .slice p n c := by obtain ⟨p, c, e, _⟩ := (OwnsR.sees (enc := oneL encStr) AP.out.1 (fun _ => rfl) (by decide)).len; exact ⟨_, _, _, e⟩
     subst e9
     have q9 := blk1 AL.out.2
     refine wpAnyG_onlyL (i := 6) (o := _) (by kernel_rfl) rfl (fun K hK => ?_)
     go_simp
     have kS := keepV y4 b5 0 (.slice p9 n9 c9)
     have oS : Old W0 (y4.setCell ⟨b5, 0, none⟩ (.slice p9 n9 c9)) := o4.then kS (fun i hi e => absurd (show i = b5 from e) (by have := AL.out.1; omega))
     have nB : ¬ (Value.slice p9 n9 c9).ownBlock = some b5 := AP.out.1.neD AL.out.2
     have R := Lib.hid (And.intro oS (And.intro AL.out.1 (And.intro (blk1_setD AL.out.2 (.slice p9 n9 c9)) (And.intro (AP.out.1.keeps kS (fun b hb e => nB (by rw [hb]; exact congrArg some e))) (And.intro AP.out.2.1 AP.out.2.2)))))
     refine hK.out _ _ (fun _ => oS) ?_
     clear hK K
     try simp only [Act.put, List.setIfInBounds_toArray, List.set_cons_zero, List.set_cons_succ]
     clear kS oS nB q9
     refine wpAnyG_done (by kernel_rfl) ?_ _
     go_simp
     go_wp2_with fail
     go_meet
     case rel => exact ⟨b5, _, M1 ++ M2, _, rfl, rfl, R.out⟩
    ·go_simp
     obtain ⟨y3, hy3⟩ : ∃ W', y2.alloc (.cells #[.slice none 0 0] 96) = W' := ⟨_, rfl⟩
     have kA : Old y2 y3 := by rw [← hy3]; exact (Keeps.refl _ _).alloc _
     have o3 : Old W0 y3 := o2.trans kA
     have bA : y3.heap[y2.heap.size]? = some (.cells #[.slice none 0 0] 96 (0, 0)) := by rw [← hy3]; exact heap_alloc_new _ _
     obtain ⟨b5, hb5⟩ : ∃ b5, y2.heap.size = b5 := ⟨_, rfl⟩
     have zA := o2.size
     rw [hb5] at bA zA
     rw [hy3]
     try rw [hb5]
     have AL := Lib.hid (And.intro zA bA)
     have A2' := Lib.hid (And.intro (A2.out.1.old kA) (And.intro (A2.out.2.1.old kA) A2.out.2.2))
     clear A2
     have A2 := A2'
     clear A2'
     clear kA bA zA hy3 hb5
     refine hK.out _ _ (fun _ => o3) ?_
     clear hK K
     try simp only [Act.put, List.setIfInBounds_toArray, List.set_cons_zero, List.set_cons_succ]
     refine wpAnyG_onlyL (i := 4) (o := _) (by kernel_rfl) rfl (fun K hK => ?_)
     refine step_append_rows (P := Tryz.prog) rfl _ _ 96 rfl W0.heap.size 9 1 16 (oneL encStr) _ Tryz.underlying96 Tryz.infoStrD rfl (by decide) v8 M1 (by rfl) A2.out.1 v10 M2 (by rfl) A2.out.2.1 (fun _ _ => rfl) (by simp [oneL, Value.oneCell']) (by unfold maxLen; have := A1.out.2.2; have := A2.out.2.2.2; omega) (by have := A1.out.2.2; have := A2.out.2.2.2; omega) o3.size ?_
     intro v11 y4 ho11 hg11 _
     have o4 : Old W0 y4 := o3.grown hg11 (fun k e hk => by have := (A2.out.1.block k e).1; omega)
     have AP := Lib.hid (And.intro ho11 (And.intro (show ∀ s, s ∈ M1 ++ M2 ↔ s ∈ lp.map nameL ∨ s ∈ lq.map nameL from fun s => by rw [List.mem_append, A1.out.2.1 s, A2.out.2.2.1 s]) (show (M1 ++ M2).length ≤ 12 by rw [List.length_append]; have := A1.out.2.2; have := A2.out.2.2.2; omega)))
     have nG : ¬ v8.ownBlock = some b5 := A2.out.1.neD AL.out.2
     have AL' := Lib.hid (And.intro AL.out.1 ((hg11.block _ (lt_of_heap AL.out.2) (fun e => nG e.symm)).trans AL.out.2))
     clear AL nG
     have AL := AL'
     clear AL'
     clear ho11 hg11
     refine hK.out _ _ (fun _ => o4) ?_
     clear hK K
     try simp only [Act.put, List.setIfInBounds_toArray, List.set_cons_zero, List.set_cons_succ]
     obtain ⟨p9, n9, c9, e9⟩ : ∃ p n c, v11 = .slice p n c := by obtain ⟨p, c, e, _⟩ := (OwnsR.sees (enc := oneL encStr) AP.out.1 (fun _ => rfl) (by decide)).len; exact ⟨_, _, _, e⟩
     subst e9
     have q9 := blk1 AL.out.2
     refine wpAnyG_onlyL (i := 6) (o := _) (by kernel_rfl) rfl (fun K hK => ?_)
     go_simp
     have kS := keepV y4 b5 0 (.slice p9 n9 c9)
     have oS : Old W0 (y4.setCell ⟨b5, 0, none⟩ (.slice p9 n9 c9)) := o4.then kS (fun i hi e => absurd (show i = b5 from e) (by have := AL.out.1; omega))
     have nB : ¬ (Value.slice p9 n9 c9).ownBlock = some b5 := AP.out.1.neD AL.out.2
     have R := Lib.hid (And.intro oS (And.intro AL.out.1 (And.intro (blk1_setD AL.out.2 (.slice p9 n9 c9)) (And.intro (AP.out.1.keeps kS (fun b hb e => nB (by rw [hb]; exact congrArg some e))) (And.intro AP.out.2.1 AP.out.2.2)))))
     refine hK.out _ _ (fun _ => oS) ?_
     clear hK K
     try simp only [Act.put, List.setIfInBounds_toArray, List.set_cons_zero, List.set_cons_succ]
     clear kS oS nB q9
     refine wpAnyG_done (by kernel_rfl) ?_ _
     go_simp
     go_wp2_with fail
     go_meet
     case rel => exact ⟨b5, _, M1 ++ M2, _, rfl, rfl, R.out⟩
   ·go_simp
    obtain ⟨y2, hy2⟩ : ∃ W', y1.alloc (.cells #[.slice none 0 0] 96) = W' := ⟨_, rfl⟩
    have kA : Old y1 y2 := by rw [← hy2]; exact (Keeps.refl _ _).alloc _
    have o2 : Old W0 y2 := o1.trans kA
    have bA : y2.heap[y1.heap.size]? = some (.cells #[.slice none 0 0] 96 (0, 0)) := by rw [← hy2]; exact heap_alloc_new _ _
    obtain ⟨b5, hb5⟩ : ∃ b5, y1.heap.size = b5 := ⟨_, rfl⟩
    have zA := o1.size
    rw [hb5] at bA zA
    rw [hy2]
    try rw [hb5]
    have AL := Lib.hid (And.intro zA bA)
    have A1' := Lib.hid (And.intro (A1.out.1.old kA) A1.out.2)
    clear A1
    have A1 := A1'
    clear A1'
    clear kA bA zA hy2 hb5
    refine hK.out _ _ (fun _ => o2) ?_
    clear hK K
    try simp only [Act.put, List.setIfInBounds_toArray, List.set_cons_zero, List.set_cons_succ]
    refine wpAnyG_onlyL (i := 3) (o := _) (by kernel_rfl) rfl (fun K hK => ?_)
    go_simp
    refine (N2.out _ o2).mono ?_
    rintro e y3 ⟨v10, rfl, M2, hM2, hl2, ho2, k1⟩
    have o3 : Old W0 y3 := o2.trans k1
    have A2 := Lib.hid (And.intro ((A1.out.1).old k1) (And.intro (OwnsR.sees (enc := oneL encStr) ho2 (fun _ => rfl) (by decide)) (And.intro hM2 hl2)))
    have AL' := Lib.hid (And.intro AL.out.1 ((k1.block _ (lt_of_heap AL.out.2) (fun f => f)).trans AL.out.2))
    clear AL
    have AL := AL'
    clear AL'
    clear hM2 hl2 ho2 k1
    go_wp2_with fail
    refine hK.out _ _ (fun _ => o3) ?_
    clear hK K
    try simp only [Act.put, List.setIfInBounds_toArray, List.set_cons_zero, List.set_cons_succ]
    refine wpAnyG_onlyL (i := 4) (o := _) (by kernel_rfl) rfl (fun K hK => ?_)
    refine step_append_rows (P := Tryz.prog) rfl _ _ 96 rfl W0.heap.size 9 1 16 (oneL encStr) _ Tryz.underlying96 Tryz.infoStrD rfl (by decide) v8 M1 (by rfl) A2.out.1 v10 M2 (by rfl) A2.out.2.1 (fun _ _ => rfl) (by simp [oneL, Value.oneCell']) (by unfold maxLen; have := A1.out.2.2; have := A2.out.2.2.2; omega) (by have := A1.out.2.2; have := A2.out.2.2.2; omega) o3.size ?_
    intro v11 y4 ho11 hg11 _
    have o4 : Old W0 y4 := o3.grown hg11 (fun k e hk => by have := (A2.out.1.block k e).1; omega)
    have AP := Lib.hid (And.intro ho11 (And.intro (show ∀ s, s ∈ M1 ++ M2 ↔ s ∈ lp.map nameL ∨ s ∈ lq.map nameL from fun s => by rw [List.mem_append, A1.out.2.1 s, A2.out.2.2.1 s]) (show (M1 ++ M2).length ≤ 12 by rw [List.length_append]; have := A1.out.2.2; have := A2.out.2.2.2; omega)))
    have nG : ¬ v8.ownBlock = some b5 := A2.out.1.neD AL.out.2
    have AL' := Lib.hid (And.intro AL.out.1 ((hg11.block _ (lt_of_heap AL.out.2) (fun e => nG e.symm)).trans AL.out.2))
    clear AL nG
    have AL := AL'
    clear AL'
    clear ho11 hg11
    refine hK.out _ _ (fun _ => o4) ?_
    clear hK K
    try simp only [Act.put, List.setIfInBounds_toArray, List.set_cons_zero, List.set_cons_succ]
    obtain ⟨p9, n9, c9, e9⟩ : ∃ p n c, v11 = .slice p n c := by obtain ⟨p, c, e, _⟩ := (OwnsR.sees (enc := oneL encStr) AP.out.1 (fun _ => rfl) (by decide)).len; exact ⟨_, _, _, e⟩
    subst e9
    have q9 := blk1 AL.out.2
    refine wpAnyG_onlyL (i := 6) (o := _) (by kernel_rfl) rfl (fun K hK => ?_)
    go_simp
    have kS := keepV y4 b5 0 (.slice p9 n9 c9)
    have oS : Old W0 (y4.setCell ⟨b5, 0, none⟩ (.slice p9 n9 c9)) := o4.then kS (fun i hi e => absurd (show i = b5 from e) (by have := AL.out.1; omega))
    have nB : ¬ (Value.slice p9 n9 c9).ownBlock = some b5 := AP.out.1.neD AL.out.2
    have R := Lib.hid (And.intro oS (And.intro AL.out.1 (And.intro (blk1_setD AL.out.2 (.slice p9 n9 c9)) (And.intro (AP.out.1.keeps kS (fun b hb e => nB (by rw [hb]; exact congrArg some e))) (And.intro AP.out.2.1 AP.out.2.2)))))
    refine hK.out _ _ (fun _ => oS) ?_
    clear hK K
    try simp only [Act.put, List.setIfInBounds_toArray, List.set_cons_zero, List.set_cons_succ]
    clear kS oS nB q9
    refine wpAnyG_done (by kernel_rfl) ?_ _
    go_simp
    go_wp2_with fail
    go_meet
    case rel => exact ⟨b5, _, M1 ++ M2, _, rfl, rfl, R.out⟩
  ·go_simp
   obtain ⟨y1, hy1⟩ : ∃ W', (W0.alloc (.cells #[.slice none 0 0] 96)).drew = W' := ⟨_, rfl⟩
   have kA : Old W0.drew y1 := by rw [← hy1]; exact ((Keeps.refl (fun _ => False) W0.drew).alloc (.cells #[.slice none 0 0] 96))
   have o1 : Old W0 y1 := rd.trans kA
   have bA : y1.heap[W0.heap.size]? = some (.cells #[.slice none 0 0] 96 (0, 0)) := by rw [← hy1]; exact heap_alloc_new _ _
   obtain ⟨b5, hb5⟩ : ∃ b5, W0.heap.size = b5 := ⟨_, rfl⟩
   have zA : W0.heap.size ≤ b5 := Nat.le_of_eq hb5
   rw [hb5] at bA
   rw [hy1]
   try rw [hb5]
   have AL := Lib.hid (And.intro zA bA)
   clear kA bA zA hy1 hb5
   refine hK.out _ _ (fun _ => o1) ?_
   clear hK K
   try simp only [Act.put, List.setIfInBounds_toArray, List.set_cons_zero, List.set_cons_succ]
   refine wpAnyG_onlyL (i := 1) (o := _) (by kernel_rfl) rfl (fun K hK => ?_)
   go_simp
   refine (N1.out _ o1).mono ?_
   rintro e y2 ⟨v8, rfl, M1, hM1, hl1, ho1, k1⟩
   have o2 : Old W0 y2 := o1.trans k1
   have A1 := Lib.hid (And.intro (ho1.mono (B' := W0.heap.size) o1.size) (And.intro hM1 hl1))
   have AL' := Lib.hid (And.intro AL.out.1 ((k1.block _ (lt_of_heap AL.out.2) (fun f => f)).trans AL.out.2))
   clear AL
   have AL := AL'
   clear AL'
   clear hM1 hl1 ho1 k1
   go_wp2_with fail
   refine hK.out _ _ (fun _ => o2) ?_
   clear hK K
   try simp only [Act.put, List.setIfInBounds_toArray, List.set_cons_zero, List.set_cons_succ]
   refine wpAnyG_onlyL (i := 3) (o := _) (by kernel_rfl) rfl (fun K hK => ?_)
   go_simp
   refine (N2.out _ o2).mono ?_
   rintro e y3 ⟨v10, rfl, M2, hM2, hl2, ho2, k1⟩
   have o3 : Old W0 y3 := o2.trans k1
   have A2 := Lib.hid (And.intro ((A1.out.1).old k1) (And.intro (OwnsR.sees (enc := oneL encStr) ho2 (fun _ => rfl) (by decide)) (And.intro hM2 hl2)))
   have AL' := Lib.hid (And.intro AL.out.1 ((k1.block _ (lt_of_heap AL.out.2) (fun f => f)).trans AL.out.2))
   clear AL
   have AL := AL'
   clear AL'
   clear hM2 hl2 ho2 k1
   go_wp2_with fail
   refine hK.out _ _ (fun _ => o3) ?_
   clear hK K
   try simp only [Act.put, List.setIfInBounds_toArray, List.set_cons_zero, List.set_cons_succ]
   refine wpAnyG_onlyL (i := 4) (o := _) (by kernel_rfl) rfl (fun K hK => ?_)
   refine step_append_rows (P := Tryz.prog) rfl _ _ 96 rfl W0.heap.size 9 1 16 (oneL encStr) _ Tryz.underlying96 Tryz.infoStrD rfl (by decide) v8 M1 (by rfl) A2.out.1 v10 M2 (by rfl) A2.out.2.1 (fun _ _ => rfl) (by simp [oneL, Value.oneCell']) (by unfold maxLen; have := A1.out.2.2; have := A2.out.2.2.2; omega) (by have := A1.out.2.2; have := A2.out.2.2.2; omega) o3.size ?_
   intro v11 y4 ho11 hg11 _
   have o4 : Old W0 y4 := o3.grown hg11 (fun k e hk => by have := (A2.out.1.block k e).1; omega)
   have AP := Lib.hid (And.intro ho11 (And.intro (show ∀ s, s ∈ M1 ++ M2 ↔ s ∈ lp.map nameL ∨ s ∈ lq.map nameL from fun s => by rw [List.mem_append, A1.out.2.1 s, A2.out.2.2.1 s]) (show (M1 ++ M2).length ≤ 12 by rw [List.length_append]; have := A1.out.2.2; have := A2.out.2.2.2; omega)))
   have nG : ¬ v8.ownBlock = some b5 := A2.out.1.neD AL.out.2
   have AL' := Lib.hid (And.intro AL.out.1 ((hg11.block _ (lt_of_heap AL.out.2) (fun e => nG e.symm)).trans AL.out.2))
   clear AL nG
   have AL := AL'
   clear AL'
   clear ho11 hg11
   refine hK.out _ _ (fun _ => o4) ?_
   clear hK K
   try simp only [Act.put, List.setIfInBounds_toArray, List.set_cons_zero, List.set_cons_succ]
   obtain ⟨p9, n9, c9, e9⟩ : ∃ p n c, v11 = .slice p n c := by obtain ⟨p, c, e, _⟩ := (OwnsR.sees (enc := oneL encStr) AP.out.1 (fun _ => rfl) (by decide)).len; exact ⟨_, _, _, e⟩
   subst e9
   have q9 := blk1 AL.out.2
   refine wpAnyG_onlyL (i := 6) (o := _) (by kernel_rfl) rfl (fun K hK => ?_)
   go_simp
   have kS := keepV y4 b5 0 (.slice p9 n9 c9)
   have oS : Old W0 (y4.setCell ⟨b5, 0, none⟩ (.slice p9 n9 c9)) := o4.then kS (fun i hi e => absurd (show i = b5 from e) (by have := AL.out.1; omega))
   have nB : ¬ (Value.slice p9 n9 c9).ownBlock = some b5 := AP.out.1.neD AL.out.2
   have R := Lib.hid (And.intro oS (And.intro AL.out.1 (And.intro (blk1_setD AL.out.2 (.slice p9 n9 c9)) (And.intro (AP.out.1.keeps kS (fun b hb e => nB (by rw [hb]; exact congrArg some e))) (And.intro AP.out.2.1 AP.out.2.2)))))
   refine hK.out _ _ (fun _ => oS) ?_
   clear hK K
   try simp only [Act.put, List.setIfInBounds_toArray, List.set_cons_zero, List.set_cons_succ]
   clear kS oS nB q9
   refine wpAnyG_done (by kernel_rfl) ?_ _
   go_simp
   go_wp2_with fail
   go_meet
   case rel => exact ⟨b5, _, M1 ++ M2, _, rfl, rfl, R.out⟩
 case rest =>
  obtain ⟨b5, v11, L, wx, rfl, rfl, ox, g5, f5, own, hall, hlen⟩ := hcut
  obtain ⟨p3, c3, e3, _, _⟩ := (OwnsR.sees (enc := oneL encStr) own (fun _ => rfl) (by decide)).len
  have q5 := (blk1 f5).1
  have T := Lib.hid (And.intro ox (And.intro g5 (And.intro f5 (And.intro own (And.intro hall hlen)))))
  have SS := Lib.hid (sort_strs v11 L W0.heap.size wx own (by omega))
  clear ox g5 f5 own hall hlen
  subst e3
  go_wp2_with fail
  refine SS.out.mono ?_
  rintro e w4 ⟨rfl, M, hM, ho4, k4⟩
  obtain ⟨W6, hW6⟩ : ∃ W6, w4.alloc (.cells #[.func (.func 145) #[] #[.pointer (some ⟨w.heap.size, 0, none⟩), .pointer (some ⟨w.heap.size + 1, 0, none⟩)]] (195)) = W6 := ⟨_, rfl⟩
  have o6 : Old w4 W6 := by rw [← hW6]; exact (Keeps.refl _ _).alloc _
  have b6 : W6.heap[w4.heap.size]? = some (.cells #[.func (.func 145) #[] #[.pointer (some ⟨w.heap.size, 0, none⟩), .pointer (some ⟨w.heap.size + 1, 0, none⟩)]] (195) (0, 0)) := by rw [← hW6]; exact heap_alloc_new _ _
  have k6 := k4.then o6 (fun _ _ f => f.elim)
  have hlo : ∀ k, (Value.slice p3 L.length c3).ownBlock = some k → W0.heap.size ≤ k := fun k e => (T.out.2.2.2.1.block k e).1
  have hn5 : ¬ (Value.slice p3 L.length c3).ownBlock = some b5 := T.out.2.2.2.1.neD T.out.2.2.1
  have ow : Old W0 W6 := T.out.1.then k6 (fun i hi e => absurd (hlo i e) (by omega))
  have hW0z : w.heap.size + 2 = W0.heap.size := H.out.2.2.2.symm
  have F := Lib.hid (show AskM w (.slice p1 lp.length c1) (.slice p2 lq.length c2) lp lq b5 w4.heap.size w.heap.size (w.heap.size + 1) (.slice p3 L.length c3) M W6 from
   ⟨H.out.1.trans ow, (ow.block _ (lt_of_heap H.out.2.1) (fun f => f)).trans H.out.2.1, (ow.block _ (lt_of_heap H.out.2.2.1) (fun f => f)).trans H.out.2.2.1,
    (k6.block _ (lt_of_heap T.out.2.2.1) hn5).trans T.out.2.2.1, b6, (ho4.old o6).mono (by omega), fun s => (hM.mem_iff).trans (T.out.2.2.2.2.1 s), by rw [hM.length_eq]; exact T.out.2.2.2.2.2⟩)
  clear hM ho4 k4 o6 b6 k6 hlo hn5 ow q5 hW0z
  go_wp2_with fail
  try rw [hW6]
  go_ret
  exact ⟨_, _, _, _, rfl, F.out⟩
end
section
open Go.RowKit
abbrev lrec (fn : FuncId) (tmps : Array Value) (ps : Array Tmp) (assign body : Code) (D : Nat) (st : LoopState) : Loop := { state := st, pending := none, fn := fn, tmps := tmps, params := ps, assign := assign, body := body, defers := D }
def loopW (w : World) (r : Loop) : World := (w.alloc (.deferred (some []))).alloc (.loop r)
theorem loopW_rec (w : World) (r : Loop) : (loopW w r).heap[w.heap.size + 1]? = some (.loop r) := by
 unfold loopW
 have := World.alloc_heap_new (w.alloc (.deferred (some []))) (.loop r)
 rwa [World.size_alloc] at this
theorem loopW_def (w : World) (r : Loop) : (loopW w r).heap[w.heap.size]? = some (.deferred (some [])) := by
 unfold loopW
 exact (Below.heap_alloc _ _ _ (by simp)).trans (World.alloc_heap_new w _)
theorem loopW_old (w : World) (r : Loop) : Old w (loopW w r) := ((Keeps.refl _ _).alloc _).alloc _
theorem Keeps.putObj {S : Nat → Prop} {a w : World} (h : Keeps S a w) {r : Nat} (hp : r < a.heap.size → S r) (o : Obj) : Keeps S a (w.putObj r o) :=
 ⟨h.os, h.tape, h.output, by simpa using h.size, fun k hk hs => (World.putObj_heap_other (fun e => hs (by subst e; exact hp hk))).trans (h.block k hk hs)⟩
theorem wp_rangeFunc {P : Program} {g : Operand} {ps : Array Tmp} {assign body : Code} {Q : Exit → Act → World → Prop} {a : Act} {w : World} {gf : Nat} {lb : Array Value}
  (hg : a.eval g = .func (.func gf) #[] lb) (eg : ∀ args w, (callFunc gf args).run P w = .ok (.enter gf args) w)
  (h : ∀ fn, Calls P gf (#[.func (.yield (w.heap.size + 1)) #[] #[]] ++ lb) (loopW w (lrec fn a.tmps ps assign body w.heap.size .ready)) fun e W' =>
   (∃ v, e = .returned v) ∧ W'.heap[w.heap.size + 1]? = some (.loop (lrec fn a.tmps ps assign body w.heap.size .ready)) ∧
   Q .normal { a with defers := { target := .collected w.heap.size, args := #[] } :: a.defers } (W'.putObj (w.heap.size + 1) (.loop (lrec fn a.tmps ps assign body w.heap.size .exhausted)))) :
  (Code.rangeFunc g ps assign body).wp P Q a w := by
 refine (wpIn_wide (n := 1)).1 (wpIn_rangeFunc ?_)
 intro fn _
 refine ⟨w.heap.size + 1, [{ target := .collected w.heap.size, args := #[] }], loopW w (lrec fn a.tmps ps assign body w.heap.size .ready), { target := .fn (.func gf) lb, args := #[.func (.yield (w.heap.size + 1)) #[] #[]] },
  loopW w (lrec fn a.tmps ps assign body w.heap.size .ready), gf, #[.func (.yield (w.heap.size + 1)) #[] #[]] ++ lb, loopW w (lrec fn a.tmps ps assign body w.heap.size .ready), ?_, ?_, ?_, ?_, fun _ => Nat.le_refl _, ?_⟩
 ·exact run_enterLoop_outer _ _ _ _ _
 ·simp only [resolve, hg]
  simp [go_sem]
 ·intro f' _; trivial
 ·simp [invoke, go_sem, eg]
 ·refine callsIn_wide.2 ((h fn).mono ?_)
  rintro e W' ⟨⟨v, rfl⟩, hl, hq⟩
  exact ⟨none, _, run_endLoop hl (by simp), hq⟩
def Round (P : Program) (l : Nat) (args : Array Value) (W : World) (R : World → Prop) : Prop :=
 ∃ fn tmps assign body, (Instr.yield l args).run P W = .ok (.round l fn tmps assign body) W ∧ RoundIn Fence.wide 0 P l fn tmps assign body W fun e w' => e = .returned (.bool true) ∧ R w'
theorem Round.of {P : Program} {l : Nat} {args : Array Value} {W : World} {R : World → Prop} {fn : FuncId} {tmps : Array Value} {ps : Array Tmp} {assign body : Code} {D : Nat}
  (hl : W.heap[l]? = some (.loop (lrec fn tmps ps assign body D .ready))) (hs : args.size = ps.size)
  (h : assign.wpIn (Fence.wide.inRound l) 0 P (Exit.then (fun a₁ w₁ => w₁.heap[l]? = some (.loop (lrec fn tmps ps assign body D .ready)) ∧
   body.wpIn (Fence.wide.inRound l) 0 P (fun e _ w₂ => e = .normal ∧ w₂.heap[l]? = some (.loop (lrec fn tmps ps assign body D .busy)) ∧ R (w₂.putObj l (.loop (lrec fn tmps ps assign body D .ready)))) a₁ (w₁.putObj l (.loop (lrec fn tmps ps assign body D .busy)))) (fun _ _ _ => False))
   { tmps := (ps.zip args).foldl (fun t (p, v) => t.setIfInBounds p v) tmps, defers := [] } W) : Round P l args W R := by
 refine ⟨fn, _, assign, body, run_yield hl hs, roundIn_of_wpIn trivial (wpIn_mono h ?_)⟩
 intro e a w hq
 cases e with
 | normal =>
  obtain ⟨hl1, hb⟩ := hq
  refine ⟨_, run_beginRound hl1 rfl, wpIn_mono hb ?_⟩
  rintro e2 a2 w2 ⟨rfl, hl2, hR⟩
  exact ⟨_, _, run_endRound none hl2, rfl, hR⟩
 | ret => exact hq.elim
 | exit id => exact hq.elim
 | goto t => exact hq.elim
 | panic ch => exact hq.elim
 | outgrown => exact hq.elim
theorem calls_of_marks {P : Program} {f : FuncId} {fn : Func} {c : Code} {args : Array Value} {w : World} {R : Ending → World → Prop} (hf : P.funcs[f]? = some fn) (hb : fn.body = some c)
  (h : c.wp P (bodyPostM Fence.wide 0 P fn R) { tmps := args ++ Array.replicate (fn.ntmps - args.size) undef, defers := [] } w) : Calls P f args w R :=
 (callsIn_wide (n := 0)).1 (callsIn_of_wp_marks hf hb trivial (wpIn_wide.2 h) rfl)
theorem post_mark {P : Program} {fn : Func} {R : Ending → World → Prop} {a : Act} {w : World} {D : Nat} {v : Value} (hd : a.defers = [{ target := .collected D, args := #[] }]) (hD : w.heap[D]? = some (.deferred (some [])))
  (hr : (results fn a.tmps).run P (w.putObj D (.deferred none)) = .ok v (w.putObj D (.deferred none))) (hR : R (.returned v) (w.putObj D (.deferred none))) : bodyPostM Fence.wide 0 P fn R .ret a w := by
 show LeavesInM Fence.wide 0 P fn a.tmps R a.defers .returning w
 rw [hd]
 exact ⟨by simp, .inl ⟨_, _, rfl, run_takeDeferred hD, ⟨v, hr, hR⟩⟩⟩
end
end Go.Proofs.YtehmlaplodjenaaGreat
