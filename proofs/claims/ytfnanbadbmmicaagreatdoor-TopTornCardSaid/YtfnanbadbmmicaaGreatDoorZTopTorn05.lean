/- DERIVED. disk: Append. · DERIVED. disk: Sync, Read. · DERIVED. disk: bytes turned in place; what a crash leaves, plain. -/
import Derived.Test.YtfnanbadbmmicaaGreatDoorZTopTorn04
import Derived.Deep.DeepCutAuto
import Derived.Test.YtfnanbadbmmicaaGreatDoorZTopTorn02
namespace Go.Proofs.YtfnanbadbmmicaaGreatDoor
open Go.RowKit

theorem Owns.ne {w : World} {B : Nat} {v : Value} {l : List UInt8} {k : Nat} {o : Obj} (h : Owns w B v l) (hk : w.heap[k]? = some o) (hno : ∀ cur, o ≠ .cells cur 5 (0, 0)) : v.ownBlock ≠ some k := by
 obtain ⟨_, rfl | ⟨g, cap, cur, rfl, hb, hgg, _⟩⟩ := And.intro h.1 (h.2.imp And.left id)
 ·simp [Value.ownBlock]
 ·intro e
  simp only [Value.ownBlock, Option.some.injEq] at e
  subst e
  rw [hgg] at hk
  exact hno cur (Option.some.inj hk).symm
theorem Dk.make {w : World} {B d m f : Nat} {v : Value} {q : Nat} {L : List UInt8} {fast : Nat} (h1 : DkD w d m q) (h2 : DkM w m f) (h3 : w.heap[f]? = some (.cells #[v, .int .i64 (fast : Int)] 56 (0, 0))) (h4 : Owns w B v L) : Dk w B d m f v q L fast := by
 have t1 : 49 ≠ 5 := by decide
 have t2 : 56 ≠ 5 := by decide
 have t3 : 49 ≠ 56 := by decide
 refine ⟨h1, h2, h3, h4, ?_, ?_, ?_, h4.ne h1 (fun cur e => ?_), h4.ne h2 (fun cur e => (by cases e)), h4.ne h3 (fun cur e => ?_)⟩
 ·rintro rfl; have := h1.symm.trans h2; cases this
 ·rintro rfl
  have := h1.symm.trans h3
  simp only [Option.some.injEq, Obj.cells.injEq] at this
  exact t3 this.2.1
 ·rintro rfl; have := h2.symm.trans h3; cases this
 ·simp only [Obj.cells.injEq] at e; exact t1 e.2.1
 ·simp only [Obj.cells.injEq] at e; exact t2 e.2.1
theorem step_append_bytes_at {w : World} {ops : Array Oper} {o : Oper} {a : Act} {K : Act → World → Prop} {Q : Exit → Act → World → Prop} {G : Prop} (hgd : o.guard = none) (s x : Operand)
  (ho : o.op = .call { callee := .builtin .append, args := #[s, x], argTypes := #[25, 25] })
  (B : Nat) (v : Value) (l : List UInt8) (hs : a.eval s = v) (hown : Owns w B v l) (u : Value) (m : List UInt8) (hx : a.eval x = u) (hu : Sees w u m)
  (hlen : l.length + m.length ≤ 1000000000) (hB : B ≤ w.heap.size)
  (h : ∀ v' w', Owns w' B v' (l ++ m) → w.grownBy w' v.ownBlock → (v'.ownBlock = v.ownBlock ∨ v'.ownBlock = some w.heap.size) → K (a.put o.dst v') w') :
  if Region.wanted o (yielded ops a.tmps) = true then Oper.wp Tryz.prog o a w K Q else G :=
 step_append_rows (P := Tryz.prog) hgd s x 25 ho B 5 1 1 (fun b => [u8 b]) _ Tryz.underlying25 Tryz.infoU8 rfl (by decide) v l hs (ownsR_u8.2 hown) u m hx (seesR_u8 hu) (fun _ _ => rfl)
  (fun y _ c hc => by simp at hc; subst hc; rfl) (by unfold maxLen; omega) (by omega) hB (fun v' w' h1 h2 h3 => h v' w' (ownsR_u8.1 h1) h2 h3)
theorem asks_append {bb pb B d m f : Nat} {v : Value} {q : Nat} {L M : List UInt8} {fast : Nat} {u : Value} {w : World} (h : Dk w B d m f v q L fast) (hb : w.heap[bb]? = some (.cells #[u] 25 (0, 0))) (hu : Sees w u M)
  (hp : w.heap[pb]? = some (.cells #[.pointer (some ⟨d, 0, none⟩)] 26 (0, 0))) (hq : q ≤ 4194304) (hr : M.length + L.length ≤ q) :
  Asks w (.func (.func 28) #[] #[.pointer (some ⟨bb, 0, none⟩), .pointer (some ⟨pb, 0, none⟩)]) :=
 ⟨_, _, _, rfl, enters_append1, fun W k => append1_any bb pb B d m f v q L M fast u W (h.old k) ((k.block _ (hp_lt hb) (fun f => f)).trans hb) (hu.old k) ((k.block _ (hp_lt hp) (fun f => f)).trans hp) hq hr⟩

set_option maxRecDepth 100000 in
set_option maxHeartbeats 2000000 in
theorem append_any (B d m f : Nat) (v : Value) (q : Nat) (L M : List UInt8) (fast : Nat) (u : Value) (w : World) (h : Dk w B d m f v q L fast) (hu : Sees w u M) (hub : ∀ k, u.ownBlock = some k → k ≠ f) (hB : B ≤ w.heap.size) (hq : q ≤ 4194304) (hr : M.length + L.length ≤ q) :
  Calls Tryz.prog 9 #[.pointer (some ⟨d, 0, none⟩), .string logS, u] w fun e w' => e = .returned (.int .i64 0) ∧ ∃ v', Dk w' B d m f v' q (L ++ M) fast ∧ (∀ k, v'.ownBlock = some k → v.ownBlock = some k ∨ w.heap.size ≤ k) ∧ Keeps (fun k => k = f ∨ v.ownBlock = some k) w w' := by
 obtain ⟨pu, cu, rfl, _, _⟩ := hu.len
 obtain ⟨W0, hW0⟩ : ∃ W0, (w.alloc (.cells #[.pointer (some ⟨d, 0, none⟩)] 26)).alloc (.cells #[.slice pu M.length cu] 25) = W0 := ⟨_, rfl⟩
 have z0 : W0.heap.size = w.heap.size + 2 := by rw [← hW0]; simp
 have o0 : Old w W0 := by rw [← hW0]; exact ((Keeps.refl _ _).alloc _).alloc _
 have a1 : W0.heap[w.heap.size]? = some (.cells #[.pointer (some ⟨d, 0, none⟩)] 26 (0, 0)) := by rw [← hW0, Below.heap_alloc _ _ _ (by simp)]; exact heap_alloc_new _ _
 have a2 : W0.heap[w.heap.size + 1]? = some (.cells #[.slice pu M.length cu] 25 (0, 0)) := by rw [← hW0]; have := heap_alloc_new (w.alloc (.cells #[.pointer (some ⟨d, 0, none⟩)] 26)) (.cells #[.slice pu M.length cu] 25); rwa [World.size_alloc] at this
 have H0 := Lib.hid (And.intro (o0.drew) (And.intro (show W0.drew.heap[w.heap.size]? = _ from a1) (And.intro (show W0.drew.heap[w.heap.size + 1]? = _ from a2) (And.intro (h.old o0.drew) (And.intro (hu.old o0.drew) (And.intro z0 (And.intro hB (And.intro hub h))))))))
 have TH := Lib.hid (there_any d W0.drew)
 have hS : W0.drew.cell? ⟨w.heap.size, 0, none⟩ = some (.pointer (some ⟨d, 0, none⟩)) := (blk1 a1).1
 have HW := Lib.hid hW0
 clear h hu hub hB z0 o0 a1 a2 hW0
 go_enter Tryz.func9, Tryz.ntmps9
 go_wp2_with fail
 rw [HW.out]
 clear HW
 refine wp_region_g (S := fun W => W.cell? ⟨w.heap.size, 0, none⟩ = some (.pointer (some ⟨d, 0, none⟩))) (M := [0, 1, 2, 3, 4, 5, 6, 7, 8, 9, 10]) (by kernel_rfl) ?_
 refine wpAnyG_takeL (i := 0) (oi := _) (v := ?va0) rfl (by kernel_rfl) (by kernel_rfl) (by kernel_rfl) (by kernel_rfl) (fun _ _ _ h => h) (Or.inl ⟨by rfl, ?ya0⟩) hS ?ra0
 case ya0 => (intro W hSw; go_simp; try with_reducible rfl)
 try simp only [Act.put, List.setIfInBounds_toArray, List.set_cons_zero, List.set_cons_succ]
 refine wpAnyG_takeL (i := 1) (oi := _) (v := ?va1) rfl (by kernel_rfl) (by kernel_rfl) (by kernel_rfl) (by kernel_rfl) (fun _ _ _ h => h) (Or.inl ⟨by rfl, ?ya1⟩) hS ?ra1
 case ya1 => (intro W hSw; go_simp; try with_reducible rfl)
 try simp only [Act.put, List.setIfInBounds_toArray, List.set_cons_zero, List.set_cons_succ]
 refine wpAnyG_takeL (i := 2) (oi := _) (v := ?va2) rfl (by kernel_rfl) (by kernel_rfl) (by kernel_rfl) (by kernel_rfl) (fun _ _ _ h => h) (Or.inl ⟨by rfl, ?ya2⟩) hS ?ra2
 case ya2 => (intro W hSw; go_simp; try with_reducible rfl)
 try simp only [Act.put, List.setIfInBounds_toArray, List.set_cons_zero, List.set_cons_succ]
 refine wpAnyG_takeL (i := 3) (oi := _) (v := ?va3) rfl (by kernel_rfl) (by kernel_rfl) (by kernel_rfl) (by kernel_rfl) (fun _ _ _ h => h) (Or.inl ⟨by rfl, ?ya3⟩) hS ?ra3
 case ya3 => (intro W hSw; go_simp; try with_reducible rfl)
 try simp only [Act.put, List.setIfInBounds_toArray, List.set_cons_zero, List.set_cons_succ]
 refine wpAnyG_takeL (i := 5) (oi := _) (v := ?va5) rfl (by kernel_rfl) (by kernel_rfl) (by kernel_rfl) (by kernel_rfl) (fun _ _ _ h => h) (Or.inl ⟨by rfl, ?ya5⟩) hS ?ra5
 case ya5 => (intro W hSw; go_simp; try with_reducible rfl)
 try simp only [Act.put, List.setIfInBounds_toArray, List.set_cons_zero, List.set_cons_succ]
 refine wpAnyG_takeL (i := 6) (oi := _) (v := ?va6) rfl (by kernel_rfl) (by kernel_rfl) (by kernel_rfl) (by kernel_rfl) (fun _ _ _ h => h) (Or.inl ⟨by rfl, ?ya6⟩) hS ?ra6
 case ya6 => (intro W hSw; go_simp; try with_reducible rfl)
 try simp only [Act.put, List.setIfInBounds_toArray, List.set_cons_zero, List.set_cons_succ]
 refine wpAnyG_takeL (i := 7) (oi := _) (v := ?va7) rfl (by kernel_rfl) (by kernel_rfl) (by kernel_rfl) (by kernel_rfl) (fun _ _ _ h => h) (Or.inl ⟨by rfl, ?ya7⟩) hS ?ra7
 case ya7 => (intro W hSw; go_simp; try with_reducible rfl)
 try simp only [Act.put, List.setIfInBounds_toArray, List.set_cons_zero, List.set_cons_succ]
 refine wpAnyG_onlyL (i := 4) (o := _) (by kernel_rfl) rfl (fun K hK => ?_)
 go_simp
 refine TH.out.mono ?_
 rintro e w1 ⟨rfl, hx1, hx2, o1⟩
 have hS1 : w1.cell? ⟨w.heap.size, 0, none⟩ = some (.pointer (some ⟨d, 0, none⟩)) := o1.cell hS (fun f => f)
 have H1 := Lib.hid (And.intro o1 (And.intro hx1 hx2))
 clear o1 hx1 hx2
 go_wp2_with fail
 refine hK.out _ _ (fun _ => hS1) ?_
 clear hK K
 try simp only [Act.put, List.setIfInBounds_toArray, List.set_cons_zero, List.set_cons_succ]
 refine wpAnyG_onlyL (i := 8) (o := _) (by kernel_rfl) rfl (fun K hK => ?_)
 go_simp
 obtain ⟨w3, hw3⟩ : ∃ w3, w1.alloc (.cells #[.func (.func 15) #[.pointer (some ⟨d, 0, none⟩)] #[], .func (.func 43) #[] #[.pointer (some ⟨W0.heap.size + 1, 0, none⟩), .pointer (some ⟨W0.heap.size, 0, none⟩)],
  .func (.func 28) #[] #[.pointer (some ⟨w.heap.size + 1, 0, none⟩), .pointer (some ⟨w.heap.size, 0, none⟩)], .func (.func 20) #[.pointer (some ⟨d, 0, none⟩)] #[]] 51) = w3 := ⟨_, rfl⟩
 have o3 : Old w1 w3 := by rw [← hw3]; exact (Keeps.refl _ _).alloc _
 have s3 := sees4 w1 51 (.func (.func 15) #[.pointer (some ⟨d, 0, none⟩)] #[]) (.func (.func 43) #[] #[.pointer (some ⟨W0.heap.size + 1, 0, none⟩), .pointer (some ⟨W0.heap.size, 0, none⟩)])
  (.func (.func 28) #[] #[.pointer (some ⟨w.heap.size + 1, 0, none⟩), .pointer (some ⟨w.heap.size, 0, none⟩)]) (.func (.func 20) #[.pointer (some ⟨d, 0, none⟩)] #[])
 rw [hw3] at s3 ⊢
 have k03 : Old W0.drew w3 := H1.out.1.trans o3
 have e1 := (k03.block _ (hp_lt H0.out.2.1) (fun f => f)).trans H0.out.2.1
 have e2 := (k03.block _ (hp_lt H0.out.2.2.1) (fun f => f)).trans H0.out.2.2.1
 have hd3 := H0.out.2.2.2.1.old k03
 have hu3 := H0.out.2.2.2.2.1.old k03
 have hx1 := (o3.block _ (hp_lt H1.out.2.1) (fun f => f)).trans H1.out.2.1
 have hx2 := (o3.block _ (hp_lt H1.out.2.2) (fun f => f)).trans H1.out.2.2
 have F := Lib.hid (first_ok _ _ w3 s3 (by simp) (by simp) (by
  intro x hx
  simp only [List.mem_cons, List.mem_nil_iff, or_false] at hx
  rcases hx with rfl | rfl | rfl | rfl
  ·exact asks_answers hd3.dd
  ·exact asks_there hd3.dd hd3.dm hx1 hx2
  ·exact asks_append hd3 e2 hu3 e1 hq hr
  ·exact asks_burns hd3.dd))
 have hS3 : w3.cell? ⟨w.heap.size, 0, none⟩ = some (.pointer (some ⟨d, 0, none⟩)) := o3.cell hS1 (fun f => f)
 have H3 := Lib.hid k03
 clear o3 s3 k03 e1 e2 hd3 hu3 hx1 hx2 hw3
 refine hK.out _ _ (fun _ => hS3) ?_
 clear hK K
 try simp only [Act.put, List.setIfInBounds_toArray, List.set_cons_zero, List.set_cons_succ]
 refine wpAnyG_onlyL (i := 9) (o := _) (by kernel_rfl) rfl (fun K hK => ?_)
 go_simp
 refine F.out.mono ?_
 rintro e w4 ⟨rfl, o4⟩
 have hS4 : w4.cell? ⟨w.heap.size, 0, none⟩ = some (.pointer (some ⟨d, 0, none⟩)) := o4.cell hS3 (fun f => f)
 have k04 := H3.out.trans o4
 have hd4 := H0.out.2.2.2.1.old k04
 have H4 := Lib.hid (And.intro (H0.out.1.trans k04) (And.intro hd4 (H0.out.2.2.2.2.1.old k04)))
 have e2 := (k04.block _ (hp_lt H0.out.2.2.1) (fun f => f)).trans H0.out.2.2.1
 clear o4
 go_wp2_with fail
 refine hK.out _ _ (fun _ => hS4) ?_
 clear hK K
 try simp only [Act.put, List.setIfInBounds_toArray, List.set_cons_zero, List.set_cons_succ]
 refine wpAnyG_takeL (i := 10) (oi := _) (v := ?va10) rfl (by kernel_rfl) (by kernel_rfl) (by kernel_rfl) (by kernel_rfl) (fun _ _ _ h => h) (Or.inl ⟨by rfl, ?ya10⟩) hS4 ?ra10
 case ya10 => (intro W hSw; go_simp; try with_reducible rfl)
 try simp only [Act.put, List.setIfInBounds_toArray, List.set_cons_zero, List.set_cons_succ]
 refine wpAnyG_done (by kernel_rfl) ?_ _
 go_simp
 go_wp2_with fail
 obtain ⟨p, c, rfl, _, _⟩ := hd4.own.sees.len
 have hT : w4.drew.cell? ⟨w.heap.size, 0, none⟩ = some (.pointer (some ⟨d, 0, none⟩)) ∧ w4.drew.cell? ⟨w.heap.size + 1, 0, none⟩ = some (.slice pu M.length cu) ∧ w4.drew.cell? ⟨d, 0, none⟩ = some (.map (some m)) ∧ DkM w4.drew m f ∧ w4.drew.cell? ⟨f, 0, none⟩ = some (.slice p L.length c) :=
  ⟨hS4, (blk1 e2).1, (blk4 hd4.dd).1.1, hd4.dm, (blk2 hd4.df).1.1⟩
 clear hd4 e2 k04 hS hS1 hS3 hS4
 refine wp_region_g (S := fun W => W.cell? ⟨w.heap.size, 0, none⟩ = some (.pointer (some ⟨d, 0, none⟩)) ∧ W.cell? ⟨w.heap.size + 1, 0, none⟩ = some (.slice pu M.length cu) ∧ W.cell? ⟨d, 0, none⟩ = some (.map (some m)) ∧ DkM W m f ∧ W.cell? ⟨f, 0, none⟩ = some (.slice p L.length c)) (M := [0, 1, 2, 3, 4, 5, 6, 7, 8, 9, 10, 11, 12, 13, 14, 15, 16]) (by kernel_rfl) ?_
 refine wpAnyG_takeL (i := 0) (oi := _) (v := ?vb0) rfl (by kernel_rfl) (by kernel_rfl) (by kernel_rfl) (by kernel_rfl) (fun _ _ _ h => h) (Or.inl ⟨by rfl, ?yb0⟩) hT ?rb0
 case yb0 => (intro W hSw; obtain ⟨y1, y2, y3, y4, y5⟩ := hSw; go_simp; try with_reducible rfl)
 try simp only [Act.put, List.setIfInBounds_toArray, List.set_cons_zero, List.set_cons_succ]
 refine wpAnyG_takeL (i := 1) (oi := _) (v := ?vb1) rfl (by kernel_rfl) (by kernel_rfl) (by kernel_rfl) (by kernel_rfl) (fun _ _ _ h => h) (Or.inl ⟨by rfl, ?yb1⟩) hT ?rb1
 case yb1 => (intro W hSw; go_simp; try with_reducible rfl)
 try simp only [Act.put, List.setIfInBounds_toArray, List.set_cons_zero, List.set_cons_succ]
 refine wpAnyG_takeL (i := 2) (oi := _) (v := ?vb2) rfl (by kernel_rfl) (by kernel_rfl) (by kernel_rfl) (by kernel_rfl) (fun _ _ _ h => h) (Or.inl ⟨by rfl, ?yb2⟩) hT ?rb2
 case yb2 => (intro W hSw; go_simp; try with_reducible rfl)
 try simp only [Act.put, List.setIfInBounds_toArray, List.set_cons_zero, List.set_cons_succ]
 refine wpAnyG_takeL (i := 3) (oi := _) (v := ?vb3) rfl (by kernel_rfl) (by kernel_rfl) (by kernel_rfl) (by kernel_rfl) (fun _ _ _ h => h) (Or.inl ⟨by rfl, ?yb3⟩) hT ?rb3
 case yb3 => (intro W hSw; obtain ⟨y1, y2, y3, y4, y5⟩ := hSw; go_simp; try with_reducible rfl)
 try simp only [Act.put, List.setIfInBounds_toArray, List.set_cons_zero, List.set_cons_succ]
 refine wpAnyG_takeL (i := 4) (oi := _) (v := ?vb4) rfl (by kernel_rfl) (by kernel_rfl) (by kernel_rfl) (by kernel_rfl) (fun _ _ _ h => h) (Or.inl ⟨by rfl, ?yb4⟩) hT ?rb4
 case yb4 => (intro W hSw; go_simp; try with_reducible rfl)
 try simp only [Act.put, List.setIfInBounds_toArray, List.set_cons_zero, List.set_cons_succ]
 refine wpAnyG_takeL (i := 5) (oi := _) (v := ?vb5) rfl (by kernel_rfl) (by kernel_rfl) (by kernel_rfl) (by kernel_rfl) (fun _ _ _ h => h) (Or.inl ⟨by rfl, ?yb5⟩) hT ?rb5
 case yb5 => (intro W hSw; obtain ⟨y1, y2, y3, y4, y5⟩ := hSw; have lk := y4.look; go_simp; try with_reducible rfl)
 try simp only [Act.put, List.setIfInBounds_toArray, List.set_cons_zero, List.set_cons_succ]
 refine wpAnyG_takeL (i := 6) (oi := _) (v := ?vb6) rfl (by kernel_rfl) (by kernel_rfl) (by kernel_rfl) (by kernel_rfl) (fun _ _ _ h => h) (Or.inl ⟨by rfl, ?yb6⟩) hT ?rb6
 case yb6 => (intro W hSw; obtain ⟨y1, y2, y3, y4, y5⟩ := hSw; go_simp; try with_reducible rfl)
 try simp only [Act.put, List.setIfInBounds_toArray, List.set_cons_zero, List.set_cons_succ]
 refine wpAnyG_takeL (i := 7) (oi := _) (v := ?vb7) rfl (by kernel_rfl) (by kernel_rfl) (by kernel_rfl) (by kernel_rfl) (fun _ _ _ h => h) (Or.inl ⟨by rfl, ?yb7⟩) hT ?rb7
 case yb7 => (intro W hSw; go_simp; try with_reducible rfl)
 try simp only [Act.put, List.setIfInBounds_toArray, List.set_cons_zero, List.set_cons_succ]
 refine wpAnyG_takeL (i := 8) (oi := _) (v := ?vb8) rfl (by kernel_rfl) (by kernel_rfl) (by kernel_rfl) (by kernel_rfl) (fun _ _ _ h => h) (Or.inl ⟨by rfl, ?yb8⟩) hT ?rb8
 case yb8 => (intro W hSw; go_simp; try with_reducible rfl)
 try simp only [Act.put, List.setIfInBounds_toArray, List.set_cons_zero, List.set_cons_succ]
 refine wpAnyG_takeL (i := 9) (oi := _) (v := ?vb9) rfl (by kernel_rfl) (by kernel_rfl) (by kernel_rfl) (by kernel_rfl) (fun _ _ _ h => h) (Or.inl ⟨by rfl, ?yb9⟩) hT ?rb9
 case yb9 => (intro W hSw; obtain ⟨y1, y2, y3, y4, y5⟩ := hSw; go_simp; try with_reducible rfl)
 try simp only [Act.put, List.setIfInBounds_toArray, List.set_cons_zero, List.set_cons_succ]
 refine wpAnyG_takeL (i := 10) (oi := _) (v := ?vb10) rfl (by kernel_rfl) (by kernel_rfl) (by kernel_rfl) (by kernel_rfl) (fun _ _ _ h => h) (Or.inl ⟨by rfl, ?yb10⟩) hT ?rb10
 case yb10 => (intro W hSw; go_simp; try with_reducible rfl)
 try simp only [Act.put, List.setIfInBounds_toArray, List.set_cons_zero, List.set_cons_succ]
 refine wpAnyG_takeL (i := 11) (oi := _) (v := ?vb11) rfl (by kernel_rfl) (by kernel_rfl) (by kernel_rfl) (by kernel_rfl) (fun _ _ _ h => h) (Or.inl ⟨by rfl, ?yb11⟩) hT ?rb11
 case yb11 => (intro W hSw; obtain ⟨y1, y2, y3, y4, y5⟩ := hSw; have lk := y4.look; go_simp; try with_reducible rfl)
 try simp only [Act.put, List.setIfInBounds_toArray, List.set_cons_zero, List.set_cons_succ]
 refine wpAnyG_takeL (i := 12) (oi := _) (v := ?vb12) rfl (by kernel_rfl) (by kernel_rfl) (by kernel_rfl) (by kernel_rfl) (fun _ _ _ h => h) (Or.inl ⟨by rfl, ?yb12⟩) hT ?rb12
 case yb12 => (intro W hSw; go_simp; try with_reducible rfl)
 try simp only [Act.put, List.setIfInBounds_toArray, List.set_cons_zero, List.set_cons_succ]
 refine wpAnyG_takeL (i := 13) (oi := _) (v := ?vb13) rfl (by kernel_rfl) (by kernel_rfl) (by kernel_rfl) (by kernel_rfl) (fun _ _ _ h => h) (Or.inl ⟨by rfl, ?yb13⟩) hT ?rb13
 case yb13 => (intro W hSw; go_simp; try with_reducible rfl)
 try simp only [Act.put, List.setIfInBounds_toArray, List.set_cons_zero, List.set_cons_succ]
 refine wpAnyG_takeL (i := 14) (oi := _) (v := ?vb14) rfl (by kernel_rfl) (by kernel_rfl) (by kernel_rfl) (by kernel_rfl) (fun _ _ _ h => h) (Or.inl ⟨by rfl, ?yb14⟩) hT ?rb14
 case yb14 => (intro W hSw; obtain ⟨y1, y2, y3, y4, y5⟩ := hSw; go_simp; try with_reducible rfl)
 try simp only [Act.put, List.setIfInBounds_toArray, List.set_cons_zero, List.set_cons_succ]
 refine wpAnyG_takeL (i := 15) (oi := _) (v := ?vb15) rfl (by kernel_rfl) (by kernel_rfl) (by kernel_rfl) (by kernel_rfl) (fun _ _ _ h => h) (Or.inl ⟨by rfl, ?yb15⟩) hT ?rb15
 case yb15 => (intro W hSw; obtain ⟨y1, y2, y3, y4, y5⟩ := hSw; go_simp; try with_reducible rfl)
 try simp only [Act.put, List.setIfInBounds_toArray, List.set_cons_zero, List.set_cons_succ]
 refine wpAnyG_onlyL (i := 16) (o := _) (by kernel_rfl) rfl (fun K hK => ?_)
 refine step_append_bytes_at rfl (.tmp 34) (.tmp 35) rfl B (.slice p L.length c) L (by rfl) (H4.out.2.1.own.old (Keeps.refl _ _).drew) (.slice pu M.length cu) M (by rfl) (H4.out.2.2.old (Keeps.refl _ _).drew) (by omega) (by have := H4.out.1.size; have := H0.out.2.2.2.2.2.2.1; simp at *; omega) ?_
 intro v' w5 own5 gr5 hat5
 obtain ⟨p5, c5, rfl, _, _⟩ := own5.sees.len
 have k5 : Keeps (fun k => (Value.slice p L.length c).ownBlock = some k) w4 w5 := (Keeps.refl (fun k => (Value.slice p L.length c).ownBlock = some k) w4).drew.grown gr5 (fun k e _ => e)
 have hv := H4.out.2.1.ne
 have hb4 := H4.out.2.1.own.block
 have hbw := H0.out.2.2.2.2.2.2.2.2.own.block
 have hT5 : w5.cell? ⟨w.heap.size, 0, none⟩ = some (.pointer (some ⟨d, 0, none⟩)) ∧ w5.cell? ⟨w.heap.size + 1, 0, none⟩ = some (.slice pu M.length cu) ∧ w5.cell? ⟨d, 0, none⟩ = some (.map (some m)) ∧ DkM w5 m f ∧ w5.cell? ⟨f, 0, none⟩ = some (.slice p L.length c) :=
  ⟨k5.cell hT.1 (fun e => by have h := (hbw _ e).2; change w.heap.size < _ at h; omega), k5.cell hT.2.1 (fun e => by have h := (hbw _ e).2; change w.heap.size + 1 < _ at h; omega), k5.cell hT.2.2.1 hv.2.2.2.1, (k5.block m (hp_lt H4.out.2.1.dm) hv.2.2.2.2.1).trans H4.out.2.1.dm, k5.cell hT.2.2.2.2 hv.2.2.2.2.2⟩
 have f5 := (k5.block f (hp_lt H4.out.2.1.df) hv.2.2.2.2.2).trans H4.out.2.1.df
 have d5 : DkD w5 d m q := (k5.block d (hp_lt H4.out.2.1.dd) hv.2.2.2.1).trans H4.out.2.1.dd
 have cf5 := (blk2 f5).2.1
 have cf6 := (blk2 f5).1.1
 have H5 := Lib.hid (And.intro own5 (And.intro k5 (And.intro f5 (And.intro d5 (And.intro hT5.2.2.2.1 hat5)))))
 clear own5 gr5 k5 hv hb4 hbw f5 d5 hat5
 refine hK.out _ _ (fun _ => hT5) ?_
 clear hK K
 try simp only [Act.put, List.setIfInBounds_toArray, List.set_cons_zero, List.set_cons_succ]
 refine wpAnyG_onlyL (i := 17) (o := _) (by kernel_rfl) rfl (fun K hK => ?_)
 go_simp
 refine hK.out _ _ (fun _ => hT5) ?_
 clear hK K
 try simp only [Act.put, List.setIfInBounds_toArray, List.set_cons_zero, List.set_cons_succ]
 refine wpAnyG_onlyL (i := 18) (o := _) (by kernel_rfl) rfl (fun K hK => ?_)
 go_simp
 refine hK.out _ _ (fun _ => hT5) ?_
 clear hK K
 try simp only [Act.put, List.setIfInBounds_toArray, List.set_cons_zero, List.set_cons_succ]
 refine wpAnyG_onlyL (i := 19) (o := _) (by kernel_rfl) rfl (fun K hK => ?_)
 go_simp
 refine hK.out _ _ (fun h => absurd h (by decide)) ?_
 clear hK K
 try simp only [Act.put, List.setIfInBounds_toArray, List.set_cons_zero, List.set_cons_succ]
 refine wpAnyG_done (by kernel_rfl) ?_ _
 go_simp
 go_wp2_with fail
 go_ret
 refine ⟨rfl, .slice p5 (L ++ M).length c5, ?_, fun k hk => ?_, ?_⟩
 ·have k6 := keepC w5 f 0 (.slice p5 (L ++ M).length c5)
  have hne := H0.out.2.2.2.2.2.2.2.2.ne
  have hv5 := H5.out.1.ne H5.out.2.2.1 (fun cur e => by simp only [Obj.cells.injEq] at e; exact absurd e.2.1 (by decide))
  rw [← List.length_append]
  exact Dk.make ((k6.block _ (hp_lt H5.out.2.2.2.1) hne.2.1).trans H5.out.2.2.2.1) ((k6.block _ (hp_lt H5.out.2.2.2.2.1) hne.2.2.1).trans H5.out.2.2.2.2.1) (heap_setCell_same w5 f 0 _ _ _ H5.out.2.2.1) (H5.out.1.keeps k6 (fun b hb e => hv5 (by rw [hb, e])))
 ·rcases H5.out.2.2.2.2.2 with h | h
  ·exact .inl (h.symm.trans hk)
  ·have e := h.symm.trans hk
   simp only [Option.some.injEq] at e
   have := H4.out.1.size
   right
   rw [← e]
   exact this
 ·rw [← List.length_append]
  exact ((H4.out.1.weaken (T := fun k => k = f ∨ (Value.slice p L.length c).ownBlock = some k) (fun _ _ x => x.elim)).then H5.out.2.1 (fun i _ e => .inr e)).then (keepC w5 f 0 _) (fun i _ e => .inl e)
end Go.Proofs.YtfnanbadbmmicaaGreatDoor

namespace Go.Proofs.YtfnanbadbmmicaaGreatDoor
open Go.RowKit

set_option maxRecDepth 100000 in
set_option maxHeartbeats 2000000 in
theorem sync_any (B d m f : Nat) (v : Value) (q : Nat) (L : List UInt8) (fast : Nat) (w : World) (h : Dk w B d m f v q L fast) :
  Calls Tryz.prog 10 #[.pointer (some ⟨d, 0, none⟩), .string logS] w fun e w' => e = .returned (.int .i64 0) ∧ Dk w' B d m f v q L L.length ∧ Keeps (fun k => k = f) w w' := by
 have TH := Lib.hid (there_any d w)
 have H0 := Lib.hid h
 clear h
 go_enter Tryz.func10, Tryz.ntmps10
 go_wp2_with fail
 refine TH.out.mono ?_
 rintro e w1 ⟨rfl, hx1, hx2, o1⟩
 have HW := Lib.hid (show ∀ w3, w1.alloc (.cells #[.func (.func 15) #[.pointer (some ⟨d, 0, none⟩)] #[], .func (.func 43) #[] #[.pointer (some ⟨w.heap.size + 1, 0, none⟩), .pointer (some ⟨w.heap.size, 0, none⟩)],
  .func (.func 20) #[.pointer (some ⟨d, 0, none⟩)] #[]] 51) = w3 → Calls Tryz.prog 14 #[.slice (some ⟨w1.heap.size, 0, none⟩) 3 3] w3 fun e w' => e = .returned (.int .i64 0) ∧ Old w w' from by
  intro w3 hw3
  have o3 : Old w1 w3 := by rw [← hw3]; exact (Keeps.refl _ _).alloc _
  have s3 := sees3 w1 51 (.func (.func 15) #[.pointer (some ⟨d, 0, none⟩)] #[]) (.func (.func 43) #[] #[.pointer (some ⟨w.heap.size + 1, 0, none⟩), .pointer (some ⟨w.heap.size, 0, none⟩)])
   (.func (.func 20) #[.pointer (some ⟨d, 0, none⟩)] #[])
  rw [hw3] at s3
  have hd3 := H0.out.old (o1.trans o3)
  have y1 := (o3.block _ (hp_lt hx1) (fun f => f)).trans hx1
  have y2 := (o3.block _ (hp_lt hx2) (fun f => f)).trans hx2
  refine (first_ok _ _ w3 s3 (by simp) (by simp) (by
   intro x hx
   simp only [List.mem_cons, List.mem_nil_iff, or_false] at hx
   rcases hx with rfl | rfl | rfl
   ·exact asks_answers hd3.dd
   ·exact asks_there hd3.dd hd3.dm y1 y2
   ·exact asks_burns hd3.dd)).mono ?_
  rintro e w' ⟨he, k⟩
  exact ⟨he, (o1.trans o3).trans k⟩)
 clear hx1 hx2 o1
 go_wp2_with fail
 refine (HW.out _ rfl).mono ?_
 rintro e w4 ⟨rfl, o4⟩
 have hd4 := H0.out.old o4
 have H4 := Lib.hid (And.intro o4 hd4)
 clear o4
 obtain ⟨p, c, rfl, _, _⟩ := hd4.own.sees.len
 have hT : w4.drew.cell? ⟨d, 0, none⟩ = some (.map (some m)) ∧ DkM w4.drew m f ∧ w4.drew.cell? ⟨f, 0, none⟩ = some (.slice p L.length c) := ⟨(blk4 hd4.dd).1.1, hd4.dm, (blk2 hd4.df).1.1⟩
 have cf := (blk2 hd4.df).1.2
 have ff := (blk2 hd4.df).2.2
 clear hd4
 go_wp2_with fail
 refine wp_region_g (S := fun W => W.cell? ⟨d, 0, none⟩ = some (.map (some m)) ∧ DkM W m f ∧ W.cell? ⟨f, 0, none⟩ = some (.slice p L.length c)) (M := [0, 1, 2, 3, 4, 5, 6, 7, 8, 9, 10, 11, 12, 13, 14, 15]) (by kernel_rfl) ?_
 refine wpAnyG_takeL (i := 0) (oi := _) (v := ?vb0) rfl (by kernel_rfl) (by kernel_rfl) (by kernel_rfl) (by kernel_rfl) (fun _ _ _ h => h) (Or.inl ⟨by rfl, ?yb0⟩) hT ?rb0
 case yb0 => (intro W hSw; go_simp; try with_reducible rfl)
 try simp only [Act.put, List.setIfInBounds_toArray, List.set_cons_zero, List.set_cons_succ]
 refine wpAnyG_takeL (i := 1) (oi := _) (v := ?vb1) rfl (by kernel_rfl) (by kernel_rfl) (by kernel_rfl) (by kernel_rfl) (fun _ _ _ h => h) (Or.inl ⟨by rfl, ?yb1⟩) hT ?rb1
 case yb1 => (intro W hSw; go_simp; try with_reducible rfl)
 try simp only [Act.put, List.setIfInBounds_toArray, List.set_cons_zero, List.set_cons_succ]
 refine wpAnyG_takeL (i := 2) (oi := _) (v := ?vb2) rfl (by kernel_rfl) (by kernel_rfl) (by kernel_rfl) (by kernel_rfl) (fun _ _ _ h => h) (Or.inl ⟨by rfl, ?yb2⟩) hT ?rb2
 case yb2 => (intro W hSw; go_simp; try with_reducible rfl)
 try simp only [Act.put, List.setIfInBounds_toArray, List.set_cons_zero, List.set_cons_succ]
 refine wpAnyG_takeL (i := 3) (oi := _) (v := ?vb3) rfl (by kernel_rfl) (by kernel_rfl) (by kernel_rfl) (by kernel_rfl) (fun _ _ _ h => h) (Or.inl ⟨by rfl, ?yb3⟩) hT ?rb3
 case yb3 => (intro W hSw; obtain ⟨y1, y2, y3⟩ := hSw; go_simp; try with_reducible rfl)
 try simp only [Act.put, List.setIfInBounds_toArray, List.set_cons_zero, List.set_cons_succ]
 refine wpAnyG_takeL (i := 4) (oi := _) (v := ?vb4) rfl (by kernel_rfl) (by kernel_rfl) (by kernel_rfl) (by kernel_rfl) (fun _ _ _ h => h) (Or.inl ⟨by rfl, ?yb4⟩) hT ?rb4
 case yb4 => (intro W hSw; go_simp; try with_reducible rfl)
 try simp only [Act.put, List.setIfInBounds_toArray, List.set_cons_zero, List.set_cons_succ]
 refine wpAnyG_takeL (i := 5) (oi := _) (v := ?vb5) rfl (by kernel_rfl) (by kernel_rfl) (by kernel_rfl) (by kernel_rfl) (fun _ _ _ h => h) (Or.inl ⟨by rfl, ?yb5⟩) hT ?rb5
 case yb5 => (intro W hSw; obtain ⟨y1, y2, y3⟩ := hSw; have lk := y2.look; go_simp; try with_reducible rfl)
 try simp only [Act.put, List.setIfInBounds_toArray, List.set_cons_zero, List.set_cons_succ]
 refine wpAnyG_takeL (i := 6) (oi := _) (v := ?vb6) rfl (by kernel_rfl) (by kernel_rfl) (by kernel_rfl) (by kernel_rfl) (fun _ _ _ h => h) (Or.inl ⟨by rfl, ?yb6⟩) hT ?rb6
 case yb6 => (intro W hSw; go_simp; try with_reducible rfl)
 try simp only [Act.put, List.setIfInBounds_toArray, List.set_cons_zero, List.set_cons_succ]
 refine wpAnyG_takeL (i := 7) (oi := _) (v := ?vb7) rfl (by kernel_rfl) (by kernel_rfl) (by kernel_rfl) (by kernel_rfl) (fun _ _ _ h => h) (Or.inl ⟨by rfl, ?yb7⟩) hT ?rb7
 case yb7 => (intro W hSw; go_simp; try with_reducible rfl)
 try simp only [Act.put, List.setIfInBounds_toArray, List.set_cons_zero, List.set_cons_succ]
 refine wpAnyG_takeL (i := 8) (oi := _) (v := ?vb8) rfl (by kernel_rfl) (by kernel_rfl) (by kernel_rfl) (by kernel_rfl) (fun _ _ _ h => h) (Or.inl ⟨by rfl, ?yb8⟩) hT ?rb8
 case yb8 => (intro W hSw; go_simp; try with_reducible rfl)
 try simp only [Act.put, List.setIfInBounds_toArray, List.set_cons_zero, List.set_cons_succ]
 refine wpAnyG_takeL (i := 9) (oi := _) (v := ?vb9) rfl (by kernel_rfl) (by kernel_rfl) (by kernel_rfl) (by kernel_rfl) (fun _ _ _ h => h) (Or.inl ⟨by rfl, ?yb9⟩) hT ?rb9
 case yb9 => (intro W hSw; obtain ⟨y1, y2, y3⟩ := hSw; go_simp; try with_reducible rfl)
 try simp only [Act.put, List.setIfInBounds_toArray, List.set_cons_zero, List.set_cons_succ]
 refine wpAnyG_takeL (i := 10) (oi := _) (v := ?vb10) rfl (by kernel_rfl) (by kernel_rfl) (by kernel_rfl) (by kernel_rfl) (fun _ _ _ h => h) (Or.inl ⟨by rfl, ?yb10⟩) hT ?rb10
 case yb10 => (intro W hSw; go_simp; try with_reducible rfl)
 try simp only [Act.put, List.setIfInBounds_toArray, List.set_cons_zero, List.set_cons_succ]
 refine wpAnyG_takeL (i := 11) (oi := _) (v := ?vb11) rfl (by kernel_rfl) (by kernel_rfl) (by kernel_rfl) (by kernel_rfl) (fun _ _ _ h => h) (Or.inl ⟨by rfl, ?yb11⟩) hT ?rb11
 case yb11 => (intro W hSw; obtain ⟨y1, y2, y3⟩ := hSw; have lk := y2.look; go_simp; try with_reducible rfl)
 try simp only [Act.put, List.setIfInBounds_toArray, List.set_cons_zero, List.set_cons_succ]
 refine wpAnyG_takeL (i := 12) (oi := _) (v := ?vb12) rfl (by kernel_rfl) (by kernel_rfl) (by kernel_rfl) (by kernel_rfl) (fun _ _ _ h => h) (Or.inl ⟨by rfl, ?yb12⟩) hT ?rb12
 case yb12 => (intro W hSw; go_simp; try with_reducible rfl)
 try simp only [Act.put, List.setIfInBounds_toArray, List.set_cons_zero, List.set_cons_succ]
 refine wpAnyG_takeL (i := 13) (oi := _) (v := ?vb13) rfl (by kernel_rfl) (by kernel_rfl) (by kernel_rfl) (by kernel_rfl) (fun _ _ _ h => h) (Or.inl ⟨by rfl, ?yb13⟩) hT ?rb13
 case yb13 => (intro W hSw; go_simp; try with_reducible rfl)
 try simp only [Act.put, List.setIfInBounds_toArray, List.set_cons_zero, List.set_cons_succ]
 refine wpAnyG_takeL (i := 14) (oi := _) (v := ?vb14) rfl (by kernel_rfl) (by kernel_rfl) (by kernel_rfl) (by kernel_rfl) (fun _ _ _ h => h) (Or.inl ⟨by rfl, ?yb14⟩) hT ?rb14
 case yb14 => (intro W hSw; obtain ⟨y1, y2, y3⟩ := hSw; go_simp; try with_reducible rfl)
 try simp only [Act.put, List.setIfInBounds_toArray, List.set_cons_zero, List.set_cons_succ]
 refine wpAnyG_takeL (i := 15) (oi := _) (v := ?vb15) rfl (by kernel_rfl) (by kernel_rfl) (by kernel_rfl) (by kernel_rfl) (fun _ _ _ h => h) (Or.inl ⟨by rfl, ?yb15⟩) hT ?rb15
 case yb15 => (intro W hSw; go_simp; try with_reducible rfl)
 try simp only [Act.put, List.setIfInBounds_toArray, List.set_cons_zero, List.set_cons_succ]
 refine wpAnyG_onlyL (i := 16) (o := _) (by kernel_rfl) rfl (fun K hK => ?_)
 go_simp
 refine hK.out _ _ (fun h => absurd h (by decide)) ?_
 clear hK K
 try simp only [Act.put, List.setIfInBounds_toArray, List.set_cons_zero, List.set_cons_succ]
 refine wpAnyG_onlyL (i := 17) (o := _) (by kernel_rfl) rfl (fun K hK => ?_)
 go_simp
 refine hK.out _ _ (fun h => absurd h (by decide)) ?_
 clear hK K
 try simp only [Act.put, List.setIfInBounds_toArray, List.set_cons_zero, List.set_cons_succ]
 refine wpAnyG_onlyL (i := 18) (o := _) (by kernel_rfl) rfl (fun K hK => ?_)
 go_simp
 refine hK.out _ _ (fun h => absurd h (by decide)) ?_
 clear hK K
 try simp only [Act.put, List.setIfInBounds_toArray, List.set_cons_zero, List.set_cons_succ]
 refine wpAnyG_done (by kernel_rfl) ?_ _
 go_simp
 go_wp2_with fail
 go_ret
 have k6 := (keepC w4 f 1 (.int .i64 (L.length : Int))).drew
 have hd := H4.out.2
 exact ⟨rfl, Dk.make ((k6.block _ (hp_lt hd.dd) hd.ne.2.1).trans hd.dd) ((k6.block _ (hp_lt hd.dm) hd.ne.2.2.1).trans hd.dm) (heap_setCell_same w4 f 1 _ _ _ hd.df) (hd.own.keeps k6 (fun b hb e => hd.ne.2.2.2.2.2 (by rw [hb, e]))), (H4.out.1.weaken (T := fun k => k = f) (fun _ _ x => x.elim)).then k6 (fun i _ e => e)⟩
set_option maxRecDepth 100000 in
set_option maxHeartbeats 2000000 in
theorem read_any (B d m f : Nat) (v : Value) (q : Nat) (L : List UInt8) (fast : Nat) (w : World) (h : Dk w B d m f v q L fast) (hl : L.length ≤ 1000000000) :
  Calls Tryz.prog 32 #[.pointer (some ⟨d, 0, none⟩), .string logS] w fun e w' => ∃ p n c, e = .returned (.tuple #[.slice p n c, .int .i64 0]) ∧ Owns w' w.heap.size (.slice p n c) L ∧ Old w w' := by
 have TH := Lib.hid (there_any d w)
 have H0 := Lib.hid h
 clear h
 go_enter Tryz.func32, Tryz.ntmps32
 go_wp2_with fail
 refine TH.out.mono ?_
 rintro e w1 ⟨rfl, hx1, hx2, o1⟩
 have HW := Lib.hid (show ∀ w3, w1.alloc (.cells #[.func (.func 15) #[.pointer (some ⟨d, 0, none⟩)] #[], .func (.func 43) #[] #[.pointer (some ⟨w.heap.size + 1, 0, none⟩), .pointer (some ⟨w.heap.size, 0, none⟩)]] 51) = w3 → Calls Tryz.prog 14 #[.slice (some ⟨w1.heap.size, 0, none⟩) 2 2] w3 fun e w' => e = .returned (.int .i64 0) ∧ Old w w' from by
  intro w3 hw3
  have o3 : Old w1 w3 := by rw [← hw3]; exact (Keeps.refl _ _).alloc _
  have s3 := sees2 w1 51 (.func (.func 15) #[.pointer (some ⟨d, 0, none⟩)] #[]) (.func (.func 43) #[] #[.pointer (some ⟨w.heap.size + 1, 0, none⟩), .pointer (some ⟨w.heap.size, 0, none⟩)])
  rw [hw3] at s3
  have hd3 := H0.out.old (o1.trans o3)
  have y1 := (o3.block _ (hp_lt hx1) (fun f => f)).trans hx1
  have y2 := (o3.block _ (hp_lt hx2) (fun f => f)).trans hx2
  refine (first_ok _ _ w3 s3 (by simp) (by simp) (by
   intro x hx
   simp only [List.mem_cons, List.mem_nil_iff, or_false] at hx
   rcases hx with rfl | rfl
   ·exact asks_answers hd3.dd
   ·exact asks_there hd3.dd hd3.dm y1 y2)).mono ?_
  rintro e w' ⟨he, k⟩
  exact ⟨he, (o1.trans o3).trans k⟩)
 clear hx1 hx2 o1
 go_wp2_with fail
 refine (HW.out _ rfl).mono ?_
 rintro e w4 ⟨rfl, o4⟩
 have hd4 := H0.out.old o4
 have c0 := (blk4 hd4.dd).1.1
 have lk := hd4.dm.look
 have cf := (blk2 hd4.df).1.1
 have CL := Lib.hid (bytes_clone_any v L w4 hd4.own.sees hl)
 obtain ⟨p, c, rfl, _, _⟩ := hd4.own.sees.len
 have H4 := Lib.hid o4
 clear o4 hd4
 go_wp2_with fail
 refine CL.out.mono ?_
 rintro e w5 ⟨p5, n5, c5, rfl, own5, o5⟩
 have H5 := Lib.hid (And.intro (own5.mono H4.out.size) (H4.out.trans o5))
 clear own5 o5
 go_wp2_with fail
 go_ret2
 exact ⟨_, _, _, rfl, H5.out.1, H5.out.2⟩
end Go.Proofs.YtfnanbadbmmicaaGreatDoor

namespace Go.Proofs.YtfnanbadbmmicaaGreatDoor
open Go.RowKit Torn

theorem Owns.setByte {w : World} {B g cap n : Nat} {l : List UInt8} (h : Owns w B (.slice (some ⟨g, 0, none⟩) n cap) l) (i : Nat) (_hi : i < l.length) (b : UInt8) : Owns (w.setCell ⟨g, i, none⟩ (u8 b)) B (.slice (some ⟨g, 0, none⟩) n cap) (l.set i b) := by
 obtain ⟨h1, h2⟩ := h
 rcases h2 with ⟨e, _⟩ | ⟨g', cap', cur, e, hb, hg, hn, hm, hs, ht⟩
 ·cases e
 ·simp only [Value.slice.injEq, Option.some.injEq, Addr.mk.injEq, and_true] at e
  obtain ⟨rfl, e2, rfl⟩ := e
  subst e2
  refine ⟨by simp, .inr ⟨g, cap, cur.setIfInBounds i (u8 b), by simp, hb, heap_setCell_same w g i _ _ _ hg, by simpa using hn, hm, by simpa using hs, ?_⟩⟩
  rw [Array.toList_setIfInBounds, List.length_set, List.map_set, ← ht]
  rw [List.take_set]
theorem Owns.cellAt {w : World} {B g cap n : Nat} {l : List UInt8} (h : Owns w B (.slice (some ⟨g, 0, none⟩) n cap) l) (i : Nat) (hi : i < l.length) : w.cell? ⟨g, i, none⟩ = some (u8 l[i]) ∧ w.frozen? ⟨g, i, none⟩ = false := by
 have hs := h.sees
 obtain ⟨h1, h2⟩ := h
 rcases h2 with ⟨e, _⟩ | ⟨g', cap', cur, e, hb, hg, hn, hm, hsz, ht⟩
 ·cases e
 ·simp only [Value.slice.injEq, Option.some.injEq, Addr.mk.injEq, and_true] at e
  obtain ⟨rfl, _, rfl⟩ := e
  obtain ⟨b, o, c, e, _, _, hat⟩ := hs.at (by omega)
  simp only [Value.slice.injEq, Option.some.injEq, Addr.mk.injEq, and_true] at e
  obtain ⟨⟨rfl, rfl⟩, _, _⟩ := e
  have := hat i l[i] (by simp [hi])
  rw [Nat.zero_add] at this
  exact ⟨this, by simp [World.frozen?, hg]⟩
theorem turn_zero (c : List UInt8) : turn 0 c = c := by
 unfold turn
 by_cases h : c.length = 0
 ·have : c = [] := List.eq_nil_of_length_eq_zero h
  subst this; rfl
 ·rw [List.getD_eq_getElem?_getD, List.getElem?_eq_getElem (by omega), Option.getD_some, UInt8.xor_zero, List.set_getElem_self]
theorem left_all (t : UInt8) (L : List UInt8) : left t 0 L.length L = L := by unfold left; simp
theorem left_none (s fast : Nat) (L : List UInt8) : left 0 s fast L = L.take (fast + s) := by
 unfold left
 by_cases h : s = 0
 ·subst h; simp
 ·rw [if_neg h, turn_zero]
theorem left_zero (t : UInt8) (fast : Nat) (L : List UInt8) : left t 0 fast L = L.take (fast + 0) := by unfold left; simp
theorem xor_eq (a b : UInt8) : bits .xor .u8 (a.toNat : Int) (b.toNat : Int) = ((a ^^^ b).toNat : Int) := by
 rw [u8_xor_nat _ _ a.toNat_lt b.toNat_lt, UInt8.toNat_xor]
end Go.Proofs.YtfnanbadbmmicaaGreatDoor
