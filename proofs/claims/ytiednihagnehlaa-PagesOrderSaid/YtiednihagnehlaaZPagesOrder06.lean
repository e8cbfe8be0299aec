/- DERIVED. Chapter 25: the walk of PagesOrder. (gen_qo.py wrote it) -/
import Derived.Test.YtiednihagnehlaaZPagesOrder04
import Derived.Test.YtiednihagnehlaaZPagesOrder05
import Derived.Test.YtiednihagnehlaaY26
import Derived.Deep.DeepCutAuto
import Derived.Deep.LoopGhost
import Derived.IntWalk
namespace Go.Proofs.Ytiednihagnehlaa
open Go.RowKit Go.Great

/-- what was laid: links and brokers -/
def ordQ (l : List (Int × Int)) : List (Int × PMs) := l.mapIdx fun j x => (x.1, (ordMs x.2 j).plain)
def ordW (l : List (Int × Int)) : List Opq := l.mapIdx fun j x => ⟨0, x.1, ordMs x.2 j⟩
theorem ordQ_len (l : List (Int × Int)) : (ordQ l).length = l.length := by simp [ordQ]
theorem ordW_len (l : List (Int × Int)) : (ordW l).length = l.length := by simp [ordW]
theorem ordQ_snoc (l : List (Int × Int)) (x : Int × Int) : ordQ (l ++ [x]) = ordQ l ++ [(x.1, (ordMs x.2 (ordQ l).length).plain)] := by
 rw [ordQ_len]
 unfold ordQ
 rw [List.mapIdx_append]
 simp
theorem ordW_snoc (l : List (Int × Int)) (x : Int × Int) : ordW (l ++ [x]) = ordW l ++ [⟨0, x.1, ordMs x.2 l.length⟩] := by
 unfold ordW
 rw [List.mapIdx_append]
 simp
theorem ord_od (l : List (Int × Int)) (h : ∀ x ∈ l, 0 ≤ x.2 ∧ x.2 < 4) : Od (ordQ l) := by
 intro j x hx
 unfold ordQ at hx
 rw [List.getElem?_mapIdx] at hx
 obtain ⟨y, hy, rfl⟩ := Option.map_eq_some_iff.1 hx
 exact ⟨y.2, h y (List.mem_of_getElem? hy), rfl⟩
theorem ord_at (l : List (Int × Int)) (j : Nat) (y : Int × Int) (hy : l[j]? = some y) : (ordQ l)[j]? = some (y.1, (ordMs y.2 j).plain) ∧ (ordW l)[j]? = some ⟨0, y.1, ordMs y.2 j⟩ := by
 unfold ordQ ordW
 rw [List.getElem?_mapIdx, List.getElem?_mapIdx, hy]
 exact ⟨rfl, rfl⟩
theorem opL_len (x : Opq) : (opL x).length = 20 := rfl
theorem Try.infoOp : (Try.prog.info? 62).map (fun i => (i.zero, i.size, i.bytes)) = some (some (.agg (opL ⟨0, 0, zeroMs⟩).toArray), 20, 232) := by kernel_rfl
theorem run_build_op {ρ : Operand → Value} {o : Oper} {a b : Operand} (ho : o.op = .build 62 #[(1, a), (2, b)]) (link : Int) (m : Ms) (ha : ρ a = .int .i64 link) (hb : ρ b = .agg m.cells.toArray) (W : World) :
  (execOp ρ o).run Try.prog W = .ok (.value (.agg (opL ⟨0, link, m⟩).toArray)) W := by
 obtain ⟨kind, pub, ver, there, pv, ps, ⟨n, tm, key, av, es⟩, tb, tl, tc, frm, ⟨fr, en, iv, its, gv, gs, last⟩⟩ := m
 unfold execOp
 rw [ho]
 simp [Ms.cells, opL, go_sem, ha, hb]
set_option maxRecDepth 100000 in
theorem run_slice_op {ρ : Operand → Value} {o : Oper} {a : Operand} (ho : o.op = .buildSlice 55 1 #[(0, a)]) (y : Opq) (ha : ρ a = .agg (opL y).toArray) (W : World) :
  (execOp ρ o).run Try.prog W = .ok (.value (.slice (some ⟨W.heap.size, 0, none⟩) 1 1)) (W.alloc (.cells (opL y).toArray 62)) := by
 obtain ⟨what, link, ⟨kind, pub, ver, there, pv, ps, ⟨n, tm, key, av, es⟩, tb, tl, tc, frm, ⟨fr, en, iv, its, gv, gs, last⟩⟩⟩ := y
 unfold execOp
 rw [ho]
 simp [Ms.cells, opL, go_sem, ha]
attribute [-go_sem] loadVar storeVar
/-- the message of a call in a row -/
theorem load_op {w : World} {b o : Nat} {x : Opq} (h : ∀ i u, (opL x)[i]? = some u → w.cell? ⟨b, o + i, none⟩ = some u) : (loadVar 60 ⟨b, o + 2, none⟩).run Try.prog w = .ok (.agg x.m.cells.toArray) w :=
 load_sub (cs := x.m.cells.toArray) (fun j v hv => by
  have hv' : x.m.cells[j]? = some v := by simpa using hv
  have := h (j + 2) v (by simpa [opL] using hv')
  rw [show o + 2 + j = o + (j + 2) by omega]
  exact this) Try.underlying60 rfl (by simp only [List.size_toArray]; show _ = some 18; kernel_rfl)
theorem op_tb {x : Opq} : (opL x)[11]? = some (.int .i64 x.m.tb) := rfl

set_option maxRecDepth 100000 in
set_option maxHeartbeats 8000000 in
theorem porder_any (vl : Value) (ops : List Opq) (link broker : Int) (w : World) (hl : SeesR w 20 opL vl ops) :
  Calls Try.prog 7 #[vl, .int .i64 link, .int .i64 broker] w fun e w' => e = .returned (.bool true) ∧ Old w w' := by
 have q1 : ∀ a W, (loadVar 3 a).run Try.prog W = (load a).run Try.prog W := fun _ _ => by kernel_rfl
 have q2 : ∀ a W, (loadVar 28 a).run Try.prog W = (load a).run Try.prog W := fun _ _ => by kernel_rfl
 obtain ⟨pl, cl, rfl, hle, hmx⟩ := hl.len
 have hlm : ops.length ≤ 9223372036854775807 := by unfold maxLen at hmx; omega
 have HL := Lib.hid hl
 have C1 := Lib.hid (new_yes 100 w ⟨by decide, by decide⟩)
 clear hl hle hmx
 go_enter Try.func7, Try.ntmps7
 go_wp2_with fail
 refine C1.out.mono ?_
 rintro e w1 ⟨qb, rfl, hqe, k1, hq1⟩
 have Q1 := Lib.hid (show QN w w1 qb 100 [] from ⟨_, _, ⟨[], rfl, hq1 (fun _ => False) (fun _ f => f.elim)⟩, fun k hk => by subst hk; omega, k1⟩)
 clear hqe k1 hq1 C1
 go_wp2_with fail
 go_loopw [9, 10] (fun v9 v10 wr => ∃ (i : Nat) (l : List (Int × Int)) (R S : Nat → Prop), v10 = .int .i64 i ∧ i ≤ ops.length ∧ i ≤ 60 ∧ l.length = i ∧ (∀ x ∈ l, 0 ≤ x.2 ∧ x.2 < 4) ∧ QuP R S wr qb 100 (ordQ l) ∧ (∀ k, R k → w.heap.size ≤ k) ∧ OwnsR wr w.heap.size 62 20 opL v9 (ordW l) ∧ (∀ b, v9.ownBlock = some b → S b ∧ ¬ R b) ∧ Old w wr) (fun _ v10 _ => 60 - (intOf v10).toNat)
 case atStart =>
  obtain ⟨R, S, h1, h2, h3⟩ := Q1.out
  exact ⟨0, [], R, S, rfl, by omega, by omega, rfl, (fun x hx => by cases hx), h1, h2, OwnsR.nil _ _, (fun b hb => by cases hb), h3⟩
 case round =>
  obtain ⟨i, l, R, S, rfl, hi, hi60, hli, hlb, hq, hR, how, hs9, ho⟩ := hrel
  obtain ⟨p9, c9', e9, hle9, hmx9⟩ := (how.sees opL_len (by decide)).len
  subst e9
  rw [ordW_len, hli] at how hle9 hs9 ⊢
  have RR := Lib.hid (And.intro hli (And.intro hlb (And.intro hq (And.intro hR (And.intro how (And.intro hs9 ho))))))
  clear hli hlb hq hR how hs9 ho hle9 hmx9
  by_cases hgo : i < ops.length ∧ i < 60
  case neg =>
   have hex : ¬ (i < ops.length) ∨ (i < ops.length ∧ ¬ i < 60) := by omega
   have CC := Lib.hid (copy_q RR.out.2.2.1 (by decide) (by rw [ordQ_len, RR.out.1]; omega))
   have hRl : ∀ k, R k → k < wr.heap.size := fun k hk => RR.out.2.2.1.facts.2.2 k (RR.out.2.2.1.facts.2.1 k hk)
   have RL := Lib.hid hRl
   clear hgo hRl
   rcases hex with hlt | ⟨hlt, h60⟩
   ·go_wp2_with fail
    refine CC.out.mono ?_
    rintro e w2 ⟨q2, R2, rfl, hn2, hc2, hb2, k2⟩
    have CF := Lib.hid (forget_q link hc2 (by decide))
    have C2 := Lib.hid (And.intro hn2 (And.intro hb2 k2))
    clear hn2 hc2 hb2 k2 CC
    go_wp2_with fail
    refine CF.out.mono ?_
    rintro e w3 ⟨rfl, hf3, k3⟩
    obtain ⟨d1, hd1⟩ : ∃ d, (ordQ l).length - (List.filter (fun y => !linkP link y) (ordQ l)).length = d := ⟨_, rfl⟩
    rw [hd1]
    have CD := Lib.hid (drop_q broker 6 hf3 (by decide))
    have C3 := Lib.hid (And.intro hd1 k3)
    clear hd1 hf3 k3 CF
    go_wp2_with fail
    refine CD.out.mono ?_
    rintro e w4 ⟨rfl, hf4, k4⟩
    rw [od_rest _ (ord_od l RR.out.2.1)] at hf4
    rw [od_rest _ (ord_od l RR.out.2.1)]
    obtain ⟨d2, hd2⟩ : ∃ d, (List.filter (fun y => !linkP link y) (ordQ l)).length - (List.filter (fun y => !(y.1 == link || y.2.tb == broker)) (ordQ l)).length = d := ⟨_, rfl⟩
    rw [hd2]
    have CE := drop_q broker 5 hf4 (by decide)
    rw [od_none (ordQ l) (ord_od l RR.out.2.1) _ (fun x hx => (List.mem_filter.1 hx).1) broker, Nat.sub_self] at CE
    have CE' := Lib.hid CE
    have C4 := Lib.hid (And.intro hd2 k4)
    clear hd2 hf4 k4 CD CE
    go_wp2_with fail
    refine CE'.out.mono ?_
    rintro e w5 ⟨he, hf5, k5⟩
    have he' : e = .returned (.int .i64 0) := he
    subst he'
    have CL := lenP_q hf5 (by decide)
    obtain ⟨n2, hn2⟩ : ∃ n, (List.filter (fun y => !(y.1 == link || y.2.tb == broker)) (ordQ l)).length = n := ⟨_, rfl⟩
    have hsum : d1 + d2 + n2 = i ∧ d1 ≤ 60 ∧ d2 ≤ 60 ∧ n2 ≤ 60 := by
     have h1 := C3.out.1
     have h2 := C4.out.1
     have h3 := List.length_filter_le (fun y => !linkP link y) (ordQ l)
     have h4 := List.length_filter_le (fun y => !dropP broker 6 y) (List.filter (fun y => !linkP link y) (ordQ l))
     rw [od_rest _ (ord_od l RR.out.2.1)] at h4
     have h5 : (ordQ l).length = i := by rw [ordQ_len, RR.out.1]
     omega
    obtain ⟨hsm, hb1, hb2, hb3⟩ := hsum
    have hne : ((d1 : Int) + (d2 : Int) + (n2 : Int) != (i : Int)) = false := by simp; omega
    rw [hn2] at CL
    have CL' := Lib.hid CL
    have kk : Keeps R2 w2 w5 := C3.out.2.trans (C4.out.2.trans k5)
    have hS2 : ∀ k, R2 k → S k ∨ R2 k := fun k h => .inr h
    have hRR : ∀ k, R k → ¬ R2 k := fun k h h' => by have := RL.out k h; have := C2.out.1 k h'; omega
    have hB9 : ∀ k, (Value.slice p9 i c9').ownBlock = some k → ¬ R2 k := fun k hk h => by have := (RR.out.2.2.2.2.1.block k hk).2; have := C2.out.1 k h; omega
    have L0 := Lib.hid (And.intro (C2.out.2.1.stays kk hS2 hRR) (And.intro hf5 (And.intro ((RR.out.2.2.2.2.1.old C2.out.2.2).keeps kk hB9) ((RR.out.2.2.2.2.2.2.trans C2.out.2.2).then kk (fun j hj h => by have := C2.out.1 j h; have := RR.out.2.2.2.2.2.2.size; omega)))))
    have LR := Lib.hid (And.intro hRR (And.intro hB9 C2.out.1))
    clear hf5 k5 CE' CL hn2 hsm kk hS2 hRR hB9 C2 C3 C4
    go_wp2_with fail
    refine CL'.out.mono ?_
    rintro e w' ⟨rfl, rfl⟩
    go_wp2_with fail
    go_loopw [15] (fun v15 wm => ∃ j : Nat, v15 = .int .i64 j ∧ j ≤ i ∧ QuP R (fun k => S k ∨ R2 k) wm qb 100 ((ordQ l).drop j) ∧ QuP R2 (fun k => S k ∨ R2 k) wm q2 100 (((ordQ l).drop j).filter fun y => !(y.1 == link || y.2.tb == broker)) ∧ OwnsR wm w.heap.size 62 20 opL (.slice p9 i c9') (ordW l) ∧ Old w wm) (fun v15 _ => i - (intOf v15).toNat)
    case atStart => exact ⟨0, rfl, by omega, L0.out.1, L0.out.2.1, L0.out.2.2.1, L0.out.2.2.2⟩
    case round =>
     obtain ⟨j, rfl, hji, hqj, hcj, hoj, hold⟩ := hrel
     have JJ := Lib.hid (And.intro hqj (And.intro hcj (And.intro hoj hold)))
     clear hqj hcj hoj hold L0
     have hoS := (JJ.out.2.2.1.sees opL_len (by decide))
     by_cases hj : j < i
     case neg =>
      have hji' : j = i := by omega
      subst hji'
      have e1 : (ordQ l).drop j = [] := List.drop_eq_nil_of_le (by rw [ordQ_len, RR.out.1]; omega)
      have Lq := lenP_q JJ.out.1 (by decide)
      have Lc := lenP_q JJ.out.2.1 (by decide)
      rw [e1] at Lq Lc
      have LQ := Lib.hid Lq
      have LC := Lib.hid Lc
      clear Lq Lc e1 hoS
      go_wp2_with fail
      refine LQ.out.mono ?_
      rintro e w' ⟨rfl, rfl⟩
      go_wp2_with fail
      refine LC.out.mono ?_
      rintro e w' ⟨rfl, rfl⟩
      go_wp2_with fail
      refine (pwakes_any _).mono ?_
      rintro e wz ⟨rfl, kz⟩
      have Fz := Lib.hid (JJ.out.2.2.2.trans kz)
      clear kz
      go_wp2_with fail
      go_ret
      exact ⟨rfl, Fz.out⟩
     obtain ⟨y, hy⟩ : ∃ y, l[j]? = some y := ⟨_, List.getElem?_eq_getElem (by rw [RR.out.1]; exact hj)⟩
     obtain ⟨xq, xw⟩ := ord_at l j y hy
     obtain ⟨x, hx⟩ : ∃ x : Int × PMs, x = (y.1, (ordMs y.2 j).plain) := ⟨_, rfl⟩
     rw [← hx] at xq
     have ed : (ordQ l).drop j = x :: (ordQ l).drop (j + 1) := by
      have hjl : j < (ordQ l).length := (List.getElem?_eq_some_iff.1 xq).1
      rw [List.drop_eq_getElem_cons hjl, (List.getElem?_eq_some_iff.1 xq).2]
     obtain ⟨Pr, hPr⟩ : ∃ Pr, (ordQ l).drop (j + 1) = Pr := ⟨_, rfl⟩
     rw [hPr] at ed
     obtain ⟨qj, cj, oj, od⟩ := JJ.out
     rw [ed] at qj cj
     obtain ⟨gb, go, gc, eg, _, _, hgc⟩ := hoS.at (by rw [ordW_len, RR.out.1]; omega)
     rw [ordW_len, RR.out.1] at eg
     simp only [Value.slice.injEq] at eg
     obtain ⟨rfl, -, rfl⟩ := eg
     have hgx := hgc j _ xw
     have c1 := hgx 1 _ rfl
     have lw := load_op (x := ⟨0, y.1, ordMs y.2 j⟩) hgx
     have yb := RR.out.2.1 y (List.mem_of_getElem? hy)
     have CN := Lib.hid (next_some qj (by decide))
     have HX := Lib.hid (And.intro hx (And.intro hPr (And.intro qj (And.intro cj (And.intro oj (And.intro od yb))))))
     have GX := Lib.hid hgx
     clear hx hPr qj cj oj od hoS ed xq xw hy hgc hgx JJ yb c1 lw
     go_wp2_with fail
     refine CN.out.mono ?_
     rintro e w10 ⟨m1, rfl, hp1, hst1, hq10, k10⟩
     obtain ⟨Wa, hWa⟩ : ∃ W, w10.alloc (.cells zeroMs.cells.toArray 43) = W := ⟨_, rfl⟩
     have ba : MAt Wa w10.heap.size zeroMs := by rw [← hWa]; exact heap_alloc_new _ _
     have oa : Old w10 Wa := by rw [← hWa]; exact (Keeps.refl _ _).alloc _
     obtain ⟨W11, hst11, b11, kb11⟩ := store_msg ba m1 hst1.fine.one
     have o11 : Old w10 W11 := oa.then kb11 (fun j hj e => by omega)
     change w10.alloc (.cells #[.int .i64 0, .int .i64 0, .int .u64 0, .bool false, .slice none 0 0, .int .u64 0, .int .u64 0, .string ⟨#[]⟩, .slice none 0 0, .int .i64 0, .int .u64 0, .int .u64 0, .int .u64 0, .int .u64 0, .int .u64 0, .slice none 0 0, .slice none 0 0, .bool false] 43) = Wa at hWa
     have V := Lib.hid (And.intro hp1 (And.intro hst1 (And.intro hq10 (And.intro k10 (And.intro o11 b11)))))
     clear hp1 hst1 hq10 k10 ba oa b11 kb11 o11 CN
     have hgb : ¬ R gb := (RR.out.2.2.2.2.2.1 gb rfl).2
     have hgb2 : ¬ R2 gb := LR.out.2.1 gb rfl
     have GW := Lib.hid (fun W (k : Old w10 W) i u hu => k.cell (V.out.2.2.2.1.cell (GX.out i u hu) hgb) (fun f => f))
     have KB := Lib.hid (And.intro hgb hgb2)
     have hm1 : m1.plain = (ordMs y.2 j).plain := by rw [V.out.1, HX.out.1]
     have hx1 : x.1 = y.1 := by rw [HX.out.1]
     have hxt : x.2.tb = y.2 := by rw [HX.out.1]; rfl
     have hne9 : (x.1 != y.1) = false := by rw [hx1]; simp
     have f1 := ((V.out.2.1.old V.out.2.2.2.2.1).old (Keeps.refl (fun _ => False) W11).drew).fine
     have CT := Lib.hid (ptheirs_any m1 W11.drew f1)
     have f2 : ∀ W, (ordMs y.2 j).fine W := fun W => (ord_bare y.2 j HX.out.2.2.2.2.2.2 (by omega) (fun _ => False) W).fine
     have CS := Lib.hid (fun W (k : Old W11.drew W) => (by
      have h := ref21_same_any m1 (ordMs y.2 j) W (((V.out.2.1.old V.out.2.2.2.2.1).old (Keeps.refl (fun _ => False) W11).drew).old k).fine (f2 W)
      rw [hm1, (sameM_iff _ _).2 rfl] at h
      exact h : Calls Try.prog 20 #[.agg m1.cells.toArray, .agg (ordMs y.2 j).cells.toArray] W fun e w' => e = .returned (.bool true) ∧ Old W w'))
     have XT := Lib.hid (And.intro hm1 (And.intro hx1 (And.intro hxt f2)))
     clear f1 hm1 hx1 hxt f2 hgb hgb2 GX
     go_wp2_with fail
     have hSx : Old W11 W11.drew := (Keeps.refl _ _).drew
     refine wp_region_g (S := fun W => Old W11 W) (M := [0, 1, 2, 3, 4, 5, 6, 7, 8, 9, 10, 11, 12, 13, 14, 15, 16, 17, 18, 19, 20, 21]) (by kernel_rfl) ?_
     refine wpAnyG_takeL (i := 0) (oi := _) (v := ?vza0) rfl (by kernel_rfl) (by kernel_rfl) (by kernel_rfl) (by kernel_rfl) (fun _ _ _ h => h) (Or.inl ⟨by rfl, ?yza0⟩) hSx ?rza0
     case yza0 => (intro W hSw; go_simp; try with_reducible rfl)
     try simp only [Act.put, List.setIfInBounds_toArray, List.set_cons_zero, List.set_cons_succ]
     refine wpAnyG_takeL (i := 1) (oi := _) (v := ?vza1) rfl (by kernel_rfl) (by kernel_rfl) (by kernel_rfl) (by kernel_rfl) (fun _ _ _ h => h) (Or.inl ⟨by rfl, ?yza1⟩) hSx ?rza1
     case yza1 => (intro W hSw; go_simp; try with_reducible rfl)
     try simp only [Act.put, List.setIfInBounds_toArray, List.set_cons_zero, List.set_cons_succ]
     refine wpAnyG_takeL (i := 2) (oi := _) (v := ?vza2) rfl (by kernel_rfl) (by kernel_rfl) (by kernel_rfl) (by kernel_rfl) (fun _ _ _ h => h) (Or.inl ⟨by rfl, ?yza2⟩) hSx ?rza2
     case yza2 => (intro W hSw; go_simp; try with_reducible rfl)
     try simp only [Act.put, List.setIfInBounds_toArray, List.set_cons_zero, List.set_cons_succ]
     refine wpAnyG_takeL (i := 3) (oi := _) (v := ?vza3) rfl (by kernel_rfl) (by kernel_rfl) (by kernel_rfl) (by kernel_rfl) (fun _ _ _ h => h) (Or.inl ⟨by rfl, ?yza3⟩) hSx ?rza3
     case yza3 => (intro W hSw; go_simp; try with_reducible rfl)
     try simp only [Act.put, List.setIfInBounds_toArray, List.set_cons_zero, List.set_cons_succ]
     refine wpAnyG_takeL (i := 4) (oi := _) (v := ?vza4) rfl (by kernel_rfl) (by kernel_rfl) (by kernel_rfl) (by kernel_rfl) (fun _ _ _ h => h) (Or.inl ⟨by rfl, ?yza4⟩) hSx ?rza4
     case yza4 => (intro W hSw; go_simp; try with_reducible rfl)
     try simp only [Act.put, List.setIfInBounds_toArray, List.set_cons_zero, List.set_cons_succ]
     refine wpAnyG_takeL (i := 5) (oi := _) (v := ?vza5) rfl (by kernel_rfl) (by kernel_rfl) (by kernel_rfl) (by kernel_rfl) (fun _ _ _ h => h) (Or.inl ⟨by rfl, ?yza5⟩) hSx ?rza5
     case yza5 => (intro W hSw; go_simp; try with_reducible rfl)
     try simp only [Act.put, List.setIfInBounds_toArray, List.set_cons_zero, List.set_cons_succ]
     refine wpAnyG_takeL (i := 6) (oi := _) (v := ?vza6) rfl (by kernel_rfl) (by kernel_rfl) (by kernel_rfl) (by kernel_rfl) (fun _ _ _ h => h) (Or.inl ⟨by rfl, ?yza6⟩) hSx ?rza6
     case yza6 => (intro W hSw; go_simp; try with_reducible rfl)
     try simp only [Act.put, List.setIfInBounds_toArray, List.set_cons_zero, List.set_cons_succ]
     refine wpAnyG_takeL (i := 7) (oi := _) (v := ?vza7) rfl (by kernel_rfl) (by kernel_rfl) (by kernel_rfl) (by kernel_rfl) (fun _ _ _ h => h) (Or.inl ⟨by rfl, ?yza7⟩) hSx ?rza7
     case yza7 => (intro W hSw; go_simp; try with_reducible rfl)
     try simp only [Act.put, List.setIfInBounds_toArray, List.set_cons_zero, List.set_cons_succ]
     refine wpAnyG_takeL (i := 8) (oi := _) (v := ?vza8) rfl (by kernel_rfl) (by kernel_rfl) (by kernel_rfl) (by kernel_rfl) (fun _ _ _ h => h) (Or.inl ⟨by rfl, ?yza8⟩) hSx ?rza8
     case yza8 => (intro W hSw; have y1 := (show _ = some (Value.int .i64 y.1) from GW.out _ (V.out.2.2.2.2.1.trans hSw) 1 _ rfl); go_simp; try with_reducible rfl)
     try simp only [Act.put, List.setIfInBounds_toArray, List.set_cons_zero, List.set_cons_succ]
     refine wpAnyG_takeL (i := 9) (oi := _) (v := ?vza9) rfl (by kernel_rfl) (by kernel_rfl) (by kernel_rfl) (by kernel_rfl) (fun _ _ _ h => h) (Or.inl ⟨by rfl, ?yza9⟩) hSx ?rza9
     case yza9 => (intro W hSw; go_simp; try with_reducible rfl)
     try simp only [Act.put, List.setIfInBounds_toArray, List.set_cons_zero, List.set_cons_succ]
     refine wpAnyG_takeL (i := 10) (oi := _) (v := ?vzaa) rfl (by kernel_rfl) (by kernel_rfl) (by kernel_rfl) (by kernel_rfl) (fun _ _ _ h => h) (Or.inl ⟨by rfl, ?yzaa⟩) hSx ?rzaa
     case yzaa => (intro W hSw; go_simp; try with_reducible rfl)
     try simp only [Act.put, List.setIfInBounds_toArray, List.set_cons_zero, List.set_cons_succ]
     refine wpAnyG_takeL (i := 11) (oi := _) (v := ?vzab) rfl (by kernel_rfl) (by kernel_rfl) (by kernel_rfl) (by kernel_rfl) (fun _ _ _ h => h) (Or.inl ⟨by rfl, ?yzab⟩) hSx ?rzab
     case yzab => (intro W hSw; go_simp; try with_reducible rfl)
     try simp only [Act.put, List.setIfInBounds_toArray, List.set_cons_zero, List.set_cons_succ]
     refine wpAnyG_takeL (i := 12) (oi := _) (v := ?vzac) rfl (by kernel_rfl) (by kernel_rfl) (by kernel_rfl) (by kernel_rfl) (fun _ _ _ h => h) (Or.inl ⟨by rfl, ?yzac⟩) hSx ?rzac
     case yzac => (intro W hSw; have y1 := load_msg ((hSw.block _ (lt_of_heap V.out.2.2.2.2.2) (fun f => f)).trans V.out.2.2.2.2.2) (by simp [Ms.cells]); go_simp; try with_reducible rfl)
     try simp only [Act.put, List.setIfInBounds_toArray, List.set_cons_zero, List.set_cons_succ]
     refine wpAnyG_takeL (i := 14) (oi := _) (v := ?vzad) rfl (by kernel_rfl) (by kernel_rfl) (by kernel_rfl) (by kernel_rfl) (fun _ _ _ h => h) (Or.inl ⟨by rfl, ?yzad⟩) hSx ?rzad
     case yzad => (intro W hSw; go_simp; try with_reducible rfl)
     try simp only [Act.put, List.setIfInBounds_toArray, List.set_cons_zero, List.set_cons_succ]
     refine wpAnyG_takeL (i := 15) (oi := _) (v := ?vzae) rfl (by kernel_rfl) (by kernel_rfl) (by kernel_rfl) (by kernel_rfl) (fun _ _ _ h => h) (Or.inl ⟨by rfl, ?yzae⟩) hSx ?rzae
     case yzae => (intro W hSw; go_simp; try with_reducible rfl)
     try simp only [Act.put, List.setIfInBounds_toArray, List.set_cons_zero, List.set_cons_succ]
     refine wpAnyG_takeL (i := 16) (oi := _) (v := ?vzaf) rfl (by kernel_rfl) (by kernel_rfl) (by kernel_rfl) (by kernel_rfl) (fun _ _ _ h => h) (Or.inl ⟨by rfl, ?yzaf⟩) hSx ?rzaf
     case yzaf => (intro W hSw; go_simp; try with_reducible rfl)
     try simp only [Act.put, List.setIfInBounds_toArray, List.set_cons_zero, List.set_cons_succ]
     refine wpAnyG_takeL (i := 17) (oi := _) (v := ?vzag) rfl (by kernel_rfl) (by kernel_rfl) (by kernel_rfl) (by kernel_rfl) (fun _ _ _ h => h) (Or.inl ⟨by rfl, ?yzag⟩) hSx ?rzag
     case yzag => (intro W hSw; go_simp; try with_reducible rfl)
     try simp only [Act.put, List.setIfInBounds_toArray, List.set_cons_zero, List.set_cons_succ]
     refine wpAnyG_takeL (i := 18) (oi := _) (v := ?vzah) rfl (by kernel_rfl) (by kernel_rfl) (by kernel_rfl) (by kernel_rfl) (fun _ _ _ h => h) (Or.inl ⟨by rfl, ?yzah⟩) hSx ?rzah
     case yzah => (intro W hSw; have y1 := load_op (x := ⟨0, y.1, ordMs y.2 j⟩) (GW.out _ (V.out.2.2.2.2.1.trans hSw)); go_simp; try with_reducible rfl)
     try simp only [Act.put, List.setIfInBounds_toArray, List.set_cons_zero, List.set_cons_succ]
     refine wpAnyG_onlyL (i := 13) (o := _) (by kernel_rfl) rfl (fun K hK => ?_)
     go_simp
     refine CT.out.mono ?_
     rintro e w12 ⟨rfl, k12⟩
     have hS12 : Old W11 w12 := hSx.trans k12
     have CS2 := Lib.hid (CS.out w12 k12)
     clear k12 CT CS
     refine hK.out _ _ (fun _ => hS12) ?_
     clear hK K
     try simp only [Act.put, List.setIfInBounds_toArray, List.set_cons_zero, List.set_cons_succ]
     refine wpAnyG_onlyL (i := 19) (o := _) (by kernel_rfl) rfl (fun K hK => ?_)
     go_simp
     refine CS2.out.mono ?_
     rintro e w13 ⟨rfl, k13⟩
     have hS13 : Old W11 w13 := hS12.trans k13
     clear k13 CS2
     refine hK.out _ _ (fun _ => hS13) ?_
     clear hK K
     try simp only [Act.put, List.setIfInBounds_toArray, List.set_cons_zero, List.set_cons_succ]
     refine wpAnyG_takeL (i := 20) (oi := _) (v := ?vzai) rfl (by kernel_rfl) (by kernel_rfl) (by kernel_rfl) (by kernel_rfl) (fun _ _ _ h => h) (Or.inl ⟨by rfl, ?yzai⟩) hS13 ?rzai
     case yzai => (intro W hSw; go_simp; try with_reducible rfl)
     try simp only [Act.put, List.setIfInBounds_toArray, List.set_cons_zero, List.set_cons_succ]
     refine wpAnyG_takeL (i := 21) (oi := _) (v := ?vzaj) rfl (by kernel_rfl) (by kernel_rfl) (by kernel_rfl) (by kernel_rfl) (fun _ _ _ h => h) (Or.inl ⟨by rfl, ?yzaj⟩) hS13 ?rzaj
     case yzaj => (intro W hSw; go_simp; try with_reducible rfl)
     try simp only [Act.put, List.setIfInBounds_toArray, List.set_cons_zero, List.set_cons_succ]
     refine wpAnyG_done (by kernel_rfl) ?_ _
     go_simp
     have ob : Old w10 w13 := V.out.2.2.2.2.1.trans hS13
     have c1 : w13.cell? ⟨gb, go + j * 20 + 1, none⟩ = some (.int .i64 y.1) := GW.out w13 ob 1 _ rfl
     have c11 : w13.cell? ⟨gb, go + j * 20 + 11, none⟩ = some (.int .i64 y.2) := GW.out w13 ob 11 _ rfl
     have HS13 := Lib.hid hS13
     obtain ⟨z1, hz1⟩ : ∃ z, (y.1 == link) = z := ⟨_, rfl⟩
     obtain ⟨z2, hz2⟩ : ∃ z, (y.2 == broker) = z := ⟨_, rfl⟩
     clear hS12 hS13 hSx hne9 hWa hst11
     cases z1 with
     | true =>
      have hf : (x :: Pr).filter (fun y => !(y.1 == link || y.2.tb == broker)) = Pr.filter (fun y => !(y.1 == link || y.2.tb == broker)) := by rw [List.filter_cons, if_neg (by simp [XT.out.2.1, XT.out.2.2.1, hz1])]
      have HF := Lib.hid (And.intro hf ob)
      clear hf ob
      go_wp2_with fail
      go_roundw
      case measure => simp [intOf]; omega
      case rel =>
       have hcj := HX.out.2.2.2.1
       rw [HF.out.1] at hcj
       refine ⟨j + 1, by go_num, by omega, ?_, ?_, ?_, ?_⟩
       ·rw [HX.out.2.1]; exact V.out.2.2.1.old HF.out.2
       ·rw [HX.out.2.1]; exact (hcj.stays V.out.2.2.2.1 HX.out.2.2.1.facts.2.1 (fun k h h' => LR.out.1 k h' h)).old HF.out.2
       ·exact (HX.out.2.2.2.2.1.keeps V.out.2.2.2.1 (fun k hk h => (RR.out.2.2.2.2.2.1 k hk).2 h)).old HF.out.2
       ·exact (HX.out.2.2.2.2.2.1.then V.out.2.2.2.1 (fun j hj h => by have := RR.out.2.2.2.1 j h; omega)).trans HF.out.2
     | false =>
      cases z2 with
      | true =>
       have hf : (x :: Pr).filter (fun y => !(y.1 == link || y.2.tb == broker)) = Pr.filter (fun y => !(y.1 == link || y.2.tb == broker)) := by rw [List.filter_cons, if_neg (by simp [XT.out.2.1, XT.out.2.2.1, hz1, hz2])]
       have HF := Lib.hid (And.intro hf ob)
       clear hf ob
       go_wp2_with fail
       go_roundw
       case measure => simp [intOf]; omega
       case rel =>
        have hcj := HX.out.2.2.2.1
        rw [HF.out.1] at hcj
        refine ⟨j + 1, by go_num, by omega, ?_, ?_, ?_, ?_⟩
        ·rw [HX.out.2.1]; exact V.out.2.2.1.old HF.out.2
        ·rw [HX.out.2.1]; exact (hcj.stays V.out.2.2.2.1 HX.out.2.2.1.facts.2.1 (fun k h h' => LR.out.1 k h' h)).old HF.out.2
        ·exact (HX.out.2.2.2.2.1.keeps V.out.2.2.2.1 (fun k hk h => (RR.out.2.2.2.2.2.1 k hk).2 h)).old HF.out.2
        ·exact (HX.out.2.2.2.2.2.1.then V.out.2.2.2.1 (fun j hj h => by have := RR.out.2.2.2.1 j h; omega)).trans HF.out.2
      | false =>
       have hf : (x :: Pr).filter (fun y => !(y.1 == link || y.2.tb == broker)) = x :: Pr.filter (fun y => !(y.1 == link || y.2.tb == broker)) := by rw [List.filter_cons, if_pos (by simp [XT.out.2.1, XT.out.2.2.1, hz1, hz2])]
       have hcj := HX.out.2.2.2.1
       rw [hf] at hcj
       have nb2 : ¬ R2 w10.heap.size := fun h => by have := hcj.facts.2.2 _ (.inr h); have := V.out.2.2.2.1.size; omega
       have NB := Lib.hid nb2
       have OB := Lib.hid ob
       have CN2 := Lib.hid (next_some ((hcj.stays V.out.2.2.2.1 HX.out.2.2.1.facts.2.1 (fun k h h' => LR.out.1 k h' h)).old ob) (by decide))
       clear hf hcj nb2 ob
       go_wp2_with fail
       refine CN2.out.mono ?_
       rintro e w14 ⟨m2, rfl, hp2, hst2, hq14, k14⟩
       obtain ⟨Wb, hWb⟩ : ∃ W, w14.alloc (.cells zeroMs.cells.toArray 43) = W := ⟨_, rfl⟩
       have bb : MAt Wb w14.heap.size zeroMs := by rw [← hWb]; exact heap_alloc_new _ _
       have obb : Old w14 Wb := by rw [← hWb]; exact (Keeps.refl _ _).alloc _
       obtain ⟨W15, hst15, b15, kb15⟩ := store_msg bb m2 hst2.fine.one
       have o15 : Old w14 W15 := obb.then kb15 (fun j hj e => by omega)
       change w14.alloc (.cells #[.int .i64 0, .int .i64 0, .int .u64 0, .bool false, .slice none 0 0, .int .u64 0, .int .u64 0, .string ⟨#[]⟩, .slice none 0 0, .int .i64 0, .int .u64 0, .int .u64 0, .int .u64 0, .int .u64 0, .int .u64 0, .slice none 0 0, .slice none 0 0, .bool false] 43) = Wb at hWb
       have b13 := (HS13.out.block _ (lt_of_heap V.out.2.2.2.2.2) (fun f => f)).trans V.out.2.2.2.2.2
       have b15a := (o15.block _ (by have := lt_of_heap b13; have := k14.size; omega) (fun f => f)).trans ((k14.block _ (lt_of_heap b13) NB.out).trans b13)
       have lm1 := load_msg b15a (by simp [Ms.cells])
       have lm2 := load_msg b15 (by simp [Ms.cells])
       have d1x : W15.cell? ⟨gb, go + j * 20 + 1, none⟩ = some (.int .i64 y.1) := o15.cell (k14.cell c1 KB.out.2) (fun f => f)
       have f1 : m1.fine W15 := ((((V.out.2.1.old OB.out).to (k14.weaken (fun j _ h => .inr h)))).old o15).fine
       have f2 : m2.fine W15 := (hst2.old o15).fine
       have CSm := msg_same_any m1 m2 W15 f1 f2
       rw [V.out.1, hp2, (sameM_iff _ _).2 rfl] at CSm
       have CSS := Lib.hid CSm
       have hne1 : (x.1 != y.1) = false := by rw [XT.out.2.1]; simp
       have G := Lib.hid (And.intro hq14 (And.intro k14 o15))
       clear hst2 hp2 hq14 k14 bb obb b15 kb15 o15 b13 b15a f1 f2 CSm c1 c11
       go_wp2_with fail
       refine CSS.out.mono ?_
       rintro e w16 ⟨rfl, k16⟩
       have K16 := Lib.hid k16
       clear k16
       go_wp2_with fail
       go_roundw
       case measure => simp [intOf]; omega
       case rel =>
        have kall : Keeps R2 w10 w14 := (OB.out.weaken (T := R2) (fun _ _ f => f.elim)).trans G.out.2.1
        have oo : Old w14 w16 := G.out.2.2.trans K16.out
        refine ⟨j + 1, by go_num, by omega, ?_, ?_, ?_, ?_⟩
        ·rw [HX.out.2.1]; exact (V.out.2.2.1.stays kall (fun k h => .inr h) LR.out.1).old oo
        ·rw [HX.out.2.1]; exact G.out.1.old oo
        ·exact (((HX.out.2.2.2.2.1.keeps V.out.2.2.2.1 (fun k hk h => (RR.out.2.2.2.2.2.1 k hk).2 h)).keeps kall LR.out.2.1)).old oo
        ·exact ((HX.out.2.2.2.2.2.1.then V.out.2.2.2.1 (fun j hj h => by have := RR.out.2.2.2.1 j h; omega)).then kall (fun j hj h => by have := LR.out.2.2 j h; have := RR.out.2.2.2.2.2.2.size; omega)).trans oo
   ·go_wp2_with fail
    refine CC.out.mono ?_
    rintro e w2 ⟨q2, R2, rfl, hn2, hc2, hb2, k2⟩
    have CF := Lib.hid (forget_q link hc2 (by decide))
    have C2 := Lib.hid (And.intro hn2 (And.intro hb2 k2))
    clear hn2 hc2 hb2 k2 CC
    go_wp2_with fail
    refine CF.out.mono ?_
    rintro e w3 ⟨rfl, hf3, k3⟩
    obtain ⟨d1, hd1⟩ : ∃ d, (ordQ l).length - (List.filter (fun y => !linkP link y) (ordQ l)).length = d := ⟨_, rfl⟩
    rw [hd1]
    have CD := Lib.hid (drop_q broker 6 hf3 (by decide))
    have C3 := Lib.hid (And.intro hd1 k3)
    clear hd1 hf3 k3 CF
    go_wp2_with fail
    refine CD.out.mono ?_
    rintro e w4 ⟨rfl, hf4, k4⟩
    rw [od_rest _ (ord_od l RR.out.2.1)] at hf4
    rw [od_rest _ (ord_od l RR.out.2.1)]
    obtain ⟨d2, hd2⟩ : ∃ d, (List.filter (fun y => !linkP link y) (ordQ l)).length - (List.filter (fun y => !(y.1 == link || y.2.tb == broker)) (ordQ l)).length = d := ⟨_, rfl⟩
    rw [hd2]
    have CE := drop_q broker 5 hf4 (by decide)
    rw [od_none (ordQ l) (ord_od l RR.out.2.1) _ (fun x hx => (List.mem_filter.1 hx).1) broker, Nat.sub_self] at CE
    have CE' := Lib.hid CE
    have C4 := Lib.hid (And.intro hd2 k4)
    clear hd2 hf4 k4 CD CE
    go_wp2_with fail
    refine CE'.out.mono ?_
    rintro e w5 ⟨he, hf5, k5⟩
    have he' : e = .returned (.int .i64 0) := he
    subst he'
    have CL := lenP_q hf5 (by decide)
    obtain ⟨n2, hn2⟩ : ∃ n, (List.filter (fun y => !(y.1 == link || y.2.tb == broker)) (ordQ l)).length = n := ⟨_, rfl⟩
    have hsum : d1 + d2 + n2 = i ∧ d1 ≤ 60 ∧ d2 ≤ 60 ∧ n2 ≤ 60 := by
     have h1 := C3.out.1
     have h2 := C4.out.1
     have h3 := List.length_filter_le (fun y => !linkP link y) (ordQ l)
     have h4 := List.length_filter_le (fun y => !dropP broker 6 y) (List.filter (fun y => !linkP link y) (ordQ l))
     rw [od_rest _ (ord_od l RR.out.2.1)] at h4
     have h5 : (ordQ l).length = i := by rw [ordQ_len, RR.out.1]
     omega
    obtain ⟨hsm, hb1, hb2, hb3⟩ := hsum
    have hne : ((d1 : Int) + (d2 : Int) + (n2 : Int) != (i : Int)) = false := by simp; omega
    rw [hn2] at CL
    have CL' := Lib.hid CL
    have kk : Keeps R2 w2 w5 := C3.out.2.trans (C4.out.2.trans k5)
    have hS2 : ∀ k, R2 k → S k ∨ R2 k := fun k h => .inr h
    have hRR : ∀ k, R k → ¬ R2 k := fun k h h' => by have := RL.out k h; have := C2.out.1 k h'; omega
    have hB9 : ∀ k, (Value.slice p9 i c9').ownBlock = some k → ¬ R2 k := fun k hk h => by have := (RR.out.2.2.2.2.1.block k hk).2; have := C2.out.1 k h; omega
    have L0 := Lib.hid (And.intro (C2.out.2.1.stays kk hS2 hRR) (And.intro hf5 (And.intro ((RR.out.2.2.2.2.1.old C2.out.2.2).keeps kk hB9) ((RR.out.2.2.2.2.2.2.trans C2.out.2.2).then kk (fun j hj h => by have := C2.out.1 j h; have := RR.out.2.2.2.2.2.2.size; omega)))))
    have LR := Lib.hid (And.intro hRR (And.intro hB9 C2.out.1))
    clear hf5 k5 CE' CL hn2 hsm kk hS2 hRR hB9 C2 C3 C4
    go_wp2_with fail
    refine CL'.out.mono ?_
    rintro e w' ⟨rfl, rfl⟩
    go_wp2_with fail
    go_loopw [15] (fun v15 wm => ∃ j : Nat, v15 = .int .i64 j ∧ j ≤ i ∧ QuP R (fun k => S k ∨ R2 k) wm qb 100 ((ordQ l).drop j) ∧ QuP R2 (fun k => S k ∨ R2 k) wm q2 100 (((ordQ l).drop j).filter fun y => !(y.1 == link || y.2.tb == broker)) ∧ OwnsR wm w.heap.size 62 20 opL (.slice p9 i c9') (ordW l) ∧ Old w wm) (fun v15 _ => i - (intOf v15).toNat)
    case atStart => exact ⟨0, rfl, by omega, L0.out.1, L0.out.2.1, L0.out.2.2.1, L0.out.2.2.2⟩
    case round =>
     obtain ⟨j, rfl, hji, hqj, hcj, hoj, hold⟩ := hrel
     have JJ := Lib.hid (And.intro hqj (And.intro hcj (And.intro hoj hold)))
     clear hqj hcj hoj hold L0
     have hoS := (JJ.out.2.2.1.sees opL_len (by decide))
     by_cases hj : j < i
     case neg =>
      have hji' : j = i := by omega
      subst hji'
      have e1 : (ordQ l).drop j = [] := List.drop_eq_nil_of_le (by rw [ordQ_len, RR.out.1]; omega)
      have Lq := lenP_q JJ.out.1 (by decide)
      have Lc := lenP_q JJ.out.2.1 (by decide)
      rw [e1] at Lq Lc
      have LQ := Lib.hid Lq
      have LC := Lib.hid Lc
      clear Lq Lc e1 hoS
      go_wp2_with fail
      refine LQ.out.mono ?_
      rintro e w' ⟨rfl, rfl⟩
      go_wp2_with fail
      refine LC.out.mono ?_
      rintro e w' ⟨rfl, rfl⟩
      go_wp2_with fail
      refine (pwakes_any _).mono ?_
      rintro e wz ⟨rfl, kz⟩
      have Fz := Lib.hid (JJ.out.2.2.2.trans kz)
      clear kz
      go_wp2_with fail
      go_ret
      exact ⟨rfl, Fz.out⟩
     obtain ⟨y, hy⟩ : ∃ y, l[j]? = some y := ⟨_, List.getElem?_eq_getElem (by rw [RR.out.1]; exact hj)⟩
     obtain ⟨xq, xw⟩ := ord_at l j y hy
     obtain ⟨x, hx⟩ : ∃ x : Int × PMs, x = (y.1, (ordMs y.2 j).plain) := ⟨_, rfl⟩
     rw [← hx] at xq
     have ed : (ordQ l).drop j = x :: (ordQ l).drop (j + 1) := by
      have hjl : j < (ordQ l).length := (List.getElem?_eq_some_iff.1 xq).1
      rw [List.drop_eq_getElem_cons hjl, (List.getElem?_eq_some_iff.1 xq).2]
     obtain ⟨Pr, hPr⟩ : ∃ Pr, (ordQ l).drop (j + 1) = Pr := ⟨_, rfl⟩
     rw [hPr] at ed
     obtain ⟨qj, cj, oj, od⟩ := JJ.out
     rw [ed] at qj cj
     obtain ⟨gb, go, gc, eg, _, _, hgc⟩ := hoS.at (by rw [ordW_len, RR.out.1]; omega)
     rw [ordW_len, RR.out.1] at eg
     simp only [Value.slice.injEq] at eg
     obtain ⟨rfl, -, rfl⟩ := eg
     have hgx := hgc j _ xw
     have c1 := hgx 1 _ rfl
     have lw := load_op (x := ⟨0, y.1, ordMs y.2 j⟩) hgx
     have yb := RR.out.2.1 y (List.mem_of_getElem? hy)
     have CN := Lib.hid (next_some qj (by decide))
     have HX := Lib.hid (And.intro hx (And.intro hPr (And.intro qj (And.intro cj (And.intro oj (And.intro od yb))))))
     have GX := Lib.hid hgx
     clear hx hPr qj cj oj od hoS ed xq xw hy hgc hgx JJ yb c1 lw
     go_wp2_with fail
     refine CN.out.mono ?_
     rintro e w10 ⟨m1, rfl, hp1, hst1, hq10, k10⟩
     obtain ⟨Wa, hWa⟩ : ∃ W, w10.alloc (.cells zeroMs.cells.toArray 43) = W := ⟨_, rfl⟩
     have ba : MAt Wa w10.heap.size zeroMs := by rw [← hWa]; exact heap_alloc_new _ _
     have oa : Old w10 Wa := by rw [← hWa]; exact (Keeps.refl _ _).alloc _
     obtain ⟨W11, hst11, b11, kb11⟩ := store_msg ba m1 hst1.fine.one
     have o11 : Old w10 W11 := oa.then kb11 (fun j hj e => by omega)
     change w10.alloc (.cells #[.int .i64 0, .int .i64 0, .int .u64 0, .bool false, .slice none 0 0, .int .u64 0, .int .u64 0, .string ⟨#[]⟩, .slice none 0 0, .int .i64 0, .int .u64 0, .int .u64 0, .int .u64 0, .int .u64 0, .int .u64 0, .slice none 0 0, .slice none 0 0, .bool false] 43) = Wa at hWa
     have V := Lib.hid (And.intro hp1 (And.intro hst1 (And.intro hq10 (And.intro k10 (And.intro o11 b11)))))
     clear hp1 hst1 hq10 k10 ba oa b11 kb11 o11 CN
     have hgb : ¬ R gb := (RR.out.2.2.2.2.2.1 gb rfl).2
     have hgb2 : ¬ R2 gb := LR.out.2.1 gb rfl
     have GW := Lib.hid (fun W (k : Old w10 W) i u hu => k.cell (V.out.2.2.2.1.cell (GX.out i u hu) hgb) (fun f => f))
     have KB := Lib.hid (And.intro hgb hgb2)
     have hm1 : m1.plain = (ordMs y.2 j).plain := by rw [V.out.1, HX.out.1]
     have hx1 : x.1 = y.1 := by rw [HX.out.1]
     have hxt : x.2.tb = y.2 := by rw [HX.out.1]; rfl
     have hne9 : (x.1 != y.1) = false := by rw [hx1]; simp
     have f1 := ((V.out.2.1.old V.out.2.2.2.2.1).old (Keeps.refl (fun _ => False) W11).drew).fine
     have CT := Lib.hid (ptheirs_any m1 W11.drew f1)
     have f2 : ∀ W, (ordMs y.2 j).fine W := fun W => (ord_bare y.2 j HX.out.2.2.2.2.2.2 (by omega) (fun _ => False) W).fine
     have CS := Lib.hid (fun W (k : Old W11.drew W) => (by
      have h := ref21_same_any m1 (ordMs y.2 j) W (((V.out.2.1.old V.out.2.2.2.2.1).old (Keeps.refl (fun _ => False) W11).drew).old k).fine (f2 W)
      rw [hm1, (sameM_iff _ _).2 rfl] at h
      exact h : Calls Try.prog 20 #[.agg m1.cells.toArray, .agg (ordMs y.2 j).cells.toArray] W fun e w' => e = .returned (.bool true) ∧ Old W w'))
     have XT := Lib.hid (And.intro hm1 (And.intro hx1 (And.intro hxt f2)))
     clear f1 hm1 hx1 hxt f2 hgb hgb2 GX
     go_wp2_with fail
     have hSx : Old W11 W11.drew := (Keeps.refl _ _).drew
     refine wp_region_g (S := fun W => Old W11 W) (M := [0, 1, 2, 3, 4, 5, 6, 7, 8, 9, 10, 11, 12, 13, 14, 15, 16, 17, 18, 19, 20, 21]) (by kernel_rfl) ?_
     refine wpAnyG_takeL (i := 0) (oi := _) (v := ?vzb0) rfl (by kernel_rfl) (by kernel_rfl) (by kernel_rfl) (by kernel_rfl) (fun _ _ _ h => h) (Or.inl ⟨by rfl, ?yzb0⟩) hSx ?rzb0
     case yzb0 => (intro W hSw; go_simp; try with_reducible rfl)
     try simp only [Act.put, List.setIfInBounds_toArray, List.set_cons_zero, List.set_cons_succ]
     refine wpAnyG_takeL (i := 1) (oi := _) (v := ?vzb1) rfl (by kernel_rfl) (by kernel_rfl) (by kernel_rfl) (by kernel_rfl) (fun _ _ _ h => h) (Or.inl ⟨by rfl, ?yzb1⟩) hSx ?rzb1
     case yzb1 => (intro W hSw; go_simp; try with_reducible rfl)
     try simp only [Act.put, List.setIfInBounds_toArray, List.set_cons_zero, List.set_cons_succ]
     refine wpAnyG_takeL (i := 2) (oi := _) (v := ?vzb2) rfl (by kernel_rfl) (by kernel_rfl) (by kernel_rfl) (by kernel_rfl) (fun _ _ _ h => h) (Or.inl ⟨by rfl, ?yzb2⟩) hSx ?rzb2
     case yzb2 => (intro W hSw; go_simp; try with_reducible rfl)
     try simp only [Act.put, List.setIfInBounds_toArray, List.set_cons_zero, List.set_cons_succ]
     refine wpAnyG_takeL (i := 3) (oi := _) (v := ?vzb3) rfl (by kernel_rfl) (by kernel_rfl) (by kernel_rfl) (by kernel_rfl) (fun _ _ _ h => h) (Or.inl ⟨by rfl, ?yzb3⟩) hSx ?rzb3
     case yzb3 => (intro W hSw; go_simp; try with_reducible rfl)
     try simp only [Act.put, List.setIfInBounds_toArray, List.set_cons_zero, List.set_cons_succ]
     refine wpAnyG_takeL (i := 4) (oi := _) (v := ?vzb4) rfl (by kernel_rfl) (by kernel_rfl) (by kernel_rfl) (by kernel_rfl) (fun _ _ _ h => h) (Or.inl ⟨by rfl, ?yzb4⟩) hSx ?rzb4
     case yzb4 => (intro W hSw; go_simp; try with_reducible rfl)
     try simp only [Act.put, List.setIfInBounds_toArray, List.set_cons_zero, List.set_cons_succ]
     refine wpAnyG_takeL (i := 5) (oi := _) (v := ?vzb5) rfl (by kernel_rfl) (by kernel_rfl) (by kernel_rfl) (by kernel_rfl) (fun _ _ _ h => h) (Or.inl ⟨by rfl, ?yzb5⟩) hSx ?rzb5
     case yzb5 => (intro W hSw; go_simp; try with_reducible rfl)
     try simp only [Act.put, List.setIfInBounds_toArray, List.set_cons_zero, List.set_cons_succ]
     refine wpAnyG_takeL (i := 6) (oi := _) (v := ?vzb6) rfl (by kernel_rfl) (by kernel_rfl) (by kernel_rfl) (by kernel_rfl) (fun _ _ _ h => h) (Or.inl ⟨by rfl, ?yzb6⟩) hSx ?rzb6
     case yzb6 => (intro W hSw; go_simp; try with_reducible rfl)
     try simp only [Act.put, List.setIfInBounds_toArray, List.set_cons_zero, List.set_cons_succ]
     refine wpAnyG_takeL (i := 7) (oi := _) (v := ?vzb7) rfl (by kernel_rfl) (by kernel_rfl) (by kernel_rfl) (by kernel_rfl) (fun _ _ _ h => h) (Or.inl ⟨by rfl, ?yzb7⟩) hSx ?rzb7
     case yzb7 => (intro W hSw; go_simp; try with_reducible rfl)
     try simp only [Act.put, List.setIfInBounds_toArray, List.set_cons_zero, List.set_cons_succ]
     refine wpAnyG_takeL (i := 8) (oi := _) (v := ?vzb8) rfl (by kernel_rfl) (by kernel_rfl) (by kernel_rfl) (by kernel_rfl) (fun _ _ _ h => h) (Or.inl ⟨by rfl, ?yzb8⟩) hSx ?rzb8
     case yzb8 => (intro W hSw; have y1 := (show _ = some (Value.int .i64 y.1) from GW.out _ (V.out.2.2.2.2.1.trans hSw) 1 _ rfl); go_simp; try with_reducible rfl)
     try simp only [Act.put, List.setIfInBounds_toArray, List.set_cons_zero, List.set_cons_succ]
     refine wpAnyG_takeL (i := 9) (oi := _) (v := ?vzb9) rfl (by kernel_rfl) (by kernel_rfl) (by kernel_rfl) (by kernel_rfl) (fun _ _ _ h => h) (Or.inl ⟨by rfl, ?yzb9⟩) hSx ?rzb9
     case yzb9 => (intro W hSw; go_simp; try with_reducible rfl)
     try simp only [Act.put, List.setIfInBounds_toArray, List.set_cons_zero, List.set_cons_succ]
     refine wpAnyG_takeL (i := 10) (oi := _) (v := ?vzba) rfl (by kernel_rfl) (by kernel_rfl) (by kernel_rfl) (by kernel_rfl) (fun _ _ _ h => h) (Or.inl ⟨by rfl, ?yzba⟩) hSx ?rzba
     case yzba => (intro W hSw; go_simp; try with_reducible rfl)
     try simp only [Act.put, List.setIfInBounds_toArray, List.set_cons_zero, List.set_cons_succ]
     refine wpAnyG_takeL (i := 11) (oi := _) (v := ?vzbb) rfl (by kernel_rfl) (by kernel_rfl) (by kernel_rfl) (by kernel_rfl) (fun _ _ _ h => h) (Or.inl ⟨by rfl, ?yzbb⟩) hSx ?rzbb
     case yzbb => (intro W hSw; go_simp; try with_reducible rfl)
     try simp only [Act.put, List.setIfInBounds_toArray, List.set_cons_zero, List.set_cons_succ]
     refine wpAnyG_takeL (i := 12) (oi := _) (v := ?vzbc) rfl (by kernel_rfl) (by kernel_rfl) (by kernel_rfl) (by kernel_rfl) (fun _ _ _ h => h) (Or.inl ⟨by rfl, ?yzbc⟩) hSx ?rzbc
     case yzbc => (intro W hSw; have y1 := load_msg ((hSw.block _ (lt_of_heap V.out.2.2.2.2.2) (fun f => f)).trans V.out.2.2.2.2.2) (by simp [Ms.cells]); go_simp; try with_reducible rfl)
     try simp only [Act.put, List.setIfInBounds_toArray, List.set_cons_zero, List.set_cons_succ]
     refine wpAnyG_takeL (i := 14) (oi := _) (v := ?vzbd) rfl (by kernel_rfl) (by kernel_rfl) (by kernel_rfl) (by kernel_rfl) (fun _ _ _ h => h) (Or.inl ⟨by rfl, ?yzbd⟩) hSx ?rzbd
     case yzbd => (intro W hSw; go_simp; try with_reducible rfl)
     try simp only [Act.put, List.setIfInBounds_toArray, List.set_cons_zero, List.set_cons_succ]
     refine wpAnyG_takeL (i := 15) (oi := _) (v := ?vzbe) rfl (by kernel_rfl) (by kernel_rfl) (by kernel_rfl) (by kernel_rfl) (fun _ _ _ h => h) (Or.inl ⟨by rfl, ?yzbe⟩) hSx ?rzbe
     case yzbe => (intro W hSw; go_simp; try with_reducible rfl)
     try simp only [Act.put, List.setIfInBounds_toArray, List.set_cons_zero, List.set_cons_succ]
     refine wpAnyG_takeL (i := 16) (oi := _) (v := ?vzbf) rfl (by kernel_rfl) (by kernel_rfl) (by kernel_rfl) (by kernel_rfl) (fun _ _ _ h => h) (Or.inl ⟨by rfl, ?yzbf⟩) hSx ?rzbf
     case yzbf => (intro W hSw; go_simp; try with_reducible rfl)
     try simp only [Act.put, List.setIfInBounds_toArray, List.set_cons_zero, List.set_cons_succ]
     refine wpAnyG_takeL (i := 17) (oi := _) (v := ?vzbg) rfl (by kernel_rfl) (by kernel_rfl) (by kernel_rfl) (by kernel_rfl) (fun _ _ _ h => h) (Or.inl ⟨by rfl, ?yzbg⟩) hSx ?rzbg
     case yzbg => (intro W hSw; go_simp; try with_reducible rfl)
     try simp only [Act.put, List.setIfInBounds_toArray, List.set_cons_zero, List.set_cons_succ]
     refine wpAnyG_takeL (i := 18) (oi := _) (v := ?vzbh) rfl (by kernel_rfl) (by kernel_rfl) (by kernel_rfl) (by kernel_rfl) (fun _ _ _ h => h) (Or.inl ⟨by rfl, ?yzbh⟩) hSx ?rzbh
     case yzbh => (intro W hSw; have y1 := load_op (x := ⟨0, y.1, ordMs y.2 j⟩) (GW.out _ (V.out.2.2.2.2.1.trans hSw)); go_simp; try with_reducible rfl)
     try simp only [Act.put, List.setIfInBounds_toArray, List.set_cons_zero, List.set_cons_succ]
     refine wpAnyG_onlyL (i := 13) (o := _) (by kernel_rfl) rfl (fun K hK => ?_)
     go_simp
     refine CT.out.mono ?_
     rintro e w12 ⟨rfl, k12⟩
     have hS12 : Old W11 w12 := hSx.trans k12
     have CS2 := Lib.hid (CS.out w12 k12)
     clear k12 CT CS
     refine hK.out _ _ (fun _ => hS12) ?_
     clear hK K
     try simp only [Act.put, List.setIfInBounds_toArray, List.set_cons_zero, List.set_cons_succ]
     refine wpAnyG_onlyL (i := 19) (o := _) (by kernel_rfl) rfl (fun K hK => ?_)
     go_simp
     refine CS2.out.mono ?_
     rintro e w13 ⟨rfl, k13⟩
     have hS13 : Old W11 w13 := hS12.trans k13
     clear k13 CS2
     refine hK.out _ _ (fun _ => hS13) ?_
     clear hK K
     try simp only [Act.put, List.setIfInBounds_toArray, List.set_cons_zero, List.set_cons_succ]
     refine wpAnyG_takeL (i := 20) (oi := _) (v := ?vzbi) rfl (by kernel_rfl) (by kernel_rfl) (by kernel_rfl) (by kernel_rfl) (fun _ _ _ h => h) (Or.inl ⟨by rfl, ?yzbi⟩) hS13 ?rzbi
     case yzbi => (intro W hSw; go_simp; try with_reducible rfl)
     try simp only [Act.put, List.setIfInBounds_toArray, List.set_cons_zero, List.set_cons_succ]
     refine wpAnyG_takeL (i := 21) (oi := _) (v := ?vzbj) rfl (by kernel_rfl) (by kernel_rfl) (by kernel_rfl) (by kernel_rfl) (fun _ _ _ h => h) (Or.inl ⟨by rfl, ?yzbj⟩) hS13 ?rzbj
     case yzbj => (intro W hSw; go_simp; try with_reducible rfl)
     try simp only [Act.put, List.setIfInBounds_toArray, List.set_cons_zero, List.set_cons_succ]
     refine wpAnyG_done (by kernel_rfl) ?_ _
     go_simp
     have ob : Old w10 w13 := V.out.2.2.2.2.1.trans hS13
     have c1 : w13.cell? ⟨gb, go + j * 20 + 1, none⟩ = some (.int .i64 y.1) := GW.out w13 ob 1 _ rfl
     have c11 : w13.cell? ⟨gb, go + j * 20 + 11, none⟩ = some (.int .i64 y.2) := GW.out w13 ob 11 _ rfl
     have HS13 := Lib.hid hS13
     obtain ⟨z1, hz1⟩ : ∃ z, (y.1 == link) = z := ⟨_, rfl⟩
     obtain ⟨z2, hz2⟩ : ∃ z, (y.2 == broker) = z := ⟨_, rfl⟩
     clear hS12 hS13 hSx hne9 hWa hst11
     cases z1 with
     | true =>
      have hf : (x :: Pr).filter (fun y => !(y.1 == link || y.2.tb == broker)) = Pr.filter (fun y => !(y.1 == link || y.2.tb == broker)) := by rw [List.filter_cons, if_neg (by simp [XT.out.2.1, XT.out.2.2.1, hz1])]
      have HF := Lib.hid (And.intro hf ob)
      clear hf ob
      go_wp2_with fail
      go_roundw
      case measure => simp [intOf]; omega
      case rel =>
       have hcj := HX.out.2.2.2.1
       rw [HF.out.1] at hcj
       refine ⟨j + 1, by go_num, by omega, ?_, ?_, ?_, ?_⟩
       ·rw [HX.out.2.1]; exact V.out.2.2.1.old HF.out.2
       ·rw [HX.out.2.1]; exact (hcj.stays V.out.2.2.2.1 HX.out.2.2.1.facts.2.1 (fun k h h' => LR.out.1 k h' h)).old HF.out.2
       ·exact (HX.out.2.2.2.2.1.keeps V.out.2.2.2.1 (fun k hk h => (RR.out.2.2.2.2.2.1 k hk).2 h)).old HF.out.2
       ·exact (HX.out.2.2.2.2.2.1.then V.out.2.2.2.1 (fun j hj h => by have := RR.out.2.2.2.1 j h; omega)).trans HF.out.2
     | false =>
      cases z2 with
      | true =>
       have hf : (x :: Pr).filter (fun y => !(y.1 == link || y.2.tb == broker)) = Pr.filter (fun y => !(y.1 == link || y.2.tb == broker)) := by rw [List.filter_cons, if_neg (by simp [XT.out.2.1, XT.out.2.2.1, hz1, hz2])]
       have HF := Lib.hid (And.intro hf ob)
       clear hf ob
       go_wp2_with fail
       go_roundw
       case measure => simp [intOf]; omega
       case rel =>
        have hcj := HX.out.2.2.2.1
        rw [HF.out.1] at hcj
        refine ⟨j + 1, by go_num, by omega, ?_, ?_, ?_, ?_⟩
        ·rw [HX.out.2.1]; exact V.out.2.2.1.old HF.out.2
        ·rw [HX.out.2.1]; exact (hcj.stays V.out.2.2.2.1 HX.out.2.2.1.facts.2.1 (fun k h h' => LR.out.1 k h' h)).old HF.out.2
        ·exact (HX.out.2.2.2.2.1.keeps V.out.2.2.2.1 (fun k hk h => (RR.out.2.2.2.2.2.1 k hk).2 h)).old HF.out.2
        ·exact (HX.out.2.2.2.2.2.1.then V.out.2.2.2.1 (fun j hj h => by have := RR.out.2.2.2.1 j h; omega)).trans HF.out.2
      | false =>
       have hf : (x :: Pr).filter (fun y => !(y.1 == link || y.2.tb == broker)) = x :: Pr.filter (fun y => !(y.1 == link || y.2.tb == broker)) := by rw [List.filter_cons, if_pos (by simp [XT.out.2.1, XT.out.2.2.1, hz1, hz2])]
       have hcj := HX.out.2.2.2.1
       rw [hf] at hcj
       have nb2 : ¬ R2 w10.heap.size := fun h => by have := hcj.facts.2.2 _ (.inr h); have := V.out.2.2.2.1.size; omega
       have NB := Lib.hid nb2
       have OB := Lib.hid ob
       have CN2 := Lib.hid (next_some ((hcj.stays V.out.2.2.2.1 HX.out.2.2.1.facts.2.1 (fun k h h' => LR.out.1 k h' h)).old ob) (by decide))
       clear hf hcj nb2 ob
       go_wp2_with fail
       refine CN2.out.mono ?_
       rintro e w14 ⟨m2, rfl, hp2, hst2, hq14, k14⟩
       obtain ⟨Wb, hWb⟩ : ∃ W, w14.alloc (.cells zeroMs.cells.toArray 43) = W := ⟨_, rfl⟩
       have bb : MAt Wb w14.heap.size zeroMs := by rw [← hWb]; exact heap_alloc_new _ _
       have obb : Old w14 Wb := by rw [← hWb]; exact (Keeps.refl _ _).alloc _
       obtain ⟨W15, hst15, b15, kb15⟩ := store_msg bb m2 hst2.fine.one
       have o15 : Old w14 W15 := obb.then kb15 (fun j hj e => by omega)
       change w14.alloc (.cells #[.int .i64 0, .int .i64 0, .int .u64 0, .bool false, .slice none 0 0, .int .u64 0, .int .u64 0, .string ⟨#[]⟩, .slice none 0 0, .int .i64 0, .int .u64 0, .int .u64 0, .int .u64 0, .int .u64 0, .int .u64 0, .slice none 0 0, .slice none 0 0, .bool false] 43) = Wb at hWb
       have b13 := (HS13.out.block _ (lt_of_heap V.out.2.2.2.2.2) (fun f => f)).trans V.out.2.2.2.2.2
       have b15a := (o15.block _ (by have := lt_of_heap b13; have := k14.size; omega) (fun f => f)).trans ((k14.block _ (lt_of_heap b13) NB.out).trans b13)
       have lm1 := load_msg b15a (by simp [Ms.cells])
       have lm2 := load_msg b15 (by simp [Ms.cells])
       have d1x : W15.cell? ⟨gb, go + j * 20 + 1, none⟩ = some (.int .i64 y.1) := o15.cell (k14.cell c1 KB.out.2) (fun f => f)
       have f1 : m1.fine W15 := ((((V.out.2.1.old OB.out).to (k14.weaken (fun j _ h => .inr h)))).old o15).fine
       have f2 : m2.fine W15 := (hst2.old o15).fine
       have CSm := msg_same_any m1 m2 W15 f1 f2
       rw [V.out.1, hp2, (sameM_iff _ _).2 rfl] at CSm
       have CSS := Lib.hid CSm
       have hne1 : (x.1 != y.1) = false := by rw [XT.out.2.1]; simp
       have G := Lib.hid (And.intro hq14 (And.intro k14 o15))
       clear hst2 hp2 hq14 k14 bb obb b15 kb15 o15 b13 b15a f1 f2 CSm c1 c11
       go_wp2_with fail
       refine CSS.out.mono ?_
       rintro e w16 ⟨rfl, k16⟩
       have K16 := Lib.hid k16
       clear k16
       go_wp2_with fail
       go_roundw
       case measure => simp [intOf]; omega
       case rel =>
        have kall : Keeps R2 w10 w14 := (OB.out.weaken (T := R2) (fun _ _ f => f.elim)).trans G.out.2.1
        have oo : Old w14 w16 := G.out.2.2.trans K16.out
        refine ⟨j + 1, by go_num, by omega, ?_, ?_, ?_, ?_⟩
        ·rw [HX.out.2.1]; exact (V.out.2.2.1.stays kall (fun k h => .inr h) LR.out.1).old oo
        ·rw [HX.out.2.1]; exact G.out.1.old oo
        ·exact (((HX.out.2.2.2.2.1.keeps V.out.2.2.2.1 (fun k hk h => (RR.out.2.2.2.2.2.1 k hk).2 h)).keeps kall LR.out.2.1)).old oo
        ·exact ((HX.out.2.2.2.2.2.1.then V.out.2.2.2.1 (fun j hj h => by have := RR.out.2.2.2.1 j h; omega)).then kall (fun j hj h => by have := LR.out.2.2 j h; have := RR.out.2.2.2.2.2.2.size; omega)).trans oo

  obtain ⟨hlt, h60⟩ := hgo
  have hx : ops[i]? = some ops[i] := List.getElem?_eq_getElem hlt
  generalize ops[i] = t at hx
  obtain ⟨lb, lo, lc, e, _, _, hcell⟩ := HL.out.at (by omega)
  simp only [Value.slice.injEq] at e
  obtain ⟨rfl, -, rfl⟩ := e
  have CO := Lib.hid (fun W (k : Old w W) => (⟨k.cell (hcell i t hx 1 _ rfl) (fun f => f), k.cell (hcell i t hx 11 _ rfl) (fun f => f)⟩ :
   W.cell? ⟨lb, lo + i * 20 + 1, none⟩ = some (.int .i64 t.link) ∧ W.cell? ⟨lb, lo + i * 20 + 11, none⟩ = some (.int .i64 t.m.tb)))
  obtain ⟨c1, c11⟩ := CO.out wr RR.out.2.2.2.2.2.2
  obtain ⟨b, hand, hb⟩ : ∃ b : Int, bits .and .i64 t.m.tb 3 = b ∧ (0 ≤ b ∧ b < 4) := ⟨_, rfl, by have := and_small t.m.tb 3 (by decide); simp at this; omega⟩
  have hcv : IntKind.u64.wrap ((i : Int) + 1) = ((i + 1 : Nat) : Int) := by
   have := IntWalk.u64_in ((i : Int) + 1) (by omega)
   rw [this]
   simp
  have CA := ask_any b 5 (i + 1) wr (by unfold I64; omega) (by unfold U64; decide) (by unfold U64; omega)
  rw [Int.natCast_add] at CA
  have CB := Lib.hid CA
  have HB := Lib.hid hb
  clear hx hcell hb CA
  go_wp2_with fail
  refine CB.out.mono ?_
  rintro e w5 ⟨rfl, k5⟩
  obtain ⟨Wb, hWb⟩ : ∃ W, w5.alloc (.cells zeroMs.cells.toArray 43) = W := ⟨_, rfl⟩
  have bb : MAt Wb w5.heap.size zeroMs := by rw [← hWb]; exact heap_alloc_new _ _
  have obb : Old w5 Wb := by rw [← hWb]; exact (Keeps.refl _ _).alloc _
  obtain ⟨W6, hst6, b6, kb6⟩ := store_msg bb (askMs b 5 (i + 1)) (ask_bare b 5 (i + 1) (by have := HB.out; unfold I64; omega) (by unfold U64; decide) (by unfold U64; omega) (fun _ => False) w5).fine.one
  obtain ⟨W7, hst7, b7, kb7⟩ := store_pub b6 (i : Int)
  obtain ⟨W8, hst8, b8, kb8⟩ := store_from b7 (i + 1)
  change (storeVar 28 ⟨w5.heap.size, 12, none⟩ (.int .u64 ((i : Int) + 1))).run Try.prog W7 = .ok () W8 at hst8
  have o8 : Old wr W8 := k5.trans (((obb.then kb6 (fun j hj e => by omega)).then kb7 (fun j hj e => by omega)).then kb8 (fun j hj e => by omega))
  have b8' : MAt W8 w5.heap.size (ordMs b i) := b8
  have hmb : wr.heap.size ≤ w5.heap.size := k5.size
  change w5.alloc (.cells #[.int .i64 0, .int .i64 0, .int .u64 0, .bool false, .slice none 0 0, .int .u64 0, .int .u64 0, .string ⟨#[]⟩, .slice none 0 0, .int .i64 0, .int .u64 0, .int .u64 0, .int .u64 0, .int .u64 0, .int .u64 0, .slice none 0 0, .slice none 0 0, .bool false] 43) = Wb at hWb
  have G8 := Lib.hid (And.intro o8 (And.intro b8' hmb))
  clear bb obb b6 kb6 b7 kb7 b8 kb8 b8' o8 hmb k5
  go_wp2_with fail
  have hS10 : W8.drew.cell? ⟨lb, lo + i * 20 + 1, none⟩ = some (.int .i64 t.link) ∧ MAt W8.drew w5.heap.size (ordMs b i) := ⟨(CO.out W8.drew (RR.out.2.2.2.2.2.2.trans (G8.out.1.trans (Keeps.refl _ _).drew))).1, G8.out.2.1⟩
  have hoa := od_add (k := t.link) (b := b) (ord_od l RR.out.2.1) HB.out (by rw [ordQ_len, RR.out.1]; exact h60)
  rw [ordQ_len, RR.out.1] at hoa
  have OA := Lib.hid hoa
  have AQ := Lib.hid (add_q t.link (ordMs b i) ((RR.out.2.2.1.old G8.out.1).old (Keeps.refl (fun _ => False) W8).drew) (by decide) (by rw [ordQ_len, RR.out.1]; omega) (ord_bare b i HB.out h60 S _))
  clear hoa
  refine wp_region_g (S := fun W => W.cell? ⟨lb, lo + i * 20 + 1, none⟩ = some (.int .i64 t.link) ∧ MAt W w5.heap.size (ordMs b i)) (M := [0, 1, 2, 3, 4, 5, 6, 7, 8]) (by kernel_rfl) ?_
  refine wpAnyG_takeL (i := 0) (oi := _) (v := ?va0) rfl (by kernel_rfl) (by kernel_rfl) (by kernel_rfl) (by kernel_rfl) (fun _ _ _ h => h) (Or.inl ⟨by rfl, ?ya0⟩) hS10 ?ra0
  case ya0 => (intro W hSw; go_simp; try with_reducible rfl)
  try simp only [Act.put, List.setIfInBounds_toArray, List.set_cons_zero, List.set_cons_succ]
  refine wpAnyG_takeL (i := 1) (oi := _) (v := ?va1) rfl (by kernel_rfl) (by kernel_rfl) (by kernel_rfl) (by kernel_rfl) (fun _ _ _ h => h) (Or.inl ⟨by rfl, ?ya1⟩) hS10 ?ra1
  case ya1 => (intro W hSw; go_simp; try with_reducible rfl)
  try simp only [Act.put, List.setIfInBounds_toArray, List.set_cons_zero, List.set_cons_succ]
  refine wpAnyG_takeL (i := 2) (oi := _) (v := ?va2) rfl (by kernel_rfl) (by kernel_rfl) (by kernel_rfl) (by kernel_rfl) (fun _ _ _ h => h) (Or.inl ⟨by rfl, ?ya2⟩) hS10 ?ra2
  case ya2 => (intro W hSw; go_simp; try with_reducible rfl)
  try simp only [Act.put, List.setIfInBounds_toArray, List.set_cons_zero, List.set_cons_succ]
  refine wpAnyG_takeL (i := 3) (oi := _) (v := ?va3) rfl (by kernel_rfl) (by kernel_rfl) (by kernel_rfl) (by kernel_rfl) (fun _ _ _ h => h) (Or.inl ⟨by rfl, ?ya3⟩) hS10 ?ra3
  case ya3 => (intro W hSw; go_simp; try with_reducible rfl)
  try simp only [Act.put, List.setIfInBounds_toArray, List.set_cons_zero, List.set_cons_succ]
  refine wpAnyG_takeL (i := 4) (oi := _) (v := ?va4) rfl (by kernel_rfl) (by kernel_rfl) (by kernel_rfl) (by kernel_rfl) (fun _ _ _ h => h) (Or.inl ⟨by rfl, ?ya4⟩) hS10 ?ra4
  case ya4 => (intro W hSw; go_simp; try with_reducible rfl)
  try simp only [Act.put, List.setIfInBounds_toArray, List.set_cons_zero, List.set_cons_succ]
  refine wpAnyG_takeL (i := 5) (oi := _) (v := ?va5) rfl (by kernel_rfl) (by kernel_rfl) (by kernel_rfl) (by kernel_rfl) (fun _ _ _ h => h) (Or.inl ⟨by rfl, ?ya5⟩) hS10 ?ra5
  case ya5 => (intro W hSw; obtain ⟨y1, y2⟩ := hSw; have y3 := load_plain q1 y1; go_simp; try with_reducible rfl)
  try simp only [Act.put, List.setIfInBounds_toArray, List.set_cons_zero, List.set_cons_succ]
  refine wpAnyG_takeL (i := 6) (oi := _) (v := ?va6) rfl (by kernel_rfl) (by kernel_rfl) (by kernel_rfl) (by kernel_rfl) (fun _ _ _ h => h) (Or.inl ⟨by rfl, ?ya6⟩) hS10 ?ra6
  case ya6 => (intro W hSw; obtain ⟨y1, y2⟩ := hSw; have y3 := load_msg y2 (by simp [Ms.cells]); go_simp; try with_reducible rfl)
  try simp only [Act.put, List.setIfInBounds_toArray, List.set_cons_zero, List.set_cons_succ]
  refine wpAnyG_onlyL (i := 7) (o := _) (by kernel_rfl) rfl (fun K hK => ?_)
  go_simp
  refine AQ.out.mono ?_
  rintro e w9 ⟨R', g1, g2, he, hq9, k9⟩
  rw [show (ordMs b i).plain = (ordMs b i).plain from rfl, OA.out.1] at he hq9
  dsimp only at he hq9
  subst he
  have hRl : ∀ k, R k → k < wr.heap.size := fun k hk => RR.out.2.2.1.facts.2.2 k (RR.out.2.2.1.facts.2.1 k hk)
  have nmb : ¬ R w5.heap.size := fun h => by have := hRl _ h; have := G8.out.2.2; omega
  have kR9 : Keeps R wr w9 := ((G8.out.1.weaken (T := R) (fun _ _ f => f.elim)).trans (Keeps.refl R W8).drew).trans k9
  have o9 : Old w w9 := RR.out.2.2.2.2.2.2.then kR9 (fun j hj h => by have := RR.out.2.2.2.1 j h; omega)
  have s89 : wr.heap.size ≤ W8.heap.size := G8.out.1.size
  have r9 : ∀ k, R' k → R k ∨ wr.heap.size ≤ k := fun k hk => by
   rcases g1 k hk with h | h
   ·exact .inl h
   ·right; simp at h; omega
  have hS9 : w9.cell? ⟨lb, lo + i * 20 + 1, none⟩ = some (.int .i64 t.link) ∧ MAt w9 w5.heap.size (ordMs b i) := ⟨(CO.out w9 o9).1, (k9.block _ (lt_of_heap hS10.2) nmb).trans hS10.2⟩
  have V9 := Lib.hid (And.intro hq9 (And.intro r9 (And.intro kR9 (And.intro o9 hRl))))
  have CT := Lib.hid (ptheirs_any (ordMs b i) w9.drew (ord_bare b i HB.out h60 (fun _ => False) _).fine)
  clear hq9 g1 g2 k9 kR9 o9 r9 nmb hRl s89 AQ
  refine hK.out _ _ (fun _ => hS9) ?_
  clear hK K
  try simp only [Act.put, List.setIfInBounds_toArray, List.set_cons_zero, List.set_cons_succ]
  refine wpAnyG_takeL (i := 8) (oi := _) (v := ?va8) rfl (by kernel_rfl) (by kernel_rfl) (by kernel_rfl) (by kernel_rfl) (fun _ _ _ h => h) (Or.inl ⟨by rfl, ?ya8⟩) hS9 ?ra8
  case ya8 => (intro W hSw; go_simp; try with_reducible rfl)
  try simp only [Act.put, List.setIfInBounds_toArray, List.set_cons_zero, List.set_cons_succ]
  refine wpAnyG_done (by kernel_rfl) ?_ _
  go_simp
  go_wp2_with fail
  refine wp_region_g (S := fun W => W.cell? ⟨lb, lo + i * 20 + 1, none⟩ = some (.int .i64 t.link) ∧ MAt W w5.heap.size (ordMs b i)) (M := [0, 1, 2, 3, 4, 5, 6, 7, 8, 9, 10, 11]) (by kernel_rfl) ?_
  have hS9q : w9.drew.cell? ⟨lb, lo + i * 20 + 1, none⟩ = some (.int .i64 t.link) ∧ MAt w9.drew w5.heap.size (ordMs b i) := hS9
  refine wpAnyG_takeL (i := 0) (oi := _) (v := ?vd0) rfl (by kernel_rfl) (by kernel_rfl) (by kernel_rfl) (by kernel_rfl) (fun _ _ _ h => h) (Or.inl ⟨by rfl, ?yd0⟩) hS9q ?rd0
  case yd0 => (intro W hSw; go_simp; try with_reducible rfl)
  try simp only [Act.put, List.setIfInBounds_toArray, List.set_cons_zero, List.set_cons_succ]
  refine wpAnyG_takeL (i := 1) (oi := _) (v := ?vd1) rfl (by kernel_rfl) (by kernel_rfl) (by kernel_rfl) (by kernel_rfl) (fun _ _ _ h => h) (Or.inl ⟨by rfl, ?yd1⟩) hS9q ?rd1
  case yd1 => (intro W hSw; go_simp; try with_reducible rfl)
  try simp only [Act.put, List.setIfInBounds_toArray, List.set_cons_zero, List.set_cons_succ]
  refine wpAnyG_takeL (i := 2) (oi := _) (v := ?vd2) rfl (by kernel_rfl) (by kernel_rfl) (by kernel_rfl) (by kernel_rfl) (fun _ _ _ h => h) (Or.inl ⟨by rfl, ?yd2⟩) hS9q ?rd2
  case yd2 => (intro W hSw; go_simp; try with_reducible rfl)
  try simp only [Act.put, List.setIfInBounds_toArray, List.set_cons_zero, List.set_cons_succ]
  refine wpAnyG_takeL (i := 3) (oi := _) (v := ?vd3) rfl (by kernel_rfl) (by kernel_rfl) (by kernel_rfl) (by kernel_rfl) (fun _ _ _ h => h) (Or.inl ⟨by rfl, ?yd3⟩) hS9q ?rd3
  case yd3 => (intro W hSw; go_simp; try with_reducible rfl)
  try simp only [Act.put, List.setIfInBounds_toArray, List.set_cons_zero, List.set_cons_succ]
  refine wpAnyG_takeL (i := 4) (oi := _) (v := ?vd4) rfl (by kernel_rfl) (by kernel_rfl) (by kernel_rfl) (by kernel_rfl) (fun _ _ _ h => h) (Or.inl ⟨by rfl, ?yd4⟩) hS9q ?rd4
  case yd4 => (intro W hSw; go_simp; try with_reducible rfl)
  try simp only [Act.put, List.setIfInBounds_toArray, List.set_cons_zero, List.set_cons_succ]
  refine wpAnyG_takeL (i := 5) (oi := _) (v := ?vd5) rfl (by kernel_rfl) (by kernel_rfl) (by kernel_rfl) (by kernel_rfl) (fun _ _ _ h => h) (Or.inl ⟨by rfl, ?yd5⟩) hS9q ?rd5
  case yd5 => (intro W hSw; obtain ⟨y1, y2⟩ := hSw; have y3 := load_plain q1 y1; go_simp; try with_reducible rfl)
  try simp only [Act.put, List.setIfInBounds_toArray, List.set_cons_zero, List.set_cons_succ]
  refine wpAnyG_takeL (i := 6) (oi := _) (v := ?vd6) rfl (by kernel_rfl) (by kernel_rfl) (by kernel_rfl) (by kernel_rfl) (fun _ _ _ h => h) (Or.inl ⟨by rfl, ?yd6⟩) hS9q ?rd6
  case yd6 => (intro W hSw; obtain ⟨y1, y2⟩ := hSw; have y3 := load_msg y2 (by simp [Ms.cells]); go_simp; try with_reducible rfl)
  try simp only [Act.put, List.setIfInBounds_toArray, List.set_cons_zero, List.set_cons_succ]
  refine wpAnyG_onlyL (i := 7) (o := _) (by kernel_rfl) rfl (fun K hK => ?_)
  go_simp
  refine CT.out.mono ?_
  rintro e w10 ⟨rfl, k10⟩
  have hS9a : w10.cell? ⟨lb, lo + i * 20 + 1, none⟩ = some (.int .i64 t.link) ∧ MAt w10 w5.heap.size (ordMs b i) := ⟨k10.cell hS9q.1 (fun f => f), (k10.block _ (lt_of_heap hS9q.2) (fun f => f)).trans hS9q.2⟩
  obtain ⟨y, hy⟩ : ∃ y : Opq, y = ⟨0, t.link, ordMs b i⟩ := ⟨_, rfl⟩
  have oA : Old w10 (w10.alloc (.cells (opL y).toArray 62)) := (Keeps.refl _ _).alloc _
  have o9a : Old w9 (w10.alloc (.cells (opL y).toArray 62)) := ((Keeps.refl (fun _ => False) w9).drew.trans k10).trans oA
  have ow9 := (RR.out.2.2.2.2.1.keeps V9.out.2.2.1 (fun k hk h => (RR.out.2.2.2.2.2.1 k hk).2 h)).old o9a
  have SN := Lib.hid (SeesR.new (k := 20) (enc := opL) w10 62 (0, 0) [y] (opL y).toArray (by simp) opL_len (by unfold maxLen; simp))
  have hone : ∀ x ∈ [y], ∀ c ∈ opL x, c.oneCell' = true := by
   intro x hx
   rw [List.mem_singleton] at hx
   subst hx
   rw [hy]
   simp [opL, ordMs, askMs, Ms.cells, zeroMs, Value.oneCell']
  have hS9b : (w10.alloc (.cells (opL y).toArray 62)).cell? ⟨lb, lo + i * 20 + 1, none⟩ = some (.int .i64 t.link) ∧ MAt (w10.alloc (.cells (opL y).toArray 62)) w5.heap.size (ordMs b i) := ⟨oA.cell hS9a.1 (fun f => f), (oA.block _ (lt_of_heap hS9a.2) (fun f => f)).trans hS9a.2⟩
  have OO := Lib.hid (And.intro ow9 (And.intro o9a (And.intro hone hy)))
  clear ow9 oA k10 hone CT
  refine hK.out _ _ (fun _ => hS9a) ?_
  clear hK K
  try simp only [Act.put, List.setIfInBounds_toArray, List.set_cons_zero, List.set_cons_succ]
  refine wpAnyG_takeL (i := 8) (oi := _) (v := .agg (opL y).toArray) rfl (by kernel_rfl) (by kernel_rfl) (by kernel_rfl) (by kernel_rfl) (fun _ _ _ h => h) (Or.inl ⟨by rfl, fun W _ => by rw [hy]; exact run_build_op rfl t.link (ordMs b i) rfl rfl W⟩) hS9a ?rf8
  try simp only [Act.put, List.setIfInBounds_toArray, List.set_cons_zero, List.set_cons_succ]
  clear hy
  refine wpAnyG_onlyL (i := 9) (o := _) (by kernel_rfl) rfl (fun K hK => ?_)
  refine step_value rfl _ (run_slice_op rfl y rfl _) ?_
  refine hK.out _ _ (fun _ => hS9b) ?_
  clear hK K
  try simp only [Act.put, List.setIfInBounds_toArray, List.set_cons_zero, List.set_cons_succ]
  refine wpAnyG_onlyL (i := 10) (o := _) (by kernel_rfl) rfl (fun K hK => ?_)
  refine step_append_rows (P := Try.prog) rfl _ _ 55 rfl w.heap.size 62 20 232 opL _ Try.underlying55 Try.infoOp rfl (by decide) (.slice p9 i c9') (ordW l) (by rfl) OO.out.1 _ [y] (by rfl) SN.out (fun _ _ => opL_len _) OO.out.2.2.1 (by rw [ordW_len, RR.out.1]; unfold maxLen; simp; omega) (by rw [ordW_len, RR.out.1]; simp; omega) (Nat.le_trans V9.out.2.2.2.1.size OO.out.2.1.size) ?_
  intro v' w11 ho11 hg11 hv11
  obtain ⟨p', c', hv', _, _⟩ := (ho11.sees opL_len (by decide)).len
  subst hv'
  have hlen : (ordW l ++ [y]).length = i + 1 := by simp [ordW_len, RR.out.1]
  rw [hlen] at ho11 hv11 ⊢
  have own9 : Keeps (fun k => (Value.slice p9 i c9').ownBlock = some k) (w10.alloc (.cells (opL y).toArray 62)) w11 := (Keeps.refl _ _).grown hg11 (fun k hk _ => hk)
  have hB9 : ∀ k, (Value.slice p9 i c9').ownBlock = some k → w.heap.size ≤ k ∧ k < wr.heap.size := fun k hk => RR.out.2.2.2.2.1.block k hk
  have o11 : Old w w11 := (V9.out.2.2.2.1.trans OO.out.2.1).then own9 (fun j hj e => by have := (hB9 j e).1; omega)
  have hS11 : w11.cell? ⟨lb, lo + i * 20 + 1, none⟩ = some (.int .i64 t.link) ∧ MAt w11 w5.heap.size (ordMs b i) := ⟨(CO.out w11 o11).1, (own9.block _ (lt_of_heap hS9b.2) (fun e => by have := (hB9 _ e).2; have := G8.out.2.2; omega)).trans hS9b.2⟩
  have hd9 : ∀ k, R' k → ¬ (Value.slice p9 i c9').ownBlock = some k := fun k hk e => by
   rcases V9.out.2.1 k hk with h | h
   ·exact (RR.out.2.2.2.2.2.1 k e).2 h
   ·have := (hB9 k e).2; omega
  have q11 := (V9.out.1.old OO.out.2.1).beside (R1 := fun k => (Value.slice p9 i c9').ownBlock = some k) (X := fun k => (Value.slice p' (i + 1) c').ownBlock = some k) own9 (fun k hk => .inl (RR.out.2.2.2.2.2.1 k hk).1) hd9 (fun k hk => by
   rcases hv11 with e | e
   ·rw [e] at hk; exact .inl (.inl (RR.out.2.2.2.2.2.1 k hk).1)
   ·rw [e] at hk; injection hk with hk; right; omega) (fun k hk => (ho11.block k hk).2)
  have hnew : ∀ k, R' k → w.heap.size ≤ k := fun k hk => by
   rcases V9.out.2.1 k hk with h | h
   ·exact RR.out.2.2.2.1 k h
   ·have := RR.out.2.2.2.2.2.2.size; omega
  have hap : ∀ k, (Value.slice p' (i + 1) c').ownBlock = some k → ¬ R' k := fun k hk h => by
   rcases hv11 with e | e
   ·rw [e] at hk; exact hd9 k h hk
   ·rw [e] at hk; injection hk with hk
    have h1 := V9.out.1.facts.2.2 k (.inr h)
    have h2 := OO.out.2.1.size
    omega
  have eQ : ordQ (l ++ [(t.link, b)]) = ordQ l ++ [(t.link, (ordMs b i).plain)] := by rw [ordQ_snoc, ordQ_len, RR.out.1]
  have eW : ordW (l ++ [(t.link, b)]) = ordW l ++ [y] := by rw [ordW_snoc, RR.out.1, OO.out.2.2.2]
  have F := Lib.hid (And.intro eQ (And.intro eW (And.intro q11 (And.intro hnew (And.intro ho11 (And.intro hap o11))))))
  clear hlen own9 hB9 o11 hd9 q11 hnew hap eQ eW ho11 hg11 hv11
  refine hK.out _ _ (fun _ => hS11) ?_
  clear hK K
  try simp only [Act.put, List.setIfInBounds_toArray, List.set_cons_zero, List.set_cons_succ]
  refine wpAnyG_takeL (i := 11) (oi := _) (v := ?va11) rfl (by kernel_rfl) (by kernel_rfl) (by kernel_rfl) (by kernel_rfl) (fun _ _ _ h => h) (Or.inl ⟨by rfl, ?ya11⟩) hS11 ?ra11
  case ya11 => (intro W hSw; go_simp; try with_reducible rfl)
  try simp only [Act.put, List.setIfInBounds_toArray, List.set_cons_zero, List.set_cons_succ]
  refine wpAnyG_done (by kernel_rfl) ?_ _
  go_simp
  go_wp2_with fail
  go_roundw
  case rel =>
   refine ⟨i + 1, l ++ [(t.link, b)], R', (fun k => (S k ∨ R' k) ∨ (Value.slice p' (i + 1) c').ownBlock = some k), by go_num, by omega, by omega, by simp [RR.out.1], ?_, ?_, F.out.2.2.2.1, ?_, fun k hk => ⟨.inr hk, F.out.2.2.2.2.2.1 k hk⟩, F.out.2.2.2.2.2.2⟩
   ·intro x hx
    rcases List.mem_append.1 hx with h | h
    ·exact RR.out.2.1 x h
    ·rw [List.mem_singleton.1 h]; exact HB.out
   ·rw [F.out.1]; exact F.out.2.2.1
   ·rw [F.out.2.1]; exact F.out.2.2.2.2.1
  case measure => simp [intOf]; omega
end Go.Proofs.Ytiednihagnehlaa
