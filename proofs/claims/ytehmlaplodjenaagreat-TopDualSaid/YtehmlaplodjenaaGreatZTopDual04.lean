/- DERIVED. pred: Holds, Matches. · DERIVED. pred: Matches. -/
import Derived.Test.YtehmlaplodjenaaGreatZTopDual03
import Derived.Deep.DeepCutAuto
import Derived.Laws.BitsAllLaws
import Derived.IntWalk
set_option maxRecDepth 100000
set_option maxHeartbeats 2000000
namespace Go.Proofs.YtehmlaplodjenaaGreat
section
open Go.RowKit
theorem holds_any (c : Con) (v : Val) (w : World) (hs : SeesV w c.sv c.set) :
  Calls Tryz.prog 31 #[.agg c.cells.toArray, .agg v.cells] w fun e w' => e = .returned (.bool (asksV c.plain v)) ∧ Old w w' := by
 have AK := fun (W : World) (k : Old w W) => asks_any c W (hs.old k)
 obtain ⟨k, n, s, b⟩ := v
 obtain ⟨b0, hb0⟩ : ∃ b0, asksV c.plain ⟨k, n, s, b⟩ = b0 := ⟨_, rfl⟩
 have HB := Lib.hid hb0
 rw [hb0]
 obtain ⟨nm, op, ⟨ck, cn, cs, cb'⟩, sv, set⟩ := c
 obtain ⟨p, cc, e9, _, _⟩ := hs.len
 simp only at e9 hs
 subst e9
 unfold Con.cells Val.cells at *
 simp only at AK ⊢
 obtain ⟨W0, hW0⟩ : ∃ W0, (w.alloc (.cells #[.string nm, .int .i64 op, .int .i64 ck, .int .i64 cn, .string cs, .bool cb', .slice p set.length cc] 78)).alloc (.cells #[.int .i64 k, .int .i64 n, .string s, .bool b] 61) = W0 := ⟨_, rfl⟩
 have o0 : Old w W0 := by rw [← hW0]; exact ((Keeps.refl _ _).alloc _).alloc _
 obtain ⟨b1, b2⟩ := two_blocks w (.cells #[.string nm, .int .i64 op, .int .i64 ck, .int .i64 cn, .string cs, .bool cb', .slice p set.length cc] 78) (.cells #[.int .i64 k, .int .i64 n, .string s, .bool b] 61)
 rw [hW0] at b1 b2
 have A := Lib.hid (And.intro o0 (And.intro b1 b2))
 have HK := Lib.hid AK
 have HW := Lib.hid hW0
 have hT : W0.drew.heap[w.heap.size]? = some (.cells #[.string nm, .int .i64 op, .int .i64 ck, .int .i64 cn, .string cs, .bool cb', .slice p set.length cc] 78 (0, 0)) ∧ W0.drew.heap[w.heap.size + 1]? = some (.cells #[.int .i64 k, .int .i64 n, .string s, .bool b] 61 (0, 0)) := ⟨b1, b2⟩
 clear o0 b1 b2 AK hb0 hW0 hs
 go_enter Tryz.func31, Tryz.ntmps31
 go_upto_region 1 with fail
 rw [HW.out]
 refine wp_region_g (S := fun W => W.heap[w.heap.size]? = some (.cells #[.string nm, .int .i64 op, .int .i64 ck, .int .i64 cn, .string cs, .bool cb', .slice p set.length cc] 78 (0, 0)) ∧ W.heap[w.heap.size + 1]? = some (.cells #[.int .i64 k, .int .i64 n, .string s, .bool b] 61 (0, 0))) (M := [0, 1, 2, 3]) (by kernel_rfl) ?_
 refine tkG (i := 0) (v := ?va0) ?ya0 hT ?ra0
 case ya0 => (intro W hSw; obtain ⟨g1, g2⟩ := hSw; have q0 : W.cell? ⟨w.heap.size, 0, none⟩ = some (.string nm) := (by simp [World.cell?, g1]); have q1 : W.cell? ⟨w.heap.size, 1, none⟩ = some (.int .i64 op) := (by simp [World.cell?, g1]); have q2 : W.cell? ⟨w.heap.size, 2, none⟩ = some (.int .i64 ck) := (by simp [World.cell?, g1]); have q3 : W.cell? ⟨w.heap.size, 3, none⟩ = some (.int .i64 cn) := (by simp [World.cell?, g1]); have q4 : W.cell? ⟨w.heap.size, 4, none⟩ = some (.string cs) := (by simp [World.cell?, g1]); have q5 : W.cell? ⟨w.heap.size, 5, none⟩ = some (.bool cb') := (by simp [World.cell?, g1]); have q6 : W.cell? ⟨w.heap.size, 6, none⟩ = some (.slice p set.length cc) := (by simp [World.cell?, g1]); go_simp; try with_reducible rfl)
 try simp only [Act.put, List.setIfInBounds_toArray, List.set_cons_zero, List.set_cons_succ]
 refine tkG (i := 2) (v := ?va2) ?ya2 hT ?ra2
 case ya2 => (intro W hSw; obtain ⟨g1, g2⟩ := hSw; have q := blk4 g2; go_simp; try with_reducible rfl)
 try simp only [Act.put, List.setIfInBounds_toArray, List.set_cons_zero, List.set_cons_succ]
 refine wpAnyG_onlyL (i := 1) (o := _) (by kernel_rfl) rfl (fun K hK => ?_)
 go_simp
 refine (HK.out _ (A.out.1.trans (Keeps.refl _ _).drew)).mono ?_
 rintro e w2 ⟨fv, rfl, hask, o2⟩
 obtain ⟨g, bd, lb, rfl, hent, hcall⟩ := hask ⟨k, n, s, b⟩
 have hc := hcall ⟨k, n, s, b⟩ (List.mem_singleton.2 rfl) w2 (Keeps.refl _ _)
 rw [show asksV (Con.plain ⟨nm, op, ⟨ck, cn, cs, cb'⟩, .slice p set.length cc, set⟩) ⟨k, n, s, b⟩ = b0 from HB.out] at hc
 have HC := Lib.hid hc
 have hT2 : w2.heap[w.heap.size]? = some (.cells #[.string nm, .int .i64 op, .int .i64 ck, .int .i64 cn, .string cs, .bool cb', .slice p set.length cc] 78 (0, 0)) ∧ w2.heap[w.heap.size + 1]? = some (.cells #[.int .i64 k, .int .i64 n, .string s, .bool b] 61 (0, 0)) := ⟨(o2.block _ (lt_of_heap hT.1) (fun f => f)).trans hT.1, (o2.block _ (lt_of_heap hT.2) (fun f => f)).trans hT.2⟩
 have O2 := Lib.hid ((A.out.1.trans (Keeps.refl (fun _ => False) W0).drew).trans o2)
 clear hask hcall hc o2 hT
 go_wp2_with fail
 refine hK.out _ _ (fun _ => hT2) ?_
 clear hK K
 try simp only [Act.put, List.setIfInBounds_toArray, List.set_cons_zero, List.set_cons_succ]
 refine wpAnyG_onlyL (i := 3) (o := _) (by kernel_rfl) rfl (fun K hK => ?_)
 go_simp
 refine HC.out.mono ?_
 rintro e w3 ⟨rfl, o3⟩
 have hT3 : w3.heap[w.heap.size]? = some (.cells #[.string nm, .int .i64 op, .int .i64 ck, .int .i64 cn, .string cs, .bool cb', .slice p set.length cc] 78 (0, 0)) ∧ w3.heap[w.heap.size + 1]? = some (.cells #[.int .i64 k, .int .i64 n, .string s, .bool b] 61 (0, 0)) := ⟨(o3.block _ (lt_of_heap hT2.1) (fun f => f)).trans hT2.1, (o3.block _ (lt_of_heap hT2.2) (fun f => f)).trans hT2.2⟩
 have O3 := Lib.hid (O2.out.trans o3)
 clear o3 hT2
 go_wp2_with fail
 refine hK.out _ _ (fun _ => hT3) ?_
 clear hK K
 try simp only [Act.put, List.setIfInBounds_toArray, List.set_cons_zero, List.set_cons_succ]
 refine wpAnyG_onlyL (i := 4) (o := _) (by kernel_rfl) rfl (fun K hK => ?_)
 go_simp
 refine hK.out _ _ (fun h => absurd h (by decide)) ?_
 clear hK K
 try simp only [Act.put, List.setIfInBounds_toArray, List.set_cons_zero, List.set_cons_succ]
 refine wpAnyG_done (by kernel_rfl) ?_ _
 go_simp
 go_wp2_with fail
 go_ret
 exact ⟨rfl, O3.out⟩
end
section
open Go.RowKit
def metC (l : List At) (c : PCon) : Bool := (getV l c.name).elim false (asksV c)
def matchesV (p : List PCon) (l : List At) : Bool := p.all (metC l)
theorem matches1_any (eb : Nat) (key : ByteArray) (av : Value) (l : List At) (c : Con) (w : World) (he : w.heap[eb]? = some (.cells #[.string key, av] 33 (0, 0))) (hl : SeesA w av l) (hs : SeesV w c.sv c.set) :
  Calls Tryz.prog 35 #[.agg c.cells.toArray, .pointer (some ⟨eb, 0, none⟩)] w fun e w' => e = .returned (.bool (!metC l c.plain)) ∧ Old w w' := by
 obtain ⟨pa, ca, rfl, _, _⟩ := hl.len
 have HH := Lib.hid (fun (W : World) (k : Old w W) (v : Val) => holds_any c v W (hs.old k))
 have HG := Lib.hid (fun (W : World) (k : Old w W) => get_any key c.name _ l W (hl.old k))
 obtain ⟨g, hg⟩ : ∃ g, getV l c.name = g := ⟨_, rfl⟩
 have hm : metC l c.plain = g.elim false (asksV c.plain) := by unfold metC; rw [← hg]; rfl
 rw [hm]
 rw [hg] at HG
 obtain ⟨nm, op, ⟨ck, cn, cs, cb'⟩, sv, set⟩ := c
 obtain ⟨p, cc, e9, _, _⟩ := hs.len
 simp only at e9 hs HG
 subst e9
 unfold Con.cells at HH ⊢
 simp only at HH ⊢
 obtain ⟨W0, hW0⟩ : ∃ W0, w.alloc (.cells #[.string nm, .int .i64 op, .int .i64 ck, .int .i64 cn, .string cs, .bool cb', .slice p set.length cc] 78) = W0 := ⟨_, rfl⟩
 have o0 : Old w W0 := by rw [← hW0]; exact (Keeps.refl _ _).alloc _
 have b0 : W0.heap[w.heap.size]? = some (.cells #[.string nm, .int .i64 op, .int .i64 ck, .int .i64 cn, .string cs, .bool cb', .slice p set.length cc] 78 (0, 0)) := by rw [← hW0]; exact heap_alloc_new _ _
 have e0 := (o0.block _ (lt_of_heap he) (fun f => f)).trans he
 have q1 := (blk2 e0).1
 have q0 : W0.cell? ⟨w.heap.size, 0, none⟩ = some (.string nm) := by simp [World.cell?, b0]
 have A := Lib.hid (And.intro o0 b0)
 have HW := Lib.hid hW0
 clear o0 b0 e0 hW0 hs hl he hg hm
 go_enter Tryz.func35, Tryz.ntmps35
 go_upto_region 1 with fail
 rw [HW.out]
 go_wp2_with fail
 refine (HG.out _ A.out.1).mono ?_
 rintro e w1 ⟨rfl, o1⟩
 have b1 := (o1.block _ (lt_of_heap A.out.2) (fun f => f)).trans A.out.2
 cases g with
 | none =>
  have O := Lib.hid (A.out.1.trans o1)
  clear o1 b1 q0 q1
  simp only [Option.getD_none, Option.isSome_none, zeroVal, Val.cells]
  go_wp2_with fail
  go_ret
  exact ⟨rfl, O.out.alloc _⟩
 | some v =>
  obtain ⟨vk, vn, vs, vb⟩ := v
  simp only [Option.getD_some, Option.isSome_some, Val.cells]
  obtain ⟨W2, hW2⟩ : ∃ W2, w1.alloc (.cells #[.int .i64 vk, .int .i64 vn, .string vs, .bool vb] 61) = W2 := ⟨_, rfl⟩
  have o2 : Old w1 W2 := by rw [← hW2]; exact (Keeps.refl _ _).alloc _
  have b2 := (o2.block _ (lt_of_heap b1) (fun f => f)).trans b1
  have v2 : W2.heap[w1.heap.size]? = some (.cells #[.int .i64 vk, .int .i64 vn, .string vs, .bool vb] 61 (0, 0)) := by rw [← hW2]; exact heap_alloc_new _ _
  have y := blk4 v2
  have z0 : W2.cell? ⟨w.heap.size, 0, none⟩ = some (.string nm) := (by simp [World.cell?, b2])
  have z1 : W2.cell? ⟨w.heap.size, 1, none⟩ = some (.int .i64 op) := (by simp [World.cell?, b2])
  have z2 : W2.cell? ⟨w.heap.size, 2, none⟩ = some (.int .i64 ck) := (by simp [World.cell?, b2])
  have z3 : W2.cell? ⟨w.heap.size, 3, none⟩ = some (.int .i64 cn) := (by simp [World.cell?, b2])
  have z4 : W2.cell? ⟨w.heap.size, 4, none⟩ = some (.string cs) := (by simp [World.cell?, b2])
  have z5 : W2.cell? ⟨w.heap.size, 5, none⟩ = some (.bool cb') := (by simp [World.cell?, b2])
  have z6 : W2.cell? ⟨w.heap.size, 6, none⟩ = some (.slice p set.length cc) := (by simp [World.cell?, b2])
  have O := Lib.hid ((A.out.1.trans o1).trans o2)
  have HW2 := Lib.hid hW2
  have HC := Lib.hid (HH.out W2 ((A.out.1.trans o1).trans o2) ⟨vk, vn, vs, vb⟩)
  clear o1 b1 o2 b2 v2 hW2 q0 q1
  go_upto_region 2 with fail
  rw [HW2.out]
  go_wp2_with fail
  refine HC.out.mono ?_
  rintro e w3 ⟨rfl, o3⟩
  have O3 := Lib.hid (O.out.trans o3)
  clear o3
  go_wp2_with fail
  go_ret
  exact ⟨rfl, O3.out⟩
theorem not_any_met (l : List At) : ∀ cs : List Con, (!cs.any fun c => !metC l c.plain) = matchesV (cs.map Con.plain) l
 | [] => rfl
 | x :: r => by
  have ih := not_any_met l r
  unfold matchesV at ih ⊢
  simp only [List.any_cons, List.map_cons, List.all_cons, Bool.not_or, Bool.not_not, ih]
theorem matches_any (v : Value) (cs : List Con) (key : ByteArray) (av : Value) (l : List At) (w : World) (hc : SeesR w 7 Con.cells v cs) (hf : ∀ x ∈ cs, SeesV w x.sv x.set) (hl : SeesA w av l) :
  Calls Tryz.prog 12 #[v, .agg #[.string key, av]] w fun e w' => e = .returned (.bool (matchesV (cs.map Con.plain) l)) ∧ Old w w' := by
 obtain ⟨pc, cc, rfl, _, _⟩ := hc.len
 obtain ⟨pa, ca, rfl, _, _⟩ := hl.len
 obtain ⟨W0, hW0⟩ : ∃ W0, w.alloc (.cells #[.string key, .slice pa l.length ca] 33) = W0 := ⟨_, rfl⟩
 have o0 : Old w W0 := by rw [← hW0]; exact (Keeps.refl _ _).alloc _
 have b0 : W0.heap[w.heap.size]? = some (.cells #[.string key, .slice pa l.length ca] 33 (0, 0)) := by rw [← hW0]; exact heap_alloc_new _ _
 have C := Lib.hid (cff_con (fun c => !metC l c.plain) (.func (.func 35) #[] #[.pointer (some ⟨w.heap.size, 0, none⟩)]) _ cs W0 (hc.old o0)
  ⟨_, _, _, rfl, fun args W => by simp [go_sem, callFunc, Tryz.func35]; rfl, fun x hx W hW => matches1_any _ key _ l x W ((hW.block _ (lt_of_heap b0) (fun f => f)).trans b0) ((hl.old o0).old hW) (((hf x hx).old o0).old hW)⟩)
 have hall := not_any_met l cs
 have HA := Lib.hid hall
 have O := Lib.hid o0
 have HW := Lib.hid hW0
 clear hall o0 b0 hW0 hc hl hf
 go_enter Tryz.func12, Tryz.ntmps12
 go_upto_region 1 with fail
 rw [HW.out]
 go_wp2_with fail
 refine C.out.mono ?_
 rintro e w1 ⟨rfl, o1⟩
 have O1 := Lib.hid (O.out.trans o1)
 clear o1
 go_wp2_with fail
 go_ret
 exact ⟨by rw [← HA.out]; rfl, O1.out⟩
end
section
open Go.RowKit
structure Cut where
 at_ : ByteArray
 e : Bool
def Cut.cells (c : Cut) : List Value := [.string c.at_, .bool c.e]
def strLt (a b : ByteArray) : Bool := Op.bytesLess a.toList b.toList
def lessC (a b : Cut) : Bool := !a.e && (b.e || strLt a.at_ b.at_)
def endC : Cut := ⟨⟨#[]⟩, true⟩
theorem less_any (a b : Cut) (w : World) : Calls Tryz.prog 186 #[.agg a.cells.toArray, .agg b.cells.toArray] w fun e w' => e = .returned (.bool (lessC a b)) ∧ Old w w' := by
 obtain ⟨s, x⟩ := a
 obtain ⟨t, y⟩ := b
 unfold Cut.cells lessC strLt
 simp only
 have O := Lib.hid (((Keeps.refl (fun _ => False) w).alloc (.cells #[.string s, .bool x] 188)).alloc (.cells #[.string t, .bool y] 188))
 cases x <;> cases y
 all_goals go_enter Tryz.func186, Tryz.ntmps186
 all_goals go_wp2_with fail
 all_goals go_ret
 all_goals exact ⟨rfl, O.out⟩
theorem end_any (w : World) : Calls Tryz.prog 142 #[] w fun e w' => e = .returned (.agg #[.string ⟨#[]⟩, .bool true]) ∧ Old w w' := by
 have O := Lib.hid ((Keeps.refl (fun _ => False) w).alloc (.cells #[.string ⟨#[]⟩, .bool true] 188))
 go_enter Tryz.func142, Tryz.ntmps142
 go_wp2_with fail
 exact bodyPost_ret (v := .agg #[.string ⟨#[]⟩, .bool true]) (by simp [results, Tryz.results142, go_sem]) rfl ⟨rfl, O.out⟩
def eightL (n : Nat) (k : Nat) : List UInt8 := (List.range k).map fun j => UInt8.ofNat (n / 2 ^ (56 - 8 * j))
theorem eightL_succ (n k : Nat) : eightL n (k + 1) = eightL n k ++ [UInt8.ofNat (n / 2 ^ (56 - 8 * k))] := by unfold eightL; rw [List.range_succ, List.map_append]; rfl
theorem eight_any (n : Nat) (w : World) (hn : n < 18446744073709551616) : Calls Tryz.prog 213 #[.int .u64 (n : Int)] w fun e w' => ∃ v, e = .returned v ∧ Owns w' w.heap.size v (eightL n 8) ∧ Old w w' := by
 have HN := Lib.hid hn
 clear hn
 go_enter Tryz.func213, Tryz.ntmps213
 go_wp2_with fail
 go_loopw [3, 4] (fun v3 v4 wr => ∃ (j : Nat) (z : Int), j ≤ 8 ∧ z = 56 - 8 * (j : Int) ∧ v4 = .int .i64 z ∧ Owns wr w.heap.size v3 (eightL n j) ∧ Old w wr) (fun _ v4 _ => ((intOf v4) + 8).toNat)
 case atStart => exact ⟨0, 56, by omega, by omega, rfl, Owns.nil _ _, Keeps.refl _ _⟩
 case round =>
  obtain ⟨j, z, hj, hz, rfl, ho, hk⟩ := hrel
  have H := Lib.hid (And.intro ho hk)
  clear ho hk
  by_cases h8 : j = 8
  ·subst h8
   obtain rfl : z = -8 := by omega
   go_wp2_with fail
   go_ret
   exact ⟨_, rfl, H.out.1, H.out.2⟩
  ·have hc : j = 0 ∨ j = 1 ∨ j = 2 ∨ j = 3 ∨ j = 4 ∨ j = 5 ∨ j = 6 ∨ j = 7 := by omega
   have hw := H.out.2.size
   rcases hc with rfl | rfl | rfl | rfl | rfl | rfl | rfl | rfl
   ·obtain rfl : z = 56 := by omega
    clear hz
    have SN := Lib.hid (Sees.one wr ((n : Int) / 72057594037927936 % 256) (UInt8.ofNat (n / 2 ^ (56 - 8 * 0))) (by rw [UInt8.toNat_ofNat']; have := HN.out; omega))
    go_wp2_with (at_builtin; go_loud (refine wpList_append_sees rfl _ _ rfl w.heap.size _ _ rfl (H.out.1.alloc _) _ _ rfl SN.out (by simp [eightL]) (by simp; omega) ?_; intro v' w2 ho2 hg2))
    have R := Lib.hid (And.intro ho2 ((H.out.2.alloc _).grown hg2 (fun b hb hlt => by have := H.out.1.block b hb; omega)))
    clear ho2 hg2
    go_roundw
    case rel => exact ⟨1, 48, by omega, by omega, by go_num, by rw [eightL_succ]; exact R.out.1, R.out.2⟩
    case measure => simp [intOf]
   ·obtain rfl : z = 48 := by omega
    clear hz
    have SN := Lib.hid (Sees.one wr ((n : Int) / 281474976710656 % 256) (UInt8.ofNat (n / 2 ^ (56 - 8 * 1))) (by rw [UInt8.toNat_ofNat']; have := HN.out; omega))
    go_wp2_with (at_builtin; go_loud (refine wpList_append_sees rfl _ _ rfl w.heap.size _ _ rfl (H.out.1.alloc _) _ _ rfl SN.out (by simp [eightL]) (by simp; omega) ?_; intro v' w2 ho2 hg2))
    have R := Lib.hid (And.intro ho2 ((H.out.2.alloc _).grown hg2 (fun b hb hlt => by have := H.out.1.block b hb; omega)))
    clear ho2 hg2
    go_roundw
    case rel => exact ⟨2, 40, by omega, by omega, by go_num, by rw [eightL_succ]; exact R.out.1, R.out.2⟩
    case measure => simp [intOf]
   ·obtain rfl : z = 40 := by omega
    clear hz
    have SN := Lib.hid (Sees.one wr ((n : Int) / 1099511627776 % 256) (UInt8.ofNat (n / 2 ^ (56 - 8 * 2))) (by rw [UInt8.toNat_ofNat']; have := HN.out; omega))
    go_wp2_with (at_builtin; go_loud (refine wpList_append_sees rfl _ _ rfl w.heap.size _ _ rfl (H.out.1.alloc _) _ _ rfl SN.out (by simp [eightL]) (by simp; omega) ?_; intro v' w2 ho2 hg2))
    have R := Lib.hid (And.intro ho2 ((H.out.2.alloc _).grown hg2 (fun b hb hlt => by have := H.out.1.block b hb; omega)))
    clear ho2 hg2
    go_roundw
    case rel => exact ⟨3, 32, by omega, by omega, by go_num, by rw [eightL_succ]; exact R.out.1, R.out.2⟩
    case measure => simp [intOf]
   ·obtain rfl : z = 32 := by omega
    clear hz
    have SN := Lib.hid (Sees.one wr ((n : Int) / 4294967296 % 256) (UInt8.ofNat (n / 2 ^ (56 - 8 * 3))) (by rw [UInt8.toNat_ofNat']; have := HN.out; omega))
    go_wp2_with (at_builtin; go_loud (refine wpList_append_sees rfl _ _ rfl w.heap.size _ _ rfl (H.out.1.alloc _) _ _ rfl SN.out (by simp [eightL]) (by simp; omega) ?_; intro v' w2 ho2 hg2))
    have R := Lib.hid (And.intro ho2 ((H.out.2.alloc _).grown hg2 (fun b hb hlt => by have := H.out.1.block b hb; omega)))
    clear ho2 hg2
    go_roundw
    case rel => exact ⟨4, 24, by omega, by omega, by go_num, by rw [eightL_succ]; exact R.out.1, R.out.2⟩
    case measure => simp [intOf]
   ·obtain rfl : z = 24 := by omega
    clear hz
    have SN := Lib.hid (Sees.one wr ((n : Int) / 16777216 % 256) (UInt8.ofNat (n / 2 ^ (56 - 8 * 4))) (by rw [UInt8.toNat_ofNat']; have := HN.out; omega))
    go_wp2_with (at_builtin; go_loud (refine wpList_append_sees rfl _ _ rfl w.heap.size _ _ rfl (H.out.1.alloc _) _ _ rfl SN.out (by simp [eightL]) (by simp; omega) ?_; intro v' w2 ho2 hg2))
    have R := Lib.hid (And.intro ho2 ((H.out.2.alloc _).grown hg2 (fun b hb hlt => by have := H.out.1.block b hb; omega)))
    clear ho2 hg2
    go_roundw
    case rel => exact ⟨5, 16, by omega, by omega, by go_num, by rw [eightL_succ]; exact R.out.1, R.out.2⟩
    case measure => simp [intOf]
   ·obtain rfl : z = 16 := by omega
    clear hz
    have SN := Lib.hid (Sees.one wr ((n : Int) / 65536 % 256) (UInt8.ofNat (n / 2 ^ (56 - 8 * 5))) (by rw [UInt8.toNat_ofNat']; have := HN.out; omega))
    go_wp2_with (at_builtin; go_loud (refine wpList_append_sees rfl _ _ rfl w.heap.size _ _ rfl (H.out.1.alloc _) _ _ rfl SN.out (by simp [eightL]) (by simp; omega) ?_; intro v' w2 ho2 hg2))
    have R := Lib.hid (And.intro ho2 ((H.out.2.alloc _).grown hg2 (fun b hb hlt => by have := H.out.1.block b hb; omega)))
    clear ho2 hg2
    go_roundw
    case rel => exact ⟨6, 8, by omega, by omega, by go_num, by rw [eightL_succ]; exact R.out.1, R.out.2⟩
    case measure => simp [intOf]
   ·obtain rfl : z = 8 := by omega
    clear hz
    have SN := Lib.hid (Sees.one wr ((n : Int) / 256 % 256) (UInt8.ofNat (n / 2 ^ (56 - 8 * 6))) (by rw [UInt8.toNat_ofNat']; have := HN.out; omega))
    go_wp2_with (at_builtin; go_loud (refine wpList_append_sees rfl _ _ rfl w.heap.size _ _ rfl (H.out.1.alloc _) _ _ rfl SN.out (by simp [eightL]) (by simp; omega) ?_; intro v' w2 ho2 hg2))
    have R := Lib.hid (And.intro ho2 ((H.out.2.alloc _).grown hg2 (fun b hb hlt => by have := H.out.1.block b hb; omega)))
    clear ho2 hg2
    go_roundw
    case rel => exact ⟨7, 0, by omega, by omega, by go_num, by rw [eightL_succ]; exact R.out.1, R.out.2⟩
    case measure => simp [intOf]
   ·obtain rfl : z = 0 := by omega
    clear hz
    have SN := Lib.hid (Sees.one wr ((n : Int) % 256) (UInt8.ofNat (n / 2 ^ (56 - 8 * 7))) (by rw [UInt8.toNat_ofNat']; have := HN.out; omega))
    go_wp2_with (at_builtin; go_loud (refine wpList_append_sees rfl _ _ rfl w.heap.size _ _ rfl (H.out.1.alloc _) _ _ rfl SN.out (by simp [eightL]) (by simp; omega) ?_; intro v' w2 ho2 hg2))
    have R := Lib.hid (And.intro ho2 ((H.out.2.alloc _).grown hg2 (fun b hb hlt => by have := H.out.1.block b hb; omega)))
    clear ho2 hg2
    go_roundw
    case rel => exact ⟨8, -8, by omega, by omega, by go_num, by rw [eightL_succ]; exact R.out.1, R.out.2⟩
    case measure => simp [intOf]
-- END EIGHT
def numS (n : Nat) : ByteArray := ⟨(eightL n 8).toArray⟩
def turnS (z : Int) : Nat := (z + 9223372036854775808).toNat
theorem add_xor {r : Nat} (h : r < 2 ^ 63) : 2 ^ 63 + r = 2 ^ 63 ^^^ r := by
 apply Nat.eq_of_testBit_eq
 intro i
 rw [Nat.testBit_xor, Nat.testBit_two_pow]
 rcases Nat.lt_trichotomy i 63 with hi | rfl | hi
 ·rw [Nat.testBit_two_pow_add_gt hi, decide_eq_false (by omega), Bool.false_xor]
 ·rw [Nat.testBit_two_pow_add_eq, Nat.testBit_lt_two_pow h, decide_eq_true rfl]; rfl
 ·have hp : 2 ^ 64 ≤ 2 ^ i := Nat.pow_le_pow_right (by decide) (by omega)
  rw [Nat.testBit_lt_two_pow (show 2 ^ 63 + r < 2 ^ i by omega), Nat.testBit_lt_two_pow (show r < 2 ^ i by omega), decide_eq_false (by omega)]
  rfl
theorem xor_sign (m : Nat) (h : m < 2 ^ 64) : m ^^^ 2 ^ 63 = (m + 2 ^ 63) % 2 ^ 64 := by
 by_cases h0 : m < 2 ^ 63
 ·rw [Nat.xor_comm, ← add_xor h0, Nat.mod_eq_of_lt (by omega), Nat.add_comm]
 ·obtain ⟨r, rfl⟩ : ∃ r, m = 2 ^ 63 + r := ⟨m - 2 ^ 63, by omega⟩
  rw [add_xor (by omega), Nat.xor_comm, ← Nat.xor_assoc, Nat.xor_self, Nat.zero_xor, ← add_xor (show r < 2 ^ 63 by omega), show 2 ^ 63 + r + 2 ^ 63 = r + 2 ^ 64 by omega, Nat.add_mod_right, Nat.mod_eq_of_lt (by omega)]
theorem turn_bits (z : Int) (h1 : -9223372036854775808 ≤ z) (h2 : z ≤ 9223372036854775807) : bits .xor .u64 (IntKind.u64.wrap z) 9223372036854775808 = (turnS z : Int) := by
 have hw : IntKind.u64.wrap z = ((z % 18446744073709551616).toNat : Int) := by
  simp [IntKind.wrap, IntKind.signed, IntKind.bits]
  omega
 rw [hw]
 have hx := xor_sign (z % 18446744073709551616).toNat (by omega)
 rw [show (9223372036854775808 : Int) = ((9223372036854775808 : Nat) : Int) from rfl, u64_xor_nat _ _ (by omega) (by omega), show (9223372036854775808 : Nat) = 2 ^ 63 from rfl, hx]
 unfold turnS
 omega
theorem number_any_d (z : Int) (w : World) (h1 : -9223372036854775808 ≤ z) (h2 : z ≤ 9223372036854775807) : Calls Tryz.prog 181 #[.int .i64 z] w fun e w' => e = .returned (.agg #[.string (numS (turnS z)), .bool false]) ∧ Old w w' := by
 have O0 := Lib.hid ((Keeps.refl (fun _ => False) w).alloc (.cells #[.string ⟨#[]⟩, .bool false] 188))
 have b0 := heap_alloc_new w (.cells #[.string ⟨#[]⟩, .bool false] 188)
 have B0 := Lib.hid b0
 have ht := turn_bits z h1 h2
 have hlt : turnS z < 18446744073709551616 := by unfold turnS; omega
 clear b0 h1 h2
 go_enter Tryz.func181, Tryz.ntmps181
 go_wp2_with fail
 refine (eight_any (turnS z) _ hlt).mono ?_
 rintro e w1 ⟨v, rfl, o1, k1⟩
 obtain ⟨p, c, rfl, _, _⟩ := o1.sees.len
 have hconv := o1.sees.text
 have b1 := (k1.block _ (lt_of_heap B0.out) (fun f => f)).trans B0.out
 have f1 := blk2 b1
 have O1 := Lib.hid (O0.out.trans k1)
 clear b1 k1 o1 ht
 have e8 : (eightL (turnS z) 8).length = 8 := by simp [eightL]
 rw [e8] at hconv ⊢
 go_wp2_with fail
 exact bodyPost_ret (v := .agg #[.string ⟨(eightL (turnS z) 8).toArray⟩, .bool false]) (by simp [results, Tryz.results181, go_sem, f1]) rfl ⟨rfl, O1.out.then ((keepV _ _ _ _).trans (keepV _ _ _ _)) (fun i hi e => by omega)⟩
def firstC (k : Int) : Cut := if k = 1 then ⟨numS 0, false⟩ else ⟨⟨#[]⟩, false⟩
theorem first_any_d (k : Int) (w : World) : Calls Tryz.prog 141 #[.int .i64 k] w fun e w' => e = .returned (.agg (firstC k).cells.toArray) ∧ Old w w' := by
 have o0 : Old w (w.alloc (.cells #[.string ⟨#[]⟩, .bool false] 188)) := (Keeps.refl (fun _ => False) w).alloc _
 have b0 := heap_alloc_new w (.cells #[.string ⟨#[]⟩, .bool false] 188)
 by_cases h : k = 1
 ·subst h
  have B0 := Lib.hid (And.intro b0 o0)
  have hn := number_any_d (-9223372036854775808) (w.alloc (.cells #[.string ⟨#[]⟩, .bool false] 188)) (by decide) (by decide)
  have HN := Lib.hid hn
  clear b0 o0 hn
  go_enter Tryz.func141, Tryz.ntmps141
  go_wp2_with fail
  refine HN.out.mono ?_
  rintro e w1 ⟨rfl, k1⟩
  have f1 := blk2 ((k1.block _ (lt_of_heap B0.out.1) (fun f => f)).trans B0.out.1)
  have O1 := Lib.hid (B0.out.2.trans k1)
  clear k1
  go_wp2_with fail
  exact bodyPost_ret (v := .agg #[.string (numS (turnS (-9223372036854775808))), .bool false]) (by simp [results, Tryz.results141, go_sem, f1]) rfl ⟨rfl, O1.out.then ((keepV _ _ _ _).trans (keepV _ _ _ _)) (fun i hi e => by omega)⟩
 ·have t1 : (k == 1) = false := by simp; omega
  have e : firstC k = ⟨⟨#[]⟩, false⟩ := by unfold firstC; rw [if_neg h]
  rw [e]
  have O1 := Lib.hid o0
  have f1 := blk2 b0
  clear b0 o0 e h
  go_enter Tryz.func141, Tryz.ntmps141
  go_wp2_with fail
  exact bodyPost_ret (v := .agg #[.string ⟨#[]⟩, .bool false]) (by simp [results, Tryz.results141, go_sem, f1]) rfl ⟨rfl, O1.out⟩
end
section
open Go.RowKit
def zeroS : ByteArray := ⟨#[0]⟩
def aroundC (v : Val) : Cut × Cut :=
 if v.kind = 1 then (⟨numS (turnS v.num), false⟩, if v.num = 9223372036854775807 then ⟨⟨#[]⟩, true⟩ else ⟨numS (turnS (v.num + 1)), false⟩)
 else if v.kind = 2 then (⟨v.str, false⟩, ⟨v.str ++ zeroS, false⟩)
 else if v.is then (⟨zeroS, false⟩, ⟨⟨#[]⟩, true⟩) else (⟨⟨#[]⟩, false⟩, ⟨zeroS, false⟩)
theorem keepV22 (w : World) (b c i : Nat) {a0 a1 a2 a3 : Value} (hb : i ≤ b) (hc : i ≤ c) : Keeps (fun k => i ≤ k) w ((((w.setCell ⟨b, 0, none⟩ a0).setCell ⟨b, 1, none⟩ a1).setCell ⟨c, 0, none⟩ a2).setCell ⟨c, 1, none⟩ a3) :=
 (((keepV w b 0 a0).weaken (T := fun k => i ≤ k) (fun _ _ e => by omega)).trans ((keepV _ b 1 a1).weaken (T := fun k => i ≤ k) (fun _ _ e => by omega))).trans (((keepV _ c 0 a2).weaken (T := fun k => i ≤ k) (fun _ _ e => by omega)).trans ((keepV _ c 1 a3).weaken (T := fun k => i ≤ k) (fun _ _ e => by omega)))
def ArS (B : Nat) (k n : Int) (s : ByteArray) (b : Bool) (W : World) : Prop := W.heap[B]? = some (.cells #[.int .i64 k, .int .i64 n, .string s, .bool b] 61 (0, 0)) ∧ W.heap[B + 1]? = some (.cells #[.string ⟨#[]⟩, .bool false] 188 (0, 0)) ∧ W.heap[B + 1 + 1]? = some (.cells #[.string ⟨#[]⟩, .bool false] 188 (0, 0))
theorem ArS.old {B : Nat} {k n : Int} {s : ByteArray} {b : Bool} {W W' : World} (h : ArS B k n s b W) (o : Old W W') : ArS B k n s b W' :=
 ⟨(o.block _ (lt_of_heap h.1) (fun f => f)).trans h.1, (o.block _ (lt_of_heap h.2.1) (fun f => f)).trans h.2.1, (o.block _ (lt_of_heap h.2.2) (fun f => f)).trans h.2.2⟩
theorem around_any (v : Val) (w : World) (h1 : -9223372036854775808 ≤ v.num) (h2 : v.num ≤ 9223372036854775807) (hs : v.str.size ≤ 1000) :
  Calls Tryz.prog 182 #[.agg v.cells] w fun e w' => e = .returned (.tuple #[.agg (aroundC v).1.cells.toArray, .agg (aroundC v).2.cells.toArray]) ∧ Old w w' := by
 obtain ⟨k, n, s, b⟩ := v
 simp only at h1 h2 hs
 unfold Val.cells
 simp only
 obtain ⟨W0, hW0⟩ : ∃ W0, ((w.alloc (.cells #[.int .i64 k, .int .i64 n, .string s, .bool b] 61)).alloc (.cells #[.string ⟨#[]⟩, .bool false] 188)).alloc (.cells #[.string ⟨#[]⟩, .bool false] 188) = W0 := ⟨_, rfl⟩
 have o0 : Old w W0 := by rw [← hW0]; exact (((Keeps.refl _ _).alloc _).alloc _).alloc _
 obtain ⟨b1, b2, b3⟩ := blocks3 w (.cells #[.int .i64 k, .int .i64 n, .string s, .bool b] 61) (.cells #[.string ⟨#[]⟩, .bool false] 188) (.cells #[.string ⟨#[]⟩, .bool false] 188)
 rw [hW0] at b1 b2 b3
 have A := Lib.hid (And.intro o0 (And.intro b1 (And.intro b2 b3)))
 have HW := Lib.hid hW0
 have v0 := blk4 b1
 have r1 := blk2 b2
 have r2 := blk2 b3
 have hT : ArS w.heap.size k n s b W0.drew := ⟨b1, b2, b3⟩
 clear o0 b1 b2 b3 hW0
 by_cases hk1 : k = 1
 ·subst hk1
  by_cases hm : n = 9223372036854775807
  ·subst hm
   have e : aroundC ⟨1, 9223372036854775807, s, b⟩ = (⟨numS (turnS 9223372036854775807), false⟩, ⟨⟨#[]⟩, true⟩) := by simp [aroundC]
   rw [e]
   have N := Lib.hid (number_any_d 9223372036854775807 W0 (by decide) (by decide))
   clear e hT
   go_enter Tryz.func182, Tryz.ntmps182
   go_upto_region 1 with fail
   rw [HW.out]
   go_wp2_with fail
   refine N.out.mono ?_
   rintro e w1 ⟨rfl, k1⟩
   have K1 := Lib.hid k1
   clear k1
   go_wp2_with fail
   refine (end_any w1).mono ?_
   rintro e w2 ⟨rfl, k2⟩
   have k02 := K1.out.trans k2
   have f1 := blk2 ((k02.block _ (lt_of_heap A.out.2.2.1) (fun f => f)).trans A.out.2.2.1)
   have f2 := blk2 ((k02.block _ (lt_of_heap A.out.2.2.2) (fun f => f)).trans A.out.2.2.2)
   have O2 := Lib.hid (A.out.1.trans k02)
   clear k02 k2 r1 r2 v0
   have hne : (w.heap.size + 1) ≠ w.heap.size + 1 + 1 := by omega
   go_wp2_with fail
   exact bodyPost_ret (v := .tuple #[.agg #[.string (numS (turnS 9223372036854775807)), .bool false], .agg #[.string ⟨#[]⟩, .bool true]]) (by simp [results, Tryz.results182, go_sem, f1, f2]) rfl ⟨rfl, O2.out.then (keepV22 _ _ _ (w.heap.size + 1) (by omega) (by omega)) (fun i hi e => by omega)⟩
  ·have tm : (n == 9223372036854775807) = false := by simp; omega
   have e : aroundC ⟨1, n, s, b⟩ = (⟨numS (turnS n), false⟩, ⟨numS (turnS (n + 1)), false⟩) := by simp [aroundC, hm]
   rw [e]
   have N1 := Lib.hid (fun W => number_any_d n W h1 h2)
   have N2 := Lib.hid (fun W => number_any_d (n + 1) W (by omega) (by omega))
   have hw : IntKind.i64.wrap (n + 1) = n + 1 := IntWalk.i64_in _ (by omega)
   clear e
   go_enter Tryz.func182, Tryz.ntmps182
   go_upto_region 1 with fail
   rw [HW.out]
   go_upto_region 4 with fail
   clear v0 r1 r2
   have hV : W0.drew.heap[w.heap.size]? = some (.cells #[.int .i64 1, .int .i64 n, .string s, .bool b] 61 (0, 0)) := hT.1
   refine wp_region_g (S := fun W => W.heap[w.heap.size]? = some (.cells #[.int .i64 1, .int .i64 n, .string s, .bool b] 61 (0, 0))) (M := [0, 1, 2, 3, 4, 5, 6, 7]) (by kernel_rfl) ?_
   refine tkG (i := 0) (v := ?vc0) ?yc0 hV ?rc0
   case yc0 => (intro W hSw; go_simp; try with_reducible rfl)
   try simp only [Act.put, List.setIfInBounds_toArray, List.set_cons_zero, List.set_cons_succ]
   refine tkG (i := 1) (v := ?vc1) ?yc1 hV ?rc1
   case yc1 => (intro W hSw; have q := blk4 hSw; go_simp; try with_reducible rfl)
   try simp only [Act.put, List.setIfInBounds_toArray, List.set_cons_zero, List.set_cons_succ]
   refine tkG (i := 3) (v := ?vc3) ?yc3 hV ?rc3
   case yc3 => (intro W hSw; go_simp; try with_reducible rfl)
   try simp only [Act.put, List.setIfInBounds_toArray, List.set_cons_zero, List.set_cons_succ]
   refine tkG (i := 4) (v := ?vc4) ?yc4 hV ?rc4
   case yc4 => (intro W hSw; have q := blk4 hSw; go_simp; try with_reducible rfl)
   try simp only [Act.put, List.setIfInBounds_toArray, List.set_cons_zero, List.set_cons_succ]
   refine tkG (i := 5) (v := ?vc5) ?yc5 hV ?rc5
   case yc5 => (intro W hSw; go_simp; try with_reducible rfl)
   try simp only [Act.put, List.setIfInBounds_toArray, List.set_cons_zero, List.set_cons_succ]
   refine wpAnyG_onlyL (i := 2) (o := _) (by kernel_rfl) rfl (fun K hK => ?_)
   go_simp
   refine (N1.out _).mono ?_
   rintro e w1 ⟨rfl, k1⟩
   have hT1 := hT.old k1
   have hV1 := hT1.1
   have K1 := Lib.hid (((Keeps.refl (fun _ => False) W0).drew).trans k1)
   clear k1 hT hV
   go_wp2_with fail
   refine hK.out _ _ (fun _ => hV1) ?_
   clear hK K
   try simp only [Act.put, List.setIfInBounds_toArray, List.set_cons_zero, List.set_cons_succ]
   refine wpAnyG_onlyL (i := 6) (o := _) (by kernel_rfl) rfl (fun K hK => ?_)
   go_simp
   refine (N2.out _).mono ?_
   rintro e w2 ⟨rfl, k2⟩
   have hT2 := hT1.old k2
   have hV2 := hT2.1
   have K2 := Lib.hid (A.out.1.trans (K1.out.trans k2))
   have f1 := blk2 hT2.2.1
   have f2 := blk2 hT2.2.2
   clear k2 hT1 hV1
   have hne : (w.heap.size + 1) ≠ w.heap.size + 1 + 1 := by omega
   go_wp2_with fail
   refine hK.out _ _ (fun _ => hV2) ?_
   clear hK K
   try simp only [Act.put, List.setIfInBounds_toArray, List.set_cons_zero, List.set_cons_succ]
   refine wpAnyG_onlyL (i := 7) (o := _) (by kernel_rfl) rfl (fun K hK => ?_)
   go_simp
   refine hK.out _ _ (fun _ => (((keepV _ _ _ _).trans (keepV _ _ _ _)).block _ (lt_of_heap hV2) (by omega)).trans hV2) ?_
   clear hK K
   try simp only [Act.put, List.setIfInBounds_toArray, List.set_cons_zero, List.set_cons_succ]
   refine wpAnyG_onlyL (i := 8) (o := _) (by kernel_rfl) rfl (fun K hK => ?_)
   go_simp
   refine hK.out _ _ (fun h => absurd h (by decide)) ?_
   clear hK K
   try simp only [Act.put, List.setIfInBounds_toArray, List.set_cons_zero, List.set_cons_succ]
   refine wpAnyG_done (by kernel_rfl) ?_ _
   go_simp
   go_wp2_with fail
   exact bodyPost_ret (v := .tuple #[.agg #[.string (numS (turnS n)), .bool false], .agg #[.string (numS (turnS (n + 1))), .bool false]]) (by simp [results, Tryz.results182, go_sem, f1, f2]) rfl ⟨rfl, K2.out.then (keepV22 _ _ _ (w.heap.size + 1) (by omega) (by omega)) (fun i hi e => by omega)⟩
 ·have t1 : (k == 1) = false := by simp; omega
  by_cases hk2 : k = 2
  ·subst hk2
   have e : aroundC ⟨2, n, s, b⟩ = (⟨s, false⟩, ⟨s ++ zeroS, false⟩) := by simp [aroundC]
   rw [e]
   have hcat : ¬ 9223372036854775807 < s.size + 1 := by omega
   have f1 := blk2 A.out.2.2.1
   have f2 := blk2 A.out.2.2.2
   have hV : W0.drew.heap[w.heap.size]? = some (.cells #[.int .i64 2, .int .i64 n, .string s, .bool b] 61 (0, 0)) := hT.1
   have hne : (w.heap.size + 1) ≠ w.heap.size + 1 + 1 := by omega
   clear e hs
   go_enter Tryz.func182, Tryz.ntmps182
   go_upto_region 1 with fail
   rw [HW.out]
   go_upto_region 6 with fail
   clear v0 r1 r2
   refine wp_region_g (S := fun W => W.heap[w.heap.size]? = some (.cells #[.int .i64 2, .int .i64 n, .string s, .bool b] 61 (0, 0))) (M := [0, 1, 2, 3, 4, 5, 6, 7]) (by kernel_rfl) ?_
   refine tkG (i := 0) (v := ?vd0) ?yd0 hV ?rd0
   case yd0 => (intro W hSw; go_simp; try with_reducible rfl)
   try simp only [Act.put, List.setIfInBounds_toArray, List.set_cons_zero, List.set_cons_succ]
   refine tkG (i := 1) (v := ?vd1) ?yd1 hV ?rd1
   case yd1 => (intro W hSw; have q := blk4 hSw; go_simp; try with_reducible rfl)
   try simp only [Act.put, List.setIfInBounds_toArray, List.set_cons_zero, List.set_cons_succ]
   refine tkG (i := 2) (v := ?vd2) ?yd2 hV ?rd2
   case yd2 => (intro W hSw; go_simp; try with_reducible rfl)
   try simp only [Act.put, List.setIfInBounds_toArray, List.set_cons_zero, List.set_cons_succ]
   refine tkG (i := 3) (v := ?vd3) ?yd3 hV ?rd3
   case yd3 => (intro W hSw; go_simp; try with_reducible rfl)
   try simp only [Act.put, List.setIfInBounds_toArray, List.set_cons_zero, List.set_cons_succ]
   refine tkG (i := 4) (v := ?vd4) ?yd4 hV ?rd4
   case yd4 => (intro W hSw; have q := blk4 hSw; go_simp; try with_reducible rfl)
   try simp only [Act.put, List.setIfInBounds_toArray, List.set_cons_zero, List.set_cons_succ]
   refine tkG (i := 5) (v := ?vd5) ?yd5 hV ?rd5
   case yd5 => (intro W hSw; go_simp; try with_reducible rfl)
   try simp only [Act.put, List.setIfInBounds_toArray, List.set_cons_zero, List.set_cons_succ]
   refine tkG (i := 6) (v := ?vd6) ?yd6 hV ?rd6
   case yd6 => (intro W hSw; go_simp; try with_reducible rfl)
   try simp only [Act.put, List.setIfInBounds_toArray, List.set_cons_zero, List.set_cons_succ]
   refine wpAnyG_onlyL (i := 7) (o := _) (by kernel_rfl) rfl (fun K hK => ?_)
   go_simp
   refine hK.out _ _ (fun _ => (((keepV W0 (w.heap.size + 1) _ _).trans (keepV _ (w.heap.size + 1) _ _)).block _ (lt_of_heap A.out.2.1) (by omega)).trans hV) ?_
   clear hK K
   try simp only [Act.put, List.setIfInBounds_toArray, List.set_cons_zero, List.set_cons_succ]
   refine wpAnyG_onlyL (i := 8) (o := _) (by kernel_rfl) rfl (fun K hK => ?_)
   go_simp
   refine hK.out _ _ (fun h => absurd h (by decide)) ?_
   clear hK K
   try simp only [Act.put, List.setIfInBounds_toArray, List.set_cons_zero, List.set_cons_succ]
   refine wpAnyG_done (by kernel_rfl) ?_ _
   go_simp
   go_wp2_with fail
   exact bodyPost_ret (v := .tuple #[.agg #[.string s, .bool false], .agg #[.string (s ++ ⟨#[0]⟩), .bool false]]) (by simp [results, Tryz.results182, go_sem, f1, f2]) rfl ⟨rfl, (A.out.1.then (keepV22 W0 _ _ (w.heap.size + 1) (by omega) (by omega)) (fun i hi e => by omega)).drew⟩
  ·have t2 : (k == 2) = false := by simp; omega
   have hne : (w.heap.size + 1) ≠ w.heap.size + 1 + 1 := by omega
   clear hT
   cases b
   ·have e : aroundC ⟨k, n, s, false⟩ = (⟨⟨#[]⟩, false⟩, ⟨zeroS, false⟩) := by simp [aroundC, hk1, hk2]
    rw [e]
    clear e
    go_enter Tryz.func182, Tryz.ntmps182
    go_upto_region 1 with fail
    rw [HW.out]
    go_wp2_with fail
    exact bodyPost_ret (v := .tuple #[.agg #[.string ⟨#[]⟩, .bool false], .agg #[.string ⟨#[0]⟩, .bool false]]) (by simp [results, Tryz.results182, go_sem, r1, r2]) rfl ⟨rfl, A.out.1.then (keepV22 _ _ _ (w.heap.size + 1) (by omega) (by omega)) (fun i hi e => by omega)⟩
   ·have e : aroundC ⟨k, n, s, true⟩ = (⟨zeroS, false⟩, ⟨⟨#[]⟩, true⟩) := by simp [aroundC, hk1, hk2]
    rw [e]
    clear e
    go_enter Tryz.func182, Tryz.ntmps182
    go_upto_region 1 with fail
    rw [HW.out]
    go_wp2_with fail
    refine (end_any W0).mono ?_
    rintro e w2 ⟨rfl, k2⟩
    have f1 := blk2 ((k2.block _ (lt_of_heap A.out.2.2.1) (fun f => f)).trans A.out.2.2.1)
    have f2 := blk2 ((k2.block _ (lt_of_heap A.out.2.2.2) (fun f => f)).trans A.out.2.2.2)
    have O2 := Lib.hid (A.out.1.trans k2)
    clear k2 r1 r2 v0
    go_wp2_with fail
    exact bodyPost_ret (v := .tuple #[.agg #[.string ⟨#[0]⟩, .bool false], .agg #[.string ⟨#[]⟩, .bool true]]) (by simp [results, Tryz.results182, go_sem, f1, f2]) rfl ⟨rfl, O2.out.then (keepV22 _ _ _ (w.heap.size + 1) (by omega) (by omega)) (fun i hi e => by omega)⟩
end
end Go.Proofs.YtehmlaplodjenaaGreat
