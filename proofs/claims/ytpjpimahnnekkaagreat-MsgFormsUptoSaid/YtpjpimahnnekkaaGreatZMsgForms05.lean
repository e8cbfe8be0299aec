/- DERIVED. The document's TakePred: what is told lies in new memory. (gen_own7.py wrote it out of Pd7) -/
import Derived.Test.YtpjpimahnnekkaaGreatYpMsgForms27
import Derived.Test.YtpjpimahnnekkaaGreatYpMsgForms33
set_option maxRecDepth 100000
set_option maxHeartbeats 8000000
namespace Go.Proofs.YtpjpimahnnekkaaGreat
section
open Go.RowKit
def TakPo (L : List UInt8) (w : World) (e : Ending) (w' : World) : Prop :=
 ∃ (p : Option Addr) (n c : Nat) (cs : List Con) (z : Int), e = .returned (.tuple #[.slice p n c, .int .i64 z]) ∧ Old w w' ∧ OwnN w' w.heap.size 72 7 Con.cells Con.sv ConF (.slice p n c) cs ∧ (∀ y ∈ cs.map Con.plain, ConG y) ∧ ((takeP L = some (cs.map Con.plain) ∧ z = 0) ∨ (takeP L = none ∧ cs = [] ∧ z = 5))
theorem TakPo.no {L : List UInt8} {w w' : World} (h : takeP L = none) (k : Old w w') : TakPo L w (.returned (.tuple #[.slice none 0 0, .int .i64 5])) w' :=
 ⟨none, 0, 0, [], 5, rfl, k, OwnN.nil _ _, fun _ h => (by cases h), Or.inr ⟨h, rfl, rfl⟩⟩
theorem ref_take_pred_o (v : Value) (L : List UInt8) (w : World) (h : Sees w v L) : Calls Tryz.prog 48 #[v] w (TakPo L w) := by
 obtain ⟨pv, cv, rfl, _, _⟩ := h.len
 obtain ⟨W0, hW0⟩ : ∃ W0, w.alloc (.cells #[.slice pv L.length cv, .bool false] 156) = W0 := ⟨_, rfl⟩
 have k0 : Old w W0 := by rw [← hW0]; exact (Keeps.refl _ _).alloc _
 have hR : Rr W0 w.heap.size (some L) := by rw [← hW0]; exact Rr.new h
 have CN := Lib.hid (rfnum_any w.heap.size 6 (some L) W0 hR (by decide))
 have z0 : W0.heap.size = w.heap.size + 1 := by rw [← hW0]; simp
 have hres : pPred L = ((some L).bind (pNum 6)).bind fun x => pMany pCon x.1 [] x.2 := rfl
 have hbd : ∀ x, (some L).bind (pNum 6) = some x → x.1 ≤ 6 := fun x hx => (pNum_inv (n := x.1) (r := x.2) hx).2.1
 generalize (some L).bind (pNum 6) = qn at hres CN hbd
 have H0 := Lib.hid k0
 clear k0 hR h
 go_enter Tryz.func48, Tryz.ntmps48
 go_wp2_with fail
 refine CN.out.mono ?_
 rintro e w1 ⟨rfl, hr1, k1⟩
 obtain ⟨n, hn⟩ : ∃ n, qn.elim 0 (·.1) = n := ⟨_, rfl⟩
 have hn6 : n ≤ 6 := by
  cases qn with
  | none => rw [← hn]; exact Nat.zero_le _
  | some x => rw [← hn]; exact hbd x rfl
 obtain ⟨M, hM⟩ : ∃ M, pPred L = M := ⟨_, rfl⟩
 have hM2 : M = (qn.map (·.2)).bind fun l' => pMany pCon (n - 0) (([] : List Con).map Con.plain) l' := by
  rw [← hM, hres]
  cases qn with
  | none => rfl
  | some x => rw [← hn]; rfl
 have hz1 : w.heap.size + 1 ≤ w1.heap.size := by have := k1.size; omega
 have HM := Lib.hid (And.intro hM (And.intro hM2 (And.intro hr1 ((H0.out.weaken (fun i _ f => f.elim) : Keeps (fun k => w.heap.size ≤ k) w W0).trans (k1.weaken (fun i _ e => Nat.le_of_eq e.symm))))))
 clear hr1 k1 hM hM2 hres hbd CN
 rw [hn]
 clear hn
 go_wp2_with fail
 go_loopw [5, 7, 8, 9, 10] (fun v5 v7 _ _ _ wr => ∃ (i : Nat) (s : List Con) (st' : Option (List UInt8)), i ≤ n ∧ s.length = i ∧ v7 = .int .u64 i ∧ M = st'.bind (fun l' => pMany pCon (n - i) (s.map Con.plain) l') ∧ OwnN wr (w.heap.size + 1) 72 7 Con.cells Con.sv ConF v5 s ∧ Rr wr w.heap.size st' ∧ Keeps (fun k => w.heap.size ≤ k) w wr) (fun _ v7 _ _ _ _ => n - (intOf v7).toNat)
 case atStart => exact ⟨0, [], _, Nat.zero_le _, rfl, rfl, HM.out.2.1, OwnN.nil _ _, HM.out.2.2.1, HM.out.2.2.2⟩
 case round =>
  obtain ⟨_, s, st', hi, rfl, rfl, hM, ho, hR, hk⟩ := hrel
  obtain ⟨p5, c5, e5, _, _⟩ := (ho.1.sees (fun _ => rfl) (by decide)).len
  subst e5
  have hz : w.heap.size + 1 ≤ wr.heap.size := by have := hR.lt; omega
  have hn63 : n ≤ 9223372036854775807 := by omega
  have H := Lib.hid (And.intro hM (And.intro ho (And.intro hR hk)))
  clear hM ho hR hk
  by_cases hlt : s.length < n
  ·cases st' with
   | none =>
    obtain ⟨pb, nb, cb, hrb⟩ := Rr.bad H.out.2.2.1
    have gr := blk2 hrb
    clear hrb
    have DN := Lib.hid (rfdone_any w.heap.size none wr H.out.2.2.1)
    have hno : takeP L = none := by unfold takeP; rw [HM.out.1, H.out.1]; rfl
    have HN := Lib.hid (TakPo.no hno ((Keeps.refl (fun _ => False) w).then H.out.2.2.2 (fun i hi e => by omega)))
    clear hno
    go_wp2_with fail
    refine DN.out.mono ?_
    rintro e w3 ⟨rfl, rfl⟩
    go_wp2_with fail
    go_ret2
    exact HN.out
   | some l' =>
    obtain ⟨wo, rfl⟩ : ∃ wo : World, wo = wr := ⟨_, rfl⟩
    obtain ⟨pb, cb, hrb, _, _⟩ := Rr.cells H.out.2.2.1
    have gr := blk2 hrb
    clear hrb
    have CT2 := Lib.hid (rftext_any w.heap.size 16 (some l') wo H.out.2.2.1 (by decide))
    go_wp2_with fail
    refine CT2.out.mono ?_
    rintro e w3 ⟨rfl, hr3, k3⟩
    obtain ⟨nm, hnm⟩ : ∃ nm, (((some l').bind (pText 16)).elim ⟨#[]⟩ (·.1) : ByteArray) = nm := ⟨_, rfl⟩
    obtain ⟨st3, hst3⟩ : ∃ s, ((some l').bind (pText 16)).map (·.2) = s := ⟨_, rfl⟩
    rw [hnm]
    rw [hst3] at hr3
    have CN2 := rfnum_any w.heap.size 9 st3 w3 hr3 (by decide)
    obtain ⟨q2, hq2⟩ : ∃ q, st3.bind (pNum 9) = q := ⟨_, rfl⟩
    rw [hq2] at CN2
    have hop9 : q2.elim 0 (·.1) ≤ 9 := by
     rw [← hq2]
     cases st3 with
     | none => exact Nat.zero_le _
     | some l =>
      simp only [Option.bind_some]
      cases hp : pNum 9 l with
      | none => exact Nat.zero_le _
      | some x => exact (pNum_inv (n := x.1) (r := x.2) hp).2.1
    have hc2 : pCon l' = q2.bind fun y => if y.1 = 1 then some (⟨nm, 1, noVal, []⟩, y.2) else if y.1 = 9 then (pList 6 pVal y.2).map fun z => (⟨nm, 9, noVal, z.1⟩, z.2) else (pVal y.2).map fun z => (⟨nm, y.1, z.1, []⟩, z.2) := by
     unfold pCon
     rw [← hq2, ← hst3, ← hnm]
     simp only [Option.bind_some]
     cases pText 16 l' with
     | none => rfl
     | some x => rfl
    have C2 := Lib.hid CN2
    have G3 := Lib.hid (And.intro hc2 k3)
    have hz3 : wo.heap.size ≤ w3.heap.size := k3.size
    clear CN2 hc2 k3 hr3 hnm hst3 hq2 CT2 gr
    go_wp2_with fail
    refine C2.out.mono ?_
    rintro e w4 ⟨rfl, hr4, k4⟩
    obtain ⟨op, hop⟩ : ∃ n, q2.elim 0 (·.1) = n := ⟨_, rfl⟩
    obtain ⟨st4, hst4⟩ : ∃ s, q2.map (·.2) = s := ⟨_, rfl⟩
    rw [hst4] at hr4
    rw [hop] at hop9 ⊢
    have hc4 : pCon l' = st4.bind fun l4 => if op = 1 then some (⟨nm, 1, noVal, []⟩, l4) else if op = 9 then (pList 6 pVal l4).map fun z => (⟨nm, 9, noVal, z.1⟩, z.2) else (pVal l4).map fun z => (⟨nm, op, z.1, []⟩, z.2) := by
     rw [G3.out.1, ← hst4]
     cases q2 with
     | none => rfl
     | some y => rw [← hop]; rfl
    have hwo : IntKind.i64.wrap (op : Int) = (op : Int) := by rw [IntKind.wrap_i64]; omega
    obtain ⟨W4, hW4⟩ : ∃ W4, w4.alloc (.cells #[.string ⟨#[]⟩, .int .i64 0, .int .i64 0, .int .i64 0, .string ⟨#[]⟩, .bool false, .slice none 0 0] 72) = W4 := ⟨_, rfl⟩
    have b4 : W4.heap[w4.heap.size]? = some (.cells #[.string ⟨#[]⟩, .int .i64 0, .int .i64 0, .int .i64 0, .string ⟨#[]⟩, .bool false, .slice none 0 0] 72 (0, 0)) := by rw [← hW4]; exact heap_alloc_new _ _
    have g4 := blk7 b4
    have o4 : Old w4 W4 := by rw [← hW4]; exact (Keeps.refl _ _).alloc _
    have hz4 : w3.heap.size ≤ w4.heap.size := k4.size
    obtain ⟨W5, hW5⟩ : ∃ W5, (((((((W4.setCell ⟨w4.heap.size, 0, none⟩ (.string nm)).setCell ⟨w4.heap.size, 1, none⟩ (.int .i64 op)).setCell ⟨w4.heap.size, 2, none⟩ (.int .i64 0)).setCell ⟨w4.heap.size, 3, none⟩ (.int .i64 0)).setCell ⟨w4.heap.size, 4, none⟩ (.string ⟨#[]⟩)).setCell ⟨w4.heap.size, 5, none⟩ (.bool false)).setCell ⟨w4.heap.size, 6, none⟩ (.slice none 0 0)) = W5 := ⟨_, rfl⟩
    have b5 : W5.heap[w4.heap.size]? = some (.cells #[.string nm, .int .i64 op, .int .i64 0, .int .i64 0, .string ⟨#[]⟩, .bool false, .slice none 0 0] 72 (0, 0)) := by rw [← hW5]; exact set7 b4
    have k5 : Keeps (fun k => k = w4.heap.size) W4 W5 := by
     rw [← hW5]
     exact keepS _ (keepS _ (keepS _ (keepS _ (keepS _ (keepS _ (keepS _ (Keeps.refl _ _)))))))
    have g5 := blk7 b5
    have r5 : Rr W5 w.heap.size st4 := (hr4.old o4).above k5 (fun b hb => by omega)
    have kk5 : Keeps (fun k => k = w.heap.size ∨ wo.heap.size ≤ k) wo W5 := (((G3.out.2.trans k4).then o4 (fun _ _ f => f.elim)).weaken (fun i _ e => Or.inl e) : Keeps (fun k => k = w.heap.size ∨ wo.heap.size ≤ k) wo W4).then k5 (fun i hi e => Or.inr (by omega))
    have H5 := Lib.hid (And.intro hc4 (And.intro b5 (And.intro r5 kk5)))
    have HW5 := Lib.hid hW5
    have hz5 : w4.heap.size < W5.heap.size := lt_of_heap b5
    clear hr4 hst4 hop hc4 b4 o4 b5 k5 r5 kk5 G3 k4 hW5 C2
    go_upto_region 8 with fail
    try rw [HW5.out]
    clear g4 hW4 hwo
    go_upto_if 36 with fail
    go_cut [8, 9, 10] from 36 to 63 (fun v8 _ _ wc => ∃ wx, wx = wc ∧ RCon wo w.heap.size (pCon l') v8 wc)
    case first =>
     by_cases h9 : op = 9
     ·subst h9
      have CN3 := rfnum_any w.heap.size 6 st4 W5 H5.out.2.2.1 (by decide)
      have hc9 : pCon l' = ((st4.bind (pNum 6)).bind fun x => pMany pVal x.1 [] x.2).map fun z => (⟨nm, 9, noVal, z.1⟩, z.2) := by
       rw [H5.out.1]
       cases st4 with
       | none => rfl
       | some l4 =>
        simp only [Option.bind_some, if_true, show ¬ ((9 : Nat) = 1) by decide, if_false]
        rfl
      obtain ⟨q3, hq3⟩ : ∃ q, st4.bind (pNum 6) = q := ⟨_, rfl⟩
      have hbd : q3.elim 0 (·.1) ≤ 6 := by
       rw [← hq3]
       cases st4 with
       | none => exact Nat.zero_le _
       | some l =>
        simp only [Option.bind_some]
        cases hp : pNum 6 l with
        | none => exact Nat.zero_le _
        | some x => exact (pNum_inv (n := x.1) (r := x.2) hp).2.1
      rw [hq3] at CN3 hc9
      have C3 := Lib.hid CN3
      have HC9 := Lib.hid hc9
      clear CN3 hc9 hq3
      go_wp2_with fail
      refine C3.out.mono ?_
      rintro e w6 ⟨rfl, hr6, k6⟩
      obtain ⟨m, hm⟩ : ∃ n, q3.elim 0 (·.1) = n := ⟨_, rfl⟩
      rw [hm] at hbd ⊢
      obtain ⟨M2, hM2e⟩ : ∃ M, (q3.bind fun x => pMany pVal x.1 [] x.2) = M := ⟨_, rfl⟩
      have hM2 : M2 = (q3.map (·.2)).bind fun l' => pMany pVal (m - 0) [] l' := by
       rw [← hM2e]
       cases q3 with
       | none => rfl
       | some x => rw [← hm]; rfl
      have hc9 := HC9.out
      rw [hM2e] at hc9
      have b6 := (k6.block _ hz5 (by omega)).trans H5.out.2.1
      have inv : RC w6 w.heap.size w4.heap.size nm [] (q3.map (·.2)) w6 := ⟨hr6, ⟨_, b6, OwnsR.nil _ _⟩, Keeps.refl _ _⟩
      have H6 := Lib.hid (And.intro hc9 (And.intro hM2 (And.intro inv (H5.out.2.2.2.trans (k6.weaken (fun i _ e => Or.inl e))))))
      have hz6 : w4.heap.size < w6.heap.size := lt_of_heap b6
      clear hr6 k6 hM2e hM2 hc9 b6 inv hm C3 HC9 g5 HW5
      go_wp2_with fail
      go_loopw [10] (fun v10 wq => ∃ (j : Nat) (s2 : List Val) (st' : Option (List UInt8)), j ≤ m ∧ s2.length = j ∧ v10 = .int .u64 j ∧ M2 = st'.bind (fun l' => pMany pVal (m - j) s2 l') ∧ RC w6 w.heap.size w4.heap.size nm s2 st' wq) (fun v10 _ => m - (intOf v10).toNat)
      case atStart => exact ⟨0, [], _, Nat.zero_le _, rfl, rfl, H6.out.2.1, H6.out.2.2.1⟩
      case round =>
       obtain ⟨_, s2, st', hi2, rfl, rfl, hMM, hR, ⟨v, hb, ho⟩, hk⟩ := hrel
       obtain ⟨pv, cv, rfl, _, _⟩ := (ho.sees (fun _ => rfl) (by decide)).len
       have g := blk7 hb
       have FIN : (s2.length = m ∨ st' = none) → RCon wo w.heap.size (pCon l') (.pointer (some ⟨w4.heap.size, 0, none⟩)) wr := by
        intro h
        have hMs : M2 = st'.map (fun l' => (s2, l')) := by
         rw [hMM]
         cases st' with
         | none => rfl
         | some l' =>
          rcases h with h | h
          ·rw [← h]; simp [pMany]
          ·cases h
        have hc := H6.out.1
        rw [hMs] at hc
        refine ⟨w4.heap.size, nm, 9, 0, 0, ⟨#[]⟩, false, pv, s2.length, cv, s2, rfl, by omega, hb, ho, fun y hy => ?_, ?_, H6.out.2.2.2.then hk (fun i hi e => by omega)⟩
        ·rw [hc] at hy
         cases st' with
         | none => cases hy
         | some l' => simp only [Option.map_some, Option.some.injEq] at hy; rw [← hy]
        ·rw [hc]
         cases st' <;> exact hR
       have HF := Lib.hid FIN
       have hm63 : m ≤ 9223372036854775807 := by omega
       have HI := Lib.hid (And.intro hR (And.intro hb (And.intro ho (And.intro hk hMM))))
       clear FIN hR hb ho hk hMM
       by_cases hlt2 : s2.length < m
       ·cases st' with
        | none =>
         obtain ⟨pb, nb, cb, hrb⟩ := Rr.bad HI.out.1
         have gr := blk2 hrb
         clear hrb
         go_wp2_with fail
         go_meet
         case rel => exact ⟨_, rfl, HF.out (by first | exact Or.inr rfl | exact Or.inr trivial | simp)⟩
        | some l4 =>
         obtain ⟨pb, cb, hrb, _, _⟩ := Rr.cells HI.out.1
         have gr := blk2 hrb
         have hSt : M2 = (pVal l4).bind fun y => pMany pVal (m - (s2.length + 1)) (s2 ++ [y.1]) y.2 := by
          have e1 : m - s2.length = m - (s2.length + 1) + 1 := by omega
          rw [HI.out.2.2.2.2]
          simp only [Option.bind_some]
          rw [e1, pMany]
         have HS := Lib.hid hSt
         have g3 := g.1.2.2.2.2.2.2
         clear hrb HF hSt
         go_wp2_with fail
         refine wp_region_g (S := fun W' => W'.cell? ⟨w4.heap.size, 6, none⟩ = some (.slice pv s2.length cv)) (M := [0, 1, 2, 3, 4, 5, 6]) (by kernel_rfl) ?_
         have hS : wr.drew.cell? ⟨w4.heap.size, 6, none⟩ = some (.slice pv s2.length cv) := g3
         refine wpAnyG_takeL (i := 0) (oi := _) (v := ?vy0) rfl (by kernel_rfl) (by kernel_rfl) (by kernel_rfl) (by kernel_rfl) (fun _ _ _ h => h) (Or.inl ⟨by rfl, ?yy0⟩) hS ?ry0
         case yy0 => (intro W hSw; go_simp; try with_reducible rfl)
         try simp only [Act.put, List.setIfInBounds_toArray, List.set_cons_zero, List.set_cons_succ]
         refine wpAnyG_takeL (i := 1) (oi := _) (v := ?vy1) rfl (by kernel_rfl) (by kernel_rfl) (by kernel_rfl) (by kernel_rfl) (fun _ _ _ h => h) (Or.inl ⟨by rfl, ?yy1⟩) hS ?ry1
         case yy1 => (intro W hSw; go_simp; try with_reducible rfl)
         try simp only [Act.put, List.setIfInBounds_toArray, List.set_cons_zero, List.set_cons_succ]
         refine wpAnyG_takeL (i := 2) (oi := _) (v := ?vy2) rfl (by kernel_rfl) (by kernel_rfl) (by kernel_rfl) (by kernel_rfl) (fun _ _ _ h => h) (Or.inl ⟨by rfl, ?yy2⟩) hS ?ry2
         case yy2 => (intro W hSw; go_simp; try with_reducible rfl)
         try simp only [Act.put, List.setIfInBounds_toArray, List.set_cons_zero, List.set_cons_succ]
         refine wpAnyG_onlyL (i := 3) (o := _) (by kernel_rfl) rfl (fun K hK => ?_)
         go_simp
         refine (rfvalue_any w.heap.size (some l4) _ (HI.out.1.old (Keeps.refl _ _).drew)).mono ?_
         rintro e w7 ⟨⟨vv, rfl, hvv⟩, hr7, k7⟩
         have hS2 : w7.cell? ⟨w4.heap.size, 6, none⟩ = some (.slice pv s2.length cv) := k7.cell hS (by dsimp only; omega)
         go_wp2_with fail
         refine hK.out _ _ (fun _ => hS2) ?_
         clear hK K
         try simp only [Act.put, List.setIfInBounds_toArray, List.set_cons_zero, List.set_cons_succ]
         have b7 := (k7.block _ (lt_of_heap HI.out.2.1) (by omega)).trans HI.out.2.1
         have o7 := (HI.out.2.2.1.old ((Keeps.refl _ _).drew)).keeps k7 (fun b hb e => by have := (HI.out.2.2.1.block b hb).1; omega)
         have hz7 : w4.heap.size + 1 ≤ w7.heap.size := lt_of_heap b7
         have F := Lib.hid (And.intro hr7 (And.intro k7 (And.intro hvv b7)))
         have OB := Lib.hid (fun b (hb : (Value.slice pv s2.length cv).ownBlock = some b) => (o7.block b hb).1)
         have SN := Lib.hid (SeesR.new (k := 4) (enc := valL) w7 69 (0, 0) [vv] #[.int .i64 vv.kind, .int .i64 vv.num, .string vv.str, .bool vv.is] (by simp [valL]) (fun _ => rfl) (by unfold maxLen; simp))
         have O7 := Lib.hid (o7.alloc (.cells #[.int .i64 vv.kind, .int .i64 vv.num, .string vv.str, .bool vv.is] 69))
         have HN := Lib.hid (show s2.length + 1 ≤ maxLen ∧ (s2.length + 1) * 40 ≤ 140737488355328 from ⟨by unfold maxLen; omega, by omega⟩)
         clear hr7 k7 hvv b7 o7
         refine wpAnyG_onlyL (i := 4) (o := _) (by kernel_rfl) rfl (fun K hK => ?_)
         go_simp
         have hS3 : (w7.alloc (.cells #[.int .i64 vv.kind, .int .i64 vv.num, .string vv.str, .bool vv.is] 69)).cell? ⟨w4.heap.size, 6, none⟩ = some (.slice pv s2.length cv) := ((Keeps.refl (fun _ => False) w7).alloc _).cell hS2 (fun f => f)
         refine hK.out _ _ (fun _ => hS3) ?_
         clear hK K
         try simp only [Act.put, List.setIfInBounds_toArray, List.set_cons_zero, List.set_cons_succ]
         refine wpAnyG_onlyL (i := 5) (o := _) (by kernel_rfl) rfl (fun K hK => ?_)
         refine step_append_rows (P := Tryz.prog) rfl _ _ 70 rfl (w4.heap.size + 1) 69 4 40 valL _ Tryz.underlying70 Tryz.infoVal rfl (by decide) (.slice pv s2.length cv) s2 (by rfl) O7.out _ [vv] (by rfl) SN.out (fun _ _ => rfl) (by simp [valL, Value.oneCell']) HN.out.1 HN.out.2 (Nat.le_trans hz7 (by simp)) ?_
         intro v' w8 ho8 hg8 _
         obtain ⟨p', c', ev', _, _⟩ := (ho8.sees (fun _ => rfl) (by decide)).len
         subst ev'
         have k8 : Keeps (fun k => w4.heap.size < k) w7 w8 := ((Keeps.refl _ _).alloc _).grown hg8 (fun k hk _ => OB.out k hk)
         have hS4 : w8.cell? ⟨w4.heap.size, 6, none⟩ = some (.slice pv s2.length cv) := k8.cell hS2 (by dsimp only; omega)
         have b8 := (k8.block _ (lt_of_heap F.out.2.2.2) (by omega)).trans F.out.2.2.2
         have g8 := (blk7 b8).1
         have g8f := (blk7 b8).2
         have E := Lib.hid (And.intro k8 (And.intro ho8 b8))
         clear k8 ho8 b8 hg8 hS3
         refine hK.out _ _ (fun _ => hS4) ?_
         clear hK K
         try simp only [Act.put, List.setIfInBounds_toArray, List.set_cons_zero, List.set_cons_succ]
         refine wpAnyG_takeL (i := 6) (oi := _) (v := ?vy6) rfl (by kernel_rfl) (by kernel_rfl) (by kernel_rfl) (by kernel_rfl) (fun _ _ _ h => h) (Or.inl ⟨by rfl, ?yy6⟩) hS4 ?ry6
         case yy6 => (intro W hSw; go_simp; try with_reducible rfl)
         try simp only [Act.put, List.setIfInBounds_toArray, List.set_cons_zero, List.set_cons_succ]
         refine wpAnyG_onlyL (i := 7) (o := _) (by kernel_rfl) rfl (fun K hK => ?_)
         go_simp
         refine hK.out _ _ (fun h => absurd h (by decide)) ?_
         clear hK K
         refine wpAnyG_done (by kernel_rfl) ?_ _
         go_simp
         go_wp2_with fail
         go_roundw
         case rel =>
          have kF : Keeps (fun k => w4.heap.size ≤ k) w7 (w8.setCell ⟨w4.heap.size, 6, none⟩ (.slice p' (s2 ++ [vv]).length c')) := (E.out.1.weaken (fun i _ h => Nat.le_of_lt h)).setCell (fun _ => Nat.le_refl _) _
          have e1 : (s2 ++ [vv]).length = s2.length + 1 := by simp
          rw [e1] at kF
          refine ⟨s2.length + 1, s2 ++ [vv], (pVal l4).map (·.2), by omega, by simp, by go_num, ?_, F.out.1.above kF (fun b hb => by omega), ⟨.slice p' (s2.length + 1) c', ?_, ?_⟩, ?_⟩
          ·rw [HS.out]
           have hv := F.out.2.2.1
           simp only [Option.bind_some] at hv
           cases hq : pVal l4 with
           | none => rfl
           | some y => rw [hv y hq]; rfl
          ·have := heap_setCell_same w8 w4.heap.size 6 _ _ (.slice p' (s2.length + 1) c') E.out.2.2
           simpa using this
          ·have o5 := E.out.2.1
           rw [e1] at o5
           exact o5.keeps ((Keeps.refl (fun k => k = w4.heap.size) _).setCell (fun _ => rfl) _) (fun b hb e => by have := (o5.block b hb).1; omega)
          ·exact ((HI.out.2.2.2.1.then (Keeps.refl (fun _ => False) wr).drew (fun _ _ f => f.elim)).then (F.out.2.1.weaken (fun i _ e => Or.inl e) : Keeps (fun k => k = w.heap.size ∨ w4.heap.size ≤ k) wr.drew w7) (fun i hi e => e)).then kF (fun i hi h => Or.inr h)
         case measure => simp [intOf]; omega
       ·have hin : s2.length = m := by omega
        subst hin
        go_wp2_with fail
        go_meet
        case rel => exact ⟨_, rfl, HF.out (by first | exact Or.inl rfl | exact Or.inl trivial | simp)⟩
     ·by_cases h1 : op = 1
      ·subst h1
       go_wp2_with fail
       go_meet
       case rel =>
        refine ⟨_, rfl, w4.heap.size, nm, 1, 0, 0, ⟨#[]⟩, false, none, 0, 0, [], rfl, by omega, H5.out.2.1, OwnsR.nil _ _, fun y hy => ?_, ?_, H5.out.2.2.2⟩
        ·rw [H5.out.1] at hy
         cases st4 with
         | none => cases hy
         | some l4 => simp only [Option.bind_some, if_true] at hy; cases hy; rfl
        ·rw [H5.out.1]
         cases st4 with
         | none => exact H5.out.2.2.1
         | some l4 => simp only [Option.bind_some, if_true]; exact H5.out.2.2.1
      ·have e9 : ((op : Int) == 9) = false := by rw [beq_eq_false_iff_ne]; omega
       have e1 : ((op : Int) == 1) = false := by rw [beq_eq_false_iff_ne]; omega
       have C3 := Lib.hid (rfvalue_any w.heap.size st4 W5 H5.out.2.2.1)
       have hcv : pCon l' = (st4.bind pVal).map fun z => (⟨nm, op, z.1, []⟩, z.2) := by
        rw [H5.out.1]
        cases st4 with
        | none => rfl
        | some l4 => simp only [Option.bind_some]; rw [if_neg h1, if_neg h9]
       have HCV := Lib.hid hcv
       clear hcv h1 h9
       go_wp2_with fail
       refine C3.out.mono ?_
       rintro e w6 ⟨⟨vv, rfl, hvv⟩, hr6, k6⟩
       have b6 := (k6.block _ hz5 (by omega)).trans H5.out.2.1
       have g6 := blk7 b6
       have H6 := Lib.hid (And.intro hvv (And.intro hr6 (And.intro b6 (H5.out.2.2.2.trans (k6.weaken (fun i _ e => Or.inl e))))))
       clear hvv hr6 k6 b6 g5 HW5
       go_wp2_with fail
       go_meet
       case rel =>
        have kS : Keeps (fun k => k = w4.heap.size) w6 ((((w6.setCell ⟨w4.heap.size, 2, none⟩ (.int .i64 vv.kind)).setCell ⟨w4.heap.size, 3, none⟩ (.int .i64 vv.num)).setCell ⟨w4.heap.size, 4, none⟩ (.string vv.str)).setCell ⟨w4.heap.size, 5, none⟩ (.bool vv.is)) := keepS _ (keepS _ (keepS _ (keepS _ (Keeps.refl _ _))))
        refine ⟨_, rfl, w4.heap.size, nm, op, vv.kind, vv.num, vv.str, vv.is, none, 0, 0, [], rfl, by omega, setV7 H6.out.2.2.1, OwnsR.nil _ _, fun y hy => ?_, ?_, H6.out.2.2.2.then kS (fun i hi e => Or.inr (by omega))⟩
        ·rw [HCV.out] at hy
         cases hq : st4.bind pVal with
         | none => rw [hq] at hy; cases hy
         | some z =>
          rw [hq] at hy
          simp only [Option.map_some, Option.some.injEq] at hy
          rw [← hy, ← H6.out.1 z hq]
        ·have hr := H6.out.2.1.above kS (fun b hb => by omega)
         have e : (pCon l').map (·.2) = (st4.bind pVal).map (·.2) := by rw [HCV.out]; cases st4.bind pVal <;> rfl
         rw [e]; exact hr
    case rest =>
     obtain ⟨wx, rfl, cb, nm2, op2, vk, vn, vs, vi, p2, n2, c2, set, rfl, hcb, hb, ho2, hy, hR, hk⟩ := hcut
     have g := blk7 hb
     have hkz := hk.size
     have hl1 : cb < wx.heap.size := lt_of_heap hb
     have on := H.out.2.1.keeps conF_k hk (fun b h1 h2 e => by omega)
     have kA : Old wx (wx.alloc (.cells #[.string nm2, .int .i64 op2, .int .i64 vk, .int .i64 vn, .string vs, .bool vi, .slice p2 n2 c2] 72)) := (Keeps.refl _ _).alloc _
     have hvl := H.out.2.1.1.block
     have hsl := ho2.block
     have hal : (wx.alloc (.cells #[.string nm2, .int .i64 op2, .int .i64 vk, .int .i64 vn, .string vs, .bool vi, .slice p2 n2 c2] 72)).heap.size = wx.heap.size + 1 := by simp
     have nb : ∀ b, (Value.slice p2 n2 c2).ownBlock = some b → w.heap.size + 1 ≤ b ∧ b < (wx.alloc (.cells #[.string nm2, .int .i64 op2, .int .i64 vk, .int .i64 vn, .string vs, .bool vi, .slice p2 n2 c2] 72)).heap.size ∧ (Value.slice p5 s.length c5).ownBlock ≠ some b := fun b hb => ⟨by have := hsl b hb; omega, by have := hsl b hb; omega, fun e => by have := hsl b hb; have := hvl b e; omega⟩
     have NN := Lib.hid (And.intro (on.keeps conF_k kA (fun _ _ _ f => f)) (And.intro (show ConF (⟨nm2, op2, ⟨vk, vn, vs, vi⟩, .slice p2 n2 c2, set⟩ : Con) (wx.alloc (.cells #[.string nm2, .int .i64 op2, .int .i64 vk, .int .i64 vn, .string vs, .bool vi, .slice p2 n2 c2] 72)) from (ho2.sees (fun _ => rfl) (by decide)).alloc _) nb))
     have HO := Lib.hid (on.1.alloc (.cells #[.string nm2, .int .i64 op2, .int .i64 vk, .int .i64 vn, .string vs, .bool vi, .slice p2 n2 c2] 72))
     have SN := Lib.hid (SeesR.new (k := 7) (enc := Con.cells) wx 72 (0, 0) [(⟨nm2, op2, ⟨vk, vn, vs, vi⟩, .slice p2 n2 c2, set⟩ : Con)] #[.string nm2, .int .i64 op2, .int .i64 vk, .int .i64 vn, .string vs, .bool vi, .slice p2 n2 c2] (by simp [Con.cells]) (fun _ => rfl) (by unfold maxLen; simp))
     have HN := Lib.hid (show s.length + 1 ≤ maxLen ∧ (s.length + 1) * 88 ≤ 140737488355328 ∧ w.heap.size + 1 ≤ (wx.alloc (.cells #[.string nm2, .int .i64 op2, .int .i64 vk, .int .i64 vn, .string vs, .bool vi, .slice p2 n2 c2] 72)).heap.size from ⟨by unfold maxLen; omega, by omega, by omega⟩)
     have HC := Lib.hid (And.intro hy (And.intro hR hk))
     have HKA := Lib.hid kA
     clear hb ho2 hy hR hk on kA hvl hsl hal nb
     go_wp2_with (at_builtin; refine wpList_append_rows (P := Tryz.prog) rfl _ _ 24 rfl (w.heap.size + 1) 72 7 88 Con.cells _ Tryz.underlying24 Tryz.infoCon rfl (by decide) (.slice p5 s.length c5) s (by rfl) HO.out _ [(⟨nm2, op2, ⟨vk, vn, vs, vi⟩, .slice p2 n2 c2, set⟩ : Con)] (by rfl) SN.out (fun _ _ => rfl) (by simp [Con.cells, Value.oneCell']) HN.out.1 HN.out.2.1 HN.out.2.2 ?_; intro v' w3 ho3 hg3 hv3; have F := Lib.hid (And.intro ho3 (And.intro hg3 hv3)); clear ho3 hg3 hv3)
     go_roundw
     case rel =>
      have N := OwnN.snoc conF_k NN.out.1 NN.out.2.1 NN.out.2.2 F.out.1 F.out.2.1 F.out.2.2
      have kg : Keeps (fun k => w.heap.size < k) wx w3 := ((Keeps.refl _ _).alloc _).grown F.out.2.1 (fun k hk _ => by have := NN.out.1.1.block k hk; omega)
      refine ⟨s.length + 1, s ++ [(⟨nm2, op2, ⟨vk, vn, vs, vi⟩, .slice p2 n2 c2, set⟩ : Con)], (pCon l').map (·.2), by omega, by simp, by go_num, ?_, N, HC.out.2.1.above kg (fun b hb => hb), ?_⟩
      ·have e1 : n - s.length = n - (s.length + 1) + 1 := by omega
       rw [H.out.1]
       simp only [Option.bind_some]
       rw [e1, pMany]
       cases hq : pCon l' with
       | none => rfl
       | some y =>
        have h9 := HC.out.1 y hq
        simp only [Option.bind_some, Option.map_some, List.map_append, List.map_cons, List.map_nil]
        rw [h9]
        rfl
      ·exact (H.out.2.2.2.then HC.out.2.2 (fun i hi e => by have := H.out.2.2.1.lt; omega)).then kg (fun i hi e => by omega)
     case measure => simp [intOf]; omega
  ·have hsn : n - s.length = 0 := by omega
   have hMs : M = st'.map (fun l' => (s.map Con.plain, l')) := by
    rw [H.out.1, hsn]
    cases st' <;> rfl
   have HK := Lib.hid ((Keeps.refl (fun _ => False) w).then H.out.2.2.2 (fun i hi e => by omega))
   obtain ⟨dn, hdn⟩ : ∃ d, st'.elim false (fun l => l.isEmpty) = d := ⟨_, rfl⟩
   have hD := rfdone_any w.heap.size st' wr H.out.2.2.1
   rw [hdn] at hD
   have DN := Lib.hid hD
   clear hD
   cases dn
   ·have hno : takeP L = none := by
     unfold takeP; rw [HM.out.1, hMs]
     cases st' with
     | none => rfl
     | some l => simp at hdn; simp [hdn]
    have HN := Lib.hid (TakPo.no hno HK.out)
    clear hno hMs hdn
    go_wp2_with fail
    refine DN.out.mono ?_
    rintro e w3 ⟨rfl, rfl⟩
    go_wp2_with fail
    go_ret2
    exact HN.out
   ·obtain rfl : st' = some [] := by
     cases st' with
     | none => simp at hdn
     | some l => simp at hdn; rw [hdn]
    have hP : pPred L = some (s.map Con.plain, []) := by rw [HM.out.1, hMs]; rfl
    have hT : takeP L = if okP (s.map Con.plain) then some (s.map Con.plain) else none := by
     unfold takeP; rw [hP]; simp
    have hfit := (pPred_inv hP).1
    have hc : Cons wr (.slice p5 s.length c5) s := ⟨H.out.2.1.1.sees (fun _ => rfl) (by decide), fun y hy => by
     have hg := hfit y.plain (List.mem_map_of_mem hy)
     have hb : y.name.size ≤ 16 := hg.1
     exact ⟨(H.out.2.1.2 y hy).1, ⟨by omega, hg.2.1⟩, hg.2.2, fun _ b hb' => ((H.out.2.1.2 y hy).2 b hb').2.1⟩⟩
    have CM := ref_may_pred_any _ s wr hc
    rw [predOk_plain] at CM
    have HF := Lib.hid hfit
    clear hdn hMs hP hfit hc
    cases hok : okP (s.map Con.plain)
    ·rw [hok] at CM hT
     have C := Lib.hid CM
     have HN := Lib.hid (show takeP L = none by simpa using hT)
     clear CM hT hok
     go_wp2_with fail
     refine DN.out.mono ?_
     rintro e w3 ⟨rfl, rfl⟩
     go_wp2_with fail
     refine C.out.mono ?_
     rintro e w4 ⟨rfl, k4⟩
     have K4 := Lib.hid (HK.out.trans k4)
     clear k4
     go_wp2_with fail
     go_ret2
     exact TakPo.no HN.out K4.out
    ·rw [hok] at CM hT
     have C := Lib.hid CM
     have HN := Lib.hid (show takeP L = some (s.map Con.plain) by simpa using hT)
     clear CM hT hok
     go_wp2_with fail
     refine DN.out.mono ?_
     rintro e w3 ⟨rfl, rfl⟩
     go_wp2_with fail
     refine C.out.mono ?_
     rintro e w4 ⟨rfl, k4⟩
     have K4 := Lib.hid k4
     clear k4
     go_wp2_with fail
     go_ret2
     exact ⟨p5, s.length, c5, s, 0, rfl, HK.out.trans K4.out, (H.out.2.1.mono' (by omega)).keeps conF_k K4.out (fun _ _ _ f => f), HF.out, Or.inl ⟨HN.out, rfl⟩⟩
end
end Go.Proofs.YtpjpimahnnekkaaGreat
