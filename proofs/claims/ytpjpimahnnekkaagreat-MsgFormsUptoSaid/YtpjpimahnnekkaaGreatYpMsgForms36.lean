/- DERIVED. Chapter 21: msg.Take. -/
import Derived.Test.YtpjpimahnnekkaaGreatYpMsgForms35
set_option maxRecDepth 100000
set_option maxHeartbeats 1000000
namespace Go.Proofs.YtpjpimahnnekkaaGreat
section
open Go.RowKit Go.Great
attribute [-go_sem] loadVar storeVar
theorem msg_take_any (v : Value) (b : List UInt8) (w : World) (h : Sees w v b) (hl : b.length ≤ 1000000000) : Calls Tryz.prog 11 #[v] w (TakM b w) := by
 obtain ⟨pv, cv, rfl, _, _⟩ := h.len
 obtain ⟨W0, hW0⟩ : ∃ W0, w.alloc (.cells zeroMs.cells.toArray 44) = W0 := ⟨_, rfl⟩
 have k0 : Old w W0 := by rw [← hW0]; exact (Keeps.refl _ _).alloc _
 have b0 : W0.heap[w.heap.size]? = some (.cells zeroMs.cells.toArray 44 (0, 0)) := by rw [← hW0]; exact heap_alloc_new _ _
 have CN := Lib.hid (new_any (.slice pv b.length cv) b W0 (h.old k0) hl)
 have H := Lib.hid (And.intro k0 (And.intro b0 h))
 have lI : ∀ a W, (loadVar 3 a).run Tryz.prog W = (load a).run Tryz.prog W := fun _ _ => by kernel_rfl
 have lB : ∀ a W, (loadVar 4 a).run Tryz.prog W = (load a).run Tryz.prog W := fun _ _ => by kernel_rfl
 have lE : ∀ a W, (loadVar 39 a).run Tryz.prog W = (load a).run Tryz.prog W := fun _ _ => by kernel_rfl
 have hz0 : w.heap.size < W0.heap.size := lt_of_heap b0
 clear k0 b0 h
 change w.alloc (.cells #[.int .i64 0, .int .i64 0, .int .u64 0, .bool false, .slice none 0 0, .int .u64 0, .int .u64 0, .string ⟨#[]⟩, .slice none 0 0, .int .i64 0, .int .u64 0, .int .u64 0, .int .u64 0, .int .u64 0, .int .u64 0, .slice none 0 0, .slice none 0 0, .bool false] 44) = W0 at hW0
 go_enter Tryz.func11, Tryz.ntmps11
 go_wp2_with fail
 try rw [hW0]
 clear hW0
 refine CN.out.mono ?_
 rintro e w1 ⟨rb, bb, rfl, hR1, hrb, hbb, k1⟩
 have hrl : rb < w1.heap.size := lt_of_heap hR1.2.choose_spec.1
 obtain ⟨qb, hqb⟩ : ∃ q, w1.heap.size = q := ⟨_, rfl⟩
 obtain ⟨W1, hW1⟩ : ∃ W1, w1.alloc (.cells #[.pointer (some ⟨rb, 0, none⟩), .int .i64 0] 92) = W1 := ⟨_, rfl⟩
 have o1 : Old w1 W1 := by rw [← hW1]; exact (Keeps.refl _ _).alloc _
 have bq1 : W1.heap[w1.heap.size]? = some (.cells #[.pointer (some ⟨rb, 0, none⟩), .int .i64 0] 92 (0, 0)) := by rw [← hW1]; exact heap_alloc_new _ _
 have hQ1 : RQ W1 qb qb rb bb (some b) := ⟨⟨Nat.le_refl _, by omega⟩, hqb ▸ bq1, hqb ▸ hR1.old o1⟩
 have hz1 : w.heap.size < rb := by omega
 have CM := Lib.hid (mnum_any _ _ _ _ _ W1 hQ1)
 have K1 := Lib.hid (H.out.1.trans (k1.trans o1))
 have bw1 := ((k1.trans o1).block _ hz0 (fun f => f)).trans H.out.2.1
 have BW1 := Lib.hid bw1
 clear hR1 k1 o1 bq1 hQ1 bw1 CN
 go_wp2_with fail
 try rw [hqb]
 try rw [hW1]
 clear hW1 hqb
 refine CM.out.mono ?_
 rintro e w2 ⟨rfl, hQ2, k2⟩
 obtain ⟨kn, hkn⟩ : ∃ k : Nat, ((some b).bind (pNum mMost)).elim 0 (·.1) = k := ⟨_, rfl⟩
 have hkl : kn ≤ 1099511627777 := by rw [← hkn]; exact numV_le (some b)
 have hcv : IntKind.i64.wrap (kn : Int) = kn := by rw [IntKind.wrap_i64]; omega
 obtain ⟨st2, hst2⟩ : ∃ s, ((some b).bind (pNum mMost)).map (·.2) = s := ⟨_, rfl⟩
 have hpm : parseM b = st2.bind fun l => partsM (partsL (kn : Int)) { noMs with kind := (kn : Int) } l := by
  unfold parseM
  rw [← hkn, ← hst2]
  simp only [Option.bind_some]
  cases pNum mMost b <;> rfl
 rw [hst2] at hQ2
 rw [hkn]
 obtain ⟨mb, hmb⟩ : ∃ m, w2.heap.size = m := ⟨_, rfl⟩
 obtain ⟨Wa, hWa⟩ : ∃ W, w2.alloc (.cells #[.int .i64 0, .int .i64 0, .int .u64 0, .bool false, .slice none 0 0, .int .u64 0, .int .u64 0, .string ⟨#[]⟩, .slice none 0 0, .int .i64 0, .int .u64 0, .int .u64 0, .int .u64 0, .int .u64 0, .int .u64 0, .slice none 0 0, .slice none 0 0, .bool false] 44) = W := ⟨_, rfl⟩
 have oa : Old w2 Wa := by rw [← hWa]; exact (Keeps.refl _ _).alloc _
 have ba : MAt Wa mb zeroMs := by rw [← hWa, ← hmb]; exact heap_alloc_new _ _
 obtain ⟨W2, hst, bm2, kb⟩ := store_msg ba ({ zeroMs with kind := (kn : Int) }) (by simp [Ms.cells, zeroMs, Value.oneCell'])
 change (storeVar 44 ⟨mb, 0, none⟩ (.agg #[.int .i64 kn, .int .i64 0, .int .u64 0, .bool false, .slice none 0 0, .int .u64 0, .int .u64 0, .string ⟨#[]⟩, .slice none 0 0, .int .i64 0, .int .u64 0, .int .u64 0, .int .u64 0, .int .u64 0, .int .u64 0, .slice none 0 0, .slice none 0 0, .bool false])).run Tryz.prog Wa = .ok () W2 at hst
 have hqm : qb < mb := by rw [← hmb]; exact hQ2.lt
 have hQ3 : RQ W2 qb qb rb bb st2 := (hQ2.old oa).far kb (fun k hk => ⟨by omega, by have := hQ2.1.2; omega, by omega⟩)
 have k3 : Keeps (fun k => k = qb ∨ k = rb) W1 W2 := (k2.then oa (fun i hi f => f.elim)).then kb (fun i hi e => by have := k2.size; omega)
 have CP := Lib.hid (parts_own (kn : Int) W2)
 have g := (blkM bm2).1
 have hzr : rb < qb := hQ2.1.2
 have R := Lib.hid (And.intro (K1.out.then k3 (fun i hi e => by omega)) (And.intro hQ3 (And.intro bm2 (And.intro ((k3.block _ (lt_of_heap BW1.out) (by omega)).trans BW1.out) hpm))))
 have hz2 : mb < W2.heap.size := lt_of_heap bm2
 clear hQ2 k2 oa ba kb hQ3 k3 bm2 hpm hst2 CM BW1 hkn K1
 go_wp2_with fail
 refine CP.out.mono ?_
 rintro e w3 ⟨pp, pn, pc, rfl, hs, k3, hnew⟩
 obtain ⟨L, hL⟩ : ∃ L, partsL (kn : Int) = L := ⟨_, rfl⟩
 rw [hL] at hs
 obtain rfl : pn = L.length := by obtain ⟨_, _, e, _⟩ := hs.len; simp only [Value.slice.injEq] at e; exact e.2.1
 have hl4 : L.length ≤ 4 := hL ▸ parts_len (kn : Int)
 have P := Lib.hid (And.intro hs (And.intro hnew (And.intro hL (And.intro (R.out.2.1.old k3) (And.intro ((k3.block _ (lt_of_heap R.out.2.2.1) (fun f => f)).trans R.out.2.2.1) (And.intro (R.out.1.trans k3) ((k3.block _ (lt_of_heap R.out.2.2.2.1) (fun f => f)).trans R.out.2.2.2.1)))))))
 have hz3 := k3.size
 clear hs k3 hnew g hL hst hcv CP hWa hmb
 go_wp2_with fail
 go_loopw [7, 22] (fun _ v22 wr => ∃ (i : Nat) (m : Ms) (st : Option (List UInt8)), i ≤ L.length ∧ v22 = .int .i64 i ∧ (parseM b = st.bind fun l => partsM (L.drop i) m.plain l) ∧ m.kind = (kn : Int) ∧ wr.heap[mb]? = some (.cells m.cells.toArray 44 (0, 0)) ∧ MsO wr w3.heap.size m ∧ RQ wr qb qb rb bb st ∧ Keeps (fun k => k = mb ∨ (k = qb ∨ k = rb)) w3 wr) (fun _ v22 _ => L.length - (intOf v22).toNat)
 case atStart =>
  refine ⟨0, { zeroMs with kind := (kn : Int) }, st2, by omega, rfl, ?_, rfl, P.out.2.2.2.2.1, ?_, P.out.2.2.2.1, Keeps.refl _ _⟩
  ·rw [R.out.2.2.2.2, P.out.2.2.1]; rfl
  ·have h := MsO.zero w3 w3.heap.size
   exact ⟨h.1, h.2.1, h.2.2.1, ⟨⟨by show -9223372036854775808 ≤ (kn : Int); omega, by show (kn : Int) ≤ 9223372036854775807; omega⟩, h.2.2.2.1.2⟩, h.2.2.2.2⟩
 case round =>
  obtain ⟨i, m, st, hi, rfl, hp, hkd, hbm, hown, hq, hk⟩ := hrel
  have hqz : qb < wr.heap.size := hq.lt
  have hwz := hk.size
  have kk : Keeps (fun k => k = mb ∨ (k = qb ∨ k = rb)) w3 wr := hk
  by_cases hlt : i < L.length
  ·obtain ⟨bl, oo, cc, he, _, _, hc⟩ := P.out.1.at (by omega)
   simp only [Value.slice.injEq, true_and] at he
   obtain ⟨rfl, rfl⟩ := he
   obtain ⟨p, hx⟩ : ∃ x, L[i]? = some x := ⟨_, List.getElem?_eq_getElem hlt⟩
   have c0 := hc i p hx 0 _ rfl
   have hbl := P.out.2.1 bl rfl
   have x0 := hk.cell c0 (by show ¬ (bl = mb ∨ (bl = qb ∨ bl = rb)); omega)
   simp only [Nat.add_zero, Nat.mul_one] at x0
   have i1 : (0 : Int) ≤ (i : Int) := by omega
   have i2 : (i : Int) < (L.length : Int) := by omega
   have hp07 := (parts_mem (k := (kn : Int)) (p := p) (by rw [P.out.2.2.1]; exact List.mem_of_getElem? hx)).2
   have hdr : L.drop i = p :: L.drop (i + 1) := by
    rw [List.drop_eq_getElem_cons hlt]
    rw [List.getElem?_eq_getElem hlt, Option.some.injEq] at hx
    rw [hx]
   obtain ⟨Lr, hLr⟩ : ∃ l, L.drop (i + 1) = l := ⟨_, rfl⟩
   rw [hdr, hLr] at hp
   have g : wr.cell? ⟨mb, 0, none⟩ = some (.int .i64 kn) := by rw [← hkd]; exact (blkM hbm).1
   have HX := Lib.hid (And.intro hq (And.intro hbm (And.intro hown (And.intro hkd (And.intro kk (And.intro hp hLr))))))
   clear hc hx c0 hp hbm hown hq hk kk hdr hLr hkd hbl P
   obtain rfl | rfl | rfl | rfl | rfl | rfl | rfl | rfl : p = 0 ∨ p = 1 ∨ p = 2 ∨ p = 3 ∨ p = 4 ∨ p = 5 ∨ p = 6 ∨ p = 7 := by omega
   ·as_aux_lemma =>
     have CM := Lib.hid (mnum_any _ _ _ _ _ wr HX.out.1)
     have hn : numV st ≤ 1099511627777 := numV_le st
     have hpn := HX.out.2.2.2.2.2.1.trans (step0 st m.plain Lr)
     obtain ⟨n, hnv⟩ : ∃ n, numV st = n := ⟨_, rfl⟩
     obtain ⟨st', hst'⟩ : ∃ s, numR st = s := ⟨_, rfl⟩
     rw [hnv] at hn hpn
     rw [hst'] at hpn
     have hcv : IntKind.i64.wrap (n : Int) = n := by rw [IntKind.wrap_i64]; omega
     have HP := Lib.hid hpn
     clear hpn
     go_wp2_with fail
     refine CM.out.mono ?_
     rintro e w5 ⟨rfl, hQ5, k5⟩
     change RQ w5 qb qb rb bb (numR st) at hQ5
     rw [show ((st.bind (pNum mMost)).elim 0 (·.1)) = n from hnv]
     rw [hst'] at hQ5
     obtain ⟨w6, hst6, hb6, k6⟩ := store_pub ((k5.block _ (lt_of_heap HX.out.2.1) (by omega)).trans HX.out.2.1) (n : Int)
     have ho6 := (HX.out.2.2.1.keeps k5 (fun j h1 h2 e => by omega)).keeps k6 (fun j h1 h2 e => by omega)
     have R6 := Lib.hid (And.intro HP.out (And.intro HX.out.2.2.2.1 (And.intro hb6 (And.intro ((⟨ho6.1, ho6.2.1, ho6.2.2.1, ⟨ho6.2.2.2.1.1, ⟨by show -9223372036854775808 ≤ (n : Int); omega, by show (n : Int) ≤ 9223372036854775807; omega⟩, ho6.2.2.2.1.2.2⟩, ho6.2.2.2.2⟩) : MsO w6 w3.heap.size { m with pub := (n : Int) }) (And.intro (hQ5.far k6 (fun k hk => ⟨by omega, by omega, by omega⟩)) ((HX.out.2.2.2.2.1.then k5 (fun j hj e => Or.inr e)).then k6 (fun j hj e => Or.inl e)))))))
     clear ho6 hb6 k5 k6 hQ5 hnv hst' CM HP
     go_wp2_with fail
     go_roundw
     case rel => exact ⟨i + 1, { m with pub := (n : Int) }, _, by omega, by go_num, (by rw [HX.out.2.2.2.2.2.2]; exact R6.out.1), R6.out.2.1, R6.out.2.2.1, R6.out.2.2.2.1, R6.out.2.2.2.2.1, R6.out.2.2.2.2.2⟩
     case measure => simp [intOf]; omega
   ·as_aux_lemma =>
     have CM := Lib.hid (mnum_any _ _ _ _ _ wr HX.out.1)
     have hn : numV st ≤ 1099511627777 := numV_le st
     have hpn := HX.out.2.2.2.2.2.1.trans (step1 st m.plain Lr)
     obtain ⟨n, hnv⟩ : ∃ n, numV st = n := ⟨_, rfl⟩
     obtain ⟨st', hst'⟩ : ∃ s, numR st = s := ⟨_, rfl⟩
     rw [hnv] at hn hpn
     rw [hst'] at hpn
     have HP := Lib.hid hpn
     clear hpn
     go_wp2_with fail
     refine CM.out.mono ?_
     rintro e w5 ⟨rfl, hQ5, k5⟩
     change RQ w5 qb qb rb bb (numR st) at hQ5
     rw [show ((st.bind (pNum mMost)).elim 0 (·.1)) = n from hnv]
     rw [hst'] at hQ5
     obtain ⟨w6, hst6, hb6, k6⟩ := store_ver ((k5.block _ (lt_of_heap HX.out.2.1) (by omega)).trans HX.out.2.1) n
     have ho6 := (HX.out.2.2.1.keeps k5 (fun j h1 h2 e => by omega)).keeps k6 (fun j h1 h2 e => by omega)
     have R6 := Lib.hid (And.intro HP.out (And.intro HX.out.2.2.2.1 (And.intro hb6 (And.intro ((⟨ho6.1, ho6.2.1, ho6.2.2.1, ho6.2.2.2.1, (by show n < 18446744073709551616; omega), ho6.2.2.2.2.2⟩) : MsO w6 w3.heap.size { m with ver := n }) (And.intro (hQ5.far k6 (fun k hk => ⟨by omega, by omega, by omega⟩)) ((HX.out.2.2.2.2.1.then k5 (fun j hj e => Or.inr e)).then k6 (fun j hj e => Or.inl e)))))))
     clear ho6 hb6 k5 k6 hQ5 hnv hst' CM HP
     go_wp2_with fail
     go_roundw
     case rel => exact ⟨i + 1, { m with ver := n }, _, by omega, by go_num, (by rw [HX.out.2.2.2.2.2.2]; exact R6.out.1), R6.out.2.1, R6.out.2.2.1, R6.out.2.2.2.1, R6.out.2.2.2.2.1, R6.out.2.2.2.2.2⟩
     case measure => simp [intOf]; omega
   ·as_aux_lemma =>
     have CM := Lib.hid (mnum_any _ _ _ _ _ wr HX.out.1)
     have hn : numV st ≤ 1099511627777 := numV_le st
     have hpn := HX.out.2.2.2.2.2.1.trans (step2 st m.plain Lr)
     obtain ⟨n, hnv⟩ : ∃ n, numV st = n := ⟨_, rfl⟩
     obtain ⟨st', hst'⟩ : ∃ s, numR st = s := ⟨_, rfl⟩
     rw [hnv] at hn hpn
     rw [hst'] at hpn
     have t1 : ((n : Int) == 1) = (n == 1) := by rw [Bool.eq_iff_iff, beq_iff_eq, beq_iff_eq]; omega
     obtain ⟨z, hz⟩ : ∃ z, (n == 1) = z := ⟨_, rfl⟩
     rw [hz] at t1 hpn
     have HP := Lib.hid hpn
     clear hpn
     go_wp2_with fail
     refine CM.out.mono ?_
     rintro e w5 ⟨rfl, hQ5, k5⟩
     change RQ w5 qb qb rb bb (numR st) at hQ5
     rw [show ((st.bind (pNum mMost)).elim 0 (·.1)) = n from hnv]
     rw [hst'] at hQ5
     obtain ⟨w6, hst6, hb6, k6⟩ := store_there ((k5.block _ (lt_of_heap HX.out.2.1) (by omega)).trans HX.out.2.1) z
     have ho6 := (HX.out.2.2.1.keeps k5 (fun j h1 h2 e => by omega)).keeps k6 (fun j h1 h2 e => by omega)
     have R6 := Lib.hid (And.intro HP.out (And.intro HX.out.2.2.2.1 (And.intro hb6 (And.intro ((⟨ho6.1, ho6.2.1, ho6.2.2.1, ho6.2.2.2.1, ho6.2.2.2.2⟩) : MsO w6 w3.heap.size { m with there := z }) (And.intro (hQ5.far k6 (fun k hk => ⟨by omega, by omega, by omega⟩)) ((HX.out.2.2.2.2.1.then k5 (fun j hj e => Or.inr e)).then k6 (fun j hj e => Or.inl e)))))))
     clear ho6 hb6 k5 k6 hQ5 hnv hst' CM HP
     go_wp2_with fail
     go_roundw
     case rel => exact ⟨i + 1, { m with there := z }, _, by omega, by go_num, (by rw [HX.out.2.2.2.2.2.2]; exact R6.out.1), R6.out.2.1, R6.out.2.2.1, R6.out.2.2.2.1, R6.out.2.2.2.2.1, R6.out.2.2.2.2.2⟩
     case measure => simp [intOf]; omega
   ·as_aux_lemma =>
     have gth : wr.cell? ⟨mb, 3, none⟩ = some (.bool m.there) := (blkM HX.out.2.1).2.2.2.1
     by_cases hc : m.kind = 1 ∧ m.there = false
     ·obtain rfl : kn = 1 := by have h1 := HX.out.2.2.2.1; have h2 := hc.1; omega
      rw [hc.2] at gth
      have g0 : wr.cell? ⟨mb, 0, none⟩ = some (.int .i64 1) := by simpa using g
      have R6 := Lib.hid (And.intro (HX.out.2.2.2.2.2.1.trans (step3n st m.plain Lr hc)) (And.intro HX.out.2.2.2.1 (And.intro HX.out.2.1 (And.intro HX.out.2.2.1 (And.intro HX.out.1 HX.out.2.2.2.2.1)))))
      clear g
      go_wp2_with fail
      go_roundw
      case rel => exact ⟨i + 1, m, _, by omega, by go_num, (by rw [HX.out.2.2.2.2.2.2]; exact R6.out.1), R6.out.2.1, R6.out.2.2.1, R6.out.2.2.2.1, R6.out.2.2.2.2.1, R6.out.2.2.2.2.2⟩
      case measure => simp [intOf]; omega
     ·by_cases hk1 : kn = 1
      ·have hth : m.there = true := by cases ht : m.there with | true => rfl | false => exact absurd ⟨by have h := HX.out.2.2.2.1; omega, ht⟩ hc
       rw [hth] at gth
       have t1 : ((kn : Int) != 1) = false := by rw [bne_eq_false_iff_eq]; omega
       have t2 : ((kn : Int) == 1) = true := by rw [beq_iff_eq]; omega
       have t3 : (kn != 1) = false := by rw [bne_eq_false_iff_eq]; exact hk1
       clear hth hk1
       have hcc := Lib.hid hc
       clear hc
       have CM := Lib.hid (mread_pred_any _ _ _ _ st wr HX.out.1)
       go_wp2_with fail
       refine CM.out.mono ?_
       rintro e w5 ⟨⟨p9, n9, c9, cs, rfl, ho9, hg9, hx9⟩, hQ5, k5⟩
       have hpn := HX.out.2.2.2.2.2.1.trans (step3 st m.plain Lr (cs.map Con.plain) hcc.out hx9)
       obtain ⟨st', hst'⟩ : ∃ s, (st.bind (pPart takeP)).map (·.2) = s := ⟨_, rfl⟩
       rw [hst'] at hpn hQ5
       obtain ⟨w6, hst6, hb6, k6⟩ := store_pred ((k5.block _ (lt_of_heap HX.out.2.1) (by omega)).trans HX.out.2.1) p9 n9 c9 cs
       have ho6 := (HX.out.2.2.1.keeps k5 (fun j h1 h2 e => by omega)).keeps k6 (fun j h1 h2 e => by omega)
       have k5s := k5.size
       have R6 := Lib.hid (And.intro hpn (And.intro HX.out.2.2.2.1 (And.intro hb6 (And.intro ((⟨⟨(ho9.mono' (B' := w3.heap.size) (by omega)).keeps conF_k k6 (fun j h1 h2 e => by omega), hg9⟩, ho6.2.1, ho6.2.2.1, ho6.2.2.2⟩) : MsO w6 w3.heap.size { m with pv := .slice p9 n9 c9, ps := cs }) (And.intro (hQ5.far k6 (fun k hk => ⟨by omega, by omega, by omega⟩)) ((HX.out.2.2.2.2.1.then k5 (fun j hj e => Or.inr e)).then k6 (fun j hj e => Or.inl e)))))))
       clear ho6 hb6 k5 k6 hQ5 hst' CM hpn ho9 hg9 hx9
       go_wp2_with fail
       go_roundw
       case rel => exact ⟨i + 1, { m with pv := .slice p9 n9 c9, ps := cs }, _, by omega, by go_num, (by rw [HX.out.2.2.2.2.2.2]; exact R6.out.1), R6.out.2.1, R6.out.2.2.1, R6.out.2.2.2.1, R6.out.2.2.2.2.1, R6.out.2.2.2.2.2⟩
       case measure => simp [intOf]; omega
      ·have t1 : ((kn : Int) != 1) = true := by rw [bne_iff_ne]; omega
       have t2 : ((kn : Int) == 1) = false := by rw [beq_eq_false_iff_ne]; omega
       have t3 : (kn != 1) = true := by rw [bne_iff_ne]; omega
       clear hk1
       have hcc := Lib.hid hc
       clear hc
       have CM := Lib.hid (mread_pred_any _ _ _ _ st wr HX.out.1)
       go_wp2_with fail
       refine CM.out.mono ?_
       rintro e w5 ⟨⟨p9, n9, c9, cs, rfl, ho9, hg9, hx9⟩, hQ5, k5⟩
       have hpn := HX.out.2.2.2.2.2.1.trans (step3 st m.plain Lr (cs.map Con.plain) hcc.out hx9)
       obtain ⟨st', hst'⟩ : ∃ s, (st.bind (pPart takeP)).map (·.2) = s := ⟨_, rfl⟩
       rw [hst'] at hpn hQ5
       obtain ⟨w6, hst6, hb6, k6⟩ := store_pred ((k5.block _ (lt_of_heap HX.out.2.1) (by omega)).trans HX.out.2.1) p9 n9 c9 cs
       have ho6 := (HX.out.2.2.1.keeps k5 (fun j h1 h2 e => by omega)).keeps k6 (fun j h1 h2 e => by omega)
       have k5s := k5.size
       have R6 := Lib.hid (And.intro hpn (And.intro HX.out.2.2.2.1 (And.intro hb6 (And.intro ((⟨⟨(ho9.mono' (B' := w3.heap.size) (by omega)).keeps conF_k k6 (fun j h1 h2 e => by omega), hg9⟩, ho6.2.1, ho6.2.2.1, ho6.2.2.2⟩) : MsO w6 w3.heap.size { m with pv := .slice p9 n9 c9, ps := cs }) (And.intro (hQ5.far k6 (fun k hk => ⟨by omega, by omega, by omega⟩)) ((HX.out.2.2.2.2.1.then k5 (fun j hj e => Or.inr e)).then k6 (fun j hj e => Or.inl e)))))))
       clear ho6 hb6 k5 k6 hQ5 hst' CM hpn ho9 hg9 hx9
       go_wp2_with fail
       go_roundw
       case rel => exact ⟨i + 1, { m with pv := .slice p9 n9 c9, ps := cs }, _, by omega, by go_num, (by rw [HX.out.2.2.2.2.2.2]; exact R6.out.1), R6.out.2.1, R6.out.2.2.1, R6.out.2.2.2.1, R6.out.2.2.2.2.1, R6.out.2.2.2.2.2⟩
       case measure => simp [intOf]; omega
   ·as_aux_lemma =>
     have CM := Lib.hid (mread_item_any _ _ _ _ st wr HX.out.1)
     go_wp2_with fail
     refine CM.out.mono ?_
     rintro e w5 ⟨⟨n9, tm, key, p9, l9, c9, es, rfl, ho9, hx9⟩, hQ5, k5⟩
     have hpn := HX.out.2.2.2.2.2.1.trans (step4 st m.plain Lr ⟨n9, tm, key, es⟩ hx9)
     obtain ⟨st', hst'⟩ : ∃ s, (st.bind (pPart takeI)).map (·.2) = s := ⟨_, rfl⟩
     rw [hst'] at hpn hQ5
     obtain ⟨w6, hst6, hb6, k6⟩ := store_item ((k5.block _ (lt_of_heap HX.out.2.1) (by omega)).trans HX.out.2.1) n9 tm key p9 l9 c9 es
     have ho6 := (HX.out.2.2.1.keeps k5 (fun j h1 h2 e => by omega)).keeps k6 (fun j h1 h2 e => by omega)
     have k5s := k5.size
     have R6 := Lib.hid (And.intro hpn (And.intro HX.out.2.2.2.1 (And.intro hb6 (And.intro ((⟨ho6.1, ⟨(ho9.1.mono (B' := w3.heap.size) (by omega)).keeps k6 (fun j hj e => by have := (ho9.1.block j hj).1; omega), ho9.2⟩, ho6.2.2.1, ho6.2.2.2⟩) : MsO w6 w3.heap.size { m with it := ⟨n9, tm, key, .slice p9 l9 c9, es⟩ }) (And.intro (hQ5.far k6 (fun k hk => ⟨by omega, by omega, by omega⟩)) ((HX.out.2.2.2.2.1.then k5 (fun j hj e => Or.inr e)).then k6 (fun j hj e => Or.inl e)))))))
     clear ho6 hb6 k5 k6 hQ5 hst' CM hpn ho9 hx9
     go_wp2_with fail
     go_roundw
     case rel => exact ⟨i + 1, { m with it := ⟨n9, tm, key, .slice p9 l9 c9, es⟩ }, _, by omega, by go_num, (by rw [HX.out.2.2.2.2.2.2]; exact R6.out.1), R6.out.2.1, R6.out.2.2.1, R6.out.2.2.2.1, R6.out.2.2.2.2.1, R6.out.2.2.2.2.2⟩
     case measure => simp [intOf]; omega
   ·as_aux_lemma =>
     have hpn := HX.out.2.2.2.2.2.1.trans (step5 st m.plain Lr)
     have hna : numV st ≤ 1099511627777 := numV_le st
     obtain ⟨na, hva⟩ : ∃ n, numV st = n := ⟨_, rfl⟩
     obtain ⟨s1, hs1⟩ : ∃ s, numR st = s := ⟨_, rfl⟩
     rw [hs1] at hpn
     have hnb : numV s1 ≤ 1099511627777 := numV_le s1
     obtain ⟨nb, hvb⟩ : ∃ n, numV s1 = n := ⟨_, rfl⟩
     obtain ⟨s2, hs2⟩ : ∃ s, numR s1 = s := ⟨_, rfl⟩
     rw [hs2] at hpn
     have hnc : numV s2 ≤ 1099511627777 := numV_le s2
     obtain ⟨nc, hvc⟩ : ∃ n, numV s2 = n := ⟨_, rfl⟩
     obtain ⟨s3, hs3⟩ : ∃ s, numR s2 = s := ⟨_, rfl⟩
     rw [hs3] at hpn
     rw [hva, hvb, hvc] at hpn
     rw [hva] at hna
     rw [hvb] at hnb
     rw [hvc] at hnc
     have hcv : IntKind.i64.wrap (na : Int) = na := by rw [IntKind.wrap_i64]; omega
     have HP := Lib.hid hpn
     have HV := Lib.hid (And.intro (And.intro hva hs1) (And.intro (And.intro hvb hs2) (And.intro hvc hs3)))
     clear hpn hva hvb hvc hs1 hs2 hs3
     have CM := Lib.hid (mnum_any _ _ _ _ st wr HX.out.1)
     go_wp2_with fail
     refine CM.out.mono ?_
     rintro e wa0 ⟨rfl, hQ5, k5⟩
     change RQ wa0 qb qb rb bb (numR st) at hQ5
     rw [show ((st.bind (pNum mMost)).elim 0 (·.1)) = na from HV.out.1.1]
     rw [HV.out.1.2] at hQ5
     obtain ⟨wc0, hst6, hb6, k6⟩ := store_tok ((k5.block _ (lt_of_heap HX.out.2.1) (by omega)).trans HX.out.2.1) (na : Int) 0 0
     change (storeVar 42 ⟨mb, 9, none⟩ (.agg #[.int .i64 na, .int .u64 0, .int .u64 0])).run Tryz.prog wa0 = .ok () wc0 at hst6
     have ho6 := (HX.out.2.2.1.keeps k5 (fun j h1 h2 e => by omega)).keeps k6 (fun j h1 h2 e => by omega)
     have R0 := Lib.hid (And.intro hb6 (And.intro ((⟨ho6.1, ho6.2.1, ho6.2.2.1, ⟨⟨ho6.2.2.2.1.1, ho6.2.2.2.1.2.1, ⟨by show -9223372036854775808 ≤ (na : Int); omega, by show (na : Int) ≤ 9223372036854775807; omega⟩⟩, ho6.2.2.2.2.1, (by show (0 : Nat) < 18446744073709551616; omega), (by show (0 : Nat) < 18446744073709551616; omega), ho6.2.2.2.2.2.2.2⟩⟩) : MsO wc0 w3.heap.size { m with tb := (na : Int), tl := 0, tc := 0 }) (And.intro (hQ5.far k6 (fun k hk => ⟨by omega, by omega, by omega⟩)) ((HX.out.2.2.2.2.1.then k5 (fun j hj e => Or.inr e)).then k6 (fun j hj e => Or.inl e)))))
     have hsz0 := Nat.le_trans k5.size k6.size
     clear ho6 hb6 k5 k6 hQ5 CM
     have CM := Lib.hid (mnum_any _ _ _ _ s1 wc0 R0.out.2.2.1)
     go_wp2_with fail
     refine CM.out.mono ?_
     rintro e wa1 ⟨rfl, hQ5, k5⟩
     change RQ wa1 qb qb rb bb (numR s1) at hQ5
     rw [show ((s1.bind (pNum mMost)).elim 0 (·.1)) = nb from HV.out.2.1.1]
     rw [HV.out.2.1.2] at hQ5
     obtain ⟨wc1, hst6, hb6, k6⟩ := store_life ((k5.block _ (lt_of_heap R0.out.1) (by omega)).trans R0.out.1) nb
     have ho6 := ((show MsO wc0 w3.heap.size { m with tb := (na : Int), tl := 0, tc := 0 } from R0.out.2.1).keeps k5 (fun j h1 h2 e => by omega)).keeps k6 (fun j h1 h2 e => by omega)
     have R1 := Lib.hid (And.intro hb6 (And.intro ((⟨ho6.1, ho6.2.1, ho6.2.2.1, ⟨ho6.2.2.2.1, ho6.2.2.2.2.1, (by show nb < 18446744073709551616; omega), ho6.2.2.2.2.2.2.1, ho6.2.2.2.2.2.2.2⟩⟩) : MsO wc1 w3.heap.size { m with tb := (na : Int), tl := nb, tc := 0 }) (And.intro (hQ5.far k6 (fun k hk => ⟨by omega, by omega, by omega⟩)) ((R0.out.2.2.2.then k5 (fun j hj e => Or.inr e)).then k6 (fun j hj e => Or.inl e)))))
     have hsz1 := Nat.le_trans k5.size k6.size
     clear ho6 hb6 k5 k6 hQ5 CM
     have CM := Lib.hid (mnum_any _ _ _ _ s2 wc1 R1.out.2.2.1)
     go_wp2_with fail
     refine CM.out.mono ?_
     rintro e wa2 ⟨rfl, hQ5, k5⟩
     change RQ wa2 qb qb rb bb (numR s2) at hQ5
     rw [show ((s2.bind (pNum mMost)).elim 0 (·.1)) = nc from HV.out.2.2.1]
     rw [HV.out.2.2.2] at hQ5
     obtain ⟨wc2, hst6, hb6, k6⟩ := store_count ((k5.block _ (lt_of_heap R1.out.1) (by omega)).trans R1.out.1) nc
     have ho6 := ((show MsO wc1 w3.heap.size { m with tb := (na : Int), tl := nb, tc := 0 } from R1.out.2.1).keeps k5 (fun j h1 h2 e => by omega)).keeps k6 (fun j h1 h2 e => by omega)
     have R2 := Lib.hid (And.intro hb6 (And.intro ((⟨ho6.1, ho6.2.1, ho6.2.2.1, ⟨ho6.2.2.2.1, ho6.2.2.2.2.1, ho6.2.2.2.2.2.1, (by show nc < 18446744073709551616; omega), ho6.2.2.2.2.2.2.2⟩⟩) : MsO wc2 w3.heap.size { m with tb := (na : Int), tl := nb, tc := nc }) (And.intro (hQ5.far k6 (fun k hk => ⟨by omega, by omega, by omega⟩)) ((R1.out.2.2.2.then k5 (fun j hj e => Or.inr e)).then k6 (fun j hj e => Or.inl e)))))
     have hsz2 := Nat.le_trans k5.size k6.size
     clear ho6 hb6 k5 k6 hQ5 CM
     have R6 := Lib.hid (And.intro HP.out (And.intro HX.out.2.2.2.1 (And.intro R2.out.1 (And.intro R2.out.2.1 R2.out.2.2))))
     go_wp2_with fail
     go_roundw
     case rel => exact ⟨i + 1, { m with tb := (na : Int), tl := nb, tc := nc }, _, by omega, by go_num, (by rw [HX.out.2.2.2.2.2.2]; exact R6.out.1), R6.out.2.1, R6.out.2.2.1, R6.out.2.2.2.1, R6.out.2.2.2.2.1, R6.out.2.2.2.2.2⟩
     case measure => simp [intOf]; omega
   ·as_aux_lemma =>
     have CM := Lib.hid (mnum_any _ _ _ _ _ wr HX.out.1)
     have hn : numV st ≤ 1099511627777 := numV_le st
     have hpn := HX.out.2.2.2.2.2.1.trans (step6 st m.plain Lr)
     obtain ⟨n, hnv⟩ : ∃ n, numV st = n := ⟨_, rfl⟩
     obtain ⟨st', hst'⟩ : ∃ s, numR st = s := ⟨_, rfl⟩
     rw [hnv] at hn hpn
     rw [hst'] at hpn
     have HP := Lib.hid hpn
     clear hpn
     go_wp2_with fail
     refine CM.out.mono ?_
     rintro e w5 ⟨rfl, hQ5, k5⟩
     change RQ w5 qb qb rb bb (numR st) at hQ5
     rw [show ((st.bind (pNum mMost)).elim 0 (·.1)) = n from hnv]
     rw [hst'] at hQ5
     obtain ⟨w6, hst6, hb6, k6⟩ := store_from ((k5.block _ (lt_of_heap HX.out.2.1) (by omega)).trans HX.out.2.1) n
     have ho6 := (HX.out.2.2.1.keeps k5 (fun j h1 h2 e => by omega)).keeps k6 (fun j h1 h2 e => by omega)
     have R6 := Lib.hid (And.intro HP.out (And.intro HX.out.2.2.2.1 (And.intro hb6 (And.intro ((⟨ho6.1, ho6.2.1, ho6.2.2.1, ho6.2.2.2.1, ho6.2.2.2.2.1, ho6.2.2.2.2.2.1, ho6.2.2.2.2.2.2.1, (by show n < 18446744073709551616; omega)⟩) : MsO w6 w3.heap.size { m with frm := n }) (And.intro (hQ5.far k6 (fun k hk => ⟨by omega, by omega, by omega⟩)) ((HX.out.2.2.2.2.1.then k5 (fun j hj e => Or.inr e)).then k6 (fun j hj e => Or.inl e)))))))
     clear ho6 hb6 k5 k6 hQ5 hnv hst' CM HP
     go_wp2_with fail
     go_roundw
     case rel => exact ⟨i + 1, { m with frm := n }, _, by omega, by go_num, (by rw [HX.out.2.2.2.2.2.2]; exact R6.out.1), R6.out.2.1, R6.out.2.2.1, R6.out.2.2.2.1, R6.out.2.2.2.2.1, R6.out.2.2.2.2.2⟩
     case measure => simp [intOf]; omega
   ·as_aux_lemma =>
     have CM := Lib.hid (mread_page_any _ _ _ _ st wr HX.out.1)
     go_wp2_with fail
     refine CM.out.mono ?_
     rintro e w5 ⟨⟨fr, en, p9, l9, c9, its, q9, f9, d9, gs, last, rfl, ho9, hx9⟩, hQ5, k5⟩
     have hpn := HX.out.2.2.2.2.2.1.trans (step7 st m.plain Lr ⟨fr, en, its.map It.plain, gs, last⟩ hx9)
     obtain ⟨st', hst'⟩ : ∃ s, (st.bind (pPart takeG)).map (·.2) = s := ⟨_, rfl⟩
     rw [hst'] at hpn hQ5
     obtain ⟨w6, hst6, hb6, k6⟩ := store_page ((k5.block _ (lt_of_heap HX.out.2.1) (by omega)).trans HX.out.2.1) fr en p9 l9 c9 its q9 f9 d9 gs last
     have ho6 := (HX.out.2.2.1.keeps k5 (fun j h1 h2 e => by omega)).keeps k6 (fun j h1 h2 e => by omega)
     have k5s := k5.size
     have R6 := Lib.hid (And.intro hpn (And.intro HX.out.2.2.2.1 (And.intro hb6 (And.intro ((⟨ho6.1, ho6.2.1, ⟨⟨(ho9.1.1.mono' (B' := w3.heap.size) (by omega)).keeps itF_k k6 (fun j h1 h2 e => by omega), (ho9.1.2.mono (B' := w3.heap.size) (by omega)).keeps k6 (fun j hj e => by have := (ho9.1.2.block j hj).1; omega)⟩, ho9.2⟩, ho6.2.2.2⟩) : MsO w6 w3.heap.size { m with pg := ⟨fr, en, .slice p9 l9 c9, its, .slice q9 f9 d9, gs, last⟩ }) (And.intro (hQ5.far k6 (fun k hk => ⟨by omega, by omega, by omega⟩)) ((HX.out.2.2.2.2.1.then k5 (fun j hj e => Or.inr e)).then k6 (fun j hj e => Or.inl e)))))))
     clear ho6 hb6 k5 k6 hQ5 hst' CM hpn ho9 hx9
     go_wp2_with fail
     go_roundw
     case rel => exact ⟨i + 1, { m with pg := ⟨fr, en, .slice p9 l9 c9, its, .slice q9 f9 d9, gs, last⟩ }, _, by omega, by go_num, (by rw [HX.out.2.2.2.2.2.2]; exact R6.out.1), R6.out.2.1, R6.out.2.2.1, R6.out.2.2.2.1, R6.out.2.2.2.2.1, R6.out.2.2.2.2.2⟩
     case measure => simp [intOf]; omega
  ·obtain rfl : i = L.length := by omega
   have hpe : parseM b = st.map fun l => (m.plain, l) := by
    rw [hp]; cases st with
    | none => rfl
    | some l => simp [partsM]
   have gl := load_msg hbm rfl
   have CPut := Lib.hid (msg_put_any m wr hown.fine)
   have oW : Old w wr := P.out.2.2.2.2.2.1.then hk (fun j hj e => by omega)
   have brv := (hk.block _ (lt_of_heap P.out.2.2.2.2.2.2) (by omega)).trans P.out.2.2.2.2.2.2
   have HE := Lib.hid (And.intro hpe (And.intro hbm (And.intro hown (And.intro hq (And.intro oW (And.intro brv (H.out.2.2.old oW)))))))
   have hrz : w.heap.size < wr.heap.size := lt_of_heap brv
   clear hpe hbm hown oW brv hq hk P hp R
   go_upto_region 27 with fail
   go_wp2_with fail
   refine CPut.out.mono ?_
   rintro e w7 ⟨p7, c7, z7, L7, rfl, k7, ho7, hL7, hz7⟩
   have gl7 := load_msg ((k7.block _ (lt_of_heap HE.out.2.1) (fun f => f)).trans HE.out.2.1) rfl
   obtain ⟨w8, hst8, hb8, k8⟩ := store_msg ((k7.block _ (lt_of_heap HE.out.2.2.2.2.2.1) (fun f => f)).trans HE.out.2.2.2.2.2.1) m HE.out.2.2.1.one
   obtain ⟨w9, hst9, hb9, k9⟩ := store_msg ((k7.block _ (lt_of_heap HE.out.2.2.2.2.2.1) (fun f => f)).trans HE.out.2.2.2.2.2.1) zeroMs (by simp [Ms.cells, zeroMs, Value.oneCell'])
   change (storeVar 44 ⟨w.heap.size, 0, none⟩ (.agg #[.int .i64 0, .int .i64 0, .int .u64 0, .bool false, .slice none 0 0, .int .u64 0, .int .u64 0, .string ⟨#[]⟩, .slice none 0 0, .int .i64 0, .int .u64 0, .int .u64 0, .int .u64 0, .int .u64 0, .int .u64 0, .slice none 0 0, .slice none 0 0, .bool false])).run Tryz.prog w7 = .ok () w9 at hst9
   have gl8 := load_msg hb8 rfl
   have gl9 := load_msg hb9 rfl
   have EQ := Lib.hid (equal_any _ _ _ _ w7 ho7.sees (HE.out.2.2.2.2.2.2.old k7))
   have NO := Lib.hid (fun (hno : takeM b = none) => (show TakM b w (.returned (.tuple #[.agg zeroMs.cells.toArray, .int .i64 5])) w9 from
    ⟨zeroMs, 5, rfl, (HE.out.2.2.2.2.1.trans k7).then k9 (fun j hj e => by omega), MsO.zero _ _, Or.inr ⟨hno, rfl, rfl⟩⟩))
   have YES := Lib.hid (fun (hy : takeM b = some m.plain) => (show TakM b w (.returned (.tuple #[.agg m.cells.toArray, .int .i64 0])) w8 from
    ⟨m, 0, rfl, (HE.out.2.2.2.2.1.trans k7).then k8 (fun j hj e => by omega), ((HE.out.2.2.1.old k7).keeps k8 (fun j h1 h2 e => by omega)).mono (by omega), Or.inl ⟨hy, rfl⟩⟩))
   have hQ7 := HE.out.2.2.2.1.old k7
   have hT : takeM b = st.bind fun _ => if mayM m.plain && decide (mForm m.plain = b) then some m.plain else none := by
    unfold takeM; rw [HE.out.1]; cases st <;> rfl
   have HT := Lib.hid hT
   clear hT k7 k8 k9 hb8 hb9 ho7 CPut gl
   cases st with
   | none =>
    obtain ⟨_, e7, he7, hb7⟩ := hQ7
    have gq := (blk2 hb7).1
    have t : (e7 != 0) = true := by rw [bne_iff_ne]; exact he7
    clear hb7 he7 hL7 hz7
    go_wp2_with fail
    exact bodyPost_ret (v := .tuple #[.agg #[.int .i64 0, .int .i64 0, .int .u64 0, .bool false, .slice none 0 0, .int .u64 0, .int .u64 0, .string ⟨#[]⟩, .slice none 0 0, .int .i64 0, .int .u64 0, .int .u64 0, .int .u64 0, .int .u64 0, .int .u64 0, .slice none 0 0, .slice none 0 0, .bool false], .int .i64 5]) (by simp [results, Tryz.results11, go_sem, gl9]; rfl) rfl (NO.out (HT.out.trans rfl))
   | some l =>
    have gq := (blk2 hQ7.2.1).1
    clear hQ7
    obtain ⟨ok, hok⟩ : ∃ x, mayM m.plain = x := ⟨_, rfl⟩
    rw [hok] at hL7 hz7
    have hT := HT.out
    simp only [Option.bind_some, hok] at hT
    have HTT := Lib.hid hT
    clear hT hok HT
    cases ok
    ·simp only [Bool.false_eq_true, if_false] at hL7 hz7
     subst hL7 hz7
     go_wp2_with fail
     exact bodyPost_ret (v := .tuple #[.agg #[.int .i64 0, .int .i64 0, .int .u64 0, .bool false, .slice none 0 0, .int .u64 0, .int .u64 0, .string ⟨#[]⟩, .slice none 0 0, .int .i64 0, .int .u64 0, .int .u64 0, .int .u64 0, .int .u64 0, .int .u64 0, .slice none 0 0, .slice none 0 0, .bool false], .int .i64 5]) (by simp [results, Tryz.results11, go_sem, gl9]; rfl) rfl (NO.out (HTT.out.trans (by simp)))
    ·simp only [if_true] at hL7 hz7
     subst hz7
     obtain ⟨q, hqe⟩ : ∃ x, (L7 == b) = x := ⟨_, rfl⟩
     rw [hqe] at EQ
     have HQ := Lib.hid (And.intro hL7 hqe)
     clear hL7 hqe
     go_wp2_with fail
     refine EQ.out.mono ?_
     rintro e w10 ⟨rfl, rfl⟩
     cases q
     ·go_wp2_with fail
      exact bodyPost_ret (v := .tuple #[.agg #[.int .i64 0, .int .i64 0, .int .u64 0, .bool false, .slice none 0 0, .int .u64 0, .int .u64 0, .string ⟨#[]⟩, .slice none 0 0, .int .i64 0, .int .u64 0, .int .u64 0, .int .u64 0, .int .u64 0, .int .u64 0, .slice none 0 0, .slice none 0 0, .bool false], .int .i64 5]) (by simp [results, Tryz.results11, go_sem, gl9]; rfl) rfl (NO.out (HTT.out.trans (by
       have h := HQ.out.2
       rw [HQ.out.1, beq_eq_false_iff_ne] at h
       simp [h])))
     ·go_wp2_with fail
      exact bodyPost_ret (v := .tuple #[.agg m.cells.toArray, .int .i64 0]) (by simp [results, Tryz.results11, go_sem, gl8]) rfl (YES.out (HTT.out.trans (by
       have h := HQ.out.2
       rw [HQ.out.1, beq_iff_eq] at h
       simp [h])))
end
end Go.Proofs.YtpjpimahnnekkaaGreat
