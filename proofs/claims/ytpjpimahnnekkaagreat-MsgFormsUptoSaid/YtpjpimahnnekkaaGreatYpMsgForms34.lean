/- DERIVED. Chapter 21: msg.Put. -/
import Derived.Test.YtpjpimahnnekkaaGreatYpMsgForms32
set_option maxRecDepth 100000
set_option maxHeartbeats 8000000
namespace Go.Proofs.YtpjpimahnnekkaaGreat
section
open Go.RowKit Go.Great
attribute [-go_sem] loadVar
theorem load_sub {W : World} {b o : Nat} {cs : Array Value} {ty : TypeId} {d : TypeDesc} (h : ∀ j v, cs.toList[j]? = some v → W.cell? ⟨b, o + j, none⟩ = some v)
  (hu : Tryz.prog.underlying ty = some d) (hd : (match d with | .struct _ | .array _ _ => true | _ => false) = true) (hi : (Tryz.prog.info? ty).map (·.size) = some cs.size) : (loadVar ty ⟨b, o, none⟩).run Tryz.prog W = .ok (.agg cs) W := by
 have hl : (loadCells ⟨b, o, none⟩ cs.toList.length).run Tryz.prog W = .ok cs.toList.toArray W :=
  run_loadCells_list (P := Tryz.prog) W ⟨b, o, none⟩ cs.toList (fun j v hv => by
   rw [Addr.add_lit]; exact h j v hv)
 cases hq : Tryz.prog.info? ty with
 | none => simp [hq] at hi
 | some i =>
  have hs : i.size = cs.size := by simpa [hq] using hi
  have hagg : (isAgg ty).run Tryz.prog W = .ok true W := by
   unfold isAgg
   rw [Sem.run_bind, run_underlying hu W]
   cases d <;> simp_all
  simp only [Array.length_toList, Array.toArray_toList] at hl
  simp [loadVar, Sem.run_bind, hagg, sizeOf, typeInfo, hq, hs, hl]
theorem put_item_w (x : It) (w : World) (hf : x.fine w) : Calls Tryz.prog 31 #[.agg x.cells.toArray] w (PutV (itOk x.plain) (itForm x.plain) w) := by
 cases hok : itOk x.plain
 ·exact (put_item_no_any x w hf hok).mono fun _ _ h => PutV.no h
 ·exact (put_item_any x w hf hok).mono fun _ _ h => PutV.yes h
theorem msg_put_any (m : Ms) (w : World) (h : m.fine w) : Calls Tryz.prog 8 #[.agg m.cells.toArray] w (PutV (mayM m.plain) (mForm m.plain) w) := by
 have CMay := fun W (k : Old w W) => msg_may_any m W (Ms.fine.old h k)
 have CPr := fun W (k : Old w W) => put_pred_v m.pv m.ps W (h.1.1.old k) (fun h0 b hb => Nat.lt_of_lt_of_le (h.1.2 h0 b hb) k.size)
 have CIt := fun W (k : Old w W) => put_item_w m.it W (It.fine.old h.2.1 k)
 have CPg := fun W (k : Old w W) => put_page_v m.pg W (Pg.fine.old h.2.2.1 k)
 have hpl := fun p (hp : 0 ≤ p ∧ p ≤ 7) hr => part_le h (p := p) hp hr
 have hfl := flat_le h
 have hprl := fun hok => predForm_le h.1.1 hok
 have hpgl := fun hok => pageForm_le h.2.2.1 hok
 have hitl := fun hok => itForm_le (x := m.it.plain) hok h.2.1.2.2.1
 simp only [predOk_plain] at CPr
 have RG := @mayM_parts m.plain
 obtain ⟨pm, hpm⟩ : ∃ q, m.plain = q := ⟨_, rfl⟩
 have e0 : pm.kind = m.kind ∧ pm.pub = m.pub ∧ pm.ver = m.ver ∧ pm.there = m.there ∧ pm.ps = m.ps.map Con.plain ∧ pm.it = m.it.plain ∧ pm.tb = m.tb ∧ pm.tl = m.tl ∧ pm.tc = m.tc ∧ pm.frm = m.frm ∧ pm.pg = m.pg.plain := by rw [← hpm]; exact ⟨rfl, rfl, rfl, rfl, rfl, rfl, rfl, rfl, rfl, rfl, rfl⟩
 rw [hpm] at CMay hpl hfl RG ⊢
 clear hpm
 obtain ⟨kind, pub, ver, there, pv, ps, ⟨n, tm, key, av, es⟩, tb, tl, tc, frm, ⟨fr, en, iv, its, gv, gs, last⟩⟩ := m
 obtain ⟨p1, c1, e1, _, r1⟩ := h.1.1.1.len
 obtain ⟨p2, c2, e2, _, _⟩ := h.2.1.1.len
 obtain ⟨p3, c3, e3, _, _⟩ := h.2.2.1.1.1.len
 obtain ⟨p4, c4, e4, _, _⟩ := h.2.2.1.1.2.2.len
 simp only at e1 e2 e3 e4
 subst e1 e2 e3 e4
 have hps : ps.length ≤ 9223372036854775807 := by have := h.1.1.1.len; obtain ⟨_, c, e, h1, h2⟩ := this; unfold maxLen at h2; simp only at h1; omega
 unfold Ms.cells
 simp only
 obtain ⟨W0, hW0⟩ : ∃ W0, w.alloc (.cells #[.int .i64 kind, .int .i64 pub, .int .u64 ver, .bool there, .slice p1 ps.length c1, .int .u64 n, .int .u64 tm, .string key, .slice p2 es.length c2, .int .i64 tb, .int .u64 tl, .int .u64 tc, .int .u64 frm, .int .u64 fr, .int .u64 en, .slice p3 its.length c3, .slice p4 gs.length c4, .bool last] 44) = W0 := ⟨_, rfl⟩
 have k0 : Old w W0 := by rw [← hW0]; exact (Keeps.refl _ _).alloc _
 have b0 : W0.heap[w.heap.size]? = some (.cells #[.int .i64 kind, .int .i64 pub, .int .u64 ver, .bool there, .slice p1 ps.length c1, .int .u64 n, .int .u64 tm, .string key, .slice p2 es.length c2, .int .i64 tb, .int .u64 tl, .int .u64 tc, .int .u64 frm, .int .u64 fr, .int .u64 en, .slice p3 its.length c3, .slice p4 gs.length c4, .bool last] 44 (0, 0)) := by rw [← hW0]; exact heap_alloc_new _ _
 have g := blkM b0
 have hf := Ms.fine.old h k0
 have K := Lib.hid k0
 obtain ⟨⟨h1, _⟩, h2, h3, ⟨hk64, hp64, ht64⟩, hv64, hl64, hc64, hf64⟩ := h
 unfold I64 at hk64 hp64 ht64
 unfold U64 at hv64 hl64 hc64 hf64
 simp only at hk64 hp64 ht64 hv64 hl64 hc64 hf64
 clear r1 k0 b0 h1 h2 h3
 unfold Ms.cells at CMay
 unfold It.cells at CIt
 unfold Pg.cells at CPg
 simp only at CMay CPr CIt CPg e0 hprl hpgl hitl
 have HC := Lib.hid (And.intro CMay (And.intro CPr (And.intro CIt CPg)))
 have HL := Lib.hid (And.intro hfl (And.intro hprl (And.intro hpgl hitl)))
 have E0 := Lib.hid e0
 have B := Lib.hid (And.intro K.out ((by rw [← hW0]; exact heap_alloc_new _ _ : W0.heap[w.heap.size]? = some (.cells #[.int .i64 kind, .int .i64 pub, .int .u64 ver, .bool there, .slice p1 ps.length c1, .int .u64 n, .int .u64 tm, .string key, .slice p2 es.length c2, .int .i64 tb, .int .u64 tl, .int .u64 tc, .int .u64 frm, .int .u64 fr, .int .u64 en, .slice p3 its.length c3, .slice p4 gs.length c4, .bool last] 44 (0, 0)))))
 have gl := load_msg B.out.2 rfl
 have lI : ∀ a W, (loadVar 3 a).run Tryz.prog W = (load a).run Tryz.prog W := fun _ _ => by kernel_rfl
 have lU : ∀ a W, (loadVar 22 a).run Tryz.prog W = (load a).run Tryz.prog W := fun _ _ => by kernel_rfl
 have lB : ∀ a W, (loadVar 4 a).run Tryz.prog W = (load a).run Tryz.prog W := fun _ _ => by kernel_rfl
 have lP : ∀ a W, (loadVar 24 a).run Tryz.prog W = (load a).run Tryz.prog W := fun _ _ => by kernel_rfl
 have lS : ∀ a W, (loadVar 38 a).run Tryz.prog W = (load a).run Tryz.prog W := fun _ _ => by kernel_rfl
 have hmf : ∀ (fn : Fn) (first cap : Array Value) (w : World), (Instr.makeFunc fn first cap).run Tryz.prog w = .ok (.func fn first cap) w := fun _ _ _ _ => rfl
 obtain ⟨ok, hok⟩ : ∃ b, mayM pm = b := ⟨_, rfl⟩
 rw [hok]
 have CM := (HC.out.1 W0 B.out.1)
 rw [hok] at CM
 have HCM := Lib.hid CM
 clear CMay CPr CIt CPg hf hfl hprl hpgl hitl e0 CM g
 cases ok
 ·clear hok RG hpl
  go_enter Tryz.func8, Tryz.ntmps8
  go_wp2_with fail
  refine HCM.out.mono ?_
  rintro e w1 ⟨rfl, k1⟩
  have K1 := Lib.hid (B.out.1.trans k1)
  clear k1
  go_wp2_with fail
  go_ret2
  exact PutV.no ⟨rfl, K1.out⟩
 obtain ⟨hk16, hparts⟩ := RG hok
 rw [E0.out.1] at hk16 hparts
 obtain ⟨kn, rfl⟩ : ∃ k : Nat, kind = k := ⟨kind.toNat, by omega⟩
 have hku : IntKind.u64.wrap (kn : Int) = kn := by rw [IntKind.wrap_u64]; omega
 have HP := Lib.hid (And.intro hparts hpl)
 clear hok RG hparts hpl
 have fk : (form kn).length ≤ 10 := form_le10 (by omega)
 go_enter Tryz.func8, Tryz.ntmps8
 go_wp2_with fail
 refine HCM.out.mono ?_
 rintro e w1 ⟨rfl, k1⟩
 have b1 := (k1.block _ (lt_of_heap B.out.2) (fun f => f)).trans B.out.2
 have g := blkM b1
 have CN := Lib.hid (num_any (.slice none 0 0) [] kn w1 (Sees.nil _) (by simp) (by omega))
 have K1 := Lib.hid (And.intro (B.out.1.trans k1) b1)
 have hz1 : w.heap.size < w1.heap.size := lt_of_heap b1
 clear k1 b1 gl
 go_wp2_with fail
 refine CN.out.mono ?_
 rintro e w2 ⟨p9, n9, c9, rfl, ho2, k2⟩
 obtain ⟨bb, hbb⟩ : ∃ b, w2.heap.size = b := ⟨_, rfl⟩
 obtain ⟨Wz, hWz⟩ : ∃ Wz, w2.alloc (.cells #[.slice none 0 0] 38) = Wz := ⟨_, rfl⟩
 have oz : Old w2 Wz := by rw [← hWz]; exact (Keeps.refl _ _).alloc _
 have bz : Wz.heap[w2.heap.size]? = some (.cells #[.slice none 0 0] 38 (0, 0)) := by rw [← hWz]; exact heap_alloc_new _ _
 have gz : Wz.cell? ⟨w2.heap.size, 0, none⟩ = some (.slice none 0 0) ∧ Wz.frozen? ⟨w2.heap.size, 0, none⟩ = false := by simp [World.cell?, World.frozen?, bz]
 obtain ⟨W3, hW3⟩ : ∃ W3, Wz.setCell ⟨w2.heap.size, 0, none⟩ (.slice p9 n9 c9) = W3 := ⟨_, rfl⟩
 have kS : Keeps (fun k => k = w2.heap.size) Wz W3 := by rw [← hW3]; exact keepS _ (Keeps.refl _ _)
 have o3 : Old w2 W3 := oz.then kS (fun i hi e => by omega)
 have hw3 : WB W3 w.heap.size w2.heap.size (form kn) := by
  refine ⟨.slice p9 n9 c9, ?_, ?_, fun k hk e => by have := (ho2.block k hk).2; omega, by have := K1.out.1.size; have := k2.size; have := o3.size; omega⟩
  ·rw [← hW3]; have := heap_setCell_same Wz w2.heap.size 0 _ _ (.slice p9 n9 c9) bz; simpa using this
  ·have := (ho2.old o3).mono (B' := w.heap.size) (by omega)
   simpa using this
 have b3 := ((k2.trans o3).block _ hz1 (fun f => f)).trans K1.out.2
 have hz2 : w.heap.size < w2.heap.size := Nat.lt_of_lt_of_le hz1 k2.size
 have K3 := Lib.hid (And.intro (K1.out.1.trans (k2.trans o3)) (And.intro b3 hw3))
 have HW3 := Lib.hid hW3
 clear ho2 k2 oz bz kS o3 hw3 b3 g CN hW3 hbb
 go_upto_region 4 with fail
 try rw [HW3.out]
 clear hWz gz hku
 have g := blkM K3.out.2.1
 have CP0 := parts_any (kn : Int) W3
 obtain ⟨L, hL⟩ : ∃ L, partsL (kn : Int) = L := ⟨_, rfl⟩
 rw [hL] at CP0
 have HLL := Lib.hid (And.intro hL (hL ▸ parts_len (kn : Int)))
 have CP := Lib.hid CP0
 clear CP0 hL
 go_wp2_with fail
 refine CP.out.mono ?_
 rintro e w4 ⟨pp, pn, pc, rfl, hs, k4⟩
 obtain rfl : pn = L.length := by obtain ⟨_, _, e, _⟩ := hs.len; simp only [Value.slice.injEq] at e; exact e.2.1
 have hw4 := K3.out.2.2.old k4
 have b4 := (k4.block _ (lt_of_heap K3.out.2.1) (fun f => f)).trans K3.out.2.1
 have P := Lib.hid (And.intro hs (And.intro hw4 (And.intro b4 (K3.out.1.trans k4))))
 have hl4 := HLL.out.2
 clear hs k4 hw4 b4 CP g
 go_wp2_with fail
 go_loopw [8, 22] (fun _ v22 wr => ∃ i : Nat, i ≤ L.length ∧ v22 = .int .i64 i ∧ WB wr w.heap.size w2.heap.size (form kn ++ (L.take i).flatMap (partForm pm)) ∧ Keeps (fun k => k = w2.heap.size) w4 wr) (fun _ v22 _ => L.length - (intOf v22).toNat)
 case atStart => exact ⟨0, by omega, rfl, by simpa using P.out.2.1, Keeps.refl _ _⟩
 case round =>
  obtain ⟨i, hi, rfl, hw, hk⟩ := hrel
  by_cases hlt : i < L.length
  ·obtain ⟨b, oo, cc, he, _, _, hc⟩ := P.out.1.at (by omega)
   simp only [Value.slice.injEq, true_and] at he
   obtain ⟨rfl, rfl⟩ := he
   obtain ⟨p, hx⟩ : ∃ x, L[i]? = some x := ⟨_, List.getElem?_eq_getElem hlt⟩
   have c0 := hc i p hx 0 _ rfl
   have hbne : b ≠ w2.heap.size := by
    intro e
    obtain ⟨v, hv, ho, _, _⟩ := P.out.2.1
    obtain ⟨q1, q2, q3, rfl⟩ : ∃ p n c, v = .slice p n c := by obtain ⟨_, _, e, _, _⟩ := ho.sees.len; exact ⟨_, _, _, e⟩
    rw [e] at c0
    unfold World.cell? at c0
    simp only [hv] at c0
    simp only [Option.isSome_none, Bool.false_eq_true, if_false] at c0
    rcases Nat.eq_zero_or_pos (oo + i * 1 + 0) with h0 | h0
    ·rw [h0] at c0; simp at c0
    ·rw [Array.getElem?_eq_none (by simp; omega)] at c0; cases c0
   have x0 := hk.cell c0 hbne
   simp only [Nat.add_zero, Nat.mul_one] at x0
   have i1 : (0 : Int) ≤ (i : Int) := by omega
   have i2 : (i : Int) < (L.length : Int) := by omega
   have hmem : p ∈ partsL (kn : Int) := by rw [HLL.out.1]; exact List.mem_of_getElem? hx
   have hp07 := (parts_mem hmem).2
   have hrt := HP.out.1 p hmem
   have bw := (hk.block _ (lt_of_heap P.out.2.2.1) (by omega)).trans P.out.2.2.1
   have g := blkM bw
   have oW : Old w wr := P.out.2.2.2.then hk (fun i hi e => by omega)
   obtain ⟨lk, hlk⟩ : ∃ l, form kn ++ (L.take i).flatMap (partForm pm) = l := ⟨_, rfl⟩
   have hll : lk.length ≤ 30000 := by
    rw [← hlk]
    have h1 := HL.out.1 (L.take i) (fun q hq => by
     have hq' : q ∈ partsL (kn : Int) := by rw [HLL.out.1]; exact List.mem_of_mem_take hq
     exact ⟨(parts_mem hq').2, HP.out.1 q hq'⟩)
    have h2 : (L.take i).length ≤ 4 := by simp; omega
    simp only [List.length_append]; omega
   rw [hlk] at hw
   have FIN := Lib.hid (fun (wq : World) (hq : WB wq w.heap.size w2.heap.size (lk ++ partForm pm p)) (k : Keeps (fun k => k = w2.heap.size) wr wq) => (And.intro (by rw [List.take_add_one, hx]; rw [← hlk] at hq; simpa [List.append_assoc] using hq) (hk.trans k) : WB wq w.heap.size w2.heap.size (form kn ++ (L.take (i + 1)).flatMap (partForm pm)) ∧ Keeps (fun k => k = w2.heap.size) w4 wq))
   have HX := Lib.hid (And.intro hw (And.intro hrt (And.intro oW bw)))
   have hzr : w2.heap.size < wr.heap.size := hw.lt
   clear hc hx c0 hw hk hmem hrt bw oW hlk
   obtain rfl | rfl | rfl | rfl | rfl | rfl | rfl | rfl : p = 0 ∨ p = 1 ∨ p = 2 ∨ p = 3 ∨ p = 4 ∨ p = 5 ∨ p = 6 ∨ p = 7 := by omega
   ·as_aux_lemma =>
     have hr := right0' HX.out.2.1
     rw [E0.out.2.1] at hr
     obtain ⟨xn, rfl⟩ : ∃ n : Nat, pub = n := ⟨pub.toNat, by omega⟩
     have hcv : IntKind.u64.wrap (xn : Int) = xn := by rw [IntKind.wrap_u64]; omega
     have hPF : partForm pm 0 = form xn := by unfold partForm; simp only [if_true, E0.out.2.1]; try simp
     obtain ⟨A, hA⟩ : ∃ A, wr.alloc (.cells #[.int .u64 xn] 22) = A := ⟨_, rfl⟩
     have oA : Old wr A := by rw [← hA]; exact (Keeps.refl _ _).alloc _
     have sA : SeesR A 1 natL (.slice (some ⟨wr.heap.size, 0, none⟩) 1 1) [xn] := by rw [← hA]; exact SeesR.new (k := 1) (enc := natL) wr _ (0, 0) [xn] _ (by rfl) (fun _ => rfl) (by unfold maxLen; simp)
     have C := Lib.hid (msg_num1_any w.heap.size w2.heap.size lk _ [xn] A (HX.out.1.old oA) sA (fun _ k hk => by simp [Value.ownBlock] at hk; omega) (by simp; omega) (by simp; omega))
     have HA := Lib.hid oA
     clear oA sA
     go_wp2_with fail
     refine C.out.mono ?_
     rintro e w5 ⟨rfl, hw5, k5⟩
     have R := Lib.hid (FIN.out w5 (by rw [hPF]; simpa [List.append_assoc] using hw5) ((HA.out.weaken (fun _ _ f => f.elim)).trans k5))
     clear hw5 k5
     go_wp2_with fail
     go_roundw
     case rel => exact ⟨i + 1, by omega, by go_num, R.out.1, R.out.2⟩
     case measure => simp [intOf]; omega
   ·as_aux_lemma =>
     skip
     have hPF : partForm pm 1 = form ver := by unfold partForm; simp only [if_false, if_true, E0.out.2.2.2.1, E0.out.2.2.1, E0.out.2.2.2.2.2.2.1, E0.out.2.2.2.2.2.2.2.1, E0.out.2.2.2.2.2.2.2.2.1, E0.out.2.2.2.2.2.2.2.2.2.1, show ¬ ((1 : Int) = 0) by decide]; try simp
     obtain ⟨A, hA⟩ : ∃ A, wr.alloc (.cells #[.int .u64 ver] 22) = A := ⟨_, rfl⟩
     have oA : Old wr A := by rw [← hA]; exact (Keeps.refl _ _).alloc _
     have sA : SeesR A 1 natL (.slice (some ⟨wr.heap.size, 0, none⟩) 1 1) [ver] := by rw [← hA]; exact SeesR.new (k := 1) (enc := natL) wr _ (0, 0) [ver] _ (by rfl) (fun _ => rfl) (by unfold maxLen; simp)
     have C := Lib.hid (msg_num1_any w.heap.size w2.heap.size lk _ [ver] A (HX.out.1.old oA) sA (fun _ k hk => by simp [Value.ownBlock] at hk; omega) (by simp; omega) (by simp; omega))
     have HA := Lib.hid oA
     clear oA sA
     go_wp2_with fail
     refine C.out.mono ?_
     rintro e w5 ⟨rfl, hw5, k5⟩
     have R := Lib.hid (FIN.out w5 (by rw [hPF]; simpa [List.append_assoc] using hw5) ((HA.out.weaken (fun _ _ f => f.elim)).trans k5))
     clear hw5 k5
     go_wp2_with fail
     go_roundw
     case rel => exact ⟨i + 1, by omega, by go_num, R.out.1, R.out.2⟩
     case measure => simp [intOf]; omega
   ·as_aux_lemma =>
     have hPF : partForm pm 2 = form (if there then 1 else 0) := by unfold partForm; simp only [show ¬ ((2 : Int) = 0) by decide, show ¬ ((2 : Int) = 1) by decide, if_false, if_true, E0.out.2.2.2.1]
     obtain ⟨tn, htn⟩ : ∃ n : Nat, (if there then 1 else 0) = n := ⟨_, rfl⟩
     have htl : tn < 2 := by rw [← htn]; split <;> decide
     rw [htn] at hPF
     have HTN := Lib.hid htn
     have HPF := Lib.hid hPF
     clear hPF htn
     go_upto_region 15 with fail
     refine wp_region_lit ?_
     refine wpList_runTo rfl (some 44) rfl (.func (.func 26) #[] #[.pointer (some ⟨w2.heap.size, 0, none⟩)]) wr (by kernel_rfl) ?_
     refine wpList_runTo rfl (some 45) rfl (.map (some wr.heap.size)) (wr.alloc (.map #[] 0)) (by kernel_rfl) ?_
     obtain ⟨M0, hM0⟩ : ∃ W, wr.alloc (.map #[] 0) = W := ⟨_, rfl⟩
     have oM0 : Old wr M0 := by rw [← hM0]; exact (Keeps.refl _ _).alloc _
     have bM0 : M0.heap[wr.heap.size]? = some (.map #[] 0) := by rw [← hM0]; exact heap_alloc_new _ _
     rw [hM0]
     clear hM0
     obtain ⟨M1, r1, bM1, kM1⟩ := map_put (P := Tryz.prog) (k := .bool true) Tryz.underlying81 Tryz.underlying4 trivial bM0 (.int .u64 1) (by rfl)
     refine wpList_skipTo rfl M1 (run_insert_op (x := .tmp 45) (y := .const (.bool true)) (z := .const (.int .u64 1)) r1 rfl (by kernel_rfl) (by kernel_rfl) (by kernel_rfl)) ?_
     have oM1 : Old wr M1 := oM0.then kM1 (fun i hi e => by omega)
     have g1 := blkM ((oM1.block _ (lt_of_heap HX.out.2.2.2) (fun f => f)).trans HX.out.2.2.2)
     obtain ⟨r, hr, hV⟩ : ∃ r, Instr.findNow .bool (.bool there) ((#[] : Array MapEntry).push ⟨.bool true, .int .u64 1, 0⟩).toList 0 = some r ∧ r.elim (.int .u64 0) (·.2) = .int .u64 (tn : Int) := by
      rw [← HTN.out]
      cases there
      ·exact ⟨none, by rfl, rfl⟩
      ·exact ⟨some (0, .int .u64 1), by rfl, rfl⟩
     have hg := map_get (P := Tryz.prog) (k := .bool there) Tryz.underlying81 Tryz.underlying4 trivial bM1 (z := .int .u64 0) (by kernel_rfl) hr
     rw [hV] at hg
     obtain ⟨A, hA⟩ : ∃ A, M1.alloc (.cells #[.int .u64 tn] 22) = A := ⟨_, rfl⟩
     have oA : Old M1 A := by rw [← hA]; exact (Keeps.refl _ _).alloc _
     have sA : SeesR A 1 natL (.slice (some ⟨M1.heap.size, 0, none⟩) 1 1) [tn] := by rw [← hA]; exact SeesR.new (k := 1) (enc := natL) M1 _ (0, 0) [tn] _ (by rfl) (fun _ => rfl) (by unfold maxLen; simp)
     have hzM := oM1.size
     have C := Lib.hid (msg_num1_any w.heap.size w2.heap.size lk _ [tn] A (HX.out.1.old (oM1.trans oA)) sA (fun _ k hk => by simp [Value.ownBlock] at hk; omega) (by simp; omega) (by simp; omega))
     have HA := Lib.hid (oM1.trans oA)
     clear oA sA hV hr oM1 kM1 bM1 r1 bM0 oM0 g
     try simp only [Act.put, List.setIfInBounds_toArray, List.set_cons_zero, List.set_cons_succ]
     go_wp2_with fail
     refine C.out.mono ?_
     rintro e w5 ⟨rfl, hw5, k5⟩
     have R := Lib.hid (FIN.out w5 (by rw [HPF.out]; simpa using hw5) ((HA.out.weaken (fun _ _ f => f.elim)).trans k5))
     clear hw5 k5
     go_wp2_with fail
     go_roundw
     case rel => exact ⟨i + 1, by omega, by go_num, R.out.1, R.out.2⟩
     case measure => simp [intOf]; omega
   ·as_aux_lemma =>
     by_cases hcond : pm.kind = 1 ∧ pm.there = false
     ·have hPF : partForm pm 3 = [] := by unfold partForm; simp only [if_false, if_true, show ¬ ((3 : Int) = 0) by decide, show ¬ ((3 : Int) = 1) by decide, show ¬ ((3 : Int) = 2) by decide, if_pos hcond]
      rw [E0.out.1, E0.out.2.2.2.1] at hcond
      obtain ⟨hk1, rfl⟩ := hcond
      obtain rfl : kn = 1 := by omega
      have R := Lib.hid (FIN.out wr (by rw [hPF]; simpa using HX.out.1) (Keeps.refl _ _))
      clear hPF hk1
      go_wp2_with fail
      go_roundw
      case rel => exact ⟨i + 1, by omega, by go_num, R.out.1, R.out.2⟩
      case measure => simp [intOf]; omega
     ·have hcd : ((kn : Int) != 1) = true ∨ (((kn : Int) != 1) = false ∧ there = true) := by
       by_cases h1 : kn = 1
       ·right
        refine ⟨by rw [bne_eq_false_iff_eq]; omega, ?_⟩
        cases there with
        | true => rfl
        | false => exact absurd ⟨by rw [E0.out.1]; omega, by rw [E0.out.2.2.2.1]⟩ hcond
       ·left; rw [bne_iff_ne]; omega
      have HCD := Lib.hid hcond
      clear hcond
      rcases hcd with t1 | ⟨t1, rfl⟩
      ·have hcond := HCD.out
       skip
       have hok := right3' HX.out.2.1 hcond
       have hPF : partForm pm 3 = tform (predForm pm.ps) := by unfold partForm; simp only [if_false, if_true, show ¬ ((3 : Int) = 0) by decide, show ¬ ((3 : Int) = 1) by decide, show ¬ ((3 : Int) = 2) by decide, if_neg hcond]
       have CP := HC.out.2.1 wr HX.out.2.2.1
       rw [← E0.out.2.2.2.2.1, hok] at CP
       have hle : (predForm pm.ps).length ≤ 4000 := by rw [E0.out.2.2.2.2.1]; have := HL.out.2.1 (by rw [← E0.out.2.2.2.2.1]; exact hok); omega
       have CQ := Lib.hid CP
       have HPF := Lib.hid hPF
       clear CP hPF hok hcond
       go_wp2_with fail
       refine CQ.out.mono ?_
       rintro e w5 ⟨p5, c5, z5, L5, rfl, k5, o5, e5, f5⟩
       simp only [if_true] at e5 f5
       subst e5 f5
       have C := Lib.hid (msg_form2_any w.heap.size w2.heap.size lk _ (predForm pm.ps) 0 w5 (HX.out.1.old k5) o5.sees (by omega) (by omega))
       have K5 := Lib.hid k5
       clear k5 o5 CQ g
       go_wp2_with fail
       refine C.out.mono ?_
       rintro e w6 ⟨rfl, hw6, k6⟩
       have R := Lib.hid (FIN.out w6 (by rw [HPF.out]; exact hw6) ((K5.out.weaken (fun _ _ f => f.elim)).trans k6))
       clear hw6 k6
       go_wp2_with fail
       go_roundw
       case rel => exact ⟨i + 1, by omega, by go_num, R.out.1, R.out.2⟩
       case measure => simp [intOf]; omega
      ·have hcond := HCD.out
       skip
       have hok := right3' HX.out.2.1 hcond
       have hPF : partForm pm 3 = tform (predForm pm.ps) := by unfold partForm; simp only [if_false, if_true, show ¬ ((3 : Int) = 0) by decide, show ¬ ((3 : Int) = 1) by decide, show ¬ ((3 : Int) = 2) by decide, if_neg hcond]
       have CP := HC.out.2.1 wr HX.out.2.2.1
       rw [← E0.out.2.2.2.2.1, hok] at CP
       have hle : (predForm pm.ps).length ≤ 4000 := by rw [E0.out.2.2.2.2.1]; have := HL.out.2.1 (by rw [← E0.out.2.2.2.2.1]; exact hok); omega
       have CQ := Lib.hid CP
       have HPF := Lib.hid hPF
       clear CP hPF hok hcond
       go_wp2_with fail
       refine CQ.out.mono ?_
       rintro e w5 ⟨p5, c5, z5, L5, rfl, k5, o5, e5, f5⟩
       simp only [if_true] at e5 f5
       subst e5 f5
       have C := Lib.hid (msg_form2_any w.heap.size w2.heap.size lk _ (predForm pm.ps) 0 w5 (HX.out.1.old k5) o5.sees (by omega) (by omega))
       have K5 := Lib.hid k5
       clear k5 o5 CQ g
       go_wp2_with fail
       refine C.out.mono ?_
       rintro e w6 ⟨rfl, hw6, k6⟩
       have R := Lib.hid (FIN.out w6 (by rw [HPF.out]; exact hw6) ((K5.out.weaken (fun _ _ f => f.elim)).trans k6))
       clear hw6 k6
       go_wp2_with fail
       go_roundw
       case rel => exact ⟨i + 1, by omega, by go_num, R.out.1, R.out.2⟩
       case measure => simp [intOf]; omega
   ·as_aux_lemma =>
     have l29 := load_sub (W := wr) (b := w.heap.size) (o := 5) (cs := #[.int .u64 n, .int .u64 tm, .string key, .slice p2 es.length c2]) (ty := 29) (by
      intro j v hv
      rcases j with _ | _ | _ | _ | _ | j <;> simp at hv
      all_goals (subst hv; first | exact g.2.2.2.2.2.1 | exact g.2.2.2.2.2.2.1 | exact g.2.2.2.2.2.2.2.1 | exact g.2.2.2.2.2.2.2.2.1 | exact g.2.2.2.2.2.2.2.2.2.2.2.2.2.1 | exact g.2.2.2.2.2.2.2.2.2.2.2.2.2.2.1 | exact g.2.2.2.2.2.2.2.2.2.2.2.2.2.2.2.1 | exact g.2.2.2.2.2.2.2.2.2.2.2.2.2.2.2.2.1 | exact g.2.2.2.2.2.2.2.2.2.2.2.2.2.2.2.2.2)) Tryz.underlying29 rfl (by kernel_rfl)
     have hok := right4' HX.out.2.1
     have hPF : partForm pm 4 = tform (itForm pm.it) := by unfold partForm; simp only [if_false, if_true, show ¬ ((4 : Int) = 0) by decide, show ¬ ((4 : Int) = 1) by decide, show ¬ ((4 : Int) = 2) by decide, show ¬ ((4 : Int) = 3) by decide]
     have CP := HC.out.2.2.1 wr HX.out.2.2.1
     rw [← E0.out.2.2.2.2.2.1, hok] at CP
     have hle : (itForm pm.it).length ≤ 4000 := by rw [E0.out.2.2.2.2.2.1]; have := HL.out.2.2.2 (by rw [← E0.out.2.2.2.2.2.1]; exact hok); omega
     have CQ := Lib.hid CP
     have HPF := Lib.hid hPF
     clear CP hPF hok
     go_wp2_with fail
     refine CQ.out.mono ?_
     rintro e w5 ⟨p5, c5, z5, L5, rfl, k5, o5, e5, f5⟩
     simp only [if_true] at e5 f5
     subst e5 f5
     have C := Lib.hid (msg_form2_any w.heap.size w2.heap.size lk _ (itForm pm.it) 0 w5 (HX.out.1.old k5) o5.sees (by omega) (by omega))
     have K5 := Lib.hid k5
     clear k5 o5 CQ g
     go_wp2_with fail
     refine C.out.mono ?_
     rintro e w6 ⟨rfl, hw6, k6⟩
     have R := Lib.hid (FIN.out w6 (by rw [HPF.out]; exact hw6) ((K5.out.weaken (fun _ _ f => f.elim)).trans k6))
     clear hw6 k6
     go_wp2_with fail
     go_roundw
     case rel => exact ⟨i + 1, by omega, by go_num, R.out.1, R.out.2⟩
     case measure => simp [intOf]; omega
   ·as_aux_lemma =>
     have hr := (right5' HX.out.2.1).1
     rw [E0.out.2.2.2.2.2.2.1] at hr
     obtain ⟨xn, rfl⟩ : ∃ n : Nat, tb = n := ⟨tb.toNat, by omega⟩
     have hcv : IntKind.u64.wrap (xn : Int) = xn := by rw [IntKind.wrap_u64]; omega
     have hPF : partForm pm 5 = form xn ++ form tl ++ form tc := by unfold partForm; simp only [if_false, if_true, E0.out.2.2.2.1, E0.out.2.2.1, E0.out.2.2.2.2.2.2.1, E0.out.2.2.2.2.2.2.2.1, E0.out.2.2.2.2.2.2.2.2.1, E0.out.2.2.2.2.2.2.2.2.2.1, show ¬ ((5 : Int) = 0) by decide, show ¬ ((5 : Int) = 1) by decide, show ¬ ((5 : Int) = 2) by decide, show ¬ ((5 : Int) = 3) by decide, show ¬ ((5 : Int) = 4) by decide]; try simp
     obtain ⟨A, hA⟩ : ∃ A, wr.alloc (.cells #[.int .u64 xn, .int .u64 tl, .int .u64 tc] 22) = A := ⟨_, rfl⟩
     have oA : Old wr A := by rw [← hA]; exact (Keeps.refl _ _).alloc _
     have sA : SeesR A 1 natL (.slice (some ⟨wr.heap.size, 0, none⟩) 3 3) [xn, tl, tc] := by rw [← hA]; exact SeesR.new (k := 1) (enc := natL) wr _ (0, 0) [xn, tl, tc] _ (by rfl) (fun _ => rfl) (by unfold maxLen; simp)
     have C := Lib.hid (msg_num1_any w.heap.size w2.heap.size lk _ [xn, tl, tc] A (HX.out.1.old oA) sA (fun _ k hk => by simp [Value.ownBlock] at hk; omega) (by simp; omega) (by simp; omega))
     have HA := Lib.hid oA
     clear oA sA
     go_wp2_with fail
     refine C.out.mono ?_
     rintro e w5 ⟨rfl, hw5, k5⟩
     have R := Lib.hid (FIN.out w5 (by rw [hPF]; simpa [List.append_assoc] using hw5) ((HA.out.weaken (fun _ _ f => f.elim)).trans k5))
     clear hw5 k5
     go_wp2_with fail
     go_roundw
     case rel => exact ⟨i + 1, by omega, by go_num, R.out.1, R.out.2⟩
     case measure => simp [intOf]; omega
   ·as_aux_lemma =>
     skip
     have hPF : partForm pm 6 = form frm := by unfold partForm; simp only [if_false, if_true, E0.out.2.2.2.1, E0.out.2.2.1, E0.out.2.2.2.2.2.2.1, E0.out.2.2.2.2.2.2.2.1, E0.out.2.2.2.2.2.2.2.2.1, E0.out.2.2.2.2.2.2.2.2.2.1, show ¬ ((6 : Int) = 0) by decide, show ¬ ((6 : Int) = 1) by decide, show ¬ ((6 : Int) = 2) by decide, show ¬ ((6 : Int) = 3) by decide, show ¬ ((6 : Int) = 4) by decide, show ¬ ((6 : Int) = 5) by decide]; try simp
     obtain ⟨A, hA⟩ : ∃ A, wr.alloc (.cells #[.int .u64 frm] 22) = A := ⟨_, rfl⟩
     have oA : Old wr A := by rw [← hA]; exact (Keeps.refl _ _).alloc _
     have sA : SeesR A 1 natL (.slice (some ⟨wr.heap.size, 0, none⟩) 1 1) [frm] := by rw [← hA]; exact SeesR.new (k := 1) (enc := natL) wr _ (0, 0) [frm] _ (by rfl) (fun _ => rfl) (by unfold maxLen; simp)
     have C := Lib.hid (msg_num1_any w.heap.size w2.heap.size lk _ [frm] A (HX.out.1.old oA) sA (fun _ k hk => by simp [Value.ownBlock] at hk; omega) (by simp; omega) (by simp; omega))
     have HA := Lib.hid oA
     clear oA sA
     go_wp2_with fail
     refine C.out.mono ?_
     rintro e w5 ⟨rfl, hw5, k5⟩
     have R := Lib.hid (FIN.out w5 (by rw [hPF]; simpa [List.append_assoc] using hw5) ((HA.out.weaken (fun _ _ f => f.elim)).trans k5))
     clear hw5 k5
     go_wp2_with fail
     go_roundw
     case rel => exact ⟨i + 1, by omega, by go_num, R.out.1, R.out.2⟩
     case measure => simp [intOf]; omega
   ·as_aux_lemma =>
     have l35 := load_sub (W := wr) (b := w.heap.size) (o := 13) (cs := #[.int .u64 fr, .int .u64 en, .slice p3 its.length c3, .slice p4 gs.length c4, .bool last]) (ty := 35) (by
      intro j v hv
      rcases j with _ | _ | _ | _ | _ | j <;> simp at hv
      all_goals (subst hv; first | exact g.2.2.2.2.2.1 | exact g.2.2.2.2.2.2.1 | exact g.2.2.2.2.2.2.2.1 | exact g.2.2.2.2.2.2.2.2.1 | exact g.2.2.2.2.2.2.2.2.2.2.2.2.2.1 | exact g.2.2.2.2.2.2.2.2.2.2.2.2.2.2.1 | exact g.2.2.2.2.2.2.2.2.2.2.2.2.2.2.2.1 | exact g.2.2.2.2.2.2.2.2.2.2.2.2.2.2.2.2.1 | exact g.2.2.2.2.2.2.2.2.2.2.2.2.2.2.2.2.2)) Tryz.underlying35 rfl (by kernel_rfl)
     have hok := right7' HX.out.2.1
     have hPF : partForm pm 7 = tform (pageForm pm.pg) := by unfold partForm; simp only [if_false, show ¬ ((7 : Int) = 0) by decide, show ¬ ((7 : Int) = 1) by decide, show ¬ ((7 : Int) = 2) by decide, show ¬ ((7 : Int) = 3) by decide, show ¬ ((7 : Int) = 4) by decide, show ¬ ((7 : Int) = 5) by decide, show ¬ ((7 : Int) = 6) by decide]
     have CP := HC.out.2.2.2 wr HX.out.2.2.1
     rw [← E0.out.2.2.2.2.2.2.2.2.2.2, hok] at CP
     have hle : (pageForm pm.pg).length ≤ 4000 := by rw [E0.out.2.2.2.2.2.2.2.2.2.2]; have := HL.out.2.2.1 (by rw [← E0.out.2.2.2.2.2.2.2.2.2.2]; exact hok); omega
     have CQ := Lib.hid CP
     have HPF := Lib.hid hPF
     clear CP hPF hok
     go_wp2_with fail
     refine CQ.out.mono ?_
     rintro e w5 ⟨p5, c5, z5, L5, rfl, k5, o5, e5, f5⟩
     simp only [if_true] at e5 f5
     subst e5 f5
     have C := Lib.hid (msg_form2_any w.heap.size w2.heap.size lk _ (pageForm pm.pg) 0 w5 (HX.out.1.old k5) o5.sees (by omega) (by omega))
     have K5 := Lib.hid k5
     clear k5 o5 CQ g
     go_wp2_with fail
     refine C.out.mono ?_
     rintro e w6 ⟨rfl, hw6, k6⟩
     have R := Lib.hid (FIN.out w6 (by rw [HPF.out]; exact hw6) ((K5.out.weaken (fun _ _ f => f.elim)).trans k6))
     clear hw6 k6
     go_wp2_with fail
     go_roundw
     case rel => exact ⟨i + 1, by omega, by go_num, R.out.1, R.out.2⟩
     case measure => simp [intOf]; omega
  ·obtain ⟨v, h1, h2, h3, h4⟩ := hw
   obtain ⟨pv, nv, cv, rfl⟩ : ∃ p n c, v = .slice p n c := by obtain ⟨_, _, e, _, _⟩ := h2.sees.len; exact ⟨_, _, _, e⟩
   have q1 : wr.cell? ⟨w2.heap.size, 0, none⟩ = some (.slice pv nv cv) := by simp [World.cell?, h1]
   rw [List.take_of_length_le (by omega)] at h2
   have R := Lib.hid (And.intro h2 (P.out.2.2.2.then hk (fun i hi e => by omega) : Old w wr))
   clear h1 h2 h3 h4 hk
   go_wp2_with fail
   go_ret2
   exact PutV.yes ⟨_, _, _, rfl, by have h := R.out.1; unfold mForm; rw [E0.out.1, HLL.out.1]; simpa using h, R.out.2⟩
end
end Go.Proofs.YtpjpimahnnekkaaGreat
