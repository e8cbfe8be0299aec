/- DERIVED. Chapter 25: the walk of PagesLives. (gen_ql.py wrote it) -/
import Derived.Test.YtiednihagnehlaaY24
import Derived.Test.YtiednihagnehlaaZPagesOrder01
import Derived.Test.YtiednihagnehlaaY25
import Derived.Deep.DeepCutAuto
import Derived.Deep.LoopGhost
import Derived.IntWalk
namespace Go.Proofs.Ytiednihagnehlaa
open Go.RowKit Go.Great

theorem lenP_q {R S : Nat → Prop} {w : World} {qb most : Nat} {P : List (Int × PMs)} (h : QuP R S w qb most P) (hm : 1 ≤ most) : Calls Try.prog 13 #[.pointer (some ⟨qb, 0, none⟩)] w fun e w' => e = .returned (.int .i64 (P.length : Int)) ∧ w = w' := by
 obtain ⟨L, hL, hq⟩ := h
 have hl := congrArg List.length hL
 rw [List.length_map] at hl
 rw [← hl]
 exact len_q hq hm
theorem Try.infoTok : (Try.prog.info? 37).map (fun i => (i.zero, i.size, i.bytes)) = some (some (.agg #[.int .i64 0, .int .u64 0, .int .u64 0]), 3, 24) := by kernel_rfl
def tokP (x : Int × PMs) : List Value := [.int .i64 x.2.tb, .int .u64 (x.2.tl : Int), .int .u64 (x.2.tc : Int)]
attribute [-go_sem] loadVar storeVar
theorem run_load_cell {W : World} {a : Addr} {v : Value} (hc : W.cell? a = some v) : (load a).run Try.prog W = .ok v W := by
 show Sem.run Try.prog (.load .plain a .pure) W = _
 unfold Sem.run
 simp only [hc]
 rfl
theorem run_load_any {W : World} {ty : TypeId} {a : Addr} {v : Value} (h : (loadVar ty a).run Try.prog W = .ok v W) {ρ : Operand → Value} {o : Oper} {x : Operand} (ho : o.op = .load ty x) (hx : ρ x = .pointer (some a)) : (execOp ρ o).run Try.prog W = .ok (.value v) W := by
 unfold execOp
 rw [ho]
 simp [hx, go_sem, h]
theorem run_store_any {W W' : World} {ty : TypeId} {a : Addr} {v : Value} (h : (storeVar ty a v).run Try.prog W = .ok () W') {ρ : Operand → Value} {o : Oper} {x y : Operand} (ho : o.op = .store ty x y) (hx : ρ x = .pointer (some a)) (hy : ρ y = v) : (execOp ρ o).run Try.prog W = .ok .skip W' := by
 unfold execOp
 rw [ho]
 simp [hx, hy, go_sem, h]
theorem load_plain {ty : TypeId} (hq : ∀ a W, (loadVar ty a).run Try.prog W = (load a).run Try.prog W) {W : World} {a : Addr} {v : Value} (hc : W.cell? a = some v) : (loadVar ty a).run Try.prog W = .ok v W := by rw [hq]; exact run_load_cell hc

set_option maxRecDepth 100000 in
set_option maxHeartbeats 8000000 in
theorem lives_any (br : Nat) (vl vt : Value) (ts : List Tk) (tb : List Bool) (w : World) (hbr : br < 256) (hl : SeesR w 3 tokL vl ts) (hr : ∀ t ∈ ts, I64 t.b ∧ U64 t.l ∧ U64 t.c) (ht : SeesR w 1 boolL vt tb) :
  Calls Try.prog 3 #[.int .u8 (br : Int), vl, vt] w fun e w' => e = .returned (.bool true) ∧ Old w w' := by
 have q1 : ∀ a W, (loadVar 3 a).run Try.prog W = (load a).run Try.prog W := fun _ _ => by kernel_rfl
 have q2 : ∀ a W, (loadVar 28 a).run Try.prog W = (load a).run Try.prog W := fun _ _ => by kernel_rfl
 have q3 : ∀ a W, (loadVar 4 a).run Try.prog W = (load a).run Try.prog W := fun _ _ => by kernel_rfl
 obtain ⟨pl, cl, rfl, hle, hmx⟩ := hl.len
 obtain ⟨pt, ct, rfl, hle2, hmx2⟩ := ht.len
 have hlm : ts.length ≤ 9223372036854775807 := by unfold maxLen at hmx; omega
 have htm : tb.length ≤ 9223372036854775807 := by unfold maxLen at hmx2; omega
 have HL := Lib.hid hl
 have HT := Lib.hid ht
 have HR := Lib.hid hr
 have C0 := Lib.hid (new_yes 100 w ⟨by decide, by decide⟩)
 obtain ⟨b4, hb4⟩ : ∃ b4 : Nat, br % 4 = b4 := ⟨_, rfl⟩
 have hb4' : b4 < 4 := by omega
 clear hl ht hr hle hmx hle2 hmx2
 go_enter Try.func3, Try.ntmps3
 go_wp2_with fail
 refine C0.out.mono ?_
 rintro e w1 ⟨qb, rfl, rfl, k1, hq1⟩
 have Q1 := Lib.hid (show QN w w1 w.heap.size 100 [] from ⟨_, _, ⟨[], rfl, hq1 (fun _ => False) (fun _ f => f.elim)⟩, fun k hk => by subst hk; exact Nat.le_refl _, k1⟩)
 clear k1 hq1 C0
 go_wp2_with fail
 go_loopw [9, 10] (fun v9 v10 wr => ∃ (g i : Nat) (P : List (Int × PMs)), v9 = .int .u64 g ∧ v10 = .int .i64 i ∧ i ≤ ts.length ∧ P.length ≤ i ∧ i ≤ 60 ∧ Lv (b4 : Int) g P ∧ QN w wr w.heap.size 100 P) (fun _ v10 _ => 60 - (intOf v10).toNat)
 case atStart => exact ⟨0, 0, [], rfl, rfl, by omega, by simp, by omega, Lv.nil _ _, Q1.out⟩
 case round =>
  obtain ⟨g, i, P, rfl, rfl, hi, hPi, hi60, hlv, hQ⟩ := hrel
  have R := Lib.hid (And.intro hPi (And.intro hlv hQ))
  clear hPi hlv hQ
  by_cases hlt : i < ts.length
  case neg =>
   go_wp2_with fail
   refine (pwakes_any _).mono ?_
   rintro e wz ⟨rfl, kz⟩
   have F := Lib.hid ((R.out.2.2.old kz).to)
   clear kz
   go_wp2_with fail
   go_ret
   exact ⟨rfl, F.out⟩
  by_cases h60 : i < 60
  case neg =>
   go_wp2_with fail
   refine (pwakes_any _).mono ?_
   rintro e wz ⟨rfl, kz⟩
   have F := Lib.hid ((R.out.2.2.old kz).to)
   clear kz
   go_wp2_with fail
   go_ret
   exact ⟨rfl, F.out⟩
  have hx : ts[i]? = some ts[i] := List.getElem?_eq_getElem hlt
  generalize ts[i] = t at hx
  obtain ⟨lb, lo, lc, e, _, _, hcell⟩ := HL.out.at (by omega)
  simp only [Value.slice.injEq] at e
  obtain ⟨rfl, -, rfl⟩ := e
  have hrt := HR.out t (List.mem_of_getElem? hx)
  have hco : ∀ W, Old wr W → W.cell? ⟨lb, lo + i * 3 + 1, none⟩ = some (.int .u64 (t.l : Int)) ∧ W.cell? ⟨lb, lo + i * 3 + 2, none⟩ = some (.int .u64 (t.c : Int)) := fun W k =>
   ⟨(R.out.2.2.to.trans k).cell (hcell i t hx 1 _ rfl) (fun f => f), (R.out.2.2.to.trans k).cell (hcell i t hx 2 _ rfl) (fun f => f)⟩
  have CO := Lib.hid hco
  have CA := Lib.hid (fun W (_ : Old wr W) => ask_any (b4 : Int) t.l t.c W (by unfold I64; omega) hrt.2.1 hrt.2.2)
  have hmod : (br : Int) % 4 = (b4 : Int) := by omega
  have hmod2 : Int.tmod (br : Int) 4 = (b4 : Int) := by rw [Int.tmod_eq_emod_of_nonneg (by omega)]; exact hmod
  have hw64 : IntKind.i64.wrap (b4 : Int) = (b4 : Int) := IntWalk.i64_in _ (by omega)
  have X := Lib.hid (And.intro hrt hx)
  clear hx hrt hco hcell
  go_upto_region 8 with fail
  refine wp_region_r (n := 15) (S := fun W => Old wr W) (R := fun a b => Old a b) (B := fun b W => Old wr W ∧ W.heap[b]? = some (.cells #[.int .i64 0, .int .i64 0, .int .u64 0, .bool false, .slice none 0 0, .int .u64 0, .int .u64 0, .string ⟨#[]⟩, .slice none 0 0, .int .i64 0, .int .u64 0, .int .u64 0, .int .u64 0, .int .u64 0, .int .u64 0, .slice none 0 0, .slice none 0 0, .bool false] 43 (0, 0)) ∧ wr.heap.size ≤ b) (Q := fun a => ∀ b w, (Old wr w ∧ w.heap[b]? = some (.cells #[.int .i64 0, .int .i64 0, .int .u64 0, .bool false, .slice none 0 0, .int .u64 0, .int .u64 0, .string ⟨#[]⟩, .slice none 0 0, .int .i64 0, .int .u64 0, .int .u64 0, .int .u64 0, .int .u64 0, .int .u64 0, .slice none 0 0, .slice none 0 0, .bool false] 43 (0, 0)) ∧ wr.heap.size ≤ b) → wpOp Try.prog _ _ 15 _ (a.put (some 11) (.pointer (some ⟨b, 0, none⟩))) w) 14 15 (by kernel_rfl) (by kernel_rfl) rfl rfl (by kernel_rfl) (by kernel_rfl) (by kernel_rfl) (by kernel_rfl) (by kernel_rfl) (fun b w hB => hB.1) (fun b w w' hB hr => ⟨hB.1.trans hr, (hr.block _ (lt_of_heap hB.2.1) (fun f => f)).trans hB.2.1, hB.2.2⟩) (fun w w' hS hr => hS.trans hr) (fun w => Keeps.refl _ w) (fun a w K hS hK => wpOp_value rfl rfl (v := .pointer (some ⟨w.heap.size, 0, none⟩)) (w' := w.alloc (.cells #[.int .i64 0, .int .i64 0, .int .u64 0, .bool false, .slice none 0 0, .int .u64 0, .int .u64 0, .string ⟨#[]⟩, .slice none 0 0, .int .i64 0, .int .u64 0, .int .u64 0, .int .u64 0, .int .u64 0, .int .u64 0, .slice none 0 0, .slice none 0 0, .bool false] 43)) (by kernel_rfl) (hK _ _ ⟨hS.alloc _, heap_alloc_new _ _, hS.size⟩)) (fun a b w hB hQ => hQ b w hB) (Keeps.refl _ _).drew ?_
  intro hNS hSW
  refine wpAnyR_take (i := 0) (oi := _) (v := .int .u8 (br : Int)) rfl hNS hSW rfl (by kernel_rfl) (by kernel_rfl) (YR.value (by kernel_rfl) (fun w _ => by kernel_rfl)) ?_
  refine wpAnyR_take (i := 1) (oi := _) (v := .int .u8 (b4 : Int)) rfl hNS hSW rfl (by kernel_rfl) (by kernel_rfl) (YR.value (by kernel_rfl) (fun w _ => by simp [execOp, go_sem, hmod2])) ?_
  refine wpAnyR_take (i := 2) (oi := _) (v := .int .i64 (b4 : Int)) rfl hNS hSW rfl (by kernel_rfl) (by kernel_rfl) (YR.value (by kernel_rfl) (fun w _ => by simp [execOp, go_sem, hw64])) ?_
  refine wpAnyR_take (i := 3) (oi := _) (v := .slice (some ⟨lb, lo, none⟩) ts.length cl) rfl hNS hSW rfl (by kernel_rfl) (by kernel_rfl) (YR.value (by kernel_rfl) (fun w _ => by kernel_rfl)) ?_
  refine wpAnyR_take (i := 4) (oi := _) (v := .int .i64 (i : Int)) rfl hNS hSW rfl (by kernel_rfl) (by kernel_rfl) (YR.value (by kernel_rfl) (fun w _ => by kernel_rfl)) ?_
  refine wpAnyR_take (i := 5) (oi := _) (v := .pointer (some ⟨lb, lo + i * 3, none⟩)) rfl hNS hSW rfl (by kernel_rfl) (by kernel_rfl) (YR.value (by kernel_rfl) (fun w _ => by simp [execOp, go_sem, hlt])) ?_
  refine wpAnyR_take (i := 6) (oi := _) (v := .pointer (some ⟨lb, lo + i * 3 + 1, none⟩)) rfl hNS hSW rfl (by kernel_rfl) (by kernel_rfl) (YR.value (by kernel_rfl) (fun w _ => by simp [execOp, go_sem])) ?_
  refine wpAnyR_take (i := 7) (oi := _) (v := .int .u64 (t.l : Int)) rfl hNS hSW rfl (by kernel_rfl) (by kernel_rfl) (YR.value (by kernel_rfl) (fun w hS => run_load_any (x := .tmp 41) (load_plain q2 (CO.out w hS).1) rfl (by kernel_rfl))) ?_
  refine wpAnyR_take (i := 8) (oi := _) (v := .slice (some ⟨lb, lo, none⟩) ts.length cl) rfl hNS hSW rfl (by kernel_rfl) (by kernel_rfl) (YR.value (by kernel_rfl) (fun w _ => by kernel_rfl)) ?_
  refine wpAnyR_take (i := 9) (oi := _) (v := .int .i64 (i : Int)) rfl hNS hSW rfl (by kernel_rfl) (by kernel_rfl) (YR.value (by kernel_rfl) (fun w _ => by kernel_rfl)) ?_
  refine wpAnyR_take (i := 10) (oi := _) (v := .pointer (some ⟨lb, lo + i * 3, none⟩)) rfl hNS hSW rfl (by kernel_rfl) (by kernel_rfl) (YR.value (by kernel_rfl) (fun w _ => by simp [execOp, go_sem, hlt])) ?_
  refine wpAnyR_take (i := 11) (oi := _) (v := .pointer (some ⟨lb, lo + i * 3 + 2, none⟩)) rfl hNS hSW rfl (by kernel_rfl) (by kernel_rfl) (YR.value (by kernel_rfl) (fun w _ => by simp [execOp, go_sem])) ?_
  refine wpAnyR_take (i := 12) (oi := _) (v := .int .u64 (t.c : Int)) rfl hNS hSW rfl (by kernel_rfl) (by kernel_rfl) (YR.value (by kernel_rfl) (fun w hS => run_load_any (x := .tmp 46) (load_plain q2 (CO.out w hS).2) rfl (by kernel_rfl))) ?_
  refine wpAnyR_take (i := 13) (oi := _) (v := .agg (askMs (b4 : Int) t.l t.c).cells.toArray) rfl hNS hSW rfl (by kernel_rfl) (by kernel_rfl) (YR.call (by kernel_rfl) (fun w _ => by kernel_rfl) (fun w hS => CA.out w hS)) ?_
  refine wpAnyR_stop (by kernel_rfl) ?_
  intro mb w5 hB
  obtain ⟨W6, hst6, b6, k6⟩ := store_msg (show MAt w5 mb zeroMs from hB.2.1) (askMs (b4 : Int) t.l t.c) (ask_bare (b4 : Int) t.l t.c (by unfold I64; omega) X.out.1.2.1 X.out.1.2.2 (fun _ => False) w5).fine.one
  refine wpOp_skip rfl (by kernel_rfl) (run_store_any (x := .tmp 11) (y := .tmp 48) hst6 rfl (by kernel_rfl) (by kernel_rfl)) ?_
  clear hNS hSW hw64 hmod hmod2
  try simp only [Act.put, List.setIfInBounds_toArray, List.set_cons_zero, List.set_cons_succ]
  have o6 : Old wr W6 := hB.1.then k6 (fun j hj e => by have := hB.2.2; omega)
  obtain ⟨Rq, Sq, hq, hR, ho⟩ := R.out.2.2
  have hlR : ∀ k, Rq k → k < wr.heap.size := fun k hk => hq.facts.2.2 k (hq.facts.2.1 k hk)
  have lm6 := load_msg b6 (by simp [Ms.cells])
  have A := Lib.hid (add_ask (i : Int) (b4 : Int) t.l t.c (by unfold I64; omega) X.out.1.2.1 X.out.1.2.2 (hq.old o6) (by decide) (by have := R.out.1; omega))
  have LV := Lib.hid (lv_add (k := (i : Int)) (l := t.l) (c := t.c) R.out.2.1 (by have := R.out.1; omega))
  have Y := Lib.hid (And.intro b6 (And.intro hR (And.intro (ho.trans o6) (And.intro hlR hB.2.2))))
  clear o6 hq hR ho hlR hst6 b6 k6 hB CA CO
  go_wp2_with fail
  refine A.out.mono ?_
  rintro e w7 ⟨R7, g1, g2, he, hq7, k7⟩
  obtain ⟨g', hlv, hres⟩ := LV.out
  obtain ⟨z, hz⟩ : ∃ z, (addP 100 P ((i : Int), pAsk (b4 : Int) t.l t.c)).1 = z := ⟨_, rfl⟩
  obtain ⟨P', hP'⟩ : ∃ P', (addP 100 P ((i : Int), pAsk (b4 : Int) t.l t.c)).2 = P' := ⟨_, rfl⟩
  rw [hz] at he hres
  rw [hP'] at hq7 hlv hres
  subst he
  have hnR : ¬ Rq mb := fun h => by have := Y.out.2.2.2.1 mb h; have := Y.out.2.2.2.2; omega
  have b7 := (k7.block _ (lt_of_heap Y.out.1) hnR).trans Y.out.1
  have lm7 := load_msg b7 (by simp [Ms.cells])
  have t7 : w7.cell? ⟨mb, 10, none⟩ = some (.int .u64 (t.l : Int)) := (tok_cells b7).2.1
  have hR7 : ∀ k, R7 k → w.heap.size ≤ k := fun k hk => by
   rcases g1 k hk with h | h
   ·exact Y.out.2.1 k h
   ·exact Nat.le_trans Y.out.2.2.1.size h
  have o7 : Old w w7 := Y.out.2.2.1.then k7 (fun j hj hr => by have := Y.out.2.1 j hr; omega)
  have HM := msg_may_any (askMs (b4 : Int) t.l t.c) w7 (ask_bare (b4 : Int) t.l t.c (by unfold I64; omega) X.out.1.2.1 X.out.1.2.2 (fun _ => False) w7).fine
  obtain ⟨mm, hmm⟩ : ∃ mm, mayM (pAsk (b4 : Int) t.l t.c) = mm := ⟨_, rfl⟩
  rw [show (askMs (b4 : Int) t.l t.c).plain = pAsk (b4 : Int) t.l t.c from rfl, hmm] at HM
  rw [hmm] at hres
  have HMM := Lib.hid HM
  have hlen' : P'.length ≤ i + 1 := by
   rcases hres with ⟨_, _, e, _⟩ | ⟨_, _, e, _⟩ | ⟨_, _, _, e⟩
   ·rw [e]; have := R.out.1; omega
   ·rw [e]; have := R.out.1; omega
   ·have := R.out.1; omega
  have Q7 := Lib.hid (And.intro hq7 (And.intro hR7 (And.intro o7 (And.intro hlv hlen'))))
  have RES := Lib.hid hres
  clear g1 g2 hq7 k7 hlv hres hz hP' hnR b7 hR7 o7 HM hmm hlen' A LV lm6
  obtain ⟨hz, hmm, hgg⟩ | ⟨hz, hmm, hgg⟩ | ⟨hz, hmm, hgg⟩ : (z = 30 ∧ mm = false ∧ g' = g) ∨ (z = 9 ∧ mm = true ∧ g' = g) ∨ (z = 0 ∧ mm = true ∧ g' = t.l) := by
   rcases RES.out with ⟨h1, h2, h3, h4⟩ | ⟨h1, h2, h3, h4⟩ | ⟨h1, h2, h3, h4⟩
   ·exact .inl ⟨h1, h2, h4⟩
   ·exact .inr (.inl ⟨h1, h2, h4⟩)
   ·exact .inr (.inr ⟨h1, h2, h3⟩)
  ·subst hz hmm
   clear RES
   have HG := Lib.hid hgg
   clear hgg
   go_wp2_with fail
   refine HMM.out.mono ?_
   rintro e w8 ⟨rfl, k8⟩
   have CC := Lib.hid (copy_q (Q7.out.1.old k8) (by decide) (by have := Q7.out.2.2.2.2; omega))
   have K8 := Lib.hid k8
   clear k8
   go_wp2_with fail
   refine CC.out.mono ?_
   rintro e w9 ⟨q2, R2, rfl, hR2, hq2, hq9, k9⟩
   have Q9 := Lib.hid (And.intro hR2 (And.intro hq2 (And.intro hq9 (And.intro k9 (K8.out.trans k9)))))
   clear hR2 hq2 hq9 k9 CC
   go_wp2_with fail
   rw [← HG.out]
   clear HG HMM lm7 t7
   obtain ⟨S9, hq2⟩ : ∃ S9, QuP R2 S9 w9 q2 100 P' := ⟨_, Q9.out.2.1⟩
   have hR9 : ∀ j, R2 j → j < w9.heap.size := fun j hj => hq2.facts.2.2 j (hq2.facts.2.1 j hj)
   have Q9' := Lib.hid (And.intro hq2 hR9)
   clear hq2 hR9
   go_loopg [14] P'.length (fun k v14 wm => ∃ (Pd Pr : List (Int × PMs)) (S3 : Nat → Prop), P' = Pd ++ Pr ∧ k = Pr.length ∧ OwnsR wm w9.heap.size 37 3 tokP v14 Pd ∧ QuP R2 S3 wm q2 100 Pr ∧ (∀ b, v14.ownBlock = some b → S3 b) ∧ w9.heap.size ≤ wm.heap.size ∧ Old w8 wm)
   case atStart => exact ⟨[], P', S9, rfl, rfl, OwnsR.nil _ _, Q9'.out.1, (fun b hb => by cases hb), Nat.le_refl _, Q9.out.2.2.2.1⟩
   case round =>
    obtain ⟨Pd, Pr, S3, hpp, hk, how, hq3, hs3, hz3, o3⟩ := hrel
    obtain ⟨p14, c14, e14, hle14, hmx14⟩ := (how.sees (fun _ => rfl) (by decide)).len
    subst e14
    have hd14 : Pd.length ≤ 9223372036854775807 := by unfold maxLen at hmx14; omega
    cases Pr with
    | nil =>
     have CL := Lib.hid (lenP_q hq3 (by decide))
     have O3 := Lib.hid (Q7.out.2.2.1.trans (K8.out.trans o3))
     have QX := Lib.hid (Q7.out.1.old (K8.out.trans o3))
     clear how hq3 hs3 hz3 o3 hle14 hmx14 hpp hk
     go_wp2_with fail
     refine CL.out.mono ?_
     rintro e w' ⟨rfl, rfl⟩
     by_cases hti : i < tb.length
     case neg =>
      go_wp2_with fail
      go_roundw
      case rel => exact ⟨g', i + 1, P', rfl, by go_num, by omega, Q7.out.2.2.2.2, by omega, Q7.out.2.2.2.1, _, _, QX.out, Q7.out.2.1, O3.out⟩
      case measure => simp [intOf]; omega
     obtain ⟨tbk, tbo, tbc, et, _, _, htc⟩ := HT.out.at (by omega)
     simp only [Value.slice.injEq] at et
     obtain ⟨rfl, -, rfl⟩ := et
     have htx : tb[i]? = some tb[i] := List.getElem?_eq_getElem hti
     generalize tb[i] = tz at htx
     have ctz : wr.cell? ⟨tbk, tbo + i, none⟩ = some (.bool tz) := by
      have := O3.out.cell (htc i tz htx 0 _ rfl) (fun f => f)
      simpa using this
     clear htc htx
     cases tz
     ·go_wp2_with fail
      go_roundw
      case rel => exact ⟨g', i + 1, P', rfl, by go_num, by omega, Q7.out.2.2.2.2, by omega, Q7.out.2.2.2.1, _, _, QX.out, Q7.out.2.1, O3.out⟩
      case measure => simp [intOf]; omega
     ·cases P' with
      | nil =>
       have NE := Lib.hid (next_empty QX.out (by decide))
       go_wp2_with fail
       refine NE.out.mono ?_
       rintro e wn ⟨rfl, kn⟩
       have Kn := Lib.hid kn
       clear kn
       go_wp2_with fail
       go_roundw
       case rel => exact ⟨g', i + 1, [], rfl, by go_num, by omega, by simp, by omega, Q7.out.2.2.2.1, _, _, QX.out.old Kn.out, Q7.out.2.1, O3.out.trans Kn.out⟩
       case measure => simp [intOf]; omega
      | cons y P2 =>
       have NE := Lib.hid (next_some QX.out (by decide))
       go_wp2_with fail
       refine NE.out.mono ?_
       rintro e wn ⟨m2, rfl, _, _, hqn, kn⟩
       have Kn := Lib.hid (And.intro hqn kn)
       clear kn hqn
       go_wp2_with fail
       go_roundw
       case rel => exact ⟨g', i + 1, P2, rfl, by go_num, by omega, by have := Q7.out.2.2.2.2; simp at this; omega, by omega, Q7.out.2.2.2.1.tail, _, _, Kn.out.1, Q7.out.2.1, O3.out.then Kn.out.2 (fun j hj hr => by have := Q7.out.2.1 j hr; omega)⟩
       case measure => simp [intOf]; omega
    | cons x Pr =>
     have hx' : x ∈ P' := by rw [hpp]; simp
     have hxb := Q7.out.2.2.2.1.1 x hx'
     have hpw : ∀ y ∈ Pd, y.2.tb = (b4 : Int) ∧ y.2.tl = g' ∧ ((y.2.tc : Int) == (x.2.tc : Int)) = false := by
      intro y hy
      have hyP : y ∈ P' := by rw [hpp]; simp [hy]
      have h1 := Q7.out.2.2.2.1.1 y hyP
      have h2 := Q7.out.2.2.2.1.2
      rw [hpp, List.pairwise_append] at h2
      have h3 := h2.2.2 y hy x (by simp)
      exact ⟨h1.1, h1.2, by simp; omega⟩
     have CL := Lib.hid (lenP_q hq3 (by decide))
     have CN := Lib.hid (next_some hq3 (by decide))
     have Z := Lib.hid (And.intro hpp (And.intro hk (And.intro how (And.intro o3 (And.intro hxb (And.intro hpw (And.intro hs3 hz3)))))))
     clear hpp hk how hq3 hs3 hz3 o3 hle14 hmx14 hx' hxb hpw
     go_wp2_with fail
     refine CL.out.mono ?_
     rintro e w' ⟨rfl, rfl⟩
     go_wp2_with fail
     refine CN.out.mono ?_
     rintro e w10 ⟨m2, rfl, hm2, hst2, hq10, k10⟩
     obtain ⟨Wa, hWa⟩ : ∃ W, w10.alloc (.cells zeroMs.cells.toArray 43) = W := ⟨_, rfl⟩
     have ba : MAt Wa w10.heap.size zeroMs := by rw [← hWa]; exact heap_alloc_new _ _
     have oa : Old w10 Wa := by rw [← hWa]; exact (Keeps.refl _ _).alloc _
     obtain ⟨W11, hst11, b11, kb11⟩ := store_msg ba m2 hst2.fine.one
     have o11 : Old w10 W11 := oa.then kb11 (fun j hj e => by omega)
     change w10.alloc (.cells #[.int .i64 0, .int .i64 0, .int .u64 0, .bool false, .slice none 0 0, .int .u64 0, .int .u64 0, .string ⟨#[]⟩, .slice none 0 0, .int .i64 0, .int .u64 0, .int .u64 0, .int .u64 0, .int .u64 0, .int .u64 0, .slice none 0 0, .slice none 0 0, .bool false] 43) = Wa at hWa
     have e1 : m2.tb = (b4 : Int) := (congrArg PMs.tb hm2).trans Z.out.2.2.2.2.1.1
     have e2 : m2.tl = g' := (congrArg PMs.tl hm2).trans Z.out.2.2.2.2.1.2
     have e3 : m2.tc = x.2.tc := congrArg PMs.tc hm2
     obtain ⟨c9, c10, c11⟩ := tok_cells b11
     rw [e1] at c9
     rw [e2] at c10
     rw [e3] at c11
     have hne : ((g' : Int) != (g' : Int)) = false := by simp
     have how11 := (Z.out.2.2.1.keeps k10 (fun b hb hr => by have := (Z.out.2.2.1.block b hb).1; have := Q9'.out.2 b hr; omega)).old o11
     have LX := Lib.hid (fun (W : World) (k : Old W11 W) => load_sub (W := W) (b := w10.heap.size) (o := 9) (cs := #[.int .i64 (b4 : Int), .int .u64 (g' : Int), .int .u64 (x.2.tc : Int)]) (ty := 37) (by
      intro j v hv
      rcases j with _ | _ | _ | j <;> simp at hv
      ·subst hv; exact k.cell c9 (fun f => f)
      ·subst hv; exact k.cell c10 (fun f => f)
      ·subst hv; exact k.cell c11 (fun f => f)) Try.underlying37 rfl (by kernel_rfl))
     have HOW := Lib.hid how11
     have V := Lib.hid (And.intro c9 (And.intro c10 (And.intro c11 (And.intro hq10 (And.intro k10 o11)))))
     clear hm2 hst2 hq10 k10 ba oa b11 kb11 o11 e1 e2 e3 c9 c11 how11
     go_wp2_with fail
     obtain ⟨wo, hwo⟩ : ∃ wo : World, wo = wr := ⟨_, rfl⟩
     go_loopw [18] (fun v18 wk => ∃ k : Nat, v18 = .int .i64 k ∧ k ≤ Pd.length ∧ Old W11 wk) (fun v18 _ => Pd.length - (intOf v18).toNat)
     case atStart => exact ⟨0, rfl, by omega, Keeps.refl _ _⟩
     case round =>
      obtain ⟨k, rfl, hkp, ok⟩ := hrel
      have OK := Lib.hid ok
      clear ok
      by_cases hklt : k < Pd.length
      ·have hy : Pd[k]? = some Pd[k] := List.getElem?_eq_getElem hklt
       generalize Pd[k] = y at hy
       obtain ⟨hy1, hy2, hy3⟩ := Z.out.2.2.2.2.2.1 y (List.mem_of_getElem? hy)
       obtain ⟨mk, mo, mc, em, _, _, hmc⟩ := (HOW.out.sees (fun _ => rfl) (by decide)).at (by omega)
       simp only [Value.slice.injEq] at em
       obtain ⟨rfl, -, rfl⟩ := em
       have LK := Lib.hid (fun (W : World) (kk : Old W11 W) => load_sub (W := W) (b := mk) (o := mo + k * 3) (cs := #[.int .i64 (b4 : Int), .int .u64 (g' : Int), .int .u64 (y.2.tc : Int)]) (ty := 37) (by
        intro j v hv
        have hj := fun u (hu : (tokP y)[j]? = some u) => kk.cell (hmc k y hy j u hu) (fun f => f)
        unfold tokP at hj
        rw [hy1, hy2] at hj
        exact hj v hv) Try.underlying37 rfl (by kernel_rfl))
       have et : ∀ W, (binOp .eql 37 (.agg #[.int .i64 (b4 : Int), .int .u64 (g' : Int), .int .u64 (y.2.tc : Int)]) (.agg #[.int .i64 (b4 : Int), .int .u64 (g' : Int), .int .u64 (x.2.tc : Int)])).run Try.prog W = .ok (.bool false) W := fun W => by rw [eql_tok, hy3]; simp
       clear hy hy1 hy2 hy3 hmc
       go_wp2_with fail
       refine wp_region_g (S := fun W => Old W11 W) (M := [0, 1, 2, 3, 4, 5, 6]) (by kernel_rfl) ?_
       have hSi : Old W11 wr.drew := OK.out.trans (Keeps.refl _ _).drew
       refine wpAnyG_takeL (i := 0) (oi := _) (v := ?vc0a) rfl (by kernel_rfl) (by kernel_rfl) (by kernel_rfl) (by kernel_rfl) (fun _ _ _ h => h) (Or.inl ⟨by rfl, ?yc0a⟩) hSi ?rc0a
       case yc0a => (intro W hSw; go_simp; try with_reducible rfl)
       try simp only [Act.put, List.setIfInBounds_toArray, List.set_cons_zero, List.set_cons_succ]
       refine wpAnyG_takeL (i := 1) (oi := _) (v := ?vc1a) rfl (by kernel_rfl) (by kernel_rfl) (by kernel_rfl) (by kernel_rfl) (fun _ _ _ h => h) (Or.inl ⟨by rfl, ?yc1a⟩) hSi ?rc1a
       case yc1a => (intro W hSw; go_simp; try with_reducible rfl)
       try simp only [Act.put, List.setIfInBounds_toArray, List.set_cons_zero, List.set_cons_succ]
       refine wpAnyG_takeL (i := 2) (oi := _) (v := ?vc2a) rfl (by kernel_rfl) (by kernel_rfl) (by kernel_rfl) (by kernel_rfl) (fun _ _ _ h => h) (Or.inl ⟨by rfl, ?yc2a⟩) hSi ?rc2a
       case yc2a => (intro W hSw; go_simp; try with_reducible rfl)
       try simp only [Act.put, List.setIfInBounds_toArray, List.set_cons_zero, List.set_cons_succ]
       refine wpAnyG_takeL (i := 3) (oi := _) (v := ?vc3a) rfl (by kernel_rfl) (by kernel_rfl) (by kernel_rfl) (by kernel_rfl) (fun _ _ _ h => h) (Or.inl ⟨by rfl, ?yc3a⟩) hSi ?rc3a
       case yc3a => (intro W hSw; have y1 := LK.out W hSw; go_simp; try with_reducible rfl)
       try simp only [Act.put, List.setIfInBounds_toArray, List.set_cons_zero, List.set_cons_succ]
       refine wpAnyG_takeL (i := 4) (oi := _) (v := ?vc4a) rfl (by kernel_rfl) (by kernel_rfl) (by kernel_rfl) (by kernel_rfl) (fun _ _ _ h => h) (Or.inl ⟨by rfl, ?yc4a⟩) hSi ?rc4a
       case yc4a => (intro W hSw; go_simp; try with_reducible rfl)
       try simp only [Act.put, List.setIfInBounds_toArray, List.set_cons_zero, List.set_cons_succ]
       refine wpAnyG_takeL (i := 5) (oi := _) (v := ?vc5a) rfl (by kernel_rfl) (by kernel_rfl) (by kernel_rfl) (by kernel_rfl) (fun _ _ _ h => h) (Or.inl ⟨by rfl, ?yc5a⟩) hSi ?rc5a
       case yc5a => (intro W hSw; have y1 := LX.out W hSw; go_simp; try with_reducible rfl)
       try simp only [Act.put, List.setIfInBounds_toArray, List.set_cons_zero, List.set_cons_succ]
       refine wpAnyG_takeL (i := 6) (oi := _) (v := ?vc6a) rfl (by kernel_rfl) (by kernel_rfl) (by kernel_rfl) (by kernel_rfl) (fun _ _ _ h => h) (Or.inl ⟨by rfl, ?yc6a⟩) hSi ?rc6a
       case yc6a => (intro W hSw; go_simp; try with_reducible rfl)
       try simp only [Act.put, List.setIfInBounds_toArray, List.set_cons_zero, List.set_cons_succ]
       refine wpAnyG_done (by kernel_rfl) ?_ _
       go_simp
       have HSI := Lib.hid hSi
       clear hSi
       go_wp2_with fail
       go_roundw
       case rel => exact ⟨k + 1, by go_num, by omega, HSI.out⟩
       case measure => simp [intOf]; omega
      ·have lx := LX.out wr OK.out
       have OB := Lib.hid ((HOW.out.old OK.out).alloc (.cells #[.int .i64 (b4 : Int), .int .u64 (g' : Int), .int .u64 (x.2.tc : Int)] 37))
       have SN := Lib.hid (SeesR.new (k := 3) (enc := tokP) wr 37 (0, 0) [x] #[.int .i64 (b4 : Int), .int .u64 (g' : Int), .int .u64 (x.2.tc : Int)] (by simp [tokP, Z.out.2.2.2.2.1.1, Z.out.2.2.2.2.1.2]) (fun _ => rfl) (by unfold maxLen; simp))
       have hPd : Pd.length ≤ 100 := by have := Q7.out.2.2.2.2; rw [Z.out.1] at this; simp at this; omega
       have HN := Lib.hid (show Pd.length + 1 ≤ maxLen ∧ (Pd.length + 1) * 24 ≤ 140737488355328 ∧ w9.heap.size ≤ (wr.alloc (.cells #[.int .i64 (b4 : Int), .int .u64 (g' : Int), .int .u64 (x.2.tc : Int)] 37)).heap.size from ⟨by unfold maxLen; omega, by omega, by
        have h1 := Z.out.2.2.2.2.2.2.2
        have h2 := V.out.2.2.2.2.1.size
        have h3 := V.out.2.2.2.2.2.size
        have h4 := OK.out.size
        simp
        omega⟩)
       clear hPd
       go_wp2_with (at_builtin; refine wpList_append_rows rfl _ _ 49 rfl w9.heap.size 37 3 24 tokP _ Try.underlying49 Try.infoTok rfl (by decide) _ Pd rfl OB.out _ [x] rfl SN.out (fun _ _ => rfl) (by simp [tokP, Value.oneCell']) HN.out.1 HN.out.2.1 HN.out.2.2 ?_; intro v' w12 ho12 hg12 hv12)
       obtain ⟨p15, c15, e15, _, _⟩ := (ho12.sees (fun _ => rfl) (by decide)).len
       have kB : Old w10 (wr.alloc (.cells #[.int .i64 (b4 : Int), .int .u64 (g' : Int), .int .u64 (x.2.tc : Int)] 37)) := (V.out.2.2.2.2.2.trans OK.out).alloc _
       have kG : Keeps (fun j => (Value.slice p14 Pd.length c14).ownBlock = some j) w10 w12 := (kB.weaken (fun _ _ f => f.elim)).grown hg12 (fun j hj _ => hj)
       have hownlt : ∀ j, v'.ownBlock = some j → S3 j ∨ (w10.heap.size ≤ j ∧ j < w12.heap.size) := fun j hj => by
        rcases hv12 with e | e
        ·rw [e] at hj; exact .inl (Z.out.2.2.2.2.2.2.1 j hj)
        ·refine .inr ⟨?_, (ho12.block j hj).2⟩
         rw [e] at hj
         have h1 : (wr.alloc (.cells #[.int .i64 (b4 : Int), .int .u64 (g' : Int), .int .u64 (x.2.tc : Int)] 37)).heap.size = j := by simpa using hj
         have h2 := kB.size
         omega
       have hq12 : QuP R2 (fun j => S3 j ∨ (w10.heap.size ≤ j ∧ j < w12.heap.size)) w12 q2 100 Pr := by
        obtain ⟨L, eL, hL⟩ := V.out.2.2.2.1
        refine ⟨L, eL, hL.other kG (fun j hj => Z.out.2.2.2.2.2.2.1 j hj) (fun j hj h => by have h1 := (Z.out.2.2.1.block j h).1; have := Q9'.out.2 j hj; omega) (fun j hj => .inl hj) (fun j hj => by rcases hj with h | h; exact .inl h; exact .inr h.1) (fun j hj => ?_)⟩
        rcases hj with h | h
        ·exact Nat.lt_of_lt_of_le (hL.facts.2.2 j h) kG.size
        ·exact h.2
       have o12 : Old w8 w12 := ((Z.out.2.2.2.1.then V.out.2.2.2.2.1 (fun j hj hr => by have := Q9.out.1 j hr; omega)).then kG (fun j hj h => by have h1 := (Z.out.2.2.1.block j h).1; have h2 := Q9.out.2.2.2.1.size; omega))
       have sz12 : w9.heap.size ≤ w12.heap.size := by
        have h1 := Z.out.2.2.2.2.2.2.2
        have h2 := V.out.2.2.2.2.1.size
        have h3 := kG.size
        omega
       go_roundg Pr.length
       case measure => rw [Z.out.2.1]; simp
       case rel => exact ⟨Pd ++ [x], Pr, _, by rw [Z.out.1]; simp, rfl, ho12, hq12, hownlt, sz12, o12⟩
  ·subst hz hmm
   clear RES
   have HG := Lib.hid hgg
   clear hgg
   go_wp2_with fail
   refine HMM.out.mono ?_
   rintro e w8 ⟨rfl, k8⟩
   have CC := Lib.hid (copy_q (Q7.out.1.old k8) (by decide) (by have := Q7.out.2.2.2.2; omega))
   have K8 := Lib.hid k8
   clear k8
   go_wp2_with fail
   refine CC.out.mono ?_
   rintro e w9 ⟨q2, R2, rfl, hR2, hq2, hq9, k9⟩
   have Q9 := Lib.hid (And.intro hR2 (And.intro hq2 (And.intro hq9 (And.intro k9 (K8.out.trans k9)))))
   clear hR2 hq2 hq9 k9 CC
   go_wp2_with fail
   rw [← HG.out]
   clear HG HMM lm7 t7
   obtain ⟨S9, hq2⟩ : ∃ S9, QuP R2 S9 w9 q2 100 P' := ⟨_, Q9.out.2.1⟩
   have hR9 : ∀ j, R2 j → j < w9.heap.size := fun j hj => hq2.facts.2.2 j (hq2.facts.2.1 j hj)
   have Q9' := Lib.hid (And.intro hq2 hR9)
   clear hq2 hR9
   go_loopg [14] P'.length (fun k v14 wm => ∃ (Pd Pr : List (Int × PMs)) (S3 : Nat → Prop), P' = Pd ++ Pr ∧ k = Pr.length ∧ OwnsR wm w9.heap.size 37 3 tokP v14 Pd ∧ QuP R2 S3 wm q2 100 Pr ∧ (∀ b, v14.ownBlock = some b → S3 b) ∧ w9.heap.size ≤ wm.heap.size ∧ Old w8 wm)
   case atStart => exact ⟨[], P', S9, rfl, rfl, OwnsR.nil _ _, Q9'.out.1, (fun b hb => by cases hb), Nat.le_refl _, Q9.out.2.2.2.1⟩
   case round =>
    obtain ⟨Pd, Pr, S3, hpp, hk, how, hq3, hs3, hz3, o3⟩ := hrel
    obtain ⟨p14, c14, e14, hle14, hmx14⟩ := (how.sees (fun _ => rfl) (by decide)).len
    subst e14
    have hd14 : Pd.length ≤ 9223372036854775807 := by unfold maxLen at hmx14; omega
    cases Pr with
    | nil =>
     have CL := Lib.hid (lenP_q hq3 (by decide))
     have O3 := Lib.hid (Q7.out.2.2.1.trans (K8.out.trans o3))
     have QX := Lib.hid (Q7.out.1.old (K8.out.trans o3))
     clear how hq3 hs3 hz3 o3 hle14 hmx14 hpp hk
     go_wp2_with fail
     refine CL.out.mono ?_
     rintro e w' ⟨rfl, rfl⟩
     by_cases hti : i < tb.length
     case neg =>
      go_wp2_with fail
      go_roundw
      case rel => exact ⟨g', i + 1, P', rfl, by go_num, by omega, Q7.out.2.2.2.2, by omega, Q7.out.2.2.2.1, _, _, QX.out, Q7.out.2.1, O3.out⟩
      case measure => simp [intOf]; omega
     obtain ⟨tbk, tbo, tbc, et, _, _, htc⟩ := HT.out.at (by omega)
     simp only [Value.slice.injEq] at et
     obtain ⟨rfl, -, rfl⟩ := et
     have htx : tb[i]? = some tb[i] := List.getElem?_eq_getElem hti
     generalize tb[i] = tz at htx
     have ctz : wr.cell? ⟨tbk, tbo + i, none⟩ = some (.bool tz) := by
      have := O3.out.cell (htc i tz htx 0 _ rfl) (fun f => f)
      simpa using this
     clear htc htx
     cases tz
     ·go_wp2_with fail
      go_roundw
      case rel => exact ⟨g', i + 1, P', rfl, by go_num, by omega, Q7.out.2.2.2.2, by omega, Q7.out.2.2.2.1, _, _, QX.out, Q7.out.2.1, O3.out⟩
      case measure => simp [intOf]; omega
     ·cases P' with
      | nil =>
       have NE := Lib.hid (next_empty QX.out (by decide))
       go_wp2_with fail
       refine NE.out.mono ?_
       rintro e wn ⟨rfl, kn⟩
       have Kn := Lib.hid kn
       clear kn
       go_wp2_with fail
       go_roundw
       case rel => exact ⟨g', i + 1, [], rfl, by go_num, by omega, by simp, by omega, Q7.out.2.2.2.1, _, _, QX.out.old Kn.out, Q7.out.2.1, O3.out.trans Kn.out⟩
       case measure => simp [intOf]; omega
      | cons y P2 =>
       have NE := Lib.hid (next_some QX.out (by decide))
       go_wp2_with fail
       refine NE.out.mono ?_
       rintro e wn ⟨m2, rfl, _, _, hqn, kn⟩
       have Kn := Lib.hid (And.intro hqn kn)
       clear kn hqn
       go_wp2_with fail
       go_roundw
       case rel => exact ⟨g', i + 1, P2, rfl, by go_num, by omega, by have := Q7.out.2.2.2.2; simp at this; omega, by omega, Q7.out.2.2.2.1.tail, _, _, Kn.out.1, Q7.out.2.1, O3.out.then Kn.out.2 (fun j hj hr => by have := Q7.out.2.1 j hr; omega)⟩
       case measure => simp [intOf]; omega
    | cons x Pr =>
     have hx' : x ∈ P' := by rw [hpp]; simp
     have hxb := Q7.out.2.2.2.1.1 x hx'
     have hpw : ∀ y ∈ Pd, y.2.tb = (b4 : Int) ∧ y.2.tl = g' ∧ ((y.2.tc : Int) == (x.2.tc : Int)) = false := by
      intro y hy
      have hyP : y ∈ P' := by rw [hpp]; simp [hy]
      have h1 := Q7.out.2.2.2.1.1 y hyP
      have h2 := Q7.out.2.2.2.1.2
      rw [hpp, List.pairwise_append] at h2
      have h3 := h2.2.2 y hy x (by simp)
      exact ⟨h1.1, h1.2, by simp; omega⟩
     have CL := Lib.hid (lenP_q hq3 (by decide))
     have CN := Lib.hid (next_some hq3 (by decide))
     have Z := Lib.hid (And.intro hpp (And.intro hk (And.intro how (And.intro o3 (And.intro hxb (And.intro hpw (And.intro hs3 hz3)))))))
     clear hpp hk how hq3 hs3 hz3 o3 hle14 hmx14 hx' hxb hpw
     go_wp2_with fail
     refine CL.out.mono ?_
     rintro e w' ⟨rfl, rfl⟩
     go_wp2_with fail
     refine CN.out.mono ?_
     rintro e w10 ⟨m2, rfl, hm2, hst2, hq10, k10⟩
     obtain ⟨Wa, hWa⟩ : ∃ W, w10.alloc (.cells zeroMs.cells.toArray 43) = W := ⟨_, rfl⟩
     have ba : MAt Wa w10.heap.size zeroMs := by rw [← hWa]; exact heap_alloc_new _ _
     have oa : Old w10 Wa := by rw [← hWa]; exact (Keeps.refl _ _).alloc _
     obtain ⟨W11, hst11, b11, kb11⟩ := store_msg ba m2 hst2.fine.one
     have o11 : Old w10 W11 := oa.then kb11 (fun j hj e => by omega)
     change w10.alloc (.cells #[.int .i64 0, .int .i64 0, .int .u64 0, .bool false, .slice none 0 0, .int .u64 0, .int .u64 0, .string ⟨#[]⟩, .slice none 0 0, .int .i64 0, .int .u64 0, .int .u64 0, .int .u64 0, .int .u64 0, .int .u64 0, .slice none 0 0, .slice none 0 0, .bool false] 43) = Wa at hWa
     have e1 : m2.tb = (b4 : Int) := (congrArg PMs.tb hm2).trans Z.out.2.2.2.2.1.1
     have e2 : m2.tl = g' := (congrArg PMs.tl hm2).trans Z.out.2.2.2.2.1.2
     have e3 : m2.tc = x.2.tc := congrArg PMs.tc hm2
     obtain ⟨c9, c10, c11⟩ := tok_cells b11
     rw [e1] at c9
     rw [e2] at c10
     rw [e3] at c11
     have hne : ((g' : Int) != (g' : Int)) = false := by simp
     have how11 := (Z.out.2.2.1.keeps k10 (fun b hb hr => by have := (Z.out.2.2.1.block b hb).1; have := Q9'.out.2 b hr; omega)).old o11
     have LX := Lib.hid (fun (W : World) (k : Old W11 W) => load_sub (W := W) (b := w10.heap.size) (o := 9) (cs := #[.int .i64 (b4 : Int), .int .u64 (g' : Int), .int .u64 (x.2.tc : Int)]) (ty := 37) (by
      intro j v hv
      rcases j with _ | _ | _ | j <;> simp at hv
      ·subst hv; exact k.cell c9 (fun f => f)
      ·subst hv; exact k.cell c10 (fun f => f)
      ·subst hv; exact k.cell c11 (fun f => f)) Try.underlying37 rfl (by kernel_rfl))
     have HOW := Lib.hid how11
     have V := Lib.hid (And.intro c9 (And.intro c10 (And.intro c11 (And.intro hq10 (And.intro k10 o11)))))
     clear hm2 hst2 hq10 k10 ba oa b11 kb11 o11 e1 e2 e3 c9 c11 how11
     go_wp2_with fail
     obtain ⟨wo, hwo⟩ : ∃ wo : World, wo = wr := ⟨_, rfl⟩
     go_loopw [18] (fun v18 wk => ∃ k : Nat, v18 = .int .i64 k ∧ k ≤ Pd.length ∧ Old W11 wk) (fun v18 _ => Pd.length - (intOf v18).toNat)
     case atStart => exact ⟨0, rfl, by omega, Keeps.refl _ _⟩
     case round =>
      obtain ⟨k, rfl, hkp, ok⟩ := hrel
      have OK := Lib.hid ok
      clear ok
      by_cases hklt : k < Pd.length
      ·have hy : Pd[k]? = some Pd[k] := List.getElem?_eq_getElem hklt
       generalize Pd[k] = y at hy
       obtain ⟨hy1, hy2, hy3⟩ := Z.out.2.2.2.2.2.1 y (List.mem_of_getElem? hy)
       obtain ⟨mk, mo, mc, em, _, _, hmc⟩ := (HOW.out.sees (fun _ => rfl) (by decide)).at (by omega)
       simp only [Value.slice.injEq] at em
       obtain ⟨rfl, -, rfl⟩ := em
       have LK := Lib.hid (fun (W : World) (kk : Old W11 W) => load_sub (W := W) (b := mk) (o := mo + k * 3) (cs := #[.int .i64 (b4 : Int), .int .u64 (g' : Int), .int .u64 (y.2.tc : Int)]) (ty := 37) (by
        intro j v hv
        have hj := fun u (hu : (tokP y)[j]? = some u) => kk.cell (hmc k y hy j u hu) (fun f => f)
        unfold tokP at hj
        rw [hy1, hy2] at hj
        exact hj v hv) Try.underlying37 rfl (by kernel_rfl))
       have et : ∀ W, (binOp .eql 37 (.agg #[.int .i64 (b4 : Int), .int .u64 (g' : Int), .int .u64 (y.2.tc : Int)]) (.agg #[.int .i64 (b4 : Int), .int .u64 (g' : Int), .int .u64 (x.2.tc : Int)])).run Try.prog W = .ok (.bool false) W := fun W => by rw [eql_tok, hy3]; simp
       clear hy hy1 hy2 hy3 hmc
       go_wp2_with fail
       refine wp_region_g (S := fun W => Old W11 W) (M := [0, 1, 2, 3, 4, 5, 6]) (by kernel_rfl) ?_
       have hSi : Old W11 wr.drew := OK.out.trans (Keeps.refl _ _).drew
       refine wpAnyG_takeL (i := 0) (oi := _) (v := ?vc0b) rfl (by kernel_rfl) (by kernel_rfl) (by kernel_rfl) (by kernel_rfl) (fun _ _ _ h => h) (Or.inl ⟨by rfl, ?yc0b⟩) hSi ?rc0b
       case yc0b => (intro W hSw; go_simp; try with_reducible rfl)
       try simp only [Act.put, List.setIfInBounds_toArray, List.set_cons_zero, List.set_cons_succ]
       refine wpAnyG_takeL (i := 1) (oi := _) (v := ?vc1b) rfl (by kernel_rfl) (by kernel_rfl) (by kernel_rfl) (by kernel_rfl) (fun _ _ _ h => h) (Or.inl ⟨by rfl, ?yc1b⟩) hSi ?rc1b
       case yc1b => (intro W hSw; go_simp; try with_reducible rfl)
       try simp only [Act.put, List.setIfInBounds_toArray, List.set_cons_zero, List.set_cons_succ]
       refine wpAnyG_takeL (i := 2) (oi := _) (v := ?vc2b) rfl (by kernel_rfl) (by kernel_rfl) (by kernel_rfl) (by kernel_rfl) (fun _ _ _ h => h) (Or.inl ⟨by rfl, ?yc2b⟩) hSi ?rc2b
       case yc2b => (intro W hSw; go_simp; try with_reducible rfl)
       try simp only [Act.put, List.setIfInBounds_toArray, List.set_cons_zero, List.set_cons_succ]
       refine wpAnyG_takeL (i := 3) (oi := _) (v := ?vc3b) rfl (by kernel_rfl) (by kernel_rfl) (by kernel_rfl) (by kernel_rfl) (fun _ _ _ h => h) (Or.inl ⟨by rfl, ?yc3b⟩) hSi ?rc3b
       case yc3b => (intro W hSw; have y1 := LK.out W hSw; go_simp; try with_reducible rfl)
       try simp only [Act.put, List.setIfInBounds_toArray, List.set_cons_zero, List.set_cons_succ]
       refine wpAnyG_takeL (i := 4) (oi := _) (v := ?vc4b) rfl (by kernel_rfl) (by kernel_rfl) (by kernel_rfl) (by kernel_rfl) (fun _ _ _ h => h) (Or.inl ⟨by rfl, ?yc4b⟩) hSi ?rc4b
       case yc4b => (intro W hSw; go_simp; try with_reducible rfl)
       try simp only [Act.put, List.setIfInBounds_toArray, List.set_cons_zero, List.set_cons_succ]
       refine wpAnyG_takeL (i := 5) (oi := _) (v := ?vc5b) rfl (by kernel_rfl) (by kernel_rfl) (by kernel_rfl) (by kernel_rfl) (fun _ _ _ h => h) (Or.inl ⟨by rfl, ?yc5b⟩) hSi ?rc5b
       case yc5b => (intro W hSw; have y1 := LX.out W hSw; go_simp; try with_reducible rfl)
       try simp only [Act.put, List.setIfInBounds_toArray, List.set_cons_zero, List.set_cons_succ]
       refine wpAnyG_takeL (i := 6) (oi := _) (v := ?vc6b) rfl (by kernel_rfl) (by kernel_rfl) (by kernel_rfl) (by kernel_rfl) (fun _ _ _ h => h) (Or.inl ⟨by rfl, ?yc6b⟩) hSi ?rc6b
       case yc6b => (intro W hSw; go_simp; try with_reducible rfl)
       try simp only [Act.put, List.setIfInBounds_toArray, List.set_cons_zero, List.set_cons_succ]
       refine wpAnyG_done (by kernel_rfl) ?_ _
       go_simp
       have HSI := Lib.hid hSi
       clear hSi
       go_wp2_with fail
       go_roundw
       case rel => exact ⟨k + 1, by go_num, by omega, HSI.out⟩
       case measure => simp [intOf]; omega
      ·have lx := LX.out wr OK.out
       have OB := Lib.hid ((HOW.out.old OK.out).alloc (.cells #[.int .i64 (b4 : Int), .int .u64 (g' : Int), .int .u64 (x.2.tc : Int)] 37))
       have SN := Lib.hid (SeesR.new (k := 3) (enc := tokP) wr 37 (0, 0) [x] #[.int .i64 (b4 : Int), .int .u64 (g' : Int), .int .u64 (x.2.tc : Int)] (by simp [tokP, Z.out.2.2.2.2.1.1, Z.out.2.2.2.2.1.2]) (fun _ => rfl) (by unfold maxLen; simp))
       have hPd : Pd.length ≤ 100 := by have := Q7.out.2.2.2.2; rw [Z.out.1] at this; simp at this; omega
       have HN := Lib.hid (show Pd.length + 1 ≤ maxLen ∧ (Pd.length + 1) * 24 ≤ 140737488355328 ∧ w9.heap.size ≤ (wr.alloc (.cells #[.int .i64 (b4 : Int), .int .u64 (g' : Int), .int .u64 (x.2.tc : Int)] 37)).heap.size from ⟨by unfold maxLen; omega, by omega, by
        have h1 := Z.out.2.2.2.2.2.2.2
        have h2 := V.out.2.2.2.2.1.size
        have h3 := V.out.2.2.2.2.2.size
        have h4 := OK.out.size
        simp
        omega⟩)
       clear hPd
       go_wp2_with (at_builtin; refine wpList_append_rows rfl _ _ 49 rfl w9.heap.size 37 3 24 tokP _ Try.underlying49 Try.infoTok rfl (by decide) _ Pd rfl OB.out _ [x] rfl SN.out (fun _ _ => rfl) (by simp [tokP, Value.oneCell']) HN.out.1 HN.out.2.1 HN.out.2.2 ?_; intro v' w12 ho12 hg12 hv12)
       obtain ⟨p15, c15, e15, _, _⟩ := (ho12.sees (fun _ => rfl) (by decide)).len
       have kB : Old w10 (wr.alloc (.cells #[.int .i64 (b4 : Int), .int .u64 (g' : Int), .int .u64 (x.2.tc : Int)] 37)) := (V.out.2.2.2.2.2.trans OK.out).alloc _
       have kG : Keeps (fun j => (Value.slice p14 Pd.length c14).ownBlock = some j) w10 w12 := (kB.weaken (fun _ _ f => f.elim)).grown hg12 (fun j hj _ => hj)
       have hownlt : ∀ j, v'.ownBlock = some j → S3 j ∨ (w10.heap.size ≤ j ∧ j < w12.heap.size) := fun j hj => by
        rcases hv12 with e | e
        ·rw [e] at hj; exact .inl (Z.out.2.2.2.2.2.2.1 j hj)
        ·refine .inr ⟨?_, (ho12.block j hj).2⟩
         rw [e] at hj
         have h1 : (wr.alloc (.cells #[.int .i64 (b4 : Int), .int .u64 (g' : Int), .int .u64 (x.2.tc : Int)] 37)).heap.size = j := by simpa using hj
         have h2 := kB.size
         omega
       have hq12 : QuP R2 (fun j => S3 j ∨ (w10.heap.size ≤ j ∧ j < w12.heap.size)) w12 q2 100 Pr := by
        obtain ⟨L, eL, hL⟩ := V.out.2.2.2.1
        refine ⟨L, eL, hL.other kG (fun j hj => Z.out.2.2.2.2.2.2.1 j hj) (fun j hj h => by have h1 := (Z.out.2.2.1.block j h).1; have := Q9'.out.2 j hj; omega) (fun j hj => .inl hj) (fun j hj => by rcases hj with h | h; exact .inl h; exact .inr h.1) (fun j hj => ?_)⟩
        rcases hj with h | h
        ·exact Nat.lt_of_lt_of_le (hL.facts.2.2 j h) kG.size
        ·exact h.2
       have o12 : Old w8 w12 := ((Z.out.2.2.2.1.then V.out.2.2.2.2.1 (fun j hj hr => by have := Q9.out.1 j hr; omega)).then kG (fun j hj h => by have h1 := (Z.out.2.2.1.block j h).1; have h2 := Q9.out.2.2.2.1.size; omega))
       have sz12 : w9.heap.size ≤ w12.heap.size := by
        have h1 := Z.out.2.2.2.2.2.2.2
        have h2 := V.out.2.2.2.2.1.size
        have h3 := kG.size
        omega
       go_roundg Pr.length
       case measure => rw [Z.out.2.1]; simp
       case rel => exact ⟨Pd ++ [x], Pr, _, by rw [Z.out.1]; simp, rfl, ho12, hq12, hownlt, sz12, o12⟩
  ·subst hz hmm
   clear RES
   have HG := Lib.hid hgg
   clear hgg
   go_wp2_with fail
   refine HMM.out.mono ?_
   rintro e w8 ⟨rfl, k8⟩
   have CC := Lib.hid (copy_q (Q7.out.1.old k8) (by decide) (by have := Q7.out.2.2.2.2; omega))
   have K8 := Lib.hid k8
   clear k8
   go_wp2_with fail
   refine CC.out.mono ?_
   rintro e w9 ⟨q2, R2, rfl, hR2, hq2, hq9, k9⟩
   have Q9 := Lib.hid (And.intro hR2 (And.intro hq2 (And.intro hq9 (And.intro k9 (K8.out.trans k9)))))
   clear hR2 hq2 hq9 k9 CC
   go_wp2_with fail
   rw [← HG.out]
   clear HG HMM lm7 t7
   obtain ⟨S9, hq2⟩ : ∃ S9, QuP R2 S9 w9 q2 100 P' := ⟨_, Q9.out.2.1⟩
   have hR9 : ∀ j, R2 j → j < w9.heap.size := fun j hj => hq2.facts.2.2 j (hq2.facts.2.1 j hj)
   have Q9' := Lib.hid (And.intro hq2 hR9)
   clear hq2 hR9
   go_loopg [14] P'.length (fun k v14 wm => ∃ (Pd Pr : List (Int × PMs)) (S3 : Nat → Prop), P' = Pd ++ Pr ∧ k = Pr.length ∧ OwnsR wm w9.heap.size 37 3 tokP v14 Pd ∧ QuP R2 S3 wm q2 100 Pr ∧ (∀ b, v14.ownBlock = some b → S3 b) ∧ w9.heap.size ≤ wm.heap.size ∧ Old w8 wm)
   case atStart => exact ⟨[], P', S9, rfl, rfl, OwnsR.nil _ _, Q9'.out.1, (fun b hb => by cases hb), Nat.le_refl _, Q9.out.2.2.2.1⟩
   case round =>
    obtain ⟨Pd, Pr, S3, hpp, hk, how, hq3, hs3, hz3, o3⟩ := hrel
    obtain ⟨p14, c14, e14, hle14, hmx14⟩ := (how.sees (fun _ => rfl) (by decide)).len
    subst e14
    have hd14 : Pd.length ≤ 9223372036854775807 := by unfold maxLen at hmx14; omega
    cases Pr with
    | nil =>
     have CL := Lib.hid (lenP_q hq3 (by decide))
     have O3 := Lib.hid (Q7.out.2.2.1.trans (K8.out.trans o3))
     have QX := Lib.hid (Q7.out.1.old (K8.out.trans o3))
     clear how hq3 hs3 hz3 o3 hle14 hmx14 hpp hk
     go_wp2_with fail
     refine CL.out.mono ?_
     rintro e w' ⟨rfl, rfl⟩
     by_cases hti : i < tb.length
     case neg =>
      go_wp2_with fail
      go_roundw
      case rel => exact ⟨g', i + 1, P', rfl, by go_num, by omega, Q7.out.2.2.2.2, by omega, Q7.out.2.2.2.1, _, _, QX.out, Q7.out.2.1, O3.out⟩
      case measure => simp [intOf]; omega
     obtain ⟨tbk, tbo, tbc, et, _, _, htc⟩ := HT.out.at (by omega)
     simp only [Value.slice.injEq] at et
     obtain ⟨rfl, -, rfl⟩ := et
     have htx : tb[i]? = some tb[i] := List.getElem?_eq_getElem hti
     generalize tb[i] = tz at htx
     have ctz : wr.cell? ⟨tbk, tbo + i, none⟩ = some (.bool tz) := by
      have := O3.out.cell (htc i tz htx 0 _ rfl) (fun f => f)
      simpa using this
     clear htc htx
     cases tz
     ·go_wp2_with fail
      go_roundw
      case rel => exact ⟨g', i + 1, P', rfl, by go_num, by omega, Q7.out.2.2.2.2, by omega, Q7.out.2.2.2.1, _, _, QX.out, Q7.out.2.1, O3.out⟩
      case measure => simp [intOf]; omega
     ·cases P' with
      | nil =>
       have NE := Lib.hid (next_empty QX.out (by decide))
       go_wp2_with fail
       refine NE.out.mono ?_
       rintro e wn ⟨rfl, kn⟩
       have Kn := Lib.hid kn
       clear kn
       go_wp2_with fail
       go_roundw
       case rel => exact ⟨g', i + 1, [], rfl, by go_num, by omega, by simp, by omega, Q7.out.2.2.2.1, _, _, QX.out.old Kn.out, Q7.out.2.1, O3.out.trans Kn.out⟩
       case measure => simp [intOf]; omega
      | cons y P2 =>
       have NE := Lib.hid (next_some QX.out (by decide))
       go_wp2_with fail
       refine NE.out.mono ?_
       rintro e wn ⟨m2, rfl, _, _, hqn, kn⟩
       have Kn := Lib.hid (And.intro hqn kn)
       clear kn hqn
       go_wp2_with fail
       go_roundw
       case rel => exact ⟨g', i + 1, P2, rfl, by go_num, by omega, by have := Q7.out.2.2.2.2; simp at this; omega, by omega, Q7.out.2.2.2.1.tail, _, _, Kn.out.1, Q7.out.2.1, O3.out.then Kn.out.2 (fun j hj hr => by have := Q7.out.2.1 j hr; omega)⟩
       case measure => simp [intOf]; omega
    | cons x Pr =>
     have hx' : x ∈ P' := by rw [hpp]; simp
     have hxb := Q7.out.2.2.2.1.1 x hx'
     have hpw : ∀ y ∈ Pd, y.2.tb = (b4 : Int) ∧ y.2.tl = g' ∧ ((y.2.tc : Int) == (x.2.tc : Int)) = false := by
      intro y hy
      have hyP : y ∈ P' := by rw [hpp]; simp [hy]
      have h1 := Q7.out.2.2.2.1.1 y hyP
      have h2 := Q7.out.2.2.2.1.2
      rw [hpp, List.pairwise_append] at h2
      have h3 := h2.2.2 y hy x (by simp)
      exact ⟨h1.1, h1.2, by simp; omega⟩
     have CL := Lib.hid (lenP_q hq3 (by decide))
     have CN := Lib.hid (next_some hq3 (by decide))
     have Z := Lib.hid (And.intro hpp (And.intro hk (And.intro how (And.intro o3 (And.intro hxb (And.intro hpw (And.intro hs3 hz3)))))))
     clear hpp hk how hq3 hs3 hz3 o3 hle14 hmx14 hx' hxb hpw
     go_wp2_with fail
     refine CL.out.mono ?_
     rintro e w' ⟨rfl, rfl⟩
     go_wp2_with fail
     refine CN.out.mono ?_
     rintro e w10 ⟨m2, rfl, hm2, hst2, hq10, k10⟩
     obtain ⟨Wa, hWa⟩ : ∃ W, w10.alloc (.cells zeroMs.cells.toArray 43) = W := ⟨_, rfl⟩
     have ba : MAt Wa w10.heap.size zeroMs := by rw [← hWa]; exact heap_alloc_new _ _
     have oa : Old w10 Wa := by rw [← hWa]; exact (Keeps.refl _ _).alloc _
     obtain ⟨W11, hst11, b11, kb11⟩ := store_msg ba m2 hst2.fine.one
     have o11 : Old w10 W11 := oa.then kb11 (fun j hj e => by omega)
     change w10.alloc (.cells #[.int .i64 0, .int .i64 0, .int .u64 0, .bool false, .slice none 0 0, .int .u64 0, .int .u64 0, .string ⟨#[]⟩, .slice none 0 0, .int .i64 0, .int .u64 0, .int .u64 0, .int .u64 0, .int .u64 0, .int .u64 0, .slice none 0 0, .slice none 0 0, .bool false] 43) = Wa at hWa
     have e1 : m2.tb = (b4 : Int) := (congrArg PMs.tb hm2).trans Z.out.2.2.2.2.1.1
     have e2 : m2.tl = g' := (congrArg PMs.tl hm2).trans Z.out.2.2.2.2.1.2
     have e3 : m2.tc = x.2.tc := congrArg PMs.tc hm2
     obtain ⟨c9, c10, c11⟩ := tok_cells b11
     rw [e1] at c9
     rw [e2] at c10
     rw [e3] at c11
     have hne : ((g' : Int) != (g' : Int)) = false := by simp
     have how11 := (Z.out.2.2.1.keeps k10 (fun b hb hr => by have := (Z.out.2.2.1.block b hb).1; have := Q9'.out.2 b hr; omega)).old o11
     have LX := Lib.hid (fun (W : World) (k : Old W11 W) => load_sub (W := W) (b := w10.heap.size) (o := 9) (cs := #[.int .i64 (b4 : Int), .int .u64 (g' : Int), .int .u64 (x.2.tc : Int)]) (ty := 37) (by
      intro j v hv
      rcases j with _ | _ | _ | j <;> simp at hv
      ·subst hv; exact k.cell c9 (fun f => f)
      ·subst hv; exact k.cell c10 (fun f => f)
      ·subst hv; exact k.cell c11 (fun f => f)) Try.underlying37 rfl (by kernel_rfl))
     have HOW := Lib.hid how11
     have V := Lib.hid (And.intro c9 (And.intro c10 (And.intro c11 (And.intro hq10 (And.intro k10 o11)))))
     clear hm2 hst2 hq10 k10 ba oa b11 kb11 o11 e1 e2 e3 c9 c11 how11
     go_wp2_with fail
     obtain ⟨wo, hwo⟩ : ∃ wo : World, wo = wr := ⟨_, rfl⟩
     go_loopw [18] (fun v18 wk => ∃ k : Nat, v18 = .int .i64 k ∧ k ≤ Pd.length ∧ Old W11 wk) (fun v18 _ => Pd.length - (intOf v18).toNat)
     case atStart => exact ⟨0, rfl, by omega, Keeps.refl _ _⟩
     case round =>
      obtain ⟨k, rfl, hkp, ok⟩ := hrel
      have OK := Lib.hid ok
      clear ok
      by_cases hklt : k < Pd.length
      ·have hy : Pd[k]? = some Pd[k] := List.getElem?_eq_getElem hklt
       generalize Pd[k] = y at hy
       obtain ⟨hy1, hy2, hy3⟩ := Z.out.2.2.2.2.2.1 y (List.mem_of_getElem? hy)
       obtain ⟨mk, mo, mc, em, _, _, hmc⟩ := (HOW.out.sees (fun _ => rfl) (by decide)).at (by omega)
       simp only [Value.slice.injEq] at em
       obtain ⟨rfl, -, rfl⟩ := em
       have LK := Lib.hid (fun (W : World) (kk : Old W11 W) => load_sub (W := W) (b := mk) (o := mo + k * 3) (cs := #[.int .i64 (b4 : Int), .int .u64 (g' : Int), .int .u64 (y.2.tc : Int)]) (ty := 37) (by
        intro j v hv
        have hj := fun u (hu : (tokP y)[j]? = some u) => kk.cell (hmc k y hy j u hu) (fun f => f)
        unfold tokP at hj
        rw [hy1, hy2] at hj
        exact hj v hv) Try.underlying37 rfl (by kernel_rfl))
       have et : ∀ W, (binOp .eql 37 (.agg #[.int .i64 (b4 : Int), .int .u64 (g' : Int), .int .u64 (y.2.tc : Int)]) (.agg #[.int .i64 (b4 : Int), .int .u64 (g' : Int), .int .u64 (x.2.tc : Int)])).run Try.prog W = .ok (.bool false) W := fun W => by rw [eql_tok, hy3]; simp
       clear hy hy1 hy2 hy3 hmc
       go_wp2_with fail
       refine wp_region_g (S := fun W => Old W11 W) (M := [0, 1, 2, 3, 4, 5, 6]) (by kernel_rfl) ?_
       have hSi : Old W11 wr.drew := OK.out.trans (Keeps.refl _ _).drew
       refine wpAnyG_takeL (i := 0) (oi := _) (v := ?vc0c) rfl (by kernel_rfl) (by kernel_rfl) (by kernel_rfl) (by kernel_rfl) (fun _ _ _ h => h) (Or.inl ⟨by rfl, ?yc0c⟩) hSi ?rc0c
       case yc0c => (intro W hSw; go_simp; try with_reducible rfl)
       try simp only [Act.put, List.setIfInBounds_toArray, List.set_cons_zero, List.set_cons_succ]
       refine wpAnyG_takeL (i := 1) (oi := _) (v := ?vc1c) rfl (by kernel_rfl) (by kernel_rfl) (by kernel_rfl) (by kernel_rfl) (fun _ _ _ h => h) (Or.inl ⟨by rfl, ?yc1c⟩) hSi ?rc1c
       case yc1c => (intro W hSw; go_simp; try with_reducible rfl)
       try simp only [Act.put, List.setIfInBounds_toArray, List.set_cons_zero, List.set_cons_succ]
       refine wpAnyG_takeL (i := 2) (oi := _) (v := ?vc2c) rfl (by kernel_rfl) (by kernel_rfl) (by kernel_rfl) (by kernel_rfl) (fun _ _ _ h => h) (Or.inl ⟨by rfl, ?yc2c⟩) hSi ?rc2c
       case yc2c => (intro W hSw; go_simp; try with_reducible rfl)
       try simp only [Act.put, List.setIfInBounds_toArray, List.set_cons_zero, List.set_cons_succ]
       refine wpAnyG_takeL (i := 3) (oi := _) (v := ?vc3c) rfl (by kernel_rfl) (by kernel_rfl) (by kernel_rfl) (by kernel_rfl) (fun _ _ _ h => h) (Or.inl ⟨by rfl, ?yc3c⟩) hSi ?rc3c
       case yc3c => (intro W hSw; have y1 := LK.out W hSw; go_simp; try with_reducible rfl)
       try simp only [Act.put, List.setIfInBounds_toArray, List.set_cons_zero, List.set_cons_succ]
       refine wpAnyG_takeL (i := 4) (oi := _) (v := ?vc4c) rfl (by kernel_rfl) (by kernel_rfl) (by kernel_rfl) (by kernel_rfl) (fun _ _ _ h => h) (Or.inl ⟨by rfl, ?yc4c⟩) hSi ?rc4c
       case yc4c => (intro W hSw; go_simp; try with_reducible rfl)
       try simp only [Act.put, List.setIfInBounds_toArray, List.set_cons_zero, List.set_cons_succ]
       refine wpAnyG_takeL (i := 5) (oi := _) (v := ?vc5c) rfl (by kernel_rfl) (by kernel_rfl) (by kernel_rfl) (by kernel_rfl) (fun _ _ _ h => h) (Or.inl ⟨by rfl, ?yc5c⟩) hSi ?rc5c
       case yc5c => (intro W hSw; have y1 := LX.out W hSw; go_simp; try with_reducible rfl)
       try simp only [Act.put, List.setIfInBounds_toArray, List.set_cons_zero, List.set_cons_succ]
       refine wpAnyG_takeL (i := 6) (oi := _) (v := ?vc6c) rfl (by kernel_rfl) (by kernel_rfl) (by kernel_rfl) (by kernel_rfl) (fun _ _ _ h => h) (Or.inl ⟨by rfl, ?yc6c⟩) hSi ?rc6c
       case yc6c => (intro W hSw; go_simp; try with_reducible rfl)
       try simp only [Act.put, List.setIfInBounds_toArray, List.set_cons_zero, List.set_cons_succ]
       refine wpAnyG_done (by kernel_rfl) ?_ _
       go_simp
       have HSI := Lib.hid hSi
       clear hSi
       go_wp2_with fail
       go_roundw
       case rel => exact ⟨k + 1, by go_num, by omega, HSI.out⟩
       case measure => simp [intOf]; omega
      ·have lx := LX.out wr OK.out
       have OB := Lib.hid ((HOW.out.old OK.out).alloc (.cells #[.int .i64 (b4 : Int), .int .u64 (g' : Int), .int .u64 (x.2.tc : Int)] 37))
       have SN := Lib.hid (SeesR.new (k := 3) (enc := tokP) wr 37 (0, 0) [x] #[.int .i64 (b4 : Int), .int .u64 (g' : Int), .int .u64 (x.2.tc : Int)] (by simp [tokP, Z.out.2.2.2.2.1.1, Z.out.2.2.2.2.1.2]) (fun _ => rfl) (by unfold maxLen; simp))
       have hPd : Pd.length ≤ 100 := by have := Q7.out.2.2.2.2; rw [Z.out.1] at this; simp at this; omega
       have HN := Lib.hid (show Pd.length + 1 ≤ maxLen ∧ (Pd.length + 1) * 24 ≤ 140737488355328 ∧ w9.heap.size ≤ (wr.alloc (.cells #[.int .i64 (b4 : Int), .int .u64 (g' : Int), .int .u64 (x.2.tc : Int)] 37)).heap.size from ⟨by unfold maxLen; omega, by omega, by
        have h1 := Z.out.2.2.2.2.2.2.2
        have h2 := V.out.2.2.2.2.1.size
        have h3 := V.out.2.2.2.2.2.size
        have h4 := OK.out.size
        simp
        omega⟩)
       clear hPd
       go_wp2_with (at_builtin; refine wpList_append_rows rfl _ _ 49 rfl w9.heap.size 37 3 24 tokP _ Try.underlying49 Try.infoTok rfl (by decide) _ Pd rfl OB.out _ [x] rfl SN.out (fun _ _ => rfl) (by simp [tokP, Value.oneCell']) HN.out.1 HN.out.2.1 HN.out.2.2 ?_; intro v' w12 ho12 hg12 hv12)
       obtain ⟨p15, c15, e15, _, _⟩ := (ho12.sees (fun _ => rfl) (by decide)).len
       have kB : Old w10 (wr.alloc (.cells #[.int .i64 (b4 : Int), .int .u64 (g' : Int), .int .u64 (x.2.tc : Int)] 37)) := (V.out.2.2.2.2.2.trans OK.out).alloc _
       have kG : Keeps (fun j => (Value.slice p14 Pd.length c14).ownBlock = some j) w10 w12 := (kB.weaken (fun _ _ f => f.elim)).grown hg12 (fun j hj _ => hj)
       have hownlt : ∀ j, v'.ownBlock = some j → S3 j ∨ (w10.heap.size ≤ j ∧ j < w12.heap.size) := fun j hj => by
        rcases hv12 with e | e
        ·rw [e] at hj; exact .inl (Z.out.2.2.2.2.2.2.1 j hj)
        ·refine .inr ⟨?_, (ho12.block j hj).2⟩
         rw [e] at hj
         have h1 : (wr.alloc (.cells #[.int .i64 (b4 : Int), .int .u64 (g' : Int), .int .u64 (x.2.tc : Int)] 37)).heap.size = j := by simpa using hj
         have h2 := kB.size
         omega
       have hq12 : QuP R2 (fun j => S3 j ∨ (w10.heap.size ≤ j ∧ j < w12.heap.size)) w12 q2 100 Pr := by
        obtain ⟨L, eL, hL⟩ := V.out.2.2.2.1
        refine ⟨L, eL, hL.other kG (fun j hj => Z.out.2.2.2.2.2.2.1 j hj) (fun j hj h => by have h1 := (Z.out.2.2.1.block j h).1; have := Q9'.out.2 j hj; omega) (fun j hj => .inl hj) (fun j hj => by rcases hj with h | h; exact .inl h; exact .inr h.1) (fun j hj => ?_)⟩
        rcases hj with h | h
        ·exact Nat.lt_of_lt_of_le (hL.facts.2.2 j h) kG.size
        ·exact h.2
       have o12 : Old w8 w12 := ((Z.out.2.2.2.1.then V.out.2.2.2.2.1 (fun j hj hr => by have := Q9.out.1 j hr; omega)).then kG (fun j hj h => by have h1 := (Z.out.2.2.1.block j h).1; have h2 := Q9.out.2.2.2.1.size; omega))
       have sz12 : w9.heap.size ≤ w12.heap.size := by
        have h1 := Z.out.2.2.2.2.2.2.2
        have h2 := V.out.2.2.2.2.1.size
        have h3 := kG.size
        omega
       go_roundg Pr.length
       case measure => rw [Z.out.2.1]; simp
       case rel => exact ⟨Pd ++ [x], Pr, _, by rw [Z.out.1]; simp, rfl, ho12, hq12, hownlt, sz12, o12⟩
end Go.Proofs.Ytiednihagnehlaa
