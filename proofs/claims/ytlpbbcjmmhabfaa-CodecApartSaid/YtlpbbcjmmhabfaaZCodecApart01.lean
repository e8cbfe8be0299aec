/- DERIVED. CodecApart, walked. · DERIVED. CodecApart, CodecBack, CodecNested, from how their arguments read. · The statement CodecApart: for every input the law returns true, and the arguments read as they did. -/
import Derived.Test.YtlpbbcjmmhabfaaY25
import Derived.Test.YtlpbbcjmmhabfaaY22
import Derived.Deep.DeepCutAuto
import Derived.Lib.MinMax
import Derived.Test.YtlpbbcjmmhabfaaY23
import Derived.Test.YtlpbbcjmmhabfaaRows
import Derived.ProofKit
import Derived.OpenShut
import Derived.JoinedCond
import Derived.ChangeOld
namespace Go.Proofs.Ytlpbbcjmmhabfaa
open Go.RowKit

theorem apart_ev {k k' : ByteArray} {es es' : List At} (h : evOk k es = true) (h' : evOk k' es' = true) (hf : Fits es) (hf' : Fits es') {n : Nat} (hn : n = min (evForm k es).length (evForm k' es').length) :
    ((evForm k es).take n == (evForm k' es').take n) = sameE k es k' es' := by
  have e := apart_law (p := pEvent) (F := fun x : ByteArray × List At => evForm x.1 x.2) (x := (k, es)) (y := (k', es')) (fun r => pEvent_fwd r h hf) (fun r => pEvent_fwd r h' hf') hn
  rw [Bool.eq_iff_iff, beq_iff_eq, sameE_iff]
  rw [e, Prod.mk.injEq]
theorem apart_pred {cs cs' : List PCon} (h : okP cs = true) (h' : okP cs' = true) (hf : ∀ c ∈ cs, ConG c) (hf' : ∀ c ∈ cs', ConG c) {n : Nat} (hn : n = min (predForm cs).length (predForm cs').length) :
    ((predForm cs).take n == (predForm cs').take n) = sameP cs cs' := by
  have e := apart_law (p := pPred) (F := predForm) (x := cs) (y := cs') (fun r => pPred_fwd r h hf) (fun r => pPred_fwd r h' hf') hn
  rw [Bool.eq_iff_iff, beq_iff_eq, sameP_iff]
  exact e

set_option maxRecDepth 100000 in
set_option maxHeartbeats 8000000 in
theorem apart_any (k k' : ByteArray) (v v' : Value) (es es' : List At) (pv pv' : Value) (cs cs' : List Con) (w : World) (ha : SeesA w v es) (hlt : 0 < es.length → ∀ b, v.ownBlock = some b → b < w.heap.size) (hf : Fits es)
    (ha' : SeesA w v' es') (hlt' : 0 < es'.length → ∀ b, v'.ownBlock = some b → b < w.heap.size) (hf' : Fits es')
    (hc : Cons w pv cs) (hcl : 0 < cs.length → ∀ b, pv.ownBlock = some b → b < w.heap.size) (hc' : Cons w pv' cs') (hcl' : 0 < cs'.length → ∀ b, pv'.ownBlock = some b → b < w.heap.size) :
    Calls Try.prog 4 #[.agg #[.string k, v], .agg #[.string k', v'], pv, pv'] w fun e w' => e = .returned (.bool true) ∧ Old w w' := by
  have P1 := Lib.hid (fun W (o : Old w W) => put_event_u k v es W (ha.old o) (fun h0 b hb => Nat.lt_of_lt_of_le (hlt h0 b hb) o.size) hf)
  have P2 := Lib.hid (fun W (o : Old w W) => put_event_u k' v' es' W (ha'.old o) (fun h0 b hb => Nat.lt_of_lt_of_le (hlt' h0 b hb) o.size) hf')
  have P3 := Lib.hid (fun W (o : Old w W) => put_pred_u pv cs W (hc.old o) (fun h0 b hb => Nat.lt_of_lt_of_le (hcl h0 b hb) o.size))
  have P4 := Lib.hid (fun W (o : Old w W) => put_pred_u pv' cs' W (hc'.old o) (fun h0 b hb => Nat.lt_of_lt_of_le (hcl' h0 b hb) o.size))
  have CE := fun W (o : Old w W) => same_ev_any k k' v v' es es' W (ha.old o) (ha'.old o)
  have CP := fun W (o : Old w W) => same_pred_any pv pv' cs cs' W (hc.1.old o) (hc'.1.old o) (fun x hx => ((hc.2 x hx).1).old o) (fun x hx => ((hc'.2 x hx).1).old o)
  have AE := fun h1 h2 n hn => @apart_ev k k' es es' h1 h2 hf hf' n hn
  have AP := fun h1 h2 n hn => @apart_pred (cs.map Con.plain) (cs'.map Con.plain) h1 h2 (consG hc h1) (consG hc' h2) n hn
  generalize sameE k es k' es' = ce at CE AE
  generalize sameP (cs.map Con.plain) (cs'.map Con.plain) = cp at CP AP
  have HE := Lib.hid (And.intro CE AE)
  have HP := Lib.hid (And.intro CP AP)
  obtain ⟨a1, c1, rfl, _, _⟩ := ha.len
  obtain ⟨a2, c2, rfl, _, _⟩ := ha'.len
  obtain ⟨a3, c3, rfl, _, _⟩ := hc.1.len
  obtain ⟨a4, c4, rfl, _, _⟩ := hc'.1.len
  obtain ⟨W0, hW0⟩ : ∃ W0, (w.alloc (.cells #[.string k, .slice a1 es.length c1] 24)).alloc (.cells #[.string k', .slice a2 es'.length c2] 24) = W0 := ⟨_, rfl⟩
  have k0 : Old w W0 := by rw [← hW0]; exact ((Keeps.refl _ _).alloc _).alloc _
  obtain ⟨b0, b1⟩ := two_blocks w (.cells #[.string k, .slice a1 es.length c1] 24) (.cells #[.string k', .slice a2 es'.length c2] 24)
  rw [hW0] at b0 b1
  have B := Lib.hid (And.intro k0 (And.intro b0 b1))
  have g0 := blk2 b0
  clear k0 b0 b1 ha ha' hc hc' hcl hcl' hlt hlt' hf hf' CE CP AE AP
  go_enter Try.func4, Try.ntmps4
  go_wp2_with fail
  refine (P1.out _ B.out.1).mono ?_
  rintro e w1 ⟨p1, d1, z1, L1, rfl, k1, s1, h1⟩
  have R1 := Lib.hid (And.intro k1 (And.intro s1 h1))
  clear g0 k1 s1 h1
  have g1 := blk2 ((R1.out.1.block _ (lt_of_heap B.out.2.2) (fun f => f)).trans B.out.2.2)
  go_wp2_with fail
  refine (P2.out _ (B.out.1.trans R1.out.1)).mono ?_
  rintro e w2 ⟨p2, d2, z2, L2, rfl, k2, s2, h2⟩
  have R2 := Lib.hid (And.intro (R1.out.1.trans k2) (And.intro s2 (And.intro h2 (R1.out.2.1.old k2))))
  clear g1 k2 s2 h2
  go_upto_region 3 with fail
  go_cut [32] (fun v wc => ∃ t : Bool, v = .bool t ∧ (t = true → (evOk k es = true ∧ L1 = evForm k es) ∧ (evOk k' es' = true ∧ L2 = evForm k' es')) ∧ w2 = wc)
  case first =>
    rcases R1.out.2.2 with ⟨x1, x2, rfl⟩ | ⟨x1, x2, rfl⟩
    · rcases R2.out.2.2.1 with ⟨y1, y2, rfl⟩ | ⟨y1, y2, rfl⟩
      · have Q := Lib.hid (And.intro (And.intro x1 x2) (And.intro y1 y2))
        clear x1 x2 y1 y2
        go_wp2_with fail
        go_meet
        case rel => exact ⟨_, rfl, fun _ => Q.out, rfl⟩
      · clear x1 x2 y1 y2
        go_wp2_with fail
        go_meet
        case rel => exact ⟨_, rfl, fun h => (by cases h), rfl⟩
    · clear x1 x2
      go_wp2_with fail
      go_meet
      case rel => exact ⟨_, rfl, fun h => (by cases h), rfl⟩
  obtain ⟨t, rfl, ht, rfl⟩ := hcut
  have HT := Lib.hid ht
  clear ht
  go_upto_if 32 with fail
  go_cut [] (fun wd => Old w2 wd)
  case first =>
    cases t
    · go_wp2_with fail
      go_meet
      case rel => exact Keeps.refl _ _
    · obtain ⟨⟨x1, x2⟩, y1, y2⟩ : (evOk k es = true ∧ L1 = evForm k es) ∧ (evOk k' es' = true ∧ L2 = evForm k' es') := (by have h := HT.out; first | exact h rfl | exact h trivial | exact h)
      obtain ⟨n, hn⟩ : ∃ n, n = min L1.length L2.length := ⟨_, rfl⟩
      have hmin : min (L1.length : Int) (L2.length : Int) = (n : Int) := by omega
      obtain ⟨q1, e1, hr1, hs1, _⟩ := R2.out.2.2.2.upto n (by omega) IntKind.i64 (n : Int) rfl
      obtain ⟨q2, e2, hr2, hs2, _⟩ := R2.out.2.1.upto n (by omega) IntKind.i64 (n : Int) rfl
      have t1 := fun p : OldOf w2 => (hs1.old p.old).text
      have t2 := fun p : OldOf w2 => (hs2.old p.old).text
      have hb := HE.out.2 x1 y1 n (by rw [hn, x2, y2])
      rw [← x2, ← y2] at hb
      have b0 := (R2.out.1.block _ (lt_of_heap B.out.2.1) (fun f => f)).trans B.out.2.1
      have b1 := (R2.out.1.block _ (lt_of_heap B.out.2.2) (fun f => f)).trans B.out.2.2
      have m0 := OldOf.cell (blk2 b0).1.1
      have m1 := OldOf.cell (blk2 b0).1.2
      have m2 := OldOf.cell (blk2 b1).1.1
      have m3 := OldOf.cell (blk2 b1).1.2
      have hl1 : L1.length ≤ 9223372036854775807 := by obtain ⟨_, _, _, g1, g2⟩ := R2.out.2.2.2.len; unfold maxLen at g2; omega
      have hl2 : L2.length ≤ 9223372036854775807 := by obtain ⟨_, _, _, g1, g2⟩ := R2.out.2.1.len; unfold maxLen at g2; omega
      clear hs1 hs2 x1 x2 y1 y2 hn b0 b1
      cases ce
      all_goals
        go_wp2_with fail
        refine wp_region_quiet_old (by kernel_rfl) (by kernel_rfl) ?_
        repeat (go_big_quiet_step (((go_at_call 16; exact Calls.quiet_of_old (HE.out.1 _ ((B.out.1.trans R2.out.1).trans (OldOf.old _)))))))
        refine wpQuiet_nil ?_
        intro _ hpq
        obtain ⟨pq, hpq'⟩ := hpq
        subst hpq'
        go_wp2_with fail
        go_meet
        case rel => exact pq.old
  have K2 := Lib.hid ((B.out.1.trans R2.out.1).trans hcut)
  clear hcut HT HE R1 R2 B
  go_wp2_with fail
  refine (P3.out _ K2.out).mono ?_
  rintro e w3 ⟨p3, d3, z3, L3, rfl, k3, s3, h3⟩
  have R3 := Lib.hid (And.intro (K2.out.trans k3) (And.intro s3 h3))
  clear k3 s3 h3
  go_wp2_with fail
  refine (P4.out _ R3.out.1).mono ?_
  rintro e w4 ⟨p4, d4, z4, L4, rfl, k4, s4, h4⟩
  have R4 := Lib.hid (And.intro (R3.out.1.trans k4) (And.intro s4 (And.intro h4 (R3.out.2.1.old k4))))
  clear k4 s4 h4
  rcases R3.out.2.2 with ⟨x1, x2, rfl⟩ | ⟨x1, x2, rfl⟩
  · rcases R4.out.2.2.1 with ⟨y1, y2, rfl⟩ | ⟨y1, y2, rfl⟩
    · obtain ⟨n, hn⟩ : ∃ n, n = min L3.length L4.length := ⟨_, rfl⟩
      have hmin : min (L3.length : Int) (L4.length : Int) = (n : Int) := by omega
      obtain ⟨q1, e1, hr1, hs1, _⟩ := R4.out.2.2.2.upto n (by omega) IntKind.i64 (n : Int) rfl
      obtain ⟨q2, e2, hr2, hs2, _⟩ := R4.out.2.1.upto n (by omega) IntKind.i64 (n : Int) rfl
      have t1 := fun p : OldOf w4 => (hs1.old p.old).text
      have t2 := fun p : OldOf w4 => (hs2.old p.old).text
      have hb := HP.out.2 x1 y1 n (by rw [hn, x2, y2])
      rw [← x2, ← y2] at hb
      have hl1 : L3.length ≤ 9223372036854775807 := by obtain ⟨_, _, _, g1, g2⟩ := R4.out.2.2.2.len; unfold maxLen at g2; omega
      have hl2 : L4.length ≤ 9223372036854775807 := by obtain ⟨_, _, _, g1, g2⟩ := R4.out.2.1.len; unfold maxLen at g2; omega
      clear hs1 hs2 x1 x2 y1 y2 hn
      cases cp
      all_goals
        go_wp2_with fail
        refine wp_region_quiet_old (by kernel_rfl) (by kernel_rfl) ?_
        repeat (go_big_quiet_step (((first | (go_at_call 20; exact Calls.quiet_of_old (HP.out.1 _ (R4.out.1.trans (OldOf.old _)))) | (go_at_call 18; exact Calls.quiet_of_old (wakes_any _))))))
        refine wpQuiet_nil ?_
        intro _ hpq
        obtain ⟨pq, hpq'⟩ := hpq
        subst hpq'
        go_wp2_with fail
        go_ret
        exact ⟨rfl, R4.out.1.trans pq.old⟩
    · clear x1 x2 y1 y2
      go_wp2_with fail
      refine (wakes_any _).mono ?_
      rintro e w9 ⟨rfl, k9⟩
      have K9 := Lib.hid k9
      clear k9
      go_wp2_with fail
      go_ret
      exact ⟨rfl, R4.out.1.trans K9.out⟩
  · clear x1 x2
    go_wp2_with fail
    refine (wakes_any _).mono ?_
    rintro e w9 ⟨rfl, k9⟩
    have K9 := Lib.hid k9
    clear k9
    go_wp2_with fail
    go_ret
    exact ⟨rfl, R4.out.1.trans K9.out⟩
end Go.Proofs.Ytlpbbcjmmhabfaa

namespace Go.Proofs.Ytlpbbcjmmhabfaa
open Go.ChangeShapes Go.WideShapes Go.ChangeAt Go.RowKit

set_option maxRecDepth 100000 in
theorem walk_CodecApart {H : Type} (enc : TypeId × Value → H) (W : World) (base : Nat) {v0 v1 v2 v3 : Value} {d0 d1 d2 d3 : DataW H} {p0 p1 p2 p3 : List MemPlace}
    (hv0 : Value.okWide Try.prog W .any base 24 v0) (h0 : DataW.Trod enc Try.prog W 0 (fun _ => true) true 24 v0 d0 p0)
    (hv1 : Value.okWide Try.prog W .any base 24 v1) (h1 : DataW.Trod enc Try.prog W 0 (fun _ => true) true 24 v1 d1 p1)
    (hv2 : Value.okWide Try.prog W .any base 40 v2) (h2 : DataW.Trod enc Try.prog W 0 (fun _ => true) true 40 v2 d2 p2)
    (hv3 : Value.okWide Try.prog W .any base 40 v3) (h3 : DataW.Trod enc Try.prog W 0 (fun _ => true) true 40 v3 d3 p3) :
    Calls Try.prog 4 #[v0, v1, v2, v3] W fun e W' => e = .returned (.bool true) ∧ Below W.heap.size W W' := by
  obtain ⟨k, a, es, rfl, ha, hf, hlt⟩ := read_event hv0 h0
  obtain ⟨k', a', es', rfl, ha', hf', hlt'⟩ := read_event hv1 h1
  obtain ⟨cs, hc, hcl⟩ := read_pred hv2 h2
  obtain ⟨cs', hc', hcl'⟩ := read_pred hv3 h3
  exact (apart_any k k' a a' es es' v2 v3 cs cs' W ha hlt hf ha' hlt' hf' hc hcl hc' hcl').mono fun e W' h => ⟨h.1, Old.below h.2⟩
end Go.Proofs.Ytlpbbcjmmhabfaa

namespace Go.Proofs.Ytlpbbcjmmhabfaa.codecApart
open Go.ChangeShapes Go.WideShapes Go.ChangeAt Go.RowKit
theorem own : ownKnob Try.prog.godebug = none := by kernel_rfl
theorem laidOut : laidOutB Try.prog = true := by kernel_rfl

set_option maxRecDepth 100000 in
theorem lifted (os : Os) (started : os.Started) (H : Type) (enc : TypeId × Value → H) :
    ReturnsInHanded {} Try.checked os 4 .any (Rows.codecApartSpec.pre6 enc Try.prog Try.f4 Rows.codecApartRow.domain false) (Rows.codecApartSpec.post enc Try.prog Try.f4 false true false false) := by
  refine returnsInHanded_of_change (C := Try.checked) own started (by kernel_rfl) Try.func4
    (ChangeSpec.witness6 (enc := enc) (C := Try.checked) false ⟨#[], #[.agg #[.string ⟨#[]⟩, .slice none 0 0], .agg #[.string ⟨#[]⟩, .slice none 0 0], .slice none 0 0, .slice none 0 0], []⟩ 8 (by kernel_rfl) (by kernel_rfl) (by kernel_rfl) (by kernel_rfl)) ?_
  intro W base args ds gs before hval0 hW _ _
  have hval : ∀ (j : Nat) t v, Try.f4.params[j]? = some t → args[j]? = some v → Value.okWide Try.prog W .any base t v := hval0
  have hW' := hW
  obtain ⟨p, q, hA0, hV, rfl, hfz, hnd⟩ := hW
  have hA : DataW.TrodAll enc Try.prog W 0 (fun _ => true) true Try.f4.params.toList args.toList ds p := hA0
  rw [Try.params4] at hA hval
  obtain ⟨v0, vs0, d0, ds0, p0, q0, hargs, rfl, rfl, h0, r0⟩ := trodAll_cons hA
  obtain ⟨v1, vs1, d1, ds1, p1, q1, rfl, rfl, rfl, h1, r1⟩ := trodAll_cons r0
  obtain ⟨v2, vs2, d2, ds2, p2, q2, rfl, rfl, rfl, h2, r2⟩ := trodAll_cons r1
  obtain ⟨v3, vs3, d3, ds3, p3, q3, rfl, rfl, rfl, h3, r3⟩ := trodAll_cons r2
  obtain ⟨rfl, rfl, rfl⟩ := trodAll_nil r3
  obtain rfl : args = #[v0, v1, v2, v3] := by cases args; simp_all
  obtain ⟨rfl, rfl⟩ := trodVars_none hV
  have lt0 : ∀ x ∈ p0, x.block < W.heap.size := by obtain ⟨m, hm⟩ := h0; exact DataW.trod_lt m _ _ _ hm
  have lt1 : ∀ x ∈ p1, x.block < W.heap.size := by obtain ⟨m, hm⟩ := h1; exact DataW.trod_lt m _ _ _ hm
  have lt2 : ∀ x ∈ p2, x.block < W.heap.size := by obtain ⟨m, hm⟩ := h2; exact DataW.trod_lt m _ _ _ hm
  have lt3 : ∀ x ∈ p3, x.block < W.heap.size := by obtain ⟨m, hm⟩ := h3; exact DataW.trod_lt m _ _ _ hm
  clear hA0 hval0
  refine (walk_CodecApart enc W base (hval 0 24 v0 rfl rfl) h0 (hval 1 24 v1 rfl rfl) h1 (hval 2 40 v2 rfl rfl) h2 (hval 3 40 v3 rfl rfl) h3).mono fun e W' ⟨he, bel⟩ => ?_
  subst he
  exact ⟨_, rfl, _, _, _, [], _, [], hW', trodAll_mk1 (shut_bool Try.underlying4 _), (trodAll_cons_mk (Below.trod laidOut (by kernel_rfl) (of_decide_eq_true (by kernel_rfl)) h0 bel lt0) (trodAll_cons_mk (Below.trod laidOut (by kernel_rfl) (of_decide_eq_true (by kernel_rfl)) h1 bel lt1) (trodAll_cons_mk (Below.trod laidOut (by kernel_rfl) (of_decide_eq_true (by kernel_rfl)) h2 bel lt2) (trodAll_cons_mk (Below.trod laidOut (by kernel_rfl) (of_decide_eq_true (by kernel_rfl)) h3 bel lt3) trodAll_mk0)))), rfl, bel.frame _, fun h => by cases h⟩

theorem proved : Rows.CodecApartSaid :=
  OpenClaim.holds_of_wide 4 Try.f4 rfl rfl rfl rfl rfl rfl rfl ⟨rfl, rfl, rfl, rfl, rfl⟩ rfl rfl rfl rfl rfl (by kernel_rfl) Try.func4 (by kernel_rfl)
    (of_decide_eq_true (by kernel_rfl)) (by unfold Func.isWrapper; first | (rw [if_pos (by decide +kernel)]; kernel_rfl) | (rw [if_neg (by decide +kernel)]; exact ⟨rfl, rfl⟩))
    (fun os started H enc _ => lifted os started H enc)
end Go.Proofs.Ytlpbbcjmmhabfaa.codecApart
