/- DERIVED. CodecPages, walked. · DERIVED. CodecPages, from how its arguments read. · The statement CodecPages, second form: for every input of bulk at most 1048576 the law returns true, and the arguments read as they did. -/
import Derived.Test.YtlpbbcjmmhabfaaZCodecPages09
import Derived.Test.YtlpbbcjmmhabfaaY24
import Derived.Test.YtlpbbcjmmhabfaaY23
import Derived.Test.YtlpbbcjmmhabfaaRows
import Derived.ProofKit
import Derived.OpenShut
import Derived.JoinedCond
import Derived.ChangeOld
namespace Go.Proofs.Ytlpbbcjmmhabfaa
open Go.RowKit

set_option maxRecDepth 100000 in
set_option maxHeartbeats 8000000 in
theorem pages_any (x : Pg) (bv : Value) (l : List UInt8) (w : World) (hx : x.fine w) (hb : Sees w bv l) (hl : l.length ≤ 1000000000) :
    Calls Try.prog 7 #[.agg x.cells.toArray, bv] w fun e w' => e = .returned (.bool true) ∧ Old w w' := by
  have P1 := Lib.hid (fun W (o : Old w W) => put_page_v x W (Pg.fine.old hx o))
  have P2 := Lib.hid (fun W (o : Old w W) => ref_put_page_v x W (Pg.fine.old hx o))
  have T1 := Lib.hid (fun W (o : Old w W) => take_page_u bv l W (hb.old o) hl)
  have T2 := Lib.hid (fun W (o : Old w W) => ref_take_page_u bv l W (hb.old o))
  have M1 := fun W (o : Old w W) => may_page_any x W (Pg.fine.old hx o)
  have M2 := fun W (o : Old w W) => ref_may_page_any x W (Pg.fine.old hx o)
  generalize pgOk x.plain = ok at P1 P2 M1 M2
  generalize pageForm x.plain = F at P1 P2
  have HM1 := Lib.hid M1
  have HM2 := Lib.hid M2
  obtain ⟨fr, en, iv, its, gv, gs, last⟩ := x
  obtain ⟨a1, c1, e9, _, _⟩ := hx.1.1.len
  obtain ⟨a3, c3, e8, _, _⟩ := hx.1.2.2.len
  simp only at e9 e8
  subst e9 e8
  obtain ⟨a2, c2, rfl, _, _⟩ := hb.len
  unfold Pg.cells at P1 P2 HM1 HM2 ⊢
  simp only at P1 P2 HM1 HM2 ⊢
  obtain ⟨W0, hW0⟩ : ∃ W0, w.alloc (.cells #[.int .u64 fr, .int .u64 en, .slice a1 its.length c1, .slice a3 gs.length c3, .bool last] 50) = W0 := ⟨_, rfl⟩
  have k0 : Old w W0 := by rw [← hW0]; exact (Keeps.refl _ _).alloc _
  have b0 : W0.heap[w.heap.size]? = some (.cells #[.int .u64 fr, .int .u64 en, .slice a1 its.length c1, .slice a3 gs.length c3, .bool last] 50 (0, 0)) := by rw [← hW0]; exact heap_alloc_new _ _
  have g0 := blk5 b0
  have H := Lib.hid (And.intro k0 b0)
  clear hx hb k0 b0 hl M1 M2
  go_enter Try.func7, Try.ntmps7
  go_wp2_with fail
  refine (P1.out _ H.out.1).mono ?_
  rintro e w1 ⟨p1, d1, z1, L1, rfl, k1, o1, e1, f1⟩
  have R1 := Lib.hid (And.intro k1 (And.intro o1 (And.intro e1 f1)))
  clear g0
  have g0 := blk5 ((k1.block _ (lt_of_heap H.out.2) (fun f => f)).trans H.out.2)
  clear k1 o1 e1 f1
  go_wp2_with fail
  refine (P2.out _ (H.out.1.trans R1.out.1)).mono ?_
  rintro e w2 ⟨p2, d2, z2, L2, rfl, k2, o2, e2, f2⟩
  obtain rfl : L2 = L1 := e2.trans R1.out.2.2.1.symm
  obtain rfl : z2 = z1 := f2.trans R1.out.2.2.2.symm
  have R2 := Lib.hid (And.intro k2 o2)
  clear k2 o2 e2 f2 g0
  go_wp2_with fail
  refine (T1.out _ (H.out.1.trans (R1.out.1.trans R2.out.1))).mono ?_
  rintro e w3 ⟨fr3, en3, p3, m3, d3, is3, q3, n3, h3d, gs3, lst3, z3, rfl, k3, s3, h3⟩
  obtain rfl : m3 = is3.length := by obtain ⟨_, _, e, _⟩ := s3.1.1.len; simp only [Value.slice.injEq] at e; exact e.2.1
  obtain rfl : n3 = gs3.length := by obtain ⟨_, _, e, _⟩ := s3.1.2.2.len; simp only [Value.slice.injEq] at e; exact e.2.1
  obtain ⟨W4, hW4⟩ : ∃ W4, w3.alloc (.cells #[.int .u64 fr3, .int .u64 en3, .slice p3 is3.length d3, .slice q3 gs3.length h3d, .bool lst3] 50) = W4 := ⟨_, rfl⟩
  have k4 : Old w3 W4 := by rw [← hW4]; exact (Keeps.refl _ _).alloc _
  have b4 : W4.heap[w3.heap.size]? = some (.cells #[.int .u64 fr3, .int .u64 en3, .slice p3 is3.length d3, .slice q3 gs3.length h3d, .bool lst3] 50 (0, 0)) := by rw [← hW4]; exact heap_alloc_new _ _
  have R4 := Lib.hid (And.intro (k3.trans k4) (And.intro (Pg.fine.old s3 k4) (And.intro h3 b4)))
  have HW4 := Lib.hid hW4
  clear k3 s3 h3 k4 b4 hW4
  go_upto_region 4 with fail
  try rw [HW4.out]
  go_wp2_with fail
  refine (T2.out _ (H.out.1.trans (R1.out.1.trans (R2.out.1.trans R4.out.1)))).mono ?_
  rintro e w5 ⟨fr5, en5, p5, m5, d5, is5, q5, n5, h5d, gs5, lst5, z5, rfl, k5, s5, h5⟩
  obtain rfl : m5 = is5.length := by obtain ⟨_, _, e, _⟩ := s5.1.1.len; simp only [Value.slice.injEq] at e; exact e.2.1
  obtain rfl : n5 = gs5.length := by obtain ⟨_, _, e, _⟩ := s5.1.2.2.len; simp only [Value.slice.injEq] at e; exact e.2.1
  have heq : fr5 = fr3 ∧ en5 = en3 ∧ is5.map It.plain = is3.map It.plain ∧ gs5 = gs3 ∧ lst5 = lst3 ∧ z5 = z3 := by
    rcases R4.out.2.2.1 with ⟨e1, e2⟩ | ⟨e1, e2, e3, e4, e5, e6, _, _, e7⟩
    · rcases h5 with ⟨f1, f2⟩ | ⟨f1, _⟩
      · rw [e1] at f1
        simp only [Option.some.injEq, PPg.mk.injEq] at f1
        exact ⟨f1.1.symm, f1.2.1.symm, f1.2.2.1.symm, f1.2.2.2.1.symm, f1.2.2.2.2.symm, f2.trans e2.symm⟩
      · rw [e1] at f1; cases f1
    · rcases h5 with ⟨f1, _⟩ | ⟨f1, f2, f3, f4, f5, f6, _, _, f7⟩
      · rw [e1] at f1; cases f1
      · exact ⟨f2.trans e2.symm, f3.trans e3.symm, by rw [f4, e4], f5.trans e5.symm, f6.trans e6.symm, f7.trans e7.symm⟩
  obtain ⟨rfl, rfl, hii, rfl, rfl, rfl⟩ := heq
  obtain ⟨W6, hW6⟩ : ∃ W6, w5.alloc (.cells #[.int .u64 fr5, .int .u64 en5, .slice p5 is5.length d5, .slice q5 gs5.length h5d, .bool lst5] 50) = W6 := ⟨_, rfl⟩
  have k6 : Old w5 W6 := by rw [← hW6]; exact (Keeps.refl _ _).alloc _
  have b6 : W6.heap[w5.heap.size]? = some (.cells #[.int .u64 fr5, .int .u64 en5, .slice p5 is5.length d5, .slice q5 gs5.length h5d, .bool lst5] 50 (0, 0)) := by rw [← hW6]; exact heap_alloc_new _ _
  have kall : Old W0 W6 := R1.out.1.trans (R2.out.1.trans (R4.out.1.trans (k5.trans k6)))
  have bu := ((k5.trans k6).block _ (lt_of_heap R4.out.2.2.2) (fun f => f)).trans R4.out.2.2.2
  have bx := (kall.block _ (lt_of_heap H.out.2) (fun f => f)).trans H.out.2
  have t1 := fun p : OldOf W6 => (R1.out.2.1.sees.old ((R2.out.1.trans (R4.out.1.trans (k5.trans k6))).trans p.old)).text
  have t2 := fun p : OldOf W6 => (R2.out.2.sees.old ((R4.out.1.trans (k5.trans k6)).trans p.old)).text
  have bs := bytes_self ⟨L2.toArray⟩
  have u0 := OldOf.cell (blk5 bu).1.1
  have u1 := OldOf.cell (blk5 bu).1.2.1
  have u2 := OldOf.cell (blk5 bu).1.2.2.1
  have u3 := OldOf.cell (blk5 bu).1.2.2.2.1
  have u4 := OldOf.cell (blk5 bu).1.2.2.2.2
  have v0 := OldOf.cell (blk5 b6).1.1
  have v1 := OldOf.cell (blk5 b6).1.2.1
  have v2 := OldOf.cell (blk5 b6).1.2.2.1
  have v3 := OldOf.cell (blk5 b6).1.2.2.2.1
  have v4 := OldOf.cell (blk5 b6).1.2.2.2.2
  have x0 := OldOf.cell (blk5 bx).1.1
  have x1 := OldOf.cell (blk5 bx).1.2.1
  have x2 := OldOf.cell (blk5 bx).1.2.2.1
  have x3 := OldOf.cell (blk5 bx).1.2.2.2.1
  have x4 := OldOf.cell (blk5 bx).1.2.2.2.2
  have CS := fun (p : OldOf W6) => same_page_any ⟨fr5, en5, .slice p3 is3.length d3, is3, .slice q3 gs5.length h3d, gs5, lst5⟩ ⟨fr5, en5, .slice p5 is5.length d5, is5, .slice q5 gs5.length h5d, gs5, lst5⟩ p.to (Pg.fine.old R4.out.2.1 ((k5.trans k6).trans p.old)) (Pg.fine.old s5 (k6.trans p.old))
  have hself : sameG (Pg.plain ⟨fr5, en5, .slice p3 is3.length d3, is3, .slice q3 gs5.length h3d, gs5, lst5⟩) (Pg.plain ⟨fr5, en5, .slice p5 is5.length d5, is5, .slice q5 gs5.length h5d, gs5, lst5⟩) = true := (sameG_iff _ _).2 (by unfold Pg.plain; simp only [hii])
  rw [hself] at CS
  unfold Pg.cells at CS
  have HCS := Lib.hid CS
  have KA := Lib.hid (H.out.1.trans kall)
  have HW6 := Lib.hid hW6
  clear k5 s5 h5 k6 b6 kall bu bx hW6 CS hself hii
  go_upto_region 5 with fail
  try rw [HW6.out]
  cases ok
  all_goals
    go_wp2_with fail
    refine wp_region_quiet_old (by kernel_rfl) (by kernel_rfl) ?_
    repeat (go_big_quiet_step (((first | (go_at_call 33; exact Calls.quiet_of_old (HCS.out _)) | (go_at_call 34; exact Calls.quiet_of_old (HM1.out _ (KA.out.trans (OldOf.old _)))) | (go_at_call 35; exact Calls.quiet_of_old (HM2.out _ (KA.out.trans (OldOf.old _)))) | (go_at_call 18; exact Calls.quiet_of_old (wakes_any _))))))
    refine wpQuiet_nil ?_
    intro _ hpq
    obtain ⟨pq, hpq'⟩ := hpq
    subst hpq'
    go_wp2_with fail
    go_ret
    exact ⟨rfl, KA.out.trans pq.old⟩
end Go.Proofs.Ytlpbbcjmmhabfaa

namespace Go.Proofs.Ytlpbbcjmmhabfaa
open Go.ChangeShapes Go.WideShapes Go.ChangeAt Go.RowKit

set_option maxRecDepth 100000 in
theorem walk_CodecPages {H : Type} (enc : TypeId × Value → H) (W : World) (base : Nat) {v0 v1 : Value} {d0 d1 : DataW H} {p0 p1 : List MemPlace}
    (hv0 : Value.okWide Try.prog W .any base 50 v0) (h0 : DataW.Trod enc Try.prog W 0 (fun _ => true) true 50 v0 d0 p0)
    (hv1 : Value.okWide Try.prog W .any base 25 v1) (h1 : DataW.Trod enc Try.prog W 0 (fun _ => true) true 25 v1 d1 p1)
    (hk : Rows.uptoBulkAll [d0, d1] ≤ 1048576) :
    Calls Try.prog 7 #[v0, v1] W fun e W' => e = .returned (.bool true) ∧ Below W.heap.size W W' := by
  obtain ⟨x, rfl, hx, _⟩ := read_page hv0 h0
  obtain ⟨l, hb, hlb⟩ := read_bytes hv1 h1
  simp only [Rows.uptoBulkAll] at hk
  exact (pages_any x v1 l W hx hb (by omega)).mono fun e W' h => ⟨h.1, Old.below h.2⟩
end Go.Proofs.Ytlpbbcjmmhabfaa

namespace Go.Proofs.Ytlpbbcjmmhabfaa.codecPages
open Go.ChangeShapes Go.WideShapes Go.ChangeAt Go.RowKit
theorem own : ownKnob Try.prog.godebug = none := by kernel_rfl
theorem laidOut : laidOutB Try.prog = true := by kernel_rfl

set_option maxRecDepth 100000 in
theorem lifted (os : Os) (started : os.Started) (H : Type) (enc : TypeId × Value → H) (F : Stop.Interp) :
    ReturnsInHanded {} Try.checked os 7 .any ((Rows.OpenSpec.upto Rows.codecPagesSpec).pre6 enc Try.prog Try.f7 Rows.codecPagesUptoRow.domain false) (((Rows.OpenSpec.upto Rows.codecPagesSpec).at F).post enc Try.prog Try.f7 false true false false) := by
  refine returnsInHanded_of_cond (C := Try.checked) (s := Rows.OpenSpec.upto Rows.codecPagesSpec) (k := Rows.uptoSmall) rfl own started (by kernel_rfl) Try.func7
    (OpenSpec.witness (enc := enc) (C := Try.checked) (s := Rows.OpenSpec.upto Rows.codecPagesSpec) (k := Rows.uptoSmall) rfl false ⟨#[], #[.agg #[.int .u64 0, .int .u64 0, .slice none 0 0, .slice none 0 0, .bool false], .slice none 0 0], []⟩ 8 (by kernel_rfl) (by kernel_rfl) (by kernel_rfl)
      (x := ([.agg [.lit (.int .u64 0), .lit (.int .u64 0), .nil, .nil, .lit (.bool false)], .nil], [], [])) (by kernel_rfl) rfl (by kernel_rfl)) ?_
  intro W base args ds gs before hval0 hW _ hk0 _
  have hval : ∀ (j : Nat) t v, Try.f7.params[j]? = some t → args[j]? = some v → Value.okWide Try.prog W .any base t v := hval0
  have hW' := hW
  obtain ⟨p, q, hA0, hV, rfl, hfz, hnd⟩ := hW
  have hA : DataW.TrodAll enc Try.prog W 0 (fun _ => true) true Try.f7.params.toList args.toList ds p := hA0
  rw [Try.params7] at hA hval
  obtain ⟨v0, vs0, d0, ds0, p0, q0, hargs, rfl, rfl, h0, r0⟩ := trodAll_cons hA
  obtain ⟨v1, vs1, d1, ds1, p1, q1, rfl, rfl, rfl, h1, r1⟩ := trodAll_cons r0
  obtain ⟨rfl, rfl, rfl⟩ := trodAll_nil r1
  obtain rfl : args = #[v0, v1] := by cases args; simp_all
  obtain ⟨rfl, rfl⟩ := trodVars_none hV
  have lt0 : ∀ x ∈ p0, x.block < W.heap.size := by obtain ⟨m, hm⟩ := h0; exact DataW.trod_lt m _ _ _ hm
  have lt1 : ∀ x ∈ p1, x.block < W.heap.size := by obtain ⟨m, hm⟩ := h1; exact DataW.trod_lt m _ _ _ hm
  have hk : Rows.uptoBulkAll [d0, d1] ≤ 1048576 := of_decide_eq_true hk0
  clear hA0 hval0
  refine (walk_CodecPages enc W base (hval 0 50 v0 rfl rfl) h0 (hval 1 25 v1 rfl rfl) h1 hk).mono fun e W' ⟨he, bel⟩ => ?_
  subst he
  exact ⟨_, rfl, _, _, _, [], _, [], hW', trodAll_mk1 (shut_bool Try.underlying4 _), (trodAll_cons_mk (Below.trod laidOut (by kernel_rfl) (of_decide_eq_true (by kernel_rfl)) h0 bel lt0) (trodAll_cons_mk (Below.trod laidOut (by kernel_rfl) (of_decide_eq_true (by kernel_rfl)) h1 bel lt1) trodAll_mk0)), rfl, bel.frame _, fun h => by cases h⟩

theorem proved : Rows.CodecPagesUptoSaid :=
  OpenClaim.holds_of_cond 7 Try.f7 rfl rfl rfl rfl rfl rfl rfl ⟨rfl, rfl, rfl, rfl, rfl⟩ rfl rfl rfl rfl rfl (by kernel_rfl) Try.func7 (by kernel_rfl)
    (of_decide_eq_true (by kernel_rfl)) (by unfold Func.isWrapper; first | (rw [if_pos (by decide +kernel)]; kernel_rfl) | (rw [if_neg (by decide +kernel)]; exact ⟨rfl, rfl⟩))
    (fun os started H enc _ F => lifted os started H enc F)
end Go.Proofs.Ytlpbbcjmmhabfaa.codecPages
