/- DERIVED. CodecPreds, walked. · DERIVED. CodecPreds, from how its arguments read. · The statement CodecPreds, second form: for every input of bulk at most 1048576 the law returns true, and the arguments read as they did. -/
import Derived.Test.YtlpbbcjmmhabfaaZCodecPreds06
import Derived.Test.YtlpbbcjmmhabfaaY22
import Derived.Deep.DeepCutAuto
import Derived.Test.YtlpbbcjmmhabfaaY23
import Derived.Test.YtlpbbcjmmhabfaaRows
import Derived.ProofKit
import Derived.OpenShut
import Derived.JoinedCond
import Derived.ChangeOld
namespace Go.Proofs.Ytlpbbcjmmhabfaa
open Go.RowKit

/-- what is told of bytes as a predicate, the rows fresh -/
def TakVP (L : List UInt8) (w : World) (e : Ending) (w' : World) : Prop :=
  ∃ (p : Option Addr) (n c : Nat) (cs : List Con) (z : Int), e = .returned (.tuple #[.slice p n c, .int .i64 z]) ∧ Old w w' ∧ OwnN w' w.heap.size 105 7 Con.cells Con.sv ConF (.slice p n c) cs ∧ ((takeP L = some (cs.map Con.plain) ∧ z = 0) ∨ (takeP L = none ∧ cs = [] ∧ z = 5))
theorem take_pred_v (v : Value) (L : List UInt8) (w : World) (h : Sees w v L) (hl : L.length ≤ 1000000000) : Calls Try.prog 37 #[v] w (TakVP L w) :=
  (take_pred_any v L w h hl).mono fun e w' ht => by
    cases hE : takeP L with
    | none =>
      rw [hE] at ht
      obtain ⟨k, rfl⟩ := ht
      exact ⟨none, 0, 0, [], 5, rfl, k, OwnN.nil _ _, Or.inr ⟨hE, rfl, rfl⟩⟩
    | some x =>
      rw [hE] at ht
      obtain ⟨k, p, n, c, s', rfl, hs, ho⟩ := ht
      exact ⟨p, n, c, s', 0, rfl, k, ho, Or.inl ⟨hE.trans (by rw [hs]), rfl⟩⟩

set_option maxRecDepth 100000 in
set_option maxHeartbeats 8000000 in
theorem preds_any (v : Value) (cs : List Con) (bv : Value) (l : List UInt8) (w : World) (hc : Cons w v cs) (hlt : 0 < cs.length → ∀ b, v.ownBlock = some b → b < w.heap.size) (hb : Sees w bv l) (hl : l.length ≤ 900000000) :
    Calls Try.prog 8 #[v, bv] w fun e w' => e = .returned (.bool true) ∧ Old w w' := by
  have P1 := Lib.hid (fun W (o : Old w W) => put_pred_v v cs W (hc.old o) (fun h0 b hb => Nat.lt_of_lt_of_le (hlt h0 b hb) o.size))
  have P2 := Lib.hid (fun W (o : Old w W) => ref_put_pred_v v cs W (hc.old o) (fun h0 b hb => Nat.lt_of_lt_of_le (hlt h0 b hb) o.size))
  have T2 := Lib.hid (fun W (o : Old w W) => ref_take_pred_v bv l W (hb.old o))
  obtain ⟨a1, c1, rfl, _, _⟩ := hc.1.len
  obtain ⟨a2, c2, rfl, _, hmx⟩ := hb.len
  have HB := Lib.hid hb
  have HN := Lib.hid (show ([] : List UInt8).length + l.length ≤ 1152921504606 by simp; omega)
  have hl63 : l.length ≤ 9223372036854775807 := by omega
  have hl9 := Lib.hid (show l.length ≤ 1000000000 by omega)
  clear hc hlt hb hmx hl
  go_enter Try.func8, Try.ntmps8
  go_upto_region 2 with (at_builtin; (refine wpList_append_sees rfl _ _ rfl w.heap.size (.slice none 0 0) [] rfl (Owns.nil _ _) _ l rfl HB.out HN.out (Nat.le_refl _) ?_; intro v1 w1 ho1 hg1; have O1 := Lib.hid (And.intro ho1 hg1); clear ho1 hg1))
  have ho1 : Owns w1 w.heap.size v1 l := O1.out.1
  have k1 : Old w w1 := (Keeps.refl (fun _ => False) w).grown O1.out.2 (fun k hk _ => by cases hk)
  obtain ⟨p1, d1, e1, _, _⟩ := ho1.sees.len
  subst e1
  have KM := Lib.hid (And.intro ho1 k1)
  clear ho1 k1 O1
  go_wp2_with fail
  refine (P1.out _ KM.out.2).mono ?_
  rintro e w2 ⟨p2, d2, z2, L2, rfl, k2, o2, hL2, hz2⟩
  have R2 := Lib.hid (And.intro k2 (And.intro o2 (And.intro hL2 hz2)))
  clear k2 o2 hL2 hz2
  go_wp2_with fail
  refine (P2.out _ (KM.out.2.trans R2.out.1)).mono ?_
  rintro e w3 ⟨p3, d3, z3, L3, rfl, k3, o3, hL3, hz3⟩
  have R3 := Lib.hid (And.intro k3 (And.intro o3 (And.intro (hL3.trans R2.out.2.2.1.symm) (hz3.trans R2.out.2.2.2.symm))))
  clear k3 o3 hL3 hz3
  go_wp2_with fail
  refine (take_pred_v _ l w3 (KM.out.1.sees.old (R2.out.1.trans R3.out.1)) hl9.out).mono ?_
  rintro e w4 ⟨p4, n4, d4, cs4, z4, rfl, k4, s4, ht4⟩
  obtain rfl : n4 = cs4.length := by obtain ⟨_, _, e, _⟩ := (s4.1.sees (fun _ => rfl) (by decide)).len; simp only [Value.slice.injEq] at e; exact e.2.1
  have k14 : Old w1 w4 := (R2.out.1.trans R3.out.1).trans k4
  have R5 := Lib.hid (And.intro k14 (And.intro (R2.out.2.1.old (R3.out.1.trans k4)) (And.intro (R3.out.2.1.old k4) (And.intro s4 ht4))))
  have sz := Lib.hid (And.intro R2.out.1.size (And.intro R3.out.1.size k4.size))
  have MN := Lib.hid (KM.out.1.old k14)
  clear k4 s4 ht4 k14
  go_wp2_with fail
  have KW5 := Lib.hid (KM.out.2.trans R5.out.1)
  go_loopw [12] (fun v12 wr => ∃ (i : Nat) (m : List UInt8), i ≤ l.length ∧ v12 = .int .i64 i ∧ m.length = l.length ∧ Owns wr w.heap.size (.slice p1 l.length d1) m ∧ Keeps (fun k => (Value.slice p1 l.length d1).ownBlock = some k) w4 wr) (fun v12 _ => l.length - (intOf v12).toNat)
  case atStart => exact ⟨0, l, Nat.zero_le _, rfl, rfl, MN.out, Keeps.refl _ _⟩
  case round =>
    obtain ⟨i, m, hi, rfl, hml, hm, hk⟩ := hrel
    by_cases hlt : i < l.length
    · obtain ⟨g, hg⟩ : ∃ g, p1 = some ⟨g, 0, none⟩ := by
        rcases hm.2 with ⟨e, h⟩ | ⟨g, cap, cur, e, _⟩
        · simp only [Value.slice.injEq] at e; omega
        · simp only [Value.slice.injEq] at e; exact ⟨g, e.1⟩
      subst hg
      obtain ⟨x, hx⟩ : ∃ x, m[i]? = some x := ⟨_, List.getElem?_eq_getElem (by omega)⟩
      have hm' : wr.ownsRow w.heap.size 5 1 (.slice (some ⟨g, 0, none⟩) l.length d1) l.length (m.map u8) := by have h : Owns wr w.heap.size (.slice (some ⟨g, 0, none⟩) l.length d1) m := hm; unfold Owns at h; rwa [hml] at h
      have q : wr.cell? ⟨g, i, none⟩ = some (.int .u8 (x.toNat : Int)) := by rw [World.ownsRow.cellAt hm' i (by omega), List.getElem?_map, hx]; rfl
      have qf := World.ownsRow.frozenAt hm' i
      have i1 : (0 : Int) ≤ (i : Int) := by omega
      have i2 : (i : Int) < (l.length : Int) := by omega
      have hxor := xor255 x
      have hx256 := UInt8.toNat_lt x
      have hst := (World.ownsRow.stored hm' i (.int .u8 ((UInt8.ofNat (255 - x.toNat)).toNat : Int))).1
      have ST : Hid (Owns (wr.setCell ⟨g, i, none⟩ (.int .u8 ((UInt8.ofNat (255 - x.toNat)).toNat : Int))) w.heap.size (.slice (some ⟨g, 0, none⟩) l.length d1) (m.set i (UInt8.ofNat (255 - x.toNat)))) := Lib.hid (by
        unfold Owns
        rw [List.length_set, hml, List.map_set]
        exact hst)
      have KK := Lib.hid (And.intro hml (hk.setCell (p := ⟨g, i, none⟩) (fun _ => rfl) (.int .u8 ((UInt8.ofNat (255 - x.toNat)).toNat : Int))))
      generalize hy : ((UInt8.ofNat (255 - x.toNat)).toNat : Int) = y at hxor ST KK
      clear hy hm hm' hst hx hk hml
      go_wp2_with fail
      go_roundw
      case rel => exact ⟨i + 1, m.set i (UInt8.ofNat (255 - x.toNat)), by omega, by go_num, by rw [List.length_set]; exact KK.out.1, ST.out, KK.out.2⟩
      case measure => simp [intOf]; omega
    · have hown : ∀ b, (Value.slice p1 l.length d1).ownBlock = some b → w.heap.size ≤ b ∧ b < w1.heap.size := fun b hb => KM.out.1.block b hb
      have k6 : Old w wr := KW5.out.then hk (fun i hi e => by have := (hown i e).1; omega)
      have s1 := sz.out.1
      have s2 := sz.out.2.1
      have s3 := sz.out.2.2
      have x6 := R5.out.2.1.keeps hk (fun b hb e => by have := (R5.out.2.1.block b hb).1; have := (hown b e).2; omega)
      have y6 := R5.out.2.2.1.keeps hk (fun b hb e => by have := (R5.out.2.2.1.block b hb).1; have := (hown b e).2; omega)
      have u6 := R5.out.2.2.2.1.keeps conF_k hk (fun b hb _ e => by have := (hown b e).2; omega)
      have R6 := Lib.hid (And.intro k6 (And.intro x6 (And.intro y6 u6)))
      clear s1 s2 s3 x6 y6 u6 k6 hk hm hml hown
      go_wp2_with fail
      refine (T2.out _ R6.out.1).mono ?_
      rintro e w7 ⟨p7, n7, d7, cs7, z7, rfl, k7, s7, hb7, ht7⟩
      obtain rfl : n7 = cs7.length := by obtain ⟨_, _, e, _⟩ := s7.1.len; simp only [Value.slice.injEq] at e; exact e.2.1
      have heq : cs4.map Con.plain = cs7.map Con.plain ∧ z7 = z4 := by
        rcases R5.out.2.2.2.2 with ⟨e1, e2⟩ | ⟨e1, e2, e3⟩
        · rcases ht7 with ⟨f1, f2⟩ | ⟨f1, _⟩
          · rw [e1] at f1
            simp only [Option.some.injEq] at f1
            exact ⟨f1, f2.trans e2.symm⟩
          · rw [e1] at f1; cases f1
        · rcases ht7 with ⟨f1, _⟩ | ⟨f1, f2, f3⟩
          · rw [e1] at f1; cases f1
          · exact ⟨by rw [e2, f2], f3.trans e3.symm⟩
      obtain ⟨hpl, rfl⟩ := heq
      have e23 : L3 = L2 := R3.out.2.2.1
      have ez : z3 = z2 := R3.out.2.2.2
      subst e23 ez
      have t1 := (R6.out.2.1.sees.old k7).text
      have t2 := (R6.out.2.2.1.sees.old k7).text
      have bs := bytes_self ⟨L3.toArray⟩
      have CS := same_pred_any (.slice p4 cs4.length d4) (.slice p7 cs7.length d7) cs4 cs7 w7 ((R6.out.2.2.2.1.sees (fun _ => rfl) (by decide)).old k7) s7.1 (fun x hx => SeesR.old (R6.out.2.2.2.2 x hx).1 k7) (fun x hx => (s7.2 x hx).1)
      rw [(sameP_iff).2 hpl] at CS
      have HCS := Lib.hid CS
      have R8 := Lib.hid (R6.out.1.trans k7)
      clear k7 s7 hb7 ht7 CS R5 hpl
      go_wp2_with fail
      refine HCS.out.mono ?_
      rintro e w9 ⟨rfl, k9⟩
      have K9 := Lib.hid (R8.out.trans k9)
      clear k9 t1 t2
      go_wp2_with fail
      refine (wakes_any _).mono ?_
      rintro e wb ⟨rfl, kb⟩
      have KB := Lib.hid (K9.out.trans kb)
      clear kb
      go_wp2_with fail
      go_ret
      exact ⟨rfl, KB.out⟩
end Go.Proofs.Ytlpbbcjmmhabfaa

namespace Go.Proofs.Ytlpbbcjmmhabfaa
open Go.ChangeShapes Go.WideShapes Go.ChangeAt Go.RowKit

set_option maxRecDepth 100000 in
theorem walk_CodecPreds {H : Type} (enc : TypeId × Value → H) (W : World) (base : Nat) {v0 v1 : Value} {d0 d1 : DataW H} {p0 p1 : List MemPlace}
    (hv0 : Value.okWide Try.prog W .any base 40 v0) (h0 : DataW.Trod enc Try.prog W 0 (fun _ => true) true 40 v0 d0 p0)
    (hv1 : Value.okWide Try.prog W .any base 25 v1) (h1 : DataW.Trod enc Try.prog W 0 (fun _ => true) true 25 v1 d1 p1)
    (hk : Rows.uptoBulkAll [d0, d1] ≤ 1048576) :
    Calls Try.prog 8 #[v0, v1] W fun e W' => e = .returned (.bool true) ∧ Below W.heap.size W W' := by
  obtain ⟨cs, hc, hlt⟩ := read_pred hv0 h0
  obtain ⟨l, hb, hlb⟩ := read_bytes hv1 h1
  simp only [Rows.uptoBulkAll] at hk
  exact (preds_any v0 cs v1 l W hc hlt hb (by omega)).mono fun e W' h => ⟨h.1, Old.below h.2⟩
end Go.Proofs.Ytlpbbcjmmhabfaa

namespace Go.Proofs.Ytlpbbcjmmhabfaa.codecPreds
open Go.ChangeShapes Go.WideShapes Go.ChangeAt Go.RowKit
theorem own : ownKnob Try.prog.godebug = none := by kernel_rfl
theorem laidOut : laidOutB Try.prog = true := by kernel_rfl

set_option maxRecDepth 100000 in
theorem lifted (os : Os) (started : os.Started) (H : Type) (enc : TypeId × Value → H) (F : Stop.Interp) :
    ReturnsInHanded {} Try.checked os 8 .any ((Rows.OpenSpec.upto Rows.codecPredsSpec).pre6 enc Try.prog Try.f8 Rows.codecPredsUptoRow.domain false) (((Rows.OpenSpec.upto Rows.codecPredsSpec).at F).post enc Try.prog Try.f8 false true false false) := by
  refine returnsInHanded_of_cond (C := Try.checked) (s := Rows.OpenSpec.upto Rows.codecPredsSpec) (k := Rows.uptoSmall) rfl own started (by kernel_rfl) Try.func8
    (OpenSpec.witness (enc := enc) (C := Try.checked) (s := Rows.OpenSpec.upto Rows.codecPredsSpec) (k := Rows.uptoSmall) rfl false ⟨#[], #[.slice none 0 0, .slice none 0 0], []⟩ 8 (by kernel_rfl) (by kernel_rfl) (by kernel_rfl)
      (x := ([.nil, .nil], [], [])) (by kernel_rfl) rfl (by kernel_rfl)) ?_
  intro W base args ds gs before hval0 hW _ hk0 _
  have hval : ∀ (j : Nat) t v, Try.f8.params[j]? = some t → args[j]? = some v → Value.okWide Try.prog W .any base t v := hval0
  have hW' := hW
  obtain ⟨p, q, hA0, hV, rfl, hfz, hnd⟩ := hW
  have hA : DataW.TrodAll enc Try.prog W 0 (fun _ => true) true Try.f8.params.toList args.toList ds p := hA0
  rw [Try.params8] at hA hval
  obtain ⟨v0, vs0, d0, ds0, p0, q0, hargs, rfl, rfl, h0, r0⟩ := trodAll_cons hA
  obtain ⟨v1, vs1, d1, ds1, p1, q1, rfl, rfl, rfl, h1, r1⟩ := trodAll_cons r0
  obtain ⟨rfl, rfl, rfl⟩ := trodAll_nil r1
  obtain rfl : args = #[v0, v1] := by cases args; simp_all
  obtain ⟨rfl, rfl⟩ := trodVars_none hV
  have lt0 : ∀ x ∈ p0, x.block < W.heap.size := by obtain ⟨m, hm⟩ := h0; exact DataW.trod_lt m _ _ _ hm
  have lt1 : ∀ x ∈ p1, x.block < W.heap.size := by obtain ⟨m, hm⟩ := h1; exact DataW.trod_lt m _ _ _ hm
  have hk : Rows.uptoBulkAll [d0, d1] ≤ 1048576 := of_decide_eq_true hk0
  clear hA0 hval0
  refine (walk_CodecPreds enc W base (hval 0 40 v0 rfl rfl) h0 (hval 1 25 v1 rfl rfl) h1 hk).mono fun e W' ⟨he, bel⟩ => ?_
  subst he
  exact ⟨_, rfl, _, _, _, [], _, [], hW', trodAll_mk1 (shut_bool Try.underlying4 _), (trodAll_cons_mk (Below.trod laidOut (by kernel_rfl) (of_decide_eq_true (by kernel_rfl)) h0 bel lt0) (trodAll_cons_mk (Below.trod laidOut (by kernel_rfl) (of_decide_eq_true (by kernel_rfl)) h1 bel lt1) trodAll_mk0)), rfl, bel.frame _, fun h => by cases h⟩

theorem proved : Rows.CodecPredsUptoSaid :=
  OpenClaim.holds_of_cond 8 Try.f8 rfl rfl rfl rfl rfl rfl rfl ⟨rfl, rfl, rfl, rfl, rfl⟩ rfl rfl rfl rfl rfl (by kernel_rfl) Try.func8 (by kernel_rfl)
    (of_decide_eq_true (by kernel_rfl)) (by unfold Func.isWrapper; first | (rw [if_pos (by decide +kernel)]; kernel_rfl) | (rw [if_neg (by decide +kernel)]; exact ⟨rfl, rfl⟩))
    (fun os started H enc _ F => lifted os started H enc F)
end Go.Proofs.Ytlpbbcjmmhabfaa.codecPreds
