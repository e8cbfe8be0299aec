/- DERIVED. The walk of CodecForms (written by gen_forms.py). · DERIVED. CodecForms, from how its arguments read. · The statement CodecForms, second form: for every input of bulk at most 1048576 the law returns true, and the arguments read as they did. -/
import Derived.Test.YtlpbbcjmmhabfaaY22
import Derived.Deep.DeepCutAuto
import Derived.Test.YtlpbbcjmmhabfaaRows
import Derived.ProofKit
import Derived.OpenShut
import Derived.JoinedCond
import Derived.ChangeOld
namespace Go.Proofs.Ytlpbbcjmmhabfaa
open Go.RowKit

set_option maxRecDepth 100000 in
set_option maxHeartbeats 8000000 in
theorem forms_any (v : Value) (l : List UInt8) (b : UInt8) (m : Nat) (w : World) (h : Sees w v l) (hl : l.length ≤ 900000000) (hm : m < 65536) :
    Calls Try.prog 11 #[v, .int .u8 (b.toNat : Int), .int .u16 (m : Int)] w fun e w' => e = .returned (.bool true) ∧ Old w w' := by
  obtain ⟨p, c, rfl, hc1, hc2⟩ := h.len
  have HS := Lib.hid h
  have hl1 : l.length ≤ 9223372036854775807 := by omega
  have hw1 : IntKind.i64.wrap (m : Int) = (m : Int) := by rw [IntKind.wrap_i64]; omega
  have hw2 : IntKind.i64.wrap ((l.length : Int) + 1) = (l.length : Int) + 1 := by rw [IntKind.wrap_i64]; omega
  have HN := Lib.hid (And.intro (show ([] : List UInt8).length + l.length ≤ 1000000000 by simp; omega) (show l.length + 1 ≤ 1000000000 by omega))
  obtain ⟨q, hq⟩ : ∃ q, m % (l.length + 1) = q := ⟨_, rfl⟩
  have hql : q ≤ l.length := by rw [← hq]; exact Nat.lt_succ_iff.1 (Nat.mod_lt _ (Nat.succ_pos _))
  have hmod : (m : Int) % ((l.length : Int) + 1) = (q : Int) := by rw [← hq]; norm_cast
  obtain ⟨p3, c3, hrun3, hs3, _⟩ := h.upto q hql IntKind.i64 (q : Int) rfl
  have htl : (l.take q).length ≤ 1000000000 := by rw [List.length_take]; omega
  have hll : l.length ≤ 1000000000 := by omega
  have hml : (l ++ [b]).length ≤ 1000000000 := by rw [List.length_append]; simp; omega
  have HS3 := Lib.hid (And.intro hs3 htl)
  have HL := Lib.hid (And.intro hll (And.intro hml hql))
  clear h hq hs3 htl hll hml
  go_enter Try.func11, Try.ntmps11
  have HQ := Lib.hid (by decide : (1000000000 : Nat) ≤ 1152921504606)
  go_upto_region 3 with (at_builtin; first
    | (refine wpList_append_sees rfl _ _ rfl w.heap.size (.slice none 0 0) [] rfl (Owns.nil _ _) _ l rfl HS.out (Nat.le_trans HN.out.1 HQ.out) (Nat.le_refl _) ?_; intro v1 w1 ho1 hg1; obtain ⟨p1, c1, e1, _, _⟩ := ho1.sees.len; subst e1; have HO1 := Lib.hid (And.intro ho1 (And.intro hg1 (show w.heap.size ≤ w1.heap.size from ((Keeps.refl (fun _ => False) w).grown hg1 (fun k hk _ => by cases hk)).size))); clear ho1 hg1)
    | (refine wpList_append_sees rfl _ _ rfl w.heap.size (.slice p1 _ c1) l rfl (HO1.out.1.alloc _) _ [b] rfl (Sees.one _ _ _ rfl) (Nat.le_trans HN.out.2 HQ.out) (Nat.le_trans HO1.out.2.2 (by simp)) ?_; intro v2 w2 ho2 hg2; obtain ⟨p2, c2, e2, _, _⟩ := ho2.sees.len; subst e2; have HO2 := Lib.hid (And.intro ho2 hg2); clear ho2 hg2))
  have K2 := Lib.hid (show Old w w2 from ((Keeps.refl (fun _ => False) w).grown HO1.out.2.1 (fun k hk _ => by cases hk)).then (((Keeps.refl (fun k => w.heap.size ≤ k) w1).alloc _).grown HO2.out.2 (fun k hk _ => (HO1.out.1.block k hk).1)) (fun i hi e => by omega))
  have X := Lib.hid (And.intro (show Sees w2 (.slice p2 (l.length + 1) c2) (l ++ [b]) by have h2 := HO2.out.1.sees; simp only [List.length_append, List.length_singleton] at h2; exact h2) (And.intro K2.out (And.intro HS.out (And.intro HS3.out HL.out))))
  clear HO2 HO1 HN HQ hw1 hw2 hrun3 hmod HS HS3 HL
  have T1E := Lib.hid (fun W (k : Old w2 W) => take_event_any _ l W (X.out.2.2.1.old (X.out.2.1.trans k)) X.out.2.2.2.2.1)
  have T2E := Lib.hid (fun W (k : Old w2 W) => take_event_any _ (l ++ [b]) W (X.out.1.old k) X.out.2.2.2.2.2.1)
  have T3E := Lib.hid (fun W (k : Old w2 W) => take_event_any _ (l.take q) W (X.out.2.2.2.1.1.old (X.out.2.1.trans k)) X.out.2.2.2.1.2)
  go_cut [9, 10] (fun v1 v2 wc => ∃ (eb : Nat) (z : Int), v1 = .pointer (some ⟨eb, 0, none⟩) ∧ v2 = .int .i64 z ∧ Old w2 wc ∧ ((takeE l = none ∧ z = 5 ∧ wc.heap[eb]? = some (.cells #[.string ⟨#[]⟩, .slice none 0 0] 24 (0, 0))) ∨ (∃ x, takeE l = some x ∧ z = 0 ∧ ∃ p n c, wc.heap[eb]? = some (.cells #[.string x.1, .slice p n c] 24 (0, 0)) ∧ ∀ W, Old wc W → Calls Try.prog 12 #[.agg #[.string x.1, .slice p n c]] W (Formed W l))))
  case first =>
    as_aux_lemma =>
      go_wp2_with fail
      refine (T1E.out _ (Keeps.refl _ _)).mono ?_
      intro e w3 ht
      cases hE : takeE l with
      | none =>
        rw [hE] at ht
        obtain ⟨k3, rfl⟩ : Old _ w3 ∧ e = .returned (.tuple #[.agg #[.string ⟨#[]⟩, .slice none 0 0], .int .i64 5]) := ht
        have R := Lib.hid (And.intro k3 hE)
        clear k3 hE
        go_wp2_with fail
        go_meet
        case rel => exact ⟨_, 5, rfl, rfl, (Keeps.refl _ _).trans (R.out.1.alloc _), Or.inl ⟨R.out.2, rfl, heap_alloc_new _ _⟩⟩
      | some x =>
        rw [hE] at ht
        obtain ⟨k3, p, n, c, rfl, hput⟩ := tkE_put hE ht
        have R := Lib.hid (And.intro k3 (And.intro hE hput))
        clear k3 hE hput ht
        go_wp2_with fail
        go_meet
        case rel => exact ⟨_, 0, rfl, rfl, (Keeps.refl _ _).trans (R.out.1.alloc _), Or.inr ⟨x, R.out.2.1, rfl, p, n, c, heap_alloc_new _ _, fun W hW => R.out.2.2 W (((Keeps.refl (fun _ => False) w3).alloc _).trans hW)⟩⟩
  obtain ⟨eb, z, rfl, rfl, kc, hz⟩ := hcut
  have KC := Lib.hid kc
  have HZ := Lib.hid hz
  clear kc hz T1E
  go_upto_if 57 with fail
  go_cut [] (fun wd => Old w2 wd)
  case first =>
    as_aux_lemma =>
      rcases HZ.out with ⟨hE, rfl, hb⟩ | ⟨x, hE, rfl, p, n, c, hb, hput⟩
      · clear HZ T2E T3E hb
        have R := Lib.hid hE
        clear hE
        go_wp2_with fail
        go_meet
        case rel => exact KC.out
      · have g := blk2 hb
        have R := Lib.hid (And.intro hE hput)
        clear hE hput HZ hb
        go_wp2_with fail
        refine (R.out.2 _ (Keeps.refl _ _)).mono ?_
        rintro e w5 ⟨p5, n5, c5, rfl, ho5, k5⟩
        obtain ⟨p5', c5', e5, _, _⟩ := ho5.sees.len
        simp only [Value.slice.injEq] at e5
        obtain ⟨rfl, rfl, rfl⟩ := e5
        have P5 := Lib.hid (And.intro (ho5.sees) (KC.out.trans k5))
        clear ho5 k5 g
        go_wp2_with fail
        refine (T2E.out _ P5.out.2).mono ?_
        intro e w6 ht
        rw [(takeE_law R.out.1).2.2.2.1 b] at ht
        obtain ⟨k6, rfl⟩ : Old _ w6 ∧ e = .returned (.tuple #[.agg #[.string ⟨#[]⟩, .slice none 0 0], .int .i64 5]) := ht
        have P6 := Lib.hid (show Old w5 (w6.alloc (.cells #[.string ⟨#[]⟩, .slice none 0 0] 24)) from k6.alloc _)
        clear k6
        go_wp2_with fail
        refine (T3E.out _ (P5.out.2.trans P6.out)).mono ?_
        intro e w7 ht
        rcases Nat.lt_or_ge q l.length with hq | hq
        · rw [(takeE_law R.out.1).2.2.2.2 (l.take q) (l.drop q) (List.take_append_drop q l).symm (fun h => by have h2 := congrArg List.length h; simp at h2; omega)] at ht
          obtain ⟨k7, rfl⟩ : Old _ w7 ∧ e = .returned (.tuple #[.agg #[.string ⟨#[]⟩, .slice none 0 0], .int .i64 5]) := ht
          have Q := Lib.hid hq
          clear hq
          have P7 := Lib.hid (show Old (w6.alloc (.cells #[.string ⟨#[]⟩, .slice none 0 0] 24)) (w7.alloc (.cells #[.string ⟨#[]⟩, .slice none 0 0] 24)) from k7.alloc _)
          clear k7
          have t1 := (P5.out.1.old (P6.out.trans P7.out)).text
          have t2 := (X.out.2.2.1.old (X.out.2.1.trans (P5.out.2.trans (P6.out.trans P7.out)))).text
          have bs := bytes_self ⟨l.toArray⟩
          go_wp2_with fail
          go_meet
          case rel => exact P5.out.2.trans (P6.out.trans P7.out)
        · rw [List.take_of_length_le hq, R.out.1] at ht
          obtain ⟨k7, p7, n7, c7, rfl, _⟩ := tkE_put R.out.1 ht
          obtain rfl : q = l.length := by have := X.out.2.2.2.2.2.2; omega
          have dq : decide ((l.length : Int) < (l.length : Int)) = false := by simp
          clear ht
          have P7 := Lib.hid (show Old (w6.alloc (.cells #[.string ⟨#[]⟩, .slice none 0 0] 24)) (w7.alloc (.cells #[.string x.1, .slice p7 n7 c7] 24)) from k7.alloc _)
          clear k7
          have t1 := (P5.out.1.old (P6.out.trans P7.out)).text
          have t2 := (X.out.2.2.1.old (X.out.2.1.trans (P5.out.2.trans (P6.out.trans P7.out)))).text
          have bs := bytes_self ⟨l.toArray⟩
          go_wp2_with fail
          go_meet
          case rel => exact P5.out.2.trans (P6.out.trans P7.out)
  have KX1 := Lib.hid hcut
  clear hcut KC HZ T2E T3E
  have T1P := Lib.hid (fun W (k : Old w2 W) => take_pred_any _ l W (X.out.2.2.1.old (X.out.2.1.trans k)) X.out.2.2.2.2.1)
  have T2P := Lib.hid (fun W (k : Old w2 W) => take_pred_any _ (l ++ [b]) W (X.out.1.old k) X.out.2.2.2.2.2.1)
  have T3P := Lib.hid (fun W (k : Old w2 W) => take_pred_any _ (l.take q) W (X.out.2.2.2.1.1.old (X.out.2.1.trans k)) X.out.2.2.2.1.2)
  go_upto_region 10 with fail
  go_cut [17, 10] (fun v1 v2 wc => ∃ (z : Int), v2 = .int .i64 z ∧ Old w2 wc ∧ ((takeP l = none ∧ z = 5) ∨ (∃ x, takeP l = some x ∧ z = 0 ∧ ∃ p n c, v1 = .slice p n c ∧ ∀ W, Old wc W → Calls Try.prog 19 #[.slice p n c] W (Formed W l))))
  case first =>
    as_aux_lemma =>
      go_wp2_with fail
      refine (T1P.out _ KX1.out).mono ?_
      intro e w3 ht
      cases hE : takeP l with
      | none =>
        rw [hE] at ht
        obtain ⟨k3, rfl⟩ : Old _ w3 ∧ e = .returned (.tuple #[.slice none 0 0, .int .i64 5]) := ht
        have R := Lib.hid (And.intro k3 hE)
        clear k3 hE
        go_wp2_with fail
        go_meet
        case rel => exact ⟨5, rfl, KX1.out.trans R.out.1, Or.inl ⟨R.out.2, rfl⟩⟩
      | some x =>
        rw [hE] at ht
        obtain ⟨k3, p, n, c, rfl, hput⟩ := tkP_put hE ht
        have R := Lib.hid (And.intro k3 (And.intro hE hput))
        clear k3 hE hput ht
        go_wp2_with fail
        go_meet
        case rel => exact ⟨0, rfl, KX1.out.trans R.out.1, Or.inr ⟨x, R.out.2.1, rfl, p, n, c, rfl, fun W hW => R.out.2.2 W hW⟩⟩
  obtain ⟨z, rfl, kc, hz⟩ := hcut
  have KC := Lib.hid kc
  have HZ := Lib.hid hz
  clear kc hz KX1 T1P
  go_upto_if 103 with fail
  go_cut [] (fun wd => Old w2 wd)
  case first =>
    as_aux_lemma =>
      rcases HZ.out with ⟨hE, rfl⟩ | ⟨x, hE, rfl, p, n, c, rfl, hput⟩
      · clear HZ T2P T3P
        have R := Lib.hid hE
        clear hE
        go_wp2_with fail
        go_meet
        case rel => exact KC.out
      · have g := True.intro
        have R := Lib.hid (And.intro hE hput)
        clear hE hput HZ g
        go_wp2_with fail
        refine (R.out.2 _ (Keeps.refl _ _)).mono ?_
        rintro e w5 ⟨p5, n5, c5, rfl, ho5, k5⟩
        obtain ⟨p5', c5', e5, _, _⟩ := ho5.sees.len
        simp only [Value.slice.injEq] at e5
        obtain ⟨rfl, rfl, rfl⟩ := e5
        have P5 := Lib.hid (And.intro (ho5.sees) (KC.out.trans k5))
        clear ho5 k5
        go_wp2_with fail
        refine (T2P.out _ P5.out.2).mono ?_
        intro e w6 ht
        rw [(takeP_law R.out.1).2.2.2.1 b] at ht
        obtain ⟨k6, rfl⟩ : Old _ w6 ∧ e = .returned (.tuple #[.slice none 0 0, .int .i64 5]) := ht
        have P6 := Lib.hid (show Old w5 w6 from k6)
        clear k6
        go_wp2_with fail
        refine (T3P.out _ (P5.out.2.trans P6.out)).mono ?_
        intro e w7 ht
        rcases Nat.lt_or_ge q l.length with hq | hq
        · rw [(takeP_law R.out.1).2.2.2.2 (l.take q) (l.drop q) (List.take_append_drop q l).symm (fun h => by have h2 := congrArg List.length h; simp at h2; omega)] at ht
          obtain ⟨k7, rfl⟩ : Old _ w7 ∧ e = .returned (.tuple #[.slice none 0 0, .int .i64 5]) := ht
          have Q := Lib.hid hq
          clear hq
          have P7 := Lib.hid (show Old w6 w7 from k7)
          clear k7
          have t1 := (P5.out.1.old (P6.out.trans P7.out)).text
          have t2 := (X.out.2.2.1.old (X.out.2.1.trans (P5.out.2.trans (P6.out.trans P7.out)))).text
          have bs := bytes_self ⟨l.toArray⟩
          go_wp2_with fail
          go_meet
          case rel => exact P5.out.2.trans (P6.out.trans P7.out)
        · rw [List.take_of_length_le hq, R.out.1] at ht
          obtain ⟨k7, p7, n7, c7, rfl, _⟩ := tkP_put R.out.1 ht
          obtain rfl : q = l.length := by have := X.out.2.2.2.2.2.2; omega
          have dq : decide ((l.length : Int) < (l.length : Int)) = false := by simp
          clear ht
          have P7 := Lib.hid (show Old w6 w7 from k7)
          clear k7
          have t1 := (P5.out.1.old (P6.out.trans P7.out)).text
          have t2 := (X.out.2.2.1.old (X.out.2.1.trans (P5.out.2.trans (P6.out.trans P7.out)))).text
          have bs := bytes_self ⟨l.toArray⟩
          go_wp2_with fail
          go_meet
          case rel => exact P5.out.2.trans (P6.out.trans P7.out)
  have KX2 := Lib.hid hcut
  clear hcut KC HZ T2P T3P
  have T1I := Lib.hid (fun W (k : Old w2 W) => take_item_any _ l W (X.out.2.2.1.old (X.out.2.1.trans k)) X.out.2.2.2.2.1)
  have T2I := Lib.hid (fun W (k : Old w2 W) => take_item_any _ (l ++ [b]) W (X.out.1.old k) X.out.2.2.2.2.2.1)
  have T3I := Lib.hid (fun W (k : Old w2 W) => take_item_any _ (l.take q) W (X.out.2.2.2.1.1.old (X.out.2.1.trans k)) X.out.2.2.2.1.2)
  go_upto_region 17 with fail
  go_cut [24, 10] (fun v1 v2 wc => ∃ (eb : Nat) (z : Int), v1 = .pointer (some ⟨eb, 0, none⟩) ∧ v2 = .int .i64 z ∧ Old w2 wc ∧ ((takeI l = none ∧ z = 5 ∧ wc.heap[eb]? = some (.cells #[.int .u64 0, .int .u64 0, .string ⟨#[]⟩, .slice none 0 0] 46 (0, 0))) ∨ (∃ x, takeI l = some x ∧ z = 0 ∧ ∃ p n c, wc.heap[eb]? = some (.cells #[.int .u64 x.n, .int .u64 x.time, .string x.key, .slice p n c] 46 (0, 0)) ∧ ∀ W, Old wc W → Calls Try.prog 21 #[.agg #[.int .u64 x.n, .int .u64 x.time, .string x.key, .slice p n c]] W (Formed W l))))
  case first =>
    as_aux_lemma =>
      go_wp2_with fail
      refine (T1I.out _ KX2.out).mono ?_
      intro e w3 ht
      cases hE : takeI l with
      | none =>
        rw [hE] at ht
        obtain ⟨k3, rfl⟩ : Old _ w3 ∧ e = .returned (.tuple #[.agg #[.int .u64 0, .int .u64 0, .string ⟨#[]⟩, .slice none 0 0], .int .i64 5]) := ht
        have R := Lib.hid (And.intro k3 hE)
        clear k3 hE
        go_wp2_with fail
        go_meet
        case rel => exact ⟨_, 5, rfl, rfl, KX2.out.trans (R.out.1.alloc _), Or.inl ⟨R.out.2, rfl, heap_alloc_new _ _⟩⟩
      | some x =>
        rw [hE] at ht
        obtain ⟨k3, p, n, c, rfl, hput⟩ := tkI_put hE ht
        have R := Lib.hid (And.intro k3 (And.intro hE hput))
        clear k3 hE hput ht
        go_wp2_with fail
        go_meet
        case rel => exact ⟨_, 0, rfl, rfl, KX2.out.trans (R.out.1.alloc _), Or.inr ⟨x, R.out.2.1, rfl, p, n, c, heap_alloc_new _ _, fun W hW => R.out.2.2 W (((Keeps.refl (fun _ => False) w3).alloc _).trans hW)⟩⟩
  obtain ⟨eb, z, rfl, rfl, kc, hz⟩ := hcut
  have KC := Lib.hid kc
  have HZ := Lib.hid hz
  clear kc hz KX2 T1I
  go_upto_if 149 with fail
  go_cut [] (fun wd => Old w2 wd)
  case first =>
    as_aux_lemma =>
      rcases HZ.out with ⟨hE, rfl, hb⟩ | ⟨x, hE, rfl, p, n, c, hb, hput⟩
      · clear HZ T2I T3I hb
        have R := Lib.hid hE
        clear hE
        go_wp2_with fail
        go_meet
        case rel => exact KC.out
      · have g := blk4 hb
        have R := Lib.hid (And.intro hE hput)
        clear hE hput HZ hb
        go_wp2_with fail
        refine (R.out.2 _ (Keeps.refl _ _)).mono ?_
        rintro e w5 ⟨p5, n5, c5, rfl, ho5, k5⟩
        obtain ⟨p5', c5', e5, _, _⟩ := ho5.sees.len
        simp only [Value.slice.injEq] at e5
        obtain ⟨rfl, rfl, rfl⟩ := e5
        have P5 := Lib.hid (And.intro (ho5.sees) (KC.out.trans k5))
        clear ho5 k5 g
        go_wp2_with fail
        refine (T2I.out _ P5.out.2).mono ?_
        intro e w6 ht
        rw [(takeI_law R.out.1).2.2.2.1 b] at ht
        obtain ⟨k6, rfl⟩ : Old _ w6 ∧ e = .returned (.tuple #[.agg #[.int .u64 0, .int .u64 0, .string ⟨#[]⟩, .slice none 0 0], .int .i64 5]) := ht
        have P6 := Lib.hid (show Old w5 (w6.alloc (.cells #[.int .u64 0, .int .u64 0, .string ⟨#[]⟩, .slice none 0 0] 46)) from k6.alloc _)
        clear k6
        go_wp2_with fail
        refine (T3I.out _ (P5.out.2.trans P6.out)).mono ?_
        intro e w7 ht
        rcases Nat.lt_or_ge q l.length with hq | hq
        · rw [(takeI_law R.out.1).2.2.2.2 (l.take q) (l.drop q) (List.take_append_drop q l).symm (fun h => by have h2 := congrArg List.length h; simp at h2; omega)] at ht
          obtain ⟨k7, rfl⟩ : Old _ w7 ∧ e = .returned (.tuple #[.agg #[.int .u64 0, .int .u64 0, .string ⟨#[]⟩, .slice none 0 0], .int .i64 5]) := ht
          have Q := Lib.hid hq
          clear hq
          have P7 := Lib.hid (show Old (w6.alloc (.cells #[.int .u64 0, .int .u64 0, .string ⟨#[]⟩, .slice none 0 0] 46)) (w7.alloc (.cells #[.int .u64 0, .int .u64 0, .string ⟨#[]⟩, .slice none 0 0] 46)) from k7.alloc _)
          clear k7
          have t1 := (P5.out.1.old (P6.out.trans P7.out)).text
          have t2 := (X.out.2.2.1.old (X.out.2.1.trans (P5.out.2.trans (P6.out.trans P7.out)))).text
          have bs := bytes_self ⟨l.toArray⟩
          go_wp2_with fail
          go_meet
          case rel => exact P5.out.2.trans (P6.out.trans P7.out)
        · rw [List.take_of_length_le hq, R.out.1] at ht
          obtain ⟨k7, p7, n7, c7, rfl, _⟩ := tkI_put R.out.1 ht
          obtain rfl : q = l.length := by have := X.out.2.2.2.2.2.2; omega
          have dq : decide ((l.length : Int) < (l.length : Int)) = false := by simp
          clear ht
          have P7 := Lib.hid (show Old (w6.alloc (.cells #[.int .u64 0, .int .u64 0, .string ⟨#[]⟩, .slice none 0 0] 46)) (w7.alloc (.cells #[.int .u64 x.n, .int .u64 x.time, .string x.key, .slice p7 n7 c7] 46)) from k7.alloc _)
          clear k7
          have t1 := (P5.out.1.old (P6.out.trans P7.out)).text
          have t2 := (X.out.2.2.1.old (X.out.2.1.trans (P5.out.2.trans (P6.out.trans P7.out)))).text
          have bs := bytes_self ⟨l.toArray⟩
          go_wp2_with fail
          go_meet
          case rel => exact P5.out.2.trans (P6.out.trans P7.out)
  have KX3 := Lib.hid hcut
  clear hcut KC HZ T2I T3I
  have T1G := Lib.hid (fun W (k : Old w2 W) => take_page_any _ l W (X.out.2.2.1.old (X.out.2.1.trans k)) X.out.2.2.2.2.1)
  have T2G := Lib.hid (fun W (k : Old w2 W) => take_page_any _ (l ++ [b]) W (X.out.1.old k) X.out.2.2.2.2.2.1)
  have T3G := Lib.hid (fun W (k : Old w2 W) => take_page_any _ (l.take q) W (X.out.2.2.2.1.1.old (X.out.2.1.trans k)) X.out.2.2.2.1.2)
  go_upto_region 24 with fail
  go_cut [31, 10] (fun v1 v2 wc => ∃ (eb : Nat) (z : Int), v1 = .pointer (some ⟨eb, 0, none⟩) ∧ v2 = .int .i64 z ∧ Old w2 wc ∧ ((takeG l = none ∧ z = 5 ∧ wc.heap[eb]? = some (.cells #[.int .u64 0, .int .u64 0, .slice none 0 0, .slice none 0 0, .bool false] 50 (0, 0))) ∨ (∃ x, takeG l = some x ∧ z = 0 ∧ ∃ p n c pg ng cg, wc.heap[eb]? = some (.cells #[.int .u64 x.fr, .int .u64 x.en, .slice p n c, .slice pg ng cg, .bool x.last] 50 (0, 0)) ∧ ∀ W, Old wc W → Calls Try.prog 23 #[.agg #[.int .u64 x.fr, .int .u64 x.en, .slice p n c, .slice pg ng cg, .bool x.last]] W (Formed W l))))
  case first =>
    as_aux_lemma =>
      go_wp2_with fail
      refine (T1G.out _ KX3.out).mono ?_
      intro e w3 ht
      cases hE : takeG l with
      | none =>
        rw [hE] at ht
        obtain ⟨k3, rfl⟩ : Old _ w3 ∧ e = .returned (.tuple #[.agg #[.int .u64 0, .int .u64 0, .slice none 0 0, .slice none 0 0, .bool false], .int .i64 5]) := ht
        have R := Lib.hid (And.intro k3 hE)
        clear k3 hE
        go_wp2_with fail
        go_meet
        case rel => exact ⟨_, 5, rfl, rfl, KX3.out.trans (R.out.1.alloc _), Or.inl ⟨R.out.2, rfl, heap_alloc_new _ _⟩⟩
      | some x =>
        rw [hE] at ht
        obtain ⟨k3, p, n, c, pg, ng, cg, rfl, hput⟩ := tkG_put hE ht
        have R := Lib.hid (And.intro k3 (And.intro hE hput))
        clear k3 hE hput ht
        go_wp2_with fail
        go_meet
        case rel => exact ⟨_, 0, rfl, rfl, KX3.out.trans (R.out.1.alloc _), Or.inr ⟨x, R.out.2.1, rfl, p, n, c, pg, ng, cg, heap_alloc_new _ _, fun W hW => R.out.2.2 W (((Keeps.refl (fun _ => False) w3).alloc _).trans hW)⟩⟩
  obtain ⟨eb, z, rfl, rfl, kc, hz⟩ := hcut
  have KC := Lib.hid kc
  have HZ := Lib.hid hz
  clear kc hz KX3 T1G
  rcases HZ.out with ⟨hE, rfl, hb⟩ | ⟨x, hE, rfl, p, n, c, pg, ng, cg, hb, hput⟩
  · have g := blk5 hb
    have R := Lib.hid (And.intro hE hb)
    clear hE hb HZ T2G T3G
    go_wp2_with fail
    refine (wakes_any _).mono ?_
    rintro e w9 ⟨rfl, k9⟩
    have K9 := Lib.hid k9
    clear k9
    go_wp2_with fail
    go_ret
    exact ⟨rfl, X.out.2.1.trans (KC.out.trans K9.out)⟩
  · have g := blk5 hb
    have R := Lib.hid (And.intro hE hput)
    clear hE hput HZ hb
    go_wp2_with fail
    refine (R.out.2 _ (Keeps.refl _ _)).mono ?_
    rintro e w5 ⟨p5, n5, c5, rfl, ho5, k5⟩
    obtain ⟨p5', c5', e5, _, _⟩ := ho5.sees.len
    simp only [Value.slice.injEq] at e5
    obtain ⟨rfl, rfl, rfl⟩ := e5
    have P5 := Lib.hid (And.intro (ho5.sees) (KC.out.trans k5))
    clear ho5 k5 g
    go_wp2_with fail
    refine (T2G.out _ P5.out.2).mono ?_
    intro e w6 ht
    rw [(takeG_law R.out.1).2.2.2.1 b] at ht
    obtain ⟨k6, rfl⟩ : Old _ w6 ∧ e = .returned (.tuple #[.agg #[.int .u64 0, .int .u64 0, .slice none 0 0, .slice none 0 0, .bool false], .int .i64 5]) := ht
    have P6 := Lib.hid (show Old w5 (w6.alloc (.cells #[.int .u64 0, .int .u64 0, .slice none 0 0, .slice none 0 0, .bool false] 50)) from k6.alloc _)
    clear k6
    go_wp2_with fail
    refine (T3G.out _ (P5.out.2.trans P6.out)).mono ?_
    intro e w7 ht
    rcases Nat.lt_or_ge q l.length with hq | hq
    · rw [(takeG_law R.out.1).2.2.2.2 (l.take q) (l.drop q) (List.take_append_drop q l).symm (fun h => by have h2 := congrArg List.length h; simp at h2; omega)] at ht
      obtain ⟨k7, rfl⟩ : Old _ w7 ∧ e = .returned (.tuple #[.agg #[.int .u64 0, .int .u64 0, .slice none 0 0, .slice none 0 0, .bool false], .int .i64 5]) := ht
      have Q := Lib.hid hq
      clear hq
      have P7 := Lib.hid (show Old (w6.alloc (.cells #[.int .u64 0, .int .u64 0, .slice none 0 0, .slice none 0 0, .bool false] 50)) (w7.alloc (.cells #[.int .u64 0, .int .u64 0, .slice none 0 0, .slice none 0 0, .bool false] 50)) from k7.alloc _)
      clear k7
      have t1 := (P5.out.1.old (P6.out.trans P7.out)).text
      have t2 := (X.out.2.2.1.old (X.out.2.1.trans (P5.out.2.trans (P6.out.trans P7.out)))).text
      have bs := bytes_self ⟨l.toArray⟩
      go_wp2_with fail
      refine (wakes_any _).mono ?_
      rintro e w9 ⟨rfl, k9⟩
      have K9 := Lib.hid k9
      clear k9
      go_wp2_with fail
      go_ret
      exact ⟨rfl, X.out.2.1.trans (P5.out.2.trans (P6.out.trans (P7.out.trans K9.out)))⟩
    · rw [List.take_of_length_le hq, R.out.1] at ht
      obtain ⟨k7, p7, n7, c7, pg7, ng7, cg7, rfl, _⟩ := tkG_put R.out.1 ht
      obtain rfl : q = l.length := by have := X.out.2.2.2.2.2.2; omega
      have dq : ((l.length : Int) == (l.length : Int)) = true := by simp
      clear ht
      have P7 := Lib.hid (show Old (w6.alloc (.cells #[.int .u64 0, .int .u64 0, .slice none 0 0, .slice none 0 0, .bool false] 50)) (w7.alloc (.cells #[.int .u64 x.fr, .int .u64 x.en, .slice p7 n7 c7, .slice pg7 ng7 cg7, .bool x.last] 50)) from k7.alloc _)
      clear k7
      have t1 := (P5.out.1.old (P6.out.trans P7.out)).text
      have t2 := (X.out.2.2.1.old (X.out.2.1.trans (P5.out.2.trans (P6.out.trans P7.out)))).text
      have bs := bytes_self ⟨l.toArray⟩
      go_wp2_with fail
      refine (wakes_any _).mono ?_
      rintro e w9 ⟨rfl, k9⟩
      have K9 := Lib.hid k9
      clear k9
      go_wp2_with fail
      go_ret
      exact ⟨rfl, X.out.2.1.trans (P5.out.2.trans (P6.out.trans (P7.out.trans K9.out)))⟩
end Go.Proofs.Ytlpbbcjmmhabfaa

namespace Go.Proofs.Ytlpbbcjmmhabfaa
open Go.ChangeShapes Go.WideShapes Go.ChangeAt Go.RowKit

set_option maxRecDepth 100000 in
theorem walk_CodecForms {H : Type} (enc : TypeId × Value → H) (W : World) (base : Nat) {v0 v1 v2 : Value} {d0 d1 d2 : DataW H} {p0 p1 p2 : List MemPlace}
    (hv0 : Value.okWide Try.prog W .any base 25 v0) (h0 : DataW.Trod enc Try.prog W 0 (fun _ => true) true 25 v0 d0 p0)
    (hv1 : Value.okWide Try.prog W .any base 5 v1) (h1 : DataW.Trod enc Try.prog W 0 (fun _ => true) true 5 v1 d1 p1)
    (hv2 : Value.okWide Try.prog W .any base 87 v2) (h2 : DataW.Trod enc Try.prog W 0 (fun _ => true) true 87 v2 d2 p2)
    (hk : Rows.uptoBulkAll [d0, d1, d2] ≤ 1048576) :
    Calls Try.prog 11 #[v0, v1, v2] W fun e W' => e = .returned (.bool true) ∧ Below W.heap.size W W' := by
  obtain ⟨b, hb, hlb⟩ := read_bytes hv0 h0
  obtain ⟨z, rfl, rfl, rfl, wz⟩ := open_int Try.underlying5 hv1 h1
  obtain ⟨n, rfl, rfl, rfl, wn⟩ := open_int Try.underlying87 hv2 h2
  have hz : 0 ≤ z ∧ z ≤ 255 := by simpa [Lit.wf, IntKind.min, IntKind.max, IntKind.signed, IntKind.bits] using wz
  have hn : 0 ≤ n ∧ n ≤ 65535 := by simpa [Lit.wf, IntKind.min, IntKind.max, IntKind.signed, IntKind.bits] using wn
  obtain ⟨m, rfl⟩ := Int.eq_ofNat_of_zero_le hn.1
  simp only [Rows.uptoBulkAll] at hk
  have e : z = ((UInt8.ofNat z.toNat).toNat : Int) := by rw [UInt8.toNat_ofNat']; omega
  rw [e]
  exact (forms_any v0 b (UInt8.ofNat z.toNat) m W hb (by omega) (by omega)).mono fun e W' h => ⟨h.1, h.2.below⟩
end Go.Proofs.Ytlpbbcjmmhabfaa

namespace Go.Proofs.Ytlpbbcjmmhabfaa.codecForms
open Go.ChangeShapes Go.WideShapes Go.ChangeAt Go.RowKit
theorem own : ownKnob Try.prog.godebug = none := by kernel_rfl
theorem laidOut : laidOutB Try.prog = true := by kernel_rfl

set_option maxRecDepth 100000 in
theorem lifted (os : Os) (started : os.Started) (H : Type) (enc : TypeId × Value → H) (F : Stop.Interp) :
    ReturnsInHanded {} Try.checked os 11 .any ((Rows.OpenSpec.upto Rows.codecFormsSpec).pre6 enc Try.prog Try.f11 Rows.codecFormsUptoRow.domain false) (((Rows.OpenSpec.upto Rows.codecFormsSpec).at F).post enc Try.prog Try.f11 false true false false) := by
  refine returnsInHanded_of_cond (C := Try.checked) (s := Rows.OpenSpec.upto Rows.codecFormsSpec) (k := Rows.uptoSmall) rfl own started (by kernel_rfl) Try.func11
    (OpenSpec.witness (enc := enc) (C := Try.checked) (s := Rows.OpenSpec.upto Rows.codecFormsSpec) (k := Rows.uptoSmall) rfl false ⟨#[], #[.slice none 0 0, .int .u8 0, .int .u16 0], []⟩ 8 (by kernel_rfl) (by kernel_rfl) (by kernel_rfl)
      (x := ([.nil, .lit (.int .u8 0), .lit (.int .u16 0)], [], [])) (by kernel_rfl) rfl (by kernel_rfl)) ?_
  intro W base args ds gs before hval0 hW _ hk0 _
  have hval : ∀ (j : Nat) t v, Try.f11.params[j]? = some t → args[j]? = some v → Value.okWide Try.prog W .any base t v := hval0
  have hW' := hW
  obtain ⟨p, q, hA0, hV, rfl, hfz, hnd⟩ := hW
  have hA : DataW.TrodAll enc Try.prog W 0 (fun _ => true) true Try.f11.params.toList args.toList ds p := hA0
  rw [Try.params11] at hA hval
  obtain ⟨v0, vs0, d0, ds0, p0, q0, hargs, rfl, rfl, h0, r0⟩ := trodAll_cons hA
  obtain ⟨v1, vs1, d1, ds1, p1, q1, rfl, rfl, rfl, h1, r1⟩ := trodAll_cons r0
  obtain ⟨v2, vs2, d2, ds2, p2, q2, rfl, rfl, rfl, h2, r2⟩ := trodAll_cons r1
  obtain ⟨rfl, rfl, rfl⟩ := trodAll_nil r2
  obtain rfl : args = #[v0, v1, v2] := by cases args; simp_all
  obtain ⟨rfl, rfl⟩ := trodVars_none hV
  have lt0 : ∀ x ∈ p0, x.block < W.heap.size := by obtain ⟨m, hm⟩ := h0; exact DataW.trod_lt m _ _ _ hm
  have lt1 : ∀ x ∈ p1, x.block < W.heap.size := by obtain ⟨m, hm⟩ := h1; exact DataW.trod_lt m _ _ _ hm
  have lt2 : ∀ x ∈ p2, x.block < W.heap.size := by obtain ⟨m, hm⟩ := h2; exact DataW.trod_lt m _ _ _ hm
  have hk : Rows.uptoBulkAll [d0, d1, d2] ≤ 1048576 := of_decide_eq_true hk0
  clear hA0 hval0
  refine (walk_CodecForms enc W base (hval 0 25 v0 rfl rfl) h0 (hval 1 5 v1 rfl rfl) h1 (hval 2 87 v2 rfl rfl) h2 hk).mono fun e W' ⟨he, bel⟩ => ?_
  subst he
  exact ⟨_, rfl, _, _, _, [], _, [], hW', trodAll_mk1 (shut_bool Try.underlying4 _), (trodAll_cons_mk (Below.trod laidOut (by kernel_rfl) (of_decide_eq_true (by kernel_rfl)) h0 bel lt0) (trodAll_cons_mk (Below.trod laidOut (by kernel_rfl) (of_decide_eq_true (by kernel_rfl)) h1 bel lt1) (trodAll_cons_mk (Below.trod laidOut (by kernel_rfl) (of_decide_eq_true (by kernel_rfl)) h2 bel lt2) trodAll_mk0))), rfl, bel.frame _, fun h => by cases h⟩

theorem proved : Rows.CodecFormsUptoSaid :=
  OpenClaim.holds_of_cond 11 Try.f11 rfl rfl rfl rfl rfl rfl rfl ⟨rfl, rfl, rfl, rfl, rfl⟩ rfl rfl rfl rfl rfl (by kernel_rfl) Try.func11 (by kernel_rfl)
    (of_decide_eq_true (by kernel_rfl)) (by unfold Func.isWrapper; first | (rw [if_pos (by decide +kernel)]; kernel_rfl) | (rw [if_neg (by decide +kernel)]; exact ⟨rfl, rfl⟩))
    (fun os started H enc _ F => lifted os started H enc F)
end Go.Proofs.Ytlpbbcjmmhabfaa.codecForms
