/- DERIVED. Chapter 21: forms are short; with a byte more, or of a part of one, nothing is told. · DERIVED. MsgBack, walked. · DERIVED. MsgBack, from how its arguments read. · The statement MsgBack, second form: for every input of bulk at most 1048576 the law returns true, and the arguments read as they did. -/
import Derived.Test.YtpjpimahnnekkaaGreatY41
import Derived.Test.YtpjpimahnnekkaaGreatY42
import Derived.Test.YtpjpimahnnekkaaGreatY27
import Derived.Deep.DeepCutAuto
import Derived.Test.YtpjpimahnnekkaaGreatY43
import Derived.Test.YtpjpimahnnekkaaGreatRows
import Derived.ProofKit
import Derived.OpenShut
import Derived.JoinedCond
import Derived.ChangeOld
namespace Go.Proofs.YtpjpimahnnekkaaGreat
open Go.RowKit

theorem mForm_le {m : Ms} {w : World} (h : m.fine w) (hok : mayM m.plain = true) : (mForm m.plain).length ≤ 1000000 := by
  have hr : ∀ p ∈ partsL m.plain.kind, (0 ≤ p ∧ p ≤ 7) ∧ rightM m.plain p = true := fun p hp => ⟨(parts_mem hp).2, (mayM_parts hok).2 p hp⟩
  have hL := parts_len m.plain.kind
  have h1 := flat_le h _ hr
  have h2 : (form m.plain.kind.toNat).length ≤ 10 := form_le10 (by have := h.2.2.2.1.1; unfold I64 at this; have e : m.plain.kind = m.kind := rfl; rw [e]; omega)
  unfold mForm
  simp only [List.length_append]
  have : 5000 * (partsL m.plain.kind).length ≤ 5000 * 4 := Nat.mul_le_mul_left _ hL
  omega
theorem mtake_more {m y : PMs} {c : UInt8} (h : mayM m = true) (hg : GM m) (hy : GM y) (e : takeM (mForm m ++ [c]) = some y) : False := by
  obtain ⟨h1, h2⟩ := takeM_some e
  have := (mForm_pre h hg h1 hy (t := [c]) h2.symm).1
  cases this
theorem mtake_less {m y : PMs} {k : Nat} (hk : k < (mForm m).length) (h : mayM m = true) (hg : GM m) (hy : GM y) (e : takeM ((mForm m).take k) = some y) : False := by
  obtain ⟨h1, h2⟩ := takeM_some e
  have := (mForm_pre h1 hy h hg (t := (mForm m).drop k) (by rw [h2]; exact List.take_append_drop _ _)).1
  have h3 := congrArg List.length this
  simp at h3
  omega
theorem mForm_pos (m : PMs) : 0 < (mForm m).length := by
  unfold mForm
  have := form_length_pos m.kind.toNat
  simp only [List.length_append]
  omega
end Go.Proofs.YtpjpimahnnekkaaGreat

namespace Go.Proofs.YtpjpimahnnekkaaGreat
open Go.RowKit Go.Great

attribute [-go_sem] loadVar storeVar
set_option maxRecDepth 100000 in
set_option maxHeartbeats 1000000 in
theorem mback_any (m : Ms) (v : Value) (b : List UInt8) (c : UInt8) (n : Nat) (w : World) (hm : m.fine w) (h : Sees w v b) (hl : b.length ≤ 1000000000) (hn : n < 65536) :
    Calls Tryz.prog 4 #[.agg m.cells.toArray, v, .int .u8 (c.toNat : Int), .int .u16 (n : Int)] w fun e w' => e = .returned (.bool true) ∧ Old w w' := by
  have O1 := Lib.hid (fun W (o : Old w W) => ours_any m W (hm.old o))
  have P1 := Lib.hid (fun W (o : Old w W) => msg_put_any m W (hm.old o))
  have M1 := Lib.hid (fun W (o : Old w W) => msg_may_any m W (hm.old o))
  have S1 := Lib.hid (fun W (o : Old w W) (y : Ms) (hy : y.fine W) => msg_same_any y m W hy (hm.old o))
  have FL := Lib.hid (fun h => mForm_le hm h)
  have GG : GM m.plain := ⟨w, m, hm, rfl⟩
  have LAW := Lib.hid (And.intro (fun (h : mayM m.plain = true) => takeM_form h GG) (And.intro (fun (h : mayM m.plain = true) y (hy : GM y) => @mtake_more m.plain y c h GG hy) (fun (h : mayM m.plain = true) y (hy : GM y) k (hk : k < (mForm m.plain).length) => @mtake_less m.plain y k hk h GG hy)))
  obtain ⟨pv, cv, rfl, _, _⟩ := h.len
  obtain ⟨W0, hW0⟩ : ∃ W0, w.alloc (.cells m.cells.toArray 37) = W0 := ⟨_, rfl⟩
  have k0 : Old w W0 := by rw [← hW0]; exact (Keeps.refl _ _).alloc _
  have b0 : W0.heap[w.heap.size]? = some (.cells m.cells.toArray 37 (0, 0)) := by rw [← hW0]; exact heap_alloc_new _ _
  have g0 := load_whole b0 (by simp [Ms.cells]) Tryz.underlying37 (by kernel_rfl)
  have B := Lib.hid (And.intro k0 (And.intro b0 h))
  have hn16 := hn
  clear k0 b0 hm GG h
  go_enter Tryz.func4, Tryz.ntmps4
  go_wp2_with fail
  refine (O1.out _ B.out.1).mono ?_
  rintro e w1 ⟨rfl, k1⟩
  have K1 := Lib.hid k1
  clear k1 g0
  go_wp2_with fail
  refine (P1.out _ (B.out.1.trans K1.out)).mono ?_
  rintro e w2 ⟨p2, c2, z2, L2, rfl, k2, ho2, hL2, hz2⟩
  have kk2 := K1.out.trans k2
  have g1 := load_whole ((kk2.block _ (lt_of_heap B.out.2.1) (fun f => f)).trans B.out.2.1) (by simp [Ms.cells]) Tryz.underlying37 (by kernel_rfl)
  have K2 := Lib.hid (And.intro kk2 (And.intro ho2.sees (And.intro hL2 hz2)))
  have hL2l : L2.length ≤ 1000000 := by
    rw [hL2]; split
    · exact FL.out (by assumption)
    · simp
  have hL2m : L2.length ≤ 9223372036854775807 := by omega
  have HLl := Lib.hid hL2l
  clear k2 ho2 hL2 hz2 kk2 K1 hL2l
  go_upto_region 2 with fail
  go_cut [45] (fun v wc => v = .bool false ∧ Old w2 wc)
  case first =>
    as_aux_lemma =>
      have E2 := K2.out.2.2
      obtain ⟨t1, ht1⟩ : ∃ b, mayM m.plain = b := ⟨_, rfl⟩
      have M2 := M1.out
      rw [ht1] at E2 M2
      obtain ⟨rfl, rfl⟩ := E2
      have M3 := Lib.hid M2
      clear M2 ht1
      cases t1
      all_goals
        simp only [if_true, if_false, Bool.false_eq_true, List.length_nil] at hL2m ⊢
        go_wp2_with fail
        refine (O1.out _ (B.out.1.trans K2.out.1)).mono ?_
        rintro e w3 ⟨rfl, k3⟩
        have K3 := Lib.hid k3
        clear k3
        go_wp2_with fail
        refine (M3.out _ (B.out.1.trans (K2.out.1.trans K3.out))).mono ?_
        rintro e w4 ⟨rfl, k4⟩
        have K4 := Lib.hid (K3.out.trans k4)
        clear k4
        go_wp2_with fail
        go_meet
        case rel => exact ⟨rfl, K4.out⟩
  obtain ⟨rfl, hcut⟩ := hcut
  have KC := Lib.hid hcut
  clear hcut M1 g1
  go_upto_if 47 with fail
  go_cut [] (fun wd => Old w2 wd)
  case first =>
    as_aux_lemma =>
      have E2 := K2.out.2.2
      obtain ⟨t1, ht1⟩ : ∃ b, mayM m.plain = b := ⟨_, rfl⟩
      rw [ht1] at E2
      cases t1
      · obtain ⟨rfl, rfl⟩ := E2
        simp only [if_false, Bool.false_eq_true, List.length_nil] at hL2m ⊢
        go_wp2_with fail
        go_meet
        case rel => exact KC.out
      obtain ⟨hLF, rfl⟩ := E2
      simp only [if_true] at hLF ⊢
      obtain ⟨q, hq⟩ : ∃ q, n % L2.length = q := ⟨_, rfl⟩
      have hpos : 0 < L2.length := by rw [hLF]; exact mForm_pos _
      have hql : q < L2.length := by rw [← hq]; exact Nat.mod_lt _ hpos
      have hmod : (n : Int) % (L2.length : Int) = (q : Int) := by rw [← hq]; norm_cast
      have hmod' : Int.tmod (n : Int) (L2.length : Int) = (q : Int) := by rw [← hmod]; exact Int.tmod_eq_emod_of_nonneg (by omega)
      have hw1 : IntKind.i64.wrap (n : Int) = (n : Int) := by rw [IntKind.wrap_i64]; omega
      have hne : ((L2.length : Int) == 0) = false := by rw [beq_eq_false_iff_ne]; omega
      obtain ⟨tk1, tk2, tk3⟩ : takeM L2 = some m.plain ∧ (∀ y, GM y → takeM (L2 ++ [c]) = some y → False) ∧ (∀ y, GM y → takeM (L2.take q) = some y → False) := by
        rw [hLF]
        exact ⟨LAW.out.1 ht1, fun y hy e => LAW.out.2.1 ht1 y hy e, fun y hy e => LAW.out.2.2 ht1 y hy q (by rw [← hLF]; exact hql) e⟩
      have TK := Lib.hid (And.intro tk1 (And.intro tk2 tk3))
      have S2 := Lib.hid (K2.out.2.1.old KC.out)
      have C1 := Lib.hid (msg_take_any _ L2 _ S2.out (by have := HLl.out; omega))
      clear tk1 tk2 tk3 hLF ht1 hpos hq
      go_wp2_with fail
      refine C1.out.mono ?_
      rintro e w5 ⟨m5, z5, rfl, k5, ho5, hres5⟩
      rw [TK.out.1] at hres5
      obtain ⟨hm5, rfl⟩ : m5.plain = m.plain ∧ z5 = 0 := by
        rcases hres5 with ⟨h1, h2⟩ | ⟨h1, _⟩
        · exact ⟨(Option.some.inj h1).symm, h2⟩
        · cases h1
      obtain ⟨Wb, hWb⟩ : ∃ W, w5.alloc (.cells zeroMs.cells.toArray 44) = W := ⟨_, rfl⟩
      have bb : MAt Wb w5.heap.size zeroMs := by rw [← hWb]; exact heap_alloc_new _ _
      have ob : Old w5 Wb := by rw [← hWb]; exact (Keeps.refl _ _).alloc _
      obtain ⟨W5, hst5, b5, kb5⟩ := store_msg bb m5 ho5.one
      have o5 : Old w5 W5 := ob.then kb5 (fun i hi e => by omega)
      change w5.alloc (.cells #[.int .i64 0, .int .i64 0, .int .u64 0, .bool false, .slice none 0 0, .int .u64 0, .int .u64 0, .string ⟨#[]⟩, .slice none 0 0, .int .i64 0, .int .u64 0, .int .u64 0, .int .u64 0, .int .u64 0, .int .u64 0, .slice none 0 0, .slice none 0 0, .bool false] 44) = Wb at hWb
      have S5 := Lib.hid (S2.out.old (k5.trans o5))
      have K5 := Lib.hid (And.intro (k5.trans o5) (And.intro ((ho5.old o5).fine) (And.intro b5 hm5)))
      have HN := Lib.hid (And.intro (show ([] : List UInt8).length + L2.length ≤ 1000000000 by have := HLl.out; simp; omega) (show L2.length + 1 ≤ 1000000000 by have := HLl.out; omega))
      have HQ := Lib.hid (by decide : (1000000000 : Nat) ≤ 1152921504606)
      clear hres5 bb ob kb5 o5 ho5 k5 hm5 C1 b5
      go_wp2_with (at_builtin; first
        | (refine wpList_append_sees rfl _ _ rfl W5.heap.size (.slice none 0 0) [] rfl (Owns.nil _ _) _ L2 rfl S5.out (Nat.le_trans HN.out.1 HQ.out) (Nat.le_refl _) ?_; intro v1 w1 ho1 hg1; obtain ⟨p1, c1, e1, _, _⟩ := ho1.sees.len; subst e1; have HO1 := Lib.hid (And.intro ho1 (And.intro hg1 (show W5.heap.size ≤ w1.heap.size from ((Keeps.refl (fun _ => False) W5).grown hg1 (fun k hk _ => by cases hk)).size))); clear ho1 hg1)
        | (refine wpList_append_sees rfl _ _ rfl W5.heap.size (.slice p1 _ c1) L2 rfl (HO1.out.1.alloc _) _ [c] rfl (Sees.one _ _ _ rfl) (Nat.le_trans HN.out.2 HQ.out) (Nat.le_trans HO1.out.2.2 (by simp)) ?_; intro v2 w2 ho2 hg2; obtain ⟨p2, c2, e2, _, _⟩ := ho2.sees.len; subst e2; have HO2 := Lib.hid (And.intro ho2 hg2); clear ho2 hg2))
      have K6 := Lib.hid (show Old W5 w2 from ((Keeps.refl (fun _ => False) W5).grown HO1.out.2.1 (fun k hk _ => by cases hk)).then (((Keeps.refl (fun k => W5.heap.size ≤ k) w1).alloc _).grown HO2.out.2 (fun k hk _ => (HO1.out.1.block k hk).1)) (fun i hi e => by omega))
      have X := Lib.hid (show Sees w2 (.slice p2 (L2.length + 1) c2) (L2 ++ [c]) by have h2 := HO2.out.1.sees; simp only [List.length_append, List.length_singleton] at h2; exact h2)
      have C2 := Lib.hid (msg_take_any _ (L2 ++ [c]) w2 X.out (by have := HLl.out; rw [List.length_append]; simp; omega))
      clear HO1 HO2 HN HQ
      refine C2.out.mono ?_
      rintro e w8 ⟨m8, z8, rfl, k8, ho8, hres8⟩
      obtain ⟨rfl, rfl⟩ : m8 = zeroMs ∧ z8 = 5 := by
        rcases hres8 with ⟨h1, h2⟩ | ⟨_, h1, h2⟩
        · exact absurd h1 (fun e => TK.out.2.1 _ ⟨w8, m8, ho8.fine, rfl⟩ e)
        · exact ⟨h1, h2⟩
      obtain ⟨Wc, hWc⟩ : ∃ W, w8.alloc (.cells zeroMs.cells.toArray 44) = W := ⟨_, rfl⟩
      have bc : MAt Wc w8.heap.size zeroMs := by rw [← hWc]; exact heap_alloc_new _ _
      have oc : Old w8 Wc := by rw [← hWc]; exact (Keeps.refl _ _).alloc _
      obtain ⟨W8, hst8, b8, kb8⟩ := store_msg bc zeroMs ho8.one
      have o8 : Old w8 W8 := oc.then kb8 (fun i hi e => by omega)
      change w8.alloc (.cells #[.int .i64 0, .int .i64 0, .int .u64 0, .bool false, .slice none 0 0, .int .u64 0, .int .u64 0, .string ⟨#[]⟩, .slice none 0 0, .int .i64 0, .int .u64 0, .int .u64 0, .int .u64 0, .int .u64 0, .int .u64 0, .slice none 0 0, .slice none 0 0, .bool false] 44) = Wc at hWc
      have K8 := Lib.hid (K6.out.trans (k8.trans o8))
      obtain ⟨p9, c9, hr9, hs9, _⟩ := (S5.out.old K8.out).upto q (Nat.le_of_lt hql) IntKind.i64 (q : Int) rfl
      have C3 := Lib.hid (msg_take_any _ (L2.take q) W8 hs9 (by have := HLl.out; rw [List.length_take]; omega))
      clear hres8 bc oc kb8 o8 b8 k8 ho8 C2 X K6 hs9 hWb hst5 
      go_wp2_with fail
      refine C3.out.mono ?_
      rintro e w9 ⟨m9, z9, rfl, k9, ho9, hres9⟩
      obtain ⟨rfl, rfl⟩ : m9 = zeroMs ∧ z9 = 5 := by
        rcases hres9 with ⟨h1, h2⟩ | ⟨_, h1, h2⟩
        · exact absurd h1 (fun e => TK.out.2.2 _ ⟨w9, m9, ho9.fine, rfl⟩ e)
        · exact ⟨h1, h2⟩
      obtain ⟨Wd, hWd⟩ : ∃ W, w9.alloc (.cells zeroMs.cells.toArray 44) = W := ⟨_, rfl⟩
      have bd : MAt Wd w9.heap.size zeroMs := by rw [← hWd]; exact heap_alloc_new _ _
      have od : Old w9 Wd := by rw [← hWd]; exact (Keeps.refl _ _).alloc _
      obtain ⟨W9, hst9, b9, kb9⟩ := store_msg bd zeroMs ho9.one
      have o9 : Old w9 W9 := od.then kb9 (fun i hi e => by omega)
      change w9.alloc (.cells #[.int .i64 0, .int .i64 0, .int .u64 0, .bool false, .slice none 0 0, .int .u64 0, .int .u64 0, .string ⟨#[]⟩, .slice none 0 0, .int .i64 0, .int .u64 0, .int .u64 0, .int .u64 0, .int .u64 0, .int .u64 0, .slice none 0 0, .slice none 0 0, .bool false] 44) = Wd at hWd
      have K9 := Lib.hid (K8.out.trans (k9.trans o9))
      have KW := Lib.hid (KC.out.trans (K5.out.1.trans K9.out))
      have KB := Lib.hid (B.out.1.trans (K2.out.1.trans KW.out))
      have gA := fun p : OldOf W9 => load_whole (((K2.out.1.trans (KW.out.trans p.old)).block _ (lt_of_heap B.out.2.1) (fun f => f)).trans B.out.2.1) (by simp [Ms.cells]) Tryz.underlying37 (by kernel_rfl)
      have gB := fun p : OldOf W9 => load_msg (((K9.out.trans p.old).block _ (lt_of_heap K5.out.2.2.1) (fun f => f)).trans K5.out.2.2.1) rfl
      have CS := fun (p : OldOf W9) => Calls.quiet_of_old (p := p) (S1.out p.to (KB.out.trans p.old) m5 (K5.out.2.1.old (K9.out.trans p.old)))
      rw [K5.out.2.2.2, (sameM_iff _ _).2 rfl] at CS
      have QS := Lib.hid CS
      have QA := Lib.hid (fun p : OldOf W9 => Calls.quiet_of_old (p := p) (O1.out p.to (KB.out.trans p.old)))
      clear hres9 bd od kb9 o9 b9 k9 ho9 C3 hWc hst8 CS hr9
      go_wp2_with fail
      refine wp_region_quiet_old (by kernel_rfl) (by kernel_rfl) ?_
      iterate 5 (go_big_quiet_step (fail))
      go_big_quiet_step ((go_at_call 9; exact QA.out _))
      go_big_quiet_step ((go_at_call 17; exact QS.out _))
      repeat (go_big_quiet_step (fail))
      refine wpQuiet_nil ?_
      intro _ hpq
      obtain ⟨pq, hpq'⟩ := hpq
      subst hpq'
      go_wp2_with fail
      go_meet
      case rel => exact KW.out.trans pq.old
  have KD := Lib.hid hcut
  clear hcut LAW O1 P1 S1 FL HLl hn hn16 hL2m KC
  have SB := Lib.hid (B.out.2.2.old (B.out.1.trans (K2.out.1.trans KD.out)))
  have C4 := Lib.hid (msg_take_any _ b _ SB.out hl)
  have KE := Lib.hid (B.out.1.trans (K2.out.1.trans KD.out))
  clear KD K2 B
  go_wp2_with fail
  refine C4.out.mono ?_
  rintro e w5 ⟨m5, z5, rfl, k5, ho5, hres5⟩
  obtain ⟨Wb, hWb⟩ : ∃ W, w5.alloc (.cells zeroMs.cells.toArray 44) = W := ⟨_, rfl⟩
  have bb : MAt Wb w5.heap.size zeroMs := by rw [← hWb]; exact heap_alloc_new _ _
  have ob : Old w5 Wb := by rw [← hWb]; exact (Keeps.refl _ _).alloc _
  obtain ⟨W5, hst5, b5, kb5⟩ := store_msg bb m5 ho5.one
  have o5 : Old w5 W5 := ob.then kb5 (fun i hi e => by omega)
  change w5.alloc (.cells #[.int .i64 0, .int .i64 0, .int .u64 0, .bool false, .slice none 0 0, .int .u64 0, .int .u64 0, .string ⟨#[]⟩, .slice none 0 0, .int .i64 0, .int .u64 0, .int .u64 0, .int .u64 0, .int .u64 0, .int .u64 0, .slice none 0 0, .slice none 0 0, .bool false] 44) = Wb at hWb
  have K5 := Lib.hid (And.intro (KE.out.trans (k5.trans o5)) (And.intro ((ho5.old o5).fine) (SB.out.old (k5.trans o5))))
  have g5 := load_msg b5 rfl
  have B5 := Lib.hid b5
  clear bb ob kb5 k5 ho5 C4 b5 o5
  rcases hres5 with ⟨ht, rfl⟩ | ⟨ht, rfl, rfl⟩
  · obtain ⟨hmy, hfo⟩ := takeM_some ht
    have C5 := msg_put_any m5 W5 K5.out.2.1
    rw [hmy, hfo] at C5
    have H5 := Lib.hid C5
    have HM := Lib.hid hmy
    clear ht hmy hfo C5
    go_wp2_with fail
    refine H5.out.mono ?_
    rintro e w6 ⟨p6, c6, z6, L6, rfl, k6, ho6, hL6, hz6⟩
    simp only [if_true] at hL6 hz6
    subst hL6 hz6
    have t1 := ho6.sees.text
    have t2 := (K5.out.2.2.old k6).text
    have g6 := load_msg ((k6.block _ (lt_of_heap B5.out) (fun f => f)).trans B5.out) rfl
    have CM := msg_may_any m5 w6 (K5.out.2.1.old k6)
    rw [HM.out] at CM
    have HC := Lib.hid CM
    have bs := bytes_self
    have K6 := Lib.hid (K5.out.1.trans k6)
    clear k6 ho6 CM H5 g5
    go_wp2_with fail
    refine HC.out.mono ?_
    rintro e w7 ⟨rfl, k7⟩
    have K7 := Lib.hid (K6.out.trans k7)
    clear k7 g6 t1 t2
    go_wp2_with fail
    refine (mwakes_any _).mono ?_
    rintro e w9 ⟨rfl, k9⟩
    have K9 := Lib.hid (K7.out.trans k9)
    clear k9
    go_wp2_with fail
    go_ret
    exact ⟨rfl, K9.out⟩
  · have CS := msg_same_any zeroMs zeroMs W5 (zero_fine _) (zero_fine _)
    rw [(sameM_iff _ _).2 rfl] at CS
    have HS := Lib.hid CS
    clear CS ht
    go_wp2_with fail
    refine HS.out.mono ?_
    rintro e w6 ⟨rfl, k6⟩
    have K6 := Lib.hid (K5.out.1.trans k6)
    clear k6 g5
    go_wp2_with fail
    refine (mwakes_any _).mono ?_
    rintro e w9 ⟨rfl, k9⟩
    have K9 := Lib.hid (K6.out.trans k9)
    clear k9
    go_wp2_with fail
    go_ret
    exact ⟨rfl, K9.out⟩
end Go.Proofs.YtpjpimahnnekkaaGreat

namespace Go.Proofs.YtpjpimahnnekkaaGreat
open Go.ChangeShapes Go.WideShapes Go.ChangeAt Go.RowKit

set_option maxRecDepth 100000 in
theorem walk_MsgBack {H : Type} (enc : TypeId × Value → H) (W : World) (base : Nat) {v0 v1 v2 v3 : Value} {d0 d1 d2 d3 : DataW H} {p0 p1 p2 p3 : List MemPlace}
    (hv0 : Value.okWide Tryz.prog W .any base 37 v0) (h0 : DataW.Trod enc Tryz.prog W 0 (fun _ => true) true 37 v0 d0 p0)
    (hv1 : Value.okWide Tryz.prog W .any base 38 v1) (h1 : DataW.Trod enc Tryz.prog W 0 (fun _ => true) true 38 v1 d1 p1)
    (hv2 : Value.okWide Tryz.prog W .any base 5 v2) (h2 : DataW.Trod enc Tryz.prog W 0 (fun _ => true) true 5 v2 d2 p2)
    (hv3 : Value.okWide Tryz.prog W .any base 60 v3) (h3 : DataW.Trod enc Tryz.prog W 0 (fun _ => true) true 60 v3 d3 p3)
    (hk : Rows.uptoBulkAll [d0, d1, d2, d3] ≤ 1048576) :
    Calls Tryz.prog 4 #[v0, v1, v2, v3] W fun e W' => e = .returned (.bool true) ∧ Below W.heap.size W W' := by
  obtain ⟨m, rfl, hm⟩ := read_msg hv0 h0
  obtain ⟨b, hb, hlb⟩ := read_bytes hv1 h1
  obtain ⟨z, rfl, rfl, rfl, wz⟩ := open_int Tryz.underlying5 hv2 h2
  obtain ⟨n, rfl, rfl, rfl, wn⟩ := open_int Tryz.underlying60 hv3 h3
  have hz : 0 ≤ z ∧ z ≤ 255 := by simpa [Lit.wf, IntKind.min, IntKind.max, IntKind.signed, IntKind.bits] using wz
  have hn : 0 ≤ n ∧ n ≤ 65535 := by simpa [Lit.wf, IntKind.min, IntKind.max, IntKind.signed, IntKind.bits] using wn
  obtain ⟨k, rfl⟩ := Int.eq_ofNat_of_zero_le hn.1
  simp only [Rows.uptoBulkAll] at hk
  have e : z = ((UInt8.ofNat z.toNat).toNat : Int) := by rw [UInt8.toNat_ofNat']; omega
  rw [e]
  exact (mback_any m v1 b (UInt8.ofNat z.toNat) k W hm hb (by omega) (by omega)).mono fun e W' h => ⟨h.1, Old.below h.2⟩
end Go.Proofs.YtpjpimahnnekkaaGreat

namespace Go.Proofs.YtpjpimahnnekkaaGreat.msgBack
open Go.ChangeShapes Go.WideShapes Go.ChangeAt Go.RowKit
theorem own : ownKnob Tryz.prog.godebug = none := by kernel_rfl
theorem laidOut : laidOutB Tryz.prog = true := by kernel_rfl

set_option maxRecDepth 100000 in
theorem lifted (os : Os) (started : os.Started) (H : Type) (enc : TypeId × Value → H) (F : Stop.Interp) :
    ReturnsInHanded {} Tryz.checked os 4 .any ((Rows.OpenSpec.upto Rows.msgBackSpec).pre6 enc Tryz.prog Tryz.f4 Rows.msgBackUptoRow.domain false) (((Rows.OpenSpec.upto Rows.msgBackSpec).at F).post enc Tryz.prog Tryz.f4 false true false false) := by
  refine returnsInHanded_of_cond (C := Tryz.checked) (s := Rows.OpenSpec.upto Rows.msgBackSpec) (k := Rows.uptoSmall) rfl own started (by kernel_rfl) Tryz.func4
    (OpenSpec.witness (enc := enc) (C := Tryz.checked) (s := Rows.OpenSpec.upto Rows.msgBackSpec) (k := Rows.uptoSmall) rfl false ⟨#[], #[.agg #[.int .i64 0, .int .i64 0, .int .u64 0, .bool false, .slice none 0 0, .int .u64 0, .int .u64 0, .string ⟨#[]⟩, .slice none 0 0, .int .i64 0, .int .u64 0, .int .u64 0, .int .u64 0, .int .u64 0, .int .u64 0, .slice none 0 0, .slice none 0 0, .bool false], .slice none 0 0, .int .u8 0, .int .u16 0], []⟩ 8 (by kernel_rfl) (by kernel_rfl) (by kernel_rfl)
      (x := ([.agg [.lit (.int .i64 0), .lit (.int .i64 0), .lit (.int .u64 0), .lit (.bool false), .nil, .agg [.lit (.int .u64 0), .lit (.int .u64 0), .agg [.lit (.string []), .nil]], .agg [.lit (.int .i64 0), .lit (.int .u64 0), .lit (.int .u64 0)], .lit (.int .u64 0), .agg [.lit (.int .u64 0), .lit (.int .u64 0), .nil, .nil, .lit (.bool false)]], .nil, .lit (.int .u8 0), .lit (.int .u16 0)], [], [])) (by kernel_rfl) rfl (by kernel_rfl)) ?_
  intro W base args ds gs before hval0 hW _ hk0 _
  have hval : ∀ (j : Nat) t v, Tryz.f4.params[j]? = some t → args[j]? = some v → Value.okWide Tryz.prog W .any base t v := hval0
  have hW' := hW
  obtain ⟨p, q, hA0, hV, rfl, hfz, hnd⟩ := hW
  have hA : DataW.TrodAll enc Tryz.prog W 0 (fun _ => true) true Tryz.f4.params.toList args.toList ds p := hA0
  rw [Tryz.params4] at hA hval
  obtain ⟨v0, vs0, d0, ds0, p0, q0, hargs, rfl, rfl, h0, r0⟩ := trodAll_cons hA
  obtain ⟨v1, vs1, d1, ds1, p1, q1, rfl, rfl, rfl, h1, r1⟩ := trodAll_cons r0
  obtain ⟨v2, vs2, d2, ds2, p2, q2, rfl, rfl, rfl, h2, r2⟩ := trodAll_cons r1
  obtain ⟨v3, vs3, d3, ds3, p3, q3, rfl, rfl, rfl, h3, r3⟩ := trodAll_cons r2
  obtain ⟨rfl, rfl, rfl⟩ := trodAll_nil r3
  obtain rfl : args = #[v0, v1, v2, v3] := by cases args; simp_all
  obtain ⟨rfl, rfl⟩ := trodVars_none hV
  have lt0 : ∀ x ∈ p0, x.block < W.heap.size := by obtain ⟨m, hm⟩ := h0; exact DataW.trod_lt m _ _ _ hm
  have lt1 : ∀ x ∈ p1, x.block < W.heap.size := by obtain ⟨m, hm⟩ := h1; exact DataW.trod_lt m _ _ _ hm
  have lt2 : ∀ x ∈ p2, x.block < W.heap.size := by obtain ⟨m, hm⟩ := h2; exact DataW.trod_lt m _ _ _ hm
  have lt3 : ∀ x ∈ p3, x.block < W.heap.size := by obtain ⟨m, hm⟩ := h3; exact DataW.trod_lt m _ _ _ hm
  have hk : Rows.uptoBulkAll [d0, d1, d2, d3] ≤ 1048576 := of_decide_eq_true hk0
  clear hA0 hval0
  refine (walk_MsgBack enc W base (hval 0 37 v0 rfl rfl) h0 (hval 1 38 v1 rfl rfl) h1 (hval 2 5 v2 rfl rfl) h2 (hval 3 60 v3 rfl rfl) h3 hk).mono fun e W' ⟨he, bel⟩ => ?_
  subst he
  exact ⟨_, rfl, _, _, _, [], _, [], hW', trodAll_mk1 (shut_bool Tryz.underlying4 _), (trodAll_cons_mk (Below.trod laidOut (by kernel_rfl) (of_decide_eq_true (by kernel_rfl)) h0 bel lt0) (trodAll_cons_mk (Below.trod laidOut (by kernel_rfl) (of_decide_eq_true (by kernel_rfl)) h1 bel lt1) (trodAll_cons_mk (Below.trod laidOut (by kernel_rfl) (of_decide_eq_true (by kernel_rfl)) h2 bel lt2) (trodAll_cons_mk (Below.trod laidOut (by kernel_rfl) (of_decide_eq_true (by kernel_rfl)) h3 bel lt3) trodAll_mk0)))), rfl, bel.frame _, fun h => by cases h⟩

theorem proved : Rows.MsgBackUptoSaid :=
  OpenClaim.holds_of_cond 4 Tryz.f4 rfl rfl rfl rfl rfl rfl rfl ⟨rfl, rfl, rfl, rfl, rfl⟩ rfl rfl rfl rfl rfl (by kernel_rfl) Tryz.func4 (by kernel_rfl)
    (of_decide_eq_true (by kernel_rfl)) (by unfold Func.isWrapper; first | (rw [if_pos (by decide +kernel)]; kernel_rfl) | (rw [if_neg (by decide +kernel)]; exact ⟨rfl, rfl⟩))
    (fun os started H enc _ F => lifted os started H enc F)
end Go.Proofs.YtpjpimahnnekkaaGreat.msgBack
