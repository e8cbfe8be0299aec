/- DERIVED. The document's reader of forms (layer 7): num, signed, text, value. · DERIVED. The document's reader of forms (layer 7), from any state: num, text, value. -/
import Derived.Test.YtpjpimahnnekkaaGreatYpMsgForms16
import Derived.Deep.Cut
import Derived.Deep.DeepCutAuto
set_option maxRecDepth 100000
set_option maxHeartbeats 4000000
namespace Go.Proofs.YtpjpimahnnekkaaGreat
section
open Go.RowKit
def Rr (W : World) (rp : Nat) (st : Option (List UInt8)) : Prop :=
 match st with
 | some l => ∃ v, W.heap[rp]? = some (.cells #[v, .bool false] 156 (0, 0)) ∧ Sees W v l ∧ (0 < l.length → ∀ k, v.ownBlock = some k → k < rp)
 | none => ∃ p n c, W.heap[rp]? = some (.cells #[.slice p n c, .bool true] 156 (0, 0))
theorem Sees.empty {w w' : World} {v : Value} (h : Sees w v []) : Sees w' v [] := by
 obtain ⟨p, c, e, h1, h2, h3, h4⟩ := h
 exact ⟨p, c, e, h1, h2, h3, fun a ha => ⟨(h4 a ha).1, fun j b hj => by cases hj⟩⟩
theorem Sees.keepR {w w' : World} {v : Value} {l : List UInt8} {rp : Nat} (h : Sees w v l) (k : Keeps (fun k => k = rp) w w') (hne : 0 < l.length → ∀ k, v.ownBlock = some k → k < rp) : Sees w' v l := by
 cases l with
 | nil => exact h.empty
 | cons x r => exact h.keeps k (fun b hb e => by have := hne (by simp) b hb; omega)
def rscan (most : Nat) : Nat → Nat → List UInt8 → Option (Nat × List UInt8)
 | _, _, [] => none
 | i, acc, c :: r =>
  if 9 ≤ i then none
  else if c.toNat < 128 then (if most < acc + c.toNat % 128 * 128 ^ i ∨ (c.toNat = 0 ∧ 0 < i) then none else some (acc + c.toNat % 128 * 128 ^ i, r))
  else rscan most (i + 1) (acc + c.toNat % 128 * 128 ^ i) r
theorem rscan_scan (most : Nat) (hm : most < 9223372036854775808) : ∀ (l : List UInt8) (i acc : Nat), i ≤ 9 → rscan most i acc l = if (scan i acc l).2.1 ≠ 0 then none else if most < (scan i acc l).1 then none else some ((scan i acc l).1, (scan i acc l).2.2) := by
 intro l
 induction l with
 | nil => intro i acc _; simp [rscan, scan]
 | cons c r ih =>
  intro i acc hi
  rw [rscan, scan]
  by_cases h9 : 9 ≤ i
  ·obtain rfl : i = 9 := by omega
   rw [if_pos (Nat.le_refl _)]
   by_cases hb : (9 = 9 ∧ 1 < c.toNat) ∨ (0 < 9 ∧ c.toNat = 0)
   ·rw [if_pos hb]; simp
   ·rw [if_neg hb]
    have hc : c.toNat = 1 := by omega
    rw [hc]
    simp
    omega
  ·rw [if_neg h9]
   by_cases hb : (i = 9 ∧ 1 < c.toNat) ∨ (0 < i ∧ c.toNat = 0)
   ·rw [if_pos hb]
    have h0 : 0 < i ∧ c.toNat = 0 := by omega
    rw [if_pos (by omega), if_pos (.inr ⟨h0.2, h0.1⟩)]
    simp
   ·rw [if_neg hb]
    by_cases hc : c.toNat < 128
    ·rw [if_pos hc, if_pos hc]
     simp only [ne_eq, not_true_eq_false, if_false]
     by_cases hg : most < acc + c.toNat % 128 * 128 ^ i
     ·rw [if_pos (.inl hg), if_pos hg]
     ·rw [if_neg (by omega), if_neg hg]
    ·rw [if_neg hc, if_neg hc]
     exact ih (i + 1) _ (by omega)
theorem pNum_rscan {most : Nat} (hm : most < 9223372036854775808) (l : List UInt8) : pNum most l = rscan most 0 0 l := by
 rw [rscan_scan most hm l 0 0 (by omega)]
 unfold pNum readNum
 by_cases h : (scan 0 0 l).2.1 = 0
 ·by_cases h2 : most < (scan 0 0 l).1
  ·simp [h, h2]
  ·simp [h, h2]
 ·simp [h]
theorem Rr.cells {w : World} {rp : Nat} {l : List UInt8} (h : Rr w rp (some l)) : ∃ p c, w.heap[rp]? = some (.cells #[.slice p l.length c, .bool false] 156 (0, 0)) ∧ Sees w (.slice p l.length c) l ∧ (0 < l.length → ∀ k, (Value.slice p l.length c).ownBlock = some k → k < rp) := by
 obtain ⟨v, h1, h2, h3⟩ := h
 obtain ⟨p, c, rfl, _, _⟩ := h2.len
 exact ⟨p, c, h1, h2, h3⟩
theorem rfnum_some (rp most : Nat) (l : List UInt8) (w : World) (h : Rr w rp (some l)) (hm : most < 9223372036854775808) :
  Calls Tryz.prog 93 #[.pointer (some ⟨rp, 0, none⟩), .int .u64 most] w fun e w' => e = .returned (.int .u64 (((pNum most l).elim 0 (·.1) : Nat))) ∧ (Rr w' rp ((pNum most l).map (·.2)) ∧ Keeps (fun k => k = rp) w w') := by
 rw [pNum_rscan hm]
 obtain ⟨res, hres⟩ : ∃ r, rscan most 0 0 l = r := ⟨_, rfl⟩
 rw [hres]
 have HR := Lib.hid hres
 have H := Lib.hid h
 clear hres h
 go_enter Tryz.func93, Tryz.ntmps93
 go_wp2_with fail
 go_loopw [5, 6, 7] (fun v5 v6 v7 wr => ∃ (k acc m : Nat) (l' : List UInt8), k ≤ 9 ∧ v5 = .int .u64 acc ∧ v6 = .int .u64 m ∧ v7 = .int .i64 k ∧ m = 128 ^ k ∧ acc < m ∧ rscan most k acc l' = res ∧ Rr wr rp (some l') ∧ Keeps (fun k => k = rp) w wr) (fun _ _ v7 _ => 9 - (intOf v7).toNat)
 case atStart => exact ⟨0, 0, 1, l, by omega, rfl, rfl, rfl, rfl, by omega, HR.out, H.out, Keeps.refl _ _⟩
 case round =>
  obtain ⟨k, acc, m, l', hk, rfl, rfl, rfl, hm', hacc, hr, hR, hkw⟩ := hrel
  obtain ⟨p, c, hb, hs, hne⟩ := hR.cells
  have g := blk2 hb
  have hm63 : m ≤ 9223372036854775808 := by rw [hm']; exact Nat.le_trans (Nat.pow_le_pow_right (by decide) hk) (by decide)
  cases l' with
  | nil =>
   have er : res = none := by rw [← hr]; rfl
   have HH := Lib.hid (And.intro hb hkw)
   clear hr hb
   by_cases hlt : k < 9
   ·clear hm' hR hkw hs hne H HR hacc hm63
    go_wp2_with fail
    go_ret
    subst er
    exact ⟨rfl, ⟨_, _, _, by simpa using heap_setCell_same wr rp 1 _ _ (.bool true) HH.out.1⟩, HH.out.2.setCell (fun _ => rfl) _⟩
   ·clear hm' hR hkw hs hne H HR hacc hm63
    go_wp2_with fail
    go_ret
    subst er
    exact ⟨rfl, ⟨_, _, _, by simpa using heap_setCell_same wr rp 1 _ _ (.bool true) HH.out.1⟩, HH.out.2.setCell (fun _ => rfl) _⟩
  | cons x r' =>
   have hx := UInt8.toNat_lt x
   obtain ⟨b0, o0, c0, he, hc1, hc2, hcell⟩ := hs.at (by simp)
   simp only [Value.slice.injEq, true_and] at he
   obtain ⟨rfl, rfl⟩ := he
   have q : wr.cell? ⟨b0, o0, none⟩ = some (.int .u8 (x.toNat : Int)) := hcell 0 x rfl
   by_cases hlt : k < 9
   ·have hm8 : m ≤ 72057594037927936 := by rw [hm']; exact Nat.le_trans (Nat.pow_le_pow_right (by decide) (show k ≤ 8 by omega)) (by decide)
    obtain ⟨y, hy⟩ : ∃ y, x.toNat % 128 = y := ⟨_, rfl⟩
    obtain ⟨pr, hpr⟩ : ∃ pr, y * m = pr := ⟨_, rfl⟩
    have hyb : y ≤ 127 := by omega
    have hprb : pr ≤ 127 * m := by rw [← hpr]; exact Nat.mul_le_mul_right _ hyb
    obtain ⟨p1, c1, hsl, s1, s2⟩ := hs.from 1 (by simp) .i64 1 rfl
    simp only [List.length_cons, Nat.add_sub_cancel] at hsl s1 s2
    have e1 : ((x.toNat : Int) % 128) = (y : Int) := by omega
    have e2 : (y : Int) * (m : Int) = (pr : Int) := by rw [← hpr]; simp
    have hb2 : 0 < r'.length → ∀ k, (Value.slice p1 r'.length c1).ownBlock = some k → k < rp := fun _ k hk => hne (by simp) k (s2 k hk)
    have B1 := Lib.hid (heap_setCell_same wr rp 0 _ _ (.slice p1 r'.length c1) hb)
    have K1 := Lib.hid (hkw.setCell (p := ⟨rp, 0, none⟩) (fun _ => rfl) (.slice p1 r'.length c1))
    have S1 := Lib.hid (And.intro (s1.keepR ((Keeps.refl (fun k => k = rp) wr).setCell (p := ⟨rp, 0, none⟩) (fun _ => rfl) (.slice p1 r'.length c1)) hb2) hb2)
    by_cases h128 : x.toNat < 128
    ·have hre : rscan most k acc (x :: r') = if most < acc + pr ∨ (x.toNat = 0 ∧ 0 < k) then none else some (acc + pr, r') := by rw [rscan, if_neg (by omega), if_pos h128, ← hm', hy, hpr]
     rw [hre] at hr
     have HM := Lib.hid (And.intro hr (And.intro hy hpr))
     have BAD : ∀ W, W = (wr.setCell ⟨rp, 0, none⟩ (.slice p1 r'.length c1)).setCell ⟨rp, 1, none⟩ (.bool true) → Rr W rp none ∧ Keeps (fun k => k = rp) w W := fun W hW => by
      subst hW
      exact ⟨⟨p1, _, c1, by have := heap_setCell_same _ rp 1 _ _ (.bool true) B1.out; simpa using this⟩, K1.out.setCell (fun _ => rfl) _⟩
     have HBAD := Lib.hid BAD
     clear hre hm' hr hR hkw hs hb hne hcell H HR hy hpr BAD s1 s2 hb2
     by_cases hbig : most < acc + pr
     ·have er : res = none := by rw [← HM.out.1, if_pos (.inl hbig)]
      have d1 : decide ((most : Int) < (acc : Int) + (pr : Int)) = true := by simp; omega
      clear HM
      subst er
      go_wp2_with fail
      go_ret
      exact ⟨rfl, HBAD.out _ rfl⟩
     ·have d1 : decide ((most : Int) < (acc : Int) + (pr : Int)) = false := by simp; omega
      by_cases hx0 : x.toNat = 0
      ·have t0 : ((x.toNat : Int) == 0) = true := by simp [hx0]
       by_cases hk0 : 0 < k
       ·have er : res = none := by rw [← HM.out.1, if_pos (.inr ⟨hx0, hk0⟩)]
        have d2 : decide (0 < k) = true := by simp [hk0]
        have HX := Lib.hid hx0
        clear HM hx0
        subst er
        go_wp2_with fail
        go_ret
        exact ⟨rfl, HBAD.out _ rfl⟩
       ·have er : res = some (acc + pr, r') := by rw [← HM.out.1, if_neg (by omega)]
        have d2 : decide (0 < k) = false := by simp; omega
        have HX := Lib.hid hx0
        have HY := Lib.hid HM.out.2
        clear HM hx0
        subst er
        go_wp2_with fail
        go_ret
        exact ⟨rfl, ⟨_, by simpa using B1.out, S1.out.1, S1.out.2⟩, K1.out⟩
      ·have t0 : ((x.toNat : Int) == 0) = false := by simp; omega
       have er : res = some (acc + pr, r') := by rw [← HM.out.1, if_neg (by omega)]
       have HX := Lib.hid hx0
       clear HM hx0
       subst er
       go_wp2_with fail
       go_ret
       exact ⟨rfl, ⟨_, by simpa using B1.out, S1.out.1, S1.out.2⟩, K1.out⟩
    ·have hre : rscan most k acc (x :: r') = rscan most (k + 1) (acc + pr) r' := by rw [rscan, if_neg (by omega), if_neg h128, ← hm', hy, hpr]
     rw [hre] at hr
     have HM := Lib.hid (And.intro hr hm')
     clear hre hm' hr hR hkw hs hb hne hcell H HR hy hpr s1 s2 hb2
     go_wp2_with fail
     go_roundw
     case rel => exact ⟨k + 1, acc + pr, m * 128, r', by omega, by go_num, by go_num, by go_num, by rw [HM.out.2, Nat.pow_succ], by omega, HM.out.1, ⟨_, by simpa using B1.out, S1.out.1, S1.out.2⟩, K1.out⟩
     case measure => simp [intOf]; omega
   ·have er : res = none := by rw [← hr, rscan, if_pos (by omega)]
    have HH := Lib.hid (And.intro hb hkw)
    clear hr hb hcell
    clear hm' hR hkw hs hne H HR hacc hm63
    go_wp2_with fail
    go_ret
    subst er
    exact ⟨rfl, ⟨_, _, _, by simpa using heap_setCell_same wr rp 1 _ _ (.bool true) HH.out.1⟩, HH.out.2.setCell (fun _ => rfl) _⟩
end
section
open Go.RowKit
theorem Rr.bad {w : World} {rp : Nat} (h : Rr w rp none) : ∃ p n c, w.heap[rp]? = some (.cells #[.slice p n c, .bool true] 156 (0, 0)) := h
theorem Rr.bad_set {w : World} {rp : Nat} (h : Rr w rp none) : Rr (w.setCell ⟨rp, 1, none⟩ (.bool true)) rp none := by
 obtain ⟨p, n, c, hb⟩ := h
 exact ⟨p, n, c, by have := heap_setCell_same w rp 1 _ _ (.bool true) hb; simpa using this⟩
theorem Rr.some_bad {w : World} {rp : Nat} {l : List UInt8} (h : Rr w rp (some l)) : Rr (w.setCell ⟨rp, 1, none⟩ (.bool true)) rp none := by
 obtain ⟨p, c, hb, _, _⟩ := h.cells
 exact ⟨p, _, c, by have := heap_setCell_same w rp 1 _ _ (.bool true) hb; simpa using this⟩
theorem keepR {a b : World} {rp i : Nat} (u : Value) (h : Keeps (fun k => k = rp) a b) : Keeps (fun k => k = rp) a (b.setCell ⟨rp, i, none⟩ u) := h.setCell (fun _ => rfl) u
def RN (w : World) (rp : Nat) (res : Option (Nat × List UInt8)) (e : Ending) (w' : World) : Prop :=
 e = .returned (.int .u64 ((res.elim 0 (·.1) : Nat))) ∧ (Rr w' rp (res.map (·.2)) ∧ Keeps (fun k => k = rp) w w')
theorem rfnum_none (rp most : Nat) (w : World) (h : Rr w rp none) :
  Calls Tryz.prog 93 #[.pointer (some ⟨rp, 0, none⟩), .int .u64 most] w (RN w rp none) := by
 obtain ⟨p, n, c, hb⟩ := h.bad
 have g := blk2 hb
 have H := Lib.hid h
 clear h hb
 go_enter Tryz.func93, Tryz.ntmps93
 go_wp2_with fail
 go_loopw [5, 6, 7] (fun v5 v6 v7 wr => v5 = .int .u64 0 ∧ v6 = .int .u64 1 ∧ v7 = .int .i64 0 ∧ w = wr) (fun _ _ _ _ => 0)
 case atStart => exact ⟨rfl, rfl, rfl, rfl⟩
 case round =>
  obtain ⟨rfl, rfl, rfl, rfl⟩ := hrel
  go_wp2_with fail
  go_ret
  exact ⟨rfl, H.out.bad_set, keepR _ (Keeps.refl _ _)⟩
theorem rfnum_any (rp most : Nat) (st : Option (List UInt8)) (w : World) (h : Rr w rp st) (hm : most < 9223372036854775808) :
  Calls Tryz.prog 93 #[.pointer (some ⟨rp, 0, none⟩), .int .u64 most] w (RN w rp (st.bind (pNum most))) := by
 cases st with
 | none => exact rfnum_none rp most w h
 | some l => exact (rfnum_some rp most l w h hm).mono fun e w' h => h
theorem readBytes_nat (l : List UInt8) (most : Nat) : readBytes l (most : Int) = if (readNum l most).2.1 ≠ 0 then ([], (readNum l most).2.1, l)
 else if (readNum l most).2.2.length < (readNum l most).1 then ([], 4, l) else ((readNum l most).2.2.take (readNum l most).1, 0, (readNum l most).2.2.drop (readNum l most).1) := by
 unfold readBytes
 have h : ¬ ((most : Int) < 0) := by omega
 rw [if_neg h, Int.toNat_natCast]
theorem pText_eq (most : Nat) (l : List UInt8) : pText most l = (pNum most l).bind fun x => if x.2.length < x.1 then none else some (⟨(x.2.take x.1).toArray⟩, x.2.drop x.1) := by
 unfold pText pNum
 rw [readBytes_nat]
 by_cases h : (readNum l most).2.1 = 0
 ·by_cases h2 : (readNum l most).2.2.length < (readNum l most).1
  ·simp [h, h2]
  ·simp [h, h2]
 ·simp [h]
def RT (w : World) (rp : Nat) (res : Option (ByteArray × List UInt8)) (e : Ending) (w' : World) : Prop :=
 e = .returned (.string (res.elim ⟨#[]⟩ (·.1))) ∧ (Rr w' rp (res.map (·.2)) ∧ Keeps (fun k => k = rp) w w')
theorem RT.no {w w' : World} {rp : Nat} {res : Option (ByteArray × List UInt8)} (h : res = none) (hr : Rr w' rp none) (k : Keeps (fun k => k = rp) w w') : RT w rp res (.returned (.string ⟨#[]⟩)) w' := by subst h; exact ⟨rfl, hr, k⟩
theorem RT.yes {w w' : World} {rp : Nat} {res : Option (ByteArray × List UInt8)} {s : ByteArray} {r : List UInt8} (h : res = some (s, r)) (hr : Rr w' rp (some r)) (k : Keeps (fun k => k = rp) w w') : RT w rp res (.returned (.string s)) w' := by subst h; exact ⟨rfl, hr, k⟩
theorem rftext_any (rp most : Nat) (st : Option (List UInt8)) (w : World) (h : Rr w rp st) (hm : most < 9223372036854775808) :
  Calls Tryz.prog 94 #[.pointer (some ⟨rp, 0, none⟩), .int .u64 most] w (RT w rp (st.bind (pText most))) := by
 have C := Lib.hid (rfnum_any rp most st w h hm)
 have hres : st.bind (pText most) = (st.bind (pNum most)).bind fun x => if x.2.length < x.1 then none else some (⟨(x.2.take x.1).toArray⟩, x.2.drop x.1) := by
  cases st with
  | none => rfl
  | some l => exact pText_eq most l
 have hbd : ∀ x, st.bind (pNum most) = some x → x.1 ≤ most := by
  intro x hx
  cases st with
  | none => cases hx
  | some l => exact (pNum_inv (n := x.1) (r := x.2) hx).2.1
 generalize st.bind (pText most) = res at hres ⊢
 obtain ⟨q, hq⟩ : ∃ q, st.bind (pNum most) = q := ⟨_, rfl⟩
 rw [hq] at hres hbd C
 clear hq
 go_enter Tryz.func94, Tryz.ntmps94
 go_wp2_with fail
 refine C.out.mono ?_
 rintro e w1 ⟨rfl, hr, k1⟩
 clear C h
 cases q with
 | none =>
  obtain ⟨p, n, c, hb⟩ := Rr.bad hr
  have g := blk2 hb
  have R := Lib.hid (And.intro hr (And.intro k1 hres))
  clear hr k1 hres hb hbd
  go_wp2_with fail
  go_ret
  exact RT.no R.out.2.2 R.out.1.bad_set (keepR _ R.out.2.1)
 | some x =>
  obtain ⟨n, l1⟩ := x
  have hn : n ≤ most := hbd _ rfl
  have hr' : Rr w1 rp (some l1) := hr
  obtain ⟨p, c, hb, hs, hne⟩ := hr'.cells
  have g := blk2 hb
  obtain ⟨_, _, _, z1, z2⟩ := hs.len
  have hl : l1.length ≤ 9223372036854775807 := by unfold maxLen at z2; omega
  simp only [Option.bind_some] at hres
  have hw : IntKind.u64.wrap (l1.length : Int) = (l1.length : Int) := by rw [IntKind.wrap_u64]; omega
  by_cases hlt : l1.length < n
  ·rw [if_pos hlt] at hres
   have R := Lib.hid (And.intro hr' (And.intro k1 hres))
   clear hr hr' k1 hres hb hbd hs hne z1 z2 hm hn
   go_wp2_with fail
   go_ret
   exact RT.no R.out.2.2 R.out.1.some_bad (keepR _ R.out.2.1)
  ·rw [if_neg hlt] at hres
   obtain ⟨p1, c1, hsl1, s1, _⟩ := hs.upto n (by omega) IntKind.u64 (n : Int) rfl
   obtain ⟨p2, c2, hsl2, s2, o2⟩ := hs.from n (by omega) IntKind.u64 (n : Int) rfl
   have tt := s1.text
   have B1 := Lib.hid (heap_setCell_same w1 rp 0 _ _ (.slice p2 (l1.length - n) c2) hb)
   have S1 := Lib.hid (And.intro (s2.keepR (keepR (rp := rp) (i := 0) (.slice p2 (l1.length - n) c2) (Keeps.refl _ w1)) (fun hl k hk => hne (by simp at hl; omega) k (o2 k hk))) (show 0 < (l1.drop n).length → ∀ k, (Value.slice p2 (l1.length - n) c2).ownBlock = some k → k < rp from fun hl k hk => hne (by simp at hl; omega) k (o2 k hk)))
   have R := Lib.hid (And.intro k1 hres)
   have hge : ¬ (l1.length : Int) < (n : Int) := by omega
   clear hr hr' k1 hres hb hbd hs hne z1 z2 hm hn s1 s2 o2
   go_wp2_with fail
   go_ret
   refine RT.yes R.out.2 ⟨.slice p2 (l1.length - n) c2, by simpa using B1.out, S1.out.1, S1.out.2⟩ (keepR _ R.out.1)
end
section
open Go.RowKit
theorem lead_pre (x : UInt8) (hx : x.toNat < 128) (r : List UInt8) : ∀ pre : List UInt8, (∀ c ∈ pre, 128 ≤ c.toNat) → lead (pre ++ x :: r) = pre.length := by
 intro pre
 induction pre with
 | nil => intro _; simp [lead]; omega
 | cons c p ih =>
  intro h
  have h1 := h c (List.mem_cons_self ..)
  have h2 := ih (fun d hd => h d (List.mem_cons_of_mem _ hd))
  simp only [List.cons_append, List.length_cons]
  rw [lead, if_pos h1, h2]
theorem lead_ge (l' : List UInt8) : ∀ pre : List UInt8, (∀ c ∈ pre, 128 ≤ c.toNat) → pre.length ≤ lead (pre ++ l') := by
 intro pre
 induction pre with
 | nil => intro _; simp
 | cons c p ih =>
  intro h
  have h1 := h c (List.mem_cons_self ..)
  have h2 := ih (fun d hd => h d (List.mem_cons_of_mem _ hd))
  simp only [List.cons_append, List.length_cons]
  rw [lead, if_pos h1]
  omega
theorem pInt_many {pre l' : List UInt8} (h : ∀ c ∈ pre, 128 ≤ c.toNat) (h10 : 10 ≤ pre.length) : pInt (pre ++ l') = none := by
 rw [pInt_eq, read_many (by have := lead_ge l' pre h; omega)]; rfl
theorem pInt_short {pre : List UInt8} (h : ∀ c ∈ pre, 128 ≤ c.toNat) : pInt pre = none := by
 have h1 := lead_ge [] pre h
 rw [List.append_nil] at h1
 have h2 := lead_le pre
 rcases Nat.lt_or_ge pre.length 10 with g | g
 ·rw [pInt_eq, read_short (by omega) (by omega)]; rfl
 ·rw [pInt_eq, read_many (by omega)]; rfl
theorem pInt_last {pre r : List UInt8} {x : UInt8} (h : ∀ c ∈ pre, 128 ≤ c.toNat) (hx : x.toNat < 128) (hk : pre.length ≤ 9) :
  (((pre.length = 9 ∧ 1 < x.toNat) ∨ (0 < pre.length ∧ x.toNat = 0)) → pInt (pre ++ x :: r) = none) ∧
  (¬ ((pre.length = 9 ∧ 1 < x.toNat) ∨ (0 < pre.length ∧ x.toNat = 0)) → pInt (pre ++ x :: r) = some (zagZ (lev (pre ++ [x])), r) ∧ lev (pre ++ [x]) < 18446744073709551616) := by
 have hl := lead_pre x hx r pre h
 have hc : (pre ++ x :: r)[lead (pre ++ x :: r)]? = some x := by rw [hl]; simp
 have ht : (pre ++ x :: r).take (pre.length + 1) = pre ++ [x] := by rw [List.take_append]; simp; exact List.take_of_length_le (by omega)
 have hd : (pre ++ x :: r).drop (pre.length + 1) = r := by rw [List.drop_append]; simp
 constructor
 ·intro hb
  rw [pInt_eq, read_none (by omega) hc (by rw [hl]; exact hb)]; rfl
 ·intro hb
  have hf := lev_fits (pre ++ x :: r) pre.length (by omega) x (by simp) (by omega)
  rw [ht] at hf
  have hg := read_good (most := 18446744073709551615) (l := pre ++ x :: r) (by omega) hc (by rw [hl]; exact hb)
  rw [hl, ht, hd, if_neg (by omega)] at hg
  refine ⟨?_, hf⟩
  rw [pInt_eq, hg]; rfl
def RI (w : World) (rp : Nat) (res : Option (Int × List UInt8)) (e : Ending) (w' : World) : Prop :=
 e = .returned (.int .i64 (res.elim 0 (·.1))) ∧ (Rr w' rp (res.map (·.2)) ∧ Keeps (fun k => k = rp) w w')
theorem RI.no {w w' : World} {rp : Nat} {res : Option (Int × List UInt8)} (h : res = none) (hr : Rr w' rp none) (k : Keeps (fun k => k = rp) w w') : RI w rp res (.returned (.int .i64 0)) w' := by subst h; exact ⟨rfl, hr, k⟩
theorem RI.yes {w w' : World} {rp : Nat} {res : Option (Int × List UInt8)} {z : Int} {r : List UInt8} (h : res = some (z, r)) (hr : Rr w' rp (some r)) (k : Keeps (fun k => k = rp) w w') : RI w rp res (.returned (.int .i64 z)) w' := by subst h; exact ⟨rfl, hr, k⟩
theorem RI.at {w w' : World} {rp : Nat} {res : Option (Int × List UInt8)} {z z' : Int} {r : List UInt8} (h : res = some (z, r)) (e : z' = z) (hr : Rr w' rp (some r)) (k : Keeps (fun k => k = rp) w w') : RI w rp res (.returned (.int .i64 z')) w' := by subst e; exact RI.yes h hr k
theorem zag_odd {n : Nat} (h : n % 2 = 1) : -((n : Int) / 2) - 1 = zagZ n := by unfold zagZ; rw [if_neg (by omega)]; omega
theorem zag_even {n : Nat} (h : n % 2 ≠ 1) : (n : Int) / 2 = zagZ n := by unfold zagZ; rw [if_pos (by omega)]; omega
theorem rfsigned_none (rp : Nat) (w : World) (h : Rr w rp none) : Calls Tryz.prog 129 #[.pointer (some ⟨rp, 0, none⟩)] w (RI w rp none) := by
 obtain ⟨p, n, c, hb⟩ := h.bad
 have g := blk2 hb
 have H := Lib.hid h
 clear h hb
 go_enter Tryz.func129, Tryz.ntmps129
 go_wp2_with fail
 go_loopw [3] (fun v3 wr => v3 = .slice none 0 0 ∧ w = wr) (fun _ _ => 0)
 case atStart => exact ⟨rfl, rfl⟩
 case round =>
  obtain ⟨rfl, rfl⟩ := hrel
  go_wp2_with fail
  go_ret
  exact RI.no rfl H.out.bad_set (keepR _ (Keeps.refl _ _))
theorem rfsigned_some (rp : Nat) (l : List UInt8) (w : World) (h : Rr w rp (some l)) (hrp : rp < w.heap.size) : Calls Tryz.prog 129 #[.pointer (some ⟨rp, 0, none⟩)] w (RI w rp (pInt l)) := by
 obtain ⟨res, hres⟩ : ∃ r, pInt l = r := ⟨_, rfl⟩
 rw [hres]
 have H := Lib.hid (And.intro h hres)
 clear h hres
 go_enter Tryz.func129, Tryz.ntmps129
 go_wp2_with fail
 obtain ⟨u0, hb0, hs0, hn0⟩ := H.out.1
 have H0 := Lib.hid (And.intro hb0 (And.intro hs0 hn0))
 clear hb0 hs0 hn0
 go_loopw [3] (fun v3 wr => ∃ (p : Option Addr) (c : Nat) (pre l' : List UInt8) (u : Value), v3 = .slice p pre.length c ∧ l = pre ++ l' ∧ (∀ c ∈ pre, 128 ≤ c.toNat) ∧ pre.length ≤ 10 ∧ Owns wr w.heap.size (.slice p pre.length c) pre ∧
   wr.heap[rp]? = some (.cells #[u, .bool false] 156 (0, 0)) ∧ Sees w u l' ∧ (0 < l'.length → ∀ k, u.ownBlock = some k → k < rp) ∧ Keeps (fun k => k = rp) w wr)
  (fun v3 _ => match v3 with | .slice _ n _ => 11 - n | _ => 0)
 case atStart => exact ⟨none, 0, [], l, u0, rfl, rfl, (fun _ h => by cases h), by simp, Owns.nil _ _, H0.out.1, H0.out.2.1, H0.out.2.2, Keeps.refl _ _⟩
 case round =>
  obtain ⟨p, c, pre, l', u, rfl, hl, hpre, h10, ho, hb, hs, hne, hk⟩ := hrel
  obtain ⟨q, d, rfl, y1, y2⟩ := hs.len
  have g := blk2 hb
  have F := Lib.hid (And.intro hl (And.intro hpre (And.intro ho (And.intro hne hk))))
  have HB := Lib.hid hb
  have HS := Lib.hid hs
  have HR := Lib.hid (show Rr wr rp (some l') from ⟨_, hb, hs.keepR hk hne, hne⟩)
  have hll : l'.length ≤ 9223372036854775807 := by unfold maxLen at y2; omega
  clear hl hpre ho hk hne hb hs y1 y2
  cases l' with
  | nil =>
   have hn : res = none := by rw [← H.out.2, F.out.1, List.append_nil]; exact pInt_short F.out.2.1
   have HNo := Lib.hid hn
   clear hn
   go_wp2_with fail
   go_ret
   exact RI.no HNo.out HR.out.some_bad (keepR _ F.out.2.2.2.2)
  | cons x r' =>
   by_cases hten : pre.length = 10
   ·have hn : res = none := by rw [← H.out.2, F.out.1]; exact pInt_many F.out.2.1 (by omega)
    have HNo := Lib.hid hn
    have t10 : ((pre.length : Int) == 10) = true := by rw [hten]; rfl
    have t0 : ((((x :: r').length : Nat) : Int) == 0) = false := by simp; omega
    clear hn hten
    go_wp2_with fail
    go_ret
    exact RI.no HNo.out HR.out.some_bad (keepR _ F.out.2.2.2.2)
   ·have t10 : ((pre.length : Int) == 10) = false := by rw [beq_eq_false_iff_ne]; omega
    have t0 : ((((x :: r').length : Nat) : Int) == 0) = false := by simp; omega
    obtain ⟨b0, o0, c0, he, _, _, hcell⟩ := HS.out.at (by simp)
    simp only [Value.slice.injEq, true_and] at he
    obtain ⟨rfl, rfl⟩ := he
    have hb0 : b0 ≠ rp := Nat.ne_of_lt (F.out.2.2.2.1 (by simp) b0 rfl)
    have qx : wr.cell? ⟨b0, o0, none⟩ = some (.int .u8 (x.toNat : Int)) := F.out.2.2.2.2.cell (hcell 0 x rfl) (fun e => hb0 e)
    have hx := UInt8.toNat_lt x
    have HK9 := Lib.hid (show pre.length ≤ 9 by omega)
    obtain ⟨p2, c2, hsl, s2, o2⟩ := HS.out.from 1 (by simp) .i64 1 rfl
    simp only [List.length_cons, Nat.add_sub_cancel] at hsl s2 o2
    have S2 := Lib.hid (And.intro s2 (show 0 < r'.length → ∀ k, (Value.slice p2 r'.length c2).ownBlock = some k → k < rp from fun _ k hk => F.out.2.2.2.1 (by simp) k (o2 k hk)))
    clear hten hcell s2 o2
    go_upto_region 6 with (at_builtin; (refine wpList_append_sees rfl _ _ rfl w.heap.size (.slice p _ c) pre rfl (F.out.2.2.1.alloc _) _ [x] rfl (Sees.one _ _ _ rfl) (by have := HK9.out; simp; omega) (Nat.le_trans F.out.2.2.2.2.size (by simp)) ?_; intro v' w1 ho1 hg1; obtain ⟨p1, c1, e1, _, _⟩ := ho1.sees.len; subst e1; have O1 := Lib.hid (And.intro ho1 hg1); clear ho1 hg1))
    have K1 := Lib.hid (show Keeps (fun k => k = rp) w w1 from (F.out.2.2.2.2.alloc _).grown O1.out.2 (fun k hk hlt => by have := (F.out.2.2.1.block k hk).1; omega))
    have b1 : w1.heap[rp]? = some (.cells #[.slice (some ⟨b0, o0, none⟩) (x :: r').length d, .bool false] 156 (0, 0)) := by
     have kk : Keeps (fun k => w.heap.size ≤ k) wr w1 := ((Keeps.refl _ _).alloc _).grown O1.out.2 (fun k hk _ => (F.out.2.2.1.block k hk).1)
     exact (kk.block rp (lt_of_heap HB.out) (by omega)).trans HB.out
    clear g
    have g := blk2 b1
    have B1 := Lib.hid (heap_setCell_same w1 rp 0 _ _ (.slice p2 r'.length c2) b1)
    have so := O1.out.1.keeps (keepR (rp := rp) (i := 0) (.slice p2 r'.length c2) (Keeps.refl _ w1)) (fun k hk e => by have := (O1.out.1.block k hk).1; omega)
    simp only [List.length_append, List.length_cons, List.length_nil, Nat.zero_add] at so
    obtain ⟨bb, oo, cc, he, _, _, hcell⟩ := so.sees.at (by simp)
    simp only [List.length_append, List.length_cons, List.length_nil, Nat.zero_add, Value.slice.injEq, true_and] at he
    obtain ⟨rfl, rfl⟩ := he
    have hbb : bb ≠ rp := by have := (so.block bb rfl).1; omega
    have hlast : (w1.setCell ⟨rp, 0, none⟩ (.slice p2 r'.length c2)).cell? ⟨bb, oo + pre.length, none⟩ = some (.int .u8 (x.toNat : Int)) := hcell pre.length x (by simp)
    have hlast1 : w1.cell? ⟨bb, oo + pre.length, none⟩ = some (.int .u8 (x.toNat : Int)) := (World.cell?_of_block (w := w1) ((keepR (rp := rp) (i := 0) (.slice p2 r'.length c2) (Keeps.refl _ w1)).block bb (O1.out.1.block bb rfl).2 hbb)).symm.trans hlast
    have SO := Lib.hid (And.intro hcell so)
    clear b1 so hcell
    have KW := Lib.hid (show Keeps (fun k => k = rp) w (w1.setCell ⟨rp, 0, none⟩ (.slice p2 r'.length c2)) from keepR _ K1.out)
    by_cases h128 : x.toNat < 128
    ·have L := pInt_last (pre := pre) (r := r') F.out.2.1 h128 HK9.out
     have t128 : decide ((x.toNat : Int) < 128) = true := by simp; omega
     have hk9 : pre.length ≤ 9 := HK9.out
     have HRR := Lib.hid (show Rr (w1.setCell ⟨rp, 0, none⟩ (.slice p2 r'.length c2)) rp (some r') from ⟨_, by simpa using B1.out, S2.out.1.keepR KW.out S2.out.2, S2.out.2⟩)
     have hl : res = pInt (pre ++ x :: r') := by rw [← H.out.2, F.out.1]
     have HL := Lib.hid (And.intro L hl)
     clear L hl
     go_upto_region 9 with fail
     go_cut [4, 72] (fun v4 v wc => v4 = .int .u8 (x.toNat : Int) ∧ ∃ t : Bool, v = .bool t ∧ (t = true ↔ ((pre.length = 9 ∧ 1 < x.toNat) ∨ (0 < pre.length ∧ x.toNat = 0))) ∧ (w1.setCell ⟨rp, 0, none⟩ (.slice p2 r'.length c2)) = wc)
     case first =>
      go_wp2_with fail
      all_goals
       go_meet
       case rel =>
        refine ⟨by first | rfl | (rw [Value.int.injEq]; exact ⟨rfl, by omega⟩), _, rfl, ?_, rfl⟩
        first | omega | (simp; omega) | (simp only [Bool.or_eq_true, beq_iff_eq, decide_eq_true_eq]; omega)
     obtain ⟨rfl, t, rfl, ht, rfl⟩ := hcut
     cases t
     ·have hg := HL.out.1.2 (fun h => by have := ht.2 h; cases this)
      obtain ⟨N, hN⟩ : ∃ N, lev (pre ++ [x]) = N := ⟨_, rfl⟩
      have HG := Lib.hid (And.intro (HL.out.2.trans hg.1) hN)
      have HNb := Lib.hid hg.2
      clear hg hN ht h128
      go_wp2_with fail
      go_loopw [5, 6] (fun v5 v6 wq => ∃ y : Int, v6 = .int .i64 y ∧ -1 ≤ y ∧ y ≤ pre.length ∧ v5 = .int .u64 (lev ((pre ++ [x]).drop (y + 1).toNat) : Nat) ∧ (w1.setCell ⟨rp, 0, none⟩ (.slice p2 r'.length c2)) = wq) (fun _ v6 _ => (intOf v6 + 1).toNat)
      case atStart => exact ⟨pre.length, rfl, by omega, by omega, by rw [show ((pre.length : Int) + 1).toNat = pre.length + 1 from by omega, List.drop_eq_nil_of_le (by simp)]; rfl, rfl⟩
      case round =>
       obtain ⟨y, rfl, hy1, hy2, rfl, rfl⟩ := hrel
       by_cases hy : 0 ≤ y
       ·obtain ⟨i, rfl⟩ := Int.eq_ofNat_of_zero_le hy
        obtain ⟨ci, hci⟩ : ∃ ci, (pre ++ [x])[i]? = some ci := ⟨(pre ++ [x])[i]'(by simp; omega), by simp⟩
        have hcell : (w1.setCell ⟨rp, 0, none⟩ (.slice p2 r'.length c2)).cell? ⟨bb, oo + i, none⟩ = some (.int .u8 (ci.toNat : Int)) := SO.out.1 i ci hci
        have hci256 := UInt8.toNat_lt ci
        have hst : lev ((pre ++ [x]).drop i) = ci.toNat % 128 + 128 * lev ((pre ++ [x]).drop (i + 1)) := lev_step _ i ci hci
        have hle := lev_drop (pre ++ [x]) i
        have hfit := HNb.out
        have hcellb : w1.cell? ⟨bb, oo + i, none⟩ = some (.int .u8 (ci.toNat : Int)) := (World.cell?_of_block (w := w1) ((keepR (rp := rp) (i := 0) (.slice p2 r'.length c2) (Keeps.refl _ w1)).block bb (O1.out.1.block bb rfl).2 hbb)).symm.trans hcell
        rw [show ((i : Int) + 1).toNat = i + 1 from by omega]
        generalize lev ((pre ++ [x]).drop (i + 1)) = S at hst ⊢
        have hb1 : ci.toNat % 128 + 128 * S < 18446744073709551616 := by omega
        obtain ⟨m, hm⟩ : ∃ m, ci.toNat % 128 = m := ⟨_, rfl⟩
        rw [hm] at hst hb1
        have e1 : (ci.toNat : Int) % 128 = (m : Int) := by omega
        have e2 : (ci.toNat : Int).tmod 128 = (m : Int) := by rw [Int.tmod_eq_emod_of_nonneg (by omega)]; exact e1
        have hmb : m ≤ 127 := by omega
        have ST := Lib.hid hst
        clear hst hle hfit hci hm
        go_wp2_with fail
        go_roundw
        case rel => exact ⟨(i : Int) - 1, by go_num, by omega, by omega, by rw [show ((i : Int) - 1 + 1).toNat = i from by omega, ST.out]; go_num, by first | rfl | trivial⟩
        case measure => simp [intOf] <;> omega
       ·obtain rfl : y = -1 := by omega
        have hbN : N < 18446744073709551616 := by have := HNb.out; rw [HG.out.2] at this; exact this
        rw [show ((-1 : Int) + 1).toNat = 0 from rfl, List.drop_zero, HG.out.2]
        by_cases hodd : N % 2 = 1
        ·have e1 : ((N : Int) % 2 == 1) = true := by simp; omega
         have HO := Lib.hid (zag_odd hodd)
         clear hodd hy
         go_wp2_with fail
         go_ret
         exact RI.at HG.out.1 (by rw [HO.out, HG.out.2]) HRR.out KW.out
        ·have e1 : ((N : Int) % 2 == 1) = false := by simp; omega
         have HO := Lib.hid (zag_even hodd)
         clear hodd hy
         go_wp2_with fail
         go_ret
         exact RI.at HG.out.1 (by rw [HO.out, HG.out.2]) HRR.out KW.out
     ·have hn := HL.out.2.trans (HL.out.1.1 (ht.1 rfl))
      have HNo := Lib.hid hn
      clear hn ht h128
      go_wp2_with fail
      go_ret
      exact RI.no HNo.out HRR.out.some_bad (keepR _ KW.out)
    ·have t128 : decide ((x.toNat : Int) < 128) = false := by simp; omega
     have HP := Lib.hid (show ∀ c ∈ pre ++ [x], 128 ≤ c.toNat from fun c hc => by
      rcases List.mem_append.1 hc with h | h
      ·exact F.out.2.1 c h
      ·obtain rfl : c = x := by simpa using h
       omega)
     clear h128
     go_wp2_with fail
     refine ⟨⟨some ⟨bb, oo, none⟩, c1, pre ++ [x], r', .slice p2 r'.length c2, by simp, by rw [F.out.1]; simp, HP.out, by have := HK9.out; simp; omega, by simpa using SO.out.2, by simpa using B1.out, S2.out.1, S2.out.2, KW.out⟩, by have := HK9.out; simp; omega⟩
theorem rfsigned_any (rp : Nat) (st : Option (List UInt8)) (w : World) (h : Rr w rp st) (hrp : rp < w.heap.size) : Calls Tryz.prog 129 #[.pointer (some ⟨rp, 0, none⟩)] w (RI w rp (st.bind pInt)) := by
 cases st with
 | none => exact rfsigned_none rp w h
 | some l => exact rfsigned_some rp l w h hrp
end
end Go.Proofs.YtpjpimahnnekkaaGreat
