/- DERIVED. Chapter 21, the document's reader: num. · DERIVED. Chapter 21, the document's reader: text. -/
import Derived.Test.YtpjpimahnnekkaaGreatYpMsgForms21
import Derived.Test.YtpjpimahnnekkaaGreatYpMsgForms35
import Derived.Test.YtpjpimahnnekkaaGreatYpMsgForms15
import Derived.Test.YtpjpimahnnekkaaGreatYpMsgForms32
import Derived.Test.YtpjpimahnnekkaaGreatYpMsgForms38
import Derived.Test.YtpjpimahnnekkaaGreatYpMsgForms18
import Derived.Test.YtpjpimahnnekkaaGreatYpMsgForms37
set_option maxRecDepth 100000
set_option maxHeartbeats 4000000
namespace Go.Proofs.YtpjpimahnnekkaaGreat
section
open Go.RowKit
def Rx (W : World) (rp : Nat) (st : Option (List UInt8)) : Prop :=
 match st with
 | some l => ∃ v, W.heap[rp]? = some (.cells #[v, .bool false] 103 (0, 0)) ∧ Sees W v l ∧ (0 < l.length → ∀ k, v.ownBlock = some k → k < rp)
 | none => ∃ p n c, W.heap[rp]? = some (.cells #[.slice p n c, .bool true] 103 (0, 0))
theorem Rx.cells {w : World} {rp : Nat} {l : List UInt8} (h : Rx w rp (some l)) : ∃ p c, w.heap[rp]? = some (.cells #[.slice p l.length c, .bool false] 103 (0, 0)) ∧ Sees w (.slice p l.length c) l ∧ (0 < l.length → ∀ k, (Value.slice p l.length c).ownBlock = some k → k < rp) := by
 obtain ⟨v, h1, h2, h3⟩ := h
 obtain ⟨p, c, rfl, _, _⟩ := h2.len
 exact ⟨p, c, h1, h2, h3⟩
theorem Rx.bad {w : World} {rp : Nat} (h : Rx w rp none) : ∃ p n c, w.heap[rp]? = some (.cells #[.slice p n c, .bool true] 103 (0, 0)) := h
theorem Rx.bad_set {w : World} {rp : Nat} (h : Rx w rp none) : Rx (w.setCell ⟨rp, 1, none⟩ (.bool true)) rp none := by
 obtain ⟨p, n, c, hb⟩ := h
 exact ⟨p, n, c, by have := heap_setCell_same w rp 1 _ _ (.bool true) hb; simpa using this⟩
theorem Rx.some_bad {w : World} {rp : Nat} {l : List UInt8} (h : Rx w rp (some l)) : Rx (w.setCell ⟨rp, 1, none⟩ (.bool true)) rp none := by
 obtain ⟨p, c, hb, _, _⟩ := h.cells
 exact ⟨p, _, c, by have := heap_setCell_same w rp 1 _ _ (.bool true) hb; simpa using this⟩
def rs7 (most : Nat) : Nat → Nat → List UInt8 → Option (Nat × List UInt8)
 | _, _, [] => none
 | i, acc, c :: r =>
  if 7 ≤ i then none
  else if c.toNat < 128 then (if most < acc + c.toNat % 128 * 128 ^ i ∨ (c.toNat = 0 ∧ 0 < i) then none else some (acc + c.toNat % 128 * 128 ^ i, r))
  else rs7 most (i + 1) (acc + c.toNat % 128 * 128 ^ i) r
theorem rscan_far {most : Nat} (hm : most < 128 ^ 7) : ∀ (l : List UInt8) (i acc : Nat), 7 ≤ i → rscan most i acc l = none
 | [], _, _, _ => rfl
 | c :: r, i, acc, hi => by
  rw [rscan]
  split
  ·rfl
  ·split
   ·rename_i hc
    by_cases h0 : c.toNat = 0
    ·rw [if_pos (.inr ⟨h0, by omega⟩)]
    ·have h1 : 128 ^ 7 ≤ 128 ^ i := Nat.pow_le_pow_right (by decide) hi
     have h2 : c.toNat % 128 = c.toNat := Nat.mod_eq_of_lt hc
     have h3 : 1 * 128 ^ i ≤ c.toNat * 128 ^ i := Nat.mul_le_mul_right _ (by omega)
     rw [h2, if_pos (.inl (by omega))]
   ·exact rscan_far hm r (i + 1) _ (by omega)
theorem rs7_eq {most : Nat} (hm : most < 128 ^ 7) : ∀ (l : List UInt8) (i acc : Nat), rs7 most i acc l = rscan most i acc l
 | [], _, _ => rfl
 | c :: r, i, acc => by
  by_cases h7 : 7 ≤ i
  ·rw [rscan_far hm _ _ _ h7, rs7, if_pos h7]
  ·rw [rs7, if_neg h7, rs7_eq hm r (i + 1)]
   conv => rhs; rw [rscan, if_neg (show ¬ 9 ≤ i by omega)]
def RNx (w : World) (rp : Nat) (res : Option (Nat × List UInt8)) (e : Ending) (w' : World) : Prop :=
 ∃ n : Nat, e = .returned (.int .u64 n) ∧ n < 18446744073709551616 ∧ (∀ k r, res = some (k, r) → n = k) ∧ Rx w' rp (res.map (·.2)) ∧ Keeps (fun k => k = rp) w w'
theorem rxnum_some (rp : Nat) (l : List UInt8) (w : World) (h : Rx w rp (some l)) :
  Calls Tryz.prog 47 #[.pointer (some ⟨rp, 0, none⟩)] w (RNx w rp (pNum 1099511627777 l)) := by
 rw [pNum_rscan (by decide), ← rs7_eq (by decide)]
 obtain ⟨res, hres⟩ : ∃ r, rs7 1099511627777 0 0 l = r := ⟨_, rfl⟩
 rw [hres]
 have HR := Lib.hid hres
 have H := Lib.hid h
 clear hres h
 go_enter Tryz.func47, Tryz.ntmps47
 go_wp2_with fail
 go_loopw [3, 4, 5] (fun v3 v4 v5 wr => ∃ (k acc m : Nat) (l' : List UInt8), k ≤ 7 ∧ v3 = .int .u64 acc ∧ v4 = .int .u64 m ∧ v5 = .int .i64 k ∧ m = 128 ^ k ∧ acc < m ∧ rs7 1099511627777 k acc l' = res ∧ Rx wr rp (some l') ∧ Keeps (fun k => k = rp) w wr) (fun _ _ v5 _ => 7 - (intOf v5).toNat)
 case atStart => exact ⟨0, 0, 1, l, by omega, rfl, rfl, rfl, rfl, by omega, HR.out, H.out, Keeps.refl _ _⟩
 case round =>
  obtain ⟨k, acc, m, l', hk, rfl, rfl, rfl, hm', hacc, hr, hR, hkw⟩ := hrel
  obtain ⟨p, c, hb, hs, hne⟩ := hR.cells
  have g := blk2 hb
  have hm63 : m ≤ 562949953421312 := by rw [hm']; exact Nat.le_trans (Nat.pow_le_pow_right (by decide) hk) (by decide)
  have NO : ∀ W, W = wr.setCell ⟨rp, 1, none⟩ (.bool true) → Rx W rp none ∧ Keeps (fun k => k = rp) w W := fun W hW => by subst hW; exact ⟨hR.some_bad, hkw.setCell (fun _ => rfl) _⟩
  have HNO := Lib.hid NO
  clear NO
  cases l' with
  | nil =>
   have er : res = none := by rw [← hr]; rfl
   clear hr hb
   clear hm' hR hkw hs hne H HR hacc hm63
   by_cases hlt : k < 7
   ·go_wp2_with fail
    go_ret
    subst er
    exact ⟨0, rfl, by decide, fun _ _ h => (by cases h), HNO.out _ rfl⟩
   ·go_wp2_with fail
    go_ret
    subst er
    exact ⟨0, rfl, by decide, fun _ _ h => (by cases h), HNO.out _ rfl⟩
  | cons x r' =>
   have hx := UInt8.toNat_lt x
   obtain ⟨b0, o0, c0, he, hc1, hc2, hcell⟩ := hs.at (by simp)
   simp only [Value.slice.injEq, true_and] at he
   obtain ⟨rfl, rfl⟩ := he
   have q : wr.cell? ⟨b0, o0, none⟩ = some (.int .u8 (x.toNat : Int)) := hcell 0 x rfl
   by_cases hlt : k < 7
   ·have hm8 : m ≤ 4398046511104 := by rw [hm']; exact Nat.le_trans (Nat.pow_le_pow_right (by decide) (show k ≤ 6 by omega)) (by decide)
    obtain ⟨y, hy⟩ : ∃ y, x.toNat % 128 = y := ⟨_, rfl⟩
    obtain ⟨pr, hpr⟩ : ∃ pr, y * m = pr := ⟨_, rfl⟩
    have hyb : y ≤ 127 := by omega
    have hprb : pr ≤ 127 * m := by rw [← hpr]; exact Nat.mul_le_mul_right _ hyb
    obtain ⟨p1, c1, hsl, s1, s2⟩ := hs.from 1 (by simp) .i64 1 rfl
    simp only [List.length_cons, Nat.add_sub_cancel] at hsl s1 s2
    have e1 : ((x.toNat : Int) % 128) = (y : Int) := by omega
    have e2 : (y : Int) * (m : Int) = (pr : Int) := by rw [← hpr]; simp
    have hb2 : 0 < r'.length → ∀ k, (Value.slice p1 r'.length c1).ownBlock = some k → k < rp := fun _ k hk => hne (by simp) k (s2 k hk)
    have B1 := Lib.hid (heap_setCell_same wr rp 0 _ _ (.slice p1 r'.length c1) hb)
    have K1 := Lib.hid (hkw.setCell (p := ⟨rp, 0, none⟩) (fun _ => rfl) (.slice p1 r'.length c1))
    have S1 := Lib.hid (And.intro (s1.keepR ((Keeps.refl (fun k => k = rp) wr).setCell (p := ⟨rp, 0, none⟩) (fun _ => rfl) (.slice p1 r'.length c1)) hb2) hb2)
    have hl0 : (0 : Int) < ((r'.length : Nat) : Int) + 1 := by omega
    by_cases h128 : x.toNat < 128
    ·have hre : rs7 1099511627777 k acc (x :: r') = if 1099511627777 < acc + pr ∨ (x.toNat = 0 ∧ 0 < k) then none else some (acc + pr, r') := by rw [rs7, if_neg (by omega), if_pos h128, ← hm', hy, hpr]
     rw [hre] at hr
     have HM := Lib.hid (And.intro hr (And.intro hy hpr))
     have END := Lib.hid (fun (bd : Bool) (W : World) (hW : W = (wr.setCell ⟨rp, 0, none⟩ (.slice p1 r'.length c1)).setCell ⟨rp, 1, none⟩ (.bool bd)) => (by
      subst hW
      refine ⟨by have := heap_setCell_same _ rp 1 _ _ (.bool bd) B1.out; simpa using this, S1.out.1.keepR ((Keeps.refl (fun k => k = rp) _).setCell (p := ⟨rp, 1, none⟩) (fun _ => rfl) (.bool bd)) S1.out.2, S1.out.2, K1.out.setCell (fun _ => rfl) _⟩ : W.heap[rp]? = some (.cells #[.slice p1 r'.length c1, .bool bd] 103 (0, 0)) ∧ Sees W (.slice p1 r'.length c1) r' ∧ (0 < r'.length → ∀ k, (Value.slice p1 r'.length c1).ownBlock = some k → k < rp) ∧ Keeps (fun k => k = rp) w W))
     have hsum : acc + pr < 18446744073709551616 := by omega
     have HS := Lib.hid hsum
     clear hre hm' hr hR hkw hs hb hne hcell H HR hy hpr s1 s2 hb2 HNO
     by_cases hbig : 1099511627777 < acc + pr
     ·have er : res = none := by rw [← HM.out.1, if_pos (.inl hbig)]
      have d1 : decide ((1099511627777 : Int) < (acc : Int) + (pr : Int)) = true := by simp; omega
      clear HM
      subst er
      go_wp2_with fail
      go_ret
      have E := END.out true _ rfl
      exact ⟨acc + pr, by simp, HS.out, fun _ _ h => (by cases h), ⟨_, _, _, E.1⟩, E.2.2.2⟩
     ·have d1 : decide ((1099511627777 : Int) < (acc : Int) + (pr : Int)) = false := by simp; omega
      by_cases hx0 : x.toNat = 0
      ·have t0 : ((x.toNat : Int) == 0) = true := by simp [hx0]
       by_cases hk0 : 0 < k
       ·have er : res = none := by rw [← HM.out.1, if_pos (.inr ⟨hx0, hk0⟩)]
        have d2 : decide (0 < k) = true := by simp [hk0]
        have HX := Lib.hid hx0
        clear HM hx0
        subst er
        go_wp2_with fail
        go_ret
        have E := END.out true _ rfl
        exact ⟨acc + pr, by simp, HS.out, fun _ _ h => (by cases h), ⟨_, _, _, E.1⟩, E.2.2.2⟩
       ·have er : res = some (acc + pr, r') := by rw [← HM.out.1, if_neg (by omega)]
        have d2 : decide (0 < k) = false := by simp; omega
        have HX := Lib.hid hx0
        clear HM hx0
        subst er
        go_wp2_with fail
        go_ret
        have E := END.out false _ rfl
        exact ⟨acc + pr, by simp, HS.out, fun _ _ h => (by simp only [Option.some.injEq, Prod.mk.injEq] at h; exact h.1), ⟨_, E.1, E.2.1, E.2.2.1⟩, E.2.2.2⟩
      ·have t0 : ((x.toNat : Int) == 0) = false := by simp; omega
       have er : res = some (acc + pr, r') := by rw [← HM.out.1, if_neg (by omega)]
       have HX := Lib.hid hx0
       clear HM hx0
       subst er
       go_wp2_with fail
       go_ret
       have E := END.out false _ rfl
       exact ⟨acc + pr, by simp, HS.out, fun _ _ h => (by simp only [Option.some.injEq, Prod.mk.injEq] at h; exact h.1), ⟨_, E.1, E.2.1, E.2.2.1⟩, E.2.2.2⟩
    ·have hre : rs7 1099511627777 k acc (x :: r') = rs7 1099511627777 (k + 1) (acc + pr) r' := by rw [rs7, if_neg (by omega), if_neg h128, ← hm', hy, hpr]
     rw [hre] at hr
     have HM := Lib.hid (And.intro hr hm')
     clear hre hm' hr hR hkw hs hb hne hcell H HR hy hpr s1 s2 hb2 HNO
     go_wp2_with fail
     go_roundw
     case rel => exact ⟨k + 1, acc + pr, m * 128, r', by omega, by go_num, by go_num, by go_num, by rw [HM.out.2, Nat.pow_succ], by omega, HM.out.1, ⟨_, by simpa using B1.out, S1.out.1, S1.out.2⟩, K1.out⟩
     case measure => simp [intOf]; omega
   ·have er : res = none := by rw [← hr, rs7, if_pos (by omega)]
    clear hr hb hcell
    clear hm' hR hkw hs hne H HR hacc hm63
    go_wp2_with fail
    go_ret
    subst er
    exact ⟨0, rfl, by decide, fun _ _ h => (by cases h), HNO.out _ rfl⟩
theorem rxnum_none (rp : Nat) (w : World) (h : Rx w rp none) :
  Calls Tryz.prog 47 #[.pointer (some ⟨rp, 0, none⟩)] w (RNx w rp none) := by
 obtain ⟨p, n, c, hb⟩ := h.bad
 have g := blk2 hb
 have H := Lib.hid h
 clear h hb
 go_enter Tryz.func47, Tryz.ntmps47
 go_wp2_with fail
 go_loopw [3, 4, 5] (fun v3 v4 v5 wr => v3 = .int .u64 0 ∧ v4 = .int .u64 1 ∧ v5 = .int .i64 0 ∧ w = wr) (fun _ _ _ _ => 0)
 case atStart => exact ⟨rfl, rfl, rfl, rfl⟩
 case round =>
  obtain ⟨rfl, rfl, rfl, rfl⟩ := hrel
  go_wp2_with fail
  go_ret
  exact ⟨0, rfl, by decide, fun _ _ h => (by cases h), H.out.bad_set, keepR _ (Keeps.refl _ _)⟩
theorem rxnum_any (rp : Nat) (st : Option (List UInt8)) (w : World) (h : Rx w rp st) :
  Calls Tryz.prog 47 #[.pointer (some ⟨rp, 0, none⟩)] w (RNx w rp (st.bind (pNum 1099511627777))) := by
 cases st with
 | none => exact rxnum_none rp w h
 | some l => exact (rxnum_some rp l w h).mono fun e w' h => h
end
section
open Go.RowKit
def pX (l : List UInt8) : Option (List UInt8 × List UInt8) := (pNum 1099511627777 l).bind fun x => if x.2.length < x.1 then none else some (x.2.take x.1, x.2.drop x.1)
def RTx (w : World) (rp : Nat) (st : Option (List UInt8)) (e : Ending) (w' : World) : Prop :=
 ∃ (p : Option Addr) (c : Nat) (F : List UInt8), e = .returned (.slice p F.length c) ∧ Sees w' (.slice p F.length c) F ∧ (0 < F.length → ∀ k, (Value.slice p F.length c).ownBlock = some k → k < rp) ∧ F.length ≤ st.elim 0 List.length ∧ (∀ F' r, st.bind pX = some (F', r) → F = F') ∧ Rx w' rp ((st.bind pX).map (·.2)) ∧ Keeps (fun k => k = rp) w w'
theorem pNum_rest {m k : Nat} {l r : List UInt8} (h : pNum m l = some (k, r)) : r.length ≤ l.length := by
 rw [(pNum_inv h).1]
 simp
theorem RTx.no {w w' : World} {rp : Nat} {st : Option (List UInt8)} (h : st.bind pX = none) (hr : Rx w' rp none) (k : Keeps (fun k => k = rp) w w') : RTx w rp st (.returned (.slice none 0 0)) w' :=
 ⟨none, 0, [], rfl, Sees.nil _, fun h => (by simp at h), by simp, fun _ _ e => (by rw [h] at e; cases e), by rw [h]; exact hr, k⟩
theorem rxtext_any (rp : Nat) (st : Option (List UInt8)) (w : World) (h : Rx w rp st) :
  Calls Tryz.prog 49 #[.pointer (some ⟨rp, 0, none⟩)] w (RTx w rp st) := by
 have C := Lib.hid (rxnum_any rp st w h)
 have hres : st.bind pX = (st.bind (pNum 1099511627777)).bind fun x => if x.2.length < x.1 then none else some (x.2.take x.1, x.2.drop x.1) := by
  cases st with
  | none => rfl
  | some l => rfl
 have hbd : ∀ x, st.bind (pNum 1099511627777) = some x → x.1 ≤ 1099511627777 ∧ x.2.length ≤ st.elim 0 List.length := by
  intro x hx
  cases st with
  | none => cases hx
  | some l => exact ⟨(pNum_inv (n := x.1) (r := x.2) hx).2.1, pNum_rest (k := x.1) (r := x.2) hx⟩
 obtain ⟨q, hq⟩ : ∃ q, st.bind (pNum 1099511627777) = q := ⟨_, rfl⟩
 rw [hq] at hres hbd C
 clear hq
 go_enter Tryz.func49, Tryz.ntmps49
 go_wp2_with fail
 refine C.out.mono ?_
 rintro e w1 ⟨n1, rfl, hn64, hnk, hr, k1⟩
 clear C h
 cases q with
 | none =>
  obtain ⟨p, n, c, hb⟩ := Rx.bad hr
  have g := blk2 hb
  have R := Lib.hid (And.intro hr (And.intro k1 hres))
  clear hr k1 hres hb hbd hnk
  go_wp2_with fail
  go_ret
  exact RTx.no R.out.2.2 R.out.1.bad_set (keepR _ R.out.2.1)
 | some x =>
  obtain ⟨n, l1⟩ := x
  obtain rfl : n1 = n := hnk _ _ rfl
  have hn := (hbd _ rfl).1
  have hlb := Lib.hid (hbd _ rfl).2
  simp only at hn
  have hr' : Rx w1 rp (some l1) := hr
  obtain ⟨p, c, hb, hs, hne⟩ := hr'.cells
  have g := blk2 hb
  obtain ⟨_, _, _, z1, z2⟩ := hs.len
  have hl : l1.length ≤ 9223372036854775807 := by unfold maxLen at z2; omega
  simp only [Option.bind_some] at hres
  have hw : IntKind.u64.wrap (l1.length : Int) = (l1.length : Int) := by rw [IntKind.wrap_u64]; omega
  by_cases hlt : l1.length < n1
  ·rw [if_pos hlt] at hres
   have R := Lib.hid (And.intro hr' (And.intro k1 hres))
   have hgt : decide ((l1.length : Int) < (n1 : Int)) = true := by simp; omega
   clear hr hr' k1 hres hb hbd hs hne z1 z2 hn hnk
   go_wp2_with fail
   go_ret
   exact RTx.no R.out.2.2 R.out.1.some_bad (keepR _ R.out.2.1)
  ·rw [if_neg hlt] at hres
   obtain ⟨p1, c1, hsl1, s1, o1⟩ := hs.upto n1 (by omega) IntKind.u64 (n1 : Int) rfl
   obtain ⟨p2, c2, hsl2, s2, o2⟩ := hs.from n1 (by omega) IntKind.u64 (n1 : Int) rfl
   have B1 := Lib.hid (heap_setCell_same w1 rp 0 _ _ (.slice p2 (l1.length - n1) c2) hb)
   have S1 := Lib.hid (And.intro (s2.keepR (keepR (rp := rp) (i := 0) (.slice p2 (l1.length - n1) c2) (Keeps.refl _ w1)) (fun hl k hk => hne (by simp at hl; omega) k (o2 k hk))) (show 0 < (l1.drop n1).length → ∀ k, (Value.slice p2 (l1.length - n1) c2).ownBlock = some k → k < rp from fun hl k hk => hne (by simp at hl; omega) k (o2 k hk)))
   have S0 := Lib.hid (And.intro (s1.keepR (keepR (rp := rp) (i := 0) (.slice p2 (l1.length - n1) c2) (Keeps.refl _ w1)) (fun hl k hk => hne (by simp at hl; omega) k (o1 k hk))) (show 0 < (l1.take n1).length → ∀ k, (Value.slice p1 n1 c1).ownBlock = some k → k < rp from fun hl k hk => hne (by simp at hl; omega) k (o1 k hk)))
   have R := Lib.hid (And.intro k1 hres)
   have hlen := Lib.hid (show (l1.take n1).length = n1 by rw [List.length_take]; omega)
   have hgt : decide ((l1.length : Int) < (n1 : Int)) = false := by simp; omega
   have hge : ¬ (l1.length : Int) < (n1 : Int) := by omega
   clear hr hr' k1 hres hb hbd hs hne z1 z2 hn hnk s1 s2 o1 o2
   go_wp2_with fail
   go_ret
   refine ⟨p1, c1, l1.take n1, congrArg (fun z => Ending.returned (.slice p1 z c1)) hlen.out.symm, hlen.out.symm ▸ S0.out.1, fun h0 k hk => S0.out.2 h0 k (by have h2 : (Value.slice p1 (l1.take n1).length c1).ownBlock = some k := hk; rw [hlen.out] at h2; exact h2), Nat.le_trans (by rw [List.length_take]; exact Nat.min_le_right _ _) hlb.out, fun F' r e => ?_, ?_, keepR _ R.out.1⟩
   ·rw [R.out.2] at e
    simp only [Option.some.injEq, Prod.mk.injEq] at e
    exact e.1
   ·rw [R.out.2]
    exact ⟨.slice p2 (l1.length - n1) c2, by simpa using B1.out, S1.out.1, S1.out.2⟩
end
section
open Go.RowKit
theorem ref21_num_any (v : Value) (l : List UInt8) (n B : Nat) (w : World) (h : Owns w B v l) (hl : l.length ≤ 1000000000) (hn : n < 18446744073709551616) (hB : B ≤ w.heap.size) :
  Calls Tryz.prog 36 #[v, .int .u64 n] w (Gro w B (l ++ form n)) := by
 have HH := Lib.hid (And.intro h hB)
 clear h hB
 go_enter Tryz.func36, Tryz.ntmps36
 go_wp2_with fail
 go_loopw [0, 1] (fun v0 v1 wr => ∃ m l', v1 = .int .u64 (m : Nat) ∧ m < 18446744073709551616 ∧ Owns wr B v0 l' ∧ K8 B w wr ∧ l' ++ form m = l ++ form n) (fun _ v1 _ => (intOf v1).toNat)
 case atStart => exact ⟨n, l, rfl, hn, HH.out.1, Keeps.refl _ _, rfl⟩
 case round =>
  obtain ⟨m, l', rfl, hm, ho', hk', he⟩ := hrel
  have hlen : l'.length ≤ 1000000010 := by
   have := congrArg List.length he
   simp only [List.length_append] at this
   have := form_le10 hn
   omega
  have H := Lib.hid he
  clear he
  have hs := Nat.le_trans HH.out.2 hk'.size
  by_cases h0 : m < 128
  ·go_wp2_with (at_builtin; refine wpList_append_sees rfl _ _ rfl B u0 l' rfl (ho'.alloc _) _ [UInt8.ofNat m] rfl (Sees.one _ _ _ ?_) (by simp; omega) (by simp; omega) ?_; rotate_left; intro v' w2 ho2 hg2)
   ·go_ret
    refine gro rfl ?_ ((hk'.alloc _).trans (K8.grown (ho'.alloc _) hg2))
    rw [← H.out, form_lt h0]
    exact ho2
   ·exact byte_low h0
  ·go_wp2_with (at_builtin; refine wpList_append_sees rfl _ _ rfl B u0 l' rfl (ho'.alloc _) _ [UInt8.ofNat (128 + m % 128)] rfl (Sees.one _ _ _ ?_) (by simp; omega) (by simp; omega) ?_; rotate_left; intro v' w2 ho2 hg2)
   ·go_roundw
    case rel => exact ⟨m / 128, _, by go_num, by omega, ho2, (hk'.alloc _).trans (K8.grown (ho'.alloc _) hg2), by have h1 := form_ge (n := m) (by omega); rw [← H.out, h1]; simp⟩
    case measure => simp [intOf]; omega
   ·exact byte_high m
theorem ref21_text_any (v sv : Value) (l F : List UInt8) (B : Nat) (w : World) (h : Owns w B v l) (hl : l.length ≤ 1000000000) (hs : Sees w sv F) (hF : F.length ≤ 1000000000) (hlt : ∀ b, sv.ownBlock = some b → b < B) (hB : B ≤ w.heap.size) :
  Calls Tryz.prog 37 #[v, sv] w (Gro w B (l ++ tform F)) := by
 have C := Lib.hid (ref21_num_any v l F.length B w h hl (by omega) hB)
 have h10 : (form F.length).length ≤ 10 := form_le10 (by omega)
 have HB := Lib.hid (And.intro hB (And.intro hs hlt))
 obtain ⟨pv, cv, rfl, _, _⟩ := hs.len
 have hw : IntKind.u64.wrap (F.length : Int) = (F.length : Int) := by rw [IntKind.wrap_u64]; omega
 clear h hB hs hlt
 go_enter Tryz.func37, Tryz.ntmps37
 go_wp2_with fail
 refine C.out.mono ?_
 rintro e w1 ⟨p1, n1, c1, rfl, ho1, hk1⟩
 have s1 : Sees w1 (.slice pv F.length cv) F := HB.out.2.1.keeps hk1 (fun b hb hu => by have := HB.out.2.2 b hb; have := hu.1; omega)
 go_wp2_with (at_builtin; refine wpList_append_sees rfl _ _ rfl B (.slice p1 n1 c1) _ rfl ho1 _ F rfl s1 (by simp; omega) (Nat.le_trans HB.out.1 hk1.size) ?_; intro v2 w2 ho2 hg2)
 go_ret
 refine gro rfl ?_ (hk1.trans (K8.grown ho1 hg2))
 unfold tform
 rw [← List.append_assoc]
 exact ho2
theorem ref21_home_any (p : Int) (w : World) (h : -9223372036854775808 ≤ p ∧ p ≤ 9223372036854775807) : Calls Tryz.prog 19 #[.int .i64 p] w fun e w' => e = .returned (.int .i64 (homeZ p)) ∧ w = w' := by
 by_cases h1 : p < 0
 ·have t1 : decide (p < 0) = true := decide_eq_true h1
  have e : homeZ p = -1 := by unfold homeZ; rw [if_neg (by omega)]
  rw [e]
  clear h1 e
  go_enter Tryz.func19, Tryz.ntmps19
  go_wp2_with fail
  go_ret
  exact ⟨rfl, rfl⟩
 ·have t1 : decide (p < 0) = false := decide_eq_false h1
  by_cases h2 : 256 ≤ p
  ·have t2 : decide (255 < p) = true := by simp; omega
   have e : homeZ p = -1 := by unfold homeZ; rw [if_neg (by omega)]
   rw [e]
   clear h1 h2 e
   go_enter Tryz.func19, Tryz.ntmps19
   go_wp2_with fail
   go_ret
   exact ⟨rfl, rfl⟩
  ·have t2 : decide (255 < p) = false := by simp; omega
   have e : homeZ p = p / 4 := by unfold homeZ; rw [if_pos (by omega)]
   obtain ⟨n, rfl⟩ : ∃ n : Nat, p = n := ⟨p.toNat, by omega⟩
   have q : Int.tdiv (n : Int) 4 = ((n / 4 : Nat) : Int) := by rw [Int.tdiv_eq_ediv_of_nonneg (by omega)]; omega
   have q2 : IntKind.i64.wrap ((n / 4 : Nat) : Int) = ((n / 4 : Nat) : Int) := by rw [IntKind.wrap_i64]; omega
   rw [e]
   clear h1 h2 e
   go_enter Tryz.func19, Tryz.ntmps19
   go_wp2_with fail
   go_ret
   exact ⟨by simp, rfl⟩
end
section
open Go.RowKit Go.Great
attribute [-go_sem] loadVar storeVar
theorem load_cell1 {W : World} {a : Addr} {v : Value} (hc : W.cell? a = some v) : (load a).run Tryz.prog W = .ok v W := by
 show Sem.run Tryz.prog (.load .plain a .pure) W = _
 unfold Sem.run
 simp only [hc]
 rfl
structure PartsR (w : World) (b : Nat) (m : Ms) : Prop where
 kind : (loadVar 3 ⟨b, 0, none⟩).run Tryz.prog w = .ok (.int .i64 m.kind) w
 pub : (loadVar 3 ⟨b, 1, none⟩).run Tryz.prog w = .ok (.int .i64 m.pub) w
 ver : (loadVar 22 ⟨b, 2, none⟩).run Tryz.prog w = .ok (.int .u64 m.ver) w
 there : (loadVar 4 ⟨b, 3, none⟩).run Tryz.prog w = .ok (.bool m.there) w
 pred : (loadVar 24 ⟨b, 4, none⟩).run Tryz.prog w = .ok m.pv w
 item : (loadVar 29 ⟨b, 5, none⟩).run Tryz.prog w = .ok (.agg m.it.cells.toArray) w
 tok : (loadVar 31 ⟨b, 9, none⟩).run Tryz.prog w = .ok (.agg #[.int .i64 m.tb, .int .u64 m.tl, .int .u64 m.tc]) w
 tb : (loadVar 3 ⟨b, 9, none⟩).run Tryz.prog w = .ok (.int .i64 m.tb) w
 tl : (loadVar 22 ⟨b, 10, none⟩).run Tryz.prog w = .ok (.int .u64 m.tl) w
 tc : (loadVar 22 ⟨b, 11, none⟩).run Tryz.prog w = .ok (.int .u64 m.tc) w
 frm : (loadVar 22 ⟨b, 12, none⟩).run Tryz.prog w = .ok (.int .u64 m.frm) w
 page : (loadVar 35 ⟨b, 13, none⟩).run Tryz.prog w = .ok (.agg m.pg.cells.toArray) w
theorem partsR {w : World} {b : Nat} {m : Ms} (h : RAt w b m) : PartsR w b m := by
 have g := blkM h
 have q1 : ∀ a W, (loadVar 3 a).run Tryz.prog W = (load a).run Tryz.prog W := fun _ _ => by kernel_rfl
 have q2 : ∀ a W, (loadVar 22 a).run Tryz.prog W = (load a).run Tryz.prog W := fun _ _ => by kernel_rfl
 have q3 : ∀ a W, (loadVar 4 a).run Tryz.prog W = (load a).run Tryz.prog W := fun _ _ => by kernel_rfl
 have q4 : ∀ a W, (loadVar 24 a).run Tryz.prog W = (load a).run Tryz.prog W := fun _ _ => by kernel_rfl
 refine ⟨?_, ?_, ?_, ?_, ?_, ?_, ?_, ?_, ?_, ?_, ?_, ?_⟩
 ·rw [q1]; exact load_cell1 g.1
 ·rw [q1]; exact load_cell1 g.2.1
 ·rw [q2]; exact load_cell1 g.2.2.1
 ·rw [q3]; exact load_cell1 g.2.2.2.1
 ·rw [q4]; exact load_cell1 g.2.2.2.2.1
 ·exact load_sub (cs := m.it.cells.toArray) (fun j v hv => by
   rcases j with _ | _ | _ | _ | _ | j <;> simp [It.cells] at hv
   all_goals (subst hv; first | exact g.2.2.2.2.2.1 | exact g.2.2.2.2.2.2.1 | exact g.2.2.2.2.2.2.2.1 | exact g.2.2.2.2.2.2.2.2.1)) Tryz.underlying29 rfl (by kernel_rfl)
 ·exact load_sub (fun j v hv => by
   rcases j with _ | _ | _ | _ | _ | j <;> simp at hv
   all_goals (subst hv; first | exact g.2.2.2.2.2.2.2.2.2.1 | exact g.2.2.2.2.2.2.2.2.2.2.1 | exact g.2.2.2.2.2.2.2.2.2.2.2.1)) Tryz.underlying31 rfl (by kernel_rfl)
 ·rw [q1]; exact load_cell1 g.2.2.2.2.2.2.2.2.2.1
 ·rw [q2]; exact load_cell1 g.2.2.2.2.2.2.2.2.2.2.1
 ·rw [q2]; exact load_cell1 g.2.2.2.2.2.2.2.2.2.2.2.1
 ·rw [q2]; exact load_cell1 g.2.2.2.2.2.2.2.2.2.2.2.2.1
 ·exact load_sub (cs := m.pg.cells.toArray) (fun j v hv => by
   rcases j with _ | _ | _ | _ | _ | j <;> simp [Pg.cells] at hv
   all_goals (subst hv; first | exact g.2.2.2.2.2.2.2.2.2.2.2.2.2.1 | exact g.2.2.2.2.2.2.2.2.2.2.2.2.2.2.1 | exact g.2.2.2.2.2.2.2.2.2.2.2.2.2.2.2.1 | exact g.2.2.2.2.2.2.2.2.2.2.2.2.2.2.2.2.1 | exact g.2.2.2.2.2.2.2.2.2.2.2.2.2.2.2.2.2)) Tryz.underlying35 rfl (by kernel_rfl)
theorem eq_tokR_in (m : Nat) (F3 : ∀ x y W, (Op.equalIn m 3 (.int .i64 x) (.int .i64 y)).run Tryz.prog W = .ok (x == y) W) (F : ∀ x y W, (Op.equalIn m 22 (.int .u64 x) (.int .u64 y)).run Tryz.prog W = .ok (x == y) W) (a a' b b' c c' : Int) (W : World) :
  (Op.equalIn (m+1) 31 (.agg #[.int .i64 a, .int .u64 b, .int .u64 c]) (.agg #[.int .i64 a', .int .u64 b', .int .u64 c'])).run Tryz.prog W = .ok (a == a' && (b == b' && c == c')) W := by
 have hst : Tryz.prog.stoodInHeld 31 = false := by kernel_rfl
 unfold Op.equalIn
 cases h1 : (a == a')
 ·simp [go_sem, hst, F3, h1]
 ·cases h2 : (b == b')
  ·simp [go_sem, hst, F3, F, h1, h2]
  ·cases h3 : (c == c') <;> simp [go_sem, hst, F3, F, h1, h2, h3]
theorem neq_tokR (a a' b b' c c' : Int) (W : World) :
  (binOp .neq 31 (.agg #[.int .i64 a, .int .u64 b, .int .u64 c]) (.agg #[.int .i64 a', .int .u64 b', .int .u64 c'])).run Tryz.prog W = .ok (.bool (!(a == a' && (b == b' && c == c')))) W := by
 have h := eq_tokR_in 9999 (eq_int 9998) (eq_u64 9998) a a' b b' c c' W
 simp [binOp, go_sem, Op.equal, Op.maxDepth, h]
theorem ref21_same_any (m m' : Ms) (w : World) (h : m.fine w) (h' : m'.fine w) : Calls Tryz.prog 13 #[.agg m.cells.toArray, .agg m'.cells.toArray] w fun e w' => e = .returned (.bool (sameM m.plain m'.plain)) ∧ Old w w' := by
 have CP := fun W (k : Old w W) => same_pred_any m.pv m'.pv m.ps m'.ps W ((h.1.1.old k).1) ((h'.1.1.old k).1) (fun x hx => ((h.1.1.old k).2 x hx).1) (fun x hx => ((h'.1.1.old k).2 x hx).1)
 have CI := fun W (k : Old w W) => same_item_any m.it m'.it W (It.fine.old h.2.1 k) (It.fine.old h'.2.1 k)
 have CG := fun W (k : Old w W) => same_page_any m.pg m'.pg W (Pg.fine.old h.2.2.1 k) (Pg.fine.old h'.2.2.1 k)
 unfold sameM Ms.plain
 simp only
 generalize sameP (m.ps.map Con.plain) (m'.ps.map Con.plain) = z5 at CP ⊢
 generalize sameI m.it.plain m'.it.plain = z6 at CI ⊢
 generalize sameG m.pg.plain m'.pg.plain = z9 at CG ⊢
 obtain ⟨z1, t1⟩ : ∃ b, (m.kind == m'.kind) = b := ⟨_, rfl⟩
 obtain ⟨z2, t2⟩ : ∃ b, (m.pub == m'.pub) = b := ⟨_, rfl⟩
 obtain ⟨z3, t3⟩ : ∃ b, (m.ver == m'.ver) = b := ⟨_, rfl⟩
 obtain ⟨z4, t4⟩ : ∃ b, (m.there == m'.there) = b := ⟨_, rfl⟩
 obtain ⟨z7, t7⟩ : ∃ b, (m.tb == m'.tb && (m.tl == m'.tl && m.tc == m'.tc)) = b := ⟨_, rfl⟩
 obtain ⟨z8, t8⟩ : ∃ b, (m.frm == m'.frm) = b := ⟨_, rfl⟩
 have natEq : ∀ a b : Nat, ((a : Int) == (b : Int)) = (a == b) := fun a b => by rw [Bool.eq_iff_iff, beq_iff_eq, beq_iff_eq]; omega
 have v1 : (m.kind != m'.kind) = !z1 := by rw [← t1]; rfl
 have v2 : (m.pub != m'.pub) = !z2 := by rw [← t2]; rfl
 have v3 : ((m.ver : Int) != (m'.ver : Int)) = !z3 := by rw [← t3, ← natEq]; rfl
 have v3n : (m.ver != m'.ver) = !z3 := by rw [← t3]; rfl
 have v4 : (m.there != m'.there) = !z4 := by rw [← t4]; rfl
 have v8 : ((m.frm : Int) != (m'.frm : Int)) = !z8 := by rw [← t8, ← natEq]; rfl
 have v8n : (m.frm != m'.frm) = !z8 := by rw [← t8]; rfl
 have u3 : ((m.ver : Int) == (m'.ver : Int)) = z3 := by rw [natEq, t3]
 have u8 : ((m.frm : Int) == (m'.frm : Int)) = z8 := by rw [natEq, t8]
 have te : ∀ W, (binOp .neq 31 (.agg #[.int .i64 m.tb, .int .u64 m.tl, .int .u64 m.tc]) (.agg #[.int .i64 m'.tb, .int .u64 m'.tl, .int .u64 m'.tc])).run Tryz.prog W = .ok (.bool (!z7)) W := fun W => by rw [neq_tokR, natEq, natEq, t7]
 rw [t1, t2, t3, t4, t7, t8]
 obtain ⟨W0, hW0⟩ : ∃ W0, (w.alloc (.cells m.cells.toArray 37)).alloc (.cells m'.cells.toArray 37) = W0 := ⟨_, rfl⟩
 have k0 : Old w W0 := by rw [← hW0]; exact ((Keeps.refl _ _).alloc _).alloc _
 obtain ⟨b0, b1⟩ := two_blocks w (.cells m.cells.toArray 37) (.cells m'.cells.toArray 37)
 rw [hW0] at b0 b1
 obtain ⟨a1, a2, a3, a4, a5, a6, a7, _, _, _, a8, a9⟩ := partsR b0
 obtain ⟨d1, d2, d3, d4, d5, d6, d7, _, _, _, d8, d9⟩ := partsR b1
 have B := Lib.hid (And.intro k0 (And.intro b0 b1))
 have HC := Lib.hid (And.intro CP (And.intro CI CG))
 clear k0 b0 b1 CP CI CG h h' t7 natEq
 cases z1
 ·go_enter Tryz.func13, Tryz.ntmps13
  go_wp2_with fail
  go_ret
  exact ⟨rfl, B.out.1⟩
 cases z2
 ·go_enter Tryz.func13, Tryz.ntmps13
  go_wp2_with fail
  go_ret
  exact ⟨rfl, B.out.1⟩
 cases z3
 ·go_enter Tryz.func13, Tryz.ntmps13
  go_wp2_with fail
  go_ret
  exact ⟨rfl, B.out.1⟩
 cases z4
 ·go_enter Tryz.func13, Tryz.ntmps13
  go_wp2_with fail
  go_ret
  exact ⟨rfl, B.out.1⟩
 cases z7
 ·go_enter Tryz.func13, Tryz.ntmps13
  go_wp2_with fail
  go_ret
  exact ⟨by simp, B.out.1⟩
 cases z8
 ·go_enter Tryz.func13, Tryz.ntmps13
  go_wp2_with fail
  go_ret
  exact ⟨by simp, B.out.1⟩
 go_enter Tryz.func13, Tryz.ntmps13
 go_wp2_with fail
 refine (HC.out.1 _ B.out.1).mono ?_
 rintro e w1 ⟨rfl, k1⟩
 have p1 := (partsR ((k1.block _ (lt_of_heap B.out.2.1) (fun f => f)).trans B.out.2.1)).item
 have q1 := (partsR ((k1.block _ (lt_of_heap B.out.2.2) (fun f => f)).trans B.out.2.2)).item
 have K1 := Lib.hid k1
 clear k1 a1 a2 a3 a4 a5 a6 a7 a8 a9 d1 d2 d3 d4 d5 d6 d7 d8 d9
 cases z5
 ·go_wp2_with fail
  go_ret
  exact ⟨by simp, B.out.1.trans K1.out⟩
 go_wp2_with fail
 refine (HC.out.2.1 _ (B.out.1.trans K1.out)).mono ?_
 rintro e w2 ⟨rfl, k2⟩
 have kk := K1.out.trans k2
 have p2 := (partsR ((kk.block _ (lt_of_heap B.out.2.1) (fun f => f)).trans B.out.2.1)).page
 have q2 := (partsR ((kk.block _ (lt_of_heap B.out.2.2) (fun f => f)).trans B.out.2.2)).page
 have K2 := Lib.hid kk
 clear k2 kk p1 q1
 cases z6
 ·go_wp2_with fail
  go_ret
  exact ⟨by simp, B.out.1.trans K2.out⟩
 go_wp2_with fail
 refine (HC.out.2.2 _ (B.out.1.trans K2.out)).mono ?_
 rintro e w3 ⟨rfl, k3⟩
 have K3 := Lib.hid (K2.out.trans k3)
 clear k3 p2 q2
 go_wp2_with fail
 go_ret
 exact ⟨by simp, B.out.1.trans K3.out⟩
end
end Go.Proofs.YtpjpimahnnekkaaGreat
