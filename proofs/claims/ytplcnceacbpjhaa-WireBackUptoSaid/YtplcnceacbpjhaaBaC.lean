/- DERIVED. The walk of WireBack. -/
import Derived.Test.YtplcnceacbpjhaaBaB
import Derived.Deep.DeepCutAuto
import Derived.Deep.CutRange
namespace Go.Proofs.Ytplcnceacbpjhaa
open Go.RowKit

theorem Sees.shape' {w : World} {v : Value} {l : List UInt8} (h : Sees w v l) : ∃ p c, v = .slice p l.length c := by
  obtain ⟨p, c, h0, _, _⟩ := h.len; exact ⟨p, c, h0⟩
theorem Sees.fresh {S : Nat → Prop} {w w' : World} {v : Value} {l : List UInt8} (h : Sees w v l) (hk : Keeps S w w') (hS : ∀ k, k < w.heap.size → ¬ S k) : Sees w' v l := by
  have ho : Old w w' := ⟨hk.os, hk.tape, hk.output, hk.size, fun k hk' _ => hk.block k hk' (hS k hk')⟩
  exact h.old ho
theorem SeesThings.take {W : World} {p : Option Addr} {n c : Nat} {ts : List Thing} (h : SeesThings W (.slice p n c) ts) (k : Nat) (hk : k ≤ ts.length) : SeesThings W (.slice p k c) (ts.take k) := by
  obtain ⟨p', c', he, h1, h2, h3, h4⟩ := h
  simp only [Value.slice.injEq] at he
  obtain ⟨rfl, rfl, rfl⟩ := he
  have hl : (ts.take k).length = k := by simp; omega
  refine ⟨p, c, by rw [hl], by omega, h2, fun t ht => h3 t (List.mem_of_mem_take ht), fun hne => ?_⟩
  obtain ⟨b, o, e, hc⟩ := h4 (fun e => hne (by rw [e]; simp))
  refine ⟨b, o, e, fun i t hi => hc i t ?_⟩
  rw [List.getElem?_take] at hi
  split at hi
  · exact hi
  · cases hi

set_option maxRecDepth 100000 in
set_option maxHeartbeats 2000000 in
theorem back_any (vl : Value) (ts : List Thing) (cut : Nat) (w : World) (h : SeesThings w vl ts) (hcut : cut < 65536) :
    Calls Try.prog 5 #[vl, .int .u16 cut] w fun e w' => e = .returned (.bool true) ∧ Old w w' := by
  obtain ⟨p, c, rfl, hc1, hc2, _, _⟩ := id h
  have hsl : ∀ W (k : Int) (n : Nat), 0 ≤ k → k.toNat = n → n ≤ c → (Instr.slice 56 (.slice p ts.length c) none (some (.int .i64 k)) none).run Try.prog W = .ok (.slice p n c) W := by
    intro W k n hk hkn hnc
    subst hkn
    have hh : (k : Int) ≤ (c : Int) := by omega
    cases p <;> simp [go_sem, hk, hh, Addr.add]
  have H := Lib.hid h
  have hl : ts.length ≤ 9223372036854775807 := by unfold maxLen at hc2; omega
  have S1 := Lib.hid hsl
  clear h hc2 hsl
  obtain ⟨n, hn⟩ : ∃ n, n = min ts.length 60 := ⟨_, rfl⟩
  have hT : SeesThings w (.slice p n c) (ts.take n) := SeesThings.take H.out n (by omega)
  have hTl : (ts.take n).length = n := by simp; omega
  have hn60 : n ≤ 60 := by omega
  obtain ⟨T, hTT⟩ : ∃ T, T = ts.take n := ⟨_, rfl⟩
  rw [← hTT] at hT hTl
  have N := Lib.hid hn
  have HT := Lib.hid (And.intro hT hTl)
  clear hn hT hTl hTT H
  go_enter Try.func5, Try.ntmps5
  go_upto_region 2 with fail
  go_cut [0, 5] from 19 to 23 (fun v0 v5 wc => v0 = .slice p n c ∧ v5 = .slice none 0 0 ∧ wc = w)
  case first =>
    rcases Nat.lt_or_ge 60 ts.length with h60 | h60
    · have hm : ¬ ts.length ≤ 60 := by omega
      have hs := fun W => S1.out W 60 60 (by omega) rfl (by omega)
      go_wp2_with fail
      go_meet
      case rel => exact ⟨by rw [show n = 60 from by have := N.out; omega], rfl, rfl⟩
    · have hs := fun W => S1.out W ts.length ts.length (by omega) (by omega) hc1
      go_wp2_with fail
      go_meet
      case rel => exact ⟨by rw [show n = ts.length from by have := N.out; omega], rfl, rfl⟩
  case rest =>
    obtain ⟨rfl, rfl, rfl⟩ := hcut
    clear S1 N
    go_wp2_with fail
    go_loopw [5, 26] (fun v5 v26 wr => ∃ k : Nat, k ≤ n ∧ v26 = .int .i64 k ∧ Owns wr wc.heap.size v5 (encs (T.take k)) ∧ Old wc wr) (fun _ v26 _ => n - (intOf v26).toNat)
    case atStart => exact ⟨0, by omega, rfl, by rw [List.take_zero]; exact Owns.nil _ _, Keeps.refl _ _⟩
    case round =>
      obtain ⟨k, hk, rfl, ho, hkk⟩ := hrel
      by_cases hlt : k < n
      · obtain ⟨t, ht⟩ : ∃ t, T[k]? = some t := ⟨T[k]'(by rw [HT.out.2]; exact hlt), by simp [HT.out.2, hlt]⟩
        obtain ⟨p', c', he, _, _, hall, hce⟩ := HT.out.1
        simp only [Value.slice.injEq] at he
        obtain ⟨rfl, hnT, rfl⟩ := he
        clear hnT
        obtain ⟨b, o, rfl, hcells⟩ := hce (fun e => by rw [e] at ht; simp at ht)
        obtain ⟨q1, q2, q3⟩ := hcells k t ht
        have m1 := hkk.cell q1 (fun f => f)
        have m2 := hkk.cell q2 (fun f => f)
        have m3 := hkk.cell q3 (fun f => f)
        have hok := hall t (List.mem_of_getElem? ht)
        obtain ⟨what, tn, tv, tb⟩ := t
        simp only [] at m1 m2 m3
        have hsee : Sees wc tv tb := hok.1.1
        obtain ⟨p1, c1, rfl⟩ := hsee.shape'
        have C := lay_any u5 _ ⟨what, tn, .slice p1 tb.length c1, tb⟩ (wr.alloc (.cells #[.int .i64 what, .int .u64 tn, .slice p1 tb.length c1] 59)) (ho.sees.alloc _) (by
          have h1 := encs_length (T.take k) wc (fun t ht => hall t (List.mem_of_mem_take ht))
          have h2 : (T.take k).length ≤ 60 := by simp; omega
          omega) ⟨(hsee.old hkk).alloc _, hok.1.2⟩
        rw [← encs_snoc T k _ ht] at C
        unfold Thing.val at C
        have CC := Lib.hid C
        have F := Lib.hid (And.intro ho (And.intro hkk hkk.size))
        have hd : decide ((k : Int) < (n : Int)) = true := by simp; omega
        clear C ho hkk hok hsee hall hce hcells ht
        go_wp2_with fail
        refine CC.out.mono ?_
        rintro e w1 ⟨p2, n2, c2, rfl, ho2, hk2⟩
        have F2 := Lib.hid (And.intro (ho2.mono (show wc.heap.size ≤ _ by have := F.out.2.2; simp; omega)) ((F.out.2.1.alloc _).trans hk2))
        clear ho2 hk2
        go_wp2_with fail
        go_roundw
        case rel => exact ⟨k + 1, by omega, by go_num, F2.out.1, F2.out.2⟩
        case measure => simp [intOf]; omega
      · obtain rfl : k = n := by omega
        obtain ⟨wa, rfl⟩ : ∃ wa : World, wa = wr := ⟨_, rfl⟩
        have hd : decide ((k : Int) < (k : Int)) = false := by simp
        rw [List.take_of_length_le (by rw [HT.out.2]; exact Nat.le_refl _)] at ho
        obtain ⟨p5, c5, rfl⟩ := ho.sees.shape'
        have hbig : (encs T).length ≤ 100000000 := by
          obtain ⟨_, _, _, _, _, hall, _⟩ := HT.out.1
          have h1 := encs_length T wc hall
          have := HT.out.2
          omega
        generalize hE : encs T = E at *
        generalize hEL : E.length = m at *
        have C := Lib.hid (new_any _ E wa ho.sees (by omega))
        have F := Lib.hid (And.intro ho (And.intro hkk hkk.size))
        have HE := Lib.hid (And.intro hE hEL)
        clear ho hkk hE hEL hlt hk
        go_wp2_with fail
        refine C.out.mono ?_
        rintro e w1 ⟨rb, bb, rfl, hr1, hrb, hbb, hk1⟩
        have G1 := Lib.hid (And.intro hr1 (And.intro hrb (And.intro hbb hk1)))
        clear hr1 hrb hbb hk1 C
        go_wp2_with fail
        go_loopw [38] (fun v38 wq => ∃ j : Nat, j ≤ k ∧ v38 = .int .i64 j ∧ Rd wq w1.heap.size rb bb (encs (T.drop j)) ∧ Keeps (fun q => q = rb) w1 wq) (fun v38 _ => k - (intOf v38).toNat)
        case atStart => exact ⟨0, by omega, rfl, by rw [List.drop_zero, HE.out.1]; exact G1.out.1, Keeps.refl _ _⟩
        case round =>
          obtain ⟨j, hj, rfl, hrd, hkq⟩ := hrel
          obtain ⟨wq, rfl⟩ : ∃ wq : World, wq = wr := ⟨_, rfl⟩
          have hold : Old wc w1 := F.out.2.1.trans G1.out.2.2.2
          have hrbw : wc.heap.size ≤ rb := by have := G1.out.2.1; have := F.out.2.2; omega
          have hkc : Keeps (fun q => q = rb) wc wq := (hold.weaken (fun _ _ f => f.elim)).trans hkq
          by_cases hlj : j < k
          · obtain ⟨t, ht⟩ : ∃ t, T[j]? = some t := ⟨T[j]'(by rw [HT.out.2]; exact hlj), by simp [HT.out.2, hlj]⟩
            obtain ⟨p', c', he, _, _, hall, hce⟩ := HT.out.1
            simp only [Value.slice.injEq] at he
            obtain ⟨rfl, hnT, rfl⟩ := he
            clear hnT
            obtain ⟨b, o, rfl, hcells⟩ := hce (fun e => by rw [e] at ht; simp at ht)
            obtain ⟨q1, q2, q3⟩ := hcells j t ht
            have hfr : ∀ q, q < wc.heap.size → ¬ q = rb := fun q hq => by omega
            have m1 := hkc.cell q1 (hfr _ (World.block_lt_of_cell? _ _ q1))
            have m2 := hkc.cell q2 (hfr _ (World.block_lt_of_cell? _ _ q2))
            have m3 := hkc.cell q3 (hfr _ (World.block_lt_of_cell? _ _ q3))
            have hok := hall t (List.mem_of_getElem? ht)
            have hd1 := encs_drop T j t ht
            have hrd1 := rd_enc t wc hok.1 (encs (T.drop (j + 1)))
            obtain ⟨what, tn, tv, tb⟩ := t
            simp only [] at m1 m2 m3
            have hsee : Sees wc tv tb := hok.1.1
            obtain ⟨p1, c1, rfl⟩ := hsee.shape'
            have hsw : ∀ w', Keeps (fun q => q = rb) (wq.alloc (.cells #[.int .i64 what, .int .u64 tn, .slice p1 tb.length c1] 59)) w' → Sees w' (.slice p1 tb.length c1) tb :=
              fun w' hk => hsee.fresh ((hkc.alloc _).trans hk) hfr
            have C := reads_any w1.heap.size rb bb _ ⟨what, tn, .slice p1 tb.length c1, tb⟩ (wq.alloc (.cells #[.int .i64 what, .int .u64 tn, .slice p1 tb.length c1] 59))
              (hrd.keeps ((Keeps.refl (fun _ => False) wq).alloc _) (fun _ _ _ f => f)) ⟨hsw _ (Keeps.refl _ _), hok.1.2⟩ hsw
            unfold ReadsPost at C
            rw [hd1, hrd1] at C
            unfold Thing.val at C
            have CC := Lib.hid C
            have F3 := Lib.hid hkq
            have hd : decide ((j : Int) < (k : Int)) = true := by simp; omega
            clear C hrd hkq hok hsee hall hce hcells ht hsw hkc hold hd1 hrd1 q1 q2 q3 hfr
            go_wp2_with fail
            refine CC.out.mono ?_
            rintro e w2 ⟨rfl, hr2, hk2⟩
            have F4 := Lib.hid (And.intro hr2 ((F3.out.alloc _).trans hk2))
            clear hr2 hk2
            go_wp2_with fail
            go_roundw
            case rel => exact ⟨j + 1, by omega, by go_num, F4.out.1, F4.out.2⟩
            case measure => simp [intOf]; omega
          · obtain rfl : j = k := by omega
            have hd : decide ((j : Int) < (j : Int)) = false := by simp
            rw [List.drop_eq_nil_of_le (by rw [HT.out.2]; exact Nat.le_refl _)] at hrd
            have C1 := Lib.hid (end_any _ _ _ _ wq hrd)
            have C2 := Lib.hid (left_any _ _ _ _ wq hrd)
            have KC := Lib.hid (And.intro hkc (And.intro hrbw hkc.size))
            have SE : Sees wq (.slice p5 m c5) E := F.out.1.sees.fresh ((G1.out.2.2.2.weaken (fun _ _ f => f.elim)).trans hkq) (fun q hq e => by have := G1.out.2.1; have e' : q = rb := e; omega)
            have HSE := Lib.hid SE
            clear hrd hkq hkc hold hrbw hlj hj SE
            go_wp2_with fail
            refine C1.out.mono ?_
            rintro e w2 ⟨rfl, rfl⟩
            go_wp2_with fail
            refine C2.out.mono ?_
            rintro e w3 ⟨rfl, rfl⟩
            clear C1 C2
            by_cases hm0 : m = 0
            · have t0 : ((m : Int) == 0) = true := by simp; omega
              clear hm0
              go_wp2_with fail
              refine (awake_any _).mono ?_
              rintro e w4 ⟨rfl, hk4⟩
              have K4 := Lib.hid hk4
              clear hk4
              go_wp2_with fail
              go_ret
              exact ⟨rfl, (KC.out.1.then K4.out (fun _ _ f => f.elim)).then (Keeps.refl (fun _ => False) _) (fun _ _ f => f.elim) |>.weaken (fun q hq e => by have := KC.out.2.1; have e' : q = rb := e; omega)⟩
            · have t0 : ((m : Int) == 0) = false := by simp; omega
              have hml : cut % m < m := Nat.mod_lt _ (by omega)
              have hEm := HE.out.2
              obtain ⟨p6, c6, hs6, s6, _⟩ := HSE.out.upto (cut % m) (by omega) .i64 ((cut : Int) % (m : Int)) (by simp)
              have C5 := Lib.hid (new_any _ (E.take (cut % m)) wq s6 (by simp; omega))
              clear s6 hEm
              go_wp2_with fail
              refine C5.out.mono ?_
              rintro e w5 ⟨rb2, bb2, rfl, hr5, hrb5, hbb5, hk5⟩
              have G5 := Lib.hid (And.intro hr5 (And.intro hrb5 hk5))
              clear hr5 hrb5 hbb5 hk5 C5 hs6
              go_wp2_with fail
              go_loopw [77] (fun v77 wz => ∃ i ck : Nat, v77 = .int .i64 i ∧ i ≤ j ∧ ck < (encs (T.drop i)).length ∧ Rd wz w5.heap.size rb2 bb2 ((encs (T.drop i)).take ck) ∧ Keeps (fun q => q = rb2) w5 wz) (fun v77 _ => j - (intOf v77).toNat)
              case atStart => exact ⟨0, cut % m, rfl, by omega, by rw [List.drop_zero, HE.out.1, HE.out.2]; exact hml, by rw [List.drop_zero, HE.out.1]; exact G5.out.1, Keeps.refl _ _⟩
              case round =>
                obtain ⟨i, ck, rfl, hij, hck, hrd, hkz⟩ := hrel
                obtain ⟨wz, rfl⟩ : ∃ wz : World, wz = wr := ⟨_, rfl⟩
                have hlt : i < j := by
                  rcases Nat.lt_or_ge i j with h | h
                  · exact h
                  · rw [List.drop_eq_nil_of_le (by rw [HT.out.2]; exact h)] at hck
                    simp [encs] at hck
                have hrb2 : wc.heap.size ≤ rb2 := by have := G5.out.2.1; have := KC.out.2.2; omega
                have hkc : Keeps (fun q => q = rb ∨ q = rb2) wc wz := ((KC.out.1.weaken (fun _ _ e => .inl e)).then G5.out.2.2 (fun _ _ f => f.elim)).trans (hkz.weaken (fun _ _ e => .inr e))
                have hfr : ∀ q, q < wc.heap.size → ¬ (q = rb ∨ q = rb2) := fun q hq => by have := KC.out.2.1; omega
                obtain ⟨t, ht⟩ : ∃ t, T[i]? = some t := ⟨T[i]'(by rw [HT.out.2]; exact hlt), by simp [HT.out.2, hlt]⟩
                obtain ⟨p', c', he, _, _, hall, hce⟩ := HT.out.1
                simp only [Value.slice.injEq] at he
                obtain ⟨rfl, hnT, rfl⟩ := he
                clear hnT
                obtain ⟨b, o, rfl, hcells⟩ := hce (fun e => by rw [e] at ht; simp at ht)
                obtain ⟨q1, q2, q3⟩ := hcells i t ht
                have m1 := hkc.cell q1 (hfr _ (World.block_lt_of_cell? _ _ q1))
                have m2 := hkc.cell q2 (hfr _ (World.block_lt_of_cell? _ _ q2))
                have m3 := hkc.cell q3 (hfr _ (World.block_lt_of_cell? _ _ q3))
                have hok := hall t (List.mem_of_getElem? ht)
                have hd1 := encs_drop T i t ht
                have hsh := rd_short t wc hok.1 ck
                have hen := rd_enc t wc hok.1 ((encs (T.drop (i + 1))).take (ck - t.enc.length))
                have hel : t.enc.length ≤ ck → (encs (T.drop i)).take ck = t.enc ++ (encs (T.drop (i + 1))).take (ck - t.enc.length) := fun h => by rw [hd1, List.take_append, List.take_of_length_le h]
                have hes : ck < t.enc.length → (encs (T.drop i)).take ck = t.enc.take ck := fun h => by rw [hd1, List.take_append_of_le_length (by omega)]
                have hlen : (encs (T.drop i)).length = t.enc.length + (encs (T.drop (i + 1))).length := by rw [hd1, List.length_append]
                obtain ⟨what, tn, tv, tb⟩ := t
                simp only [] at m1 m2 m3
                have hsee : Sees wc tv tb := hok.1.1
                obtain ⟨p1, c1, rfl⟩ := hsee.shape'
                have hsw : ∀ w', Keeps (fun q => q = rb2) (wz.alloc (.cells #[.int .i64 what, .int .u64 tn, .slice p1 tb.length c1] 59)) w' → Sees w' (.slice p1 tb.length c1) tb :=
                  fun w' hk => hsee.fresh ((hkc.alloc _).trans (hk.weaken (fun _ _ e => .inr e))) hfr
                have hrA : Rd (wz.alloc (.cells #[.int .i64 what, .int .u64 tn, .slice p1 tb.length c1] 59)) w5.heap.size rb2 bb2 ((encs (T.drop i)).take ck) := hrd.keeps ((Keeps.refl (fun _ => False) wz).alloc _) (fun _ _ _ f => f)
                have C6 := Lib.hid (left_any _ _ _ _ _ hrA)
                have C := reads_any w5.heap.size rb2 bb2 _ ⟨what, tn, .slice p1 tb.length c1, tb⟩ (wz.alloc (.cells #[.int .i64 what, .int .u64 tn, .slice p1 tb.length c1] 59)) hrA ⟨hsw _ (Keeps.refl _ _), hok.1.2⟩ hsw
                unfold ReadsPost at C
                have hd : decide ((i : Int) < (j : Int)) = true := by simp; omega
                have F3 := Lib.hid hkz
                have KC2 := Lib.hid (And.intro hkc hrb2)
                generalize hL : (encs (T.drop i)).take ck = L at *
                generalize hxl : (Thing.enc ⟨what, tn, .slice p1 tb.length c1, tb⟩).length = xl at *
                by_cases hc : ck < xl
                · obtain ⟨ok, hrd2⟩ := hsh hc
                  rw [← hes hc] at hrd2
                  rw [hrd2] at C
                  unfold Thing.val at C
                  have CC := Lib.hid C
                  clear C hrd hkz hok hsee hall hce hcells ht hsw hkc hd1 hsh hen hel hes hlen q1 q2 q3 hfr hL hck hxl hc hrd2 hrA hrb2
                  go_wp2_with fail
                  refine C6.out.mono ?_
                  rintro e w6 ⟨rfl, rfl⟩
                  go_wp2_with fail
                  refine CC.out.mono ?_
                  rintro e w7 ⟨rfl, hr7, hk7⟩
                  have F7 := Lib.hid (And.intro hr7 hk7)
                  clear hr7 hk7
                  go_wp2_with fail
                  refine (awake_any _).mono ?_
                  rintro e w8 ⟨rfl, hk8⟩
                  have C9 := Lib.hid (left_any _ _ _ _ _ (F7.out.1.keeps hk8 (fun _ _ _ f => f)))
                  have F8 := Lib.hid hk8
                  clear hk8
                  go_wp2_with fail
                  refine C9.out.mono ?_
                  rintro e w9 ⟨rfl, rfl⟩
                  go_wp2_with fail
                  go_ret
                  refine ⟨by simp, ((((KC2.out.1.alloc _).trans (F7.out.2.weaken (fun _ _ e => .inr e))).then F8.out (fun _ _ f => f.elim)).weaken (fun q hq e => ?_))⟩
                  have := KC.out.2.1
                  have := KC2.out.2
                  omega
                · rw [hel (by omega), hen] at C
                  unfold Thing.val at C
                  have CC := Lib.hid C
                  have HX := Lib.hid (And.intro hlen hck)
                  clear C hrd hkz hok hsee hall hce hcells ht hsw hkc hd1 hsh hen hel hes hlen q1 q2 q3 hfr hL hck hxl hrA hrb2
                  go_wp2_with fail
                  refine C6.out.mono ?_
                  rintro e w6 ⟨rfl, rfl⟩
                  go_wp2_with fail
                  refine CC.out.mono ?_
                  rintro e w7 ⟨rfl, hr7, hk7⟩
                  have F7 := Lib.hid (And.intro hr7 ((F3.out.alloc _).trans hk7))
                  clear hr7 hk7
                  go_wp2_with fail
                  go_roundw
                  case rel => exact ⟨i + 1, ck - xl, by go_num, by omega, by have := HX.out; omega, F7.out.1, F7.out.2⟩
                  case measure => simp [intOf]; omega
end Go.Proofs.Ytplcnceacbpjhaa
