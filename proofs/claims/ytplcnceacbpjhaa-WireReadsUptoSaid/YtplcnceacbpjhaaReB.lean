/- DERIVED. The walk of WireReads. -/
import Derived.Test.YtplcnceacbpjhaaReA
import Derived.BigQuiet
namespace Go.Proofs.Ytplcnceacbpjhaa
open Go.RowKit

/-- the loop that turns the bytes of a slice of the call's own: the fact of one round -/
theorem ReIn.round {w wr : World} {B rb bb qb : Nat} {v : Value} {l : List UInt8} {p : Option Addr} {n c i : Nat} (h : ReIn w wr B rb bb qb v l (.slice p n c)) (hi : i < n) :
    ∃ g bt bt', p = some ⟨g, 0, none⟩ ∧ wr.cell? ⟨g, i, none⟩ = some (.int .u8 (bt : UInt8).toNat) ∧ wr.frozen? ⟨g, i, none⟩ = false ∧ bits .xor .u8 (bt.toNat : Int) 255 = ((bt' : UInt8).toNat : Int) ∧ ReIn w (wr.setCell ⟨g, i, none⟩ (u8 bt')) B rb bb qb v l (.slice p n c) := by
  rcases id h.2.1 with h' | ⟨g', n', cap', cur', h1, h2, h3, h4⟩
  · simp only [Value.slice.injEq] at h'; omega
  · simp only [Value.slice.injEq] at h1
    obtain ⟨rfl, rfl, rfl⟩ := h1
    obtain ⟨bt, hbt⟩ := h4 i hi
    obtain ⟨bt', hx⟩ := xor255 bt
    exact ⟨g', bt, bt', rfl, (cell_of_row wr g' i cur' _ (0, 0) h2).trans hbt, by simp [World.frozen?, h2], hx, h.set rfl i bt'⟩
theorem Bytey.len_le {w : World} {p : Option Addr} {n c : Nat} (h : Bytey w (.slice p n c)) : (n : Int) ≤ 9223372036854775807 := by
  rcases h with h | ⟨g, m, cap, cur, h1, h2, h3, h4⟩
  · simp only [Value.slice.injEq] at h; omega
  · simp only [Value.slice.injEq] at h1; unfold maxLen at h3; omega

set_option maxRecDepth 100000 in
set_option maxHeartbeats 4000000 in
theorem reads_any (vb vl : Value) (b : List UInt8) (cs : List RCall) (w : World) (hb : Sees w vb b) (hlb : b.length ≤ 100000000) (h : SeesCalls w vl cs) :
    Calls Try.prog 4 #[vb, vl] w fun e w' => e = .returned (.bool true) ∧ Old w w' := by
  obtain ⟨p, c, rfl, hc1, hc2, hall, hce⟩ := id h
  have C0 := Lib.hid (awake_any w)
  have S0 := Lib.hid (And.intro hb (And.intro hall hce))
  have hl : cs.length ≤ 9223372036854775807 := by unfold maxLen at hc2; omega
  clear h hb hall hce hc1 hc2
  go_enter Try.func4, Try.ntmps4
  go_wp2_with fail
  refine C0.out.mono ?_
  rintro e w0 ⟨rfl, hk0⟩
  have H0 := Lib.hid hk0
  have C1 := Lib.hid (own_any vb b w0 (S0.out.1.old hk0) (by omega))
  clear hk0 C0
  go_wp2_with fail
  refine C1.out.mono ?_
  rintro e w1 ⟨p1, n1, c1, rfl, ho1, hk1⟩
  have H1 := Lib.hid (And.intro ho1 (And.intro (H0.out.trans hk1) H0.out.size))
  have C2 := Lib.hid (new_any _ b w1 ho1.sees (by omega))
  clear ho1 hk1 H0 C1
  go_wp2_with fail
  refine C2.out.mono ?_
  rintro e w2 ⟨rb, bb, rfl, hr2, hrb, hbb, hk2⟩
  have C3 := Lib.hid (own_any vb b w2 (S0.out.1.old (H1.out.2.1.trans hk2)) (by omega))
  have H2 := Lib.hid (And.intro hr2 (And.intro hrb (And.intro hbb hk2)))
  clear hr2 hrb hbb hk2 C2
  go_wp2_with fail
  refine C3.out.mono ?_
  rintro e w3 ⟨p3, n3, c3, rfl, ho3, hk3⟩
  have hq3 : Qd (w3.alloc (.cells #[.slice p3 n3 c3] 37 (0, 0))) w3.heap.size (.slice p3 n3 c3) b :=
    ⟨heap_alloc_new _ _, ho3.sees.alloc _, by omega, fun k hk => by have := (ho3.block k hk).2; simp; omega⟩
  have ha3 : Old w2 (w3.alloc (.cells #[.slice p3 n3 c3] 37 (0, 0))) := hk3.alloc _
  have hs1 := H1.out.2.1.size
  have R3 : ReIn w (w3.alloc (.cells #[.slice p3 n3 c3] 37 (0, 0))) w2.heap.size rb bb w3.heap.size (.slice p3 n3 c3) b (.slice p1 n1 c1) := by
    obtain ⟨hr2, hrb, hbb, hk2⟩ := H2.out
    have hs2 := hk2.size
    have hs3 := hk3.size
    refine ⟨⟨hr2.keepsB ha3 (fun _ f => f) (fun _ f => f), hq3, hk3.size, hr2.rb_lt, fun k hk => by have := (ho3.block k hk).1; have := hr2.rb_lt; omega, by omega, ((H1.out.2.1.trans hk2).trans ha3).weaken (fun _ _ f => f.elim)⟩, (H1.out.1.old (hk2.trans ha3)).bytey, fun g hg => ?_⟩
    have hg1 := H1.out.1.block g hg
    have := H1.out.2.2
    exact ⟨by omega, by omega, fun _ => by omega, by omega, fun e => by have := (ho3.block g e).1; omega⟩
  have hn1 := R3.2.1.len_le
  have HR := Lib.hid R3
  clear hq3 ha3 R3 ho3 hk3 hs1 H2 C3 H1
  go_wp2_with fail
  generalize w3.heap.size = qb at *
  generalize w2.heap.size = B at *
  go_loopw [36] (fun v36 wr => ∃ k : Nat, k ≤ n1 ∧ v36 = .int .i64 k ∧ ReIn w wr B rb bb qb (.slice p3 n3 c3) b (.slice p1 n1 c1)) (fun v36 _ => n1 - (intOf v36).toNat)
  case atStart => exact ⟨0, by omega, rfl, HR.out⟩
  case round =>
    obtain ⟨k, hk, rfl, hR⟩ := hrel
    clear HR
    by_cases hlt : k < n1
    · obtain ⟨g, bt, bt', rfl, m1, m2, m3, m4⟩ := hR.round hlt
      have HR := Lib.hid m4
      clear m4 hR
      go_wp2_with fail
      go_roundw
      case rel => exact ⟨k + 1, by omega, by go_num, HR.out⟩
      case measure => simp [intOf]; omega
    · obtain rfl : k = n1 := by omega
      obtain ⟨wa, rfl⟩ : ∃ wa : World, wa = wr := ⟨_, rfl⟩
      have HR := Lib.hid hR.1
      clear hR hlt hk hn1
      go_wp2_with fail
      go_loopw [48] (fun v48 wr => ∃ k : Nat, k ≤ cs.length ∧ k ≤ 200 ∧ v48 = .int .i64 k ∧ ∃ v l, ReRel w wr B rb bb qb v l) (fun v48 _ => 200 - (intOf v48).toNat)
      case atStart => exact ⟨0, by omega, by omega, rfl, _, _, HR.out⟩
      case round =>
        obtain ⟨k, hk, hk2, rfl, v, l, hR⟩ := hrel
        clear HR
        obtain ⟨wo, rfl⟩ : ∃ wo : World, wo = wr := ⟨_, rfl⟩
        by_cases hlt : k < cs.length
        · obtain ⟨t, ht⟩ : ∃ t, cs[k]? = some t := ⟨cs[k]'hlt, by simp [hlt]⟩
          obtain ⟨b0, o, rfl, hcells⟩ := S0.out.2.2 (fun e => by rw [e] at ht; simp at ht)
          obtain ⟨q1, q2, q3⟩ := hcells k t ht
          have hok := S0.out.2.1 t (List.mem_of_getElem? ht)
          obtain ⟨what, lim, most⟩ := t
          simp only [] at q1 q2 q3 hok
          have hfr : ∀ q, q < w.heap.size → ¬ w.heap.size ≤ q := fun q hq => by omega
          have hkc := hR.2.2.2.2.2.2
          have m1 := hkc.cell q1 (hfr _ (World.block_lt_of_cell? _ _ q1))
          have m2 := hkc.cell q2 (hfr _ (World.block_lt_of_cell? _ _ q2))
          have m3 := hkc.cell q3 (hfr _ (World.block_lt_of_cell? _ _ q3))
          by_cases h200 : k = 200
          · subst h200
            have HR := Lib.hid hR
            clear hR hkc hok hfr hcells q1 q2 q3 ht
            have hd : (((200 : Nat) : Int) == 200) = true := rfl
            go_wp2_with fail
            go_ret
            exact ⟨rfl, (HR.out.old ((Keeps.refl (fun _ => False) _).alloc _)).oldw⟩
          · have hd : ((k : Int) == 200) = false := by simp; omega
            have hA : Old wo (wo.alloc (.cells #[.int .i64 what, .int .i64 lim, .int .u64 most] 39)) := (Keeps.refl _ _).alloc _
            have hbox : (wo.alloc (.cells #[.int .i64 what, .int .i64 lim, .int .u64 most] 39)).heap[wo.heap.size]? = some (.cells #[.int .i64 what, .int .i64 lim, .int .u64 most] 39 (0, 0)) := heap_alloc_new _ _
            have hrbw : rb < wo.heap.size := hR.1.rb_lt
            have hll := hR.2.1.2.2.1
            have hRA := hR.rd hA
            have HR := Lib.hid hR
            have HA := Lib.hid hA
            have HK := Lib.hid (And.intro hok (And.intro hRA (And.intro hrbw hbox)))
            have h200' : k < 200 := by omega
            clear hcells q1 q2 q3 hfr hkc hR hA hok ht hRA hrbw hbox h200
            by_cases w0 : what = 0
            · subst w0
              have C1 := Lib.hid (rnum_any B rb bb l most _ HK.out.2.1 HK.out.1.1)
              go_wp2_with fail
              refine C1.out.mono ?_
              rintro e wb ⟨rfl, hr1, hk1⟩
              have m4 : wb.cell? ⟨wo.heap.size, 2, none⟩ = some (.int .u64 most) := by simp [World.cell?, (hk1.block wo.heap.size (lt_of_block HK.out.2.2.2) (by have := HK.out.2.2.1; omega)).trans HK.out.2.2.2]
              have C2 := Lib.hid (qnum_any qb v l most wb (HR.out.qd HA.out hk1) HK.out.1.1)
              have K1 := Lib.hid (And.intro hr1 hk1)
              clear hr1 hk1 C1
              go_wp2_with fail
              refine C2.out.mono ?_
              rintro e wz ⟨rfl, vz, hq2, hv2, hkz⟩
              have RZ := Lib.hid (HR.out.step HA.out K1.out.1 K1.out.2 hq2 hv2 hkz)
              clear hq2 hv2 hkz C2 K1 HR HA HK
              generalize (readNum l most).1 = a1 at *
              generalize (readNum l most).2.1 = a2 at *
              generalize (readNum l most).2.2 = LL at *
              go_wp2_with fail
              obtain ⟨pz, cz, rfl, _, _⟩ := RZ.out.2.1.2.1.len
              have z1 : wz.cell? ⟨qb, 0, none⟩ = some (.slice pz LL.length cz) := cell_of_one RZ.out.2.1.1
              have L1 := Lib.hid (fun n => (left_any _ rb bb LL (wz.drewN n) (RZ.out.1.drew n)).mono (fun _ _ h => And.intro h.1 h.2.symm))
              have L2 := Lib.hid (fun n => (end_any _ rb bb LL (wz.drewN n) (RZ.out.1.drew n)).mono (fun _ _ h => And.intro h.1 h.2.symm))
              by_cases he : LL = []
              · subst he
                go_quiet (first | (go_at_call 24; refine Calls.quiet_of_same (L1.out _)) | (go_at_call 25; refine Calls.quiet_of_same (L2.out _)))
                go_wp2_with fail
                go_roundw
                case rel => exact ⟨k + 1, by omega, by omega, by go_num, _, _, RZ.out.drew _⟩
                case measure => simp [intOf]; omega
              · have hp : 0 < LL.length := List.length_pos_iff.2 he
                have hp0 : ((LL.length : Int) == 0) = false := by simp; exact he
                simp only [he, if_false] at L2
                go_quiet (first | (go_at_call 24; refine Calls.quiet_of_same (L1.out _)) | (go_at_call 25; refine Calls.quiet_of_same (L2.out _)))
                go_wp2_with fail
                go_roundw
                case rel => exact ⟨k + 1, by omega, by omega, by go_num, _, _, RZ.out.drew _⟩
                case measure => simp [intOf]; omega
            · by_cases w1 : what = 1
              · subst w1
                have C1 := Lib.hid (rint_any B rb bb l _ HK.out.2.1)
                go_wp2_with fail
                refine C1.out.mono ?_
                rintro e wb ⟨rfl, hr1, hk1⟩
                have C2 := Lib.hid (qint_any qb v l wb (HR.out.qd HA.out hk1))
                have K1 := Lib.hid (And.intro hr1 hk1)
                clear hr1 hk1 C1
                go_wp2_with fail
                refine C2.out.mono ?_
                rintro e wz ⟨rfl, vz, hq2, hv2, hkz⟩
                have RZ := Lib.hid (HR.out.step HA.out K1.out.1 K1.out.2 hq2 hv2 hkz)
                clear hq2 hv2 hkz C2 K1 HR HA HK
                generalize (readInt l).1 = a1 at *
                generalize (readInt l).2.1 = a2 at *
                generalize (readInt l).2.2 = LL at *
                go_wp2_with fail
                obtain ⟨pz, cz, rfl, _, _⟩ := RZ.out.2.1.2.1.len
                have z1 : wz.cell? ⟨qb, 0, none⟩ = some (.slice pz LL.length cz) := cell_of_one RZ.out.2.1.1
                have L1 := Lib.hid (fun n => (left_any _ rb bb LL (wz.drewN n) (RZ.out.1.drew n)).mono (fun _ _ h => And.intro h.1 h.2.symm))
                have L2 := Lib.hid (fun n => (end_any _ rb bb LL (wz.drewN n) (RZ.out.1.drew n)).mono (fun _ _ h => And.intro h.1 h.2.symm))
                by_cases he : LL = []
                · subst he
                  go_quiet (first | (go_at_call 24; refine Calls.quiet_of_same (L1.out _)) | (go_at_call 25; refine Calls.quiet_of_same (L2.out _)))
                  go_wp2_with fail
                  go_roundw
                  case rel => exact ⟨k + 1, by omega, by omega, by go_num, _, _, RZ.out.drew _⟩
                  case measure => simp [intOf]; omega
                · have hp : 0 < LL.length := List.length_pos_iff.2 he
                  have hp0 : ((LL.length : Int) == 0) = false := by simp; exact he
                  simp only [he, if_false] at L2
                  go_quiet (first | (go_at_call 24; refine Calls.quiet_of_same (L1.out _)) | (go_at_call 25; refine Calls.quiet_of_same (L2.out _)))
                  go_wp2_with fail
                  go_roundw
                  case rel => exact ⟨k + 1, by omega, by omega, by go_num, _, _, RZ.out.drew _⟩
                  case measure => simp [intOf]; omega
              · by_cases w2 : what = 2
                · subst w2
                  have C1 := Lib.hid (rbytes_any B rb bb l lim _ HK.out.2.1 HK.out.1.2)
                  go_wp2_with fail
                  refine C1.out.mono ?_
                  rintro e wb ⟨px, nx, cx, rfl, hx1, hr1, hk1⟩
                  have m4 : wb.cell? ⟨wo.heap.size, 1, none⟩ = some (.int .i64 lim) := by simp [World.cell?, (hk1.block wo.heap.size (lt_of_block HK.out.2.2.2) (by have := HK.out.2.2.1; omega)).trans HK.out.2.2.2]
                  have C2 := Lib.hid (qbytes_any qb v l lim wb (HR.out.qd HA.out hk1) HK.out.1.2)
                  have K1 := Lib.hid (And.intro hx1 (And.intro hr1 hk1))
                  clear hx1 hr1 hk1 C1
                  go_wp2_with fail
                  refine C2.out.mono ?_
                  rintro e wz ⟨py, ny, cy, rfl, hy, vz, hq2, hv2, hkz⟩
                  have hqb := lt_of_block HR.out.2.1.1
                  have hBs := HR.out.1.1
                  have hws := HR.out.2.2.2.2.2.2.size
                  have hrbs := HK.out.2.2.1
                  have hblk := K1.out.1.block
                  rw [show (wo.alloc (.cells #[.int .i64 2, .int .i64 lim, .int .u64 most] 39)).heap.size = wo.heap.size + 1 from by simp] at hblk
                  have hxz := K1.out.1.keeps hkz (fun g hg => by have := (hblk g hg).1; show ¬ g = qb; omega)
                  have E := Lib.hid (by have E := equal_any _ _ (readBytes l lim).1 (readBytes l lim).1 wz hxz.sees hy.sees; rw [beq_self_eq_true] at E; exact E)
                  have RI : ReIn w wz B rb bb qb vz (readBytes l lim).2.2 (.slice px nx cx) := ⟨HR.out.step HA.out K1.out.2.1 K1.out.2.2 hq2 hv2 hkz, hxz.bytey, fun g hg => by
                    have h1 := hblk g hg
                    refine ⟨by omega, by omega, fun _ => by omega, by omega, fun e => ?_⟩
                    rcases hv2 g e with h | h
                    · have := (HR.out.2.1.2.2.2 g h).2; omega
                    · omega⟩
                  have hnx := RI.2.1.len_le
                  have RZ := Lib.hid RI
                  clear hq2 hv2 hkz C2 K1 HR HA HK RI hblk hxz hy hqb hBs hws hrbs
                  generalize (readBytes l lim).1 = a1 at *
                  generalize (readBytes l lim).2.1 = a2 at *
                  generalize (readBytes l lim).2.2 = LL at *
                  go_wp2_with fail
                  refine E.out.mono ?_
                  clear E
                  rintro e y ⟨rfl, rfl⟩
                  go_wp2_with fail
                  go_loopw [23, 128] (fun _ v128 wi => ∃ i : Nat, i ≤ nx ∧ v128 = .int .i64 i ∧ ReIn w wi B rb bb qb vz LL (.slice px nx cx)) (fun _ v128 _ => nx - (intOf v128).toNat)
                  case atStart => exact ⟨0, by omega, rfl, RZ.out⟩
                  case round =>
                    obtain ⟨i, hi, rfl, hRi⟩ := hrel
                    clear RZ
                    by_cases hil : i < nx
                    · obtain ⟨g, bt, bt', rfl, x1, x2, x3, x4⟩ := hRi.round hil
                      have HI := Lib.hid x4
                      clear x4 hRi
                      go_wp2_with fail
                      go_roundw
                      case rel => exact ⟨i + 1, by omega, by go_num, HI.out⟩
                      case measure => simp [intOf]; omega
                    · obtain rfl : i = nx := by omega
                      obtain ⟨wz, rfl⟩ : ∃ wz : World, wz = wr := ⟨_, rfl⟩
                      have RZ := Lib.hid hRi.1
                      clear hRi hil hi hnx
                      go_wp2_with fail
                      obtain ⟨pz, cz, rfl, _, _⟩ := RZ.out.2.1.2.1.len
                      have z1 : wz.cell? ⟨qb, 0, none⟩ = some (.slice pz LL.length cz) := cell_of_one RZ.out.2.1.1
                      have L1 := Lib.hid (fun n => (left_any _ rb bb LL (wz.drewN n) (RZ.out.1.drew n)).mono (fun _ _ h => And.intro h.1 h.2.symm))
                      have L2 := Lib.hid (fun n => (end_any _ rb bb LL (wz.drewN n) (RZ.out.1.drew n)).mono (fun _ _ h => And.intro h.1 h.2.symm))
                      by_cases he : LL = []
                      · subst he
                        go_quiet (first | (go_at_call 24; refine Calls.quiet_of_same (L1.out _)) | (go_at_call 25; refine Calls.quiet_of_same (L2.out _)))
                        go_wp2_with fail
                        go_roundw
                        case rel => exact ⟨k + 1, by omega, by omega, by go_num, _, _, RZ.out.drew _⟩
                        case measure => simp [intOf]; omega
                      · have hp : 0 < LL.length := List.length_pos_iff.2 he
                        have hp0 : ((LL.length : Int) == 0) = false := by simp; exact he
                        simp only [he, if_false] at L2
                        go_quiet (first | (go_at_call 24; refine Calls.quiet_of_same (L1.out _)) | (go_at_call 25; refine Calls.quiet_of_same (L2.out _)))
                        go_wp2_with fail
                        go_roundw
                        case rel => exact ⟨k + 1, by omega, by omega, by go_num, _, _, RZ.out.drew _⟩
                        case measure => simp [intOf]; omega
                · have t0 : ((what : Int) == 0) = false := by simp; omega
                  have t1 : ((what : Int) == 1) = false := by simp; omega
                  have t2 : ((what : Int) == 2) = false := by simp; omega
                  have RZ0 := Lib.hid (HR.out.old HA.out)
                  clear HR HA HK w0 w1 w2
                  go_wp2_with fail
                  obtain ⟨LL, rfl⟩ : ∃ LL, LL = l := ⟨_, rfl⟩
                  have RZ := RZ0
                  generalize (wo.alloc (.cells #[.int .i64 what, .int .i64 lim, .int .u64 most] 39)) = wz at *
                  obtain ⟨pz, cz, rfl, _, _⟩ := RZ.out.2.1.2.1.len
                  have z1 : wz.cell? ⟨qb, 0, none⟩ = some (.slice pz LL.length cz) := cell_of_one RZ.out.2.1.1
                  have L1 := Lib.hid (fun n => (left_any _ rb bb LL (wz.drewN n) (RZ.out.1.drew n)).mono (fun _ _ h => And.intro h.1 h.2.symm))
                  have L2 := Lib.hid (fun n => (end_any _ rb bb LL (wz.drewN n) (RZ.out.1.drew n)).mono (fun _ _ h => And.intro h.1 h.2.symm))
                  by_cases he : LL = []
                  · subst he
                    go_quiet (first | (go_at_call 24; refine Calls.quiet_of_same (L1.out _)) | (go_at_call 25; refine Calls.quiet_of_same (L2.out _)))
                    go_wp2_with fail
                    go_roundw
                    case rel => exact ⟨k + 1, by omega, by omega, by go_num, _, _, RZ.out.drew _⟩
                    case measure => simp [intOf]; omega
                  · have hp : 0 < LL.length := List.length_pos_iff.2 he
                    have hp0 : ((LL.length : Int) == 0) = false := by simp; exact he
                    simp only [he, if_false] at L2
                    go_quiet (first | (go_at_call 24; refine Calls.quiet_of_same (L1.out _)) | (go_at_call 25; refine Calls.quiet_of_same (L2.out _)))
                    go_wp2_with fail
                    go_roundw
                    case rel => exact ⟨k + 1, by omega, by omega, by go_num, _, _, RZ.out.drew _⟩
                    case measure => simp [intOf]; omega
        · have HR := Lib.hid hR
          have hd : ¬ (k : Int) < (cs.length : Int) := by omega
          clear hR
          go_wp2_with fail
          go_ret
          exact ⟨rfl, HR.out.oldw⟩
end Go.Proofs.Ytplcnceacbpjhaa
