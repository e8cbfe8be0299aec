/- DERIVED. The walk of WireLays. -/
import Derived.Test.YtplcnceacbpjhaaAw
namespace Go.Proofs.Ytplcnceacbpjhaa
open Go.RowKit

theorem Sees.fresh {S : Nat → Prop} {w w' : World} {v : Value} {l : List UInt8} (h : Sees w v l) (hk : Keeps S w w') (hS : ∀ k, k < w.heap.size → ¬ S k) : Sees w' v l := by
  have ho : Old w w' := ⟨hk.os, hk.tape, hk.output, hk.size, fun k hk' _ => hk.block k hk' (hS k hk')⟩
  exact h.old ho

/-- a slice of bytes of the call's own, whatever they are: they may be written -/
def Bytey (w : World) (v : Value) : Prop :=
  v = .slice none 0 0 ∨ ∃ g n cap cur, v = .slice (some ⟨g, 0, none⟩) n cap ∧ w.heap[g]? = some (.cells cur 5 (0, 0)) ∧ n ≤ maxLen ∧ ∀ j, j < n → ∃ b : UInt8, cur[j]? = some (u8 b)
theorem Owns.bytey {w : World} {B : Nat} {v : Value} {l : List UInt8} (h : Owns w B v l) : Bytey w v := by
  have hm := h.le_max
  obtain ⟨h1, h2⟩ := h
  rcases h2 with ⟨rfl, h0⟩ | ⟨g, cap, cur, rfl, hb, hgg, hn, hmx, hs, ht⟩
  · left; rfl
  · refine .inr ⟨g, _, cap, cur, rfl, hgg, hm, fun j hj => ⟨l[j], ?_⟩⟩
    have : (cur.toList.take (l.length * 1))[j]? = (l.map u8)[j]? := by rw [ht]
    rw [List.getElem?_take, if_pos (by omega)] at this
    simpa [hj] using this
theorem Bytey.keeps {S : Nat → Prop} {w w' : World} {v : Value} (h : Bytey w v) (hk : Keeps S w w') (hS : ∀ k, k < w.heap.size → ¬ S k) : Bytey w' v := by
  rcases h with h | ⟨g, n, cap, cur, h1, h2, h3, h4⟩
  · exact .inl h
  · exact .inr ⟨g, n, cap, cur, h1, (hk.block g (lt_of_block h2) (hS g (lt_of_block h2))).trans h2, h3, h4⟩
theorem Bytey.set {w : World} {v : Value} (h : Bytey w v) (g j : Nat) (b : UInt8) : Bytey (w.setCell ⟨g, j, none⟩ (u8 b)) v := by
  rcases h with h | ⟨g', n, cap, cur, h1, h2, h3, h4⟩
  · exact .inl h
  · by_cases e : g' = g
    · subst e
      refine .inr ⟨g', n, cap, _, h1, heap_setCell_same w g' j cur _ (u8 b) h2, h3, fun i hi => ?_⟩
      obtain ⟨b', hb'⟩ := h4 i hi
      by_cases e : j = i
      · subst e
        exact ⟨b, by have := (Array.getElem?_eq_some_iff.1 hb').1; simp [this]⟩
      · exact ⟨b', by simp [e, hb']⟩
    · exact .inr ⟨g', n, cap, cur, h1, (heap_setCell_other w ⟨g, j, none⟩ g' _ e).trans h2, h3, h4⟩
theorem xor255 (b : UInt8) : ∃ b' : UInt8, bits .xor .u8 (b.toNat : Int) 255 = (b'.toNat : Int) := by
  have h : ∀ x : Fin 256, bits .xor .u8 (x.val : Int) 255 = ((255 - x.val : Nat) : Int) := by decide +kernel
  refine ⟨UInt8.ofNat (255 - b.toNat), ?_⟩
  rw [h ⟨b.toNat, b.toNat_lt⟩, UInt8.toNat_ofNat']
  have := b.toNat_lt
  simp
  omega
theorem wrap64_rng (n : Int) : -9223372036854775808 ≤ wrap64 n ∧ wrap64 n ≤ 9223372036854775807 := by unfold wrap64; omega

/-- what holds at each head of the loops that turn the bytes -/
def LaysRel (w2 : World) (B3 : Nat) (L : List Value) (wr : World) : Prop :=
  Keeps (fun k => w2.heap.size ≤ k) w2 wr ∧ wr.heap[B3]? = some (.cells L.toArray 22 (0, 0)) ∧ ∀ v ∈ L, Bytey wr v
theorem LaysRel.set {w2 wr : World} {B3 : Nat} {L : List Value} (h : LaysRel w2 B3 L wr) {g : Nat} (hg : w2.heap.size ≤ g ∧ g < B3) (j : Nat) (b : UInt8) : LaysRel w2 B3 L (wr.setCell ⟨g, j, none⟩ (u8 b)) :=
  ⟨h.1.setCell (fun _ => hg.1) _, (heap_setCell_other _ _ _ _ (by simp; omega)).trans h.2.1, fun v hv => (h.2.2 v hv).set g j b⟩

set_option maxRecDepth 100000 in
set_option maxHeartbeats 4000000 in
theorem lays_any (vb vs : Value) (b s : List UInt8) (n : Nat) (w : World) (hb : Sees w vb b) (hs : Sees w vs s) (hn : n < 18446744073709551616) (hlb : b.length ≤ 100000000) (hls : s.length ≤ 100000000) :
    Calls Try.prog 3 #[vb, .int .u64 n, vs] w fun e w' => e = .returned (.bool true) ∧ Old w w' := by
  have hz := wrap64_rng n
  have HN := Lib.hid (And.intro hn hz)
  have C1 := Lib.hid (own_any vb b w hb (by omega))
  have S0 := Lib.hid (And.intro hb hs)
  clear hn hz hb hs
  go_enter Try.func3, Try.ntmps3
  go_wp2_with fail
  refine C1.out.mono ?_
  rintro e w1 ⟨p1, n1, c1, rfl, ho1, hk1⟩
  have C2 := Lib.hid (own_any vs s w1 (S0.out.2.old hk1) (by omega))
  have H1 := Lib.hid (And.intro ho1 hk1)
  clear ho1 hk1
  go_wp2_with fail
  refine C2.out.mono ?_
  rintro e w2 ⟨p2, n2, c2, rfl, ho2, hk2⟩
  have K2 := Lib.hid (And.intro (H1.out.1.old hk2) (And.intro ho2 (H1.out.2.trans hk2)))
  have B2 := Lib.hid (And.intro H1.out.1.block (And.intro ho2.block hk2.size))
  clear ho2 hk2 H1 C1 C2
  have C3 := Lib.hid (num_any _ b n w2 K2.out.1.sees (by omega) HN.out.1)
  go_wp2_with fail
  refine C3.out.mono ?_
  rintro e w3 ⟨p3, n3, c3, rfl, ho3, hk3⟩
  have H3 := Lib.hid (And.intro ho3 hk3)
  have C4 := Lib.hid (int_any _ b (wrap64 n) w3 (K2.out.1.sees.old hk3) (by omega) HN.out.2)
  clear ho3 hk3 C3
  go_wp2_with fail
  refine C4.out.mono ?_
  rintro e w4 ⟨p4, n4, c4, rfl, ho4, hk4⟩
  have H4 := Lib.hid (And.intro (H3.out.1.old hk4) (And.intro (ho4.mono H3.out.2.size) (H3.out.2.trans hk4)))
  clear ho4 hk4 C4 H3
  have C5 := Lib.hid (bytes_any _ _ b s w4 (K2.out.1.sees.old H4.out.2.2) (K2.out.2.1.sees.old H4.out.2.2) (by omega) (by omega))
  go_wp2_with fail
  refine C5.out.mono ?_
  rintro e w5 ⟨p5, n5, c5, rfl, ho5, hk5⟩
  have H5 := Lib.hid (And.intro (H4.out.1.old hk5) (And.intro (H4.out.2.1.old hk5) (And.intro (ho5.mono H4.out.2.2.size) (H4.out.2.2.trans hk5))))
  clear ho5 hk5 C5 H4
  go_wp2_with fail
  have D1 := Lib.hid (ref_num_any _ b n w5 (S0.out.1.old (K2.out.2.2.trans H5.out.2.2.2)) (by omega) HN.out.1)
  refine D1.out.mono ?_
  rintro e x1 ⟨q1, m1, d1, rfl, hq1, hx1⟩
  have E1 := Lib.hid (equal_any _ _ _ _ _ (H5.out.1.sees.old hx1) hq1.sees)
  have X1 := Lib.hid (hx1)
  clear hq1 hx1 D1
  go_wp2_with fail
  have E := E1.out
  rw [beq_self_eq_true] at E
  refine E.mono ?_
  clear E
  rintro e y1 ⟨rfl, rfl⟩
  clear E1
  go_wp2_with fail
  have D2 := Lib.hid (ref_int_any _ b (wrap64 n) _ (S0.out.1.old ((K2.out.2.2.trans H5.out.2.2.2).trans X1.out)) (by omega) HN.out.2)
  refine D2.out.mono ?_
  rintro e x2 ⟨q2, m2, d2, rfl, hq2, hx2⟩
  have E2 := Lib.hid (equal_any _ _ _ _ _ (H5.out.2.1.sees.old (X1.out.trans hx2)) hq2.sees)
  have X2 := Lib.hid (X1.out.trans hx2)
  clear hq2 hx2 D2
  go_wp2_with fail
  have E := E2.out
  rw [beq_self_eq_true] at E
  refine E.mono ?_
  clear E
  rintro e y2 ⟨rfl, rfl⟩
  clear E2
  go_wp2_with fail
  have D3 := Lib.hid (ref_bytes_any _ _ b s _ (S0.out.1.old ((K2.out.2.2.trans H5.out.2.2.2).trans X2.out)) (S0.out.2.old ((K2.out.2.2.trans H5.out.2.2.2).trans X2.out)) (by omega) (by omega))
  refine D3.out.mono ?_
  rintro e x3 ⟨q3, m3, d3, rfl, hq3, hx3⟩
  have E3 := Lib.hid (equal_any _ _ _ _ _ (H5.out.2.2.1.sees.old (X2.out.trans hx3)) hq3.sees)
  have X3 := Lib.hid (X2.out.trans hx3)
  clear hq3 hx3 D3
  go_wp2_with fail
  have E := E3.out
  rw [beq_self_eq_true] at E
  refine E.mono ?_
  clear E
  rintro e y3 ⟨rfl, rfl⟩
  clear E3
  go_wp2_with fail
  have hx3 : w5.heap.size ≤ x3.heap.size := X3.out.size
  have hsz5 := H5.out.2.2.2.size
  have hL : ∀ v ∈ [Value.slice p3 n3 c3, Value.slice p4 n4 c4, Value.slice p5 n5 c5], ∀ k, v.ownBlock = some k → w2.heap.size ≤ k ∧ k < x3.heap.size := by
    intro v hv k hk
    simp only [List.mem_cons, List.not_mem_nil, or_false] at hv
    rcases hv with rfl | rfl | rfl
    · have := H5.out.1.block k hk; omega
    · have := H5.out.2.1.block k hk; omega
    · have := H5.out.2.2.1.block k hk; omega
  have R0 : LaysRel w2 x3.heap.size [Value.slice p3 n3 c3, Value.slice p4 n4 c4, Value.slice p5 n5 c5] (x3.alloc (.cells #[Value.slice p3 n3 c3, Value.slice p4 n4 c4, Value.slice p5 n5 c5] 22)) := by
    refine ⟨(((H5.out.2.2.2.trans X3.out).alloc _).weaken (fun _ _ f => f.elim)), heap_alloc_new _ _, ?_⟩
    intro v hv
    simp only [List.mem_cons, List.not_mem_nil, or_false] at hv
    have hk : Old w5 (x3.alloc (.cells #[Value.slice p3 n3 c3, Value.slice p4 n4 c4, Value.slice p5 n5 c5] 22)) := X3.out.alloc _
    rcases hv with rfl | rfl | rfl
    · exact (H5.out.1.old hk).bytey
    · exact (H5.out.2.1.old hk).bytey
    · exact (H5.out.2.2.1.old hk).bytey
  have HL := Lib.hid hL
  have HR := Lib.hid R0
  have hB : w2.heap.size ≤ x3.heap.size := by omega
  clear hL R0 hx3 hsz5 X1 X2 X3 H5
  generalize x3.heap.size = B3 at *
  generalize hXL : [Value.slice p3 n3 c3, Value.slice p4 n4 c4, Value.slice p5 n5 c5] = XL at *
  have XLL := Lib.hid hXL
  clear hXL
  go_loopw [55] (fun v55 wr => ∃ k : Nat, k ≤ 3 ∧ v55 = .int .i64 k ∧ LaysRel w2 B3 XL wr) (fun v55 _ => 3 - (intOf v55).toNat)
  case atStart => exact ⟨0, by omega, rfl, HR.out⟩
  case round =>
    obtain ⟨k, hk, rfl, hR⟩ := hrel
    obtain ⟨wo, rfl⟩ : ∃ wo : World, wo = wr := ⟨_, rfl⟩
    clear HR
    by_cases hlt : k < 3
    · have hlen : XL.length = 3 := by rw [← XLL.out]; rfl
      obtain ⟨lv, hlv⟩ : ∃ lv, XL[k]? = some lv := ⟨XL[k]'(by omega), by simp [hlen, hlt]⟩
      have hmem : lv ∈ XL := List.mem_of_getElem? hlv
      have hcell : wo.cell? ⟨B3, k, none⟩ = some lv := by simp [World.cell?, hR.2.1, hlv]
      have HLB := Lib.hid (HL.out lv hmem)
      have HRR := Lib.hid hR
      have HM := Lib.hid hmem
      rcases hR.2.2 lv hmem with rfl | ⟨g, m, cap, cur, rfl, hg, hm, hcur⟩
      · clear hR hlv hlen hmem
        have hd : decide ((k : Int) < 3) = true := by simp; omega
        go_wp2_with fail
        go_loopw [15, 61] (fun _ v61 wi => v61 = .int .i64 0 ∧ LaysRel w2 B3 XL wi) (fun _ _ _ => 0)
        case atStart => exact ⟨rfl, HRR.out⟩
        case round =>
          obtain ⟨rfl, hRi⟩ := hrel
          have HRi := Lib.hid hRi
          clear hRi
          go_wp2_with fail
          go_roundw
          case rel => exact ⟨k + 1, by omega, by go_num, HRi.out⟩
          case measure => simp [intOf]; omega
      · clear hR hlv hlen hmem hcur hg
        have hd : decide ((k : Int) < 3) = true := by simp; omega
        have hmm : (m : Int) ≤ 9223372036854775807 := by unfold maxLen at hm; omega
        clear hm
        go_wp2_with fail
        go_loopw [15, 61] (fun _ v61 wi => ∃ i : Nat, i ≤ m ∧ v61 = .int .i64 i ∧ LaysRel w2 B3 XL wi) (fun _ v61 _ => m - (intOf v61).toNat)
        case atStart => exact ⟨0, by omega, rfl, HRR.out⟩
        case round =>
          obtain ⟨i, hi, rfl, hRi⟩ := hrel
          have HRi := Lib.hid hRi
          by_cases hil : i < m
          · rcases hRi.2.2 _ HM.out with h | ⟨g', n', cap', cur', h1, h2, h3, h4⟩
            · cases h
            · simp only [Value.slice.injEq, Option.some.injEq, Addr.mk.injEq, and_true] at h1
              obtain ⟨rfl, rfl, rfl⟩ := h1
              obtain ⟨bt, hbt⟩ := h4 i hil
              obtain ⟨bt', hx⟩ := xor255 bt
              have hc : wr.cell? ⟨g, i, none⟩ = some (.int .u8 bt.toNat) := (cell_of_row wr g i cur' _ (0, 0) h2).trans hbt
              have hf : wr.frozen? ⟨g, i, none⟩ = false := by simp [World.frozen?, h2]
              clear hRi h2 h3 h4 hbt
              go_wp2_with fail
              go_roundw
              case rel => exact ⟨i + 1, by omega, by go_num, HRi.out.set (HLB.out g rfl) i bt'⟩
              case measure => simp [intOf]; omega
          · clear hRi
            go_wp2_with fail
            go_roundw
            case rel => exact ⟨k + 1, by omega, by go_num, HRi.out⟩
            case measure => simp [intOf]; omega
    · have hd : ¬ (k : Int) < 3 := by omega
      have HRR := Lib.hid hR
      clear hR
      have s1 : Sees wo (.slice p1 n1 c1) b := K2.out.1.sees.keeps HRR.out.1 (fun k hk => by have := (B2.out.1 k hk).2; have := B2.out.2.2; show ¬ w2.heap.size ≤ k; omega)
      have s2 : Sees wo (.slice p2 n2 c2) s := K2.out.2.1.sees.keeps HRR.out.1 (fun k hk => by have := (B2.out.2.1 k hk).2; show ¬ w2.heap.size ≤ k; omega)
      have kw : Old w wo := (K2.out.2.2.then HRR.out.1 (fun k hk he => by have : w2.heap.size ≤ k := he; have := K2.out.2.2.size; omega))
      have F := Lib.hid (And.intro s1 (And.intro s2 kw))
      clear s1 s2 kw
      go_wp2_with fail
      refine (awake_any wo).mono ?_
      rintro e z1 ⟨rfl, hz1⟩
      have E1 := equal_any _ _ b b z1 (F.out.1.old hz1) (S0.out.1.old (F.out.2.2.trans hz1))
      have E2 := equal_any _ _ s s z1 (F.out.2.1.old hz1) (S0.out.2.old (F.out.2.2.trans hz1))
      rw [beq_self_eq_true] at E1 E2
      have HE := Lib.hid (And.intro E1 E2)
      have HZ := Lib.hid hz1
      clear E1 E2 hz1
      go_wp2_with fail
      refine HE.out.1.mono ?_
      rintro e z2 ⟨rfl, rfl⟩
      go_wp2_with fail
      refine HE.out.2.mono ?_
      rintro e z3 ⟨rfl, rfl⟩
      go_wp2_with fail
      go_ret
      exact ⟨rfl, F.out.2.2.trans HZ.out⟩
end Go.Proofs.Ytplcnceacbpjhaa
