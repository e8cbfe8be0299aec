/- DERIVED. Is a tail allowed? The law's own answer, and the document's (layer 15). -/
import Derived.Test.YtpehpidlcdfhcaaLo
namespace Go.Proofs.Ytpehpidlcdfhcaa
open Go.RowKit

def sumN (l : List It) : Nat := (l.map It.size).sum
/-- is a tail allowed? -/
def allowedB (p : Pol) (now : Nat) (l : List It) : Bool := (l.all fun x => !bad1 p now x) && ((p.count == 0 || decide ((l.length : Int) ≤ p.count)) && (p.bytes == 0 || decide ((sumN l : Int) ≤ p.bytes)))
theorem sumN_take {l : List It} {k : Nat} {x : It} (h : l[k]? = some x) : sumN (l.take (k + 1)) = sumN (l.take k) + x.size := by
  unfold sumN; rw [List.take_add_one, h]; simp
theorem sumN_le {l : List It} (h : ∀ x ∈ l, Fits x.es) : sumN l ≤ 1000 * l.length := by
  have := sumFrom_le h 0
  unfold sumFrom at this
  rw [List.drop_zero] at this
  exact this
theorem mem_take_le {l : List It} (h : ∀ x ∈ l, Fits x.es) (k : Nat) : sumN (l.take k) ≤ 1000 * l.length := by
  have h1 := sumN_le (l := l.take k) (fun x hx => h x (List.mem_of_mem_take hx))
  have h2 : (l.take k).length ≤ l.length := by simp; omega
  omega
theorem pol_parts {p : Pol} (h : p.ok = true) : (0 ≤ p.age ∧ p.age ≤ 1099511627776) ∧ (0 ≤ p.bytes ∧ p.bytes ≤ 1099511627776) ∧ (0 ≤ p.count ∧ p.count ≤ 1099511627776) := by
  unfold Pol.ok limOk at h; simp at h; omega

set_option maxRecDepth 100000 in
set_option maxHeartbeats 1000000 in
theorem allowed_any (p : Pol) (now : Nat) (lv : Value) (l : List It) (w : World) (hi : Items w lv l) (hl : l.length ≤ 1000) (hn : now < 18446744073709551616) (hp : p.ok = true) :
    Calls Try.prog 18 #[.agg p.cells, .int .u64 now, lv] w fun e w' => e = .returned (.bool (allowedB p now l)) ∧ Old w w' := by
  obtain ⟨⟨pa0, pa1⟩, ⟨pb0, pb1⟩, pc0, pc1⟩ := pol_parts hp
  obtain ⟨pa, pb, pc⟩ := p
  simp only at pa0 pa1 pb0 pb1 pc0 pc1
  obtain ⟨pa, rfl⟩ := Int.eq_ofNat_of_zero_le pa0
  obtain ⟨pb, rfl⟩ := Int.eq_ofNat_of_zero_le pb0
  obtain ⟨pc, rfl⟩ := Int.eq_ofNat_of_zero_le pc0
  unfold Pol.cells
  simp only
  obtain ⟨ad, c', rfl, _, hmx⟩ := hi.1.len
  have hfit := fun y hy => (hi.2 y hy).2.2.1
  generalize hW0 : w.alloc (.cells #[.int .i64 pa, .int .i64 pb, .int .i64 pc] 23) = W0
  have k0 : Old w W0 := by rw [← hW0]; exact (Keeps.refl _ _).alloc _
  have hb0 : W0.heap[w.heap.size]? = some (.cells #[.int .i64 pa, .int .i64 pb, .int .i64 pc] 23 (0, 0)) := by rw [← hW0]; exact heap_alloc_new _ _
  have H := Lib.hid (And.intro k0 (And.intro hb0 (And.intro hi (And.intro hfit hp))))
  clear k0 hb0 hi hfit hp hmx
  go_enter Try.func18, Try.ntmps18
  go_wp2_with fail
  go_loopw [7, 8] (fun v7 v8 wr => ∃ k : Nat, k ≤ l.length ∧ v8 = .int .i64 k ∧ v7 = .int .i64 (sumN (l.take k) : Nat) ∧ (∀ x ∈ l.take k, bad1 ⟨pa, pb, pc⟩ now x = false) ∧ Old W0 wr) (fun _ v8 _ => l.length - (intOf v8).toNat)
  case atStart => exact ⟨0, by omega, rfl, rfl, fun x hx => by simp at hx, Keeps.refl _ _⟩
  case round =>
    obtain ⟨k, hk, rfl, rfl, hno, hkw⟩ := hrel
    have hs1 := mem_take_le H.out.2.2.2.1 k
    have hbx := (hkw.block _ (lt_of_heap H.out.2.1) (fun f => f)).trans H.out.2.1
    by_cases hlt : k < l.length
    · obtain ⟨b, o, c'', he, _, _, hc⟩ := H.out.2.2.1.1.at (by omega)
      simp only [Value.slice.injEq, true_and] at he
      obtain ⟨rfl, rfl⟩ := he
      have hx : l[k]? = some l[k] := List.getElem?_eq_getElem hlt
      generalize l[k] = x at hx
      have cell : ∀ i u, x.cells[i]? = some u → wr.cell? ⟨b, o + k * 4 + i, none⟩ = some u := fun i u hu => (H.out.1.trans hkw).cell (hc k x hx i u hu) (fun f => f)
      have hxf := H.out.2.2.1.2 x (List.mem_of_getElem? hx)
      have hsx := it_size_le hxf.2.2.1
      have C := it_size_any x wr (hxf.old (H.out.1.trans hkw))
      have hst := sumN_take hx
      have hbd : bad1 ⟨pa, pb, pc⟩ now x = (decide (0 < (pa : Int)) && decide ((pa : Int) < (ageN x.time now : Int))) := rfl
      have hmt : ∀ y, y ∈ l.take (k + 1) ↔ y ∈ l.take k ∨ y = x := by intro y; rw [List.take_add_one, hx]; simp
      generalize hs : x.size = s at *
      generalize hsk : sumN (l.take k) = sk at *
      have ht := hxf.2.2.2.2
      obtain ⟨xn, xt, xk, xa, xe⟩ := x
      simp only at ht hbd
      have c0 := cell 0 _ rfl
      have c1 := cell 1 _ rfl
      have c2 := cell 2 _ rfl
      have c3 := cell 3 _ rfl
      simp only [Nat.add_zero] at c0 c1 c2 c3
      unfold It.cells at C
      simp only at C
      have HC := Lib.hid C
      have HX := Lib.hid (And.intro hx (And.intro hno (And.intro hkw (And.intro hst (And.intro hbd hmt)))))
      have HBX := Lib.hid hbx
      have HS := Lib.hid (And.intro hs hsk)
      clear cell hx hno hkw hst hbd hmt C hc hxf hbx hs hsk
      go_wp2_with fail
      refine HC.out.mono ?_
      rintro e w1 ⟨rfl, hk1⟩
      have b1 := (hk1.block _ (lt_of_heap HBX.out) (fun f => f)).trans HBX.out
      have n0 := OldOf.cell (show w1.cell? ⟨w.heap.size, 0, none⟩ = some (.int .i64 pa) from by simp [World.cell?, b1])
      have n1 := OldOf.cell (hk1.cell c1 (fun f => f))
      have K1 := Lib.hid (HX.out.2.2.1.trans hk1)
      clear hk1 b1 c0 c1 c2 c3 HC
      go_wp2_with fail
      have i1 : (0 : Int) ≤ (k : Int) := by omega
      have i2 : (k : Int) < (l.length : Int) := by omega
      have i3 : IntKind.u64.wrap (pa : Int) = (pa : Int) := by rw [IntKind.wrap_u64]; omega
      by_cases ha : 0 < pa
      · have d1 : decide (0 < pa) = true := by simp; omega
        by_cases hnt : xt < now
        · have d2 : decide (xt < now) = true := by simp; omega
          have i4 : IntKind.u64.wrap ((now : Int) - (xt : Int)) = (now : Int) - (xt : Int) := by rw [IntKind.wrap_u64]; omega
          by_cases hold : (pa : Int) < (now : Int) - (xt : Int)
          · have d3 : decide ((now : Int) - (xt : Int) > (pa : Int)) = true := by simp; omega
            refine wp_region_quiet_old (by kernel_rfl) (by kernel_rfl) ?_
            repeat (go_big_quiet_step ((fail)))
            refine wpQuiet_nil ?_
            intro _ hpq
            obtain ⟨pq, hpq'⟩ := hpq
            subst hpq'
            go_wp2_with fail
            go_ret
            refine ⟨ret_bool ?_, H.out.1.trans (K1.out.trans pq.old)⟩
            have hb : bad1 ⟨pa, pb, pc⟩ now ⟨xn, xt, xk, xa, xe⟩ = true := by clear i3 i4; rw [HX.out.2.2.2.2.1, show ageN xt now = now - xt from by unfold ageN; rw [if_neg (by omega)]]; simp; omega
            unfold allowedB
            rw [all_false_of HX.out.1 (by simp only [hb]; rfl), Bool.false_and]
          · have d3 : decide ((now : Int) - (xt : Int) > (pa : Int)) = false := by simp; omega
            refine wp_region_quiet_old (by kernel_rfl) (by kernel_rfl) ?_
            repeat (go_big_quiet_step ((fail)))
            refine wpQuiet_nil ?_
            intro _ hpq
            obtain ⟨pq, hpq'⟩ := hpq
            subst hpq'
            go_wp2_with fail
            go_roundw
            case rel =>
              refine ⟨k + 1, by omega, by go_num, ?_, fun y hy => ?_, K1.out.trans pq.old⟩
              · rw [HX.out.2.2.2.1]; go_num
              · rcases (HX.out.2.2.2.2.2 y).1 hy with h | h
                · exact HX.out.2.1 y h
                · clear i3 i4; subst h; rw [HX.out.2.2.2.2.1, show ageN xt now = now - xt from by unfold ageN; rw [if_neg (by omega)]]; simp; omega
            case measure => simp [intOf]; omega
        · have d2 : decide (xt < now) = false := by simp; omega
          refine wp_region_quiet_old (by kernel_rfl) (by kernel_rfl) ?_
          repeat (go_big_quiet_step ((fail)))
          refine wpQuiet_nil ?_
          intro _ hpq
          obtain ⟨pq, hpq'⟩ := hpq
          subst hpq'
          go_wp2_with fail
          go_roundw
          case rel =>
            refine ⟨k + 1, by omega, by go_num, ?_, fun y hy => ?_, K1.out.trans pq.old⟩
            · rw [HX.out.2.2.2.1]; go_num
            · rcases (HX.out.2.2.2.2.2 y).1 hy with h | h
              · exact HX.out.2.1 y h
              · clear i3; subst h; rw [HX.out.2.2.2.2.1, show ageN xt now = 0 from by unfold ageN; split <;> omega]; simp
          case measure => simp [intOf]; omega
      · have d1 : decide (0 < pa) = false := by simp; omega
        refine wp_region_quiet_old (by kernel_rfl) (by kernel_rfl) ?_
        repeat (go_big_quiet_step ((fail)))
        refine wpQuiet_nil ?_
        intro _ hpq
        obtain ⟨pq, hpq'⟩ := hpq
        subst hpq'
        go_wp2_with fail
        go_roundw
        case rel =>
          refine ⟨k + 1, by omega, by go_num, ?_, fun y hy => ?_, K1.out.trans pq.old⟩
          · rw [HX.out.2.2.2.1]; go_num
          · rcases (HX.out.2.2.2.2.2 y).1 hy with h | h
            · exact HX.out.2.1 y h
            · subst h; rw [HX.out.2.2.2.2.1]; simp; omega
        case measure => simp [intOf]; omega
    · have hkl : l.take k = l := List.take_of_length_le (by omega)
      rw [hkl] at hno hs1 ⊢
      have hall : (l.all fun x => !bad1 ⟨pa, pb, pc⟩ now x) = true := by rw [List.all_eq_true]; intro x hx; simp [hno x hx]
      generalize hss : sumN l = ss at *
      have q1 : wr.cell? ⟨w.heap.size, 1, none⟩ = some (.int .i64 pb) := by simp [World.cell?, hbx]
      have q2 : wr.cell? ⟨w.heap.size, 2, none⟩ = some (.int .i64 pc) := by simp [World.cell?, hbx]
      have K := Lib.hid (And.intro hkw (And.intro hall hss))
      clear hkw hall hbx hno hkl hss
      by_cases hc0 : pc = 0
      · subst hc0
        by_cases hb0 : pb = 0
        · subst hb0
          go_wp2_with fail
          go_ret
          refine ⟨ret_bool ?_, H.out.1.trans K.out.1⟩
          unfold allowedB; rw [K.out.2.1]; simp
        · have d2 : ((pb : Int) == 0) = false := beq_eq_false_iff_ne.2 (by omega)
          go_wp2_with fail
          go_ret
          refine ⟨ret_bool ?_, H.out.1.trans K.out.1⟩
          unfold allowedB; rw [K.out.2.1, K.out.2.2]; simp [hb0]
      · have d1 : ((pc : Int) == 0) = false := beq_eq_false_iff_ne.2 (by omega)
        by_cases hcl : l.length ≤ pc
        · have d3 : decide ((l.length : Int) ≤ (pc : Int)) = true := by simp; omega
          by_cases hb0 : pb = 0
          · subst hb0
            go_wp2_with fail
            go_ret
            refine ⟨ret_bool ?_, H.out.1.trans K.out.1⟩
            unfold allowedB; rw [K.out.2.1]; simp; omega
          · have d2 : ((pb : Int) == 0) = false := beq_eq_false_iff_ne.2 (by omega)
            go_wp2_with fail
            go_ret
            refine ⟨ret_bool ?_, H.out.1.trans K.out.1⟩
            have hcl' := hcl
            unfold allowedB; rw [K.out.2.1, K.out.2.2, Bool.eq_iff_iff]; simp [hb0]; try omega
        · have d3 : decide ((l.length : Int) ≤ (pc : Int)) = false := by simp; omega
          go_wp2_with fail
          go_ret
          refine ⟨ret_bool ?_, H.out.1.trans K.out.1⟩
          unfold allowedB; rw [K.out.2.1]; simp [hc0]; omega

set_option maxRecDepth 100000 in
set_option maxHeartbeats 1000000 in
theorem ref_allowed_any (p : Pol) (now : Nat) (lv : Value) (l : List It) (w : World) (hi : Items w lv l) (hl : l.length ≤ 1000) (hn : now < 18446744073709551616) (hp : p.ok = true) :
    Calls Try.prog 26 #[.agg p.cells, .int .u64 now, lv] w fun e w' => e = .returned (.bool (allowedB p now l)) ∧ Old w w' := by
  obtain ⟨⟨pa0, pa1⟩, ⟨pb0, pb1⟩, pc0, pc1⟩ := pol_parts hp
  obtain ⟨pa, pb, pc⟩ := p
  simp only at pa0 pa1 pb0 pb1 pc0 pc1
  obtain ⟨pa, rfl⟩ := Int.eq_ofNat_of_zero_le pa0
  obtain ⟨pb, rfl⟩ := Int.eq_ofNat_of_zero_le pb0
  obtain ⟨pc, rfl⟩ := Int.eq_ofNat_of_zero_le pc0
  unfold Pol.cells
  simp only
  obtain ⟨ad, c', rfl, _, hmx⟩ := hi.1.len
  have hfit := fun y hy => (hi.2 y hy).2.2.1
  generalize hW0 : w.alloc (.cells #[.int .i64 pa, .int .i64 pb, .int .i64 pc] 23) = W0
  have k0 : Old w W0 := by rw [← hW0]; exact (Keeps.refl _ _).alloc _
  have hb0 : W0.heap[w.heap.size]? = some (.cells #[.int .i64 pa, .int .i64 pb, .int .i64 pc] 23 (0, 0)) := by rw [← hW0]; exact heap_alloc_new _ _
  have H := Lib.hid (And.intro k0 (And.intro hb0 (And.intro hi (And.intro hfit hp))))
  clear k0 hb0 hi hfit hp hmx
  go_enter Try.func26, Try.ntmps26
  go_wp2_with fail
  go_loopw [7, 8] (fun v7 v8 wr => ∃ k : Nat, k ≤ l.length ∧ v8 = .int .i64 k ∧ v7 = .int .i64 (sumN (l.take k) : Nat) ∧ (∀ x ∈ l.take k, bad1 ⟨pa, pb, pc⟩ now x = false) ∧ Old W0 wr) (fun _ v8 _ => l.length - (intOf v8).toNat)
  case atStart => exact ⟨0, by omega, rfl, rfl, fun x hx => by simp at hx, Keeps.refl _ _⟩
  case round =>
    obtain ⟨k, hk, rfl, rfl, hno, hkw⟩ := hrel
    have hs1 := mem_take_le H.out.2.2.2.1 k
    have hbx := (hkw.block _ (lt_of_heap H.out.2.1) (fun f => f)).trans H.out.2.1
    by_cases hlt : k < l.length
    · obtain ⟨b, o, c'', he, _, _, hc⟩ := H.out.2.2.1.1.at (by omega)
      simp only [Value.slice.injEq, true_and] at he
      obtain ⟨rfl, rfl⟩ := he
      have hx : l[k]? = some l[k] := List.getElem?_eq_getElem hlt
      generalize l[k] = x at hx
      have cell : ∀ i u, x.cells[i]? = some u → wr.cell? ⟨b, o + k * 4 + i, none⟩ = some u := fun i u hu => (H.out.1.trans hkw).cell (hc k x hx i u hu) (fun f => f)
      have hxf := H.out.2.2.1.2 x (List.mem_of_getElem? hx)
      have hsx := it_size_le hxf.2.2.1
      have C := ref_it_size_any x wr (hxf.old (H.out.1.trans hkw))
      have hst := sumN_take hx
      have hbd : bad1 ⟨pa, pb, pc⟩ now x = (decide (0 < (pa : Int)) && decide ((pa : Int) < (ageN x.time now : Int))) := rfl
      have hmt : ∀ y, y ∈ l.take (k + 1) ↔ y ∈ l.take k ∨ y = x := by intro y; rw [List.take_add_one, hx]; simp
      generalize hs : x.size = s at *
      generalize hsk : sumN (l.take k) = sk at *
      have ht := hxf.2.2.2.2
      obtain ⟨xn, xt, xk, xa, xe⟩ := x
      simp only at ht hbd
      have c0 := cell 0 _ rfl
      have c1 := cell 1 _ rfl
      have c2 := cell 2 _ rfl
      have c3 := cell 3 _ rfl
      simp only [Nat.add_zero] at c0 c1 c2 c3
      unfold It.cells at C
      simp only at C
      have HC := Lib.hid C
      have HX := Lib.hid (And.intro hx (And.intro hno (And.intro hkw (And.intro hst (And.intro hbd hmt)))))
      have HBX := Lib.hid hbx
      have HS := Lib.hid (And.intro hs hsk)
      clear cell hx hno hkw hst hbd hmt C hc hxf hbx hs hsk
      go_wp2_with fail
      refine HC.out.mono ?_
      rintro e w1 ⟨rfl, hk1⟩
      have b1 := (hk1.block _ (lt_of_heap HBX.out) (fun f => f)).trans HBX.out
      have n0 := OldOf.cell (show w1.cell? ⟨w.heap.size, 0, none⟩ = some (.int .i64 pa) from by simp [World.cell?, b1])
      have n1 := OldOf.cell (hk1.cell c1 (fun f => f))
      have K1 := Lib.hid (HX.out.2.2.1.trans hk1)
      clear hk1 b1 c0 c1 c2 c3 HC
      go_wp2_with fail
      have i1 : (0 : Int) ≤ (k : Int) := by omega
      have i2 : (k : Int) < (l.length : Int) := by omega
      have i3 : IntKind.u64.wrap (pa : Int) = (pa : Int) := by rw [IntKind.wrap_u64]; omega
      by_cases ha : 0 < pa
      · have d1 : decide (0 < pa) = true := by simp; omega
        by_cases hnt : xt < now
        · have d2 : decide (xt < now) = true := by simp; omega
          have i4 : IntKind.u64.wrap ((now : Int) - (xt : Int)) = (now : Int) - (xt : Int) := by rw [IntKind.wrap_u64]; omega
          by_cases hold : (pa : Int) < (now : Int) - (xt : Int)
          · have d3 : decide ((now : Int) - (xt : Int) > (pa : Int)) = true := by simp; omega
            refine wp_region_quiet_old (by kernel_rfl) (by kernel_rfl) ?_
            repeat (go_big_quiet_step ((fail)))
            refine wpQuiet_nil ?_
            intro _ hpq
            obtain ⟨pq, hpq'⟩ := hpq
            subst hpq'
            go_wp2_with fail
            go_ret
            refine ⟨ret_bool ?_, H.out.1.trans (K1.out.trans pq.old)⟩
            have hb : bad1 ⟨pa, pb, pc⟩ now ⟨xn, xt, xk, xa, xe⟩ = true := by clear i3 i4; rw [HX.out.2.2.2.2.1, show ageN xt now = now - xt from by unfold ageN; rw [if_neg (by omega)]]; simp; omega
            unfold allowedB
            rw [all_false_of HX.out.1 (by simp only [hb]; rfl), Bool.false_and]
          · have d3 : decide ((now : Int) - (xt : Int) > (pa : Int)) = false := by simp; omega
            refine wp_region_quiet_old (by kernel_rfl) (by kernel_rfl) ?_
            repeat (go_big_quiet_step ((fail)))
            refine wpQuiet_nil ?_
            intro _ hpq
            obtain ⟨pq, hpq'⟩ := hpq
            subst hpq'
            go_wp2_with fail
            go_roundw
            case rel =>
              refine ⟨k + 1, by omega, by go_num, ?_, fun y hy => ?_, K1.out.trans pq.old⟩
              · rw [HX.out.2.2.2.1]; go_num
              · rcases (HX.out.2.2.2.2.2 y).1 hy with h | h
                · exact HX.out.2.1 y h
                · clear i3 i4; subst h; rw [HX.out.2.2.2.2.1, show ageN xt now = now - xt from by unfold ageN; rw [if_neg (by omega)]]; simp; omega
            case measure => simp [intOf]; omega
        · have d2 : decide (xt < now) = false := by simp; omega
          refine wp_region_quiet_old (by kernel_rfl) (by kernel_rfl) ?_
          repeat (go_big_quiet_step ((fail)))
          refine wpQuiet_nil ?_
          intro _ hpq
          obtain ⟨pq, hpq'⟩ := hpq
          subst hpq'
          go_wp2_with fail
          go_roundw
          case rel =>
            refine ⟨k + 1, by omega, by go_num, ?_, fun y hy => ?_, K1.out.trans pq.old⟩
            · rw [HX.out.2.2.2.1]; go_num
            · rcases (HX.out.2.2.2.2.2 y).1 hy with h | h
              · exact HX.out.2.1 y h
              · clear i3; subst h; rw [HX.out.2.2.2.2.1, show ageN xt now = 0 from by unfold ageN; split <;> omega]; simp
          case measure => simp [intOf]; omega
      · have d1 : decide (0 < pa) = false := by simp; omega
        refine wp_region_quiet_old (by kernel_rfl) (by kernel_rfl) ?_
        repeat (go_big_quiet_step ((fail)))
        refine wpQuiet_nil ?_
        intro _ hpq
        obtain ⟨pq, hpq'⟩ := hpq
        subst hpq'
        go_wp2_with fail
        go_roundw
        case rel =>
          refine ⟨k + 1, by omega, by go_num, ?_, fun y hy => ?_, K1.out.trans pq.old⟩
          · rw [HX.out.2.2.2.1]; go_num
          · rcases (HX.out.2.2.2.2.2 y).1 hy with h | h
            · exact HX.out.2.1 y h
            · subst h; rw [HX.out.2.2.2.2.1]; simp; omega
        case measure => simp [intOf]; omega
    · have hkl : l.take k = l := List.take_of_length_le (by omega)
      rw [hkl] at hno hs1 ⊢
      have hall : (l.all fun x => !bad1 ⟨pa, pb, pc⟩ now x) = true := by rw [List.all_eq_true]; intro x hx; simp [hno x hx]
      generalize hss : sumN l = ss at *
      have q1 : wr.cell? ⟨w.heap.size, 1, none⟩ = some (.int .i64 pb) := by simp [World.cell?, hbx]
      have q2 : wr.cell? ⟨w.heap.size, 2, none⟩ = some (.int .i64 pc) := by simp [World.cell?, hbx]
      have K := Lib.hid (And.intro hkw (And.intro hall hss))
      clear hkw hall hbx hno hkl hss
      by_cases hc0 : pc = 0
      · subst hc0
        by_cases hb0 : pb = 0
        · subst hb0
          go_wp2_with fail
          go_ret
          refine ⟨ret_bool ?_, H.out.1.trans K.out.1⟩
          unfold allowedB; rw [K.out.2.1]; simp
        · have d2 : ((pb : Int) == 0) = false := beq_eq_false_iff_ne.2 (by omega)
          go_wp2_with fail
          go_ret
          refine ⟨ret_bool ?_, H.out.1.trans K.out.1⟩
          unfold allowedB; rw [K.out.2.1, K.out.2.2]; simp [hb0]
      · have d1 : ((pc : Int) == 0) = false := beq_eq_false_iff_ne.2 (by omega)
        by_cases hcl : l.length ≤ pc
        · have d3 : decide ((l.length : Int) ≤ (pc : Int)) = true := by simp; omega
          by_cases hb0 : pb = 0
          · subst hb0
            go_wp2_with fail
            go_ret
            refine ⟨ret_bool ?_, H.out.1.trans K.out.1⟩
            unfold allowedB; rw [K.out.2.1]; simp; omega
          · have d2 : ((pb : Int) == 0) = false := beq_eq_false_iff_ne.2 (by omega)
            go_wp2_with fail
            go_ret
            refine ⟨ret_bool ?_, H.out.1.trans K.out.1⟩
            have hcl' := hcl
            unfold allowedB; rw [K.out.2.1, K.out.2.2, Bool.eq_iff_iff]; simp [hb0]; try omega
        · have d3 : decide ((l.length : Int) ≤ (pc : Int)) = false := by simp; omega
          go_wp2_with fail
          go_ret
          refine ⟨ret_bool ?_, H.out.1.trans K.out.1⟩
          unfold allowedB; rw [K.out.2.1]; simp [hc0]; omega
end Go.Proofs.Ytpehpidlcdfhcaa
