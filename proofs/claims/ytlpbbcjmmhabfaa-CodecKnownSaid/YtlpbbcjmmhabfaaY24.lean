/- DERIVED. The document's order of constraints and predicates, and their sameness. · DERIVED. The document's sameness of predicates, items and pages. · DERIVED. The document's sameness of pages. -/
import Derived.Test.YtlpbbcjmmhabfaaY23
import Derived.Test.YtlpbbcjmmhabfaaY09
import Derived.Test.YtlpbbcjmmhabfaaY12
import Derived.Test.YtlpbbcjmmhabfaaY18
import Derived.Test.YtlpbbcjmmhabfaaY14
namespace Go.Proofs.Ytlpbbcjmmhabfaa
open Go.RowKit

/-- the order of lists, by that of their things -/
def ordL {α : Type} (f : α → α → Int) : List α → List α → Int
  | [], [] => 0
  | [], _ :: _ => -1
  | _ :: _, [] => 1
  | a :: l, b :: m => if f a b = 0 then ordL f l m else f a b
theorem ordL_zero {α : Type} {f : α → α → Int} (hf : ∀ a b, f a b = 0 ↔ a = b) : ∀ l m, ordL f l m = 0 ↔ l = m
  | [], [] => by simp [ordL]
  | [], _ :: _ => by simp [ordL]
  | _ :: _, [] => by simp [ordL]
  | a :: l, b :: m => by
    have ih := ordL_zero hf l m
    have h := hf a b
    unfold ordL
    split
    · rename_i g; rw [ih]; simp [h.1 g]
    · rename_i g
      constructor
      · intro e; exact absurd e g
      · intro e; simp only [List.cons.injEq] at e; exact absurd (h.2 e.1) g
theorem ordL_step {α : Type} {f : α → α → Int} {l m : List α} {i : Nat} {x y : α} (hx : l[i]? = some x) (hy : m[i]? = some y) :
    ordL f (l.drop i) (m.drop i) = if f x y = 0 then ordL f (l.drop (i + 1)) (m.drop (i + 1)) else f x y := by
  obtain ⟨h1, rfl⟩ := List.getElem?_eq_some_iff.1 hx
  obtain ⟨h2, rfl⟩ := List.getElem?_eq_some_iff.1 hy
  rw [List.drop_eq_getElem_cons h1, List.drop_eq_getElem_cons h2, ordL]
theorem ordL_end {α : Type} {f : α → α → Int} {l m : List α} {i : Nat} (h1 : i ≤ l.length) (h2 : i ≤ m.length) (h : l.length ≤ i ∨ m.length ≤ i) :
    ordL f (l.drop i) (m.drop i) = if l.length < m.length then -1 else if m.length < l.length then 1 else 0 := by
  rcases Nat.lt_trichotomy l.length m.length with g | g | g
  · have e : l.length = i := by omega
    rw [if_pos g, List.drop_of_length_le (by omega), List.drop_eq_getElem_cons (by omega)]; rfl
  · rw [if_neg (by omega), if_neg (by omega), List.drop_of_length_le (by omega), List.drop_of_length_le (by omega)]; rfl
  · have e : m.length = i := by omega
    rw [if_neg (by omega), if_pos g, List.drop_of_length_le (l := m) (by omega), List.drop_eq_getElem_cons (by omega)]; rfl
/-- the order of constraints -/
def ordC (a b : PCon) : Int :=
  if a.name ≠ b.name then (if Op.bytesLess a.name.toList b.name.toList then -1 else 1)
  else if a.op ≠ b.op then (if a.op < b.op then -1 else 1)
  else if wholeV a.val b.val ≠ 0 then wholeV a.val b.val
  else ordL wholeV a.set b.set
theorem ordC_zero (a b : PCon) : ordC a b = 0 ↔ a = b := by
  have hw := wholeV_zero a.val b.val
  have hs := ordL_zero wholeV_zero a.set b.set
  obtain ⟨nm, op, v, s⟩ := a
  obtain ⟨nm', op', v', s'⟩ := b
  unfold ordC
  simp only at hw hs ⊢
  simp only [PCon.mk.injEq]
  by_cases h1 : nm = nm'
  · subst h1
    by_cases h2 : op = op'
    · subst h2
      by_cases h3 : wholeV v v' = 0
      · obtain rfl := hw.1 h3
        simp [h3, hs]
      · have : ¬ v = v' := fun e => h3 (hw.2 e)
        simp [h3, this]
    · simp [h2]; split <;> simp
  · simp [h1]; split <;> simp
/-- the order of predicates -/
def ordP (p q : List PCon) : Int := ordL ordC p q
theorem ordP_zero (p q : List PCon) : ordP p q = 0 ↔ p = q := ordL_zero ordC_zero p q

set_option maxRecDepth 100000 in
set_option maxHeartbeats 2000000 in
theorem ref_order_any (x y : Con) (w : World) (hx : SeesV w x.sv x.set) (hy : SeesV w y.sv y.set) :
    Calls Try.prog 96 #[.agg x.cells.toArray, .agg y.cells.toArray] w fun e w' => e = .returned (.int .i64 (ordC x.plain y.plain)) ∧ Old w w' := by
  obtain ⟨p, c, hsv, hb1, hb2⟩ := hx.len
  obtain ⟨p', c', hsv', hb3, hb4⟩ := hy.len
  obtain ⟨nm, op, ⟨k, n, s, t⟩, sv, set⟩ := x
  obtain ⟨nm', op', ⟨k', n', s', t'⟩, sv', set'⟩ := y
  simp only at hsv hsv' hb1 hb2 hb3 hb4 hx hy
  subst hsv hsv'
  have hmm : set.length ≤ 9223372036854775807 := by unfold maxLen at hb2; omega
  have hmm' : set'.length ≤ 9223372036854775807 := by unfold maxLen at hb4; omega
  clear hb1 hb2 hb3 hb4
  unfold Con.cells Con.plain
  simp only
  obtain ⟨W0, hW0⟩ : ∃ W0, (w.alloc (.cells #[.string nm, .int .i64 op, .int .i64 k, .int .i64 n, .string s, .bool t, .slice p set.length c] 105)).alloc (.cells #[.string nm', .int .i64 op', .int .i64 k', .int .i64 n', .string s', .bool t', .slice p' set'.length c'] 105) = W0 := ⟨_, rfl⟩
  have k0 : Old w W0 := by rw [← hW0]; exact ((Keeps.refl _ _).alloc _).alloc _
  obtain ⟨b0, b1⟩ := two_blocks w (.cells #[.string nm, .int .i64 op, .int .i64 k, .int .i64 n, .string s, .bool t, .slice p set.length c] 105) (.cells #[.string nm', .int .i64 op', .int .i64 k', .int .i64 n', .string s', .bool t', .slice p' set'.length c'] 105)
  rw [hW0] at b0 b1
  have g0 := blk7 b0
  have g1 := blk7 b1
  have B := Lib.hid (And.intro k0 (And.intro b0 b1))
  have H := Lib.hid (And.intro hx hy)
  clear k0 b0 b1 hx hy
  have hv : ordC ⟨nm, op, ⟨k, n, s, t⟩, set⟩ ⟨nm', op', ⟨k', n', s', t'⟩, set'⟩ = if nm ≠ nm' then (if Op.bytesLess nm.toList nm'.toList then -1 else 1)
    else if op ≠ op' then (if op < op' then -1 else 1) else if wholeV ⟨k, n, s, t⟩ ⟨k', n', s', t'⟩ ≠ 0 then wholeV ⟨k, n, s, t⟩ ⟨k', n', s', t'⟩ else ordL wholeV set set' := rfl
  generalize ordC ⟨nm, op, ⟨k, n, s, t⟩, set⟩ ⟨nm', op', ⟨k', n', s', t'⟩, set'⟩ = z at hv ⊢
  cases hn : (nm.toList == nm'.toList)
  · rw [if_pos (fun e => by rw [e] at hn; simp at hn)] at hv
    cases hl : Op.bytesLess nm.toList nm'.toList
    all_goals
      rw [hl] at hv
      have HV := Lib.hid hv
      clear hv
      go_enter Try.func96, Try.ntmps96
      go_wp2_with fail
      go_ret
      exact ⟨ret_int (by rw [HV.out]; rfl), B.out.1⟩
  have hnn : nm = nm' := arr_ext (by simpa using hn)
  rw [if_neg (by simp [hnn])] at hv
  clear hnn
  by_cases ho : op = op'
  case neg =>
    have h1 : (op != op') = true := by rw [bne_iff_ne]; exact ho
    rw [if_pos ho] at hv
    by_cases hl : op < op'
    · have h2 : decide (op < op') = true := decide_eq_true hl
      rw [if_pos hl] at hv
      have HV := Lib.hid hv
      clear hv ho hl
      go_enter Try.func96, Try.ntmps96
      go_wp2_with fail
      go_ret
      exact ⟨ret_int (by rw [HV.out]), B.out.1⟩
    · have h2 : decide (op < op') = false := decide_eq_false hl
      rw [if_neg hl] at hv
      have HV := Lib.hid hv
      clear hv ho hl
      go_enter Try.func96, Try.ntmps96
      go_wp2_with fail
      go_ret
      exact ⟨ret_int (by rw [HV.out]), B.out.1⟩
  subst ho
  have h1 : (op != op) = false := by simp
  rw [if_neg (by simp)] at hv
  have CW := ref_whole_any ⟨k, n, s, t⟩ ⟨k', n', s', t'⟩
  unfold Val.cells at CW
  simp only at CW
  generalize wholeV ⟨k, n, s, t⟩ ⟨k', n', s', t'⟩ = zw at hv CW
  have C := Lib.hid CW
  clear CW
  by_cases hz : zw = 0
  case neg =>
    have h2 : (zw != 0) = true := by rw [bne_iff_ne]; exact hz
    rw [if_pos hz] at hv
    have HV := Lib.hid hv
    clear hv hz
    go_enter Try.func96, Try.ntmps96
    go_wp2_with fail
    refine (C.out _).mono ?_
    rintro e w1 ⟨rfl, k1⟩
    have K1 := Lib.hid k1
    clear k1 g0 g1
    go_wp2_with fail
    go_ret
    exact ⟨ret_int HV.out.symm, B.out.1.trans K1.out⟩
  subst hz
  have h2 : ((0 : Int) != 0) = false := rfl
  rw [if_neg (by simp)] at hv
  have HV := Lib.hid hv
  clear hv
  go_enter Try.func96, Try.ntmps96
  go_wp2_with fail
  refine (C.out _).mono ?_
  rintro e w1 ⟨rfl, k1⟩
  have K1 := Lib.hid (B.out.1.trans k1)
  have B1 := Lib.hid (And.intro ((k1.block _ (lt_of_heap B.out.2.1) (fun f => f)).trans B.out.2.1) ((k1.block _ (lt_of_heap B.out.2.2) (fun f => f)).trans B.out.2.2))
  clear k1 g0 g1 h2 hn h1
  go_wp2_with fail
  go_loopw [6] (fun v6 wr => ∃ i : Nat, i ≤ set.length ∧ i ≤ set'.length ∧ v6 = .int .i64 i ∧ ordL wholeV set set' = ordL wholeV (set.drop i) (set'.drop i) ∧ Old w1 wr) (fun v6 _ => set.length - (intOf v6).toNat)
  case atStart => exact ⟨0, by omega, by omega, rfl, rfl, Keeps.refl _ _⟩
  case round =>
    obtain ⟨i, hi, hi', rfl, hr, hk⟩ := hrel
    have HR := Lib.hid hr
    have g0 := blk7 ((hk.block _ (lt_of_heap B1.out.1) (fun f => f)).trans B1.out.1)
    have g1 := blk7 ((hk.block _ (lt_of_heap B1.out.2) (fun f => f)).trans B1.out.2)
    have KW := Lib.hid hk
    clear hr hk
    by_cases hlt : i < set.length ∧ i < set'.length
    · obtain ⟨hlt, hlt'⟩ := hlt
      obtain ⟨b, o, cc, he, _, _, hc⟩ := H.out.1.at (by omega)
      obtain ⟨b', o', cc', he', _, _, hc'⟩ := H.out.2.at (by omega)
      simp only [Value.slice.injEq, true_and] at he he'
      obtain ⟨rfl, rfl⟩ := he
      obtain ⟨rfl, rfl⟩ := he'
      obtain ⟨x, hx⟩ : ∃ x, set[i]? = some x := ⟨_, List.getElem?_eq_getElem hlt⟩
      obtain ⟨y, hy⟩ : ∃ y, set'[i]? = some y := ⟨_, List.getElem?_eq_getElem hlt'⟩
      have hst := ordL_step (f := wholeV) hx hy
      have cx := fun j u (hu : (valL x)[j]? = some u) => OldOf.cell ((K1.out.trans KW.out).cell (hc i x hx j u hu) (fun f => f))
      have cy := fun j u (hu : (valL y)[j]? = some u) => OldOf.cell ((K1.out.trans KW.out).cell (hc' i y hy j u hu) (fun f => f))
      have x0 := cx 0 _ rfl
      have x1 := cx 1 _ rfl
      have x2 := cx 2 _ rfl
      have x3 := cx 3 _ rfl
      have y0 := cy 0 _ rfl
      have y1 := cy 1 _ rfl
      have y2 := cy 2 _ rfl
      have y3 := cy 3 _ rfl
      simp only [Nat.add_zero] at x0 y0
      have n1 := OldOf.cell g0.1.2.2.2.2.2.2
      have n2 := OldOf.cell g1.1.2.2.2.2.2.2
      have i1 : (0 : Int) ≤ (i : Int) := by omega
      have i2 : (i : Int) < (set.length : Int) := by omega
      have i3 : (i : Int) < (set'.length : Int) := by omega
      have CW := ref_whole_any x y
      unfold Val.cells at CW
      generalize wholeV x y = zv at hst CW
      have CV := Lib.hid CW
      have HS := Lib.hid hst
      clear hx hy cx cy hc hc' CW hst
      by_cases hz : zv = 0
      · subst hz
        have h2 : ((0 : Int) != 0) = false := rfl
        go_wp2_with fail
        refine wp_region_quiet_old (by kernel_rfl) (by kernel_rfl) ?_
        repeat (go_big_quiet_step (((go_at_call 120; exact Calls.quiet_of_old (CV.out _)))))
        refine wpQuiet_nil ?_
        intro _ hpq
        obtain ⟨pq, hpq'⟩ := hpq
        subst hpq'
        go_wp2_with fail
        go_roundw
        case rel => exact ⟨i + 1, by omega, by omega, by go_num, HR.out.trans (by have := HS.out; simpa using this), KW.out.trans pq.old⟩
        case measure => simp [intOf]; omega
      · have h2 : (zv != 0) = true := by rw [bne_iff_ne]; exact hz
        have hs2 := HS.out
        rw [if_neg hz] at hs2
        have HS2 := Lib.hid hs2
        clear hz hs2
        go_wp2_with fail
        refine wp_region_quiet_old (by kernel_rfl) (by kernel_rfl) ?_
        repeat (go_big_quiet_step (((go_at_call 120; exact Calls.quiet_of_old (CV.out _)))))
        refine wpQuiet_nil ?_
        intro _ hpq
        obtain ⟨pq, hpq'⟩ := hpq
        subst hpq'
        go_wp2_with fail
        go_ret
        exact ⟨ret_int (by rw [HV.out, HR.out, HS2.out]), K1.out.trans (KW.out.trans pq.old)⟩
    · have hor : set.length ≤ i ∨ set'.length ≤ i := by omega
      have hend := ordL_end (f := wholeV) hi hi' hor
      have HE := Lib.hid (HV.out.trans (HR.out.trans hend))
      clear hlt hend
      rcases Nat.lt_trichotomy set.length set'.length with g | g | g
      · have hs2 := HE.out
        rw [if_pos g] at hs2
        have HS2 := Lib.hid hs2
        have j1 : ¬ i < set.length := by omega
        clear hs2 hor
        go_wp2_with fail
        go_ret
        exact ⟨ret_int (by rw [HS2.out]), K1.out.trans KW.out⟩
      · have hs2 := HE.out
        rw [if_neg (by omega), if_neg (by omega)] at hs2
        have HS2 := Lib.hid hs2
        have j1 : ¬ i < set.length := by omega
        have j2 : ¬ set.length < set'.length := by omega
        have j3 : ¬ set'.length < set.length := by omega
        clear hs2 hor g
        go_wp2_with fail
        go_ret
        exact ⟨ret_int (by rw [HS2.out]), K1.out.trans KW.out⟩
      · have hs2 := HE.out
        rw [if_neg (by omega), if_pos g] at hs2
        have HS2 := Lib.hid hs2
        have j1 : i < set.length := by omega
        have j4 : ¬ i < set'.length := by omega
        have j2 : ¬ set.length < set'.length := by omega
        clear hs2 hor
        go_wp2_with fail
        go_ret
        exact ⟨ret_int (by rw [HS2.out]), K1.out.trans KW.out⟩
end Go.Proofs.Ytlpbbcjmmhabfaa

namespace Go.Proofs.Ytlpbbcjmmhabfaa
open Go.RowKit

set_option maxRecDepth 100000 in
set_option maxHeartbeats 2000000 in
theorem ref_cmp_pred_any (v v' : Value) (l m : List Con) (w : World) (h : SeesR w 7 Con.cells v l) (h' : SeesR w 7 Con.cells v' m) (hf : ∀ x ∈ l, SeesV w x.sv x.set) (hf' : ∀ x ∈ m, SeesV w x.sv x.set) :
    Calls Try.prog 54 #[v, v'] w fun e w' => e = .returned (.int .i64 (ordP (l.map Con.plain) (m.map Con.plain))) ∧ Old w w' := by
  obtain ⟨p, c, rfl, hb1, hb2⟩ := h.len
  obtain ⟨p', c', rfl, hb3, hb4⟩ := h'.len
  have hmm : l.length ≤ 9223372036854775807 := by unfold maxLen at hb2; omega
  have hmm' : m.length ≤ 9223372036854775807 := by unfold maxLen at hb4; omega
  have H := Lib.hid (And.intro h (And.intro h' (And.intro hf hf')))
  clear hb1 hb2 hb3 hb4 h h' hf hf'
  unfold ordP
  go_enter Try.func54, Try.ntmps54
  go_wp2_with fail
  go_loopw [5] (fun v5 wr => ∃ i : Nat, i ≤ l.length ∧ i ≤ m.length ∧ v5 = .int .i64 i ∧ ordL ordC (l.map Con.plain) (m.map Con.plain) = ordL ordC ((l.map Con.plain).drop i) ((m.map Con.plain).drop i) ∧ Old w wr) (fun v5 _ => l.length - (intOf v5).toNat)
  case atStart => exact ⟨0, by omega, by omega, rfl, rfl, Keeps.refl _ _⟩
  case round =>
    obtain ⟨i, hi, hi', rfl, hr, hk⟩ := hrel
    have HR := Lib.hid hr
    have KW := Lib.hid hk
    clear hr hk
    by_cases hlt : i < l.length ∧ i < m.length
    · obtain ⟨hlt, hlt'⟩ := hlt
      obtain ⟨b, o, cc, he, _, _, hc⟩ := H.out.1.at (by omega)
      obtain ⟨b', o', cc', he', _, _, hc'⟩ := H.out.2.1.at (by omega)
      simp only [Value.slice.injEq, true_and] at he he'
      obtain ⟨rfl, rfl⟩ := he
      obtain ⟨rfl, rfl⟩ := he'
      obtain ⟨x, hx⟩ : ∃ x, l[i]? = some x := ⟨_, List.getElem?_eq_getElem hlt⟩
      obtain ⟨y, hy⟩ : ∃ y, m[i]? = some y := ⟨_, List.getElem?_eq_getElem hlt'⟩
      have hst := ordL_step (f := ordC) (l := l.map Con.plain) (m := m.map Con.plain) (i := i) (x := x.plain) (y := y.plain) (by simp [hx]) (by simp [hy])
      have cx := fun j u (hu : x.cells[j]? = some u) => OldOf.cell (KW.out.cell (hc i x hx j u hu) (fun f => f))
      have cy := fun j u (hu : y.cells[j]? = some u) => OldOf.cell (KW.out.cell (hc' i y hy j u hu) (fun f => f))
      have x0 := cx 0 _ rfl
      have x1 := cx 1 _ rfl
      have x2 := cx 2 _ rfl
      have x3 := cx 3 _ rfl
      have x4 := cx 4 _ rfl
      have x5 := cx 5 _ rfl
      have x6 := cx 6 _ rfl
      have y0 := cy 0 _ rfl
      have y1 := cy 1 _ rfl
      have y2 := cy 2 _ rfl
      have y3 := cy 3 _ rfl
      have y4 := cy 4 _ rfl
      have y5 := cy 5 _ rfl
      have y6 := cy 6 _ rfl
      simp only [Nat.add_zero] at x0 y0
      have i1 : (0 : Int) ≤ (i : Int) := by omega
      have i2 : (i : Int) < (l.length : Int) := by omega
      have i3 : (i : Int) < (m.length : Int) := by omega
      have CW := fun (W : World) (k : Old w W) => ref_order_any x y W ((H.out.2.2.1 x (List.mem_of_getElem? hx)).old k) ((H.out.2.2.2 y (List.mem_of_getElem? hy)).old k)
      unfold Con.cells at CW
      generalize ordC x.plain y.plain = zv at hst CW
      have CV := Lib.hid CW
      have HS := Lib.hid hst
      clear hx hy cx cy hc hc' CW hst
      by_cases hz : zv = 0
      · subst hz
        have h2 : ((0 : Int) != 0) = false := rfl
        go_wp2_with fail
        refine wp_region_quiet_old (by kernel_rfl) (by kernel_rfl) ?_
        repeat (go_big_quiet_step (((go_at_call 96; exact Calls.quiet_of_old (CV.out _ (KW.out.trans (OldOf.old _)))))))
        refine wpQuiet_nil ?_
        intro _ hpq
        obtain ⟨pq, hpq'⟩ := hpq
        subst hpq'
        go_wp2_with fail
        go_roundw
        case rel => exact ⟨i + 1, by omega, by omega, by go_num, HR.out.trans (by have := HS.out; simpa using this), KW.out.trans pq.old⟩
        case measure => simp [intOf]; omega
      · have h2 : (zv != 0) = true := by rw [bne_iff_ne]; exact hz
        have hs2 := HS.out
        rw [if_neg hz] at hs2
        have HS2 := Lib.hid hs2
        clear hz hs2
        go_wp2_with fail
        refine wp_region_quiet_old (by kernel_rfl) (by kernel_rfl) ?_
        repeat (go_big_quiet_step (((go_at_call 96; exact Calls.quiet_of_old (CV.out _ (KW.out.trans (OldOf.old _)))))))
        refine wpQuiet_nil ?_
        intro _ hpq
        obtain ⟨pq, hpq'⟩ := hpq
        subst hpq'
        go_wp2_with fail
        go_ret
        exact ⟨ret_int (by rw [HR.out, HS2.out]), KW.out.trans pq.old⟩
    · have hor : l.length ≤ i ∨ m.length ≤ i := by omega
      have hend := ordL_end (f := ordC) (l := l.map Con.plain) (m := m.map Con.plain) (i := i) (by simpa using hi) (by simpa using hi') (by simpa using hor)
      rw [List.length_map, List.length_map] at hend
      have HE := Lib.hid (HR.out.trans hend)
      clear hlt hend
      rcases Nat.lt_trichotomy l.length m.length with g | g | g
      · have hs2 := HE.out
        rw [if_pos g] at hs2
        have HS2 := Lib.hid hs2
        have j1 : ¬ i < l.length := by omega
        clear hs2 hor
        go_wp2_with fail
        go_ret
        exact ⟨ret_int (by rw [HS2.out]), KW.out⟩
      · have hs2 := HE.out
        rw [if_neg (by omega), if_neg (by omega)] at hs2
        have HS2 := Lib.hid hs2
        have j1 : ¬ i < l.length := by omega
        have j2 : ¬ l.length < m.length := by omega
        have j3 : ¬ m.length < l.length := by omega
        clear hs2 hor g
        go_wp2_with fail
        go_ret
        exact ⟨ret_int (by rw [HS2.out]), KW.out⟩
      · have hs2 := HE.out
        rw [if_neg (by omega), if_pos g] at hs2
        have HS2 := Lib.hid hs2
        have j1 : i < l.length := by omega
        have j4 : ¬ i < m.length := by omega
        have j2 : ¬ l.length < m.length := by omega
        clear hs2 hor
        go_wp2_with fail
        go_ret
        exact ⟨ret_int (by rw [HS2.out]), KW.out⟩
/-- are these predicates the same? -/
def sameP (l m : List PCon) : Bool := ordP l m == 0
theorem sameP_iff {l m : List PCon} : sameP l m = true ↔ l = m := by unfold sameP; rw [beq_iff_eq, ordP_zero]
theorem same_pred_any (v v' : Value) (l m : List Con) (w : World) (h : SeesR w 7 Con.cells v l) (h' : SeesR w 7 Con.cells v' m) (hf : ∀ x ∈ l, SeesV w x.sv x.set) (hf' : ∀ x ∈ m, SeesV w x.sv x.set) :
    Calls Try.prog 20 #[v, v'] w fun e w' => e = .returned (.bool (sameP (l.map Con.plain) (m.map Con.plain))) ∧ Old w w' := by
  have C := ref_cmp_pred_any v v' l m w h h' hf hf'
  unfold sameP
  generalize ordP (l.map Con.plain) (m.map Con.plain) = z at C ⊢
  have HC := Lib.hid C
  obtain ⟨p, c, rfl, _, _⟩ := h.len
  obtain ⟨p', c', rfl, _, _⟩ := h'.len
  clear C h h' hf hf'
  go_enter Try.func20, Try.ntmps20
  go_wp2_with fail
  refine HC.out.mono ?_
  rintro e w1 ⟨rfl, k1⟩
  have K := Lib.hid k1
  clear k1
  go_wp2_with fail
  go_ret
  exact ⟨rfl, K.out⟩

/-- are these items the same? -/
def sameI (x y : PIt) : Bool := (x.n == y.n) && ((x.time == y.time) && sameE x.key x.es y.key y.es)
set_option maxRecDepth 100000 in
theorem same_item_any (x y : It) (w : World) (h : x.fine w) (h' : y.fine w) :
    Calls Try.prog 27 #[.agg x.cells.toArray, .agg y.cells.toArray] w fun e w' => e = .returned (.bool (sameI x.plain y.plain)) ∧ Old w w' := by
  have C := fun W (k : Old w W) => same_ev_any x.key y.key x.av y.av x.es y.es W (h.1.old k) (h'.1.old k)
  obtain ⟨n, tm, key, av, es⟩ := x
  obtain ⟨n', tm', key', av', es'⟩ := y
  obtain ⟨p, c, e1, _, _⟩ := h.1.len
  obtain ⟨p', c', e2, _, _⟩ := h'.1.len
  simp only at e1 e2
  subst e1 e2
  unfold It.cells It.plain sameI
  simp only at C ⊢
  generalize sameE key es key' es' = z at C ⊢
  have HC := Lib.hid C
  obtain ⟨W0, hW0⟩ : ∃ W0, (w.alloc (.cells #[.int .u64 n, .int .u64 tm, .string key, .slice p es.length c] 46)).alloc (.cells #[.int .u64 n', .int .u64 tm', .string key', .slice p' es'.length c'] 46) = W0 := ⟨_, rfl⟩
  have k0 : Old w W0 := by rw [← hW0]; exact ((Keeps.refl _ _).alloc _).alloc _
  obtain ⟨b0, b1⟩ := two_blocks w (.cells #[.int .u64 n, .int .u64 tm, .string key, .slice p es.length c] 46) (.cells #[.int .u64 n', .int .u64 tm', .string key', .slice p' es'.length c'] 46)
  rw [hW0] at b0 b1
  have g0 := blk4 b0
  have g1 := blk4 b1
  have K := Lib.hid k0
  clear k0 b0 b1 C h h'
  cases hn : (n == n')
  · have hi : ((n : Int) == (n' : Int)) = false := by rw [beq_eq_false_iff_ne] at hn ⊢; omega
    clear hn
    go_enter Try.func27, Try.ntmps27
    go_wp2_with fail
    go_ret
    exact ⟨rfl, K.out⟩
  · have hi : ((n : Int) == (n' : Int)) = true := by rw [beq_iff_eq] at hn ⊢; omega
    clear hn
    cases ht : (tm == tm')
    · have hi2 : ((tm : Int) == (tm' : Int)) = false := by rw [beq_eq_false_iff_ne] at ht ⊢; omega
      clear ht
      go_enter Try.func27, Try.ntmps27
      go_wp2_with fail
      go_ret
      exact ⟨rfl, K.out⟩
    · have hi2 : ((tm : Int) == (tm' : Int)) = true := by rw [beq_iff_eq] at ht ⊢; omega
      clear ht
      go_enter Try.func27, Try.ntmps27
      go_wp2_with fail
      refine (HC.out _ K.out).mono ?_
      rintro e w1 ⟨rfl, k1⟩
      have K1 := Lib.hid k1
      clear k1
      go_wp2_with fail
      go_ret
      exact ⟨rfl, K.out.trans K1.out⟩
end Go.Proofs.Ytlpbbcjmmhabfaa

namespace Go.Proofs.Ytlpbbcjmmhabfaa
open Go.RowKit

theorem eq_u64 (d : Nat) (x y : Int) (W : World) : (Op.equalIn (d+1) 44 (.int .u64 x) (.int .u64 y)).run Try.prog W = .ok (x == y) W := by
  unfold Op.equalIn; simp [go_sem]
theorem eq_gap_in (m : Nat) (F : ∀ x y W, (Op.equalIn m 44 (.int .u64 x) (.int .u64 y)).run Try.prog W = .ok (x == y) W) (a a' b b' : Int) (W : World) :
    (Op.equalIn (m+1) 82 (.agg #[.int .u64 a, .int .u64 b]) (.agg #[.int .u64 a', .int .u64 b'])).run Try.prog W = .ok (a == a' && b == b') W := by
  have hst : Try.prog.stoodInHeld 82 = false := by kernel_rfl
  unfold Op.equalIn
  cases h1 : (a == a')
  · simp [go_sem, hst, F, h1]
  · cases h2 : (b == b') <;> simp [go_sem, hst, F, h1, h2]
theorem neq_gap (a a' b b' : Int) (W : World) :
    (binOp .neq 82 (.agg #[.int .u64 a, .int .u64 b]) (.agg #[.int .u64 a', .int .u64 b'])).run Try.prog W = .ok (.bool (!(a == a' && b == b'))) W := by
  have h := eq_gap_in 9999 (eq_u64 9998) a a' b b' W
  simp [binOp, go_sem, Op.equal, Op.maxDepth, h]
theorem eqAt_iff (a b : At) : eqAt a b = true ↔ a = b := by
  obtain ⟨x, ⟨k, n, s, t⟩⟩ := a
  obtain ⟨x', ⟨k', n', s', t'⟩⟩ := b
  unfold eqAt
  simp only [Bool.and_eq_true, bytes_eq, beq_iff_eq, At.mk.injEq, Val.mk.injEq]
theorem sameE_iff (k k' : ByteArray) (l m : List At) : sameE k l k' m = true ↔ k = k' ∧ l = m := by
  unfold sameE sameL
  simp only [Bool.and_eq_true, beq_iff_eq, decide_eq_true_eq, List.all_eq_true, List.mem_range]
  constructor
  · rintro ⟨h1, h2, h3⟩
    refine ⟨arr_ext h1, List.ext_getElem h2 (fun i g1 g2 => ?_)⟩
    have h := h3 i g1
    unfold sameAt at h
    rw [List.getElem?_eq_getElem g1, List.getElem?_eq_getElem g2] at h
    exact (eqAt_iff _ _).1 h
  · rintro ⟨rfl, rfl⟩
    refine ⟨rfl, rfl, fun i hi => ?_⟩
    unfold sameAt
    rw [List.getElem?_eq_getElem hi]
    exact (eqAt_iff _ _).2 rfl
theorem sameI_iff (x y : PIt) : sameI x y = true ↔ x = y := by
  obtain ⟨n, tm, k, es⟩ := x
  obtain ⟨n', tm', k', es'⟩ := y
  unfold sameI
  simp only [Bool.and_eq_true, beq_iff_eq, sameE_iff, PIt.mk.injEq]
/-- are these lists the same? -/
def eqL {α : Type} (f : α → α → Bool) : List α → List α → Bool
  | [], [] => true
  | a :: l, b :: m => f a b && eqL f l m
  | [], _ :: _ => false
  | _ :: _, [] => false
theorem eqL_iff {α : Type} {f : α → α → Bool} (hf : ∀ a b, f a b = true ↔ a = b) : ∀ l m, eqL f l m = true ↔ l = m
  | [], [] => by simp [eqL]
  | [], _ :: _ => by simp [eqL]
  | _ :: _, [] => by simp [eqL]
  | a :: l, b :: m => by simp [eqL, hf, eqL_iff hf l m]
/-- are these pages the same? -/
def sameG (x y : PPg) : Bool := (x.fr == y.fr) && ((x.en == y.en) && ((x.last == y.last) && (eqL sameI x.items y.items && eqL (fun a b => a == b) x.gaps y.gaps)))
theorem sameG_iff (x y : PPg) : sameG x y = true ↔ x = y := by
  obtain ⟨a, b, c, d, e⟩ := x
  obtain ⟨a', b', c', d', e'⟩ := y
  unfold sameG
  simp only [Bool.and_eq_true, beq_iff_eq, eqL_iff sameI_iff, eqL_iff (fun (a b : PGap) => (beq_iff_eq : (a == b) = true ↔ a = b)), PPg.mk.injEq]
  constructor
  · rintro ⟨h1, h2, h3, h4, h5⟩; exact ⟨h1, h2, h4, h5, h3⟩
  · rintro ⟨h1, h2, h4, h5, h3⟩; exact ⟨h1, h2, h3, h4, h5⟩
theorem sameG_no {x y : PPg} (h : ¬ x = y) : sameG x y = false := by rw [Bool.eq_false_iff]; exact fun g => h ((sameG_iff x y).1 g)
theorem take_next {α : Type} {l m : List α} {i : Nat} (h : l.take i = m.take i) {x : α} (hx : l[i]? = some x) (hy : m[i]? = some x) : l.take (i + 1) = m.take (i + 1) := by
  rw [List.take_add_one, List.take_add_one, h, hx, hy]

set_option maxRecDepth 100000 in
set_option maxHeartbeats 4000000 in
theorem same_page_any (x y : Pg) (w : World) (h : x.fine w) (h' : y.fine w) :
    Calls Try.prog 33 #[.agg x.cells.toArray, .agg y.cells.toArray] w fun e w' => e = .returned (.bool (sameG x.plain y.plain)) ∧ Old w w' := by
  obtain ⟨fr, en, iv, its, gv, gs, last⟩ := x
  obtain ⟨fr', en', iv', its', gv', gs', last'⟩ := y
  obtain ⟨⟨hi, hif, hg⟩, _, _, _⟩ := h
  obtain ⟨⟨hi', hif', hg'⟩, _, _, _⟩ := h'
  simp only at hi hif hg hi' hif' hg'
  obtain ⟨p, c, rfl, b1, b2⟩ := hi.len
  obtain ⟨p', c', rfl, b3, b4⟩ := hi'.len
  obtain ⟨q, d, rfl, b5, b6⟩ := hg.len
  obtain ⟨q', d', rfl, b7, b8⟩ := hg'.len
  have m1 : its.length ≤ 9223372036854775807 := by unfold maxLen at b2; omega
  have m2 : its'.length ≤ 9223372036854775807 := by unfold maxLen at b4; omega
  have m3 : gs.length ≤ 9223372036854775807 := by unfold maxLen at b6; omega
  have m4 : gs'.length ≤ 9223372036854775807 := by unfold maxLen at b8; omega
  clear b1 b2 b3 b4 b5 b6 b7 b8
  have H := Lib.hid (And.intro hi (And.intro hi' (And.intro hg (And.intro hg' (And.intro hif hif')))))
  clear hi hi' hg hg' hif hif'
  have hS := sameG_iff (Pg.plain ⟨fr, en, .slice p its.length c, its, .slice q gs.length d, gs, last⟩) (Pg.plain ⟨fr', en', .slice p' its'.length c', its', .slice q' gs'.length d', gs', last'⟩)
  generalize sameG (Pg.plain ⟨fr, en, .slice p its.length c, its, .slice q gs.length d, gs, last⟩) (Pg.plain ⟨fr', en', .slice p' its'.length c', its', .slice q' gs'.length d', gs', last'⟩) = z at hS ⊢
  unfold Pg.plain at hS
  simp only [PPg.mk.injEq] at hS
  unfold Pg.cells
  simp only
  obtain ⟨W0, hW0⟩ : ∃ W0, (w.alloc (.cells #[.int .u64 fr, .int .u64 en, .slice p its.length c, .slice q gs.length d, .bool last] 50)).alloc (.cells #[.int .u64 fr', .int .u64 en', .slice p' its'.length c', .slice q' gs'.length d', .bool last'] 50) = W0 := ⟨_, rfl⟩
  have k0 : Old w W0 := by rw [← hW0]; exact ((Keeps.refl _ _).alloc _).alloc _
  obtain ⟨b0, b1⟩ := two_blocks w (.cells #[.int .u64 fr, .int .u64 en, .slice p its.length c, .slice q gs.length d, .bool last] 50) (.cells #[.int .u64 fr', .int .u64 en', .slice p' its'.length c', .slice q' gs'.length d', .bool last'] 50)
  rw [hW0] at b0 b1
  have g0 := blk5 b0
  have g1 := blk5 b1
  have B := Lib.hid (And.intro k0 (And.intro b0 b1))
  clear k0 b0 b1
  by_cases h1 : fr = fr'
  case neg =>
    have t1 : ((fr : Int) != (fr' : Int)) = true := by rw [bne_iff_ne]; omega
    obtain rfl : z = false := by rw [Bool.eq_false_iff]; exact fun g => h1 (hS.1 g).1
    clear hS h1
    go_enter Try.func33, Try.ntmps33
    go_wp2_with fail
    go_ret
    exact ⟨rfl, B.out.1⟩
  subst h1
  have t1 : ((fr : Int) != (fr : Int)) = false := by simp
  by_cases h2 : en = en'
  case neg =>
    have t2 : ((en : Int) != (en' : Int)) = true := by rw [bne_iff_ne]; omega
    obtain rfl : z = false := by rw [Bool.eq_false_iff]; exact fun g => h2 (hS.1 g).2.1
    clear hS h2
    go_enter Try.func33, Try.ntmps33
    go_wp2_with fail
    go_ret
    exact ⟨rfl, B.out.1⟩
  subst h2
  have t2 : ((en : Int) != (en : Int)) = false := by simp
  by_cases h3 : last = last'
  case neg =>
    obtain rfl : z = false := by rw [Bool.eq_false_iff]; exact fun g => h3 (hS.1 g).2.2.2.2
    clear hS
    cases last <;> cases last'
    all_goals first | exact absurd rfl h3 | skip
    all_goals
      clear h3
      go_enter Try.func33, Try.ntmps33
      go_wp2_with fail
      go_ret
      exact ⟨rfl, B.out.1⟩
  subst h3
  have t3 : (last != last) = false := by simp
  by_cases h4 : its.length = its'.length
  case neg =>
    have t4 : ((its.length : Int) != (its'.length : Int)) = true := by rw [bne_iff_ne]; omega
    obtain rfl : z = false := by rw [Bool.eq_false_iff]; exact fun g => h4 (by have := congrArg List.length (hS.1 g).2.2.1; simpa using this)
    clear hS h4
    go_enter Try.func33, Try.ntmps33
    go_wp2_with fail
    go_ret
    exact ⟨rfl, B.out.1⟩
  have t4 : ((its.length : Int) != (its'.length : Int)) = false := by rw [h4]; simp
  by_cases h5 : gs.length = gs'.length
  case neg =>
    have t5 : ((gs.length : Int) != (gs'.length : Int)) = true := by rw [bne_iff_ne]; omega
    obtain rfl : z = false := by rw [Bool.eq_false_iff]; exact fun g => h5 (by have := congrArg List.length (hS.1 g).2.2.2.1; simpa using this)
    clear hS h4 h5
    go_enter Try.func33, Try.ntmps33
    go_wp2_with fail
    go_ret
    exact ⟨rfl, B.out.1⟩
  have t5 : ((gs.length : Int) != (gs'.length : Int)) = false := by rw [h5]; simp
  have HL := Lib.hid (And.intro h4 h5)
  have HS := Lib.hid hS
  clear hS h4 h5
  go_enter Try.func33, Try.ntmps33
  go_wp2_with fail
  clear t1 t2 t3 t4 t5 g0 g1
  go_loopw [5] (fun v5 wr => ∃ i : Nat, i ≤ its.length ∧ v5 = .int .i64 i ∧ (its.map It.plain).take i = (its'.map It.plain).take i ∧ Old W0 wr) (fun v5 _ => its.length - (intOf v5).toNat)
  case atStart => exact ⟨0, by omega, rfl, rfl, Keeps.refl _ _⟩
  case round =>
    obtain ⟨i, hi, rfl, hr, hk⟩ := hrel
    have HR := Lib.hid hr
    have b0 := (hk.block _ (lt_of_heap B.out.2.1) (fun f => f)).trans B.out.2.1
    have b1 := (hk.block _ (lt_of_heap B.out.2.2) (fun f => f)).trans B.out.2.2
    have g0 := blk5 b0
    have g1 := blk5 b1
    have KW := Lib.hid (And.intro hk (And.intro b0 b1))
    clear hr hk b0 b1
    by_cases hlt : i < its.length
    · have hlt' : i < its'.length := by have := HL.out.1; omega
      obtain ⟨b, o, cc, he, _, _, hc⟩ := H.out.1.at (by omega)
      obtain ⟨b', o', cc', he', _, _, hc'⟩ := H.out.2.1.at (by omega)
      simp only [Value.slice.injEq, true_and] at he he'
      obtain ⟨rfl, rfl⟩ := he
      obtain ⟨rfl, rfl⟩ := he'
      obtain ⟨x, hx⟩ : ∃ x, its[i]? = some x := ⟨_, List.getElem?_eq_getElem hlt⟩
      obtain ⟨y, hy⟩ : ∃ y, its'[i]? = some y := ⟨_, List.getElem?_eq_getElem hlt'⟩
      have cx := fun j u (hu : x.cells[j]? = some u) => OldOf.cell ((B.out.1.trans KW.out.1).cell (hc i x hx j u hu) (fun f => f))
      have cy := fun j u (hu : y.cells[j]? = some u) => OldOf.cell ((B.out.1.trans KW.out.1).cell (hc' i y hy j u hu) (fun f => f))
      have x0 := cx 0 _ rfl
      have x1 := cx 1 _ rfl
      have x2 := cx 2 _ rfl
      have x3 := cx 3 _ rfl
      have y0 := cy 0 _ rfl
      have y1 := cy 1 _ rfl
      have y2 := cy 2 _ rfl
      have y3 := cy 3 _ rfl
      simp only [Nat.add_zero] at x0 y0
      have n1 := OldOf.cell g0.1.2.2.1
      have n2 := OldOf.cell g1.1.2.2.1
      have i1 : (0 : Int) ≤ (i : Int) := by omega
      have i2 : (i : Int) < (its.length : Int) := by omega
      have i3 : (i : Int) < (its'.length : Int) := by omega
      have CW := fun (W : World) (k : Old w W) => same_item_any x y W (It.fine.old (H.out.2.2.2.2.1 x (List.mem_of_getElem? hx)) k) (It.fine.old (H.out.2.2.2.2.2 y (List.mem_of_getElem? hy)) k)
      unfold It.cells at CW
      have hxy := sameI_iff x.plain y.plain
      generalize sameI x.plain y.plain = zv at hxy CW
      have CV := Lib.hid CW
      have HX := Lib.hid (And.intro hx (And.intro hy hxy))
      clear hx hy cx cy hc hc' CW hxy
      cases zv
      · go_wp2_with fail
        refine wp_region_quiet_old (by kernel_rfl) (by kernel_rfl) ?_
        repeat (go_big_quiet_step (((go_at_call 27; exact Calls.quiet_of_old (CV.out _ ((B.out.1.trans KW.out.1).trans (OldOf.old _)))))))
        refine wpQuiet_nil ?_
        intro _ hpq
        obtain ⟨pq, hpq'⟩ := hpq
        subst hpq'
        go_wp2_with fail
        go_ret
        refine ⟨ret_bool ?_, B.out.1.trans (KW.out.1.trans pq.old)⟩
        symm
        rw [Bool.eq_false_iff]
        intro g
        have e := congrArg (fun l => l[i]?) (HS.out.1 g).2.2.1
        simp [HX.out.1, HX.out.2.1] at e
        exact absurd (HX.out.2.2) (by simp [e])
      · go_wp2_with fail
        refine wp_region_quiet_old (by kernel_rfl) (by kernel_rfl) ?_
        repeat (go_big_quiet_step (((go_at_call 27; exact Calls.quiet_of_old (CV.out _ ((B.out.1.trans KW.out.1).trans (OldOf.old _)))))))
        refine wpQuiet_nil ?_
        intro _ hpq
        obtain ⟨pq, hpq'⟩ := hpq
        subst hpq'
        go_wp2_with fail
        go_roundw
        case rel =>
          have e : x.plain = y.plain := by
            have h := HX.out.2.2
            first | exact h.1 rfl | exact h.1 trivial | exact h
          exact ⟨i + 1, by omega, by go_num, take_next HR.out (x := x.plain) (by simp [HX.out.1]) (by simp [HX.out.2.1, e]), KW.out.1.trans pq.old⟩
        case measure => simp [intOf]; omega
    · have hall : its.map It.plain = its'.map It.plain := by
        have e := HR.out
        rw [List.take_of_length_le (by simp; omega), List.take_of_length_le (by have := HL.out.1; simp; omega)] at e
        exact e
      have HA := Lib.hid hall
      clear hall
      go_wp2_with fail
      obtain ⟨wo, hwo⟩ : ∃ wo : World, wo = wr := ⟨_, rfl⟩
      subst hwo
      go_loopw [6] (fun v6 wr => ∃ i : Nat, i ≤ gs.length ∧ v6 = .int .i64 i ∧ gs.take i = gs'.take i ∧ Old wo wr) (fun v6 _ => gs.length - (intOf v6).toNat)
      case atStart => exact ⟨0, by omega, rfl, rfl, Keeps.refl _ _⟩
      case round =>
        obtain ⟨i, hi, rfl, hr, hk⟩ := hrel
        have HR2 := Lib.hid hr
        have g0 := blk5 ((hk.block _ (lt_of_heap KW.out.2.1) (fun f => f)).trans KW.out.2.1)
        have g1 := blk5 ((hk.block _ (lt_of_heap KW.out.2.2) (fun f => f)).trans KW.out.2.2)
        have KX := Lib.hid hk
        clear hr hk
        by_cases hlt : i < gs.length
        · have hlt' : i < gs'.length := by have := HL.out.2; omega
          obtain ⟨b, o, cc, he, _, _, hc⟩ := H.out.2.2.1.at (by omega)
          obtain ⟨b', o', cc', he', _, _, hc'⟩ := H.out.2.2.2.1.at (by omega)
          simp only [Value.slice.injEq, true_and] at he he'
          obtain ⟨rfl, rfl⟩ := he
          obtain ⟨rfl, rfl⟩ := he'
          obtain ⟨⟨xa, xb⟩, hx⟩ : ∃ x, gs[i]? = some x := ⟨_, List.getElem?_eq_getElem hlt⟩
          obtain ⟨⟨ya, yb⟩, hy⟩ : ∃ y, gs'[i]? = some y := ⟨_, List.getElem?_eq_getElem hlt'⟩
          have cx := fun j u (hu : (gapL (xa, xb))[j]? = some u) => OldOf.cell ((B.out.1.trans (KW.out.1.trans KX.out)).cell (hc i _ hx j u hu) (fun f => f))
          have cy := fun j u (hu : (gapL (ya, yb))[j]? = some u) => OldOf.cell ((B.out.1.trans (KW.out.1.trans KX.out)).cell (hc' i _ hy j u hu) (fun f => f))
          have x0 := cx 0 _ rfl
          have x1 := cx 1 _ rfl
          have y0 := cy 0 _ rfl
          have y1 := cy 1 _ rfl
          simp only [Nat.add_zero] at x0 y0
          have n1 := OldOf.cell g0.1.2.2.2.1
          have n2 := OldOf.cell g1.1.2.2.2.1
          have i1 : (0 : Int) ≤ (i : Int) := by omega
          have i2 : (i : Int) < (gs.length : Int) := by omega
          have i3 : (i : Int) < (gs'.length : Int) := by omega
          have hNE := neq_gap (xa : Int) (ya : Int) (xb : Int) (yb : Int)
          have hxy : (((xa : Int) == (ya : Int)) && ((xb : Int) == (yb : Int))) = true ↔ (xa, xb) = (ya, yb) := by simp only [Bool.and_eq_true, beq_iff_eq, Prod.mk.injEq]; omega
          generalize (((xa : Int) == (ya : Int)) && ((xb : Int) == (yb : Int))) = zv at hNE hxy
          have HX := Lib.hid (And.intro hx (And.intro hy hxy))
          clear hx hy cx cy hc hc' hxy
          cases zv
          · go_wp2_with fail
            refine wp_region_quiet_old (by kernel_rfl) (by kernel_rfl) ?_
            repeat (go_big_quiet_step ((fail)))
            refine wpQuiet_nil ?_
            intro _ hpq
            obtain ⟨pq, hpq'⟩ := hpq
            subst hpq'
            go_wp2_with fail
            go_ret
            refine ⟨ret_bool ?_, B.out.1.trans (KW.out.1.trans (KX.out.trans pq.old))⟩
            symm
            rw [Bool.eq_false_iff]
            intro g
            have e := congrArg (fun l => l[i]?) (HS.out.1 g).2.2.2.1
            simp only [HX.out.1, HX.out.2.1, Option.some.injEq] at e
            exact absurd (HX.out.2.2) (by simp [e])
          · go_wp2_with fail
            refine wp_region_quiet_old (by kernel_rfl) (by kernel_rfl) ?_
            repeat (go_big_quiet_step ((fail)))
            refine wpQuiet_nil ?_
            intro _ hpq
            obtain ⟨pq, hpq'⟩ := hpq
            subst hpq'
            go_wp2_with fail
            go_roundw
            case rel =>
              have e : (xa, xb) = (ya, yb) := by
                have h := HX.out.2.2
                first | exact h.1 rfl | exact h.1 trivial | exact h | (simpa using h)
              exact ⟨i + 1, by omega, by go_num, take_next HR2.out (x := (xa, xb)) HX.out.1 (by rw [HX.out.2.1, e]), KX.out.trans pq.old⟩
            case measure => simp [intOf]; omega
        · have hall : gs = gs' := by
            have e := HR2.out
            rw [List.take_of_length_le (by omega), List.take_of_length_le (by have := HL.out.2; omega)] at e
            exact e
          have HB := Lib.hid hall
          clear hall
          go_wp2_with fail
          go_ret
          exact ⟨ret_bool (by have h := HS.out.2; simp only [true_and, and_true] at h; exact (h ⟨HA.out, HB.out⟩).symm), B.out.1.trans (KW.out.1.trans KX.out)⟩
end Go.Proofs.Ytlpbbcjmmhabfaa
