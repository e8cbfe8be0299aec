/- DERIVED. Sameness of events and items: the document's Same (layers 2 and 7). -/
import Derived.Test.YtpehpidlcdfhcaaEv
namespace Go.Proofs.Ytpehpidlcdfhcaa
open Go.RowKit

theorem two_blocks (w : World) (o1 o2 : Obj) : ((w.alloc o1).alloc o2).heap[w.heap.size]? = some o1 ∧ ((w.alloc o1).alloc o2).heap[w.heap.size + 1]? = some o2 := by
  have h1 := heap_alloc_new w o1
  have h2 := heap_alloc_new (w.alloc o1) o2
  have s1 : (w.alloc o1).heap.size = w.heap.size + 1 := by simp
  rw [s1] at h2
  exact ⟨(heap_alloc_old _ _ (by rw [s1]; omega)).trans h1, h2⟩
/-- are two named values the same? -/
def eqAt (a b : At) : Bool := (a.name == b.name) && (a.val.kind == b.val.kind && (a.val.num == b.val.num && (a.val.str == b.val.str && a.val.is == b.val.is)))

set_option maxHeartbeats 2000000 in
theorem eq_attr_in (m : Nat) (F9 : ∀ x y W, (Op.equalIn m 9 (.string x) (.string y)).run Try.prog W = .ok (x == y) W)
    (FV : ∀ (k k' n n' : Int) (s s' : ByteArray) (b b' : Bool) W, (Op.equalIn m 64 (.agg #[.int .i64 k, .int .i64 n, .string s, .bool b]) (.agg #[.int .i64 k', .int .i64 n', .string s', .bool b'])).run Try.prog W = .ok (k == k' && (n == n' && (s == s' && b == b'))) W)
    (x x' : ByteArray) (k k' n n' : Int) (s s' : ByteArray) (b b' : Bool) (W : World) :
    (Op.equalIn (m+1) 66 (.agg #[.string x, .int .i64 k, .int .i64 n, .string s, .bool b]) (.agg #[.string x', .int .i64 k', .int .i64 n', .string s', .bool b'])).run Try.prog W = .ok (x == x' && (k == k' && (n == n' && (s == s' && b == b')))) W := by
  have hst : Try.prog.stoodInHeld 66 = false := by kernel_rfl
  unfold Op.equalIn
  cases h1 : (x == x')
  · simp [go_sem, hst, F9, h1]
  · have FV' := FV k k' n n' s s' b b'
    cases h2 : (k == k' && (n == n' && (s == s' && b == b')))
    · rw [h2] at FV'
      simp [go_sem, hst, F9, FV', h1]
    · rw [h2] at FV'
      simp [go_sem, hst, F9, FV', h1]

theorem neq_attr (x x' : ByteArray) (k k' n n' : Int) (s s' : ByteArray) (b b' : Bool) (W : World) :
    (binOp .neq 66 (.agg #[.string x, .int .i64 k, .int .i64 n, .string s, .bool b]) (.agg #[.string x', .int .i64 k', .int .i64 n', .string s', .bool b'])).run Try.prog W = .ok (.bool (!(x == x' && (k == k' && (n == n' && (s == s' && b == b')))))) W := by
  have h := eq_attr_in 9999 (eq_string 9998) (eq_val_in 9998 (eq_int 9997) (eq_i64 9997) (eq_string 9997) (eq_bool 9997)) x x' k k' n n' s s' b b' W
  simp [binOp, go_sem, Op.equal, Op.maxDepth, h]

/-- are these rows of named values the same? -/
def sameAt (l m : List At) (i : Nat) : Bool := match l[i]?, m[i]? with | some a, some b => eqAt a b | _, _ => true
def sameL (l m : List At) : Bool := decide (l.length = m.length) && (List.range l.length).all (sameAt l m)
/-- are these events the same? -/
def sameE (k : ByteArray) (l : List At) (k' : ByteArray) (m : List At) : Bool := (k.toList == k'.toList) && sameL l m
theorem sameL_false {l m : List At} {i : Nat} (hi : i < l.length) (h : sameAt l m i = false) : sameL l m = false := by
  unfold sameL; rw [Bool.and_eq_false_iff]; right; rw [List.all_eq_false]; exact ⟨i, by simpa using hi, by simp [h]⟩
theorem sameL_true {l m : List At} (hl : l.length = m.length) (h : ∀ i, i < l.length → sameAt l m i = true) : sameL l m = true := by
  unfold sameL; rw [decide_eq_true hl, Bool.true_and, List.all_eq_true]; intro i hi; exact h i (by simpa using hi)

set_option maxRecDepth 100000 in
set_option maxHeartbeats 1000000 in
theorem same_ev_any (k k' : ByteArray) (v v' : Value) (l m : List At) (w : World) (h : SeesA w v l) (h' : SeesA w v' m) :
    Calls Try.prog 27 #[.agg #[.string k, v], .agg #[.string k', v']] w fun e w' => e = .returned (.bool (sameE k l k' m)) ∧ Old w w' := by
  obtain ⟨p, c, rfl, hb1, hb2⟩ := h.len
  obtain ⟨p', c', rfl, _, _⟩ := h'.len
  have hmm : l.length ≤ 9223372036854775807 := by unfold maxLen at hb2; omega
  clear hb1 hb2
  cases hkk : (k.toList == k'.toList)
  · have hne : (k.toList == k'.toList) = false := hkk
    have HK := Lib.hid hkk
    clear hkk h h'
    go_enter Try.func27, Try.ntmps27
    go_wp2_with fail
    go_ret
    exact ⟨ret_bool (by simp [sameE, HK.out]), ((Keeps.refl _ _).alloc _).alloc _⟩
  · have hne : (k.toList == k'.toList) = true := hkk
    have HK := Lib.hid hkk
    clear hkk
    by_cases hl : l.length = m.length
    case neg =>
      have hln : ((l.length : Int) != (m.length : Int)) = true := by rw [bne_iff_ne]; omega
      have HL := Lib.hid hl
      clear hl h h'
      go_enter Try.func27, Try.ntmps27
      go_wp2_with fail
      go_ret
      exact ⟨ret_bool (by simp [sameE, sameL, HL.out]), ((Keeps.refl _ _).alloc _).alloc _⟩
    case pos =>
      have hln : ((l.length : Int) != (m.length : Int)) = false := by rw [hl]; simp
      have H := Lib.hid (And.intro h (And.intro h' hl))
      obtain ⟨W0, hW0⟩ : ∃ W0, (w.alloc (.cells #[.string k, .slice p l.length c] 38)).alloc (.cells #[.string k', .slice p' m.length c'] 38) = W0 := ⟨_, rfl⟩
      have k0 : Old w W0 := by rw [← hW0]; exact ((Keeps.refl _ _).alloc _).alloc _
      obtain ⟨b0, b1⟩ := two_blocks w (.cells #[.string k, .slice p l.length c] 38) (.cells #[.string k', .slice p' m.length c'] 38)
      rw [hW0] at b0 b1
      have c0 : W0.cell? ⟨w.heap.size, 0, none⟩ = some (.string k) := by simp [World.cell?, b0]
      have c1 : W0.cell? ⟨w.heap.size, 1, none⟩ = some (.slice p l.length c) := by simp [World.cell?, b0]
      have d0 : W0.cell? ⟨w.heap.size + 1, 0, none⟩ = some (.string k') := by simp [World.cell?, b1]
      have d1 : W0.cell? ⟨w.heap.size + 1, 1, none⟩ = some (.slice p' m.length c') := by simp [World.cell?, b1]
      have K := Lib.hid k0
      clear h h' hl k0 b0 b1
      go_enter Try.func27, Try.ntmps27
      go_wp2_with fail
      go_loopw [5] (fun v5 wr => ∃ i : Nat, i ≤ l.length ∧ v5 = .int .i64 i ∧ (∀ j, j < i → sameAt l m j = true) ∧ Old W0 wr) (fun v5 _ => l.length - (intOf v5).toNat)
      case atStart => exact ⟨0, by omega, rfl, by intro j hj; omega, Keeps.refl _ _⟩
      case round =>
        obtain ⟨i, hi, rfl, hr, hk⟩ := hrel
        have e1 := hk.cell c1 (fun f => f)
        have f1 := hk.cell d1 (fun f => f)
        have HR := Lib.hid hr
        clear hr
        by_cases hlt : i < l.length
        · obtain ⟨b, o, cc, he, _, _, hc⟩ := H.out.1.at (by omega)
          obtain ⟨b', o', cc', he', _, _, hc'⟩ := H.out.2.1.at (by have := H.out.2.2; omega)
          simp only [Value.slice.injEq, true_and] at he he'
          obtain ⟨rfl, rfl⟩ := he
          obtain ⟨rfl, rfl⟩ := he'
          have hx : l[i]? = some l[i] := List.getElem?_eq_getElem hlt
          obtain ⟨y, hy⟩ : ∃ y, m[i]? = some y := ⟨_, List.getElem?_eq_getElem (by have := H.out.2.2; omega)⟩
          generalize l[i] = x at hx
          have cx := fun j u (hu : x.cells[j]? = some u) => OldOf.cell ((K.out.trans hk).cell (hc i x hx j u hu) (fun f => f))
          have cy := fun j u (hu : y.cells[j]? = some u) => OldOf.cell ((K.out.trans hk).cell (hc' i y hy j u hu) (fun f => f))
          have x0 := cx 0 _ rfl
          have x1 := cx 1 _ rfl
          have x2 := cx 2 _ rfl
          have x3 := cx 3 _ rfl
          have x4 := cx 4 _ rfl
          have y0 := cy 0 _ rfl
          have y1 := cy 1 _ rfl
          have y2 := cy 2 _ rfl
          have y3 := cy 3 _ rfl
          have y4 := cy 4 _ rfl
          simp only [Nat.add_zero] at x0 y0
          have n1 := OldOf.cell e1
          have n2 := OldOf.cell f1
          have i1 : (0 : Int) ≤ (i : Int) := by omega
          have i2 : (i : Int) < (l.length : Int) := by omega
          have i3 : (i : Int) < (m.length : Int) := by have := H.out.2.2; omega
          have hsame : sameAt l m i = eqAt x y := by unfold sameAt; rw [hx, hy]
          have hNE := neq_attr x.name y.name x.val.kind y.val.kind x.val.num y.val.num x.val.str y.val.str x.val.is y.val.is
          have hq : (x.name == y.name && (x.val.kind == y.val.kind && (x.val.num == y.val.num && (x.val.str == y.val.str && x.val.is == y.val.is)))) = eqAt x y := rfl
          simp only [hq] at hNE
          have KW := Lib.hid (And.intro hk hsame)
          clear hx hy cx cy hc hc' hk hsame hq
          cases hb : eqAt x y
          · rw [hb] at hNE
            have HB := Lib.hid hb
            clear hb
            go_wp2_with fail
            refine wp_region_quiet_old (by kernel_rfl) (by kernel_rfl) ?_
            repeat (go_big_quiet_step ((fail)))
            refine wpQuiet_nil ?_
            intro _ hpq
            obtain ⟨pq, hpq'⟩ := hpq
            subst hpq'
            go_wp2_with fail
            go_ret
            exact ⟨ret_bool (by rw [sameE, sameL_false hlt (KW.out.2.trans HB.out), Bool.and_false]), K.out.trans (KW.out.1.trans pq.old)⟩
          · rw [hb] at hNE
            have HB := Lib.hid hb
            clear hb
            go_wp2_with fail
            refine wp_region_quiet_old (by kernel_rfl) (by kernel_rfl) ?_
            repeat (go_big_quiet_step ((fail)))
            refine wpQuiet_nil ?_
            intro _ hpq
            obtain ⟨pq, hpq'⟩ := hpq
            subst hpq'
            go_wp2_with fail
            go_roundw
            case rel =>
              refine ⟨i + 1, by omega, by go_num, fun j hj => ?_, KW.out.1.trans pq.old⟩
              rcases Nat.lt_or_ge j i with h | h
              · exact HR.out j h
              · obtain rfl : j = i := by omega
                exact KW.out.2.trans HB.out
            case measure => simp [intOf]; omega
        · have KW := Lib.hid hk
          clear hk
          go_wp2_with fail
          go_ret
          exact ⟨ret_bool (by rw [sameE, HK.out, sameL_true H.out.2.2 (fun j hj => HR.out j (by omega))]; rfl), K.out.trans KW.out⟩
end Go.Proofs.Ytpehpidlcdfhcaa
