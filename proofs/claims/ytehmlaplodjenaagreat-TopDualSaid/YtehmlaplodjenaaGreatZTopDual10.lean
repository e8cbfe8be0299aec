/- DERIVED. index: an entry, order; a search by halves. · DERIVED. index: first: where in a sorted row a test begins to hold. -/
import Derived.Test.YtehmlaplodjenaaGreatZTopDual01
import Derived.Test.YtehmlaplodjenaaGreatYpTopDual01
import Derived.Test.YtehmlaplodjenaaGreatZTopDual09
import Derived.Deep.DeepCutAuto
import Derived.IntWalk
import Derived.Test.YtehmlaplodjenaaGreatZTopDual02
import Derived.Test.YtehmlaplodjenaaGreatZTopDual05
import Derived.Test.YtehmlaplodjenaaGreatZTopDual03
set_option maxRecDepth 100000
set_option maxHeartbeats 4000000
namespace Go.Proofs.YtehmlaplodjenaaGreat
section
open Go.RowKit
theorem isnan_u64_any (x : Int) (w : World) : Calls Tryz.prog 96 #[.int .u64 x] w fun e w' => e = .returned (.bool false) ∧ w = w' := by
 have t : (x != x) = false := by simp
 go_enter Tryz.func96, Tryz.ntmps96
 go_wp2_with fail
 go_ret
 exact ⟨rfl, rfl⟩
theorem cmp_u64_any (x y : Int) (w : World) : Calls Tryz.prog 47 #[.int .u64 x, .int .u64 y] w fun e w' => e = .returned (.int .i64 (cmpZ x y)) ∧ w = w' := by
 have N := Lib.hid (fun z W => isnan_u64_any z W)
 by_cases h1 : x < y
 ·have t1 : decide (x < y) = true := decide_eq_true h1
  have e : cmpZ x y = -1 := by unfold cmpZ; rw [if_pos h1]
  rw [e]
  clear h1 e
  go_enter Tryz.func47, Tryz.ntmps47
  go_wp2_with fail
  refine (N.out _ _).mono ?_
  rintro e w1 ⟨rfl, rfl⟩
  go_wp2_with fail
  refine (N.out _ _).mono ?_
  rintro e w1 ⟨rfl, rfl⟩
  go_wp2_with fail
  go_ret
  exact ⟨rfl, rfl⟩
 ·have t1 : decide (x < y) = false := decide_eq_false h1
  by_cases h2 : y < x
  ·have t2 : decide (y < x) = true := decide_eq_true h2
   have e : cmpZ x y = 1 := by unfold cmpZ; rw [if_neg h1, if_pos h2]
   rw [e]
   clear h1 h2 e
   go_enter Tryz.func47, Tryz.ntmps47
   go_wp2_with fail
   refine (N.out _ _).mono ?_
   rintro e w1 ⟨rfl, rfl⟩
   go_wp2_with fail
   refine (N.out _ _).mono ?_
   rintro e w1 ⟨rfl, rfl⟩
   go_wp2_with fail
   go_ret
   exact ⟨rfl, rfl⟩
  ·have t2 : decide (y < x) = false := decide_eq_false h2
   have e : cmpZ x y = 0 := by unfold cmpZ; rw [if_neg h1, if_neg h2]
   rw [e]
   clear h1 h2 e
   go_enter Tryz.func47, Tryz.ntmps47
   go_wp2_with fail
   refine (N.out _ _).mono ?_
   rintro e w1 ⟨rfl, rfl⟩
   go_wp2_with fail
   refine (N.out _ _).mono ?_
   rintro e w1 ⟨rfl, rfl⟩
   go_wp2_with fail
   go_ret
   exact ⟨rfl, rfl⟩
structure En where
 v : Val
 n : Nat
def En.cells (e : En) : List Value := [.int .i64 e.v.kind, .int .i64 e.v.num, .string e.v.str, .bool e.v.is, .int .u64 (e.n : Int)]
def orderZ (a b : En) : Int := if valCmp a.v b.v = 0 then cmpZ a.n b.n else valCmp a.v b.v
theorem eorder_any (a b : En) (w : World) : Calls Tryz.prog 18 #[.agg a.cells.toArray, .agg b.cells.toArray] w fun e w' => e = .returned (.int .i64 (orderZ a b)) ∧ Old w w' := by
 have CV := Lib.hid (fun W => val_cmp_any a.v b.v W)
 have CN := Lib.hid (fun W => cmp_u64_any (a.n : Int) (b.n : Int) W)
 obtain ⟨⟨ak, an, as', ab⟩, am⟩ := a
 obtain ⟨⟨bk, bn, bs, bb⟩, bm⟩ := b
 unfold Val.cells at CV
 unfold orderZ En.cells
 simp only at CV CN ⊢
 obtain ⟨z, hz⟩ : ∃ z, valCmp ⟨ak, an, as', ab⟩ ⟨bk, bn, bs, bb⟩ = z := ⟨_, rfl⟩
 rw [hz] at CV ⊢
 obtain ⟨y, hy⟩ : ∃ y, cmpZ (am : Int) (bm : Int) = y := ⟨_, rfl⟩
 rw [hy] at CN ⊢
 clear hz hy
 obtain ⟨W0, hW0⟩ : ∃ W0, (w.alloc (.cells #[.int .i64 ak, .int .i64 an, .string as', .bool ab, .int .u64 (am : Int)] 66)).alloc (.cells #[.int .i64 bk, .int .i64 bn, .string bs, .bool bb, .int .u64 (bm : Int)] 66) = W0 := ⟨_, rfl⟩
 have o0 : Old w W0 := by rw [← hW0]; exact ((Keeps.refl _ _).alloc _).alloc _
 obtain ⟨b1, b2⟩ := two_blocks w (.cells #[.int .i64 ak, .int .i64 an, .string as', .bool ab, .int .u64 (am : Int)] 66) (.cells #[.int .i64 bk, .int .i64 bn, .string bs, .bool bb, .int .u64 (bm : Int)] 66)
 rw [hW0] at b1 b2
 have q1 := blk5 b1
 have q2 := blk5 b2
 have O := Lib.hid (And.intro o0 (And.intro b1 b2))
 clear o0 b1 b2
 go_enter Tryz.func18, Tryz.ntmps18
 go_upto_region 1 with fail
 clear hW0
 go_wp2_with fail
 refine (CV.out _).mono ?_
 rintro e w1 ⟨rfl, k1⟩
 have q1 := blk5 ((k1.block _ (lt_of_heap O.out.2.1) (fun f => f)).trans O.out.2.1)
 have q2 := blk5 ((k1.block _ (lt_of_heap O.out.2.2) (fun f => f)).trans O.out.2.2)
 have K := Lib.hid (O.out.1.trans k1)
 clear k1
 by_cases h : z = 0
 ·subst h
  go_wp2_with fail
  refine (CN.out _).mono ?_
  rintro e w2 ⟨rfl, rfl⟩
  go_wp2_with fail
  go_ret
  exact ⟨rfl, K.out⟩
 ·have hb : (z != 0) = true := by simpa using h
  go_wp2_with fail
  go_ret
  exact ⟨rfl, K.out⟩
def SplitS {α : Type} (q : α → Bool) (L : List α) (i : Nat) : Prop := i ≤ L.length ∧ (∀ j x, j < i → L[j]? = some x → q x = true) ∧ (∀ j x, i ≤ j → L[j]? = some x → q x = false)
def Mono {α : Type} (q : α → Bool) (L : List α) : Prop := ∀ (i j : Nat) (x y : α), i ≤ j → L[i]? = some x → L[j]? = some y → q y = true → q x = true
theorem bsf_entry (v : Value) (L : List En) (t : En) (w : World) (h : SeesR w 5 En.cells v L) (hm : Mono (fun x => decide (orderZ x t < 0)) L) (hl : L.length ≤ 1000000) :
  Calls Tryz.prog 17 #[v, .agg t.cells.toArray, .func (.func 18) #[] #[]] w fun e w' => ∃ (i : Nat) (u : Value), e = .returned (.tuple #[.int .i64 i, u]) ∧ SplitS (fun x => decide (orderZ x t < 0)) L i ∧ Old w w' := by
 have EO := Lib.hid (fun x W => eorder_any x t W)
 obtain ⟨p, c, rfl, _, _⟩ := h.len
 have H := Lib.hid (And.intro h hm)
 clear h hm
 obtain ⟨⟨tk, tn, ts, tb⟩, tm⟩ := t
 simp only [En.cells] at EO ⊢
 obtain ⟨W0, hW0⟩ : ∃ W0, w.alloc (.cells #[.int .i64 tk, .int .i64 tn, .string ts, .bool tb, .int .u64 (tm : Int)] 66) = W0 := ⟨_, rfl⟩
 have o0 : Old w W0 := by rw [← hW0]; exact (Keeps.refl _ _).alloc _
 have b0 : W0.heap[w.heap.size]? = some (.cells #[.int .i64 tk, .int .i64 tn, .string ts, .bool tb, .int .u64 (tm : Int)] 66 (0, 0)) := by rw [← hW0]; exact heap_alloc_new _ _
 have O := Lib.hid (And.intro o0 b0)
 clear o0 b0
 have hl9 : L.length ≤ 9223372036854775807 := by omega
 go_enter Tryz.func17, Tryz.ntmps17
 go_upto_region 1 with fail
 clear hW0
 go_wp2_with fail
 go_loopw [9, 10] (fun v9 v10 wr => ∃ lo hi : Nat, lo ≤ hi ∧ hi ≤ L.length ∧ v9 = .int .i64 lo ∧ v10 = .int .i64 hi ∧ (∀ j x, j < lo → L[j]? = some x → decide (orderZ x ⟨⟨tk, tn, ts, tb⟩, tm⟩ < 0) = true) ∧ (∀ j x, hi ≤ j → L[j]? = some x → decide (orderZ x ⟨⟨tk, tn, ts, tb⟩, tm⟩ < 0) = false) ∧ Old W0 wr) (fun v9 v10 _ => (intOf v10).toNat - (intOf v9).toNat)
 case atStart => exact ⟨0, L.length, Nat.zero_le _, Nat.le_refl _, rfl, rfl, (fun j x hj => by omega), (fun j x hj hx => by rw [List.getElem?_eq_none hj] at hx; cases hx), Keeps.refl _ _⟩
 case round =>
  obtain ⟨wq, hwq⟩ : ∃ wq : World, wq = wr := ⟨_, rfl⟩
  subst hwq
  obtain ⟨lo, hi, hlh, hhl, rfl, rfl, h1, h2, hk⟩ := hrel
  have G := Lib.hid (And.intro h1 (And.intro h2 hk))
  clear h1 h2
  by_cases hlt : lo < hi
  ·have i1 : IntKind.i64.wrap ((lo : Int) + (hi : Int)) = (lo : Int) + (hi : Int) := IntWalk.i64_in _ (by omega)
   have i2 : IntKind.u64.wrap ((lo : Int) + (hi : Int)) = (lo : Int) + (hi : Int) := IntWalk.u64_in _ (by omega)
   obtain ⟨m, hmm⟩ : ∃ m : Nat, ((lo : Int) + (hi : Int)) / 2 = (m : Int) := ⟨(lo + hi) / 2, by omega⟩
   have hm1 : lo ≤ m := by omega
   have hm2 : m < hi := by omega
   obtain ⟨b, o, cp, he, _, _, hc⟩ := H.out.1.at (by omega)
   simp only [Value.slice.injEq, true_and] at he
   obtain ⟨rfl, rfl⟩ := he
   obtain ⟨x, hx⟩ : ∃ x, L[m]? = some x := ⟨_, List.getElem?_eq_getElem (by omega)⟩
   have k0 := O.out.1.trans hk
   have cell : ∀ i u, (En.cells x)[i]? = some u → wq.cell? ⟨b, o + m * 5 + i, none⟩ = some u := fun i u hu => k0.cell (hc m x hx i u hu) (fun f => f)
   have c0 := OldOf.cell (cell 0 _ rfl)
   have c1 := OldOf.cell (cell 1 _ rfl)
   have c2 := OldOf.cell (cell 2 _ rfl)
   have c3 := OldOf.cell (cell 3 _ rfl)
   have c4 := OldOf.cell (cell 4 _ rfl)
   simp only [Nat.add_zero] at c0
   have bt := blk5 ((hk.block _ (lt_of_heap O.out.2) (fun f => f)).trans O.out.2)
   have t0 := OldOf.cell bt.1.1
   have t1 := OldOf.cell bt.1.2.1
   have t2 := OldOf.cell bt.1.2.2.1
   have t3 := OldOf.cell bt.1.2.2.2.1
   have t4 := OldOf.cell bt.1.2.2.2.2
   have EX := Lib.hid (fun q : OldOf wq => Calls.quiet_of_old (p := q) (EO.out x q.to))
   have HX := Lib.hid hx
   clear cell hk k0 hc bt hx
   obtain ⟨z, hz⟩ : ∃ z, orderZ x ⟨⟨tk, tn, ts, tb⟩, tm⟩ = z := ⟨_, rfl⟩
   rw [hz] at EX
   have HZ := Lib.hid hz
   clear hz
   obtain ⟨⟨xk, xn, xs, xb⟩, xm⟩ := x
   simp only at EX
   by_cases h0 : z < 0
   ·have d0 : decide (z < 0) = true := decide_eq_true h0
    go_upto_region 5 with fail
    refine wp_region_quiet_old (by kernel_rfl) (by kernel_rfl) ?_
    repeat (go_big_quiet_step ((go_at_call 18; exact EX.out _)))
    refine wpQuiet_nil ?_
    intro _ hpq
    obtain ⟨pq, hpq'⟩ := hpq
    subst hpq'
    go_wp2_with fail
    have i3 : IntKind.i64.wrap ((m : Int) + 1) = (m : Int) + 1 := IntWalk.i64_in _ (by omega)
    go_wp2_with fail
    go_roundw
    case rel =>
     refine ⟨m + 1, hi, by omega, hhl, by go_num, rfl, fun j y hj hy => ?_, G.out.2.1, G.out.2.2.trans pq.old⟩
     exact H.out.2 j m y _ (by omega) hy HX.out (by show decide (orderZ _ _ < 0) = true; rw [HZ.out]; exact d0)
    case measure => simp [intOf]; omega
   ·have d0 : decide (z < 0) = false := decide_eq_false h0
    go_upto_region 5 with fail
    refine wp_region_quiet_old (by kernel_rfl) (by kernel_rfl) ?_
    repeat (go_big_quiet_step ((go_at_call 18; exact EX.out _)))
    refine wpQuiet_nil ?_
    intro _ hpq
    obtain ⟨pq, hpq'⟩ := hpq
    subst hpq'
    go_wp2_with fail
    go_roundw
    case rel =>
     refine ⟨lo, m, hm1, by omega, rfl, rfl, G.out.1, fun j y hj hy => ?_, G.out.2.2.trans pq.old⟩
     cases hd : decide (orderZ y ⟨⟨tk, tn, ts, tb⟩, tm⟩ < 0) with
     | false => rfl
     | true =>
      have h9 : decide (orderZ _ _ < 0) = true := H.out.2 m j _ y hj HX.out hy hd
      rw [HZ.out, d0] at h9
      cases h9
    case measure => simp [intOf]; omega
  ·have hle : lo = hi := by omega
   subst hle
   have hnl : ¬ lo < lo := hlt
   have dl : decide ((lo : Int) < (lo : Int)) = false := decide_eq_false (by omega)
   have HSP := Lib.hid (show SplitS (fun x => decide (orderZ x ⟨⟨tk, tn, ts, tb⟩, tm⟩ < 0)) L lo from ⟨hhl, G.out.1, G.out.2.1⟩)
   by_cases hin : lo < L.length
   ·obtain ⟨b, o, cp, he, _, _, hc⟩ := H.out.1.at (by omega)
    simp only [Value.slice.injEq, true_and] at he
    obtain ⟨rfl, rfl⟩ := he
    obtain ⟨x, hx⟩ : ∃ x, L[lo]? = some x := ⟨_, List.getElem?_eq_getElem (by omega)⟩
    have k0 := O.out.1.trans hk
    have cell : ∀ i u, (En.cells x)[i]? = some u → wq.cell? ⟨b, o + lo * 5 + i, none⟩ = some u := fun i u hu => k0.cell (hc lo x hx i u hu) (fun f => f)
    have c0 := OldOf.cell (cell 0 _ rfl)
    have c1 := OldOf.cell (cell 1 _ rfl)
    have c2 := OldOf.cell (cell 2 _ rfl)
    have c3 := OldOf.cell (cell 3 _ rfl)
    have c4 := OldOf.cell (cell 4 _ rfl)
    simp only [Nat.add_zero] at c0
    have bt := blk5 ((hk.block _ (lt_of_heap O.out.2) (fun f => f)).trans O.out.2)
    have t0 := OldOf.cell bt.1.1
    have t1 := OldOf.cell bt.1.2.1
    have t2 := OldOf.cell bt.1.2.2.1
    have t3 := OldOf.cell bt.1.2.2.2.1
    have t4 := OldOf.cell bt.1.2.2.2.2
    have EX := Lib.hid (fun q : OldOf wq => Calls.quiet_of_old (p := q) (EO.out x q.to))
    clear cell hk k0 hc bt hx
    obtain ⟨z, hz⟩ : ∃ z, orderZ x ⟨⟨tk, tn, ts, tb⟩, tm⟩ = z := ⟨_, rfl⟩
    rw [hz] at EX
    clear hz
    obtain ⟨⟨xk, xn, xs, xb⟩, xm⟩ := x
    simp only at EX
    have dn : decide ((lo : Int) < (L.length : Int)) = true := decide_eq_true (by omega)
    go_upto_region 8 with fail
    refine wp_region_quiet_old (by kernel_rfl) (by kernel_rfl) ?_
    repeat (go_big_quiet_step ((go_at_call 18; exact EX.out _)))
    refine wpQuiet_nil ?_
    intro _ hpq
    obtain ⟨pq, hpq'⟩ := hpq
    subst hpq'
    go_wp2_with fail
    go_ret2
    first | exact ⟨lo, _, rfl, HSP.out, O.out.1.trans (G.out.2.2.trans pq.old)⟩ | exact ⟨lo, ⟨_, rfl⟩, HSP.out, O.out.1.trans (G.out.2.2.trans pq.old)⟩
   ·have dn : decide ((lo : Int) < (L.length : Int)) = false := decide_eq_false (by omega)
    clear hk
    go_upto_region 8 with fail
    refine wp_region_quiet_old (by kernel_rfl) (by kernel_rfl) ?_
    repeat (go_big_quiet_step ((fail)))
    refine wpQuiet_nil ?_
    intro _ hpq
    obtain ⟨pq, hpq'⟩ := hpq
    subst hpq'
    go_wp2_with fail
    go_ret2
    first | exact ⟨lo, _, rfl, HSP.out, O.out.1.trans (G.out.2.2.trans pq.old)⟩ | exact ⟨lo, ⟨_, rfl⟩, HSP.out, O.out.1.trans (G.out.2.2.trans pq.old)⟩
end
section
open Go.RowKit
theorem first1_any (ib : Nat) (fv : Value) (p : Val → Bool) (x : En) (w : World) (hb : w.heap[ib]? = some (.cells #[fv] 72 (0, 0))) (hf : AskF w fv (fun v => .agg v.cells) p [x.v]) :
  Calls Tryz.prog 110 #[.agg x.cells.toArray, .bool true, .pointer (some ⟨ib, 0, none⟩)] w fun e w' => e = .returned (.int .i64 (if p x.v then 1 else -1)) ∧ Old w w' := by
 obtain ⟨g, bd, lb, rfl, hent, hcall⟩ := hf
 obtain ⟨⟨xk, xn, xs, xb⟩, xm⟩ := x
 simp only [En.cells] at hcall ⊢
 obtain ⟨W0, hW0⟩ : ∃ W0, w.alloc (.cells #[.int .i64 xk, .int .i64 xn, .string xs, .bool xb, .int .u64 (xm : Int)] 66) = W0 := ⟨_, rfl⟩
 have o0 : Old w W0 := by rw [← hW0]; exact (Keeps.refl _ _).alloc _
 have b0 : W0.heap[w.heap.size]? = some (.cells #[.int .i64 xk, .int .i64 xn, .string xs, .bool xb, .int .u64 (xm : Int)] 66 (0, 0)) := by rw [← hW0]; exact heap_alloc_new _ _
 have q0 := blk5 b0
 have q1 := blk1 ((o0.block _ (lt_of_heap hb) (fun f => f)).trans hb)
 have N0 := hcall ⟨xk, xn, xs, xb⟩ (by simp) W0 o0
 simp only [Val.cells] at N0
 have N := Lib.hid N0
 have O := Lib.hid o0
 clear o0 b0 hb hcall N0
 obtain ⟨z, hz⟩ : ∃ z, p ⟨xk, xn, xs, xb⟩ = z := ⟨_, rfl⟩
 rw [hz] at N ⊢
 clear hz
 go_enter Tryz.func110, Tryz.ntmps110
 go_upto_region 1 with fail
 clear hW0
 cases z
 ·go_wp2_with fail
  refine N.out.mono ?_
  rintro e w1 ⟨rfl, k1⟩
  have K := Lib.hid (O.out.trans k1)
  clear k1
  go_wp2_with fail
  go_ret
  exact ⟨rfl, K.out⟩
 ·go_wp2_with fail
  refine N.out.mono ?_
  rintro e w1 ⟨rfl, k1⟩
  have K := Lib.hid (O.out.trans k1)
  clear k1
  go_wp2_with fail
  go_ret
  exact ⟨rfl, K.out⟩
theorem AskF.sub {α : Type} {w : World} {fv : Value} {arg : α → Value} {p : α → Bool} {l m : List α} (h : AskF w fv arg p l) (hm : ∀ x ∈ m, x ∈ l) : AskF w fv arg p m := by
 obtain ⟨g, bd, lb, e, h1, h2⟩ := h
 exact ⟨g, bd, lb, e, h1, fun x hx W hW => h2 x (hm x hx) W hW⟩
theorem bsf_bool (v : Value) (L : List En) (ib : Nat) (fv : Value) (p : Val → Bool) (w : World) (h : SeesR w 5 En.cells v L) (hb : w.heap[ib]? = some (.cells #[fv] 72 (0, 0))) (hf : AskF w fv (fun v => .agg v.cells) p (L.map (·.v))) (hm : Mono (fun x => !p x.v) L) (hl : L.length ≤ 1000000) :
  Calls Tryz.prog 109 #[v, .bool true, .func (.func 110) #[] #[.pointer (some ⟨ib, 0, none⟩)]] w fun e w' => ∃ (i : Nat) (u : Value), e = .returned (.tuple #[.int .i64 i, u]) ∧ SplitS (fun x => !p x.v) L i ∧ Old w w' := by
 have EO := Lib.hid (fun (x : En) (hx : x ∈ L) W (hW : Old w W) => first1_any ib fv p x W ((hW.block _ (lt_of_heap hb) (fun f => f)).trans hb) ((hf.sub (m := [x.v]) (fun y hy => by rw [List.mem_singleton.1 hy]; exact List.mem_map_of_mem hx)).later hW))
 obtain ⟨q, c, rfl, _, _⟩ := h.len
 have H := Lib.hid (And.intro h hm)
 clear h hm hb hf
 have hl9 : L.length ≤ 9223372036854775807 := by omega
 go_enter Tryz.func109, Tryz.ntmps109
 go_wp2_with fail
 go_loopw [9, 10] (fun v9 v10 wr => ∃ lo hi : Nat, lo ≤ hi ∧ hi ≤ L.length ∧ v9 = .int .i64 lo ∧ v10 = .int .i64 hi ∧ (∀ j x, j < lo → L[j]? = some x → (!p x.v) = true) ∧ (∀ j x, hi ≤ j → L[j]? = some x → (!p x.v) = false) ∧ Old w wr) (fun v9 v10 _ => (intOf v10).toNat - (intOf v9).toNat)
 case atStart => exact ⟨0, L.length, Nat.zero_le _, Nat.le_refl _, rfl, rfl, (fun j x hj => by omega), (fun j x hj hx => by rw [List.getElem?_eq_none hj] at hx; cases hx), Keeps.refl _ _⟩
 case round =>
  obtain ⟨wq, hwq⟩ : ∃ wq : World, wq = wr := ⟨_, rfl⟩
  subst hwq
  obtain ⟨lo, hi, hlh, hhl, rfl, rfl, h1, h2, hk⟩ := hrel
  have G := Lib.hid (And.intro h1 (And.intro h2 hk))
  clear h1 h2
  by_cases hlt : lo < hi
  ·have i1 : IntKind.i64.wrap ((lo : Int) + (hi : Int)) = (lo : Int) + (hi : Int) := IntWalk.i64_in _ (by omega)
   have i2 : IntKind.u64.wrap ((lo : Int) + (hi : Int)) = (lo : Int) + (hi : Int) := IntWalk.u64_in _ (by omega)
   obtain ⟨m, hmm⟩ : ∃ m : Nat, ((lo : Int) + (hi : Int)) / 2 = (m : Int) := ⟨(lo + hi) / 2, by omega⟩
   have hm1 : lo ≤ m := by omega
   have hm2 : m < hi := by omega
   obtain ⟨b, o, cp, he, _, _, hc⟩ := H.out.1.at (by omega)
   simp only [Value.slice.injEq, true_and] at he
   obtain ⟨rfl, rfl⟩ := he
   obtain ⟨x, hx⟩ : ∃ x, L[m]? = some x := ⟨_, List.getElem?_eq_getElem (by omega)⟩
   have cell : ∀ i u, (En.cells x)[i]? = some u → wq.cell? ⟨b, o + m * 5 + i, none⟩ = some u := fun i u hu => hk.cell (hc m x hx i u hu) (fun f => f)
   have c0 := cell 0 _ rfl
   have c1 := cell 1 _ rfl
   have c2 := cell 2 _ rfl
   have c3 := cell 3 _ rfl
   have c4 := cell 4 _ rfl
   simp only [Nat.add_zero] at c0
   have EX := Lib.hid (EO.out x (List.mem_of_getElem? hx) wq hk)
   have HX := Lib.hid hx
   clear cell hk hc hx
   obtain ⟨z, hz⟩ : ∃ z, p x.v = z := ⟨_, rfl⟩
   rw [hz] at EX
   have HZ := Lib.hid hz
   clear hz
   obtain ⟨⟨xk, xn, xs, xb⟩, xm⟩ := x
   simp only [En.cells] at EX
   have i3 : IntKind.i64.wrap ((m : Int) + 1) = (m : Int) + 1 := IntWalk.i64_in _ (by omega)
   cases z
   ·go_wp2_with fail
    refine EX.out.mono ?_
    rintro e w1 ⟨rfl, k1⟩
    have K := Lib.hid (G.out.2.2.trans k1)
    clear k1
    go_wp2_with fail
    go_roundw
    case rel =>
     refine ⟨m + 1, hi, by omega, hhl, by go_num, rfl, fun j y hj hy => ?_, G.out.2.1, K.out⟩
     exact H.out.2 j m y _ (by omega) hy HX.out (by show (!p _) = true; rw [HZ.out]; rfl)
    case measure => simp [intOf]; omega
   ·go_wp2_with fail
    refine EX.out.mono ?_
    rintro e w1 ⟨rfl, k1⟩
    have K := Lib.hid (G.out.2.2.trans k1)
    clear k1
    go_wp2_with fail
    go_roundw
    case rel =>
     refine ⟨lo, m, hm1, by omega, rfl, rfl, G.out.1, fun j y hj hy => ?_, K.out⟩
     cases hd : !p y.v with
     | false => rfl
     | true =>
      have h9 : (!p _) = true := H.out.2 m j _ y hj HX.out hy hd
      rw [HZ.out] at h9
      cases h9
    case measure => simp [intOf]; omega
  ·have hle : lo = hi := by omega
   subst hle
   have hnl : ¬ lo < lo := hlt
   have dl : decide ((lo : Int) < (lo : Int)) = false := decide_eq_false (by omega)
   have HSP := Lib.hid (show SplitS (fun x => !p x.v) L lo from ⟨hhl, G.out.1, G.out.2.1⟩)
   by_cases hin : lo < L.length
   ·obtain ⟨b, o, cp, he, _, _, hc⟩ := H.out.1.at (by omega)
    simp only [Value.slice.injEq, true_and] at he
    obtain ⟨rfl, rfl⟩ := he
    obtain ⟨x, hx⟩ : ∃ x, L[lo]? = some x := ⟨_, List.getElem?_eq_getElem (by omega)⟩
    have cell : ∀ i u, (En.cells x)[i]? = some u → wq.cell? ⟨b, o + lo * 5 + i, none⟩ = some u := fun i u hu => hk.cell (hc lo x hx i u hu) (fun f => f)
    have c0 := cell 0 _ rfl
    have c1 := cell 1 _ rfl
    have c2 := cell 2 _ rfl
    have c3 := cell 3 _ rfl
    have c4 := cell 4 _ rfl
    simp only [Nat.add_zero] at c0
    have EX := Lib.hid (EO.out x (List.mem_of_getElem? hx) wq hk)
    clear cell hk hc hx
    obtain ⟨⟨xk, xn, xs, xb⟩, xm⟩ := x
    simp only [En.cells] at EX
    obtain ⟨z, hz⟩ : ∃ z : Int, (if p ⟨xk, xn, xs, xb⟩ then (1 : Int) else -1) = z := ⟨_, rfl⟩
    rw [hz] at EX
    clear hz
    have dn : decide ((lo : Int) < (L.length : Int)) = true := decide_eq_true (by omega)
    go_wp2_with fail
    refine EX.out.mono ?_
    rintro e w1 ⟨rfl, k1⟩
    have K := Lib.hid (G.out.2.2.trans k1)
    clear k1
    go_wp2_with fail
    go_ret2
    first | exact ⟨lo, _, rfl, HSP.out, K.out⟩ | exact ⟨lo, ⟨_, rfl⟩, HSP.out, K.out⟩
   ·have dn : decide ((lo : Int) < (L.length : Int)) = false := decide_eq_false (by omega)
    clear hk
    go_wp2_with fail
    go_ret2
    first | exact ⟨lo, _, rfl, HSP.out, G.out.2.2⟩ | exact ⟨lo, ⟨_, rfl⟩, HSP.out, G.out.2.2⟩
theorem first_any_i (v : Value) (L : List En) (fv : Value) (p : Val → Bool) (w : World) (h : SeesR w 5 En.cells v L) (hf : AskF w fv (fun v => .agg v.cells) p (L.map (·.v))) (hm : Mono (fun x => !p x.v) L) (hl : L.length ≤ 1000000) :
  Calls Tryz.prog 72 #[v, fv] w fun e w' => ∃ i : Nat, e = .returned (.int .i64 i) ∧ SplitS (fun x => !p x.v) L i ∧ Old w w' := by
 obtain ⟨q, c, rfl, _, _⟩ := h.len
 obtain ⟨W0, hW0⟩ : ∃ W0, w.alloc (.cells #[fv] 72) = W0 := ⟨_, rfl⟩
 have o0 : Old w W0 := by rw [← hW0]; exact (Keeps.refl _ _).alloc _
 have b0 : W0.heap[w.heap.size]? = some (.cells #[fv] 72 (0, 0)) := by rw [← hW0]; exact heap_alloc_new _ _
 have C := Lib.hid (bsf_bool _ L w.heap.size fv p W0 (h.old o0) b0 (hf.later o0) hm hl)
 have O := Lib.hid o0
 obtain ⟨g, bd, lb, rfl, _, _⟩ := hf
 clear h hm o0 b0
 go_enter Tryz.func72, Tryz.ntmps72
 go_upto_region 1 with fail
 clear hW0
 go_wp2_with fail
 refine C.out.mono ?_
 rintro e w1 ⟨i, u, rfl, hs, k1⟩
 have K := Lib.hid (And.intro hs (O.out.trans k1))
 clear hs k1
 go_wp2_with fail
 go_ret
 exact ⟨i, rfl, K.out.1, K.out.2⟩
end
section
open Go.RowKit
theorem strZ_le (a b : ByteArray) : strZ a b ≤ 0 ↔ strLt b a = false := by
 have := str_pos a b
 cases h : strLt b a
 ·rw [h] at this
  simp only [Bool.false_eq_true, iff_false] at this
  simp only [iff_true]
  omega
 ·rw [h] at this
  simp only [iff_true] at this
  simp only [Bool.true_eq_false, iff_false]
  omega
theorem strZ_ge (a b : ByteArray) : 0 ≤ strZ a b ↔ strLt a b = false := by
 have := str_neg a b
 cases h : strLt a b
 ·rw [h] at this
  simp only [Bool.false_eq_true, iff_false] at this
  simp only [iff_true]
  omega
 ·rw [h] at this
  simp only [iff_true] at this
  simp only [Bool.true_eq_false, iff_false]
  omega
theorem strLt_trans {a b c : ByteArray} (h1 : strLt b a = false) (h2 : strLt c b = false) : strLt c a = false := by
 have := le_transC (a := ⟨a, false⟩) (b := ⟨b, false⟩) (c := ⟨c, false⟩) (by simpa [lessC] using h1) (by simpa [lessC] using h2)
 simpa [lessC] using this
def subLe (x y : Val) : Prop := (x.kind = 1 → x.num ≤ y.num) ∧ (x.kind = 2 → strLt y.str x.str = false) ∧ (x.kind = 3 → rankZ x.is ≤ rankZ y.is)
theorem valCmp_le (x y : Val) : valCmp x y ≤ 0 ↔ x.kind < y.kind ∨ (x.kind = y.kind ∧ subLe x y) := by
 unfold valCmp subLe
 by_cases hk : x.kind = y.kind
 ·rw [if_pos hk]
  have hn : ¬ x.kind < y.kind := by omega
  by_cases h1 : x.kind = 1
  ·rw [if_pos h1, cmpZ_le]
   rw [or_iff_right hn, and_iff_right hk]
   constructor
   ·intro h; exact ⟨fun _ => h, fun e => by omega, fun e => by omega⟩
   ·intro h; exact h.1 (by omega)
  ·rw [if_neg h1]
   by_cases h2 : x.kind = 2
   ·rw [if_pos h2, strZ_le]
    rw [or_iff_right hn, and_iff_right hk]
    constructor
    ·intro h; exact ⟨fun e => by omega, fun _ => h, fun e => by omega⟩
    ·intro h; exact h.2.1 (by omega)
   ·rw [if_neg h2]
    by_cases h3 : x.kind = 3
    ·rw [if_pos h3, cmpZ_le]
     rw [or_iff_right hn, and_iff_right hk]
     constructor
     ·intro h; exact ⟨fun e => by omega, fun e => by omega, fun _ => h⟩
     ·intro h; exact h.2.2 (by omega)
    ·rw [if_neg h3]
     rw [or_iff_right hn, and_iff_right hk]
     constructor
     ·intro _; exact ⟨fun e => by omega, fun e => by omega, fun e => by omega⟩
     ·intro _; omega
 ·rw [if_neg hk, cmpZ_le]
  constructor
  ·intro h; left; omega
  ·rintro (h | h)
   ·omega
   ·exact absurd h.1 hk
theorem valCmp_ge (x y : Val) : 0 ≤ valCmp x y ↔ valCmp y x ≤ 0 := by
 rw [valCmp_le]
 unfold valCmp subLe
 by_cases hk : x.kind = y.kind
 ·rw [if_pos hk]
  have hn : ¬ y.kind < x.kind := by omega
  have hz : ∀ a b : Int, 0 ≤ cmpZ a b ↔ b ≤ a := fun a b => by unfold cmpZ; split <;> (try split) <;> omega
  by_cases h1 : x.kind = 1
  ·rw [if_pos h1, hz]
   rw [or_iff_right hn, and_iff_right hk.symm]
   constructor
   ·intro h; exact ⟨fun _ => h, fun e => by omega, fun e => by omega⟩
   ·intro h; exact h.1 (by omega)
  ·rw [if_neg h1]
   by_cases h2 : x.kind = 2
   ·rw [if_pos h2, strZ_ge]
    rw [or_iff_right hn, and_iff_right hk.symm]
    constructor
    ·intro h; exact ⟨fun e => by omega, fun _ => h, fun e => by omega⟩
    ·intro h; exact h.2.1 (by omega)
   ·rw [if_neg h2]
    by_cases h3 : x.kind = 3
    ·rw [if_pos h3, hz]
     rw [or_iff_right hn, and_iff_right hk.symm]
     constructor
     ·intro h; exact ⟨fun e => by omega, fun e => by omega, fun _ => h⟩
     ·intro h; exact h.2.2 (by omega)
    ·rw [if_neg h3]
     rw [or_iff_right hn, and_iff_right hk.symm]
     constructor
     ·intro _; exact ⟨fun e => by omega, fun e => by omega, fun e => by omega⟩
     ·intro _; omega
 ·rw [if_neg hk]
  have hz : 0 ≤ cmpZ x.kind y.kind ↔ y.kind ≤ x.kind := by unfold cmpZ; split <;> (try split) <;> omega
  rw [hz]
  constructor
  ·intro h; left; omega
  ·rintro (h | h)
   ·omega
   ·exact absurd h.1.symm hk
theorem valCmp_trans {x y z : Val} (h1 : valCmp x y ≤ 0) (h2 : valCmp y z ≤ 0) : valCmp x z ≤ 0 := by
 rw [valCmp_le] at h1 h2 ⊢
 rcases h1 with h1 | ⟨e1, s1⟩
 ·left
  rcases h2 with h2 | ⟨e2, _⟩ <;> omega
 ·rcases h2 with h2 | ⟨e2, s2⟩
  ·left; omega
  ·right
   refine ⟨by omega, fun h => ?_, fun h => ?_, fun h => ?_⟩
   ·have := s1.1 h; have := s2.1 (by omega); omega
   ·exact strLt_trans (s1.2.1 h) (s2.2.1 (by omega))
   ·have := s1.2.2 h; have := s2.2.2 (by omega); omega
theorem valCmp_le_kind {x y : Val} (h : valCmp x y ≤ 0) : x.kind ≤ y.kind := by
 rw [valCmp_le] at h
 rcases h with h | h <;> omega
theorem valCmp_far {x y : Val} (h : x.kind < y.kind) : 0 < valCmp y x := by
 unfold valCmp
 rw [if_neg (by omega)]
 unfold cmpZ
 rw [if_neg (by omega), if_pos h]
 decide
def kindP (c : PCon) (v : Val) : Bool := decide (c.val.kind ≤ v.kind)
def pastP (c : PCon) (v : Val) : Bool := decide (c.val.kind < v.kind)
def fromP (c : PCon) (v : Val) : Bool := decide (0 ≤ valCmp v c.val)
def aboveP (c : PCon) (v : Val) : Bool := decide (0 < valCmp v c.val)
def pre5P (c : PCon) (v : Val) : Bool := pastP c v || (fromP c v && !hasPre v.str c.val.str)
def lowP (c : PCon) : Val → Bool := if c.op = 2 ∨ c.op = 7 ∨ c.op = 8 then fromP c else if c.op = 6 then aboveP c else kindP c
def highP (c : PCon) : Val → Bool := if c.op = 2 ∨ c.op = 5 then aboveP c else if c.op = 4 then fromP c else if c.op = 8 then pre5P c else pastP c
theorem kindP_up {c : PCon} {x y : Val} (h : valCmp x y ≤ 0) (hx : kindP c x = true) : kindP c y = true := by
 have := valCmp_le_kind h
 unfold kindP at hx ⊢
 rw [decide_eq_true_eq] at hx ⊢
 omega
theorem pastP_up {c : PCon} {x y : Val} (h : valCmp x y ≤ 0) (hx : pastP c x = true) : pastP c y = true := by
 have := valCmp_le_kind h
 unfold pastP at hx ⊢
 rw [decide_eq_true_eq] at hx ⊢
 omega
theorem fromP_up {c : PCon} {x y : Val} (h : valCmp x y ≤ 0) (hx : fromP c x = true) : fromP c y = true := by
 unfold fromP at hx ⊢
 rw [decide_eq_true_eq, valCmp_ge] at hx ⊢
 exact valCmp_trans hx h
theorem aboveP_up {c : PCon} {x y : Val} (h : valCmp x y ≤ 0) (hx : aboveP c x = true) : aboveP c y = true := by
 unfold aboveP at hx ⊢
 rw [decide_eq_true_eq] at hx ⊢
 have h1 : ¬ valCmp x c.val ≤ 0 := by omega
 have h2 : ¬ valCmp y c.val ≤ 0 := fun h3 => h1 (valCmp_trans h h3)
 omega
theorem pre5P_up {c : PCon} (hc : c.val.kind = 2) {x y : Val} (h : valCmp x y ≤ 0) (hx : pre5P c x = true) : pre5P c y = true := by
 unfold pre5P at hx ⊢
 rw [Bool.or_eq_true, Bool.and_eq_true, Bool.not_eq_true'] at hx ⊢
 rcases hx with hx | ⟨hf, hp⟩
 ·exact .inl (pastP_up h hx)
 ·by_cases hpy : pastP c y = true
  ·exact .inl hpy
  right
  have hfy := fromP_up h hf
  refine ⟨hfy, ?_⟩
  have hky : c.val.kind ≤ y.kind := by unfold fromP at hfy; rw [decide_eq_true_eq, valCmp_ge] at hfy; exact valCmp_le_kind hfy
  have hkx : c.val.kind ≤ x.kind := by unfold fromP at hf; rw [decide_eq_true_eq, valCmp_ge] at hf; exact valCmp_le_kind hf
  have hk2 : y.kind = 2 := by
   unfold pastP at hpy
   rw [decide_eq_true_eq] at hpy
   omega
  have hkxy := valCmp_le_kind h
  have hx2 : x.kind = 2 := by omega
  rw [valCmp_le] at h
  have hle : strLt y.str x.str = false := by
   rcases h with h | h
   ·omega
   ·exact h.2.2.1 hx2
  have hfx : strLt x.str c.val.str = false := by
   unfold fromP at hf
   rw [decide_eq_true_eq, valCmp_ge, valCmp_le] at hf
   rcases hf with hf | hf
   ·omega
   ·exact hf.2.2.1 hc
  have hfy2 : strLt y.str c.val.str = false := strLt_trans hfx hle
  have px := past_law c.val.str.toList x.str.toList
  have py := past_law c.val.str.toList y.str.toList
  rw [← hasPre_eq] at px py
  rw [hp] at px
  have e1 : Op.bytesLess x.str.toList c.val.str.toList = false := hfx
  have e2 : Op.bytesLess y.str.toList c.val.str.toList = false := hfy2
  rw [e1] at px
  rw [e2] at py
  rw [← py]
  simp only [Bool.not_false, Bool.true_and] at px ⊢
  rw [← pastC_less] at px ⊢
  exact le_transC (b := ⟨x.str, false⟩) px (by simpa [lessC] using hle)
theorem from_kind {c : PCon} {v : Val} (h : fromP c v = true) : kindP c v = true := by
 unfold fromP at h
 unfold kindP
 rw [decide_eq_true_eq] at h ⊢
 exact valCmp_le_kind ((valCmp_ge _ _).1 h)
theorem above_from {c : PCon} {v : Val} (h : aboveP c v = true) : fromP c v = true := by
 unfold aboveP at h
 unfold fromP
 rw [decide_eq_true_eq] at h ⊢
 omega
theorem past_above {c : PCon} {v : Val} (h : pastP c v = true) : aboveP c v = true := by
 unfold pastP at h
 unfold aboveP
 rw [decide_eq_true_eq] at h ⊢
 exact valCmp_far h
theorem high_low {c : PCon} (h2 : 2 ≤ c.op) (h8 : c.op ≤ 8) {v : Val} (h : highP c v = true) : lowP c v = true := by
 unfold highP at h
 unfold lowP
 have hc : c.op = 2 ∨ c.op = 3 ∨ c.op = 4 ∨ c.op = 5 ∨ c.op = 6 ∨ c.op = 7 ∨ c.op = 8 := by omega
 rcases hc with e | e | e | e | e | e | e <;> rw [e] at h ⊢ <;> simp at h ⊢
 ·exact above_from h
 ·exact from_kind (above_from (past_above h))
 ·exact from_kind h
 ·exact from_kind (above_from h)
 ·exact past_above h
 ·exact above_from (past_above h)
 ·unfold pre5P at h
  rw [Bool.or_eq_true, Bool.and_eq_true] at h
  rcases h with h | h
  ·exact above_from (past_above h)
  ·exact h.1
theorem asks_between {c : PCon} (h2 : 2 ≤ c.op) (h8 : c.op ≤ 8) {v : Val} (h : asksV c v = true) : lowP c v = true ∧ highP c v = false := by
 unfold asksV at h
 unfold lowP highP
 have hc : c.op = 2 ∨ c.op = 3 ∨ c.op = 4 ∨ c.op = 5 ∨ c.op = 6 ∨ c.op = 7 ∨ c.op = 8 := by omega
 have hfrom : fromP c v = decide (0 ≤ valCmp v c.val) := rfl
 have habove : aboveP c v = decide (0 < valCmp v c.val) := rfl
 have hkind : kindP c v = decide (c.val.kind ≤ v.kind) := rfl
 have hpast : pastP c v = decide (c.val.kind < v.kind) := rfl
 rcases hc with e | e | e | e | e | e | e <;> rw [e] at h ⊢ <;> simp [hfrom, habove, hkind, hpast] at h ⊢
 ·omega
 ·omega
 ·omega
 ·omega
 ·omega
 ·omega
 ·obtain ⟨k1, k2, hp⟩ := h
  have hpl := past_law c.val.str.toList v.str.toList
  rw [← hasPre_eq, hp, Bool.and_eq_true, Bool.not_eq_true'] at hpl
  have hge : 0 ≤ valCmp v c.val := by
   unfold valCmp
   rw [if_pos (by omega), if_neg (by omega), if_pos k1, strZ_ge]
   exact hpl.1
  refine ⟨hge, ?_⟩
  unfold pre5P
  rw [hp, hpast]
  simp
  omega
end
end Go.Proofs.YtehmlaplodjenaaGreat
