/- DERIVED. slices.DeleteFunc at spans. · DERIVED. cover: of. -/
import Derived.Test.YtehmlaplodjenaaGreatZTopDual06
import Derived.Deep.DeepCutAuto
import Derived.IntWalk
set_option maxRecDepth 100000
set_option maxHeartbeats 2000000
namespace Go.Proofs.YtehmlaplodjenaaGreat
section
open Go.RowKit
theorem filterK_take {α : Type} {pr : α → Bool} {L : List α} {j : Nat} {x : α} (hx : L[j]? = some x) : (L.take (j + 1)).filter (fun y => !pr y) = (L.take j).filter (fun y => !pr y) ++ if pr x then [] else [x] := by
 rw [List.take_add_one, hx, List.filter_append]
 cases h : pr x <;> simp [h]
theorem filterK_first {α : Type} {pr : α → Bool} {L : List α} (h : L.any pr = true) : ∃ i : Nat, fIdx pr L = (i : Int) ∧ i < L.length ∧ (L.take (i + 1)).filter (fun y => !pr y) = L.take i := by
 unfold fIdx
 cases hf : L.findIdx? pr with
 | none =>
  rw [List.findIdx?_eq_none_iff] at hf
  obtain ⟨x, hx, hp⟩ := List.any_eq_true.1 h
  rw [hf x hx] at hp; cases hp
 | some k =>
  obtain ⟨hk, hp, hn⟩ := List.findIdx?_eq_some_iff_getElem.1 hf
  refine ⟨k, rfl, hk, ?_⟩
  rw [filterK_take (List.getElem?_eq_getElem hk), if_pos hp, List.append_nil, List.filter_eq_self]
  intro y hy
  obtain ⟨j, hj, rfl⟩ := List.mem_take_iff_getElem.1 hy
  have := hn j (by omega)
  simpa using this
theorem filterK_none {α : Type} {pr : α → Bool} {L : List α} (h : L.any pr = false) : fIdx pr L = -1 ∧ (L.filter fun y => !pr y) = L := by
 refine ⟨fIdx_none h, ?_⟩
 rw [List.filter_eq_self]
 intro y hy
 simpa using List.any_eq_false.1 h y hy
theorem ixf_span (p : Span → Bool) (fv v : Value) (l : List Span) (w : World) (h : SeesR w 4 spanL v l) (hf : AskF w fv (fun x => .agg (spanL x).toArray) p l) :
  Calls Tryz.prog 214 #[v, fv] w fun e w' => e = .returned (.int .i64 (fIdx p l)) ∧ Old w w' := by
 obtain ⟨g, bd, lb, rfl, hent, hcall⟩ := hf
 by_cases hl : 0 < l.length
 ·obtain ⟨b, o, c, rfl, h1, h2, hcell⟩ := h.at hl
  have hm : l.length ≤ 9223372036854775807 := by unfold maxLen at h2; omega
  have HC := Lib.hid hcell
  have HK := Lib.hid hcall
  clear h1 h2 h hcell hl hcall
  go_enter Tryz.func214, Tryz.ntmps214
  go_wp2_with fail
  go_loopw [8] (fun v8 wr => ∃ k : Nat, k ≤ l.length ∧ v8 = .int .i64 k ∧ (l.take k).any p = false ∧ Old w wr) (fun v8 _ => l.length - (intOf v8).toNat)
  case atStart => exact ⟨0, by omega, rfl, by simp, Keeps.refl _ _⟩
  case round =>
   obtain ⟨k, hk, rfl, hr, hkw⟩ := hrel
   have HR := Lib.hid (And.intro hr hkw)
   clear hr
   by_cases hlt : k < l.length
   ·have hx : l[k]? = some l[k] := List.getElem?_eq_getElem hlt
    have hmem : l[k] ∈ l := List.getElem_mem hlt
    generalize l[k] = x at hx hmem
    have cell : ∀ i u, (spanL x)[i]? = some u → wr.cell? ⟨b, o + k * 4 + i, none⟩ = some u := fun i u hu => hkw.cell (HC.out k x hx i u hu) (fun f => f)
    have c0 := cell 0 _ rfl
    have c1 := cell 1 _ rfl
    have c2 := cell 2 _ rfl
    have c3 := cell 3 _ rfl
    simp only [Nat.add_zero] at c0
    have N := HK.out x hmem wr hkw
    have HX := Lib.hid hx
    clear cell hx hkw hmem
    cases hg : p x
    ·rw [hg] at N
     have HN := Lib.hid N
     have HG := Lib.hid hg
     clear N hg
     go_wp2_with fail
     refine HN.out.mono ?_
     rintro e w1 ⟨rfl, hk1⟩
     have K1 := Lib.hid (HR.out.2.trans hk1)
     clear hk1
     go_wp2_with fail
     go_roundw
     case rel => exact ⟨k + 1, by omega, by go_num, any_take HX.out HG.out HR.out.1, K1.out⟩
     case measure => simp [intOf]; omega
    ·rw [hg] at N
     have HN := Lib.hid N
     have HG := Lib.hid hg
     clear N hg
     go_wp2_with fail
     refine HN.out.mono ?_
     rintro e w1 ⟨rfl, hk1⟩
     have K1 := Lib.hid (HR.out.2.trans hk1)
     clear hk1
     go_wp2_with fail
     go_ret
     exact ⟨by rw [fIdx_hit HX.out HG.out HR.out.1]; rfl, K1.out⟩
   ·clear hkw
    go_wp2_with fail
    go_ret
    refine ⟨?_, HR.out.2⟩
    have h0 := HR.out.1
    rw [List.take_of_length_le (by omega)] at h0
    rw [fIdx_none h0]; rfl
 ·obtain ⟨rfl, q, c, rfl⟩ := h.at0 (by omega)
  clear h hl hcall
  go_enter Tryz.func214, Tryz.ntmps214
  go_wp2_with fail
  go_loopw [8] (fun v8 wr => v8 = .int .i64 0 ∧ Old w wr) (fun _ _ => 0)
  case atStart => exact ⟨rfl, Keeps.refl _ _⟩
  case round =>
   obtain ⟨rfl, hkw⟩ := hrel
   have K1 := Lib.hid hkw
   clear hkw
   go_wp2_with fail
   go_ret
   exact ⟨rfl, K1.out⟩
theorem len_span (x : Span) : (spanL x).length = 4 := rfl
theorem zero_span (w : World) : (zeroValue 192).run Tryz.prog w = .ok (.agg #[.string ⟨#[]⟩, .bool false, .string ⟨#[]⟩, .bool false]) w := by kernel_rfl
theorem delete_span (pr : Span → Bool) (fv v : Value) (L : List Span) (B : Nat) (w : World) (h : OwnsR w B 192 4 spanL v L) (hl : L.length ≤ 1000000)
  (hf : ∃ g bd lb, fv = .func (.func g) bd lb ∧ (∀ args W, (callFunc g args).run Tryz.prog W = .ok (.enter g args) W) ∧ ∀ x ∈ L, ∀ W, Keeps (fun k => v.ownBlock = some k) w W → Calls Tryz.prog g (bd ++ #[.agg (spanL x).toArray] ++ lb) W fun e W' => e = .returned (.bool (pr x)) ∧ Old W W') :
  Calls Tryz.prog 184 #[v, fv] w fun e w' => ∃ p n c, e = .returned (.slice p n c) ∧ OwnsR w' B 192 4 spanL (.slice p n c) (L.filter fun y => !pr y) ∧ (Value.slice p n c).ownBlock = v.ownBlock ∧ Keeps (fun k => v.ownBlock = some k) w w' := by
 have hsee := h.sees len_span (by decide)
 obtain ⟨g, bd, lb, rfl, hent, hc⟩ := hf
 have C := Lib.hid (ixf_span pr (.func (.func g) bd lb) v L w hsee ⟨g, bd, lb, rfl, hent, fun x hx W hW => hc x hx W (hW.weaken (fun _ _ f => f.elim))⟩)
 obtain ⟨p0, c0, hv, hle, hmx⟩ := hsee.len
 have hm : L.length ≤ 9223372036854775807 := by unfold maxLen at hmx; omega
 cases ha : L.any pr
 case false =>
  obtain ⟨hix, hff⟩ := filterK_none ha
  rw [hix] at C
  rw [hff]
  have H := Lib.hid h
  subst hv
  clear h hsee hc hent ha hff hix hle hmx
  go_enter Tryz.func184, Tryz.ntmps184
  go_wp2_with fail
  refine C.out.mono ?_
  rintro e w1 ⟨rfl, k1⟩
  have K1 := Lib.hid k1
  clear k1
  go_wp2_with fail
  go_ret
  exact ⟨_, _, _, rfl, H.out.old K1.out, rfl, K1.out.weaken (fun _ _ f => f.elim)⟩
 case true =>
  obtain ⟨i0, hix, hlt0, hff⟩ := filterK_first ha
  obtain ⟨g0, cap0, cur, rfl, hb, hgg, hn, hmc, _, _⟩ := h.row (by
   rcases h.2 with ⟨_, h0⟩ | ⟨g, cap, cur, rfl, _⟩
   ·omega
   ·simp [Value.ownBlock])
  have hg0 : g0 < w.heap.size := (Array.getElem?_eq_some_iff.1 hgg).1
  rw [hix] at C
  have hsl1 : ∀ (i : Nat) (W : World), i < L.length → (Instr.slice 99 (.slice (some ⟨g0, 0, none⟩) L.length cap0) (some (.int .i64 (i : Int))) none none).run Tryz.prog W = .ok (.slice (some ⟨g0, i * 4, none⟩) (L.length - i) (cap0 - i)) W := by
   intro i W hi
   have h1 : (i : Int) ≤ (L.length : Int) := by omega
   have h2 : ¬ cap0 = i := by omega
   simp [go_sem, h1, Go.sliced, h2]
  have hsl2 : ∀ (i : Nat) (W : World), i < L.length → (Instr.slice 99 (.slice (some ⟨g0, 0, none⟩) L.length cap0) none (some (.int .i64 (i : Int))) none).run Tryz.prog W = .ok (.slice (some ⟨g0, 0, none⟩) i cap0) W := by
   intro i W hi
   have h1 : (i : Int) ≤ (cap0 : Int) := by omega
   simp [go_sem, h1, Go.sliced]
  have hne : (((i0 : Nat) : Int) == -1) = false := by simp
  have H := Lib.hid (And.intro h (And.intro True.intro (And.intro hc (And.intro hg0 (And.intro hsl1 (And.intro hsl2 hff))))))
  have hcap : cap0 ≤ 9223372036854775807 := by unfold maxLen at hmc; omega
  clear h hsee hc ha hff hix hle hmx hsl1 hsl2 hgg hv hg0 hmc
  go_enter Tryz.func184, Tryz.ntmps184
  go_wp2_with fail
  refine C.out.mono ?_
  rintro e w1 ⟨rfl, k1⟩
  have K1 := Lib.hid k1
  clear k1
  go_wp2_with fail
  go_loopw [5, 6] (fun v5 v6 wr => ∃ (i j : Nat) (L' : List Span), v5 = .int .i64 i ∧ v6 = .int .i64 j ∧ i < j ∧ j ≤ L.length ∧ L'.length = L.length ∧ L'.take i = (L.take j).filter (fun y => !pr y) ∧ L'.drop j = L.drop j ∧
   OwnsR wr B 192 4 spanL (.slice (some ⟨g0, 0, none⟩) L'.length cap0) L' ∧ Keeps (fun k => k = g0) w wr) (fun _ v6 _ => L.length - (intOf v6).toNat)
  case atStart => exact ⟨i0, i0 + 1, L, rfl, by go_num, by omega, by omega, rfl, H.out.2.2.2.2.2.2.symm, rfl, H.out.1.old K1.out, K1.out.weaken (fun _ _ f => f.elim)⟩
  case round =>
   obtain ⟨i, j, L', rfl, rfl, hij, hj, hl', ht, hd, ho, hk⟩ := hrel
   have R := Lib.hid (And.intro ht (And.intro hd (And.intro ho hk)))
   clear ht hd ho hk
   by_cases hlt : j < L.length
   ·have hx : L'[j]? = some L'[j] := List.getElem?_eq_getElem (by omega)
    generalize L'[j] = x at hx
    have hx0 : L[j]? = some x := by
     have := congrArg (·[0]?) R.out.2.1
     simpa [hx] using this.symm
    have hcell : ∀ q u, (spanL x)[q]? = some u → wr.cell? ⟨g0, j * 4 + q, none⟩ = some u := fun q u hu => by
     obtain ⟨_, _, _, e, _, _, hcell⟩ := (R.out.2.2.1.sees len_span (by decide)).at (by omega)
     simp only [Value.slice.injEq, Option.some.injEq, Addr.mk.injEq, and_true, true_and] at e
     obtain ⟨⟨rfl, rfl⟩, _⟩ := e
     simpa using hcell j x hx q u hu
    have c0 := hcell 0 _ rfl
    have c1 := hcell 1 _ rfl
    have c2 := hcell 2 _ rfl
    have c3 := hcell 3 _ rfl
    simp only [Nat.add_zero] at c0
    have hxm : x ∈ L := List.mem_of_getElem? hx0
    have X := Lib.hid (And.intro hx (And.intro hx0 hxm))
    clear hcell hx hx0 hxm
    obtain ⟨⟨s1, e1⟩, s2, e2⟩ := x
    obtain ⟨Wa, hWa⟩ : ∃ W, wr.alloc (.cells #[.string s1, .bool e1, .string s2, .bool e2] 192) = W := ⟨_, rfl⟩
    have ba : Wa.heap[wr.heap.size]? = some (.cells #[.string s1, .bool e1, .string s2, .bool e2] 192 (0, 0)) := by rw [← hWa]; exact heap_alloc_new _ _
    have oa : Old wr Wa := by rw [← hWa]; exact (Keeps.refl _ _).alloc _
    have ka := R.out.2.2.2.then oa (fun _ _ f => f.elim)
    have N := H.out.2.2.1 _ X.out.2.2 Wa (ka.weaken (fun _ _ e => by subst e; rfl))
    have A := Lib.hid (And.intro ba (And.intro oa ka))
    have HWa := Lib.hid hWa
    have ya := blk4 ba
    clear ba oa ka hWa
    have hG : g0 ≠ wr.heap.size := by have := lt_of_heap A.out.1; have := R.out.2.2.2.size; have := H.out.2.2.2.1; omega
    cases hg : pr ((⟨s1, e1⟩, ⟨s2, e2⟩) : Span)
    ·rw [hg] at N
     have HN := Lib.hid N
     have HG := Lib.hid hg
     clear N hg
     go_upto_region 8 with fail
     rw [HWa.out]
     go_wp2_with fail
     refine HN.out.mono ?_
     rintro e w3 ⟨rfl, k3⟩
     have b3 := (k3.block _ (lt_of_heap A.out.1) (fun f => f)).trans A.out.1
     have l3 := blk4 b3
     have o3 := (R.out.2.2.1.old A.out.2.1).old k3
     obtain ⟨g9, cap9, cur9, e9, _, hg9, _⟩ := o3.row (by simp [Value.ownBlock])
     simp only [Value.slice.injEq, Option.some.injEq, Addr.mk.injEq, and_true, true_and] at e9
     obtain ⟨e9, e8⟩ := e9
     subst e9
     subst e8
     have fz : ∀ q, w3.frozen? ⟨g0, q, none⟩ = false := fun q => by simp [World.frozen?, hg9]
     have fz0 := fz (i * 4)
     have fz1 := fz (i * 4 + 1)
     have fz2 := fz (i * 4 + 2)
     have fz3 := fz (i * 4 + 3)
     obtain ⟨y, hy⟩ : ∃ y, L'[i]? = some y := ⟨_, List.getElem?_eq_getElem (by omega)⟩
     have hcy : ∀ q u, (spanL y)[q]? = some u → w3.cell? ⟨g0, i * 4 + q, none⟩ = some u := fun q u hu => by
      obtain ⟨_, _, _, e, _, _, hcell⟩ := (o3.sees len_span (by decide)).at (by omega)
      simp only [Value.slice.injEq, Option.some.injEq, Addr.mk.injEq, and_true, true_and] at e
      obtain ⟨⟨rfl, rfl⟩, _⟩ := e
      simpa using hcell i y hy q u hu
     have cy0 := hcy 0 _ rfl
     have cy1 := hcy 1 _ rfl
     have cy2 := hcy 2 _ rfl
     have cy3 := hcy 3 _ rfl
     simp only [Nat.add_zero] at cy0
     have o4 : OwnsR ((((w3.setCell ⟨g0, i * 4, none⟩ (.string s1)).setCell ⟨g0, i * 4 + 1, none⟩ (.bool e1)).setCell ⟨g0, i * 4 + 2, none⟩ (.string s2)).setCell ⟨g0, i * 4 + 3, none⟩ (.bool e2)) B 192 4 spanL (.slice (some ⟨g0, 0, none⟩) L'.length cap0) (L'.set i (⟨s1, e1⟩, ⟨s2, e2⟩)) := o3.set len_span i (⟨s1, e1⟩, ⟨s2, e2⟩) (by omega)
     have k4 : Keeps (fun k => k = g0) w ((((w3.setCell ⟨g0, i * 4, none⟩ (.string s1)).setCell ⟨g0, i * 4 + 1, none⟩ (.bool e1)).setCell ⟨g0, i * 4 + 2, none⟩ (.string s2)).setCell ⟨g0, i * 4 + 3, none⟩ (.bool e2)) :=
      (A.out.2.2.then k3 (fun _ _ f => f.elim)).trans (((keepV _ _ _ _).trans (keepV _ _ _ _)).trans ((keepV _ _ _ _).trans (keepV _ _ _ _)))
     have K4 := Lib.hid (And.intro o4 k4)
     clear k3 b3 o3 o4 k4 ya fz hg9 hy hcy
     go_wp2_with fail
     go_roundw
     case rel => exact ⟨i + 1, j + 1, L'.set i (⟨s1, e1⟩, ⟨s2, e2⟩), by go_num, by go_num, by omega, by omega, by simp [hl'], by rw [filterK_take X.out.2.1, HG.out, ← R.out.1, List.take_succ_eq_append_getElem (by simp; omega), List.take_set_of_le (by omega)]; simp, by rw [List.drop_set_of_lt (by omega), ← List.drop_drop, R.out.2.1, List.drop_drop], by rw [List.length_set]; exact K4.out.1, K4.out.2⟩
     case measure => simp [intOf]; omega
    ·rw [hg] at N
     have HN := Lib.hid N
     have HG := Lib.hid hg
     clear N hg
     go_upto_region 8 with fail
     rw [HWa.out]
     go_wp2_with fail
     refine HN.out.mono ?_
     rintro e w3 ⟨rfl, k3⟩
     have K3 := Lib.hid k3
     clear k3 ya
     go_wp2_with fail
     go_roundw
     case rel => exact ⟨i, j + 1, L', rfl, by go_num, by omega, by omega, hl', by rw [filterK_take X.out.2.1, HG.out, R.out.1]; simp, by rw [← List.drop_drop, R.out.2.1, List.drop_drop], (R.out.2.2.1.old A.out.2.1).old K3.out, A.out.2.2.then K3.out (fun _ _ f => f.elim)⟩
     case measure => simp [intOf]; omega
   ·have hji : j = L.length := by omega
    subst hji
    have hcl := fun ty => R.out.2.2.1.clear (P := Tryz.prog) (T := 99) (ty := ty) len_span (by decide) i (by omega) (cap0 - i) Tryz.underlying99 zero_span ((⟨⟨#[]⟩, false⟩, ⟨⟨#[]⟩, false⟩) : Span) rfl (by simp [spanL, Value.oneCell'])
    have o5 := R.out.2.2.1.put len_span i (List.replicate (L'.length - i) ((⟨⟨#[]⟩, false⟩, ⟨⟨#[]⟩, false⟩) : Span)) (by simp; omega)
    obtain ⟨W5, hW5⟩ : ∃ W, wr.setCells g0 (i * 4) ((List.replicate (L'.length - i) ((⟨⟨#[]⟩, false⟩, ⟨⟨#[]⟩, false⟩) : Span)).flatMap spanL) = W := ⟨_, rfl⟩
    have k5 : Keeps (fun k => k = g0) w W5 := by
     rw [← hW5]
     exact R.out.2.2.2.trans (putAt_keeps _ _ _ _ (Keeps.refl _ _))
    rw [hW5] at o5 hcl
    rw [hl'] at hcl
    have hs1 := fun W => H.out.2.2.2.2.1 i W (by omega)
    have hs2 := fun W => H.out.2.2.2.2.2.1 i W (by omega)
    have lenL : (L'.take i ++ List.replicate (L'.length - i) ((⟨⟨#[]⟩, false⟩, ⟨⟨#[]⟩, false⟩) : Span) ++ L'.drop (i + (List.replicate (L'.length - i) ((⟨⟨#[]⟩, false⟩, ⟨⟨#[]⟩, false⟩) : Span)).length)).length = L'.length := by simp; omega
    have o6 : OwnsR W5 B 192 4 spanL (.slice (some ⟨g0, 0, none⟩) i cap0) (L.filter fun y => !pr y) := by
     have := (show OwnsR W5 B 192 4 spanL (.slice (some ⟨g0, 0, none⟩) L'.length cap0) _ from o5)
     have := this.cut len_span i (by rw [lenL]; omega) (by simp)
     have e : (L'.take i ++ List.replicate (L'.length - i) ((⟨⟨#[]⟩, false⟩, ⟨⟨#[]⟩, false⟩) : Span) ++ L'.drop (i + (List.replicate (L'.length - i) ((⟨⟨#[]⟩, false⟩, ⟨⟨#[]⟩, false⟩) : Span)).length)).take i = L.filter fun y => !pr y := by
      rw [List.append_assoc, List.take_append_of_le_length (by simp; omega), List.take_take, Nat.min_self, R.out.1, List.take_of_length_le (Nat.le_refl _)]
     rw [e] at this
     exact this
    have K6 := Lib.hid (And.intro o6 k5)
    clear o5 o6 k5 hW5 lenL
    go_wp2_with fail
    go_ret
    exact ⟨_, _, _, rfl, K6.out.1, rfl, K6.out.2.weaken (fun _ _ e => by subst e; rfl)⟩
end
section
open Go.RowKit
theorem of1_any (s : Span) (w : World) : Calls Tryz.prog 185 #[.agg (spanL s).toArray] w fun e w' => e = .returned (.bool (!lessC s.1 s.2)) ∧ Old w w' := by
 have L := Lib.hid (fun W => less_any s.1 s.2 W)
 obtain ⟨⟨s1, e1⟩, s2, e2⟩ := s
 unfold spanL
 simp only at L ⊢
 obtain ⟨z, hz⟩ : ∃ z, lessC ⟨s1, e1⟩ ⟨s2, e2⟩ = z := ⟨_, rfl⟩
 rw [hz] at L ⊢
 have b0 := heap_alloc_new w (.cells #[.string s1, .bool e1, .string s2, .bool e2] 192)
 have O := Lib.hid ((Keeps.refl (fun _ => False) w).alloc (.cells #[.string s1, .bool e1, .string s2, .bool e2] 192))
 clear b0 hz
 go_enter Tryz.func185, Tryz.ntmps185
 go_wp2_with fail
 refine (L.out _).mono ?_
 rintro e w1 ⟨rfl, k1⟩
 have O1 := Lib.hid (O.out.trans k1)
 clear k1
 go_wp2_with fail
 go_ret
 exact ⟨rfl, O1.out⟩
theorem own_spans (w : World) (l : List Span) (c : Array Value) (hc : c.toList = l.flatMap spanL) (hl : l.length ≤ 1000) : OwnsR (w.alloc (.cells c 192)) w.heap.size 192 4 spanL (.slice (some ⟨w.heap.size, 0, none⟩) l.length l.length) l := by
 have h := World.ownsRow_lit (base := w.heap.size) (e := 192) (size := 4) w c l.length (Nat.le_refl _) (by unfold maxLen; omega) (by rw [← Array.length_toList, hc, flat_len (k := 4) (fun x _ => len_span x)])
 unfold OwnsR
 rw [← hc]
 exact h
def OfB (b3 b5 : Nat) (l1 l2 l0 : ByteArray) (f1 f2 f0 : Bool) (W : World) : Prop := W.heap[b3]? = some (.cells #[.string l1, .bool f1] 188 (0, 0)) ∧ W.heap[b3 + 1]? = some (.cells #[.string l2, .bool f2] 188 (0, 0)) ∧ W.heap[b5]? = some (.cells #[.string l0, .bool f0] 188 (0, 0))
theorem OfB.to {b3 b5 : Nat} {l1 l2 l0 : ByteArray} {f1 f2 f0 : Bool} {W W' : World} (h : OfB b3 b5 l1 l2 l0 f1 f2 f0 W) (k : Old W W') : OfB b3 b5 l1 l2 l0 f1 f2 f0 W' :=
 ⟨(k.block _ (lt_of_heap h.1) (fun f => f)).trans h.1, (k.block _ (lt_of_heap h.2.1) (fun f => f)).trans h.2.1, (k.block _ (lt_of_heap h.2.2) (fun f => f)).trans h.2.2⟩
theorem of_del (l : List Span) (W : World) (c : Array Value) (hc : c.toList = l.flatMap spanL) (hl : l.length ≤ 1000) :
  Calls Tryz.prog 184 #[.slice (some ⟨W.heap.size, 0, none⟩) l.length l.length, .func (.func 185) #[] #[]] (W.alloc (.cells c 192)) fun e w' => ∃ p n cc, e = .returned (.slice p n cc) ∧ SeesR w' 4 spanL (.slice p n cc) (l.filter fun s => lessC s.1 s.2) ∧ Old W w' := by
 refine (delete_span (fun s => !lessC s.1 s.2) (.func (.func 185) #[] #[]) _ l W.heap.size _ (own_spans W l c hc hl) (by omega) ⟨_, #[], #[], rfl, fun args W => by simp [go_sem, callFunc, Tryz.func185]; rfl, fun x _ W' _ => of1_any x W'⟩).mono ?_
 rintro e w' ⟨p, n, cc, rfl, o, _, k⟩
 refine ⟨p, n, cc, rfl, ?_, ((Keeps.refl (fun _ => False) W).alloc _).then k (fun i hi e => by simp [Value.ownBlock] at e; omega)⟩
 have := o.sees len_span (by decide)
 simpa using this
theorem of_del0 (W : World) : Calls Tryz.prog 184 #[.slice none 0 0, .func (.func 185) #[] #[]] W fun e w' => ∃ p n cc, e = .returned (.slice p n cc) ∧ SeesR w' 4 spanL (.slice p n cc) [] ∧ Old W w' := by
 refine (delete_span (fun s => !lessC s.1 s.2) (.func (.func 185) #[] #[]) _ [] W.heap.size _ (OwnsR.nil W _) (by simp) ⟨_, #[], #[], rfl, fun args W => by simp [go_sem, callFunc, Tryz.func185]; rfl, fun x hx => by cases hx⟩).mono ?_
 rintro e w' ⟨p, n, cc, rfl, o, _, k⟩
 exact ⟨p, n, cc, rfl, o.sees len_span (by decide), k.weaken (fun _ _ e => by cases e)⟩
theorem of_any (c : Con) (w : World) (ic : I64V c.val) (hsz : c.val.str.size ≤ 1000) (hsv : ∃ p n cc, c.sv = .slice p n cc) :
  Calls Tryz.prog 143 #[.agg c.cells.toArray] w fun e w' => ∃ p n cc, e = .returned (.slice p n cc) ∧ SeesR w' 4 spanL (.slice p n cc) (ofL c.plain) ∧ Old w w' := by
 have AR := Lib.hid (fun W => around_any c.val W ic.1 ic.2 hsz)
 obtain ⟨nm, op, ⟨ck, cn, cs, cb⟩, sv, set⟩ := c
 obtain ⟨p, n, cc, e9⟩ := hsv
 simp only at e9 hsz ic AR
 subst e9
 obtain ⟨W0, hW0⟩ : ∃ W0, w.alloc (.cells #[.string nm, .int .i64 op, .int .i64 ck, .int .i64 cn, .string cs, .bool cb, .slice p n cc] 78) = W0 := ⟨_, rfl⟩
 have o0 : Old w W0 := by rw [← hW0]; exact (Keeps.refl _ _).alloc _
 have b0 : W0.heap[w.heap.size]? = some (.cells (Con.cells ⟨nm, op, ⟨ck, cn, cs, cb⟩, .slice p n cc, set⟩).toArray 78 (0, 0)) := by rw [← hW0]; exact heap_alloc_new _ _
 have x2 : W0.cell? ⟨w.heap.size, 2, none⟩ = some (.int .i64 ck) := by simp [World.cell?, b0, Con.cells]
 have x3 : W0.cell? ⟨w.heap.size, 3, none⟩ = some (.int .i64 cn) := by simp [World.cell?, b0, Con.cells]
 have x4 : W0.cell? ⟨w.heap.size, 4, none⟩ = some (.string cs) := by simp [World.cell?, b0, Con.cells]
 have x5 : W0.cell? ⟨w.heap.size, 5, none⟩ = some (.bool cb) := by simp [World.cell?, b0, Con.cells]
 have A := Lib.hid (And.intro o0 b0)
 have HW := Lib.hid hW0
 obtain ⟨⟨⟨l1, f1⟩, l2, f2⟩, hA⟩ : ∃ q, aroundC ⟨ck, cn, cs, cb⟩ = q := ⟨_, rfl⟩
 obtain ⟨⟨l0, f0⟩, hF⟩ : ∃ q, firstC ck = q := ⟨_, rfl⟩
 rw [hA] at AR
 have FR := Lib.hid (fun W => first_any_d ck W)
 rw [hF] at FR
 have HA := Lib.hid (And.intro hA hF)
 unfold Cut.cells at AR FR
 simp only at AR FR
 clear o0 b0 hW0 hA hF
 unfold Con.cells
 simp only
 go_enter Tryz.func143, Tryz.ntmps143
 go_upto_region 1 with fail
 rw [HW.out]
 go_wp2_with fail
 refine (AR.out W0).mono ?_
 rintro e w1 ⟨rfl, k1⟩
 have z1 := (A.out.1.trans k1).size
 obtain ⟨W1, hW1⟩ : ∃ W1, (w1.alloc (.cells #[.string l1, .bool f1] 188)).alloc (.cells #[.string l2, .bool f2] 188) = W1 := ⟨_, rfl⟩
 obtain ⟨b1, b2⟩ := two_blocks w1 (.cells #[.string l1, .bool f1] 188) (.cells #[.string l2, .bool f2] 188)
 rw [hW1] at b1 b2
 have o1 : Old W0 W1 := by rw [← hW1]; exact k1.trans (((Keeps.refl _ _).alloc _).alloc _)
 have c1 := (o1.block _ (lt_of_heap A.out.2) (fun f => f)).trans A.out.2
 have y2 : W1.cell? ⟨w.heap.size, 2, none⟩ = some (.int .i64 ck) := by simp [World.cell?, c1, Con.cells]
 have HW1 := Lib.hid hW1
 have B := Lib.hid (And.intro o1 (And.intro c1 (And.intro b1 b2)))
 clear o1 c1 hW1 b1 b2 k1 x2 x3 x4 x5
 go_upto_region 2 with fail
 rw [HW1.out]
 go_wp2_with fail
 refine (FR.out W1).mono ?_
 rintro e w2 ⟨rfl, k2⟩
 obtain ⟨W3, hW3⟩ : ∃ W3, w2.alloc (.cells #[.string l0, .bool f0] 188) = W3 := ⟨_, rfl⟩
 have b5 : W3.heap[w2.heap.size]? = some (.cells #[.string l0, .bool f0] 188 (0, 0)) := by rw [← hW3]; exact heap_alloc_new _ _
 have o3 : Old W1 W3 := by rw [← hW3]; exact k2.trans ((Keeps.refl _ _).alloc _)
 have c3 := (o3.block _ (lt_of_heap B.out.2.1) (fun f => f)).trans B.out.2.1
 have y1 : W3.cell? ⟨w.heap.size, 1, none⟩ = some (.int .i64 op) := by simp [World.cell?, c3, Con.cells]
 have y4 : W3.cell? ⟨w.heap.size, 4, none⟩ = some (.string cs) := by simp [World.cell?, c3, Con.cells]
 obtain ⟨b3, hb3⟩ : ∃ b3, w1.heap.size = b3 := ⟨_, rfl⟩
 obtain ⟨b6, hb6⟩ : ∃ b6, w2.heap.size = b6 := ⟨_, rfl⟩
 have hT : OfB b3 b6 l1 l2 l0 f1 f2 f0 W3 := by
  rw [← hb3, ← hb6]
  exact ⟨(o3.block _ (lt_of_heap B.out.2.2.1) (fun f => f)).trans B.out.2.2.1, (o3.block _ (lt_of_heap B.out.2.2.2) (fun f => f)).trans B.out.2.2.2, b5⟩
 have HW3 := Lib.hid hW3
 have D := Lib.hid (And.intro ((A.out.1.trans B.out.1).trans o3) (And.intro c3 hT))
 have O := Lib.hid ((A.out.1.trans B.out.1).trans o3)
 go_upto_region 3 with fail
 clear hW3 b5 o3 c3 y2 k2 hb3 hb6
 -- CASES
 by_cases h2 : op = 2
 ·subst h2
  have q3 := blk2 hT.1
  have q4 := blk2 hT.2.1
  have q5 := blk2 hT.2.2
  go_wp2_with fail
  refine (of_del [((⟨l1, f1⟩ : Cut), (⟨l2, f2⟩ : Cut))] W3 #[.string l1, .bool f1, .string l2, .bool f2] rfl (by simp)).mono ?_
  rintro e w9 ⟨p9, n9, c9, rfl, s9, o9⟩
  have R := Lib.hid (And.intro s9 (O.out.trans o9))
  clear s9 o9
  go_wp2_with fail
  go_ret
  refine ⟨_, _, _, rfl, ?_, R.out.2⟩
  have e : ofL (Con.plain ⟨nm, 2, ⟨ck, cn, cs, cb⟩, .slice p n cc, set⟩) = [((⟨l1, f1⟩ : Cut), (⟨l2, f2⟩ : Cut))].filter fun s => lessC s.1 s.2 := by simp [ofL, ofRaw, Con.plain, HA.out.1]
  rw [e]
  exact R.out.1
 have t2 : (op == 2) = false := by simp; omega
 by_cases h4 : op = 4
 ·subst h4
  have q3 := blk2 hT.1
  have q4 := blk2 hT.2.1
  have q5 := blk2 hT.2.2
  go_wp2_with fail
  refine (of_del [((⟨l0, f0⟩ : Cut), (⟨l1, f1⟩ : Cut))] W3 #[.string l0, .bool f0, .string l1, .bool f1] rfl (by simp)).mono ?_
  rintro e w9 ⟨p9, n9, c9, rfl, s9, o9⟩
  have R := Lib.hid (And.intro s9 (O.out.trans o9))
  clear s9 o9
  go_wp2_with fail
  go_ret
  refine ⟨_, _, _, rfl, ?_, R.out.2⟩
  have e : ofL (Con.plain ⟨nm, 4, ⟨ck, cn, cs, cb⟩, .slice p n cc, set⟩) = [((⟨l0, f0⟩ : Cut), (⟨l1, f1⟩ : Cut))].filter fun s => lessC s.1 s.2 := by simp [ofL, ofRaw, Con.plain, HA.out.1, HA.out.2]
  rw [e]
  exact R.out.1
 have t4 : (op == 4) = false := by simp; omega
 by_cases h5 : op = 5
 ·subst h5
  have q3 := blk2 hT.1
  have q4 := blk2 hT.2.1
  have q5 := blk2 hT.2.2
  go_wp2_with fail
  refine (of_del [((⟨l0, f0⟩ : Cut), (⟨l2, f2⟩ : Cut))] W3 #[.string l0, .bool f0, .string l2, .bool f2] rfl (by simp)).mono ?_
  rintro e w9 ⟨p9, n9, c9, rfl, s9, o9⟩
  have R := Lib.hid (And.intro s9 (O.out.trans o9))
  clear s9 o9
  go_wp2_with fail
  go_ret
  refine ⟨_, _, _, rfl, ?_, R.out.2⟩
  have e : ofL (Con.plain ⟨nm, 5, ⟨ck, cn, cs, cb⟩, .slice p n cc, set⟩) = [((⟨l0, f0⟩ : Cut), (⟨l2, f2⟩ : Cut))].filter fun s => lessC s.1 s.2 := by simp [ofL, ofRaw, Con.plain, HA.out.1, HA.out.2]
  rw [e]
  exact R.out.1
 have t5 : (op == 5) = false := by simp; omega
 by_cases h3 : op = 3
 ·subst h3
  go_upto_region 8 with fail
  have hD : OfB b3 b6 l1 l2 l0 f1 f2 f0 W3.drew := hT
  refine wp_region_g (S := OfB b3 b6 l1 l2 l0 f1 f2 f0) (M := [0, 1, 2, 3, 4, 5, 6]) (by kernel_rfl) ?_
  refine tkG (i := 0) (v := ?vk3t0) ?yk3t0 hD ?rk3t0
  case yk3t0 => (intro W hSw; obtain ⟨g1, g2, g3⟩ := hSw; have q3 := blk2 g1; have q4 := blk2 g2; have q5 := blk2 g3; go_simp; try with_reducible rfl)
  try simp only [Act.put, List.setIfInBounds_toArray, List.set_cons_zero, List.set_cons_succ]
  refine tkG (i := 1) (v := ?vk3t1) ?yk3t1 hD ?rk3t1
  case yk3t1 => (intro W hSw; obtain ⟨g1, g2, g3⟩ := hSw; have q3 := blk2 g1; have q4 := blk2 g2; have q5 := blk2 g3; go_simp; try with_reducible rfl)
  try simp only [Act.put, List.setIfInBounds_toArray, List.set_cons_zero, List.set_cons_succ]
  refine tkG (i := 2) (v := ?vk3t2) ?yk3t2 hD ?rk3t2
  case yk3t2 => (intro W hSw; go_simp; try with_reducible rfl)
  try simp only [Act.put, List.setIfInBounds_toArray, List.set_cons_zero, List.set_cons_succ]
  refine tkG (i := 3) (v := ?vk3t3) ?yk3t3 hD ?rk3t3
  case yk3t3 => (intro W hSw; obtain ⟨g1, g2, g3⟩ := hSw; have q3 := blk2 g1; have q4 := blk2 g2; have q5 := blk2 g3; go_simp; try with_reducible rfl)
  try simp only [Act.put, List.setIfInBounds_toArray, List.set_cons_zero, List.set_cons_succ]
  refine wpAnyG_onlyL (i := 4) (o := _) (by kernel_rfl) rfl (fun K hK => ?_)
  go_simp
  refine (end_any _).mono ?_
  rintro e w4 ⟨rfl, k4⟩
  have hD4 := hD.to k4
  have O4 := Lib.hid ((O.out.trans (Keeps.refl (fun _ => False) W3).drew).trans k4)
  clear k4 hD
  go_wp2_with fail
  refine hK.out _ _ (fun _ => hD4) ?_
  clear hK K
  try simp only [Act.put, List.setIfInBounds_toArray, List.set_cons_zero, List.set_cons_succ]
  refine tkG (i := 5) (v := ?vk3t5) ?yk3t5 hD4 ?rk3t5
  case yk3t5 => (intro W hSw; go_simp; try with_reducible rfl)
  try simp only [Act.put, List.setIfInBounds_toArray, List.set_cons_zero, List.set_cons_succ]
  refine wpAnyG_onlyL (i := 6) (o := _) (by kernel_rfl) rfl (fun K hK => ?_)
  go_simp
  refine hK.out _ _ (fun _ => hD4.to ((Keeps.refl _ _).alloc _)) ?_
  clear hK K
  try simp only [Act.put, List.setIfInBounds_toArray, List.set_cons_zero, List.set_cons_succ]
  refine wpAnyG_onlyL (i := 7) (o := _) (by kernel_rfl) rfl (fun K hK => ?_)
  go_simp
  refine hK.out _ _ (fun h => absurd h (by decide)) ?_
  clear hK K
  try simp only [Act.put, List.setIfInBounds_toArray, List.set_cons_zero, List.set_cons_succ]
  refine wpAnyG_done (by kernel_rfl) ?_ _
  go_simp
  go_wp2_with fail
  refine (of_del [((⟨l0, f0⟩ : Cut), (⟨l1, f1⟩ : Cut)), ((⟨l2, f2⟩ : Cut), (⟨⟨#[]⟩, true⟩ : Cut))] w4 #[.string l0, .bool f0, .string l1, .bool f1, .string l2, .bool f2, .string ⟨#[]⟩, .bool true] rfl (by simp)).mono ?_
  rintro e w9 ⟨p9, n9, c9, rfl, s9, o9⟩
  have R := Lib.hid (And.intro s9 (O4.out.trans o9))
  clear s9 o9
  go_wp2_with fail
  go_ret
  refine ⟨_, _, _, rfl, ?_, R.out.2⟩
  have e : ofL (Con.plain ⟨nm, 3, ⟨ck, cn, cs, cb⟩, .slice p n cc, set⟩) = [((⟨l0, f0⟩ : Cut), (⟨l1, f1⟩ : Cut)), ((⟨l2, f2⟩ : Cut), (⟨⟨#[]⟩, true⟩ : Cut))].filter fun s => lessC s.1 s.2 := by simp [ofL, ofRaw, Con.plain, HA.out.1, HA.out.2, endC]
  rw [e]
  exact R.out.1
 have t3 : (op == 3) = false := by simp; omega
 by_cases h6 : op = 6
 ·subst h6
  go_upto_region 14 with fail
  have hD : OfB b3 b6 l1 l2 l0 f1 f2 f0 W3.drew := hT
  refine wp_region_g (S := OfB b3 b6 l1 l2 l0 f1 f2 f0) (M := [0, 1, 2, 3]) (by kernel_rfl) ?_
  refine tkG (i := 0) (v := ?vk6t0) ?yk6t0 hD ?rk6t0
  case yk6t0 => (intro W hSw; obtain ⟨g1, g2, g3⟩ := hSw; have q3 := blk2 g1; have q4 := blk2 g2; have q5 := blk2 g3; go_simp; try with_reducible rfl)
  try simp only [Act.put, List.setIfInBounds_toArray, List.set_cons_zero, List.set_cons_succ]
  refine wpAnyG_onlyL (i := 1) (o := _) (by kernel_rfl) rfl (fun K hK => ?_)
  go_simp
  refine (end_any _).mono ?_
  rintro e w4 ⟨rfl, k4⟩
  have hD4 := hD.to k4
  have O4 := Lib.hid ((O.out.trans (Keeps.refl (fun _ => False) W3).drew).trans k4)
  clear k4 hD
  go_wp2_with fail
  refine hK.out _ _ (fun _ => hD4) ?_
  clear hK K
  try simp only [Act.put, List.setIfInBounds_toArray, List.set_cons_zero, List.set_cons_succ]
  refine tkG (i := 2) (v := ?vk6t2) ?yk6t2 hD4 ?rk6t2
  case yk6t2 => (intro W hSw; go_simp; try with_reducible rfl)
  try simp only [Act.put, List.setIfInBounds_toArray, List.set_cons_zero, List.set_cons_succ]
  refine wpAnyG_onlyL (i := 3) (o := _) (by kernel_rfl) rfl (fun K hK => ?_)
  go_simp
  refine hK.out _ _ (fun _ => hD4.to ((Keeps.refl _ _).alloc _)) ?_
  clear hK K
  try simp only [Act.put, List.setIfInBounds_toArray, List.set_cons_zero, List.set_cons_succ]
  refine wpAnyG_onlyL (i := 4) (o := _) (by kernel_rfl) rfl (fun K hK => ?_)
  go_simp
  refine hK.out _ _ (fun h => absurd h (by decide)) ?_
  clear hK K
  try simp only [Act.put, List.setIfInBounds_toArray, List.set_cons_zero, List.set_cons_succ]
  refine wpAnyG_done (by kernel_rfl) ?_ _
  go_simp
  go_wp2_with fail
  refine (of_del [((⟨l2, f2⟩ : Cut), (⟨⟨#[]⟩, true⟩ : Cut))] w4 #[.string l2, .bool f2, .string ⟨#[]⟩, .bool true] rfl (by simp)).mono ?_
  rintro e w9 ⟨p9, n9, c9, rfl, s9, o9⟩
  have R := Lib.hid (And.intro s9 (O4.out.trans o9))
  clear s9 o9
  go_wp2_with fail
  go_ret
  refine ⟨_, _, _, rfl, ?_, R.out.2⟩
  have e : ofL (Con.plain ⟨nm, 6, ⟨ck, cn, cs, cb⟩, .slice p n cc, set⟩) = [((⟨l2, f2⟩ : Cut), (⟨⟨#[]⟩, true⟩ : Cut))].filter fun s => lessC s.1 s.2 := by simp [ofL, ofRaw, Con.plain, HA.out.1, endC]
  rw [e]
  exact R.out.1
 have t6 : (op == 6) = false := by simp; omega
 by_cases h7 : op = 7
 ·subst h7
  go_upto_region 16 with fail
  have hD : OfB b3 b6 l1 l2 l0 f1 f2 f0 W3.drew := hT
  refine wp_region_g (S := OfB b3 b6 l1 l2 l0 f1 f2 f0) (M := [0, 1, 2, 3]) (by kernel_rfl) ?_
  refine tkG (i := 0) (v := ?vk7t0) ?yk7t0 hD ?rk7t0
  case yk7t0 => (intro W hSw; obtain ⟨g1, g2, g3⟩ := hSw; have q3 := blk2 g1; have q4 := blk2 g2; have q5 := blk2 g3; go_simp; try with_reducible rfl)
  try simp only [Act.put, List.setIfInBounds_toArray, List.set_cons_zero, List.set_cons_succ]
  refine wpAnyG_onlyL (i := 1) (o := _) (by kernel_rfl) rfl (fun K hK => ?_)
  go_simp
  refine (end_any _).mono ?_
  rintro e w4 ⟨rfl, k4⟩
  have hD4 := hD.to k4
  have O4 := Lib.hid ((O.out.trans (Keeps.refl (fun _ => False) W3).drew).trans k4)
  clear k4 hD
  go_wp2_with fail
  refine hK.out _ _ (fun _ => hD4) ?_
  clear hK K
  try simp only [Act.put, List.setIfInBounds_toArray, List.set_cons_zero, List.set_cons_succ]
  refine tkG (i := 2) (v := ?vk7t2) ?yk7t2 hD4 ?rk7t2
  case yk7t2 => (intro W hSw; go_simp; try with_reducible rfl)
  try simp only [Act.put, List.setIfInBounds_toArray, List.set_cons_zero, List.set_cons_succ]
  refine wpAnyG_onlyL (i := 3) (o := _) (by kernel_rfl) rfl (fun K hK => ?_)
  go_simp
  refine hK.out _ _ (fun _ => hD4.to ((Keeps.refl _ _).alloc _)) ?_
  clear hK K
  try simp only [Act.put, List.setIfInBounds_toArray, List.set_cons_zero, List.set_cons_succ]
  refine wpAnyG_onlyL (i := 4) (o := _) (by kernel_rfl) rfl (fun K hK => ?_)
  go_simp
  refine hK.out _ _ (fun h => absurd h (by decide)) ?_
  clear hK K
  try simp only [Act.put, List.setIfInBounds_toArray, List.set_cons_zero, List.set_cons_succ]
  refine wpAnyG_done (by kernel_rfl) ?_ _
  go_simp
  go_wp2_with fail
  refine (of_del [((⟨l1, f1⟩ : Cut), (⟨⟨#[]⟩, true⟩ : Cut))] w4 #[.string l1, .bool f1, .string ⟨#[]⟩, .bool true] rfl (by simp)).mono ?_
  rintro e w9 ⟨p9, n9, c9, rfl, s9, o9⟩
  have R := Lib.hid (And.intro s9 (O4.out.trans o9))
  clear s9 o9
  go_wp2_with fail
  go_ret
  refine ⟨_, _, _, rfl, ?_, R.out.2⟩
  have e : ofL (Con.plain ⟨nm, 7, ⟨ck, cn, cs, cb⟩, .slice p n cc, set⟩) = [((⟨l1, f1⟩ : Cut), (⟨⟨#[]⟩, true⟩ : Cut))].filter fun s => lessC s.1 s.2 := by simp [ofL, ofRaw, Con.plain, HA.out.1, endC]
  rw [e]
  exact R.out.1
 have t7 : (op == 7) = false := by simp; omega
 by_cases h8 : op = 8
 ·subst h8
  go_upto_region 18 with fail
  obtain ⟨⟨lp, fp⟩, hP⟩ : ∃ q, pastC cs = q := ⟨_, rfl⟩
  have PA := past_any cs W3.drew hsz
  rw [hP] at PA
  have HP := Lib.hid hP
  clear hP
  have hD : OfB b3 b6 l1 l2 l0 f1 f2 f0 W3.drew ∧ W3.drew.cell? ⟨w.heap.size, 4, none⟩ = some (.string cs) := ⟨hT, y4⟩
  refine wp_region_g (S := fun W => OfB b3 b6 l1 l2 l0 f1 f2 f0 W ∧ W.cell? ⟨w.heap.size, 4, none⟩ = some (.string cs)) (M := [0, 1, 2, 3, 4, 5, 6]) (by kernel_rfl) ?_
  refine tkG (i := 0) (v := ?vk8t0) ?yk8t0 hD ?rk8t0
  case yk8t0 => (intro W hSw; obtain ⟨⟨g1, g2, g3⟩, g4⟩ := hSw; have q3 := blk2 g1; go_simp; try with_reducible rfl)
  try simp only [Act.put, List.setIfInBounds_toArray, List.set_cons_zero, List.set_cons_succ]
  refine tkG (i := 1) (v := ?vk8t1) ?yk8t1 hD ?rk8t1
  case yk8t1 => (intro W hSw; go_simp; try with_reducible rfl)
  try simp only [Act.put, List.setIfInBounds_toArray, List.set_cons_zero, List.set_cons_succ]
  refine tkG (i := 2) (v := ?vk8t2) ?yk8t2 hD ?rk8t2
  case yk8t2 => (intro W hSw; go_simp; try with_reducible rfl)
  try simp only [Act.put, List.setIfInBounds_toArray, List.set_cons_zero, List.set_cons_succ]
  refine tkG (i := 3) (v := ?vk8t3) ?yk8t3 hD ?rk8t3
  case yk8t3 => (intro W hSw; obtain ⟨⟨g1, g2, g3⟩, g4⟩ := hSw; go_simp; try with_reducible rfl)
  try simp only [Act.put, List.setIfInBounds_toArray, List.set_cons_zero, List.set_cons_succ]
  refine wpAnyG_onlyL (i := 4) (o := _) (by kernel_rfl) rfl (fun K hK => ?_)
  go_simp
  refine PA.mono ?_
  rintro e w4 ⟨rfl, k4⟩
  have hD4 : OfB b3 b6 l1 l2 l0 f1 f2 f0 w4 ∧ w4.cell? ⟨w.heap.size, 4, none⟩ = some (.string cs) := ⟨hD.1.to k4, k4.cell hD.2 (fun f => f)⟩
  have O4 := Lib.hid ((O.out.trans (Keeps.refl (fun _ => False) W3).drew).trans k4)
  clear k4 hD
  unfold Cut.cells
  simp only
  go_wp2_with fail
  refine hK.out _ _ (fun _ => hD4) ?_
  clear hK K
  try simp only [Act.put, List.setIfInBounds_toArray, List.set_cons_zero, List.set_cons_succ]
  refine tkG (i := 5) (v := ?vk8t5) ?yk8t5 hD4 ?rk8t5
  case yk8t5 => (intro W hSw; go_simp; try with_reducible rfl)
  try simp only [Act.put, List.setIfInBounds_toArray, List.set_cons_zero, List.set_cons_succ]
  refine wpAnyG_onlyL (i := 6) (o := _) (by kernel_rfl) rfl (fun K hK => ?_)
  go_simp
  refine hK.out _ _ (fun _ => ⟨hD4.1.to ((Keeps.refl _ _).alloc _), ((Keeps.refl (fun _ => False) w4).alloc _).cell hD4.2 (fun f => f)⟩) ?_
  clear hK K
  try simp only [Act.put, List.setIfInBounds_toArray, List.set_cons_zero, List.set_cons_succ]
  refine wpAnyG_onlyL (i := 7) (o := _) (by kernel_rfl) rfl (fun K hK => ?_)
  go_simp
  refine hK.out _ _ (fun h => absurd h (by decide)) ?_
  clear hK K
  try simp only [Act.put, List.setIfInBounds_toArray, List.set_cons_zero, List.set_cons_succ]
  refine wpAnyG_done (by kernel_rfl) ?_ _
  go_simp
  go_wp2_with fail
  refine (of_del [((⟨l1, f1⟩ : Cut), (⟨lp, fp⟩ : Cut))] w4 #[.string l1, .bool f1, .string lp, .bool fp] rfl (by simp)).mono ?_
  rintro e w9 ⟨p9, n9, c9, rfl, s9, o9⟩
  have R := Lib.hid (And.intro s9 (O4.out.trans o9))
  clear s9 o9
  go_wp2_with fail
  go_ret
  refine ⟨_, _, _, rfl, ?_, R.out.2⟩
  have e : ofL (Con.plain ⟨nm, 8, ⟨ck, cn, cs, cb⟩, .slice p n cc, set⟩) = [((⟨l1, f1⟩ : Cut), (⟨lp, fp⟩ : Cut))].filter fun s => lessC s.1 s.2 := by simp [ofL, ofRaw, Con.plain, HA.out.1, HP.out]
  rw [e]
  exact R.out.1
 have t8 : (op == 8) = false := by simp; omega
 go_wp2_with fail
 refine (of_del0 W3).mono ?_
 rintro e w9 ⟨p9, n9, c9, rfl, s9, o9⟩
 have R := Lib.hid (And.intro s9 (O.out.trans o9))
 clear s9 o9
 go_wp2_with fail
 go_ret
 refine ⟨_, _, _, rfl, ?_, R.out.2⟩
 have e : ofL (Con.plain ⟨nm, op, ⟨ck, cn, cs, cb⟩, .slice p n cc, set⟩) = [] := by simp [ofL, ofRaw, Con.plain, h2, h3, h4, h5, h6, h7, h8]
 rw [e]
 exact R.out.1
end
end Go.Proofs.YtehmlaplodjenaaGreat
