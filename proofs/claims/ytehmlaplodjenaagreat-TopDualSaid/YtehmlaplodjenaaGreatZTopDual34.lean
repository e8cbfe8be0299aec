/- DERIVED. slices.Compact at values, slices.CompactFunc at constraints: nobody is lost, nobody is new. Written by gen_cpt.py. -/
import Derived.Test.YtehmlaplodjenaaGreatZTopDual33
import Derived.Deep.DeepCutAuto
import Derived.IntWalk
import Derived.BigQuiet
set_option maxRecDepth 100000
set_option maxHeartbeats 8000000
namespace Go.Proofs.YtehmlaplodjenaaGreat
section
open Go.RowKit
theorem ba_beq {a b : ByteArray} (h : (a == b) = true) : a = b := by
 cases a with | mk x => cases b with | mk y =>
 have h2 : (x == y) = true := h
 rw [eq_of_beq h2]
def valEq (a b : Val) : Bool := a.kind == b.kind && (a.num == b.num && (a.str == b.str && a.is == b.is))
theorem valEq_eq {a b : Val} (h : valEq a b = true) : a = b := by
 obtain ⟨k, n, s, i⟩ := a
 obtain ⟨k', n', s', i'⟩ := b
 unfold valEq at h
 simp only [Bool.and_eq_true, beq_iff_eq] at h
 obtain ⟨h1, h2, h3, h4⟩ := h
 rw [h1, h2, ba_beq h3, h4]
theorem eql_valL (a b : Val) (W : World) : (binOp .eql 61 (.agg (valL a).toArray) (.agg (valL b).toArray)).run Tryz.prog W = .ok (.bool (valEq a b)) W := eql_val _ _ _ _ _ _ _ _ W
theorem neq_valL (a b : Val) (W : World) : (binOp .neq 61 (.agg (valL a).toArray) (.agg (valL b).toArray)).run Tryz.prog W = .ok (.bool !(valEq a b)) W := by
 have h := eq_val_in 9999 (eq_int 9998) (eq_i64 9998) (eq_string 9998) (eq_bool 9998) a.kind b.kind a.num b.num a.str b.str a.is b.is W
 obtain ⟨k, n, s, i⟩ := a
 obtain ⟨k', n', s', i'⟩ := b
 simp only at h
 simp [binOp, go_sem, Op.equal, Op.maxDepth, valL, valEq, h]
def zV0 : Val := ⟨0, 0, ⟨#[]⟩, false⟩
def zC0 : Con := ⟨⟨#[]⟩, 0, zV0, .slice none 0 0, []⟩
theorem zero_valZ (w : World) : (zeroValue 61).run Tryz.prog w = .ok (.agg #[.int .i64 0, .int .i64 0, .string ⟨#[]⟩, .bool false]) w := by kernel_rfl
theorem zero_conZ (w : World) : (zeroValue 78).run Tryz.prog w = .ok (.agg #[.string ⟨#[]⟩, .int .i64 0, .int .i64 0, .int .i64 0, .string ⟨#[]⟩, .bool false, .slice none 0 0]) w := by kernel_rfl
def Cov {α β : Type} (key : α → β) (T L : List α) (m : Nat) : Prop := ∀ x ∈ L.take m, ∃ y ∈ T, key y = key x
theorem Cov.more {α β : Type} {key : α → β} {T L : List α} {m : Nat} {x y : α} (h : Cov key T L m) (hx : L[m]? = some x) (hy : y ∈ L.take m) (he : key x = key y) : Cov key T L (m + 1) := by
 intro z hz
 rw [List.take_add_one, hx] at hz
 rcases List.mem_append.1 hz with hz | hz
 ·exact h z hz
 ·have : z = x := by simpa using hz
  subst this
  obtain ⟨u, hu, e⟩ := h y hy
  exact ⟨u, hu, e.trans he.symm⟩
theorem Cov.put {α β : Type} {key : α → β} {T L : List α} {m : Nat} {x : α} (h : Cov key T L m) (hx : L[m]? = some x) : Cov key (T ++ [x]) L (m + 1) := by
 intro z hz
 rw [List.take_add_one, hx] at hz
 rcases List.mem_append.1 hz with hz | hz
 ·obtain ⟨u, hu, e⟩ := h z hz
  exact ⟨u, List.mem_append.2 (.inl hu), e⟩
 ·have : z = x := by simpa using hz
  subst this
  exact ⟨z, List.mem_append.2 (.inr (List.mem_singleton.2 rfl)), rfl⟩
def CmpW {β : Type} (w : World) (key : Con → β) (fv v : Value) (L : List Con) : Prop :=
 ∃ g bd lb, fv = .func (.func g) bd lb ∧ (∀ args W, (callFunc g args).run Tryz.prog W = .ok (.enter g args) W) ∧ ∀ x ∈ L, ∀ y ∈ L, ∀ W, Keeps (fun k => v.ownBlock = some k) w W → Calls Tryz.prog g (bd ++ #[.agg (Con.cells x).toArray, .agg (Con.cells y).toArray] ++ lb) W fun e W' => ∃ z : Bool, e = .returned (.bool z) ∧ (z = true → key x = key y) ∧ Old W W'
attribute [-go_sem] loadVar storeVar
def CptP_val (B : Nat) (key : Val → Val) (v : Value) (L : List Val) (w : World) (e : Ending) (w' : World) : Prop := ∃ p n c R, e = .returned (.slice p n c) ∧ OwnsR w' B 61 4 valL (.slice p n c) R ∧ (∀ y ∈ R, y ∈ L) ∧ (∀ x ∈ L, ∃ y ∈ R, key y = key x) ∧ R.length ≤ L.length ∧ (Value.slice p n c).ownBlock = v.ownBlock ∧ Keeps (fun k => v.ownBlock = some k) w w'
theorem compact_val  ( v : Value) (L : List Val) (B : Nat) (w : World) (h : OwnsR w B 61 4 valL v L) (h1 : ∀ x ∈ L, (valL x).toArray.all (·.oneCell') = true) (hl : L.length ≤ 1000000)  :
  Calls Tryz.prog 58 #[v] w (CptP_val B id v L w) := by
 obtain ⟨p0, c0, hv, hle0, hmx⟩ := (h.sees len_valL (by decide)).len
 by_cases hl2 : L.length < 2
 ·subst hv
  have H := Lib.hid h
  have hl3 : (L.length : Int) < 2 := by omega
  clear h h1 
  go_enter Tryz.func58, Tryz.ntmps58
  go_wp2_with fail
  go_ret
  exact ⟨_, _, _, L, rfl, H.out, fun _ h => h, fun x hx => ⟨x, hx, rfl⟩, Nat.le_refl _, rfl, Keeps.refl _ _⟩
 ·obtain ⟨g, cap, cur, rfl, hb, hgg, hn, hmc, _, _⟩ := h.row (by
   rcases h.2 with ⟨_, h0⟩ | ⟨g, cap, cur, rfl, _⟩
   ·omega
   ·simp [Value.ownBlock])
  simp only [Value.slice.injEq, true_and] at hv
  obtain ⟨rfl, rfl⟩ := hv
  have hg0 : g < w.heap.size := (Array.getElem?_eq_some_iff.1 hgg).1
  have hl3 : ¬ (L.length : Int) < 2 := by omega
  have hn9 : L.length ≤ 9223372036854775807 := by omega
  have hcap : cap ≤ 9223372036854775807 := by unfold maxLen at hmc; omega
  have hsl1 : ∀ (i : Nat) (W : World), i < L.length → (Instr.slice 76 (.slice (some ⟨g, 0, none⟩) L.length cap) (some (.int .i64 (i : Int))) none none).run Tryz.prog W = .ok (.slice (some ⟨g, i * 4, none⟩) (L.length - i) (cap - i)) W := by
   intro i W hi
   have h1 : (i : Int) ≤ (L.length : Int) := by omega
   have h2 : ¬ cap = i := by omega
   simp [go_sem, h1, Go.sliced, h2]
  have hsl2 : ∀ (i : Nat) (W : World), i ≤ L.length → (Instr.slice 76 (.slice (some ⟨g, 0, none⟩) L.length cap) none (some (.int .i64 (i : Int))) none).run Tryz.prog W = .ok (.slice (some ⟨g, 0, none⟩) i cap) W := by
   intro i W hi
   have h1 : (i : Int) ≤ (cap : Int) := by omega
   simp [go_sem, h1, Go.sliced]
  have H := Lib.hid (And.intro h (And.intro h1 (And.intro hg0 (And.intro hsl1 hsl2))))
  clear h h1 hgg hsl1 hsl2 hle0 hmx hb 
  go_enter Tryz.func58, Tryz.ntmps58
  go_wp2_with fail
  go_loopw [3] (fun vk wr => ∃ i : Nat, 1 ≤ i ∧ i ≤ L.length ∧ vk = .int .i64 i ∧ Old w wr) (fun vk _ => L.length - (intOf vk).toNat)
  case atStart => exact ⟨1, Nat.le_refl _, by omega, rfl, Keeps.refl _ _⟩
  case round =>
   obtain ⟨wo, hwo⟩ : ∃ wo : World, wo = wr := ⟨_, rfl⟩
   subst hwo
   obtain ⟨i, hi1, hi2, rfl, hk⟩ := hrel
   by_cases hlt : i < L.length
   ·obtain ⟨i', hi'⟩ : ∃ i', i' + 1 = i := ⟨i - 1, by omega⟩
    have hx : L[i]? = some L[i] := List.getElem?_eq_getElem (by omega)
    have hy : L[i']? = some L[i'] := List.getElem?_eq_getElem (by omega)
    generalize L[i] = x at hx
    generalize L[i'] = y at hy
    have LX := Lib.hid (fun W (hW : Old wo W) => ((H.out.1.old hk).old hW).loadRow (P := Tryz.prog) len_valL (by decide) i x hx _ Tryz.underlying61 rfl Tryz.infoVal4)
    have LY := Lib.hid (fun W (hW : Old wo W) => ((H.out.1.old hk).old hW).loadRow (P := Tryz.prog) len_valL (by decide) i' y hy _ Tryz.underlying61 rfl Tryz.infoVal4)
    have wj : IntKind.i64.wrap ((i : Int) - 1) = (i' : Int) := by rw [IntWalk.i64_in _ (by omega)]; omega
    have hil : i' < L.length := by omega
    obtain ⟨z, hz⟩ : ∃ z, valEq x y = z := ⟨_, rfl⟩
    have hz1 : z = true → id x = id y := fun e => valEq_eq (hz.trans e)
    have EV := fun W => eql_valL x y W
    rw [hz] at EV
    have Q := Lib.hid (And.intro hk (And.intro hx (And.intro hy hi')))
    clear hk hx hy hi'
    go_upto_region 6 with fail
    have rd : Old wo wo.drew := (Keeps.refl _ _).drew
    refine wp_region_g (S := fun V => Old wo V) (M := List.range 10) (by kernel_rfl) ?_
    refine tkG (i := 0) (v := ?vb0) ?yb0 rd ?rb0
    case yb0 => (intro W hSw; go_simp; try with_reducible rfl)
    try simp only [Act.put, List.setIfInBounds_toArray, List.set_cons_zero, List.set_cons_succ]
    refine tkG (i := 1) (v := ?vb1) ?yb1 rd ?rb1
    case yb1 => (intro W hSw; go_simp; try with_reducible rfl)
    try simp only [Act.put, List.setIfInBounds_toArray, List.set_cons_zero, List.set_cons_succ]
    refine tkG (i := 2) (v := ?vb2) ?yb2 rd ?rb2
    case yb2 => (intro W hSw; go_simp; try with_reducible rfl)
    try simp only [Act.put, List.setIfInBounds_toArray, List.set_cons_zero, List.set_cons_succ]
    refine tkG (i := 3) (v := ?vb3) ?yb3 rd ?rb3
    case yb3 => (intro W hSw; have q1 := LX.out _ hSw; go_simp; try with_reducible rfl)
    try simp only [Act.put, List.setIfInBounds_toArray, List.set_cons_zero, List.set_cons_succ]
    refine tkG (i := 4) (v := ?vb4) ?yb4 rd ?rb4
    case yb4 => (intro W hSw; go_simp; try with_reducible rfl)
    try simp only [Act.put, List.setIfInBounds_toArray, List.set_cons_zero, List.set_cons_succ]
    refine tkG (i := 5) (v := ?vb5) ?yb5 rd ?rb5
    case yb5 => (intro W hSw; go_simp; try with_reducible rfl)
    try simp only [Act.put, List.setIfInBounds_toArray, List.set_cons_zero, List.set_cons_succ]
    refine tkG (i := 6) (v := ?vb6) ?yb6 rd ?rb6
    case yb6 => (intro W hSw; go_simp; try with_reducible rfl)
    try simp only [Act.put, List.setIfInBounds_toArray, List.set_cons_zero, List.set_cons_succ]
    refine tkG (i := 7) (v := ?vb7) ?yb7 rd ?rb7
    case yb7 => (intro W hSw; go_simp; try with_reducible rfl)
    try simp only [Act.put, List.setIfInBounds_toArray, List.set_cons_zero, List.set_cons_succ]
    refine tkG (i := 8) (v := ?vb8) ?yb8 rd ?rb8
    case yb8 => (intro W hSw; have q1 := LY.out _ hSw; go_simp; try with_reducible rfl)
    try simp only [Act.put, List.setIfInBounds_toArray, List.set_cons_zero, List.set_cons_succ]
    refine tkG (i := 9) (v := ?vb9) ?yb9 rd ?rb9
    case yb9 => (intro W hSw; have q1 := EV W; go_simp; try with_reducible rfl)
    try simp only [Act.put, List.setIfInBounds_toArray, List.set_cons_zero, List.set_cons_succ]
    refine wpAnyG_done (by kernel_rfl) ?_ _
    go_simp
    have o8 : Old wo wo.drew := rd
    obtain ⟨W1, hW1, k01, hze⟩ : ∃ W1, W1 = wo.drew ∧ Old w W1 ∧ (z = true → id x = id y) := ⟨_, rfl, Q.out.1.trans o8, hz1⟩
    rw [← hW1]
    have E := Lib.hid (And.intro k01 (And.intro hze (And.intro (Q.out.1) Q.out.2)))
    clear hW1 o8 rd hze k01 hz1
    cases z
    ·go_wp2_with fail
     go_roundw
     case rel => exact ⟨i + 1, by omega, by omega, by go_num, E.out.1⟩
     case measure => simp [intOf]; omega
    ·have s1 := fun W => H.out.2.2.2.1 i W hlt
     go_wp2_with fail
     obtain ⟨wq, hwq⟩ : ∃ wq : World, wq = W1 := ⟨_, rfl⟩
     subst hwq
     clear s1
     have hi3 : i' + 1 = i := E.out.2.2.2.2.2
     go_loopw [3, 5] (fun vk v2 wr => ∃ (m j : Nat) (L' : List Val), vk = .int .i64 m ∧ v2 = .int .i64 j ∧ 1 ≤ j ∧ i + j ≤ L.length ∧ m + 1 ≤ i + j ∧ L'.length = L.length ∧ (∀ y ∈ L'.take m, y ∈ L) ∧ Cov id (L'.take m) L (i + j) ∧ L'.drop (i + j - 1) = L.drop (i + j - 1) ∧
      OwnsR wr B 61 4 valL (.slice (some ⟨g, 0, none⟩) L.length cap) L' ∧ Keeps (fun k => k = g) w wr) (fun _ v2 _ => L.length - (intOf v2).toNat)
     case atStart =>
      refine ⟨i, 1, L, rfl, rfl, Nat.le_refl _, by omega, by omega, rfl, fun y hy => List.mem_of_mem_take hy, ?_, rfl, H.out.1.old E.out.1, E.out.1.weaken (fun _ _ f => f.elim)⟩
      have c0 : Cov id (L.take i) L i := fun x hx => ⟨x, hx, rfl⟩
      refine c0.more E.out.2.2.2.1 (y := y) ?_ (E.out.2.1 (by first | rfl | trivial))
      rw [← hi3, List.take_add_one, E.out.2.2.2.2.1]
      exact List.mem_append.2 (.inr (by simp))
     case round =>
      obtain ⟨wx, hwx⟩ : ∃ wx : World, wx = wr := ⟨_, rfl⟩
      subst hwx
      obtain ⟨m, j, L', rfl, rfl, hj1, hj2, hm1, hL', hT, hC, hD, ho, hk⟩ := hrel
      clear LX LY E Q wj hil hi3
      by_cases hlt2 : i + j < L.length
      ·obtain ⟨j', hj'⟩ : ∃ j', j' + 1 = j := ⟨j - 1, by omega⟩
       have hx : L'[i + j]? = some L'[i + j] := List.getElem?_eq_getElem (by omega)
       have hy : L'[i + j']? = some L'[i + j'] := List.getElem?_eq_getElem (by omega)
       generalize L'[i + j] = x at hx
       generalize L'[i + j'] = y at hy
       have hx0 : L[i + j]? = some x := by
        have := congrArg (·[1]?) hD
        simp only [List.getElem?_drop] at this
        rw [show i + j - 1 + 1 = i + j by omega] at this
        rw [← this, hx]
       have hy0 : L[i + j']? = some y := by
        have := congrArg (·[0]?) hD
        simp only [List.getElem?_drop] at this
        rw [show i + j - 1 + 0 = i + j' by omega] at this
        rw [← this, hy]
       have hxm : x ∈ L := List.mem_of_getElem? hx0
       have hym : y ∈ L := List.mem_of_getElem? hy0
       have LX := Lib.hid (fun W (hW : Old wx W) => (Nat.add_mul i j 4) ▸ (ho.old hW).loadRow (P := Tryz.prog) len_valL (by decide) (i + j) x hx _ Tryz.underlying61 rfl Tryz.infoVal4)
       have LY := Lib.hid (fun W (hW : Old wx W) => (Nat.add_mul i j' 4) ▸ (ho.old hW).loadRow (P := Tryz.prog) len_valL (by decide) (i + j') y hy _ Tryz.underlying61 rfl Tryz.infoVal4)
       have wj : IntKind.i64.wrap ((j : Int) - 1) = (j' : Int) := by rw [IntWalk.i64_in _ (by omega)]; omega
       have hjl : j < L.length - i := by omega
       have hjl' : j' < L.length - i := by omega
       have hjl2 : (j : Int) < ((L.length - i : Nat) : Int) := by omega
       have hyt : y ∈ L.take (i + j) := by
        rw [← hj', ← Nat.add_assoc, List.take_add_one, hy0]
        exact List.mem_append.2 (.inr (by simp))
       obtain ⟨z, hz⟩ : ∃ z, valEq x y = z := ⟨_, rfl⟩
       have hz1 : z = true → id x = id y := fun e => valEq_eq (hz.trans e)
       have EV := fun W => neq_valL x y W
       rw [hz] at EV
       have R := Lib.hid (And.intro hT (And.intro hC (And.intro hD (And.intro ho (And.intro hk (And.intro hx0 (And.intro hyt (And.intro hxm hL'))))))))
       clear hT hC hD ho hk hx hy hx0 hy0 hxm hym hyt
       go_upto_region 11 with fail
       have rd : Old wx wx.drew := (Keeps.refl _ _).drew
       refine wp_region_g (S := fun V => Old wx V) (M := List.range 10) (by kernel_rfl) ?_
       refine tkG (i := 0) (v := ?vc0) ?yc0 rd ?rc0
       case yc0 => (intro W hSw; go_simp; try with_reducible rfl)
       try simp only [Act.put, List.setIfInBounds_toArray, List.set_cons_zero, List.set_cons_succ]
       refine tkG (i := 1) (v := ?vc1) ?yc1 rd ?rc1
       case yc1 => (intro W hSw; go_simp; try with_reducible rfl)
       try simp only [Act.put, List.setIfInBounds_toArray, List.set_cons_zero, List.set_cons_succ]
       refine tkG (i := 2) (v := ?vc2) ?yc2 rd ?rc2
       case yc2 => (intro W hSw; go_simp; try with_reducible rfl)
       try simp only [Act.put, List.setIfInBounds_toArray, List.set_cons_zero, List.set_cons_succ]
       refine tkG (i := 3) (v := ?vc3) ?yc3 rd ?rc3
       case yc3 => (intro W hSw; have q1 := LX.out _ hSw; go_simp; try with_reducible rfl)
       try simp only [Act.put, List.setIfInBounds_toArray, List.set_cons_zero, List.set_cons_succ]
       refine tkG (i := 4) (v := ?vc4) ?yc4 rd ?rc4
       case yc4 => (intro W hSw; go_simp; try with_reducible rfl)
       try simp only [Act.put, List.setIfInBounds_toArray, List.set_cons_zero, List.set_cons_succ]
       refine tkG (i := 5) (v := ?vc5) ?yc5 rd ?rc5
       case yc5 => (intro W hSw; go_simp; try with_reducible rfl)
       try simp only [Act.put, List.setIfInBounds_toArray, List.set_cons_zero, List.set_cons_succ]
       refine tkG (i := 6) (v := ?vc6) ?yc6 rd ?rc6
       case yc6 => (intro W hSw; go_simp; try with_reducible rfl)
       try simp only [Act.put, List.setIfInBounds_toArray, List.set_cons_zero, List.set_cons_succ]
       refine tkG (i := 7) (v := ?vc7) ?yc7 rd ?rc7
       case yc7 => (intro W hSw; go_simp; try with_reducible rfl)
       try simp only [Act.put, List.setIfInBounds_toArray, List.set_cons_zero, List.set_cons_succ]
       refine tkG (i := 8) (v := ?vc8) ?yc8 rd ?rc8
       case yc8 => (intro W hSw; have q1 := LY.out _ hSw; go_simp; try with_reducible rfl)
       try simp only [Act.put, List.setIfInBounds_toArray, List.set_cons_zero, List.set_cons_succ]
       refine tkG (i := 9) (v := ?vc9) ?yc9 rd ?rc9
       case yc9 => (intro W hSw; have q1 := EV W; go_simp; try with_reducible rfl)
       try simp only [Act.put, List.setIfInBounds_toArray, List.set_cons_zero, List.set_cons_succ]
       refine wpAnyG_done (by kernel_rfl) ?_ _
       go_simp
       have o8 : Old wx wx.drew := rd
       obtain ⟨W8, hW8, k08, hze⟩ : ∃ W8, W8 = wx.drew ∧ Old wx W8 ∧ (z = true → id x = id y) := ⟨_, rfl, o8, hz1⟩
       rw [← hW8]
       have o9 := R.out.2.2.2.1.old k08
       rw [← R.out.2.2.2.2.2.2.2.2] at o9
       have st1 := o9.store (P := Tryz.prog) m (valL x).toArray (by rw [List.size_toArray, len_valL]) (by omega) Tryz.infoVal4 (H.out.2.1 x R.out.2.2.2.2.2.2.2.1)
       have s2 := o9.set len_valL m x (by omega)
       rw [show (valL x).toArray.toList = valL x from rfl] at st1
       have k2 : Keeps (fun k => k = g) W8 (W8.setCells g (m * 4) (valL x)) := putAt_keeps _ _ W8 W8 (Keeps.refl _ _)
       have lx := LX.out W8 k08
       rw [R.out.2.2.2.2.2.2.2.2] at s2
       have Z := Lib.hid (And.intro s2 (And.intro ((R.out.2.2.2.2.1.trans (k08.weaken (fun _ _ f => f.elim))).trans k2) (And.intro k08 hze)))
       have hml : m < L.length := by omega
       clear hW8 o8 rd hze k08 hz1 o9 s2 k2 LX LY
       cases z
       ·go_wp2_with fail
        go_roundw
        case rel =>
         refine ⟨m + 1, j + 1, L'.set m x, by go_num, by go_num, by omega, by omega, by omega, by simp; exact R.out.2.2.2.2.2.2.2.2, ?_, ?_, ?_, Z.out.1, Z.out.2.1⟩
         ·rw [List.take_succ_eq_append_getElem (by rw [List.length_set, R.out.2.2.2.2.2.2.2.2]; exact hml), List.take_set_of_le (Nat.le_refl _)]
          intro u hu
          rcases List.mem_append.1 hu with hu | hu
          ·exact R.out.1 u hu
          ·have : u = x := by simpa using hu
           rw [this]; exact R.out.2.2.2.2.2.2.2.1
         ·rw [List.take_succ_eq_append_getElem (by rw [List.length_set, R.out.2.2.2.2.2.2.2.2]; exact hml), List.take_set_of_le (Nat.le_refl _)]
          have := R.out.2.1.put R.out.2.2.2.2.2.1
          rw [← Nat.add_assoc, List.getElem_set_self]
          exact this
         ·rw [List.drop_set_of_lt (by omega), show i + (j + 1) - 1 = (i + j - 1) + 1 by omega, ← List.drop_drop, R.out.2.2.1, List.drop_drop]
        case measure => simp [intOf]; omega
       ·clear st1 lx
        go_wp2_with fail
        go_roundw
        case rel =>
         refine ⟨m, j + 1, L', rfl, by go_num, by omega, by omega, by omega, R.out.2.2.2.2.2.2.2.2, R.out.1, R.out.2.1.more R.out.2.2.2.2.2.1 R.out.2.2.2.2.2.2.1 (Z.out.2.2.2 (by first | rfl | trivial)), ?_, R.out.2.2.2.1.old Z.out.2.2.1, R.out.2.2.2.2.1.trans (Z.out.2.2.1.weaken (fun _ _ f => f.elim))⟩
         rw [show i + (j + 1) - 1 = (i + j - 1) + 1 by omega, ← List.drop_drop, R.out.2.2.1, List.drop_drop]
        case measure => simp [intOf]; omega
      ·have hij : i + j = L.length := by omega
       have hml : m < L.length := by omega
       have hnj : ¬ (j : Int) < ((L.length - i : Nat) : Int) := by omega
       rw [← hL'] at ho
       have hcl := fun ty => ho.clear (P := Tryz.prog) (T := 76) (ty := ty) len_valL (by decide) m (by omega) (cap - m) Tryz.underlying76 zero_valZ zV0 rfl (by simp [valL, zV0, Value.oneCell'])
       have o5 := ho.put len_valL m (List.replicate (L'.length - m) zV0) (by simp; omega)
       obtain ⟨W5, hW5⟩ : ∃ W, wx.setCells g (m * 4) ((List.replicate (L'.length - m) zV0).flatMap valL) = W := ⟨_, rfl⟩
       have k5 : Keeps (fun k => k = g) w W5 := by
        rw [← hW5]
        exact hk.trans (putAt_keeps _ _ _ _ (Keeps.refl _ _))
       rw [hW5] at o5 hcl
       rw [hL'] at hcl
       have lenL : (L'.take m ++ List.replicate (L'.length - m) zV0 ++ L'.drop (m + (List.replicate (L'.length - m) zV0).length)).length = L'.length := by simp; omega
       have o6 : OwnsR W5 B 61 4 valL (.slice (some ⟨g, 0, none⟩) m cap) (L'.take m) := by
        have := (show OwnsR W5 B 61 4 valL (.slice (some ⟨g, 0, none⟩) L'.length cap) _ from o5)
        have := this.cut len_valL m (by rw [lenL]; omega) (by simp)
        have e : (L'.take m ++ List.replicate (L'.length - m) zV0 ++ L'.drop (m + (List.replicate (L'.length - m) zV0).length)).take m = L'.take m := by
         rw [List.append_assoc, List.take_append_of_le_length (by simp; omega), List.take_take, Nat.min_self]
        rw [e] at this
        exact this
       have hcov : ∀ x ∈ L, ∃ y ∈ L'.take m, id y = id x := fun x hx => hC x (by rw [hij, List.take_of_length_le (Nat.le_refl _)]; exact hx)
       have hs1 := fun W => H.out.2.2.2.1 m W hml
       have hs2 := fun W => H.out.2.2.2.2 m W (by omega)
       have K6 := Lib.hid (And.intro o6 (And.intro k5 (And.intro hT hcov)))
       have hlm : (L'.take m).length ≤ L.length := by simp; omega
       clear o5 o6 k5 hW5 lenL hT hC hD ho hk hcov
       go_wp2_with fail
       go_ret
       exact ⟨_, _, _, _, rfl, K6.out.1, K6.out.2.2.1, K6.out.2.2.2, hlm, rfl, K6.out.2.1.weaken (fun _ _ e => by subst e; rfl)⟩
   ·have K1 := Lib.hid hk
    clear hk
    go_wp2_with fail
    go_ret
    exact ⟨_, _, _, L, rfl, H.out.1.old K1.out, fun _ h => h, fun x hx => ⟨x, hx, rfl⟩, Nat.le_refl _, rfl, K1.out.weaken (fun _ _ f => f.elim)⟩
def CptP_con {β : Type} (B : Nat) (key : Con → β) (v : Value) (L : List Con) (w : World) (e : Ending) (w' : World) : Prop := ∃ p n c R, e = .returned (.slice p n c) ∧ OwnsR w' B 78 7 Con.cells (.slice p n c) R ∧ (∀ y ∈ R, y ∈ L) ∧ (∀ x ∈ L, ∃ y ∈ R, key y = key x) ∧ R.length ≤ L.length ∧ (Value.slice p n c).ownBlock = v.ownBlock ∧ Keeps (fun k => v.ownBlock = some k) w w'
theorem compact_con  {β : Type} (fv  v : Value) (L : List Con) (B : Nat) (w : World) (h : OwnsR w B 78 7 Con.cells v L) (h1 : ∀ x ∈ L, (Con.cells x).toArray.all (·.oneCell') = true) (hl : L.length ≤ 1000000) (key : Con → β) (hf : CmpW w key fv v L) :
  Calls Tryz.prog 103 #[v, fv] w (CptP_con B key v L w) := by
 obtain ⟨gf, bd, lb, rfl, hent, hc⟩ := hf
 have HCC := Lib.hid hc
 have HEE := Lib.hid hent
 obtain ⟨p0, c0, hv, hle0, hmx⟩ := (h.sees len_con (by decide)).len
 by_cases hl2 : L.length < 2
 ·subst hv
  have H := Lib.hid h
  have hl3 : (L.length : Int) < 2 := by omega
  clear h h1 hc hent
  go_enter Tryz.func103, Tryz.ntmps103
  go_wp2_with fail
  go_ret
  exact ⟨_, _, _, L, rfl, H.out, fun _ h => h, fun x hx => ⟨x, hx, rfl⟩, Nat.le_refl _, rfl, Keeps.refl _ _⟩
 ·obtain ⟨g, cap, cur, rfl, hb, hgg, hn, hmc, _, _⟩ := h.row (by
   rcases h.2 with ⟨_, h0⟩ | ⟨g, cap, cur, rfl, _⟩
   ·omega
   ·simp [Value.ownBlock])
  simp only [Value.slice.injEq, true_and] at hv
  obtain ⟨rfl, rfl⟩ := hv
  have hg0 : g < w.heap.size := (Array.getElem?_eq_some_iff.1 hgg).1
  have hl3 : ¬ (L.length : Int) < 2 := by omega
  have hn9 : L.length ≤ 9223372036854775807 := by omega
  have hcap : cap ≤ 9223372036854775807 := by unfold maxLen at hmc; omega
  have hsl1 : ∀ (i : Nat) (W : World), i < L.length → (Instr.slice 121 (.slice (some ⟨g, 0, none⟩) L.length cap) (some (.int .i64 (i : Int))) none none).run Tryz.prog W = .ok (.slice (some ⟨g, i * 7, none⟩) (L.length - i) (cap - i)) W := by
   intro i W hi
   have h1 : (i : Int) ≤ (L.length : Int) := by omega
   have h2 : ¬ cap = i := by omega
   simp [go_sem, h1, Go.sliced, h2]
  have hsl2 : ∀ (i : Nat) (W : World), i ≤ L.length → (Instr.slice 121 (.slice (some ⟨g, 0, none⟩) L.length cap) none (some (.int .i64 (i : Int))) none).run Tryz.prog W = .ok (.slice (some ⟨g, 0, none⟩) i cap) W := by
   intro i W hi
   have h1 : (i : Int) ≤ (cap : Int) := by omega
   simp [go_sem, h1, Go.sliced]
  have H := Lib.hid (And.intro h (And.intro h1 (And.intro hg0 (And.intro hsl1 hsl2))))
  clear h h1 hgg hsl1 hsl2 hle0 hmx hb hc hent
  go_enter Tryz.func103, Tryz.ntmps103
  go_wp2_with fail
  go_loopw [5] (fun vk wr => ∃ i : Nat, 1 ≤ i ∧ i ≤ L.length ∧ vk = .int .i64 i ∧ Old w wr) (fun vk _ => L.length - (intOf vk).toNat)
  case atStart => exact ⟨1, Nat.le_refl _, by omega, rfl, Keeps.refl _ _⟩
  case round =>
   obtain ⟨wo, hwo⟩ : ∃ wo : World, wo = wr := ⟨_, rfl⟩
   subst hwo
   obtain ⟨i, hi1, hi2, rfl, hk⟩ := hrel
   by_cases hlt : i < L.length
   ·obtain ⟨i', hi'⟩ : ∃ i', i' + 1 = i := ⟨i - 1, by omega⟩
    have hx : L[i]? = some L[i] := List.getElem?_eq_getElem (by omega)
    have hy : L[i']? = some L[i'] := List.getElem?_eq_getElem (by omega)
    generalize L[i] = x at hx
    generalize L[i'] = y at hy
    have LX := Lib.hid (fun W (hW : Old wo W) => ((H.out.1.old hk).old hW).loadRow (P := Tryz.prog) len_con (by decide) i x hx _ Tryz.underlying78 rfl Tryz.infoCon7)
    have LY := Lib.hid (fun W (hW : Old wo W) => ((H.out.1.old hk).old hW).loadRow (P := Tryz.prog) len_con (by decide) i' y hy _ Tryz.underlying78 rfl Tryz.infoCon7)
    have wj : IntKind.i64.wrap ((i : Int) - 1) = (i' : Int) := by rw [IntWalk.i64_in _ (by omega)]; omega
    have hil : i' < L.length := by omega
    have hcc := HCC.out x (List.mem_of_getElem? hx) y (List.mem_of_getElem? hy)
    have N := fun W (hW : Old wo W) => hcc W (((hk.trans hW).weaken (fun _ _ f => f.elim)))
    simp only [Array.append_assoc] at N
    have HN := Lib.hid N
    have HE2 := HEE.out
    clear N hcc
    have Q := Lib.hid (And.intro hk (And.intro hx (And.intro hy hi')))
    clear hk hx hy hi'
    go_upto_region 6 with fail
    have rd : Old wo wo.drew := (Keeps.refl _ _).drew
    refine wp_region_g (S := fun V => Old wo V) (M := List.range 11) (by kernel_rfl) ?_
    refine tkG (i := 0) (v := ?vb0) ?yb0 rd ?rb0
    case yb0 => (intro W hSw; go_simp; try with_reducible rfl)
    try simp only [Act.put, List.setIfInBounds_toArray, List.set_cons_zero, List.set_cons_succ]
    refine tkG (i := 1) (v := ?vb1) ?yb1 rd ?rb1
    case yb1 => (intro W hSw; go_simp; try with_reducible rfl)
    try simp only [Act.put, List.setIfInBounds_toArray, List.set_cons_zero, List.set_cons_succ]
    refine tkG (i := 2) (v := ?vb2) ?yb2 rd ?rb2
    case yb2 => (intro W hSw; go_simp; try with_reducible rfl)
    try simp only [Act.put, List.setIfInBounds_toArray, List.set_cons_zero, List.set_cons_succ]
    refine tkG (i := 3) (v := ?vb3) ?yb3 rd ?rb3
    case yb3 => (intro W hSw; go_simp; try with_reducible rfl)
    try simp only [Act.put, List.setIfInBounds_toArray, List.set_cons_zero, List.set_cons_succ]
    refine tkG (i := 4) (v := ?vb4) ?yb4 rd ?rb4
    case yb4 => (intro W hSw; have q1 := LX.out _ hSw; go_simp; try with_reducible rfl)
    try simp only [Act.put, List.setIfInBounds_toArray, List.set_cons_zero, List.set_cons_succ]
    refine tkG (i := 5) (v := ?vb5) ?yb5 rd ?rb5
    case yb5 => (intro W hSw; go_simp; try with_reducible rfl)
    try simp only [Act.put, List.setIfInBounds_toArray, List.set_cons_zero, List.set_cons_succ]
    refine tkG (i := 6) (v := ?vb6) ?yb6 rd ?rb6
    case yb6 => (intro W hSw; go_simp; try with_reducible rfl)
    try simp only [Act.put, List.setIfInBounds_toArray, List.set_cons_zero, List.set_cons_succ]
    refine tkG (i := 7) (v := ?vb7) ?yb7 rd ?rb7
    case yb7 => (intro W hSw; go_simp; try with_reducible rfl)
    try simp only [Act.put, List.setIfInBounds_toArray, List.set_cons_zero, List.set_cons_succ]
    refine tkG (i := 8) (v := ?vb8) ?yb8 rd ?rb8
    case yb8 => (intro W hSw; go_simp; try with_reducible rfl)
    try simp only [Act.put, List.setIfInBounds_toArray, List.set_cons_zero, List.set_cons_succ]
    refine tkG (i := 9) (v := ?vb9) ?yb9 rd ?rb9
    case yb9 => (intro W hSw; have q1 := LY.out _ hSw; go_simp; try with_reducible rfl)
    try simp only [Act.put, List.setIfInBounds_toArray, List.set_cons_zero, List.set_cons_succ]
    refine wpAnyG_onlyL (i := 10) (o := _) (by kernel_rfl) rfl (fun K hK => ?_)
    go_simp
    refine (HN.out wo.drew rd).mono ?_
    rintro e W9 ⟨z, rfl, hz1, k9⟩
    have o8 : Old wo W9 := rd.trans k9
    have rd9 : Old wo W9 := rd.trans k9
    go_wp2_with fail
    refine hK.out _ _ (fun _ => rd9) ?_
    clear hK K
    try simp only [Act.put, List.setIfInBounds_toArray, List.set_cons_zero, List.set_cons_succ]
    refine wpAnyG_done (by kernel_rfl) ?_ _
    go_simp
    obtain ⟨W1, hW1, k01, hze⟩ : ∃ W1, W1 = W9 ∧ Old w W1 ∧ (z = true → key x = key y) := ⟨_, rfl, Q.out.1.trans o8, hz1⟩
    rw [← hW1]
    have E := Lib.hid (And.intro k01 (And.intro hze (And.intro (Q.out.1) Q.out.2)))
    clear hW1 o8 rd hze k01 hz1
    cases z
    ·go_wp2_with fail
     go_roundw
     case rel => exact ⟨i + 1, by omega, by omega, by go_num, E.out.1⟩
     case measure => simp [intOf]; omega
    ·have s1 := fun W => H.out.2.2.2.1 i W hlt
     go_wp2_with fail
     obtain ⟨wq, hwq⟩ : ∃ wq : World, wq = W1 := ⟨_, rfl⟩
     subst hwq
     clear s1
     have hi3 : i' + 1 = i := E.out.2.2.2.2.2
     go_loopw [5, 7] (fun vk v2 wr => ∃ (m j : Nat) (L' : List Con), vk = .int .i64 m ∧ v2 = .int .i64 j ∧ 1 ≤ j ∧ i + j ≤ L.length ∧ m + 1 ≤ i + j ∧ L'.length = L.length ∧ (∀ y ∈ L'.take m, y ∈ L) ∧ Cov key (L'.take m) L (i + j) ∧ L'.drop (i + j - 1) = L.drop (i + j - 1) ∧
      OwnsR wr B 78 7 Con.cells (.slice (some ⟨g, 0, none⟩) L.length cap) L' ∧ Keeps (fun k => k = g) w wr) (fun _ v2 _ => L.length - (intOf v2).toNat)
     case atStart =>
      refine ⟨i, 1, L, rfl, rfl, Nat.le_refl _, by omega, by omega, rfl, fun y hy => List.mem_of_mem_take hy, ?_, rfl, H.out.1.old E.out.1, E.out.1.weaken (fun _ _ f => f.elim)⟩
      have c0 : Cov key (L.take i) L i := fun x hx => ⟨x, hx, rfl⟩
      refine c0.more E.out.2.2.2.1 (y := y) ?_ (E.out.2.1 (by first | rfl | trivial))
      rw [← hi3, List.take_add_one, E.out.2.2.2.2.1]
      exact List.mem_append.2 (.inr (by simp))
     case round =>
      obtain ⟨wx, hwx⟩ : ∃ wx : World, wx = wr := ⟨_, rfl⟩
      subst hwx
      obtain ⟨m, j, L', rfl, rfl, hj1, hj2, hm1, hL', hT, hC, hD, ho, hk⟩ := hrel
      clear LX LY E Q wj hil hi3
      by_cases hlt2 : i + j < L.length
      ·obtain ⟨j', hj'⟩ : ∃ j', j' + 1 = j := ⟨j - 1, by omega⟩
       have hx : L'[i + j]? = some L'[i + j] := List.getElem?_eq_getElem (by omega)
       have hy : L'[i + j']? = some L'[i + j'] := List.getElem?_eq_getElem (by omega)
       generalize L'[i + j] = x at hx
       generalize L'[i + j'] = y at hy
       have hx0 : L[i + j]? = some x := by
        have := congrArg (·[1]?) hD
        simp only [List.getElem?_drop] at this
        rw [show i + j - 1 + 1 = i + j by omega] at this
        rw [← this, hx]
       have hy0 : L[i + j']? = some y := by
        have := congrArg (·[0]?) hD
        simp only [List.getElem?_drop] at this
        rw [show i + j - 1 + 0 = i + j' by omega] at this
        rw [← this, hy]
       have hxm : x ∈ L := List.mem_of_getElem? hx0
       have hym : y ∈ L := List.mem_of_getElem? hy0
       have LX := Lib.hid (fun W (hW : Old wx W) => (Nat.add_mul i j 7) ▸ (ho.old hW).loadRow (P := Tryz.prog) len_con (by decide) (i + j) x hx _ Tryz.underlying78 rfl Tryz.infoCon7)
       have LY := Lib.hid (fun W (hW : Old wx W) => (Nat.add_mul i j' 7) ▸ (ho.old hW).loadRow (P := Tryz.prog) len_con (by decide) (i + j') y hy _ Tryz.underlying78 rfl Tryz.infoCon7)
       have wj : IntKind.i64.wrap ((j : Int) - 1) = (j' : Int) := by rw [IntWalk.i64_in _ (by omega)]; omega
       have hjl : j < L.length - i := by omega
       have hjl' : j' < L.length - i := by omega
       have hjl2 : (j : Int) < ((L.length - i : Nat) : Int) := by omega
       have hyt : y ∈ L.take (i + j) := by
        rw [← hj', ← Nat.add_assoc, List.take_add_one, hy0]
        exact List.mem_append.2 (.inr (by simp))
       have hcc := HCC.out x hxm y hym
       have N := fun W (hW : Old wx W) => hcc W ((hk.trans (hW.weaken (fun _ _ f => f.elim))).weaken (fun _ _ e => by subst e; rfl))
       simp only [Array.append_assoc] at N
       have HN := Lib.hid N
       have HE2 := HEE.out
       clear N hcc
       have R := Lib.hid (And.intro hT (And.intro hC (And.intro hD (And.intro ho (And.intro hk (And.intro hx0 (And.intro hyt (And.intro hxm hL'))))))))
       clear hT hC hD ho hk hx hy hx0 hy0 hxm hym hyt
       go_upto_region 11 with fail
       have rd : Old wx wx.drew := (Keeps.refl _ _).drew
       refine wp_region_g (S := fun V => Old wx V) (M := List.range 12) (by kernel_rfl) ?_
       refine tkG (i := 0) (v := ?vc0) ?yc0 rd ?rc0
       case yc0 => (intro W hSw; go_simp; try with_reducible rfl)
       try simp only [Act.put, List.setIfInBounds_toArray, List.set_cons_zero, List.set_cons_succ]
       refine tkG (i := 1) (v := ?vc1) ?yc1 rd ?rc1
       case yc1 => (intro W hSw; go_simp; try with_reducible rfl)
       try simp only [Act.put, List.setIfInBounds_toArray, List.set_cons_zero, List.set_cons_succ]
       refine tkG (i := 2) (v := ?vc2) ?yc2 rd ?rc2
       case yc2 => (intro W hSw; go_simp; try with_reducible rfl)
       try simp only [Act.put, List.setIfInBounds_toArray, List.set_cons_zero, List.set_cons_succ]
       refine tkG (i := 3) (v := ?vc3) ?yc3 rd ?rc3
       case yc3 => (intro W hSw; go_simp; try with_reducible rfl)
       try simp only [Act.put, List.setIfInBounds_toArray, List.set_cons_zero, List.set_cons_succ]
       refine tkG (i := 4) (v := ?vc4) ?yc4 rd ?rc4
       case yc4 => (intro W hSw; have q1 := LX.out _ hSw; go_simp; try with_reducible rfl)
       try simp only [Act.put, List.setIfInBounds_toArray, List.set_cons_zero, List.set_cons_succ]
       refine tkG (i := 5) (v := ?vc5) ?yc5 rd ?rc5
       case yc5 => (intro W hSw; go_simp; try with_reducible rfl)
       try simp only [Act.put, List.setIfInBounds_toArray, List.set_cons_zero, List.set_cons_succ]
       refine tkG (i := 6) (v := ?vc6) ?yc6 rd ?rc6
       case yc6 => (intro W hSw; go_simp; try with_reducible rfl)
       try simp only [Act.put, List.setIfInBounds_toArray, List.set_cons_zero, List.set_cons_succ]
       refine tkG (i := 7) (v := ?vc7) ?yc7 rd ?rc7
       case yc7 => (intro W hSw; go_simp; try with_reducible rfl)
       try simp only [Act.put, List.setIfInBounds_toArray, List.set_cons_zero, List.set_cons_succ]
       refine tkG (i := 8) (v := ?vc8) ?yc8 rd ?rc8
       case yc8 => (intro W hSw; go_simp; try with_reducible rfl)
       try simp only [Act.put, List.setIfInBounds_toArray, List.set_cons_zero, List.set_cons_succ]
       refine tkG (i := 9) (v := ?vc9) ?yc9 rd ?rc9
       case yc9 => (intro W hSw; have q1 := LY.out _ hSw; go_simp; try with_reducible rfl)
       try simp only [Act.put, List.setIfInBounds_toArray, List.set_cons_zero, List.set_cons_succ]
       refine wpAnyG_onlyL (i := 10) (o := _) (by kernel_rfl) rfl (fun K hK => ?_)
       go_simp
       refine (HN.out wx.drew rd).mono ?_
       rintro e W9 ⟨z, rfl, hz1, k9⟩
       have o8 : Old wx W9 := rd.trans k9
       have rd9 : Old wx W9 := rd.trans k9
       go_wp2_with fail
       refine hK.out _ _ (fun _ => rd9) ?_
       clear hK K
       try simp only [Act.put, List.setIfInBounds_toArray, List.set_cons_zero, List.set_cons_succ]
       refine tkG (i := 11) (v := ?vc11) ?yc11 rd9 ?rc11
       case yc11 => (intro W hSw; go_simp; try with_reducible rfl)
       try simp only [Act.put, List.setIfInBounds_toArray, List.set_cons_zero, List.set_cons_succ]
       refine wpAnyG_done (by kernel_rfl) ?_ _
       go_simp
       obtain ⟨W8, hW8, k08, hze⟩ : ∃ W8, W8 = W9 ∧ Old wx W8 ∧ (z = true → key x = key y) := ⟨_, rfl, o8, hz1⟩
       rw [← hW8]
       have o9 := R.out.2.2.2.1.old k08
       rw [← R.out.2.2.2.2.2.2.2.2] at o9
       have st1 := o9.store (P := Tryz.prog) m (Con.cells x).toArray (by rw [List.size_toArray, len_con]) (by omega) Tryz.infoCon7 (H.out.2.1 x R.out.2.2.2.2.2.2.2.1)
       have s2 := o9.set len_con m x (by omega)
       rw [show (Con.cells x).toArray.toList = Con.cells x from rfl] at st1
       have k2 : Keeps (fun k => k = g) W8 (W8.setCells g (m * 7) (Con.cells x)) := putAt_keeps _ _ W8 W8 (Keeps.refl _ _)
       have lx := LX.out W8 k08
       rw [R.out.2.2.2.2.2.2.2.2] at s2
       have Z := Lib.hid (And.intro s2 (And.intro ((R.out.2.2.2.2.1.trans (k08.weaken (fun _ _ f => f.elim))).trans k2) (And.intro k08 hze)))
       have hml : m < L.length := by omega
       clear hW8 o8 rd hze k08 hz1 o9 s2 k2 LX LY
       cases z
       ·go_wp2_with fail
        go_roundw
        case rel =>
         refine ⟨m + 1, j + 1, L'.set m x, by go_num, by go_num, by omega, by omega, by omega, by simp; exact R.out.2.2.2.2.2.2.2.2, ?_, ?_, ?_, Z.out.1, Z.out.2.1⟩
         ·rw [List.take_succ_eq_append_getElem (by rw [List.length_set, R.out.2.2.2.2.2.2.2.2]; exact hml), List.take_set_of_le (Nat.le_refl _)]
          intro u hu
          rcases List.mem_append.1 hu with hu | hu
          ·exact R.out.1 u hu
          ·have : u = x := by simpa using hu
           rw [this]; exact R.out.2.2.2.2.2.2.2.1
         ·rw [List.take_succ_eq_append_getElem (by rw [List.length_set, R.out.2.2.2.2.2.2.2.2]; exact hml), List.take_set_of_le (Nat.le_refl _)]
          have := R.out.2.1.put R.out.2.2.2.2.2.1
          rw [← Nat.add_assoc, List.getElem_set_self]
          exact this
         ·rw [List.drop_set_of_lt (by omega), show i + (j + 1) - 1 = (i + j - 1) + 1 by omega, ← List.drop_drop, R.out.2.2.1, List.drop_drop]
        case measure => simp [intOf]; omega
       ·clear st1 lx
        go_wp2_with fail
        go_roundw
        case rel =>
         refine ⟨m, j + 1, L', rfl, by go_num, by omega, by omega, by omega, R.out.2.2.2.2.2.2.2.2, R.out.1, R.out.2.1.more R.out.2.2.2.2.2.1 R.out.2.2.2.2.2.2.1 (Z.out.2.2.2 (by first | rfl | trivial)), ?_, R.out.2.2.2.1.old Z.out.2.2.1, R.out.2.2.2.2.1.trans (Z.out.2.2.1.weaken (fun _ _ f => f.elim))⟩
         rw [show i + (j + 1) - 1 = (i + j - 1) + 1 by omega, ← List.drop_drop, R.out.2.2.1, List.drop_drop]
        case measure => simp [intOf]; omega
      ·have hij : i + j = L.length := by omega
       have hml : m < L.length := by omega
       have hnj : ¬ (j : Int) < ((L.length - i : Nat) : Int) := by omega
       rw [← hL'] at ho
       have hcl := fun ty => ho.clear (P := Tryz.prog) (T := 121) (ty := ty) len_con (by decide) m (by omega) (cap - m) Tryz.underlying121 zero_conZ zC0 rfl (by simp [Con.cells, zV0, zC0, Value.oneCell'])
       have o5 := ho.put len_con m (List.replicate (L'.length - m) zC0) (by simp; omega)
       obtain ⟨W5, hW5⟩ : ∃ W, wx.setCells g (m * 7) ((List.replicate (L'.length - m) zC0).flatMap Con.cells) = W := ⟨_, rfl⟩
       have k5 : Keeps (fun k => k = g) w W5 := by
        rw [← hW5]
        exact hk.trans (putAt_keeps _ _ _ _ (Keeps.refl _ _))
       rw [hW5] at o5 hcl
       rw [hL'] at hcl
       have lenL : (L'.take m ++ List.replicate (L'.length - m) zC0 ++ L'.drop (m + (List.replicate (L'.length - m) zC0).length)).length = L'.length := by simp; omega
       have o6 : OwnsR W5 B 78 7 Con.cells (.slice (some ⟨g, 0, none⟩) m cap) (L'.take m) := by
        have := (show OwnsR W5 B 78 7 Con.cells (.slice (some ⟨g, 0, none⟩) L'.length cap) _ from o5)
        have := this.cut len_con m (by rw [lenL]; omega) (by simp)
        have e : (L'.take m ++ List.replicate (L'.length - m) zC0 ++ L'.drop (m + (List.replicate (L'.length - m) zC0).length)).take m = L'.take m := by
         rw [List.append_assoc, List.take_append_of_le_length (by simp; omega), List.take_take, Nat.min_self]
        rw [e] at this
        exact this
       have hcov : ∀ x ∈ L, ∃ y ∈ L'.take m, key y = key x := fun x hx => hC x (by rw [hij, List.take_of_length_le (Nat.le_refl _)]; exact hx)
       have hs1 := fun W => H.out.2.2.2.1 m W hml
       have hs2 := fun W => H.out.2.2.2.2 m W (by omega)
       have K6 := Lib.hid (And.intro o6 (And.intro k5 (And.intro hT hcov)))
       have hlm : (L'.take m).length ≤ L.length := by simp; omega
       clear o5 o6 k5 hW5 lenL hT hC hD ho hk hcov
       go_wp2_with fail
       go_ret
       exact ⟨_, _, _, _, rfl, K6.out.1, K6.out.2.2.1, K6.out.2.2.2, hlm, rfl, K6.out.2.1.weaken (fun _ _ e => by subst e; rfl)⟩
   ·have K1 := Lib.hid hk
    clear hk
    go_wp2_with fail
    go_ret
    exact ⟨_, _, _, L, rfl, H.out.1.old K1.out, fun _ h => h, fun x hx => ⟨x, hx, rfl⟩, Nat.le_refl _, rfl, K1.out.weaken (fun _ _ f => f.elim)⟩
end
end Go.Proofs.YtehmlaplodjenaaGreat
