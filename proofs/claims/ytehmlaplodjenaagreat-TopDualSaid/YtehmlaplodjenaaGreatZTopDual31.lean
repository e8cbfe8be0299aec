/- DERIVED. index: Query. -/
import Derived.Test.YtehmlaplodjenaaGreatZTopDual30
import Derived.Test.YtehmlaplodjenaaGreatZTopDual04
import Derived.Deep.DeepCutAuto
import Derived.IntWalk
set_option maxRecDepth 100000
set_option maxHeartbeats 8000000
namespace Go.Proofs.YtehmlaplodjenaaGreat
section
open Go.RowKit
theorem SeesR.fromD {α : Type} {w : World} {k : Nat} {enc : α → List Value} {p : Option Addr} {n c : Nat} {l : List α} {T E : TypeId} (h : SeesR w k enc (.slice p n c) l) (lo : Nat) (h1 : lo ≤ l.length) (ht : Tryz.prog.underlying T = some (.slice E)) (hs : (Tryz.prog.info? E).map (·.size) = some k) (x : Int) (hx : x = (lo : Int)) :
  ∃ p' c', (∀ W, (Instr.slice T (.slice p n c) (some (.int .i64 x)) none none).run Tryz.prog W = .ok (.slice p' (n - lo) c') W) ∧ (∀ w2, SeesR w2 k enc (.slice p n c) l → SeesR w2 k enc (.slice p' (n - lo) c') (l.drop lo)) := by
 obtain ⟨p0, c0, he, _, _⟩ := h.len
 simp only [Value.slice.injEq] at he
 obtain ⟨rfl, rfl, rfl⟩ := he
 obtain ⟨p', c', e⟩ : ∃ p' c', Go.sliced p lo l.length c k = .slice p' (l.length - lo) c' := ⟨_, _, rfl⟩
 refine ⟨p', c', fun W => ?_, fun w2 h2 => ?_⟩
 ·subst hx
  have hlo : (lo : Int) ≤ (l.length : Int) := by omega
  cases hi : Tryz.prog.info? E with
  | none => simp [hi] at hs
  | some i =>
   have hsz : i.size = k := by simpa [hi] using hs
   rw [← e]
   simp [go_sem, ht, hi, hsz, hlo, sizeOf, typeInfo]
 ·have := (h2.sliced lo l.length h1 (Nat.le_refl _)).1
  rw [List.take_of_length_le (Nat.le_refl _), e] at this
  exact this
structure Told (m : Nat) (ev : Nat → Option EvT) (G : ByteArray → Value × List En) : Prop where
 sorted : ∀ s, SortedO (G s).2
 mem : ∀ s x, x ∈ (G s).2 ↔ ∃ t, ev x.n = some t ∧ ∃ a ∈ t.2.2, a.name.toList = s.toList ∧ a.val = x.v
 low : ∀ k t, ev k = some t → k < m
 few : ∀ s, (G s).2.length ≤ m
def Found2 (ev : Nat → Option EvT) (P : List Con) (n : Nat) : Prop := ∃ t, ev n = some t ∧ matchesV (P.map Con.plain) t.2.2 = true
theorem Told.hit {m : Nat} {ev : Nat → Option EvT} {G : ByteArray → Value × List En} (T : Told m ev G) {P : List Con} {c : Con} (hc : c ∈ P) {n : Nat} (h : Found2 ev P n) : ∃ x ∈ (G c.name).2, x.n = n ∧ asksV c.plain x.v = true := by
 obtain ⟨t, ht, hm⟩ := h
 unfold matchesV at hm
 rw [List.all_eq_true] at hm
 have := hm c.plain (List.mem_map_of_mem hc)
 unfold metC at this
 cases hg : getV t.2.2 c.plain.name with
 | none => rw [hg] at this; cases this
 | some v =>
  rw [hg] at this
  unfold getV at hg
  cases hf : t.2.2.find? (fun a => a.name.toList == c.plain.name.toList) with
  | none => rw [hf] at hg; cases hg
  | some a =>
   rw [hf] at hg
   simp only [Option.map_some, Option.some.injEq] at hg
   have h1 := List.find?_some hf
   have h2 := List.mem_of_find?_eq_some hf
   refine ⟨⟨v, n⟩, (T.mem c.name ⟨v, n⟩).2 ⟨t, ht, a, h2, ?_, hg⟩, rfl, this⟩
   simpa [Con.plain] using h1
def QryP (ev : Nat → Option EvT) (P : List Con) (W : World) (e : Ending) (W' : World) : Prop :=
 (predOk P = false ∧ e = .returned (.tuple #[.slice none 0 0, .int .i64 30]) ∧ Old W W') ∨
 (predOk P = true ∧ ∃ (v : Value) (N : List Nat), e = .returned (.tuple #[v, .int .i64 0]) ∧ (∃ B, OwnsR W' B 30 1 (oneL encU) v N) ∧ Old W W' ∧ ∀ n, n ∈ N ↔ Found2 ev P n)
def BestOf (G : ByteArray → Value × List En) (P : List Con) (L : List En) : Prop := ∃ c ∈ P, (∀ x ∈ L, x ∈ (G c.name).2) ∧ L.length ≤ (G c.name).2.length ∧ ∀ x ∈ (G c.name).2, asksV c.plain x.v = true → x ∈ L
theorem hold_at {w0 W : World} {xb eb nb Kc m : Nat} {ev : Nat → Option EvT} {G : ByteArray → Value × List En} {v : Value} {P : List Con} (h : IxS w0 xb eb nb Kc ev G W) (T : Told m ev G) (hc : Cons w0 v P) (hok : predOk P = true) (hK : Kc ≤ 1000) (hm : m ≤ 40) {c : Con} (hx : c ∈ P) :
  Calls Tryz.prog 27 #[(G c.name).1, .agg c.cells.toArray] W fun e W' => ∃ v' L', e = .returned v' ∧ SeesR W' 5 En.cells v' L' ∧ BestOf G P L' ∧ L'.length ≤ 40 ∧ Old W W' := by
 have hf := (hc.2 c hx).old h.old
 have hp := conP_of hf ((predOk_con hok).2 c hx)
 have hl := h.len c.name
 refine (holding_any (G c.name).1 (G c.name).2 c W ((h.rows c.name).sees (fun x => x.len) (by decide)) hf.1 hp.lo hp.hi (fun h8 => (hp.val (by show 2 ≤ c.op; omega) (by show c.op ≤ 8; omega)).2.2 h8) (T.sorted c.name).val (by omega)).mono ?_
 rintro e W' ⟨v', L', rfl, h1, h2, h3, h4, h5⟩
 have hfew := T.few c.name
 exact ⟨v', L', rfl, h1, ⟨c, hx, h2, h3, h4⟩, by omega, h5⟩
theorem con7 {w w' : World} {b o j : Nat} {P : List Con} {c : Con} (hc : ∀ j x, P[j]? = some x → ∀ i u, (Con.cells x)[i]? = some u → w.cell? ⟨b, o + j * 7 + i, none⟩ = some u) (hx : P[j]? = some c) (k : Old w w') :
  w'.cell? ⟨b, o + j * 7, none⟩ = some (.string c.name) ∧ w'.cell? ⟨b, o + j * 7 + 1, none⟩ = some (.int .i64 c.op) ∧ w'.cell? ⟨b, o + j * 7 + 2, none⟩ = some (.int .i64 c.val.kind) ∧ w'.cell? ⟨b, o + j * 7 + 3, none⟩ = some (.int .i64 c.val.num) ∧
  w'.cell? ⟨b, o + j * 7 + 4, none⟩ = some (.string c.val.str) ∧ w'.cell? ⟨b, o + j * 7 + 5, none⟩ = some (.bool c.val.is) ∧ w'.cell? ⟨b, o + j * 7 + 6, none⟩ = some c.sv := by
 have cell : ∀ i u, (Con.cells c)[i]? = some u → w'.cell? ⟨b, o + j * 7 + i, none⟩ = some u := fun i u hu => k.cell (hc j c hx i u hu) (fun f => f)
 exact ⟨cell 0 _ rfl, cell 1 _ rfl, cell 2 _ rfl, cell 3 _ rfl, cell 4 _ rfl, cell 5 _ rfl, cell 6 _ rfl⟩
theorem query_any (w0 Wa : World) (xb eb nb Kc m : Nat) (ev : Nat → Option EvT) (G : ByteArray → Value × List En) (v : Value) (P : List Con) (h : IxS w0 xb eb nb Kc ev G Wa) (T : Told m ev G) (hc : Cons w0 v P) (hKc : Kc ≤ 1000) (hm : m ≤ 40) :
  Calls Tryz.prog 10 #[.pointer (some ⟨xb, 0, none⟩), v] Wa (QryP ev P Wa) := by
 have NN := Lib.hid (inone_any xb eb (.map (some nb)) Wa h.x)
 have PM := Lib.hid (fun V (hV : Old w0 V) => pred_may_any v P V (hc.old hV))
 have NU := Lib.hid (fun V (hV : Old Wa V) => numbers_any w0 V xb eb nb Kc ev G (h.to hV) (fun k t e => Nat.lt_of_lt_of_le (T.low k t e) hm))
 obtain ⟨p, c, rfl, _, _⟩ := hc.1.len
 have H := Lib.hid (And.intro h (And.intro T hc))
 clear h T hc
 go_enter Tryz.func10, Tryz.ntmps10
 go_wp2_with fail
 refine NN.out.mono ?_
 rintro e W2 ⟨rfl, e2⟩
 subst e2
 rcases (Bool.eq_false_or_eq_true (predOk P)).symm with hok | hok
 ·rw [hok] at PM
  have HOK := Lib.hid hok
  clear hok
  go_wp2_with fail
  refine (PM.out _ H.out.1.old).mono ?_
  rintro e W3 ⟨rfl, k3⟩
  have K3 := Lib.hid k3
  clear k3
  go_wp2_with fail
  go_ret2
  exact .inl ⟨HOK.out, rfl, K3.out⟩
 rw [hok] at PM
 have HOK := Lib.hid hok
 clear hok
 by_cases hP : P.length = 0
 ·obtain rfl : P = [] := List.eq_nil_of_length_eq_zero hP
  go_wp2_with fail
  refine (PM.out _ H.out.1.old).mono ?_
  rintro e W3 ⟨rfl, k3⟩
  have K3 := Lib.hid k3
  clear k3
  go_wp2_with fail
  refine (NU.out _ K3.out).mono ?_
  rintro e W4 ⟨u, N, rfl, ho, hN, k4⟩
  have K4 := Lib.hid (And.intro ho (And.intro hN (K3.out.trans k4)))
  clear ho hN k4
  go_wp2_with fail
  go_ret2
  refine .inr ⟨HOK.out, u, N, rfl, ⟨_, K4.out.1⟩, K4.out.2.2, fun n => (K4.out.2.1 n).trans ?_⟩
  unfold Found2
  simp [matchesV]
 ·obtain ⟨b, o, cp, he, _, _, hcell⟩ := H.out.2.2.1.at (by omega)
  simp only [Value.slice.injEq, true_and] at he
  obtain ⟨rfl, rfl⟩ := he
  obtain ⟨c0, hc0⟩ : ∃ c0, P[0]? = some c0 := ⟨_, List.getElem?_eq_getElem (by omega)⟩
  have hPl : ¬ ((P.length : Int) = 0) := by omega
  have hPn : (0 : Int) < (P.length : Int) := by omega
  go_wp2_with fail
  refine (PM.out _ H.out.1.old).mono ?_
  rintro e W3 ⟨rfl, k3⟩
  have i3 := H.out.1.to k3
  have CC := Lib.hid (fun V (hV : Old W3 V) => con7 hcell hc0 (i3.old.trans hV))
  have I3 := Lib.hid (And.intro i3 k3)
  clear i3 k3
  obtain ⟨ps, cs2, e9, _, _⟩ := (H.out.2.2.2 c0 (List.mem_of_getElem? hc0)).1.len
  obtain ⟨nm, op, ⟨ck, cn, cs, cb⟩, sv, set⟩ := c0
  simp only at e9
  subst e9
  simp only [Nat.zero_mul, Nat.add_zero] at CC
  have HC0 := Lib.hid hc0
  clear hc0
  go_upto_region 8 with fail
  have rd : Old W3 W3.drew := (Keeps.refl _ _).drew
  have hP0 : 0 < P.length := by omega
  refine wp_region_g (S := fun V => Old W3 V) (M := [0, 1, 2, 3, 4, 5, 6, 7, 8, 9, 10, 11, 12, 13]) (by kernel_rfl) ?_
  refine tkG (i := 0) (v := ?va0) ?ya0 rd ?ra0
  case ya0 => (intro W hSw; go_simp; try with_reducible rfl)
  try simp only [Act.put, List.setIfInBounds_toArray, List.set_cons_zero, List.set_cons_succ]
  refine tkG (i := 1) (v := ?va1) ?ya1 rd ?ra1
  case ya1 => (intro W hSw; go_simp; try with_reducible rfl)
  try simp only [Act.put, List.setIfInBounds_toArray, List.set_cons_zero, List.set_cons_succ]
  refine tkG (i := 2) (v := ?va2) ?ya2 rd ?ra2
  case ya2 => (intro W hSw; go_simp; try with_reducible rfl)
  try simp only [Act.put, List.setIfInBounds_toArray, List.set_cons_zero, List.set_cons_succ]
  refine tkG (i := 3) (v := ?va3) ?ya3 rd ?ra3
  case ya3 => (intro W hSw; have q1 := cell_at1 (I3.out.1.to hSw).x; go_simp; try with_reducible rfl)
  try simp only [Act.put, List.setIfInBounds_toArray, List.set_cons_zero, List.set_cons_succ]
  refine tkG (i := 4) (v := ?va4) ?ya4 rd ?ra4
  case ya4 => (intro W hSw; go_simp; try with_reducible rfl)
  try simp only [Act.put, List.setIfInBounds_toArray, List.set_cons_zero, List.set_cons_succ]
  refine tkG (i := 5) (v := ?va5) ?ya5 rd ?ra5
  case ya5 => (intro W hSw; go_simp; try with_reducible rfl)
  try simp only [Act.put, List.setIfInBounds_toArray, List.set_cons_zero, List.set_cons_succ]
  refine tkG (i := 6) (v := ?va6) ?ya6 rd ?ra6
  case ya6 => (intro W hSw; go_simp; try with_reducible rfl)
  try simp only [Act.put, List.setIfInBounds_toArray, List.set_cons_zero, List.set_cons_succ]
  refine tkG (i := 7) (v := ?va7) ?ya7 rd ?ra7
  case ya7 => (intro W hSw; have q1 := CC.out _ hSw; go_simp; try with_reducible rfl)
  try simp only [Act.put, List.setIfInBounds_toArray, List.set_cons_zero, List.set_cons_succ]
  refine tkG (i := 8) (v := ?va8) ?ya8 rd ?ra8
  case ya8 => (intro W hSw; have q1 := (I3.out.1.to hSw).look nm; go_simp; try with_reducible rfl)
  try simp only [Act.put, List.setIfInBounds_toArray, List.set_cons_zero, List.set_cons_succ]
  refine tkG (i := 9) (v := ?va9) ?ya9 rd ?ra9
  case ya9 => (intro W hSw; go_simp; try with_reducible rfl)
  try simp only [Act.put, List.setIfInBounds_toArray, List.set_cons_zero, List.set_cons_succ]
  refine tkG (i := 10) (v := ?va10) ?ya10 rd ?ra10
  case ya10 => (intro W hSw; go_simp; try with_reducible rfl)
  try simp only [Act.put, List.setIfInBounds_toArray, List.set_cons_zero, List.set_cons_succ]
  refine tkG (i := 11) (v := ?va11) ?ya11 rd ?ra11
  case ya11 => (intro W hSw; have q1 := CC.out _ hSw; go_simp; try with_reducible rfl)
  try simp only [Act.put, List.setIfInBounds_toArray, List.set_cons_zero, List.set_cons_succ]
  refine wpAnyG_onlyL (i := 12) (o := _) (by kernel_rfl) rfl (fun K hK => ?_)
  go_simp
  have hmem0 := List.mem_of_getElem? HC0.out
  refine (hold_at (I3.out.1.to rd) H.out.2.1 H.out.2.2 HOK.out hKc hm hmem0).mono ?_
  rintro e W4 ⟨v4, L4, rfl, s4, hb4, hl4, k4⟩
  have o4 : Old W3 W4 := rd.trans k4
  have F := Lib.hid (And.intro s4 (And.intro hb4 (And.intro hl4 o4)))
  clear s4 hb4 hl4 k4 rd
  go_wp2_with fail
  refine hK.out _ _ (fun _ => o4) ?_
  clear hK K
  try simp only [Act.put, List.setIfInBounds_toArray, List.set_cons_zero, List.set_cons_succ]
  refine tkG (i := 13) (v := ?va13) ?ya13 o4 ?ra13
  case ya13 => (intro W hSw; go_simp; try with_reducible rfl)
  try simp only [Act.put, List.setIfInBounds_toArray, List.set_cons_zero, List.set_cons_succ]
  refine wpAnyG_done (by kernel_rfl) ?_ _
  go_simp
  obtain ⟨sp, sc, hsl, hsl2⟩ := SeesR.fromD (T := 39) (E := 78) H.out.2.2.1 1 (by omega) Tryz.underlying39 (by kernel_rfl) 1 rfl
  have DR := Lib.hid (fun V (hV : Old w0 V) => hsl2 V (H.out.2.2.1.old hV))
  have hone : (1 : Int) ≤ (P.length : Int) := by omega
  have W4z := Lib.hid o4
  clear hsl2 o4
  go_upto_region 10 with fail
  clear hsl
  have hP9 : P.length ≤ 6 := (predOk_con HOK.out).1
  have hdl : (P.drop 1).length = P.length - 1 := List.length_drop
  go_loopw [7, 41] (fun v7 v41 wr => ∃ (i : Nat) (L' : List En), i ≤ P.length - 1 ∧ v41 = .int .i64 i ∧ SeesR wr 5 En.cells v7 L' ∧ BestOf G P L' ∧ L'.length ≤ 40 ∧ Old W3 wr) (fun _ v41 _ => (P.length - 1) - (intOf v41).toNat)
  case atStart => exact ⟨0, L4, Nat.zero_le _, rfl, F.out.1, F.out.2.1, F.out.2.2.1, F.out.2.2.2⟩
  case round =>
   obtain ⟨wq, hwq⟩ : ∃ wq : World, wq = wr := ⟨_, rfl⟩
   subst hwq
   obtain ⟨i, L', hi, rfl, hs7, hb7, hl7, hk⟩ := hrel
   obtain ⟨p7, c7, rfl, _, _⟩ := hs7.len
   have iq := I3.out.1.to hk
   by_cases hlt : i < P.length - 1
   ·obtain ⟨b1, o1, cp1, he1, _, _, hcell1⟩ := (DR.out w0 (Keeps.refl _ _)).at (by omega)
    rw [hdl] at he1
    simp only [Value.slice.injEq, true_and] at he1
    obtain ⟨rfl, rfl⟩ := he1
    obtain ⟨c, hcx⟩ : ∃ c, (P.drop 1)[i]? = some c := ⟨_, List.getElem?_eq_getElem (by rw [hdl]; exact hlt)⟩
    have hcm : c ∈ P := List.mem_of_mem_drop (List.mem_of_getElem? hcx)
    obtain ⟨x0, x1, x2, x3, x4, x5, x6⟩ := con7 hcell1 hcx iq.old
    obtain ⟨ps1, cs3, e9, _, _⟩ := (H.out.2.2.2 c hcm).1.len
    obtain ⟨nm1, op1, ⟨ck1, cn1, cs1, cb1⟩, sv1, set1⟩ := c
    simp only at e9 x0 x1 x2 x3 x4 x5 x6
    subst e9
    obtain ⟨W7, hW7⟩ : ∃ W7, wq.alloc (.cells #[.string nm1, .int .i64 op1, .int .i64 ck1, .int .i64 cn1, .string cs1, .bool cb1, .slice ps1 set1.length cs3] 78) = W7 := ⟨_, rfl⟩
    have o7 : Old wq W7 := by rw [← hW7]; exact (Keeps.refl _ _).alloc _
    have b7 : W7.heap[wq.heap.size]? = some (.cells #[.string nm1, .int .i64 op1, .int .i64 ck1, .int .i64 cn1, .string cs1, .bool cb1, .slice ps1 set1.length cs3] 78 (0, 0)) := by rw [← hW7]; exact heap_alloc_new _ _
    have HH := Lib.hid (And.intro (iq.to o7) (And.intro b7 (And.intro (hs7.old o7) (And.intro hb7 (And.intro hl7 (And.intro (hk.trans o7) hcm))))))
    clear hcell1 hcx hs7 hb7 hl7 hk iq o7 b7 hcm
    have hi1 : (i : Int) < ((P.length - 1 : Nat) : Int) := by omega
    go_upto_region 12 with fail
    clear x0 x1 x2 x3 x4 x5 x6 hW7
    have rd : Old W7 W7.drew := (Keeps.refl _ _).drew
    refine wp_region_g (S := fun V => Old W7 V) (M := [0, 1, 2, 3, 4, 5, 6, 7, 8, 9]) (by kernel_rfl) ?_
    refine tkG (i := 0) (v := ?vb0) ?yb0 rd ?rb0
    case yb0 => (intro W hSw; go_simp; try with_reducible rfl)
    try simp only [Act.put, List.setIfInBounds_toArray, List.set_cons_zero, List.set_cons_succ]
    refine tkG (i := 1) (v := ?vb1) ?yb1 rd ?rb1
    case yb1 => (intro W hSw; go_simp; try with_reducible rfl)
    try simp only [Act.put, List.setIfInBounds_toArray, List.set_cons_zero, List.set_cons_succ]
    refine tkG (i := 2) (v := ?vb2) ?yb2 rd ?rb2
    case yb2 => (intro W hSw; go_simp; try with_reducible rfl)
    try simp only [Act.put, List.setIfInBounds_toArray, List.set_cons_zero, List.set_cons_succ]
    refine tkG (i := 3) (v := ?vb3) ?yb3 rd ?rb3
    case yb3 => (intro W hSw; have q1 := cell_at1 (HH.out.1.to hSw).x; go_simp; try with_reducible rfl)
    try simp only [Act.put, List.setIfInBounds_toArray, List.set_cons_zero, List.set_cons_succ]
    refine tkG (i := 4) (v := ?vb4) ?yb4 rd ?rb4
    case yb4 => (intro W hSw; go_simp; try with_reducible rfl)
    try simp only [Act.put, List.setIfInBounds_toArray, List.set_cons_zero, List.set_cons_succ]
    refine tkG (i := 5) (v := ?vb5) ?yb5 rd ?rb5
    case yb5 => (intro W hSw; have q1 := blk7 ((hSw.block _ (lt_of_heap HH.out.2.1) (fun f => f)).trans HH.out.2.1); go_simp; try with_reducible rfl)
    try simp only [Act.put, List.setIfInBounds_toArray, List.set_cons_zero, List.set_cons_succ]
    refine tkG (i := 6) (v := ?vb6) ?yb6 rd ?rb6
    case yb6 => (intro W hSw; have q1 := (HH.out.1.to hSw).look nm1; go_simp; try with_reducible rfl)
    try simp only [Act.put, List.setIfInBounds_toArray, List.set_cons_zero, List.set_cons_succ]
    refine tkG (i := 7) (v := ?vb7) ?yb7 rd ?rb7
    case yb7 => (intro W hSw; have q1 := blk7 ((hSw.block _ (lt_of_heap HH.out.2.1) (fun f => f)).trans HH.out.2.1); go_simp; try with_reducible rfl)
    try simp only [Act.put, List.setIfInBounds_toArray, List.set_cons_zero, List.set_cons_succ]
    refine wpAnyG_onlyL (i := 8) (o := _) (by kernel_rfl) rfl (fun K hK => ?_)
    go_simp
    refine (hold_at (HH.out.1.to rd) H.out.2.1 H.out.2.2 HOK.out hKc hm HH.out.2.2.2.2.2.2).mono ?_
    rintro e W8 ⟨v8, L8, rfl, s8, hb8, hl8, k8⟩
    have o8 : Old W7 W8 := rd.trans k8
    obtain ⟨p8, c8, rfl, _, _⟩ := s8.len
    have Q := Lib.hid (And.intro s8 (And.intro hb8 (And.intro hl8 o8)))
    clear s8 hb8 hl8 k8 rd
    go_wp2_with fail
    refine hK.out _ _ (fun _ => o8) ?_
    clear hK K
    try simp only [Act.put, List.setIfInBounds_toArray, List.set_cons_zero, List.set_cons_succ]
    refine tkG (i := 9) (v := ?vb9) ?yb9 o8 ?rb9
    case yb9 => (intro W hSw; go_simp; try with_reducible rfl)
    try simp only [Act.put, List.setIfInBounds_toArray, List.set_cons_zero, List.set_cons_succ]
    refine wpAnyG_done (by kernel_rfl) ?_ _
    go_simp
    by_cases hlen : L8.length < L'.length
    ·go_wp2_with fail
     go_roundw
     case rel => exact ⟨i + 1, L8, by omega, by go_num, Q.out.1, Q.out.2.1, Q.out.2.2.1, HH.out.2.2.2.2.2.1.trans Q.out.2.2.2⟩
     case measure => simp [intOf]; omega
    ·go_wp2_with fail
     go_roundw
     case rel => exact ⟨i + 1, L', by omega, by go_num, HH.out.2.2.1.old Q.out.2.2.2, HH.out.2.2.2.1, HH.out.2.2.2.2.1, HH.out.2.2.2.2.2.1.trans Q.out.2.2.2⟩
     case measure => simp [intOf]; omega
   ·have hil : i = P.length - 1 := by omega
    have E := Lib.hid (And.intro iq (And.intro hs7 (And.intro hb7 hk)))
    have hnl : ¬ (i : Int) < ((P.length - 1 : Nat) : Int) := by omega
    have hl9 : L'.length ≤ 9223372036854775807 := by omega
    clear iq hs7 hb7 hk
    go_upto_region 17 with fail
    obtain ⟨c9, hc9, m1, m2, m3⟩ := E.out.2.2.1
    have BB := Lib.hid (And.intro m1 (And.intro m3 hc9))
    clear m1 m2 m3 hc9
    go_loopw [6, 63] (fun v6 v63 wr => ∃ (j : Nat) (N : List Nat), j ≤ L'.length ∧ v63 = .int .i64 j ∧ OwnsR wr wq.heap.size 30 1 (oneL encU) v6 N ∧ N.length ≤ j ∧ Old wq wr ∧ ∀ n, n ∈ N ↔ ∃ x ∈ L'.take j, x.n = n ∧ Found2 ev P n) (fun _ v63 _ => L'.length - (intOf v63).toNat)
    case atStart => exact ⟨0, [], Nat.zero_le _, rfl, OwnsR.nil _ _, Nat.le_refl _, Keeps.refl _ _, fun n => by simp⟩
    case round =>
     obtain ⟨wx, hwx⟩ : ∃ wx : World, wx = wr := ⟨_, rfl⟩
     subst hwx
     obtain ⟨j, N, hj, rfl, ho6, hnl6, hkx, hmem⟩ := hrel
     obtain ⟨p6, n6, c6, e6⟩ : ∃ p n c, u6 = .slice p n c := by obtain ⟨p, c, e, _⟩ := (OwnsR.sees (enc := oneL encU) ho6 (fun _ => rfl) (by decide)).len; exact ⟨_, _, _, e⟩
     have ix := E.out.1.to hkx
     by_cases hlt2 : j < L'.length
     ·obtain ⟨b2, o2, cp2, he2, _, _, hcell2⟩ := (E.out.2.1.old hkx).at (by omega)
      simp only [Value.slice.injEq, true_and] at he2
      obtain ⟨rfl, rfl⟩ := he2
      obtain ⟨x, hx⟩ : ∃ x, L'[j]? = some x := ⟨_, List.getElem?_eq_getElem hlt2⟩
      have cell : ∀ k u, (En.cells x)[k]? = some u → wx.cell? ⟨b2, o2 + j * 5 + k, none⟩ = some u := fun k u hu => hcell2 j x hx k u hu
      have c0 := cell 0 _ rfl
      have c1 := cell 1 _ rfl
      have c2 := cell 2 _ rfl
      have c3 := cell 3 _ rfl
      have c4 := cell 4 _ rfl
      simp only [Nat.add_zero] at c0
      have hxm : x ∈ L' := List.mem_of_getElem? hx
      obtain ⟨t, ht, _⟩ := (H.out.2.1.mem c9.name x).1 (BB.out.1 x hxm)
      have hsv : ∀ y ∈ P, SeesV wx y.sv y.set := fun y hy => ((H.out.2.2.2 y hy).old ix.old).1
      have hav := (ix.evs x.n t ht).sees (fun _ => rfl) (by decide)
      obtain ⟨pa, ca, ea, _, _⟩ := hav.len
      obtain ⟨tk, tv, tl⟩ := t
      simp only at ea hav
      subst ea
      obtain ⟨⟨xk, xn, xs, xb2⟩, xm⟩ := x
      simp only at ht
      have hmx : L'.take (j + 1) = L'.take j ++ [⟨⟨xk, xn, xs, xb2⟩, xm⟩] := by rw [List.take_add_one, hx]; rfl
      obtain ⟨W9, hW9⟩ : ∃ W9, wx.alloc (.cells #[.int .i64 xk, .int .i64 xn, .string xs, .bool xb2, .int .u64 (xm : Int)] 66) = W9 := ⟨_, rfl⟩
      have o9 : Old wx W9 := by rw [← hW9]; exact (Keeps.refl _ _).alloc _
      have b9 : W9.heap[wx.heap.size]? = some (.cells #[.int .i64 xk, .int .i64 xn, .string xs, .bool xb2, .int .u64 (xm : Int)] 66 (0, 0)) := by rw [← hW9]; exact heap_alloc_new _ _
      have MT := Lib.hid (fun V (hV : Old W9 V) => matches_any _ P tk (.slice pa tl.length ca) tl V ((H.out.2.2.1.old ix.old).old (o9.trans hV)) (fun y hy => (hsv y hy).old (o9.trans hV)) (hav.old (o9.trans hV)))
      have LE := Lib.hid (fun V (hV : Old W9 V) => by have := (ix.to (o9.trans hV)).lookE xm; rw [ht] at this; exact this)
      have QQ := Lib.hid (And.intro (ix.to o9) (And.intro b9 (And.intro (ho6.old o9) (And.intro hnl6 (And.intro (hkx.trans o9) (And.intro hmem (And.intro hmx ht)))))))
      clear cell hcell2 hx ix ho6 hnl6 hkx hmem o9 b9 hsv hav hxm hmx ht
      simp only [Option.map_some, Option.getD_some, evV] at LE
      obtain ⟨z, hz⟩ : ∃ z, matchesV (P.map Con.plain) tl = z := ⟨_, rfl⟩
      rw [hz] at MT
      have HZ := Lib.hid hz
      clear hz
      subst e6
      go_upto_region 19 with fail
      clear c0 c1 c2 c3 c4 hW9
      have rd : Old W9 W9.drew := (Keeps.refl _ _).drew
      refine wp_region_g (S := fun V => Old W9 V) (M := [0, 1, 2, 3, 4, 5, 6, 7, 8]) (by kernel_rfl) ?_
      refine tkG (i := 0) (v := ?vg0) ?yg0 rd ?rg0
      case yg0 => (intro W hSw; go_simp; try with_reducible rfl)
      try simp only [Act.put, List.setIfInBounds_toArray, List.set_cons_zero, List.set_cons_succ]
      refine tkG (i := 1) (v := ?vg1) ?yg1 rd ?rg1
      case yg1 => (intro W hSw; go_simp; try with_reducible rfl)
      try simp only [Act.put, List.setIfInBounds_toArray, List.set_cons_zero, List.set_cons_succ]
      refine tkG (i := 2) (v := ?vg2) ?yg2 rd ?rg2
      case yg2 => (intro W hSw; go_simp; try with_reducible rfl)
      try simp only [Act.put, List.setIfInBounds_toArray, List.set_cons_zero, List.set_cons_succ]
      refine tkG (i := 3) (v := ?vg3) ?yg3 rd ?rg3
      case yg3 => (intro W hSw; go_simp; try with_reducible rfl)
      try simp only [Act.put, List.setIfInBounds_toArray, List.set_cons_zero, List.set_cons_succ]
      refine tkG (i := 4) (v := ?vg4) ?yg4 rd ?rg4
      case yg4 => (intro W hSw; have q1 := cell_at0 (QQ.out.1.to hSw).x; go_simp; try with_reducible rfl)
      try simp only [Act.put, List.setIfInBounds_toArray, List.set_cons_zero, List.set_cons_succ]
      refine tkG (i := 5) (v := ?vg5) ?yg5 rd ?rg5
      case yg5 => (intro W hSw; go_simp; try with_reducible rfl)
      try simp only [Act.put, List.setIfInBounds_toArray, List.set_cons_zero, List.set_cons_succ]
      refine tkG (i := 6) (v := ?vg6) ?yg6 rd ?rg6
      case yg6 => (intro W hSw; have q1 := blk5 ((hSw.block _ (lt_of_heap QQ.out.2.1) (fun f => f)).trans QQ.out.2.1); go_simp; try with_reducible rfl)
      try simp only [Act.put, List.setIfInBounds_toArray, List.set_cons_zero, List.set_cons_succ]
      refine tkG (i := 7) (v := ?vg7) ?yg7 rd ?rg7
      case yg7 => (intro W hSw; have q1 := LE.out _ hSw; go_simp; try with_reducible rfl)
      try simp only [Act.put, List.setIfInBounds_toArray, List.set_cons_zero, List.set_cons_succ]
      refine wpAnyG_onlyL (i := 8) (o := _) (by kernel_rfl) rfl (fun K hK => ?_)
      go_simp
      refine (MT.out W9.drew rd).mono ?_
      rintro e WA ⟨rfl, kA⟩
      have oA : Old W9 WA := rd.trans kA
      have bA := (oA.block _ (lt_of_heap QQ.out.2.1) (fun f => f)).trans QQ.out.2.1
      have RR := Lib.hid (And.intro oA bA)
      clear kA rd
      go_wp2_with fail
      refine hK.out _ _ (fun _ => oA) ?_
      clear hK K
      try simp only [Act.put, List.setIfInBounds_toArray, List.set_cons_zero, List.set_cons_succ]
      refine wpAnyG_done (by kernel_rfl) ?_ _
      go_simp
      clear oA
      cases z
      ·clear bA
       go_wp2_with fail
       go_roundw
       case rel =>
        refine ⟨j + 1, N, by omega, by go_num, QQ.out.2.2.1.old RR.out.1, by have := QQ.out.2.2.2.1; omega, QQ.out.2.2.2.2.1.trans RR.out.1, fun n => ?_⟩
        rw [QQ.out.2.2.2.2.2.1 n, QQ.out.2.2.2.2.2.2.1]
        constructor
        ·rintro ⟨y, hy, h1, h2⟩
         exact ⟨y, List.mem_append.2 (.inl hy), h1, h2⟩
        ·rintro ⟨y, hy, h1, h2⟩
         rcases List.mem_append.1 hy with hy | hy
         ·exact ⟨y, hy, h1, h2⟩
         ·rw [List.mem_singleton] at hy
          subst hy
          obtain ⟨t, ht, hm⟩ := h2
          rw [← h1] at ht
          rw [QQ.out.2.2.2.2.2.2.2] at ht
          simp only [Option.some.injEq] at ht
          subst ht
          rw [HZ.out] at hm
          cases hm
       case measure => simp [intOf]; omega
      ·have q1 := blk5 bA
       clear bA
       have SN := Lib.hid (SeesR.new (k := 1) (enc := oneL encU) WA 30 (0, 0) [xm] #[.int .u64 (xm : Int)] (by simp [oneL, encU]) (fun _ => rfl) (by unfold maxLen; simp))
       have HN := Lib.hid (show N.length + 1 ≤ maxLen ∧ (N.length + 1) * 8 ≤ 140737488355328 ∧ wq.heap.size ≤ (WA.alloc (.cells #[.int .u64 (xm : Int)] 30)).heap.size from
        ⟨by have := QQ.out.2.2.2.1; unfold maxLen; omega, by have := QQ.out.2.2.2.1; omega, by have := (QQ.out.2.2.2.2.1.trans RR.out.1).size; simp; omega⟩)
       go_wp2_with (at_builtin; go_loud (refine wpList_append_rows (P := Tryz.prog) rfl _ _ 41 rfl wq.heap.size 30 1 8 (oneL encU) _ Tryz.underlying41 Tryz.infoU64 rfl (by decide) (.slice p6 n6 c6) N rfl ((QQ.out.2.2.1.old RR.out.1).alloc _) _ [xm] rfl SN.out (by simp [oneL]) (by simp [oneL, encU, Value.oneCell']) HN.out.1 HN.out.2.1 HN.out.2.2 ?_; intro v7 w7 ho7 hg7 _))
       have Z := Lib.hid (And.intro ho7 (((QQ.out.2.2.2.2.1.trans RR.out.1).alloc _).grown hg7 (fun k e hlt => by have := QQ.out.2.2.1.block k e; omega)))
       clear ho7 hg7 q1
       go_roundw
       case rel =>
        refine ⟨j + 1, N ++ [xm], by omega, by go_num, Z.out.1, by rw [List.length_append]; have := QQ.out.2.2.2.1; simp; omega, Z.out.2, fun n => ?_⟩
        rw [List.mem_append, List.mem_singleton, QQ.out.2.2.2.2.2.1 n, QQ.out.2.2.2.2.2.2.1]
        constructor
        ·rintro (⟨y, hy, h1, h2⟩ | rfl)
         ·exact ⟨y, List.mem_append.2 (.inl hy), h1, h2⟩
         ·exact ⟨_, List.mem_append.2 (.inr (List.mem_singleton.2 rfl)), rfl, _, QQ.out.2.2.2.2.2.2.2, HZ.out⟩
        ·rintro ⟨y, hy, h1, h2⟩
         rcases List.mem_append.1 hy with hy | hy
         ·exact .inl ⟨y, hy, h1, h2⟩
         ·rw [List.mem_singleton] at hy
          subst hy
          exact .inr h1.symm
       case measure => simp [intOf]; omega
     ·have hjl : j = L'.length := by omega
      subst hjl
      have Y := Lib.hid (And.intro ho6 (And.intro hkx hmem))
      have hl6 : N.length ≤ 40 := by omega
      have SU := Lib.hid (sort_u64 u6 N wq.heap.size wx ho6 (by omega))
      have hnl2 : ¬ ((L'.length : Int) < (L'.length : Int)) := by omega
      clear ho6 hkx hmem ix hlt2
      subst e6
      go_wp2_with fail
      refine SU.out.mono ?_
      rintro e WB ⟨rfl, M, hM, hoM, kM⟩
      have hlo : ∀ k, (Value.slice p6 n6 c6).ownBlock = some k → wq.heap.size ≤ k := fun k e => (Y.out.1.block k e).1
      have Z := Lib.hid (And.intro hoM (And.intro hM (Y.out.2.1.then kM (fun i hi e => by have := hlo i e; omega))))
      clear hM hoM kM hlo
      go_wp2_with fail
      go_ret2
      refine .inr ⟨HOK.out, _, M, rfl, ⟨_, Z.out.1⟩, (I3.out.2.trans E.out.2.2.2).trans Z.out.2.2, fun n => ?_⟩
      rw [Z.out.2.1.mem_iff, Y.out.2.2 n, List.take_of_length_le (Nat.le_refl _)]
      constructor
      ·rintro ⟨_, _, _, h⟩; exact h
      ·intro h
       obtain ⟨x, hx, h1, h2⟩ := H.out.2.1.hit BB.out.2.2 h
       exact ⟨x, BB.out.2.1 x hx h2, h1, h⟩
end
end Go.Proofs.YtehmlaplodjenaaGreat
