/- DERIVED. match: asked. · DERIVED. The library's contracts at this program, laid by the kit's shelf in plain words: slices.Sorted of a map's keys, the keys ints. (gen_she.py) -/
import Derived.Test.YtehmlaplodjenaaGreatZTopDual36
import Derived.Deep.DeepCutAuto
import Derived.IntWalk
import Derived.BigQuiet
import Derived.Laws.EntriesVeiled
import Derived.Test.YtehmlaplodjenaaGreatZTopDual16
import Derived.Test.YtehmlaplodjenaaGreatZTopDual14
import Derived.Shelf.SlIterI.Nil
import Derived.Ground.GgzProg
set_option maxRecDepth 100000
set_option maxHeartbeats 8000000
namespace Go.Proofs.YtehmlaplodjenaaGreat
section
open Go.RowKit
def cntT (G : ByteArray → Value × List Pt) (l : List At) (k j : Nat) : Nat :=
 match l[j]? with
 | some a => if (l.take j).any (fun b => b.name.toList == a.name.toList) then 0 else (G a.name).2.countP (fun y => y.id == k && asksV y.c.plain a.val)
 | none => 0
def cntI (G : ByteArray → Value × List Pt) (l : List At) : Nat → Nat → Nat
 | 0, _ => 0
 | i + 1, k => cntI G l i k + cntT G l k i
theorem cntT_le {G : ByteArray → Value × List Pt} {K : Nat} (h : ∀ s, (G s).2.length ≤ K) (l : List At) (k j : Nat) : cntT G l k j ≤ K := by
 unfold cntT
 split
 ·split
  ·omega
  ·exact Nat.le_trans List.countP_le_length (h _)
 ·omega
theorem cntI_le {G : ByteArray → Value × List Pt} {K : Nat} (h : ∀ s, (G s).2.length ≤ K) (l : List At) (k : Nat) : ∀ i, cntI G l i k ≤ i * K
 | 0 => Nat.zero_le _
 | i + 1 => by
  have h1 := cntI_le h l k i
  have h2 := cntT_le h l k i
  show cntI G l i k + cntT G l k i ≤ (i + 1) * K
  rw [Nat.succ_mul]
  omega
theorem SeenS.more {W : World} {sb : Nat} {l : List At} {a : At} (h : SeenS W sb l) (ha : l.any (fun b => b.name.toList == a.name.toList) = true) : SeenS W sb (l ++ [a]) := by
 obtain ⟨n, f, m, e⟩ := h
 refine ⟨n, f, m, fun s => ?_⟩
 rw [e s, List.any_append]
 by_cases hs : s = a.name
 ·subst hs
  simp [ha]
 ·have h2 : (a.name.toList == s.toList) = false := by rw [beq_eq_false_iff_ne]; exact fun e => hs (toList_inj e.symm)
  simp only [List.any_cons, List.any_nil, h2, Bool.or_false]
theorem HeldS.ne {W : World} {mb b : Nat} {cnt : Nat → Nat} {cs : Array Value} {t : TypeId} {fr : Nat × Nat} (h : HeldS W mb cnt) (hb : W.heap[b]? = some (.cells cs t fr)) : ¬ b = mb := by
 rintro rfl
 obtain ⟨n, f, m, _⟩ := h
 obtain ⟨es, ck, e⟩ := m.heap
 rw [hb] at e
 cases e
theorem enters_match1 : ∀ args W, (callFunc 30 args).run Tryz.prog W = .ok (.enter 30 args) W := fun args W => by simp [go_sem, callFunc, Tryz.func30]; rfl
theorem asked_m (w0 Wm Wa : World) (xb pb qb Kn Kc hb mb : Nat) (pr : Nat → Option Value) (G : ByteArray → Value × List Pt) (key : ByteArray) (av : Value) (l : List At) (hM : MxS w0 xb pb qb Kn Kc pr G Wm) (hO : Old Wm Wa) (hmb : Wm.heap.size ≤ mb) (hh : Wa.heap[hb]? = some (.cells #[.map (some mb)] 87 (0, 0))) (h0 : HeldS Wa mb (fun _ => 0)) (ha : SeesA w0 av l) (hKc : Kc ≤ 200) (hl : l.length ≤ 1000) (hid : ∀ s, ∀ y ∈ (G s).2, y.id ≤ 1000000) :
  Calls Tryz.prog 29 #[.pointer (some ⟨xb, 0, none⟩), .agg #[.string key, av], .func (.func 30) #[] #[.pointer (some ⟨hb, 0, none⟩)]] Wa fun e W' => e = .returned (.tuple #[]) ∧ HeldS W' mb (cntI G l l.length) ∧ Keeps (fun i => i = mb) Wa W' := by
 obtain ⟨pa, ca, rfl, _, _⟩ := ha.len
 obtain ⟨W2, hW2⟩ : ∃ W2, (Wa.alloc (.cells #[.string key, .slice pa l.length ca] 33)).alloc (.map #[] 0) = W2 := ⟨_, rfl⟩
 have k2 : Old Wa W2 := by rw [← hW2]; exact ((Keeps.refl _ _).alloc _).alloc _
 obtain ⟨b0, b1⟩ := two_blocks Wa (.cells #[.string key, .slice pa l.length ca] 33) (.map #[] 0)
 rw [hW2] at b0 b1
 have hmlt : mb < Wa.heap.size := by
  obtain ⟨n, f, m, _⟩ := h0
  exact m.lt
 have hne : hb ≠ mb := by
  rintro rfl
  obtain ⟨n, f, m, _⟩ := h0
  obtain ⟨es, ck, e⟩ := m.heap
  rw [hh] at e
  cases e
 have ss : SeenS W2 (Wa.heap.size + 1) (l.take 0) := ⟨0, fun _ => none, ⟨#[], 0, b1, MapKept.stamped_empty 0, by simp, by simp, fun k v _ => by simp⟩, fun s => by simp⟩
 have mk := fun W => (show (Instr.makeMap 137 none).run Tryz.prog W = .ok (.map (some W.heap.size)) (W.alloc (.map #[] 0)) from by kernel_rfl)
 have q0 := blk2 b0
 have ke : ∀ W, Keeps (fun i => i = mb) Wa W → Old Wm W := fun W hW => hO.then hW (fun i hi e => by have : i = mb := e; omega)
 have H := Lib.hid (And.intro hM (And.intro hO (And.intro hh (And.intro (h0.old k2) (And.intro ha (And.intro hid (And.intro k2 (And.intro ss (And.intro hne ke)))))))))
 clear hM hO hh h0 ha hid k2 b0 b1 ss hne ke
 go_enter Tryz.func29, Tryz.ntmps29
 go_wp2_with fail
 try rw [hW2]
 clear hW2 q0 mk
 go_loopw [17] (fun v17 wr => ∃ i : Nat, i ≤ l.length ∧ v17 = .int .i64 i ∧ HeldS wr mb (cntI G l i) ∧ SeenS wr (Wa.heap.size + 1) (l.take i) ∧ Keeps (fun i => i = mb) Wa wr) (fun v17 _ => l.length - (intOf v17).toNat)
 case atStart => exact ⟨0, Nat.zero_le _, rfl, H.out.2.2.2.1, H.out.2.2.2.2.2.2.2.1, H.out.2.2.2.2.2.2.1.weaken (fun _ _ f => f.elim)⟩
 case round =>
  obtain ⟨wq, hwq⟩ : ∃ wq : World, wq = wr := ⟨_, rfl⟩
  subst hwq
  obtain ⟨i, hi, rfl, hhe, hse, hk⟩ := hrel
  by_cases hlt : i < l.length
  ·have hmq := H.out.1.to (H.out.2.2.2.2.2.2.2.2.2 wq hk)
   obtain ⟨b, o, cp, he, _, _, hc⟩ := H.out.2.2.2.2.1.at (by omega)
   simp only [Value.slice.injEq, true_and] at he
   obtain ⟨rfl, rfl⟩ := he
   obtain ⟨a, hax⟩ : ∃ a, l[i]? = some a := ⟨_, List.getElem?_eq_getElem hlt⟩
   have cell : ∀ k u, (At.cells a)[k]? = some u → wq.cell? ⟨b, o + i * 5 + k, none⟩ = some u := fun k u hu => hmq.old.cell (hc i a hax k u hu) (fun f => f)
   have c0 := cell 0 _ rfl
   have c1 := cell 1 _ rfl
   have c2 := cell 2 _ rfl
   have c3 := cell 3 _ rfl
   have c4 := cell 4 _ rfl
   simp only [Nat.add_zero] at c0
   obtain ⟨nm, ⟨vk, vn, vs, vb⟩⟩ := a
   obtain ⟨W7, hW7⟩ : ∃ W7, wq.alloc (.cells #[.string nm, .int .i64 vk, .int .i64 vn, .string vs, .bool vb] 63) = W7 := ⟨_, rfl⟩
   have o7 : Old wq W7 := by rw [← hW7]; exact (Keeps.refl _ _).alloc _
   have b7 : W7.heap[wq.heap.size]? = some (.cells #[.string nm, .int .i64 vk, .int .i64 vn, .string vs, .bool vb] 63 (0, 0)) := by rw [← hW7]; exact heap_alloc_new _ _
   have ht : l.take (i + 1) = l.take i ++ [⟨nm, ⟨vk, vn, vs, vb⟩⟩] := by rw [List.take_add_one, hax]; rfl
   have hs7 := hse.keeps o7 (fun f => f)
   have lk := hs7.look nm
   have hT : ∀ k, cntI G l (i + 1) k = cntI G l i k + if (l.take i).any (fun b => b.name.toList == nm.toList) then 0 else (G nm).2.countP (fun y => y.id == k && asksV y.c.plain ⟨vk, vn, vs, vb⟩) := fun k => by
    show cntI G l i k + cntT G l k i = _
    unfold cntT
    rw [hax]
   obtain ⟨z, hz⟩ : ∃ z, (l.take i).any (fun b => b.name.toList == nm.toList) = z := ⟨_, rfl⟩
   rw [hz] at lk
   simp only [hz] at hT
   have q7 := blk5 b7
   have k7 : Keeps (fun i => i = mb) Wa W7 := hk.trans (o7.weaken (fun _ _ f => f.elim))
   cases z
   ·obtain ⟨W8, hrun, k8, hs8⟩ := hs7.put ⟨nm, ⟨vk, vn, vs, vb⟩⟩
    have hsb : Wa.heap.size + 1 ≠ wq.heap.size := by
     intro e
     obtain ⟨n, f, m, _⟩ := hs7
     obtain ⟨es, ck, e2⟩ := m.heap
     rw [e, b7] at e2
     cases e2
    have b8 := (k8.block _ (lt_of_heap b7) (fun e => hsb e.symm)).trans b7
    have h8 := (hhe.old o7).keeps k8 (fun e => by have : mb = Wa.heap.size + 1 := e; omega)
    have k08 : Keeps (fun i => i = mb) Wa W8 := k7.then k8 (fun i hi e => by have : i = Wa.heap.size + 1 := e; omega)
    have m8 := H.out.1.to (H.out.2.2.2.2.2.2.2.2.2 W8 k08)
    rw [← ht] at hs8
    obtain ⟨rv, hrv⟩ : ∃ rv, (G nm).1 = rv := ⟨_, rfl⟩
    have hr8 := m8.rows nm
    rw [hrv] at hr8
    obtain ⟨pr0, cr0, er, hr1, hr2⟩ := (hr8.sees Pt.len (by decide)).len
    have HRV := Lib.hid hrv
    have Q := Lib.hid (And.intro m8 (And.intro b8 (And.intro h8 (And.intro hs8 (And.intro k08 (And.intro hT (And.intro hr8 hsb)))))))
    clear cell hc hhe hse hk hmq o7 b7 hs7 k7 k8 b8 h8 k08 m8 hs8 hT hr8 hrv hsb hax ht
    subst er
    go_upto_region 8 with fail
    clear c0 c1 c2 c3 c4 hW7 q7 lk hrun
    have rd : Old W8 W8.drew := (Keeps.refl _ _).drew
    refine wp_region_g (S := fun V => Old W8 V) (M := List.range 9) (by kernel_rfl) ?_
    refine tkG (i := 0) (v := ?vf0) ?yf0 rd ?rf0
    case yf0 => (intro W hSw; go_simp; try with_reducible rfl)
    try simp only [Act.put, List.setIfInBounds_toArray, List.set_cons_zero, List.set_cons_succ]
    refine tkG (i := 1) (v := ?vf1) ?yf1 rd ?rf1
    case yf1 => (intro W hSw; go_simp; try with_reducible rfl)
    try simp only [Act.put, List.setIfInBounds_toArray, List.set_cons_zero, List.set_cons_succ]
    refine tkG (i := 2) (v := ?vf2) ?yf2 rd ?rf2
    case yf2 => (intro W hSw; go_simp; try with_reducible rfl)
    try simp only [Act.put, List.setIfInBounds_toArray, List.set_cons_zero, List.set_cons_succ]
    refine tkG (i := 3) (v := ?vf3) ?yf3 rd ?rf3
    case yf3 => (intro W hSw; have q1 := cell_at1 (Q.out.1.to hSw).x; go_simp; try with_reducible rfl)
    try simp only [Act.put, List.setIfInBounds_toArray, List.set_cons_zero, List.set_cons_succ]
    refine tkG (i := 4) (v := ?vf4) ?yf4 rd ?rf4
    case yf4 => (intro W hSw; go_simp; try with_reducible rfl)
    try simp only [Act.put, List.setIfInBounds_toArray, List.set_cons_zero, List.set_cons_succ]
    refine tkG (i := 5) (v := ?vf5) ?yf5 rd ?rf5
    case yf5 => (intro W hSw; have q1 := blk5 ((hSw.block _ (lt_of_heap Q.out.2.1) (fun f => f)).trans Q.out.2.1); go_simp; try with_reducible rfl)
    try simp only [Act.put, List.setIfInBounds_toArray, List.set_cons_zero, List.set_cons_succ]
    refine tkG (i := 6) (v := ?vf6) ?yf6 rd ?rf6
    case yf6 => (intro W hSw; have q1 := (Q.out.1.to hSw).look nm; rw [HRV.out] at q1; go_simp; try with_reducible rfl)
    try simp only [Act.put, List.setIfInBounds_toArray, List.set_cons_zero, List.set_cons_succ]
    refine tkG (i := 7) (v := ?vf7) ?yf7 rd ?rf7
    case yf7 => (intro W hSw; go_simp; try with_reducible rfl)
    try simp only [Act.put, List.setIfInBounds_toArray, List.set_cons_zero, List.set_cons_succ]
    refine tkG (i := 8) (v := ?vf8) ?yf8 rd ?rf8
    case yf8 => (intro W hSw; go_simp; try with_reducible rfl)
    try simp only [Act.put, List.setIfInBounds_toArray, List.set_cons_zero, List.set_cons_succ]
    refine wpAnyG_done (by kernel_rfl) ?_ _
    go_simp
    have hR : (G nm).2.length ≤ Kc := Q.out.1.len nm
    obtain ⟨R, hRR⟩ : ∃ R, (G nm).2 = R := ⟨_, rfl⟩
    rw [hRR] at hR hr1 ⊢
    have HRR := Lib.hid hRR
    clear hRR rd
    obtain ⟨W8d, hW8d⟩ : ∃ V, W8.drew = V := ⟨_, rfl⟩
    have o8d : Old W8 W8d := by rw [← hW8d]; exact (Keeps.refl _ _).drew
    rw [hW8d]
    clear hW8d
    go_wp2_with fail
    go_loopw [37] (fun v37 wr => ∃ j : Nat, j ≤ R.length ∧ v37 = .int .i64 j ∧ HeldS wr mb (fun k => cntI G l i k + (R.take j).countP (fun y => y.id == k && asksV y.c.plain ⟨vk, vn, vs, vb⟩)) ∧ Keeps (fun i => i = mb) W8 wr) (fun v37 _ => R.length - (intOf v37).toNat)
    case atStart => exact ⟨0, Nat.zero_le _, rfl, by simpa using Q.out.2.2.1.old o8d, o8d.weaken (fun _ _ f => f.elim)⟩
    case round =>
     obtain ⟨wx, hwx⟩ : ∃ wx : World, wx = wr := ⟨_, rfl⟩
     subst hwx
     obtain ⟨j, hj, rfl, hhe, hk⟩ := hrel
     have kx : Keeps (fun i => i = mb) Wa wx := Q.out.2.2.2.2.1.trans hk
     by_cases hlt2 : j < R.length
     ·have mx := H.out.1.to (H.out.2.2.2.2.2.2.2.2.2 wx kx)
      have hrx := mx.rows nm
      rw [HRV.out, HRR.out] at hrx
      obtain ⟨b2, o2, cp2, he2, _, _, hcell⟩ := (hrx.sees Pt.len (by decide)).at (by omega)
      simp only [Value.slice.injEq] at he2
      obtain ⟨rfl, _, rfl⟩ := he2
      obtain ⟨y, hy⟩ : ∃ y, R[j]? = some y := ⟨_, List.getElem?_eq_getElem hlt2⟩
      have cell : ∀ k u, (Pt.cells y)[k]? = some u → wx.cell? ⟨b2, o2 + j * 8 + k, none⟩ = some u := fun k u hu => hcell j y hy k u hu
      have c0 := cell 0 _ rfl
      have c1 := cell 1 _ rfl
      have c2 := cell 2 _ rfl
      have c3 := cell 3 _ rfl
      have c4 := cell 4 _ rfl
      have c5 := cell 5 _ rfl
      have c6 := cell 6 _ rfl
      have c7 := cell 7 _ rfl
      simp only [Nat.add_zero] at c0
      have hyG : y ∈ (G nm).2 := by rw [HRR.out]; exact List.mem_of_getElem? hy
      have hys := (mx.sets nm y hyG).sees len_valL (by decide)
      have hyi := H.out.2.2.2.2.2.1 nm y hyG
      have hct : ∀ k, (R.take (j + 1)).countP (fun y => y.id == k && asksV y.c.plain ⟨vk, vn, vs, vb⟩) = (R.take j).countP (fun y => y.id == k && asksV y.c.plain ⟨vk, vn, vs, vb⟩) + if (y.id == k && asksV y.c.plain ⟨vk, vn, vs, vb⟩) then 1 else 0 := fun k => by
       rw [List.take_add_one, hy, List.countP_append]
       simp [List.countP_cons]
      have hbnd : cntI G l i y.id + (R.take j).countP (fun z => z.id == y.id && asksV z.c.plain ⟨vk, vn, vs, vb⟩) ≤ 1000000 := by
       have h1 := cntI_le mx.len l y.id i
       have h2 : (R.take j).countP (fun z => z.id == y.id && asksV z.c.plain ⟨vk, vn, vs, vb⟩) ≤ (R.take j).length := List.countP_le_length
       have h3 : (R.take j).length ≤ R.length := by rw [List.length_take]; omega
       have h4 : i * Kc ≤ 1000 * 200 := Nat.mul_le_mul (by omega) hKc
       omega
      obtain ⟨id, ⟨nm2, op, ⟨ck, cn, cs, cb⟩, sv, set⟩⟩ := y
      obtain ⟨ps, cs3, e9, _, _⟩ := hys.len
      simp only at e9 c0 c1 c2 c3 c4 c5 c6 c7 hys hyi hbnd
      subst e9
      obtain ⟨W9, hW9⟩ : ∃ W9, wx.alloc (.cells #[.int .i64 (id : Int), .string nm2, .int .i64 op, .int .i64 ck, .int .i64 cn, .string cs, .bool cb, .slice ps set.length cs3] 81) = W9 := ⟨_, rfl⟩
      have o9 : Old wx W9 := by rw [← hW9]; exact (Keeps.refl _ _).alloc _
      have b9 : W9.heap[wx.heap.size]? = some (.cells #[.int .i64 (id : Int), .string nm2, .int .i64 op, .int .i64 ck, .int .i64 cn, .string cs, .bool cb, .slice ps set.length cs3] 81 (0, 0)) := by rw [← hW9]; exact heap_alloc_new _ _
      have d : ∀ i u, #[Value.int .i64 (id : Int), .string nm2, .int .i64 op, .int .i64 ck, .int .i64 cn, .string cs, .bool cb, .slice ps set.length cs3][i]? = some u → W9.cell? ⟨wx.heap.size, i, none⟩ = some u := fun i u hu => by simp only [World.cell?, b9]; exact hu
      have d0 := d 0 _ rfl
      have d1 := d 1 _ rfl
      have d2 := d 2 _ rfl
      have d3 := d 3 _ rfl
      have d4 := d 4 _ rfl
      have d5 := d 5 _ rfl
      have d6 := d 6 _ rfl
      have d7 := d 7 _ rfl
      have hab : ¬ wq.heap.size = mb := Q.out.2.2.1.ne Q.out.2.1
      have bq := ((hk.trans (o9.weaken (fun _ _ f => f.elim))).block _ (lt_of_heap Q.out.2.1) hab).trans Q.out.2.1
      have qa := blk5 bq
      have hh9 := ((kx.trans (o9.weaken (fun _ _ f => f.elim))).block _ (lt_of_heap H.out.2.2.1) H.out.2.2.2.2.2.2.2.2.1).trans H.out.2.2.1
      have M1 := match1_any ⟨id, ⟨nm2, op, ⟨ck, cn, cs, cb⟩, .slice ps set.length cs3, set⟩⟩ ⟨vk, vn, vs, vb⟩ hb mb _ W9 hh9 (hhe.old o9) (hys.old o9) hbnd hyi
      unfold Pt.cells Con.cells Val.cells at M1
      simp only at M1
      have CM := Lib.hid M1
      have Y := Lib.hid (And.intro hct (And.intro hk o9))
      have em := enters_match1
      clear M1 cell hcell hys hyi hct hbnd hhe hk mx hrx hyG hy o9 b9 d bq hh9 hab kx
      go_upto_region 11 with fail
      clear c0 c1 c2 c3 c4 c5 c6 c7 hW9
      go_wp2_with fail
      refine CM.out.mono ?_
      rintro e WA ⟨rfl, hA, kA⟩
      have Z := Lib.hid (And.intro hA (Y.out.2.1.trans ((Y.out.2.2.weaken (fun _ _ f => f.elim)).trans kA)))
      clear hA kA d0 d1 d2 d3 d4 d5 d6 d7 qa CM
      go_wp2_with fail
      go_roundw
      case rel =>
       refine ⟨j + 1, by omega, by go_num, ?_, Z.out.2⟩
       have e : (fun k => cntI G l i k + (R.take (j + 1)).countP (fun y => y.id == k && asksV y.c.plain ⟨vk, vn, vs, vb⟩)) = fun k => (cntI G l i k + (R.take j).countP (fun y => y.id == k && asksV y.c.plain ⟨vk, vn, vs, vb⟩)) + if (id == k && asksV (Con.plain ⟨nm2, op, ⟨ck, cn, cs, cb⟩, .slice ps set.length cs3, set⟩) ⟨vk, vn, vs, vb⟩) then 1 else 0 := by
        funext k
        rw [Y.out.1 k, Nat.add_assoc]
       rw [e]
       exact Z.out.1
      case measure => simp [intOf]; omega
     ·have hjl : j = R.length := by omega
      subst hjl
      rw [List.take_of_length_le (Nat.le_refl _)] at hhe
      have hsx : SeenS wx (Wa.heap.size + 1) (l.take (i + 1)) := Q.out.2.2.2.1.keeps hk (fun e => by have : Wa.heap.size + 1 = mb := e; omega)
      have Z := Lib.hid (And.intro hhe (And.intro hsx kx))
      have hnl : ¬ R.length < R.length := hlt2
      clear hhe hk hsx kx
      go_wp2_with fail
      go_roundw
      case rel =>
       refine ⟨i + 1, by omega, by go_num, ?_, Z.out.2.1, Z.out.2.2⟩
       have e : cntI G l (i + 1) = fun k => cntI G l i k + R.countP (fun y => y.id == k && asksV y.c.plain ⟨vk, vn, vs, vb⟩) := by
        funext k
        rw [Q.out.2.2.2.2.2.1 k, HRR.out]
        rfl
       rw [e]
       exact Z.out.1
      case measure => simp [intOf]; omega
   ·have Q := Lib.hid (And.intro (hhe.old o7) (And.intro (ht ▸ hs7.more hz) (And.intro k7 hT)))
    clear cell hc hhe hse hk hmq o7 b7 hs7 k7 hT hax ht
    go_wp2_with fail
    go_roundw
    case rel => exact ⟨i + 1, by omega, by go_num, by
     have e : cntI G l (i + 1) = cntI G l i := by funext k; rw [Q.out.2.2.2 k]; rfl
     rw [e]; exact Q.out.1, Q.out.2.1, Q.out.2.2.1⟩
    case measure => simp [intOf]; omega
  ·have hil : i = l.length := by omega
   subst hil
   have Z := Lib.hid (And.intro hhe hk)
   have hnl : ¬ l.length < l.length := hlt
   clear hhe hse hk
   go_wp2_with fail
   refine bodyPost_end (results_none rfl _ _ _) rfl ?_
   exact ⟨rfl, Z.out⟩
end
section
open Go.RowKit Go.Maps Go.Sort Go.Shelf
def sh_keysI_ren : Go.Shelf.Ren := ⟨fun | 7 => 78 | 10 => 137 | n => n, fun | 23 => 53 | 26 => 3 | 3 => 39 | 28 => 142 | 0 => 0 | 27 => 141 | 33 => 93 | 4 => 4 | n => n, fun | n => n⟩
theorem sh_keysI : Go.Proofs.SlLaysZI.n7 Tryz.prog sh_keysI_ren := {
  mixed := by kernel_rfl
  f7 := ⟨Tryz.f78.name, by decide, Tryz.func78.trans (congrArg some (by kernel_rfl))⟩
  f10 := ⟨Tryz.f137.name, by decide, Tryz.func137.trans (congrArg some (by kernel_rfl))⟩
  t0 := Tryz.underlying0
  a0 := Tryz.isAgg0
  z0 := Tryz.sizeOf0
  v0 := Tryz.zeroValue0
  t4 := Tryz.underlying4
  a4 := Tryz.isAgg4
  z4 := Tryz.sizeOf4
  v4 := Tryz.zeroValue4
  t23 := Tryz.underlying53
  a23 := Tryz.isAgg53
  z23 := Tryz.sizeOf53
  v23 := Tryz.zeroValue53
  t26 := Tryz.underlying3
  a26 := Tryz.isAgg3
  z26 := Tryz.sizeOf3
  v26 := Tryz.zeroValue3
  t27 := Tryz.underlying141
  a27 := Tryz.isAgg141
  z27 := Tryz.sizeOf141
  v27 := Tryz.zeroValue141
  t28 := Tryz.underlying142
  a28 := Tryz.isAgg142
  z28 := Tryz.sizeOf142
  v28 := Tryz.zeroValue142
  t33 := Tryz.underlying93
  a33 := Tryz.isAgg93
  z33 := Tryz.sizeOf93
  v33 := Tryz.zeroValue93 }
def sh_sortedI_ren : Go.Shelf.Ren := ⟨fun | 6 => 77 | 8 => 135 | 9 => 136 | 11 => 169 | 13 => 74 | 12 => 170 | 23 => 120 | 24 => 121 | 14 => 200 | 15 => 201 | 16 => 202 | 17 => 203 | 18 => 204 | 19 => 205 | 20 => 206 | 21 => 207 | 22 => 208 | 25 => 219 | 26 => 165 | 27 => 166 | 28 => 220 | 29 => 221 | 30 => 147 | 31 => 224 | n => n, fun | 26 => 3 | 28 => 142 | 24 => 44 | 0 => 0 | 3 => 3 | 37 => 109 | 48 => 179 | 50 => 30 | 4 => 4 | 40 => 172 | 39 => 171 | 45 => 67 | 5 => 5 | 9 => 9 | 51 => 208 | 55 => 212 | 57 => 236 | 58 => 237 | 33 => 93 | n => n, fun | n => n⟩
theorem sh_sortedI : Go.Proofs.SlLaysZI.n6 Tryz.prog sh_sortedI_ren := {
  mixed := by kernel_rfl
  f6 := ⟨Tryz.f77.name, by decide, Tryz.func77.trans (congrArg some (by kernel_rfl))⟩
  f8 := ⟨Tryz.f135.name, by decide, Tryz.func135.trans (congrArg some (by kernel_rfl))⟩
  f11 := ⟨Tryz.f169.name, by decide, Tryz.func169.trans (congrArg some (by kernel_rfl))⟩
  t0 := Tryz.underlying0
  a0 := Tryz.isAgg0
  z0 := Tryz.sizeOf0
  v0 := Tryz.zeroValue0
  t24 := Tryz.underlying44
  a24 := Tryz.isAgg44
  z24 := Tryz.sizeOf44
  v24 := Tryz.zeroValue44
  t26 := Tryz.underlying3
  a26 := Tryz.isAgg3
  z26 := Tryz.sizeOf3
  v26 := Tryz.zeroValue3
  t28 := Tryz.underlying142
  a28 := Tryz.isAgg142
  z28 := Tryz.sizeOf142
  v28 := Tryz.zeroValue142
  i26 := by kernel_rfl }
theorem sh_sortsI (m : Nat) : AnyZI.SortsIn Tryz.prog sh_sortedI_ren Fence.wide m :=
  ⟨fun blk off cap ss W hH hblk hsz => callsIn_wide.2 (sh_slices_Sort_int blk off cap ss W hH hblk hsz),
   fun p cap W => callsIn_wide.2 (sh_slices_Sort_int_none p cap W)⟩
theorem sh_maps_keysI (mb : Option Nat) (W : World) : Calls Tryz.prog 78 #[.map mb] W fun e w' => e = .returned (.func (.func 137) #[] #[.pointer (some ⟨W.heap.size, 0, none⟩)]) ∧ w' = W.alloc (.cells #[.map mb] 53) :=
  (callsIn_wide (n := 5)).1 (AnyZI.keys_in sh_keysI Fence.wide 5 trivial rfl mb W)
theorem sh_sorted_keysI {H : Type} (b nn : Nat) (D0 : DataW H) (R : Value → Option (DataW H × List MemPlace)) (w : World) (hown : w.ownsMap Tryz.prog 3 R b nn D0) (hmax : Maps.size D0 ≤ maxLen) (hbytes : Maps.size D0 * 8 ≤ 140737488355328) :
    Calls Tryz.prog 77 #[.func (.func 137) #[] #[.pointer (some ⟨w.heap.size, 0, none⟩)]] (w.alloc (.cells #[.map (some b)] 53)) fun e w' => ∃ (v : Value) (ss : List Int), e = .returned v ∧ ss.Perm (intKeys D0) ∧
      w'.ownsRow (w.alloc (.cells #[.map (some b)] 53)).heap.size 3 1 v ss.length ((ss.mergeSort (fun x y => decide (x ≤ y))).map encZ) ∧ (v = .slice none 0 0 ↔ ss = []) ∧ Below (w.alloc (.cells #[.map (some b)] 53)).heap.size (w.alloc (.cells #[.map (some b)] 53)) w' := by
  refine (callsIn_wide (n := 5)).1 ?_
  have hbl := hown.lt
  have hseq : SeqGives Fence.wide 2 Tryz.prog 137 #[.pointer (some ⟨w.heap.size, 0, none⟩)] encZ (fun ss => ss.Perm (intKeys D0)) (Maps.size D0) (w.alloc (.cells #[.map (some b)] 53)) :=
    AnyZI.keys_gives (ρ := sh_keysI_ren) { sh_keysI with } Fence.wide _ trivial rfl (by omega) w.heap.size b nn D0 _ (by simp) (by simp) (by
      obtain ⟨es, clock, hb, Ft, hs, hD⟩ := hown
      exact ⟨es, clock, (Below.heap_alloc _ _ b hbl).trans hb, Ft, hs, hD⟩)
  exact AnyZI.sorted_in sh_sortedI Fence.wide 5 trivial trivial trivial trivial rfl (by omega) (sh_sortsI _) (enters_of Tryz.func136 (by kernel_rfl) rfl) 137 #[.pointer (some ⟨w.heap.size, 0, none⟩)] trivial (enters_of Tryz.func137 (by kernel_rfl) rfl) _ _ hmax hbytes _ hseq
def keyI : Value → Int
  | .int _ z => z
  | _ => 0
def noRI : Value → Option (DataW Unit × List MemPlace) := fun _ => some (.nil, [])
theorem int_perm (l : List (Lit × DataW Unit)) : (intKeys (.map (l.foldr DataW.insert []))).Perm (intKeys (.map l)) := (WideShapes.sorted_perm l).map _
theorem MapF.owns {w : World} {m n : Nat} {f : Value → Option Value} (h : MapF (.int .i64) w m n f) (hn : n ≤ maxLen) (hf : ∀ z, f (.int .i64 z) ≠ none → -9223372036854775808 ≤ z ∧ z ≤ 9223372036854775807) :
    ∃ D : DataW Unit, w.ownsMap Tryz.prog 3 noRI m n D ∧ Maps.size D ≤ n ∧ (intKeys D).Nodup ∧ ∀ z, z ∈ intKeys D ↔ f (.int .i64 z) ≠ none := by
  obtain ⟨es, clk, h1, h2, h3, h4, h5⟩ := h
  have key : ∀ x ∈ es.toList, ∃ z, x.key = .int .i64 z ∧ f (.int .i64 z) ≠ none ∧ keyOf Tryz.prog 3 x.key = some (.int .i64 z) := by
    intro x hx
    have hk := h3 x hx
    obtain ⟨z, hz⟩ : ∃ z, x.key = .int .i64 z := by
      revert hk
      cases x.key <;> simp [MapKept.IsKey]
    have hne : f (.int .i64 z) ≠ none := by
      rw [(h5 (.int .i64 z) x.val (by rw [← hz]; exact hk)).2 ⟨x, hx, hz, rfl⟩]
      simp
    have hb := hf z hne
    refine ⟨z, hz, hne, ?_⟩
    rw [hz]
    have hw : (Lit.int .i64 z).wf = true := by
      have e1 : IntKind.i64.min = -9223372036854775808 := by decide
      have e2 : IntKind.i64.max = 9223372036854775807 := by decide
      simp [Lit.wf, e1, e2]; omega
    simp [keyOf, mapKey, Tryz.underlying3, hw]
  have rgx : ∀ x ∈ es.toList, WideElems.rg (H := Unit) Tryz.prog 3 noRI x = (.int .i64 (keyI x.key), .nil) := by
    intro x hx
    obtain ⟨z, hz, _, hko⟩ := key x hx
    have := WideElems.rg_of (WideElems.rd_mk (P := Tryz.prog) (k := 3) (R := noRI) (val := x.val) (born := x.born) (yv := (.nil, [])) hko rfl)
    have e : keyI x.key = z := by rw [hz]; rfl
    rw [e]
    exact this
  have hkeys : intKeys (.map (es.toList.map (WideElems.rg (H := Unit) Tryz.prog 3 noRI))) = es.toList.map fun x => keyI x.key := by
    show (es.toList.map (WideElems.rg (H := Unit) Tryz.prog 3 noRI)).map _ = _
    rw [List.map_map]
    refine List.map_congr_left (fun x hx => ?_)
    show _ = _
    simp only [Function.comp, rgx x hx]
    rfl
  have hperm := int_perm (es.toList.map (WideElems.rg (H := Unit) Tryz.prog 3 noRI))
  rw [hkeys] at hperm
  refine ⟨_, ⟨es, clk, h1, ⟨by omega, h2, fun x hx => ?_⟩, h4, rfl⟩, ?_, ?_, fun z => ?_⟩
  · obtain ⟨z, hz, _, hko⟩ := key x hx
    exact ⟨_, WideElems.rd_mk (val := x.val) (born := x.born) (yv := (.nil, [])) hko rfl⟩
  · show List.length _ ≤ n
    rw [(WideShapes.sorted_perm _).length_eq, List.length_map, Array.length_toList]
    exact h4
  · rw [hperm.nodup_iff]
    have hpw := ((MapKept.stamped_iff es clk).1 h2).2.2
    rw [List.Nodup, List.pairwise_map]
    refine hpw.imp_of_mem (fun {x y} hx hy hne e => hne ?_)
    obtain ⟨z, hz, _⟩ := key x hx
    obtain ⟨z', hz', _⟩ := key y hy
    rw [hz, hz'] at e ⊢
    simp only [keyI] at e
    rw [e]
  · rw [hperm.mem_iff, List.mem_map]
    constructor
    · rintro ⟨x, hx, e⟩
      obtain ⟨z', hz, hne, _⟩ := key x hx
      rw [hz] at e
      simp only [keyI] at e
      rw [← e]
      exact hne
    · intro hne
      cases hfz : f (.int .i64 z) with
      | none => exact absurd hfz hne
      | some v =>
        obtain ⟨x, hx, e, _⟩ := (h5 (.int .i64 z) v rfl).1 hfz
        exact ⟨x, hx, by rw [e]; rfl⟩
end
section
open Go.RowKit
def encN (n : Nat) : Value := .int .i64 (n : Int)
theorem ids_any (w0 w : World) (xb pb qb Kn Kc : Nat) (pr : Nat → Option Value) (G : ByteArray → Value × List Pt) (h : MxS w0 xb pb qb Kn Kc pr G w) (hKn : Kn ≤ 1000) (hid : ∀ k, pr k ≠ none → k ≤ 1000000) :
  Calls Tryz.prog 33 #[.pointer (some ⟨xb, 0, none⟩)] w fun e w' => ∃ (v : Value) (L : List Nat), e = .returned v ∧ L.Pairwise (fun x y => x < y) ∧ (∀ k, k ∈ L ↔ pr k ≠ none) ∧ L.length ≤ Kn ∧ OwnsR w' w.heap.size 3 1 (oneL encN) v L ∧ Old w w' := by
 obtain ⟨f, m, e1⟩ := h.p
 obtain ⟨D, hown, hsz, hnd, hmem⟩ := m.owns (by unfold maxLen; omega) (fun z hz => by
  rw [e1 z] at hz
  split at hz
  ·have := hid _ hz
   omega
  ·exact absurd rfl hz)
 have K := Lib.hid (sh_maps_keysI (some pb) w)
 have S := Lib.hid (sh_sorted_keysI pb Kn D noRI w hown (by unfold maxLen; omega) (by omega))
 have x0 : w.cell? ⟨xb, 0, none⟩ = some (.map (some pb)) := cell_at0 h.x
 have H := Lib.hid (And.intro hsz (And.intro hnd (And.intro hmem e1)))
 clear h m hown hsz hnd hmem e1
 go_enter Tryz.func33, Tryz.ntmps33
 go_wp2_with fail
 refine K.out.mono ?_
 rintro e w1 ⟨rfl, rfl⟩
 go_wp2_with fail
 refine S.out.mono ?_
 rintro e w1 ⟨v, ss, rfl, hp, hrow, hnil, hb⟩
 have hpos : ∀ z ∈ ss.mergeSort (fun x y => decide (x ≤ y)), 0 ≤ z := fun z hz => by
  have h1 := (H.out.2.2.1 z).1 (hp.mem_iff.1 ((List.mergeSort_perm ss _).mem_iff.1 hz))
  rw [H.out.2.2.2 z] at h1
  split at h1
  ·assumption
  ·exact absurd rfl h1
 have hsorted : (ss.mergeSort (fun x y => decide (x ≤ y))).Pairwise (fun x y => x ≤ y) := by
  have := List.pairwise_mergeSort (le := fun (x y : Int) => decide (x ≤ y)) (fun a b c h1 h2 => by simp at h1 h2 ⊢; omega) (fun a b => by simp; omega) ss
  exact this.imp (fun h => by simpa using h)
 have hnd : (ss.mergeSort (fun x y => decide (x ≤ y))).Nodup := ((List.mergeSort_perm ss _).nodup_iff).2 (hp.nodup_iff.2 H.out.2.1)
 have hlen : ss.length ≤ Kn := by rw [hp.length_eq]; have := H.out.1; unfold intKeys; revert this; cases D <;> simp [Maps.size]
 obtain ⟨T, hT⟩ : ∃ T, ss.mergeSort (fun x y => decide (x ≤ y)) = T := ⟨_, rfl⟩
 have hTl : T.length = ss.length := by rw [← hT, List.length_mergeSort]
 have hmT : ∀ z, z ∈ T ↔ f (.int .i64 z) ≠ none := fun z => by rw [← hT, (List.mergeSort_perm ss _).mem_iff, hp.mem_iff]; exact H.out.2.2.1 z
 rw [hT] at hpos hsorted hnd hrow
 have Z : (T.map Int.toNat).Pairwise (fun x y => x < y) ∧ (∀ k, k ∈ T.map Int.toNat ↔ pr k ≠ none) ∧ (T.map Int.toNat).length ≤ Kn ∧ OwnsR w1 w.heap.size 3 1 (oneL encN) v (T.map Int.toNat) ∧ Old w w1 := by
  refine ⟨?_, fun k => ?_, by simp; omega, ?_, ?_⟩
  ·rw [List.pairwise_map]
   have h1 := hsorted.and (show T.Pairwise (fun x y => x ≠ y) from hnd)
   refine h1.imp_of_mem (fun {x y} hx hy h => ?_)
   have := hpos x hx
   have := hpos y hy
   have := h.1
   have := h.2
   omega
  ·rw [List.mem_map]
   constructor
   ·rintro ⟨z, hz, rfl⟩
    have h1 := (hmT z).1 hz
    rw [H.out.2.2.2 z, if_pos (hpos z hz)] at h1
    exact h1
   ·intro hk
    refine ⟨(k : Int), (hmT _).2 ?_, by simp⟩
    rw [H.out.2.2.2, if_pos (by omega)]
    simpa using hk
  ·have e : (T.map Int.toNat).flatMap (oneL encN) = T.map encZ := by
    rw [oneL_flat, List.map_map]
    refine List.map_congr_left (fun z hz => ?_)
    have := hpos z hz
    show Value.int .i64 ((z.toNat : Nat) : Int) = Value.int .i64 z
    rw [Int.toNat_of_nonneg this]
   unfold OwnsR
   rw [e, List.length_map, hTl]
   exact ownsRow_mono hrow (by simp)
  ·exact ((Keeps.refl _ _).alloc _).trans (Old.of_below hb (Nat.le_refl _))
 have HZ := Lib.hid Z
 clear hp hrow hnil hb hpos hsorted hnd hlen hT hTl hmT Z
 obtain ⟨p, n, c, e9⟩ : ∃ p n c, v = .slice p n c := by
  obtain ⟨p, c, e, _⟩ := (OwnsR.sees (enc := oneL encN) HZ.out.2.2.2.1 (fun _ => rfl) (by decide)).len
  exact ⟨_, _, _, e⟩
 subst e9
 go_wp2_with fail
 go_ret
 exact ⟨_, _, rfl, HZ.out⟩
theorem match2_any (w0 W : World) (xb pb qb Kn Kc hb mb tb : Nat) (pr : Nat → Option Value) (G : ByteArray → Value × List Pt) (cnt : Nat → Nat) (k n : Nat) (p : Option Addr) (c : Nat) (h : MxS w0 xb pb qb Kn Kc pr G W) (hm : HeldS W mb cnt) (hh : W.heap[hb]? = some (.cells #[.map (some mb)] 87 (0, 0))) (ht : W.heap[tb]? = some (.cells #[.pointer (some ⟨xb, 0, none⟩)] 26 (0, 0))) (hp : (pr k).getD (.slice none 0 0) = .slice p n c) :
  Calls Tryz.prog 34 #[encN k, .pointer (some ⟨hb, 0, none⟩), .pointer (some ⟨tb, 0, none⟩)] W fun e W' => e = .returned (.bool (decide (cnt k < n))) ∧ W' = W.drew := by
 have H := Lib.hid (And.intro h (And.intro hm (And.intro hh ht)))
 have c1 : ∀ V, Old W V → V.cell? ⟨hb, 0, none⟩ = some (.map (some mb)) := fun V hV => by simp [World.cell?, (hV.block _ (lt_of_heap hh) (fun f => f)).trans hh]
 have c2 : ∀ V, Old W V → V.cell? ⟨tb, 0, none⟩ = some (.pointer (some ⟨xb, 0, none⟩)) := fun V hV => by simp [World.cell?, (hV.block _ (lt_of_heap ht) (fun f => f)).trans ht]
 have C := Lib.hid (And.intro c1 c2)
 have HP := Lib.hid hp
 clear h hm hh ht c1 c2 hp
 unfold encN
 go_enter Tryz.func34, Tryz.ntmps34
 go_wp2_with fail
 have rd : Old W W.drew := (Keeps.refl _ _).drew
 refine wp_region_g (S := fun V => Old W V) (M := List.range 12) (by kernel_rfl) ?_
 refine tkG (i := 0) (v := ?vf0) ?yf0 rd ?rf0
 case yf0 => (intro W hSw; have q1 := C.out.1 _ hSw; go_simp; try with_reducible rfl)
 try simp only [Act.put, List.setIfInBounds_toArray, List.set_cons_zero, List.set_cons_succ]
 refine tkG (i := 1) (v := ?vf1) ?yf1 rd ?rf1
 case yf1 => (intro W hSw; go_simp; try with_reducible rfl)
 try simp only [Act.put, List.setIfInBounds_toArray, List.set_cons_zero, List.set_cons_succ]
 refine tkG (i := 2) (v := ?vf2) ?yf2 rd ?rf2
 case yf2 => (intro W hSw; have q1 := (H.out.2.1.old hSw).look k; go_simp; try with_reducible rfl)
 try simp only [Act.put, List.setIfInBounds_toArray, List.set_cons_zero, List.set_cons_succ]
 refine tkG (i := 3) (v := ?vf3) ?yf3 rd ?rf3
 case yf3 => (intro W hSw; have q1 := C.out.2 _ hSw; go_simp; try with_reducible rfl)
 try simp only [Act.put, List.setIfInBounds_toArray, List.set_cons_zero, List.set_cons_succ]
 refine tkG (i := 4) (v := ?vf4) ?yf4 rd ?rf4
 case yf4 => (intro W hSw; go_simp; try with_reducible rfl)
 try simp only [Act.put, List.setIfInBounds_toArray, List.set_cons_zero, List.set_cons_succ]
 refine tkG (i := 5) (v := ?vf5) ?yf5 rd ?rf5
 case yf5 => (intro W hSw; go_simp; try with_reducible rfl)
 try simp only [Act.put, List.setIfInBounds_toArray, List.set_cons_zero, List.set_cons_succ]
 refine tkG (i := 6) (v := ?vf6) ?yf6 rd ?rf6
 case yf6 => (intro W hSw; have q1 := cell_at0 (H.out.1.to hSw).x; go_simp; try with_reducible rfl)
 try simp only [Act.put, List.setIfInBounds_toArray, List.set_cons_zero, List.set_cons_succ]
 refine tkG (i := 7) (v := ?vf7) ?yf7 rd ?rf7
 case yf7 => (intro W hSw; go_simp; try with_reducible rfl)
 try simp only [Act.put, List.setIfInBounds_toArray, List.set_cons_zero, List.set_cons_succ]
 refine tkG (i := 8) (v := ?vf8) ?yf8 rd ?rf8
 case yf8 => (intro W hSw; have q1 := (H.out.1.to hSw).lookP k; rw [HP.out] at q1; go_simp; try with_reducible rfl)
 try simp only [Act.put, List.setIfInBounds_toArray, List.set_cons_zero, List.set_cons_succ]
 refine tkG (i := 9) (v := ?vf9) ?yf9 rd ?rf9
 case yf9 => (intro W hSw; go_simp; try with_reducible rfl)
 try simp only [Act.put, List.setIfInBounds_toArray, List.set_cons_zero, List.set_cons_succ]
 refine tkG (i := 10) (v := ?vf10) ?yf10 rd ?rf10
 case yf10 => (intro W hSw; go_simp; try with_reducible rfl)
 try simp only [Act.put, List.setIfInBounds_toArray, List.set_cons_zero, List.set_cons_succ]
 refine tkG (i := 11) (v := ?vf11) ?yf11 rd ?rf11
 case yf11 => (intro W hSw; go_simp; try with_reducible rfl)
 try simp only [Act.put, List.setIfInBounds_toArray, List.set_cons_zero, List.set_cons_succ]
 refine wpAnyG_done (by kernel_rfl) ?_ _
 go_simp
 go_wp2_with fail
 go_ret
 exact ⟨rfl, rfl⟩
end
end Go.Proofs.YtehmlaplodjenaaGreat
