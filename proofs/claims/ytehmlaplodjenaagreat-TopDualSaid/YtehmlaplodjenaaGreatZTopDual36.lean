/- DERIVED. match: Add. · DERIVED. match: what an event's attributes are asked; the counts. -/
import Derived.Test.YtehmlaplodjenaaGreatZTopDual35
import Derived.Test.YtehmlaplodjenaaGreatZTopDual20
import Derived.Deep.DeepCutAuto
import Derived.Deep.CutRange
import Derived.IntWalk
import Derived.BigQuiet
set_option maxRecDepth 100000
set_option maxHeartbeats 8000000
namespace Go.Proofs.YtehmlaplodjenaaGreat
section
open Go.RowKit
section
variable {w0 W V : World} {xb pb qb Kn K : Nat} {pr : Nat → Option Value} {G : ByteArray → Value × List Pt}
theorem MxS.lookK (h : MxS w0 xb pb qb Kn K pr G W) (s : ByteArray) (hk : Keeps (fun k => (G s).1.ownBlock = some k) W V) : (Instr.lookup 54 (.map (some qb)) (.string s) false).run Tryz.prog V = .ok (G s).1 V := by
 obtain ⟨n2, f2, m2, e2⟩ := h.q
 obtain ⟨es2, c2, he2⟩ := m2.heap
 have := (m2.keeps hk (fun e => own_map (h.rows s) he2 _ e rfl)).get (P := Tryz.prog) (k := .string s) (z := .slice none 0 0) Tryz.underlying54 Tryz.underlying9 trivial (by simp [go_sem])
 rwa [e2 s] at this
theorem MxS.xK (h : MxS w0 xb pb qb Kn K pr G W) (s : ByteArray) (hk : Keeps (fun k => (G s).1.ownBlock = some k) W V) : V.heap[xb]? = some (.cells #[.map (some pb), .map (some qb)] 56 (0, 0)) :=
 (hk.block _ (lt_of_heap h.x) ((h.rows s).neE h.x (by decide))).trans h.x
theorem MxS.blkK (h : MxS w0 xb pb qb Kn K pr G W) (s : ByteArray) (hk : Keeps (fun k => (G s).1.ownBlock = some k) W V) {b : Nat} {cs : Array Value} {fr : Nat × Nat} (hb : W.heap[b]? = some (.cells cs 78 fr)) : V.heap[b]? = some (.cells cs 78 fr) :=
 (hk.block _ (lt_of_heap hb) ((h.rows s).neE hb (by decide))).trans hb
end
def AddM (w0 : World) (xb pb qb Kn K : Nat) (pr : Nat → Option Value) (G : ByteArray → Value × List Pt) (n : Nat) (P : List Con) (W : World) (e : Ending) (W' : World) : Prop :=
 (predOk P = false ∧ e = .returned (.int .i64 30) ∧ Old W W') ∨
 (predOk P = true ∧ e = .returned (.int .i64 0) ∧ ∃ (N : List Con) (p : Option Addr) (c : Nat) (G' : ByteArray → Value × List Pt), NormL P N ∧ MxS w0 xb pb qb (Kn + 1) (K + N.length) (fun k => if k = n then some (.slice p N.length c) else pr k) G' W' ∧
  (∀ s, (G' s).2 = (G s).2 ++ (N.filter (fun y => y.name.toList == s.toList)).map (fun y => ⟨n, y⟩)) ∧ Frm pb qb 81 W W')
theorem madd_any (w0 Wa : World) (xb pb qb Kn Kc : Nat) (pr : Nat → Option Value) (G : ByteArray → Value × List Pt) (n : Nat) (v : Value) (P : List Con) (h : MxS w0 xb pb qb Kn Kc pr G Wa) (hn : n ≤ 1000) (hKn : Kn ≤ 200) (hpr : pr n = none) (hc : Cons w0 v P) (hKc : Kc ≤ 100000) :
  Calls Tryz.prog 8 #[.pointer (some ⟨xb, 0, none⟩), .int .i64 (n : Int), v] Wa (AddM w0 xb pb qb Kn Kc pr G n P Wa) := by
 have NN := Lib.hid (normal_any v P Wa (hc.old h.old))
 have x0 : Wa.cell? ⟨xb, 0, none⟩ = some (.map (some pb)) := cell_at0 h.x
 have em := eql_map53 pb
 have H := Lib.hid h
 have hn0 : ¬ (n : Int) < 0 := by omega
 clear h hc
 go_enter Tryz.func8, Tryz.ntmps8
 go_wp2_with fail
 refine NN.out.mono ?_
 rintro e W1 (⟨hok, rfl, k1⟩ | ⟨hok, p, nn, c, N, rfl, ho, hN, hsb, k1⟩)
 ·have h1 := H.out.to k1
  have lk := h1.lookP2 n
  rw [hpr] at lk
  simp only [Option.getD_none, Option.isSome_none] at lk
  have x1 : W1.cell? ⟨xb, 0, none⟩ = some (.map (some pb)) := cell_at0 h1.x
  have K1 := Lib.hid (And.intro hok k1)
  clear x0 hok k1 h1
  go_wp2_with fail
  go_ret
  exact .inl ⟨K1.out.1, rfl, K1.out.2⟩
 ·obtain rfl := ho.len_of
  have h1 := H.out.to k1
  have lk := h1.lookP2 n
  rw [hpr] at lk
  simp only [Option.getD_none, Option.isSome_none] at lk
  have x1 : W1.cell? ⟨xb, 0, none⟩ = some (.map (some pb)) := cell_at0 h1.x
  obtain ⟨f1, m1, e1⟩ := h1.p
  obtain ⟨es, clk, hm, _, _, hsz, _⟩ := m1
  have hlen : ∀ ty, (Builtin.len_ #[53] ty #[.map (some pb)]).run Tryz.prog W1 = .ok (.int .i64 (es.size : Int)) W1 := fun ty => by
   simp [Builtin.len_, run_underlying Tryz.underlying53, MapKept.run_getObj_map hm, Result.andThen, goInt]
  have hg : ¬ ((es.size : Int) ≥ 256) := by omega
  obtain ⟨W2, hrun, h2, k2⟩ := h1.putPred n (.slice p N.length c)
  have ho2 : OwnsR W2 Wa.heap.size 78 7 Con.cells (.slice p N.length c) N := ho.keeps k2 (fun b hb e => own_map ho hm b hb e)
  have hsb2 : SetsB W2 Wa.heap.size N := fun y hy => (hsb y hy).keeps k2 (fun b hb e => own_map (hsb y hy) hm b hb e)
  have km : Frm pb qb 81 Wa W2 := (k1.weaken (fun _ _ f => f.elim)).then k2 (fun i hi e => .inl e)
  have Z := Lib.hid (And.intro h2 (And.intro ho2 (And.intro hsb2 (And.intro hok (And.intro hN (And.intro H.out.old.size km))))))
  clear km
  clear h1 e1 hsz h2 k2 ho ho2 hsb hsb2 hok hN k1 x0
  go_wp2_with fail
  clear hrun x1 lk hm hlen
  have hn6 : N.length ≤ 6 := by have := Z.out.2.2.2.2.1.len; have h2 := Z.out.2.2.2.1; unfold predOk at h2; simp at h2; omega
  obtain ⟨pr', hpr'⟩ : ∃ pr' : Nat → Option Value, (fun k => if k = n then some (Value.slice p N.length c) else pr k) = pr' := ⟨_, rfl⟩
  have HP := Lib.hid hpr'
  clear hpr'
  go_loopw [60] (fun v60 wr => ∃ (i : Nat) (G' : ByteArray → Value × List Pt), i ≤ N.length ∧ v60 = .int .i64 i ∧ MxS w0 xb pb qb (Kn + 1) (Kc + i) pr' G' wr ∧ OwnsR wr Wa.heap.size 78 7 Con.cells (.slice p N.length c) N ∧ SetsB wr Wa.heap.size N ∧
   (∀ s, (G' s).2 = (G s).2 ++ ((N.take i).filter (fun y => y.name.toList == s.toList)).map (fun y => ⟨n, y⟩)) ∧ Frm pb qb 81 Wa wr) (fun v60 _ => N.length - (intOf v60).toNat)
  case atStart => exact ⟨0, G, Nat.zero_le _, rfl, by rw [← HP.out]; exact Z.out.1, Z.out.2.1, Z.out.2.2.1, (fun s => by simp), Z.out.2.2.2.2.2.2⟩
  case round =>
   obtain ⟨wq, hwq⟩ : ∃ wq : World, wq = wr := ⟨_, rfl⟩
   subst hwq
   obtain ⟨i, Gi, hi, rfl, hix, hor, hsr, hlaw, hkm⟩ := hrel
   by_cases hlt : i < N.length
   ·obtain ⟨b, o, cp, he, _, _, hcell⟩ := (hor.sees len_con (by decide)).at (by omega)
    simp only [Value.slice.injEq, true_and] at he
    obtain ⟨rfl, rfl⟩ := he
    obtain ⟨x, hx⟩ : ∃ x, N[i]? = some x := ⟨_, List.getElem?_eq_getElem hlt⟩
    have cell : ∀ k u, (Con.cells x)[k]? = some u → wq.cell? ⟨b, o + i * 7 + k, none⟩ = some u := fun k u hu => hcell i x hx k u hu
    have c0 := cell 0 _ rfl
    have c1 := cell 1 _ rfl
    have c2 := cell 2 _ rfl
    have c3 := cell 3 _ rfl
    have c4 := cell 4 _ rfl
    have c5 := cell 5 _ rfl
    have c6 := cell 6 _ rfl
    simp only [Nat.add_zero] at c0
    have hos := hsr x (List.mem_of_getElem? hx)
    obtain ⟨nm, op, ⟨ck, cn, cs, cb⟩, sv, set⟩ := x
    obtain ⟨ps, cs3, e9, _, _⟩ := (hos.sees len_valL (by decide)).len
    simp only at e9 c0 c1 c2 c3 c4 c5 c6 hos
    subst e9
    obtain ⟨W7, hW7⟩ : ∃ W7, wq.alloc (.cells #[.string nm, .int .i64 op, .int .i64 ck, .int .i64 cn, .string cs, .bool cb, .slice ps set.length cs3] 78) = W7 := ⟨_, rfl⟩
    have o7 : Old wq W7 := by rw [← hW7]; exact (Keeps.refl _ _).alloc _
    have b7 : W7.heap[wq.heap.size]? = some (.cells #[.string nm, .int .i64 op, .int .i64 ck, .int .i64 cn, .string cs, .bool cb, .slice ps set.length cs3] 78 (0, 0)) := by rw [← hW7]; exact heap_alloc_new _ _
    have i7 := hix.to o7
    obtain ⟨rv, hrv⟩ : ∃ rv, (Gi nm).1 = rv := ⟨_, rfl⟩
    have hr7 := i7.rows nm
    rw [hrv] at hr7
    obtain ⟨pr0, cr0, er, _, _⟩ := (hr7.sees Pt.len (by decide)).len
    have HRV := Lib.hid hrv
    have Q := Lib.hid (And.intro i7 (And.intro b7 (And.intro (hor.old o7) (And.intro (hsr.old o7) (And.intro hlaw (And.intro hx (And.intro (hos.old o7) (And.intro hr7 (hkm.trans (o7.weaken (fun _ _ f => f.elim)))))))))))
    clear cell hcell hos hix hor hsr hlaw hx o7 b7 i7 hr7 hrv hkm
    subst er
    go_upto_region 17 with fail
    clear c0 c1 c2 c3 c4 c5 c6 hW7
    have rd : Keeps (fun k => (Gi nm).1.ownBlock = some k) W7 W7.drew := (Keeps.refl _ _).drew
    refine wp_region_g (S := fun V => Keeps (fun k => (Gi nm).1.ownBlock = some k) W7 V) (M := List.range 18) (by kernel_rfl) ?_
    refine tkG (i := 0) (v := ?vf0) ?yf0 rd ?rf0
    case yf0 => (intro W hSw; go_simp; try with_reducible rfl)
    try simp only [Act.put, List.setIfInBounds_toArray, List.set_cons_zero, List.set_cons_succ]
    refine tkG (i := 1) (v := ?vf1) ?yf1 rd ?rf1
    case yf1 => (intro W hSw; go_simp; try with_reducible rfl)
    try simp only [Act.put, List.setIfInBounds_toArray, List.set_cons_zero, List.set_cons_succ]
    refine tkG (i := 2) (v := ?vf2) ?yf2 rd ?rf2
    case yf2 => (intro W hSw; go_simp; try with_reducible rfl)
    try simp only [Act.put, List.setIfInBounds_toArray, List.set_cons_zero, List.set_cons_succ]
    refine tkG (i := 3) (v := ?vf3) ?yf3 rd ?rf3
    case yf3 => (intro W hSw; have q1 := cell_at1 (Q.out.1.xK nm hSw); go_simp; try with_reducible rfl)
    try simp only [Act.put, List.setIfInBounds_toArray, List.set_cons_zero, List.set_cons_succ]
    refine tkG (i := 4) (v := ?vf4) ?yf4 rd ?rf4
    case yf4 => (intro W hSw; go_simp; try with_reducible rfl)
    try simp only [Act.put, List.setIfInBounds_toArray, List.set_cons_zero, List.set_cons_succ]
    refine tkG (i := 5) (v := ?vf5) ?yf5 rd ?rf5
    case yf5 => (intro W hSw; have q1 := blk7 (Q.out.1.blkK nm hSw Q.out.2.1); go_simp; try with_reducible rfl)
    try simp only [Act.put, List.setIfInBounds_toArray, List.set_cons_zero, List.set_cons_succ]
    refine tkG (i := 6) (v := ?vf6) ?yf6 rd ?rf6
    case yf6 => (intro W hSw; go_simp; try with_reducible rfl)
    try simp only [Act.put, List.setIfInBounds_toArray, List.set_cons_zero, List.set_cons_succ]
    refine tkG (i := 7) (v := ?vf7) ?yf7 rd ?rf7
    case yf7 => (intro W hSw; go_simp; try with_reducible rfl)
    try simp only [Act.put, List.setIfInBounds_toArray, List.set_cons_zero, List.set_cons_succ]
    refine tkG (i := 8) (v := ?vf8) ?yf8 rd ?rf8
    case yf8 => (intro W hSw; go_simp; try with_reducible rfl)
    try simp only [Act.put, List.setIfInBounds_toArray, List.set_cons_zero, List.set_cons_succ]
    refine tkG (i := 9) (v := ?vf9) ?yf9 rd ?rf9
    case yf9 => (intro W hSw; have q1 := cell_at1 (Q.out.1.xK nm hSw); go_simp; try with_reducible rfl)
    try simp only [Act.put, List.setIfInBounds_toArray, List.set_cons_zero, List.set_cons_succ]
    refine tkG (i := 10) (v := ?vf10) ?yf10 rd ?rf10
    case yf10 => (intro W hSw; go_simp; try with_reducible rfl)
    try simp only [Act.put, List.setIfInBounds_toArray, List.set_cons_zero, List.set_cons_succ]
    refine tkG (i := 11) (v := ?vf11) ?yf11 rd ?rf11
    case yf11 => (intro W hSw; have q1 := blk7 (Q.out.1.blkK nm hSw Q.out.2.1); go_simp; try with_reducible rfl)
    try simp only [Act.put, List.setIfInBounds_toArray, List.set_cons_zero, List.set_cons_succ]
    refine tkG (i := 12) (v := ?vf12) ?yf12 rd ?rf12
    case yf12 => (intro W hSw; have q1 := Q.out.1.lookK nm hSw; rw [HRV.out] at q1; go_simp; try with_reducible rfl)
    try simp only [Act.put, List.setIfInBounds_toArray, List.set_cons_zero, List.set_cons_succ]
    refine tkG (i := 13) (v := ?vf13) ?yf13 rd ?rf13
    case yf13 => (intro W hSw; go_simp; try with_reducible rfl)
    try simp only [Act.put, List.setIfInBounds_toArray, List.set_cons_zero, List.set_cons_succ]
    refine tkG (i := 14) (v := ?vf14) ?yf14 rd ?rf14
    case yf14 => (intro W hSw; have q1 := blk7 (Q.out.1.blkK nm hSw Q.out.2.1); go_simp; try with_reducible rfl)
    try simp only [Act.put, List.setIfInBounds_toArray, List.set_cons_zero, List.set_cons_succ]
    refine tkG (i := 15) (v := ?vf15) ?yf15 rd ?rf15
    case yf15 => (intro W hSw; go_simp; try with_reducible rfl)
    try simp only [Act.put, List.setIfInBounds_toArray, List.set_cons_zero, List.set_cons_succ]
    refine wpAnyG_onlyL (i := 16) (o := _) (by kernel_rfl) rfl (fun K hK => ?_)
    go_simp
    obtain ⟨W8, hW8⟩ : ∃ W8, (W7.alloc (.cells #[.int .i64 (n : Int), .string nm, .int .i64 op, .int .i64 ck, .int .i64 cn, .string cs, .bool cb, .slice ps set.length cs3] 81)).drew = W8 := ⟨_, rfl⟩
    have o8 : Old W7 W8 := by rw [← hW8]; exact ((Keeps.refl _ _).alloc _).drew
    have s8 : SeesR W8 8 Pt.cells (.slice (some ⟨W7.heap.size, 0, none⟩) 1 1) [⟨n, ⟨nm, op, ⟨ck, cn, cs, cb⟩, .slice ps set.length cs3, set⟩⟩] := by
     rw [← hW8]
     exact SeesR.drew (SeesR.new (k := 8) (enc := Pt.cells) W7 81 (0, 0) [⟨n, ⟨nm, op, ⟨ck, cn, cs, cb⟩, .slice ps set.length cs3, set⟩⟩] #[.int .i64 (n : Int), .string nm, .int .i64 op, .int .i64 ck, .int .i64 cn, .string cs, .bool cb, .slice ps set.length cs3] (by simp [Pt.cells, Con.cells]) (fun _ => rfl) (by unfold maxLen; simp))
    have SN := Lib.hid s8
    rw [hW8]
    clear hW8 s8
    have i8 := Q.out.1.to o8
    have rd8 : Keeps (fun k => (Gi nm).1.ownBlock = some k) W7 W8 := o8.weaken (fun _ _ f => f.elim)
    have hlL := Q.out.1.len nm
    have HN := Lib.hid (show (Gi nm).2.length + 1 ≤ maxLen ∧ ((Gi nm).2.length + 1) * 96 ≤ 140737488355328 ∧ w0.heap.size ≤ W8.heap.size from ⟨by unfold maxLen; omega, by omega, i8.old.size⟩)
    have O8 := Lib.hid (And.intro (Q.out.2.2.2.2.2.2.2.1.old o8) o8)
    clear i8 hlL o8
    refine hK.out _ _ (fun _ => rd8) ?_
    clear hK K
    try simp only [Act.put, List.setIfInBounds_toArray, List.set_cons_zero, List.set_cons_succ]
    refine wpAnyG_onlyL (i := 17) (o := _) (by kernel_rfl) rfl (fun K hK => ?_)
    refine step_append_rows (P := Tryz.prog) rfl _ _ 79 rfl w0.heap.size 81 8 96 Pt.cells _ Tryz.underlying79 Tryz.infoPt rfl (by decide) (.slice pr0 (Gi nm).2.length cr0) (Gi nm).2 (by rfl) O8.out.1 _ [⟨n, ⟨nm, op, ⟨ck, cn, cs, cb⟩, .slice ps set.length cs3, set⟩⟩] (by rfl) SN.out (fun _ _ => rfl) (by simp [Pt.cells, Con.cells, Value.oneCell']) HN.out.1 HN.out.2.1 HN.out.2.2 ?_
    intro v' w9 ho9 hg9 hb9
    have k9 : Keeps (fun k => (Gi nm).1.ownBlock = some k) W7 w9 := (O8.out.2.weaken (fun _ _ f => f.elim)).grown hg9 (fun k e hlt => by rw [HRV.out]; exact e)
    have hset : ∀ y ∈ (Gi nm).2 ++ [(⟨n, ⟨nm, op, ⟨ck, cn, cs, cb⟩, .slice ps set.length cs3, set⟩⟩ : Pt)], OwnsV w9 w0.heap.size y.c.sv y.c.set := by
     intro y hy
     have hy7 : OwnsV W7 w0.heap.size y.c.sv y.c.set := by
      rcases List.mem_append.1 hy with hy | hy
      ·exact Q.out.1.sets nm y hy
      ·rw [List.mem_singleton] at hy
       subst hy
       exact Q.out.2.2.2.2.2.2.1.mono Z.out.2.2.2.2.2.1
     exact hy7.keeps k9 (fun b hb e => own_types (Q.out.1.rows nm) hy7 (by decide) e hb)
    obtain ⟨wd, hrun, iD, kD⟩ := Q.out.1.putRow nm v' _ k9 ho9 (by have := Q.out.1.len nm; simp; omega) (by
     rw [HRV.out]
     rcases hb9 with h | h
     ·exact .inl h
     ·exact .inr ⟨_, h, O8.out.2.size⟩) hset
    obtain ⟨es9, ck9, hm9⟩ : ∃ es ck, w9.heap[qb]? = some (.map es ck) := by
     obtain ⟨_, _, m2, _⟩ := Q.out.1.q
     obtain ⟨es, ck, hm⟩ := m2.heap
     exact ⟨es, ck, (k9.block _ (lt_of_heap hm) (fun e => own_map (Q.out.1.rows nm) hm _ e rfl)).trans hm⟩
    have hor9 : OwnsR w9 Wa.heap.size 78 7 Con.cells (.slice (some ⟨b, o, none⟩) N.length c) N := Q.out.2.2.1.keeps k9 (fun b hb e => own_types (Q.out.1.rows nm) Q.out.2.2.1 (by decide) e hb)
    have horD := hor9.keeps kD (fun b hb e => own_map hor9 hm9 b hb e)
    have hsrD : SetsB wd Wa.heap.size N := fun y hy => by
     have h9 := (Q.out.2.2.2.1 y hy).keeps k9 (fun b hb e => own_types (Q.out.1.rows nm) (Q.out.2.2.2.1 y hy) (by decide) e hb)
     exact h9.keeps kD (fun b hb e => own_map h9 hm9 b hb e)
    have hkmD : Frm pb qb 81 Wa wd := (Q.out.2.2.2.2.2.2.2.2.then k9 (fun i hi e => Frm.own Q.out.2.2.2.2.2.2.2.2 (Q.out.1.rows nm) hi e)).then kD (fun i hi e => .inr (.inl e))
    have Y := Lib.hid (And.intro iD (And.intro horD (And.intro hsrD hkmD)))
    clear hkmD
    clear ho9 hg9 hb9 hset iD kD hm9 hor9 horD hsrD
    refine hK.out _ _ (fun _ => k9) ?_
    clear hK K
    try simp only [Act.put, List.setIfInBounds_toArray, List.set_cons_zero, List.set_cons_succ]
    refine wpAnyG_onlyL (i := 18) (o := _) (by kernel_rfl) rfl (fun K hK => ?_)
    go_simp
    refine hK.out _ _ (fun h => absurd h (by decide)) ?_
    clear hK K
    try simp only [Act.put, List.setIfInBounds_toArray, List.set_cons_zero, List.set_cons_succ]
    clear hrun k9
    refine wpAnyG_done (by kernel_rfl) ?_ _
    go_simp
    go_wp2_with fail
    go_roundw
    case rel =>
     refine ⟨i + 1, _, by omega, by go_num, Y.out.1, Y.out.2.1, Y.out.2.2.1, fun s => ?_, Y.out.2.2.2⟩
     have ht : N.take (i + 1) = N.take i ++ [⟨nm, op, ⟨ck, cn, cs, cb⟩, .slice ps set.length cs3, set⟩] := by rw [List.take_add_one, Q.out.2.2.2.2.2.1]; rfl
     rw [ht, List.filter_append, List.map_append, ← List.append_assoc, ← Q.out.2.2.2.2.1 s]
     unfold updP
     by_cases hs : s.toList = nm.toList
     ·rw [if_pos hs, toList_inj hs]
      simp
     ·rw [if_neg hs]
      have : (nm.toList == s.toList) = false := by rw [beq_eq_false_iff_ne]; exact fun e => hs e.symm
      simp [this]
    case measure => simp [intOf]; omega
   ·have hil : i = N.length := by omega
    subst hil
    have E := Lib.hid (And.intro hix (And.intro hlaw hkm))
    have hnl : ¬ N.length < N.length := hlt
    clear hix hor hsr hlaw hkm
    go_wp2_with fail
    go_ret
    refine .inr ⟨Z.out.2.2.2.1, rfl, N, p, c, Gi, Z.out.2.2.2.2.1, ?_, fun s => ?_, E.out.2.2⟩
    ·rw [HP.out]; exact E.out.1
    ·have := E.out.2.1 s
     rwa [List.take_of_length_le (Nat.le_refl _)] at this
end
section
open Go.RowKit
def HeldS (W : World) (mb : Nat) (cnt : Nat → Nat) : Prop := ∃ n f, MapF (.int .i64) W mb n f ∧ ∀ k : Nat, (f (.int .i64 (k : Int))).getD (.int .i64 0) = .int .i64 (cnt k : Int)
theorem HeldS.old {W W' : World} {mb : Nat} {cnt : Nat → Nat} (h : HeldS W mb cnt) (k : Old W W') : HeldS W' mb cnt := by
 obtain ⟨n, f, m, e⟩ := h
 exact ⟨n, f, m.old k, e⟩
theorem HeldS.keeps {W W' : World} {mb : Nat} {cnt : Nat → Nat} {S : Nat → Prop} (h : HeldS W mb cnt) (k : Keeps S W W') (hS : ¬ S mb) : HeldS W' mb cnt := by
 obtain ⟨n, f, m, e⟩ := h
 exact ⟨n, f, m.keeps k hS, e⟩
theorem HeldS.look {W : World} {mb : Nat} {cnt : Nat → Nat} (h : HeldS W mb cnt) (k : Nat) : (Instr.lookup 87 (.map (some mb)) (.int .i64 (k : Int)) false).run Tryz.prog W = .ok (.int .i64 (cnt k : Int)) W := by
 obtain ⟨n, f, m, e⟩ := h
 have := m.get (P := Tryz.prog) (k := .int .i64 (k : Int)) (z := .int .i64 0) Tryz.underlying87 Tryz.underlying3 rfl (by simp [go_sem])
 rwa [e k] at this
theorem HeldS.put {W : World} {mb : Nat} {cnt : Nat → Nat} (h : HeldS W mb cnt) (id c : Nat) :
  ∃ W', (Instr.mapUpdate 87 (.map (some mb)) (.int .i64 (id : Int)) (.int .i64 (c : Int))).run Tryz.prog W = .ok () W' ∧ Keeps (fun i => i = mb) W W' ∧ HeldS W' mb (fun k => if k = id then c else cnt k) := by
 obtain ⟨n, f, m, e⟩ := h
 obtain ⟨W', hrun, hk, _, hput⟩ := m.put (P := Tryz.prog) (k := .int .i64 (id : Int)) Tryz.underlying87 Tryz.underlying3 rfl (.int .i64 (c : Int))
 classical
 refine ⟨W', hrun, hk, n + 1, fun u => if u = .int .i64 (id : Int) then some (.int .i64 (c : Int)) else f u, hput _ ⟨by simp, fun k' _ hne => by simp [hne]⟩, fun k => ?_⟩
 by_cases hk' : k = id
 ·subst hk'
  simp
 ·have h1 : ¬ (Value.int .i64 (k : Int) = Value.int .i64 (id : Int)) := by
   intro e
   simp only [Value.int.injEq, true_and] at e
   omega
  simp only [if_neg h1, if_neg hk']
  exact e k
def SeenS (W : World) (sb : Nat) (l : List At) : Prop := ∃ n f, MapF .string W sb n f ∧ ∀ s : ByteArray, (f (.string s)).getD (.int .i64 0) = .int .i64 (if l.any (fun a => a.name.toList == s.toList) then 1 else 0)
theorem SeenS.keeps {W W' : World} {sb : Nat} {l : List At} {S : Nat → Prop} (h : SeenS W sb l) (k : Keeps S W W') (hS : ¬ S sb) : SeenS W' sb l := by
 obtain ⟨n, f, m, e⟩ := h
 exact ⟨n, f, m.keeps k hS, e⟩
theorem SeenS.look {W : World} {sb : Nat} {l : List At} (h : SeenS W sb l) (s : ByteArray) : (Instr.lookup 137 (.map (some sb)) (.string s) false).run Tryz.prog W = .ok (.int .i64 (if l.any (fun a => a.name.toList == s.toList) then 1 else 0)) W := by
 obtain ⟨n, f, m, e⟩ := h
 have := m.get (P := Tryz.prog) (k := .string s) (z := .int .i64 0) Tryz.underlying137 Tryz.underlying9 trivial (by simp [go_sem])
 rwa [e s] at this
theorem SeenS.put {W : World} {sb : Nat} {l : List At} (h : SeenS W sb l) (a : At) :
  ∃ W', (Instr.mapUpdate 137 (.map (some sb)) (.string a.name) (.int .i64 1)).run Tryz.prog W = .ok () W' ∧ Keeps (fun i => i = sb) W W' ∧ SeenS W' sb (l ++ [a]) := by
 obtain ⟨n, f, m, e⟩ := h
 obtain ⟨W', hrun, hk, _, hput⟩ := m.put (P := Tryz.prog) (k := .string a.name) Tryz.underlying137 Tryz.underlying9 trivial (.int .i64 1)
 classical
 refine ⟨W', hrun, hk, n + 1, fun u => if u = .string a.name then some (.int .i64 1) else f u, hput _ ⟨by simp, fun k' _ hne => by simp [hne]⟩, fun s => ?_⟩
 rw [List.any_append]
 by_cases hs : s = a.name
 ·subst hs
  simp
 ·have h1 : ¬ (Value.string s = Value.string a.name) := by
   intro e
   simp only [Value.string.injEq] at e
   exact hs e
  have h2 : (a.name.toList == s.toList) = false := by rw [beq_eq_false_iff_ne]; exact fun e => hs (toList_inj e.symm)
  simp only [if_neg h1, e s, List.any_cons, List.any_nil, h2, Bool.or_false]
theorem match1_any (y : Pt) (v : Val) (hb mb : Nat) (cnt : Nat → Nat) (w : World) (hh : w.heap[hb]? = some (.cells #[.map (some mb)] 87 (0, 0))) (hm : HeldS w mb cnt) (hs : SeesV w y.c.sv y.c.set) (hc : cnt y.id ≤ 1000000) (hid : y.id ≤ 1000000) :
  Calls Tryz.prog 30 #[.agg (Pt.cells y).toArray, .agg v.cells, .pointer (some ⟨hb, 0, none⟩)] w fun e w' => e = .returned (.tuple #[]) ∧ HeldS w' mb (fun k => cnt k + if (y.id == k && asksV y.c.plain v) then 1 else 0) ∧ Keeps (fun i => i = mb) w w' := by
 have CH := Lib.hid (fun W (k : Old w W) => holds_any y.c v W (hs.old k))
 obtain ⟨z, hz⟩ : ∃ z, asksV y.c.plain v = z := ⟨_, rfl⟩
 rw [hz] at CH ⊢
 obtain ⟨id, ⟨nm, op, ⟨ck, cn, cs, cb⟩, sv, set⟩⟩ := y
 obtain ⟨vk, vn, vs, vb⟩ := v
 obtain ⟨ps, cp, e9, _, _⟩ := hs.len
 simp only at e9 hc hid
 subst e9
 obtain ⟨W0, hW0⟩ : ∃ W0, (w.alloc (.cells #[.int .i64 (id : Int), .string nm, .int .i64 op, .int .i64 ck, .int .i64 cn, .string cs, .bool cb, .slice ps set.length cp] 81)).alloc (.cells #[.int .i64 vk, .int .i64 vn, .string vs, .bool vb] 61) = W0 := ⟨_, rfl⟩
 have k0 : Old w W0 := by rw [← hW0]; exact ((Keeps.refl _ _).alloc _).alloc _
 obtain ⟨b0, b1⟩ := two_blocks w (.cells #[.int .i64 (id : Int), .string nm, .int .i64 op, .int .i64 ck, .int .i64 cn, .string cs, .bool cb, .slice ps set.length cp] 81) (.cells #[.int .i64 vk, .int .i64 vn, .string vs, .bool vb] 61)
 rw [hW0] at b0 b1
 have b2 := (k0.block _ (lt_of_heap hh) (fun f => f)).trans hh
 have q0 : ∀ i u, #[Value.int .i64 (id : Int), .string nm, .int .i64 op, .int .i64 ck, .int .i64 cn, .string cs, .bool cb, .slice ps set.length cp][i]? = some u → W0.cell? ⟨w.heap.size, i, none⟩ = some u := fun i u hu => by simp only [World.cell?, b0]; exact hu
 have d0 := q0 0 _ rfl
 have d1 := q0 1 _ rfl
 have d2 := q0 2 _ rfl
 have d3 := q0 3 _ rfl
 have d4 := q0 4 _ rfl
 have d5 := q0 5 _ rfl
 have d6 := q0 6 _ rfl
 have d7 := q0 7 _ rfl
 have q1 := blk4 b1
 have H := Lib.hid (And.intro k0 (And.intro b0 (And.intro b2 hm)))
 clear hh hm hs k0 b1 b2 q0
 unfold Pt.cells Con.cells Val.cells at *
 simp only at CH ⊢
 go_enter Tryz.func30, Tryz.ntmps30
 go_wp2_with fail
 refine (CH.out _ H.out.1).mono ?_
 rintro e w1 ⟨rfl, k1⟩
 have b01 := (k1.block _ (lt_of_heap H.out.2.1) (fun f => f)).trans H.out.2.1
 have b21 := (k1.block _ (lt_of_heap H.out.2.2.1) (fun f => f)).trans H.out.2.2.1
 have e0 : w1.cell? ⟨w.heap.size, 0, none⟩ = some (.int .i64 (id : Int)) := by simp [World.cell?, b01]
 have e2 : w1.cell? ⟨hb, 0, none⟩ = some (.map (some mb)) := by simp [World.cell?, b21]
 have hh1 := H.out.2.2.2.old (H.out.1.trans k1)
 have K1 := Lib.hid (H.out.1.trans k1)
 cases z
 ·clear b01 b21 e0 e2 k1 d0 d1 d2 d3 d4 d5 d6 d7 q1 b0
  have Z := Lib.hid hh1
  clear hh1
  go_wp2_with fail
  refine bodyPost_end (results_none rfl _ _ _) rfl ?_
  exact ⟨rfl, by simpa using Z.out, K1.out.weaken (fun _ _ f => f.elim)⟩
 ·have lk := hh1.look id
  obtain ⟨W2, hrun, k2, h2⟩ := hh1.put id (cnt id + 1)
  have wj : IntKind.i64.wrap ((cnt id : Int) + 1) = ((cnt id + 1 : Nat) : Int) := by rw [IntWalk.i64_in _ (by omega)]; omega
  have Z := Lib.hid (And.intro k2 h2)
  clear b01 b21 k1 d0 d1 d2 d3 d4 d5 d6 d7 q1 b0 hh1 k2 h2
  obtain ⟨c1, hc1⟩ : ∃ c1, cnt id + 1 = c1 := ⟨_, rfl⟩
  rw [hc1] at hrun wj
  have HC1 := Lib.hid hc1
  clear hc1
  go_wp2_with fail
  refine bodyPost_end (results_none rfl _ _ _) rfl ?_
  refine ⟨rfl, ?_, (K1.out.weaken (fun _ _ f => f.elim)).trans Z.out.1⟩
  have e : (fun k => cnt k + if (id == k && true) = true then 1 else 0) = fun k => if k = id then cnt id + 1 else cnt k := by
   funext k
   by_cases hk : k = id
   ·subst hk; simp
   ·have : ¬ id = k := fun e => hk e.symm
    simp [hk, this]
  rw [e]
  exact Z.out.2
end
end Go.Proofs.YtehmlaplodjenaaGreat
