/- DERIVED. The contract of codec's reader: constraint. -/
import Derived.Test.YtpjpimahnnekkaaGreatYpMsgForms10
import Derived.Deep.DeepCutAuto
set_option maxRecDepth 100000
set_option maxHeartbeats 8000000
namespace Go.Proofs.YtpjpimahnnekkaaGreat
section
open Go.RowKit
def CsInv (w : World) (B rb bb rp ep : Nat) (nm : ByteArray) (op : Int) (s : List Val) (l : List UInt8) (W : World) : Prop :=
 Rd W B rb bb l ∧ W.heap[rp]? = some (.cells #[.pointer (some ⟨rb, 0, none⟩)] 146 (0, 0)) ∧
 (∃ v, W.heap[ep]? = some (.cells #[.string nm, .int .i64 op, .int .i64 0, .int .i64 0, .string ⟨#[]⟩, .bool false, v] 72 (0, 0)) ∧ OwnsV W (ep + 1) v s) ∧ RK rb w W
theorem CsInv.rk {w W W' : World} {B rb bb rp ep : Nat} {nm : ByteArray} {op : Int} {s : List Val} {l l' : List UInt8} (hrp : rp ≠ rb) (hrb : rb < w.heap.size) (hwe : w.heap.size ≤ ep) (h : CsInv w B rb bb rp ep nm op s l W) (hk : RK rb W W') (hR : Rd W' B rb bb l') : CsInv w B rb bb rp ep nm op s l' W' := by
 obtain ⟨_, h1, ⟨v, h2, h3⟩, h4⟩ := h
 have l1 : rp < W.heap.size := lt_of_heap h1
 have l2 : ep < W.heap.size := lt_of_heap h2
 exact ⟨hR, (hk.block rp l1 (by omega)).trans h1, ⟨v, (hk.block ep l2 (by omega)).trans h2, h3.keeps hk (fun b hb e => by have := (h3.block b hb).1; omega)⟩, h4.trans hk⟩
theorem CsInv.bad {w W : World} {B rb bb rp ep : Nat} {nm : ByteArray} {op : Int} {s : List Val} {l : List UInt8} (h : CsInv w B rb bb rp ep nm op s l W) : Bad w B rb bb W := ⟨⟨l, h.1⟩, h.2.2.2⟩
theorem ccon1_yes (B rb bb rp ep : Nat) (nm : ByteArray) (op : Int) (s : List Val) (x : Val) (l r : List UInt8) (w w1 : World) (hB : B ≤ w.heap.size) (hrb : rb < w.heap.size) (hrp : rp ≠ rb) (hep : rp < ep) (hwe : w.heap.size ≤ ep)
  (h : CsInv w B rb bb rp ep nm op s l w1) (hs : s.length < 6) (hp : pVal l = some (x, r)) :
  Calls Tryz.prog 147 #[.pointer (some ⟨ep, 0, none⟩), .pointer (some ⟨rp, 0, none⟩)] w1 fun e W' => e = .returned (.tuple #[]) ∧ CsInv w B rb bb rp ep nm op (s ++ [x]) r W' := by
 obtain ⟨vk, vn, vs, vi⟩ := x
 obtain ⟨hR, h1, ⟨v, h2, ho⟩, hk⟩ := h
 have hv := fun W' (h : Rd W' B rb bb l) => cval_yes B rb bb ⟨vk, vn, vs, vi⟩ l r W' h hp
 unfold Val.cells at hv
 simp only at hv
 have HV := Lib.hid hv
 have hwW := hk.size
 have g1 := (blk1 h1).1
 have g2 := (blk7 h2).1.2.2.2.2.2.2
 have H := Lib.hid (And.intro hR (And.intro h1 (And.intro h2 (And.intro ho hk))))
 clear h1 h2 ho hk hp hR hv
 go_enter Tryz.func147, Tryz.ntmps147
 refine wp_region_g (S := fun W' => W'.cell? ⟨ep, 6, none⟩ = some v ∧ W'.cell? ⟨rp, 0, none⟩ = some (.pointer (some ⟨rb, 0, none⟩))) (M := [0, 1, 2, 3, 4, 5, 6]) (by kernel_rfl) ?_
 have hS : w1.drew.cell? ⟨ep, 6, none⟩ = some v ∧ w1.drew.cell? ⟨rp, 0, none⟩ = some (.pointer (some ⟨rb, 0, none⟩)) := ⟨g2, g1⟩
 refine wpAnyG_takeL (i := 0) (oi := _) (v := ?va0) rfl (by kernel_rfl) (by kernel_rfl) (by kernel_rfl) (by kernel_rfl) (fun _ _ _ h => h) (Or.inl ⟨by rfl, ?ya0⟩) hS ?ra0
 case ya0 => (intro W hSw; go_simp; try with_reducible rfl)
 try simp only [Act.put, List.setIfInBounds_toArray, List.set_cons_zero, List.set_cons_succ]
 refine wpAnyG_takeL (i := 1) (oi := _) (v := ?va1) rfl (by kernel_rfl) (by kernel_rfl) (by kernel_rfl) (by kernel_rfl) (fun _ _ _ h => h) (Or.inl ⟨by rfl, ?ya1⟩) hS ?ra1
 case ya1 => (intro W hSw; obtain ⟨y1, y2⟩ := hSw; go_simp; try with_reducible rfl)
 try simp only [Act.put, List.setIfInBounds_toArray, List.set_cons_zero, List.set_cons_succ]
 refine wpAnyG_takeL (i := 2) (oi := _) (v := ?va2) rfl (by kernel_rfl) (by kernel_rfl) (by kernel_rfl) (by kernel_rfl) (fun _ _ _ h => h) (Or.inl ⟨by rfl, ?ya2⟩) hS ?ra2
 case ya2 => (intro W hSw; obtain ⟨y1, y2⟩ := hSw; go_simp; try with_reducible rfl)
 try simp only [Act.put, List.setIfInBounds_toArray, List.set_cons_zero, List.set_cons_succ]
 refine wpAnyG_onlyL (i := 3) (o := _) (by kernel_rfl) rfl (fun K hK => ?_)
 go_simp
 refine (HV.out _ (H.out.1.old (Keeps.refl _ _).drew)).mono ?_
 rintro e w2 ⟨rfl, hR2, k2⟩
 have hS2 : w2.cell? ⟨ep, 6, none⟩ = some v ∧ w2.cell? ⟨rp, 0, none⟩ = some (.pointer (some ⟨rb, 0, none⟩)) := ⟨k2.cell hS.1 (by dsimp only; omega), k2.cell hS.2 (by dsimp only; omega)⟩
 go_wp2_with fail
 refine hK.out _ _ (fun _ => hS2) ?_
 clear hK K
 try simp only [Act.put, List.setIfInBounds_toArray, List.set_cons_zero, List.set_cons_succ]
 have H2 := Lib.hid (And.intro hR2 (And.intro k2 ((k2.block rp (lt_of_heap H.out.2.1) (by omega)).trans H.out.2.1)))
 have b3 := (k2.block ep (lt_of_heap H.out.2.2.1) (by omega)).trans H.out.2.2.1
 have o2 := (H.out.2.2.2.1.old ((Keeps.refl _ _).drew)).keeps k2 (fun b hb e => by have := (H.out.2.2.2.1.block b hb).1; omega)
 have B3 := Lib.hid b3
 have OB := Lib.hid (fun b (hb : v.ownBlock = some b) => (o2.block b hb).1)
 have hz : ep + 1 ≤ w2.heap.size := lt_of_heap b3
 have SN := Lib.hid (SeesR.new (k := 4) (enc := valL) w2 69 (0, 0) [(⟨vk, vn, vs, vi⟩ : Val)] #[.int .i64 vk, .int .i64 vn, .string vs, .bool vi] (by simp [valL]) (fun _ => rfl) (by unfold maxLen; simp))
 have O2 := Lib.hid (o2.alloc (.cells #[.int .i64 vk, .int .i64 vn, .string vs, .bool vi] 69))
 have HN := Lib.hid (show s.length + 1 ≤ maxLen ∧ (s.length + 1) * 40 ≤ 140737488355328 ∧ ep + 1 ≤ (w2.alloc (.cells #[.int .i64 vk, .int .i64 vn, .string vs, .bool vi] 69)).heap.size from ⟨by unfold maxLen; omega, by omega, by simp; omega⟩)
 clear hR2 k2 b3 o2
 refine wpAnyG_onlyL (i := 4) (o := _) (by kernel_rfl) rfl (fun K hK => ?_)
 go_simp
 have hS3 : (w2.alloc (.cells #[.int .i64 vk, .int .i64 vn, .string vs, .bool vi] 69)).cell? ⟨ep, 6, none⟩ = some v ∧ (w2.alloc (.cells #[.int .i64 vk, .int .i64 vn, .string vs, .bool vi] 69)).cell? ⟨rp, 0, none⟩ = some (.pointer (some ⟨rb, 0, none⟩)) := ⟨((Keeps.refl (fun _ => False) w2).alloc _).cell hS2.1 (fun f => f), ((Keeps.refl (fun _ => False) w2).alloc _).cell hS2.2 (fun f => f)⟩
 refine hK.out _ _ (fun _ => hS3) ?_
 clear hK K
 try simp only [Act.put, List.setIfInBounds_toArray, List.set_cons_zero, List.set_cons_succ]
 refine wpAnyG_onlyL (i := 5) (o := _) (by kernel_rfl) rfl (fun K hK => ?_)
 refine step_append_rows (P := Tryz.prog) rfl _ _ 70 rfl (ep + 1) 69 4 40 valL _ Tryz.underlying70 Tryz.infoVal rfl (by decide) v s (by rfl) O2.out _ [(⟨vk, vn, vs, vi⟩ : Val)] (by rfl) SN.out (fun _ _ => rfl) (by simp [valL, Value.oneCell']) HN.out.1 HN.out.2.1 HN.out.2.2 ?_
 intro v' w3 ho3 hg3 hv3
 obtain ⟨p', n', c', rfl⟩ : ∃ p n c, v' = .slice p n c := by obtain ⟨p, c, h, _⟩ := (ho3.sees (fun _ => rfl) (by decide)).len; exact ⟨p, _, c, h⟩
 have k3 : Keeps (fun k => ep < k) w2 w3 := (((Keeps.refl _ _).alloc _).grown hg3 (fun k hk _ => OB.out k hk))
 have hS4 : w3.cell? ⟨ep, 6, none⟩ = some v ∧ w3.cell? ⟨rp, 0, none⟩ = some (.pointer (some ⟨rb, 0, none⟩)) := ⟨k3.cell hS2.1 (by dsimp only; omega), k3.cell hS2.2 (by dsimp only; omega)⟩
 have b4 := (k3.block ep hz (by omega)).trans B3.out
 have F := Lib.hid (And.intro k3 (And.intro ho3 (And.intro b4 (And.intro hg3 hv3))))
 have g4 := (blk7 b4).1
 have g5 := (blk7 b4).2
 clear k3 ho3 b4 hg3 hv3 hS3
 refine hK.out _ _ (fun _ => hS4) ?_
 clear hK K
 try simp only [Act.put, List.setIfInBounds_toArray, List.set_cons_zero, List.set_cons_succ]
 refine wpAnyG_takeL (i := 6) (oi := _) (v := ?va6) rfl (by kernel_rfl) (by kernel_rfl) (by kernel_rfl) (by kernel_rfl) (fun _ _ _ h => h) (Or.inl ⟨by rfl, ?ya6⟩) hS4 ?ra6
 case ya6 => (intro W hSw; go_simp; try with_reducible rfl)
 try simp only [Act.put, List.setIfInBounds_toArray, List.set_cons_zero, List.set_cons_succ]
 refine wpAnyG_onlyL (i := 7) (o := _) (by kernel_rfl) rfl (fun K hK => ?_)
 go_simp
 refine hK.out _ _ (fun h => absurd h (by decide)) ?_
 clear hK K
 refine wpAnyG_done (by kernel_rfl) ?_ _
 go_simp
 go_wp2_with fail
 go_end0
 refine ⟨rfl, ?_⟩
 have hb4 := F.out.2.1.block
 have kF : Keeps (fun k => ep ≤ k) w2 (w3.setCell ⟨ep, 6, none⟩ (.slice p' n' c')) := (F.out.1.weaken (fun i _ h => Nat.le_of_lt h)).setCell (fun _ => Nat.le_refl _) _
 refine ⟨H2.out.1.far kF (fun k hk => ⟨by omega, by omega⟩), (kF.block rp (lt_of_heap H2.out.2.2) (by omega)).trans H2.out.2.2, ⟨.slice p' n' c', ?_, ?_⟩, ?_⟩
 ·have := heap_setCell_same w3 ep 6 _ _ (.slice p' n' c') F.out.2.2.1
  simpa using this
 ·exact F.out.2.1.keeps ((Keeps.refl (fun k => k = ep) _).setCell (fun _ => rfl) _) (fun b hb e => by have := (hb4 b hb).1; omega)
 ·exact ((H.out.2.2.2.2.then (Keeps.refl (fun _ => False) w1).drew (fun _ _ f => f.elim)).trans H2.out.2.1).then kF (fun i hi h => by omega)
theorem ccon1_no (B rb bb rp ep : Nat) (nm : ByteArray) (op : Int) (s : List Val) (l : List UInt8) (w w1 : World) (_hB : B ≤ w.heap.size) (_hrb : rb < w.heap.size) (_hrp : rp ≠ rb) (_hep : rp < ep) (_hwe : w.heap.size ≤ ep)
  (h : CsInv w B rb bb rp ep nm op s l w1) (hp : pVal l = none) :
  Calls Tryz.prog 147 #[.pointer (some ⟨ep, 0, none⟩), .pointer (some ⟨rp, 0, none⟩)] w1 fun e W' => e = .panicked fault ∧ Bad w B rb bb W' := by
 obtain ⟨hR, h1, ⟨v, h2, ho⟩, hk⟩ := h
 have HV := Lib.hid (fun W' (h : Rd W' B rb bb l) => cval_no B rb bb l W' h hp)
 have g1 := (blk1 h1).1
 have g2 := (blk7 h2).1.2.2.2.2.2.2
 have H := Lib.hid (And.intro hR hk)
 clear h1 h2 ho hk hp hR
 go_enter Tryz.func147, Tryz.ntmps147
 refine wp_region_g (S := fun W' => W'.cell? ⟨ep, 6, none⟩ = some v ∧ W'.cell? ⟨rp, 0, none⟩ = some (.pointer (some ⟨rb, 0, none⟩))) (M := [0, 1, 2, 3, 4, 5, 6]) (by kernel_rfl) ?_
 have hS : w1.drew.cell? ⟨ep, 6, none⟩ = some v ∧ w1.drew.cell? ⟨rp, 0, none⟩ = some (.pointer (some ⟨rb, 0, none⟩)) := ⟨g2, g1⟩
 refine wpAnyG_takeL (i := 0) (oi := _) (v := ?va0) rfl (by kernel_rfl) (by kernel_rfl) (by kernel_rfl) (by kernel_rfl) (fun _ _ _ h => h) (Or.inl ⟨by rfl, ?ya0⟩) hS ?ra0
 case ya0 => (intro W hSw; go_simp; try with_reducible rfl)
 try simp only [Act.put, List.setIfInBounds_toArray, List.set_cons_zero, List.set_cons_succ]
 refine wpAnyG_takeL (i := 1) (oi := _) (v := ?va1) rfl (by kernel_rfl) (by kernel_rfl) (by kernel_rfl) (by kernel_rfl) (fun _ _ _ h => h) (Or.inl ⟨by rfl, ?ya1⟩) hS ?ra1
 case ya1 => (intro W hSw; obtain ⟨y1, y2⟩ := hSw; go_simp; try with_reducible rfl)
 try simp only [Act.put, List.setIfInBounds_toArray, List.set_cons_zero, List.set_cons_succ]
 refine wpAnyG_takeL (i := 2) (oi := _) (v := ?va2) rfl (by kernel_rfl) (by kernel_rfl) (by kernel_rfl) (by kernel_rfl) (fun _ _ _ h => h) (Or.inl ⟨by rfl, ?ya2⟩) hS ?ra2
 case ya2 => (intro W hSw; obtain ⟨y1, y2⟩ := hSw; go_simp; try with_reducible rfl)
 try simp only [Act.put, List.setIfInBounds_toArray, List.set_cons_zero, List.set_cons_succ]
 refine wpAnyG_onlyL (i := 3) (o := _) (by kernel_rfl) rfl (fun K hK => ?_)
 go_simp
 refine (HV.out _ (H.out.1.old (Keeps.refl _ _).drew)).mono ?_
 rintro e w2 ⟨rfl, hbad⟩
 have R := Lib.hid (show Bad w B rb bb w2 from ⟨hbad.1, (H.out.2.then (Keeps.refl (fun _ => False) w1).drew (fun _ _ f => f.elim)).trans hbad.2⟩)
 clear hbad
 go_wp2_with fail
 exact ⟨rfl, rfl, R.out⟩
theorem set7 {w : World} {b : Nat} {t : TypeId} {x0 x1 x2 x3 x4 x5 x6 a0 a1 a2 a3 a4 a5 a6 : Value} (h : w.heap[b]? = some (.cells #[x0, x1, x2, x3, x4, x5, x6] t (0, 0))) :
  (((((((w.setCell ⟨b, 0, none⟩ a0).setCell ⟨b, 1, none⟩ a1).setCell ⟨b, 2, none⟩ a2).setCell ⟨b, 3, none⟩ a3).setCell ⟨b, 4, none⟩ a4).setCell ⟨b, 5, none⟩ a5).setCell ⟨b, 6, none⟩ a6).heap[b]? = some (.cells #[a0, a1, a2, a3, a4, a5, a6] t (0, 0)) := by
 have h0 := heap_setCell_same w b 0 _ _ a0 h
 have h1 := heap_setCell_same _ b 1 _ _ a1 h0
 have h2 := heap_setCell_same _ b 2 _ _ a2 h1
 have h3 := heap_setCell_same _ b 3 _ _ a3 h2
 have h4 := heap_setCell_same _ b 4 _ _ a4 h3
 have h5 := heap_setCell_same _ b 5 _ _ a5 h4
 have h6 := heap_setCell_same _ b 6 _ _ a6 h5
 simpa using h6
def CsBeg (w : World) (B rb bb : Nat) (nm : ByteArray) (op : Nat) (l : List UInt8) (v : Value) (W : World) : Prop :=
 ∃ ep, v = .pointer (some ⟨ep, 0, none⟩) ∧ w.heap.size ≤ ep ∧ W.heap[ep]? = some (.cells #[.string nm, .int .i64 op, .int .i64 0, .int .i64 0, .string ⟨#[]⟩, .bool false, .slice none 0 0] 72 (0, 0)) ∧ Rd W B rb bb l ∧ RK rb w W
theorem csbeg_close {W0 w2 : World} {B rb bb ep op : Nat} {nm : ByteArray} {l : List UInt8} {x0 x1 x2 x3 x4 x5 x6 : Value} (q : w2.heap[ep]? = some (.cells #[x0, x1, x2, x3, x4, x5, x6] 72 (0, 0))) (hR : Rd w2 B rb bb l) (hk : RK rb W0 w2) (h0 : W0.heap.size ≤ ep) (hrb : rb < W0.heap.size) (hB : B ≤ W0.heap.size) :
  CsBeg W0 B rb bb nm op l (.pointer (some ⟨ep, 0, none⟩)) (((((((w2.setCell ⟨ep, 0, none⟩ (.string nm)).setCell ⟨ep, 1, none⟩ (.int .i64 op)).setCell ⟨ep, 2, none⟩ (.int .i64 0)).setCell ⟨ep, 3, none⟩ (.int .i64 0)).setCell ⟨ep, 4, none⟩ (.string ⟨#[]⟩)).setCell ⟨ep, 5, none⟩ (.bool false)).setCell ⟨ep, 6, none⟩ (.slice none 0 0)) := by
 have step : ∀ {a b : World} {i : Nat} (u : Value), Keeps (fun k => k = ep) a b → Keeps (fun k => k = ep) a (b.setCell ⟨ep, i, none⟩ u) := fun u h => h.setCell (fun _ => rfl) u
 have kk : Keeps (fun k => k = ep) w2 (((((((w2.setCell ⟨ep, 0, none⟩ (.string nm)).setCell ⟨ep, 1, none⟩ (.int .i64 op)).setCell ⟨ep, 2, none⟩ (.int .i64 0)).setCell ⟨ep, 3, none⟩ (.int .i64 0)).setCell ⟨ep, 4, none⟩ (.string ⟨#[]⟩)).setCell ⟨ep, 5, none⟩ (.bool false)).setCell ⟨ep, 6, none⟩ (.slice none 0 0)) := by
  exact step _ (step _ (step _ (step _ (step _ (step _ (step _ (Keeps.refl _ _)))))))
 exact ⟨ep, rfl, h0, set7 q, hR.far kk (fun k hk => by omega), hk.then kk (fun i hi e => by omega)⟩
def ConPost (w : World) (B rb bb : Nat) (res : Option (PCon × List UInt8)) (e : Ending) (w' : World) : Prop :=
 match res with
 | some x => (∃ p n c, e = .returned (.agg #[.string x.1.name, .int .i64 x.1.op, .int .i64 x.1.val.kind, .int .i64 x.1.val.num, .string x.1.val.str, .bool x.1.val.is, .slice p n c]) ∧ OwnsV w' w.heap.size (.slice p n c) x.1.set) ∧ Rd w' B rb bb x.2 ∧ RK rb w w'
 | none => e = .panicked fault ∧ Bad w B rb bb w'
theorem ccon_any (B rb bb : Nat) (l : List UInt8) (w : World) (h : Rd w B rb bb l) :
  Calls Tryz.prog 122 #[rdV rb] w (ConPost w B rb bb (pCon l)) := by
 have hrb := h.lt
 have hbase := h.base
 obtain ⟨W0, hW0⟩ : ∃ W0, (w.alloc (.cells #[.pointer (some ⟨rb, 0, none⟩)] 146)).alloc (.cells #[.string ⟨#[]⟩, .int .i64 0, .int .i64 0, .int .i64 0, .string ⟨#[]⟩, .bool false, .slice none 0 0] 72) = W0 := ⟨_, rfl⟩
 have k0 : Old w W0 := by rw [← hW0]; exact ((Keeps.refl _ _).alloc _).alloc _
 have hb := two_blocks w (.cells #[.pointer (some ⟨rb, 0, none⟩)] 146) (.cells #[.string ⟨#[]⟩, .int .i64 0, .int .i64 0, .int .i64 0, .string ⟨#[]⟩, .bool false, .slice none 0 0] 72)
 rw [hW0] at hb
 have kk : RK rb w W0 := k0.weaken (fun _ _ f => f.elim)
 have hR0 := h.old k0
 have HB := Lib.hid hb
 have HK := Lib.hid kk
 have hsz : w.heap.size + 1 < W0.heap.size := lt_of_heap hb.2
 have f0 := (blk1 hb.1).1
 have HR0 := Lib.hid hR0
 unfold pCon
 cases ht : pText 16 l with
 | none =>
  have HT := Lib.hid (fun W (h : Rd W B rb bb l) => ctext_no B rb bb 16 l W h (by decide) ht)
  simp only [Option.bind_none]
  clear hb kk h k0 hR0 ht
  go_enter Tryz.func122, Tryz.ntmps122
  go_upto_region 1 with fail
  refine wp_region_g (S := fun W' => W'.cell? ⟨w.heap.size, 0, none⟩ = some (.pointer (some ⟨rb, 0, none⟩))) (M := [0, 1, 2, 3, 4, 5, 6]) (by kernel_rfl) ?_
  have hS : W0.drew.cell? ⟨w.heap.size, 0, none⟩ = some (.pointer (some ⟨rb, 0, none⟩)) := f0
  refine wpAnyG_takeL (i := 0) (oi := _) (v := ?va0) rfl (by kernel_rfl) (by kernel_rfl) (by kernel_rfl) (by kernel_rfl) (fun _ _ _ h => h) (Or.inl ⟨by rfl, ?ya0⟩) hS ?ra0
  case ya0 => (intro W hSw; go_simp; try with_reducible rfl)
  try simp only [Act.put, List.setIfInBounds_toArray, List.set_cons_zero, List.set_cons_succ]
  refine wpAnyG_takeL (i := 2) (oi := _) (v := ?va2) rfl (by kernel_rfl) (by kernel_rfl) (by kernel_rfl) (by kernel_rfl) (fun _ _ _ h => h) (Or.inl ⟨by rfl, ?ya2⟩) hS ?ra2
  case ya2 => (intro W hSw; go_simp; try with_reducible rfl)
  try simp only [Act.put, List.setIfInBounds_toArray, List.set_cons_zero, List.set_cons_succ]
  refine wpAnyG_ready (rs := [1, 6]) (by kernel_rfl) (by simp) ?_
  refine AllReadyG.cons (o := _) rfl (fun K hK => ?_) (AllReadyG.cons (o := _) rfl (fun K hK => ?_) AllReadyG.nil)
  ·go_simp
   refine (HT.out _ (HR0.out.old (Keeps.refl _ _).drew)).mono ?_
   rintro e w9 ⟨rfl, hbad⟩
   have R := Lib.hid (show Bad w B rb bb w9 from ⟨hbad.1, ((HK.out.then (Keeps.refl (fun _ => False) W0).drew (fun _ _ f => f.elim))).trans hbad.2⟩)
   clear hbad
   go_wp2_with fail
   exact ⟨rfl, rfl, R.out⟩
  ·go_simp
   have o_a : Old W0.drew (W0.drew.alloc (.cells #[.string ⟨#[]⟩, .int .i64 0, .int .i64 0, .int .i64 0, .string ⟨#[]⟩, .bool false, .slice none 0 0] 72)) := (Keeps.refl _ _).alloc _
   have hS_a : (W0.drew.alloc (.cells #[.string ⟨#[]⟩, .int .i64 0, .int .i64 0, .int .i64 0, .string ⟨#[]⟩, .bool false, .slice none 0 0] 72)).cell? ⟨w.heap.size, 0, none⟩ = some (.pointer (some ⟨rb, 0, none⟩)) := o_a.cell hS (fun f => f)
   refine hK.out _ _ (fun _ => hS_a) ?_
   clear hK K
   try simp only [Act.put, List.setIfInBounds_toArray, List.set_cons_zero, List.set_cons_succ]
   refine wpAnyG_onlyL (i := 1) (o := _) (by kernel_rfl) rfl (fun K hK => ?_)
   go_simp
   refine (HT.out _ ((HR0.out.old (Keeps.refl _ _).drew).old o_a)).mono ?_
   rintro e w9 ⟨rfl, hbad⟩
   have R := Lib.hid (show Bad w B rb bb w9 from ⟨hbad.1, ((HK.out.then (Keeps.refl (fun _ => False) W0).drew (fun _ _ f => f.elim)).then o_a (fun _ _ f => f.elim)).trans hbad.2⟩)
   clear hbad
   go_wp2_with fail
   exact ⟨rfl, rfl, R.out⟩
 | some x =>
  obtain ⟨nm, l1⟩ := x
  have HT := Lib.hid (fun W (h : Rd W B rb bb l) => ctext_yes B rb bb 16 nm l l1 W h (by decide) ht)
  simp only [Option.bind_some]
  cases hn : pNum 9 l1 with
  | none =>
   have HN := Lib.hid (fun W (h : Rd W B rb bb l1) => cnum_no B rb bb 9 l1 W h (by decide) hn)
   simp only [Option.bind_none]
   clear hb kk h k0 hR0 ht hn
   go_enter Tryz.func122, Tryz.ntmps122
   go_upto_region 1 with fail
   refine wp_region_g (S := fun W' => W'.cell? ⟨w.heap.size, 0, none⟩ = some (.pointer (some ⟨rb, 0, none⟩))) (M := [0, 1, 2, 3, 4, 5, 6]) (by kernel_rfl) ?_
   have hS : W0.drew.cell? ⟨w.heap.size, 0, none⟩ = some (.pointer (some ⟨rb, 0, none⟩)) := f0
   refine wpAnyG_takeL (i := 0) (oi := _) (v := ?vb0) rfl (by kernel_rfl) (by kernel_rfl) (by kernel_rfl) (by kernel_rfl) (fun _ _ _ h => h) (Or.inl ⟨by rfl, ?yb0⟩) hS ?rb0
   case yb0 => (intro W hSw; go_simp; try with_reducible rfl)
   try simp only [Act.put, List.setIfInBounds_toArray, List.set_cons_zero, List.set_cons_succ]
   refine wpAnyG_takeL (i := 2) (oi := _) (v := ?vb2) rfl (by kernel_rfl) (by kernel_rfl) (by kernel_rfl) (by kernel_rfl) (fun _ _ _ h => h) (Or.inl ⟨by rfl, ?yb2⟩) hS ?rb2
   case yb2 => (intro W hSw; go_simp; try with_reducible rfl)
   try simp only [Act.put, List.setIfInBounds_toArray, List.set_cons_zero, List.set_cons_succ]
   refine wpAnyG_ready (rs := [1, 6]) (by kernel_rfl) (by simp) ?_
   refine AllReadyG.cons (o := _) rfl (fun K hK => ?_) (AllReadyG.cons (o := _) rfl (fun K hK => ?_) AllReadyG.nil)
   ·go_simp
    refine (HT.out _ (HR0.out.old (Keeps.refl _ _).drew)).mono ?_
    rintro e w1 ⟨rfl, hR_w1, k_w1⟩
    have hS_w1 : w1.cell? ⟨w.heap.size, 0, none⟩ = some (.pointer (some ⟨rb, 0, none⟩)) := k_w1.cell hS (by dsimp only; omega)
    go_wp2_with fail
    refine hK.out _ _ (fun _ => hS_w1) ?_
    clear hK K
    try simp only [Act.put, List.setIfInBounds_toArray, List.set_cons_zero, List.set_cons_succ]
    refine wpAnyG_ready (rs := [3, 6]) (by kernel_rfl) (by simp) ?_
    refine AllReadyG.cons (o := _) rfl (fun K hK => ?_) (AllReadyG.cons (o := _) rfl (fun K hK => ?_) AllReadyG.nil)
    ·go_simp
     refine (HN.out _ hR_w1).mono ?_
     rintro e w9 ⟨rfl, hbad⟩
     have R := Lib.hid (show Bad w B rb bb w9 from ⟨⟨_, hbad.1⟩, ((HK.out.then (Keeps.refl (fun _ => False) W0).drew (fun _ _ f => f.elim)).trans k_w1).trans hbad.2⟩)
     clear hbad
     go_wp2_with fail
     exact ⟨rfl, rfl, R.out⟩
    ·go_simp
     have o_a : Old w1 (w1.alloc (.cells #[.string ⟨#[]⟩, .int .i64 0, .int .i64 0, .int .i64 0, .string ⟨#[]⟩, .bool false, .slice none 0 0] 72)) := (Keeps.refl _ _).alloc _
     have hS_a : (w1.alloc (.cells #[.string ⟨#[]⟩, .int .i64 0, .int .i64 0, .int .i64 0, .string ⟨#[]⟩, .bool false, .slice none 0 0] 72)).cell? ⟨w.heap.size, 0, none⟩ = some (.pointer (some ⟨rb, 0, none⟩)) := o_a.cell hS_w1 (fun f => f)
     refine hK.out _ _ (fun _ => hS_a) ?_
     clear hK K
     try simp only [Act.put, List.setIfInBounds_toArray, List.set_cons_zero, List.set_cons_succ]
     refine wpAnyG_onlyL (i := 3) (o := _) (by kernel_rfl) rfl (fun K hK => ?_)
     go_simp
     refine (HN.out _ (hR_w1.old o_a)).mono ?_
     rintro e w9 ⟨rfl, hbad⟩
     have R := Lib.hid (show Bad w B rb bb w9 from ⟨⟨_, hbad.1⟩, (((HK.out.then (Keeps.refl (fun _ => False) W0).drew (fun _ _ f => f.elim)).trans k_w1).then o_a (fun _ _ f => f.elim)).trans hbad.2⟩)
     clear hbad
     go_wp2_with fail
     exact ⟨rfl, rfl, R.out⟩
   ·go_simp
    have o_a : Old W0.drew (W0.drew.alloc (.cells #[.string ⟨#[]⟩, .int .i64 0, .int .i64 0, .int .i64 0, .string ⟨#[]⟩, .bool false, .slice none 0 0] 72)) := (Keeps.refl _ _).alloc _
    have hS_a : (W0.drew.alloc (.cells #[.string ⟨#[]⟩, .int .i64 0, .int .i64 0, .int .i64 0, .string ⟨#[]⟩, .bool false, .slice none 0 0] 72)).cell? ⟨w.heap.size, 0, none⟩ = some (.pointer (some ⟨rb, 0, none⟩)) := o_a.cell hS (fun f => f)
    refine hK.out _ _ (fun _ => hS_a) ?_
    clear hK K
    try simp only [Act.put, List.setIfInBounds_toArray, List.set_cons_zero, List.set_cons_succ]
    refine wpAnyG_onlyL (i := 1) (o := _) (by kernel_rfl) rfl (fun K hK => ?_)
    go_simp
    refine (HT.out _ ((HR0.out.old (Keeps.refl _ _).drew).old o_a)).mono ?_
    rintro e w1 ⟨rfl, hR_w1, k_w1⟩
    have hS_w1 : w1.cell? ⟨w.heap.size, 0, none⟩ = some (.pointer (some ⟨rb, 0, none⟩)) := k_w1.cell hS_a (by dsimp only; omega)
    go_wp2_with fail
    refine hK.out _ _ (fun _ => hS_w1) ?_
    clear hK K
    try simp only [Act.put, List.setIfInBounds_toArray, List.set_cons_zero, List.set_cons_succ]
    refine wpAnyG_onlyL (i := 3) (o := _) (by kernel_rfl) rfl (fun K hK => ?_)
    go_simp
    refine (HN.out _ hR_w1).mono ?_
    rintro e w9 ⟨rfl, hbad⟩
    have R := Lib.hid (show Bad w B rb bb w9 from ⟨⟨_, hbad.1⟩, (((HK.out.then (Keeps.refl (fun _ => False) W0).drew (fun _ _ f => f.elim)).then o_a (fun _ _ f => f.elim)).trans k_w1).trans hbad.2⟩)
    clear hbad
    go_wp2_with fail
    exact ⟨rfl, rfl, R.out⟩
  | some x =>
   obtain ⟨op, l2⟩ := x
   have hop := (pNum_inv hn).2.1
   have HN := Lib.hid (fun W (h : Rd W B rb bb l1) => cnum_yes B rb bb 9 op l1 l2 W h (by decide) hn)
   simp only [Option.bind_some]
   clear hb kk h k0 hR0 ht hn
   obtain ⟨res, hres⟩ : ∃ res, (if op = 1 then some (⟨nm, 1, noVal, []⟩, l2) else if op = 9 then (pList 6 pVal l2).map fun z => (⟨nm, 9, noVal, z.1⟩, z.2) else (pVal l2).map fun z => (⟨nm, (op : Int), z.1, []⟩, z.2) : Option (PCon × List UInt8)) = res := ⟨_, rfl⟩
   rw [hres]
   have HRES := Lib.hid hres
   clear hres
   have hwr : IntKind.i64.wrap (op : Int) = (op : Int) := by rw [IntKind.wrap_i64]; omega
   go_enter Tryz.func122, Tryz.ntmps122
   go_upto_region 1 with fail
   go_cut [3] (fun v3 wc => CsBeg W0 B rb bb nm op l2 v3 wc)
   case first =>
    refine wp_region_g (S := fun W' => W'.cell? ⟨w.heap.size, 0, none⟩ = some (.pointer (some ⟨rb, 0, none⟩))) (M := [0, 1, 2, 3, 4, 5, 6]) (by kernel_rfl) ?_
    have hS : W0.drew.cell? ⟨w.heap.size, 0, none⟩ = some (.pointer (some ⟨rb, 0, none⟩)) := f0
    refine wpAnyG_takeL (i := 0) (oi := _) (v := ?vf0) rfl (by kernel_rfl) (by kernel_rfl) (by kernel_rfl) (by kernel_rfl) (fun _ _ _ h => h) (Or.inl ⟨by rfl, ?yf0⟩) hS ?rf0
    case yf0 => (intro W hSw; go_simp; try with_reducible rfl)
    try simp only [Act.put, List.setIfInBounds_toArray, List.set_cons_zero, List.set_cons_succ]
    refine wpAnyG_takeL (i := 2) (oi := _) (v := ?vf2) rfl (by kernel_rfl) (by kernel_rfl) (by kernel_rfl) (by kernel_rfl) (fun _ _ _ h => h) (Or.inl ⟨by rfl, ?yf2⟩) hS ?rf2
    case yf2 => (intro W hSw; go_simp; try with_reducible rfl)
    try simp only [Act.put, List.setIfInBounds_toArray, List.set_cons_zero, List.set_cons_succ]
    have hrbW := HR0.out.lt
    have hbW := HR0.out.base
    refine wpAnyG_ready (rs := [1, 6]) (by kernel_rfl) (by simp) ?_
    refine AllReadyG.cons (o := _) rfl (fun K hK => ?_) (AllReadyG.cons (o := _) rfl (fun K hK => ?_) AllReadyG.nil)
    ·go_simp
     refine (HT.out _ (HR0.out.old (Keeps.refl _ _).drew)).mono ?_
     rintro e w1 ⟨rfl, hR_w1, k_w1⟩
     have hS_w1 : w1.cell? ⟨w.heap.size, 0, none⟩ = some (.pointer (some ⟨rb, 0, none⟩)) := k_w1.cell hS (by dsimp only; omega)
     go_wp2_with fail
     refine hK.out _ _ (fun _ => hS_w1) ?_
     clear hK K
     try simp only [Act.put, List.setIfInBounds_toArray, List.set_cons_zero, List.set_cons_succ]
     refine wpAnyG_ready (rs := [3, 6]) (by kernel_rfl) (by simp) ?_
     refine AllReadyG.cons (o := _) rfl (fun K hK => ?_) (AllReadyG.cons (o := _) rfl (fun K hK => ?_) AllReadyG.nil)
     ·go_simp
      refine (HN.out _ hR_w1).mono ?_
      rintro e w2 ⟨rfl, hR_w2, k_w2⟩
      have hS_w2 : w2.cell? ⟨w.heap.size, 0, none⟩ = some (.pointer (some ⟨rb, 0, none⟩)) := k_w2.cell hS_w1 (by dsimp only; omega)
      go_wp2_with fail
      refine hK.out _ _ (fun _ => hS_w2) ?_
      clear hK K
      try simp only [Act.put, List.setIfInBounds_toArray, List.set_cons_zero, List.set_cons_succ]
      refine wpAnyG_takeL (i := 4) (oi := _) (v := ?vc4) rfl (by kernel_rfl) (by kernel_rfl) (by kernel_rfl) (by kernel_rfl) (fun _ _ _ h => h) (Or.inl ⟨by rfl, ?yc4⟩) hS_w2 ?rc4
      case yc4 => (intro W hSw; go_simp; try with_reducible rfl)
      try simp only [Act.put, List.setIfInBounds_toArray, List.set_cons_zero, List.set_cons_succ]
      refine wpAnyG_takeL (i := 5) (oi := _) (v := ?vc5) rfl (by kernel_rfl) (by kernel_rfl) (by kernel_rfl) (by kernel_rfl) (fun _ _ _ h => h) (Or.inl ⟨by rfl, ?yc5⟩) hS_w2 ?rc5
      case yc5 => (intro W hSw; go_simp; try with_reducible rfl)
      try simp only [Act.put, List.setIfInBounds_toArray, List.set_cons_zero, List.set_cons_succ]
      refine wpAnyG_onlyL (i := 6) (o := _) (by kernel_rfl) rfl (fun K hK => ?_)
      go_simp
      refine hK.out _ _ (fun _ => (((Keeps.refl (fun _ => False) w2).alloc _).cell hS_w2 (fun f => f))) ?_
      clear hK K
      try simp only [Act.put, List.setIfInBounds_toArray, List.set_cons_zero, List.set_cons_succ]
      refine wpAnyG_onlyL (i := 7) (o := _) (by kernel_rfl) rfl (fun K hK => ?_)
      go_simp
      refine hK.out _ _ (fun h => absurd h (by decide)) ?_
      clear hK K
      refine wpAnyG_done (by kernel_rfl) ?_ _
      go_simp
      go_wp2_with fail
      go_meet
      have hsz2 := k_w2.size
      have hsz1 := k_w1.size
      have e0 : W0.drew.heap.size = W0.heap.size := rfl
      exact ⟨_, rfl, by omega, heap_alloc_new _ _, hR_w2.old ((Keeps.refl _ _).alloc _), ((((Keeps.refl (fun k => k = rb) W0).then (Keeps.refl (fun _ => False) W0).drew (fun _ _ f => f.elim)).trans k_w1).trans k_w2).alloc _⟩
     ·go_simp
      have o_a : Old w1 (w1.alloc (.cells #[.string ⟨#[]⟩, .int .i64 0, .int .i64 0, .int .i64 0, .string ⟨#[]⟩, .bool false, .slice none 0 0] 72)) := (Keeps.refl _ _).alloc _
      have hS_a : (w1.alloc (.cells #[.string ⟨#[]⟩, .int .i64 0, .int .i64 0, .int .i64 0, .string ⟨#[]⟩, .bool false, .slice none 0 0] 72)).cell? ⟨w.heap.size, 0, none⟩ = some (.pointer (some ⟨rb, 0, none⟩)) := o_a.cell hS_w1 (fun f => f)
      have b_a : (w1.alloc (.cells #[.string ⟨#[]⟩, .int .i64 0, .int .i64 0, .int .i64 0, .string ⟨#[]⟩, .bool false, .slice none 0 0] 72)).heap[w1.heap.size]? = some (.cells #[.string ⟨#[]⟩, .int .i64 0, .int .i64 0, .int .i64 0, .string ⟨#[]⟩, .bool false, .slice none 0 0] 72 (0, 0)) := heap_alloc_new _ _
      refine hK.out _ _ (fun _ => hS_a) ?_
      clear hK K
      try simp only [Act.put, List.setIfInBounds_toArray, List.set_cons_zero, List.set_cons_succ]
      refine wpAnyG_onlyL (i := 3) (o := _) (by kernel_rfl) rfl (fun K hK => ?_)
      go_simp
      refine (HN.out _ (hR_w1.old o_a)).mono ?_
      rintro e w2 ⟨rfl, hR_w2, k_w2⟩
      have hS_w2 : w2.cell? ⟨w.heap.size, 0, none⟩ = some (.pointer (some ⟨rb, 0, none⟩)) := k_w2.cell hS_a (by dsimp only; omega)
      go_wp2_with fail
      refine hK.out _ _ (fun _ => hS_w2) ?_
      clear hK K
      try simp only [Act.put, List.setIfInBounds_toArray, List.set_cons_zero, List.set_cons_succ]
      refine wpAnyG_takeL (i := 4) (oi := _) (v := ?vd4) rfl (by kernel_rfl) (by kernel_rfl) (by kernel_rfl) (by kernel_rfl) (fun _ _ _ h => h) (Or.inl ⟨by rfl, ?yd4⟩) hS_w2 ?rd4
      case yd4 => (intro W hSw; go_simp; try with_reducible rfl)
      try simp only [Act.put, List.setIfInBounds_toArray, List.set_cons_zero, List.set_cons_succ]
      refine wpAnyG_takeL (i := 5) (oi := _) (v := ?vd5) rfl (by kernel_rfl) (by kernel_rfl) (by kernel_rfl) (by kernel_rfl) (fun _ _ _ h => h) (Or.inl ⟨by rfl, ?yd5⟩) hS_w2 ?rd5
      case yd5 => (intro W hSw; go_simp; try with_reducible rfl)
      try simp only [Act.put, List.setIfInBounds_toArray, List.set_cons_zero, List.set_cons_succ]
      have q1 := (k_w2.block _ (lt_of_heap b_a) (by have := hR_w1.lt; omega)).trans b_a
      have q2 := blk7 q1
      have hsz1 := k_w1.size
      have e0 : W0.drew.heap.size = W0.heap.size := rfl
      refine wpAnyG_onlyL (i := 7) (o := _) (by kernel_rfl) rfl (fun K hK => ?_)
      go_simp
      refine hK.out _ _ (fun h => absurd h (by decide)) ?_
      clear hK K
      refine wpAnyG_done (by kernel_rfl) ?_ _
      go_simp
      go_wp2_with fail
      go_meet
      exact csbeg_close q1 hR_w2 (((((Keeps.refl (fun k => k = rb) W0).then (Keeps.refl (fun _ => False) W0).drew (fun _ _ f => f.elim)).trans k_w1).then o_a (fun _ _ f => f.elim)).trans k_w2) (by omega) hrbW hbW
    ·go_simp
     have o_a : Old W0.drew (W0.drew.alloc (.cells #[.string ⟨#[]⟩, .int .i64 0, .int .i64 0, .int .i64 0, .string ⟨#[]⟩, .bool false, .slice none 0 0] 72)) := (Keeps.refl _ _).alloc _
     have hS_a : (W0.drew.alloc (.cells #[.string ⟨#[]⟩, .int .i64 0, .int .i64 0, .int .i64 0, .string ⟨#[]⟩, .bool false, .slice none 0 0] 72)).cell? ⟨w.heap.size, 0, none⟩ = some (.pointer (some ⟨rb, 0, none⟩)) := o_a.cell hS (fun f => f)
     have b_a : (W0.drew.alloc (.cells #[.string ⟨#[]⟩, .int .i64 0, .int .i64 0, .int .i64 0, .string ⟨#[]⟩, .bool false, .slice none 0 0] 72)).heap[W0.heap.size]? = some (.cells #[.string ⟨#[]⟩, .int .i64 0, .int .i64 0, .int .i64 0, .string ⟨#[]⟩, .bool false, .slice none 0 0] 72 (0, 0)) := heap_alloc_new _ _
     refine hK.out _ _ (fun _ => hS_a) ?_
     clear hK K
     try simp only [Act.put, List.setIfInBounds_toArray, List.set_cons_zero, List.set_cons_succ]
     have hR_0 := HR0.out.old (Keeps.refl (fun _ => False) W0).drew
     have e0 : W0.drew.heap.size = W0.heap.size := rfl
     refine wpAnyG_onlyL (i := 1) (o := _) (by kernel_rfl) rfl (fun K hK => ?_)
     go_simp
     refine (HT.out _ (hR_0.old o_a)).mono ?_
     rintro e w1 ⟨rfl, hR_w1, k_w1⟩
     have hS_w1 : w1.cell? ⟨w.heap.size, 0, none⟩ = some (.pointer (some ⟨rb, 0, none⟩)) := k_w1.cell hS_a (by dsimp only; omega)
     go_wp2_with fail
     refine hK.out _ _ (fun _ => hS_w1) ?_
     clear hK K
     try simp only [Act.put, List.setIfInBounds_toArray, List.set_cons_zero, List.set_cons_succ]
     have b_b := (k_w1.block _ (lt_of_heap b_a) (by have := hR_0.lt; omega)).trans b_a
     refine wpAnyG_onlyL (i := 3) (o := _) (by kernel_rfl) rfl (fun K hK => ?_)
     go_simp
     refine (HN.out _ hR_w1).mono ?_
     rintro e w2 ⟨rfl, hR_w2, k_w2⟩
     have hS_w2 : w2.cell? ⟨w.heap.size, 0, none⟩ = some (.pointer (some ⟨rb, 0, none⟩)) := k_w2.cell hS_w1 (by dsimp only; omega)
     go_wp2_with fail
     refine hK.out _ _ (fun _ => hS_w2) ?_
     clear hK K
     try simp only [Act.put, List.setIfInBounds_toArray, List.set_cons_zero, List.set_cons_succ]
     refine wpAnyG_takeL (i := 4) (oi := _) (v := ?ve4) rfl (by kernel_rfl) (by kernel_rfl) (by kernel_rfl) (by kernel_rfl) (fun _ _ _ h => h) (Or.inl ⟨by rfl, ?ye4⟩) hS_w2 ?re4
     case ye4 => (intro W hSw; go_simp; try with_reducible rfl)
     try simp only [Act.put, List.setIfInBounds_toArray, List.set_cons_zero, List.set_cons_succ]
     refine wpAnyG_takeL (i := 5) (oi := _) (v := ?ve5) rfl (by kernel_rfl) (by kernel_rfl) (by kernel_rfl) (by kernel_rfl) (fun _ _ _ h => h) (Or.inl ⟨by rfl, ?ye5⟩) hS_w2 ?re5
     case ye5 => (intro W hSw; go_simp; try with_reducible rfl)
     try simp only [Act.put, List.setIfInBounds_toArray, List.set_cons_zero, List.set_cons_succ]
     have hrb0 := hR_0.lt
     have q1 := (k_w2.block _ (lt_of_heap b_b) (by omega)).trans b_b
     have q2 := blk7 q1
     refine wpAnyG_onlyL (i := 7) (o := _) (by kernel_rfl) rfl (fun K hK => ?_)
     go_simp
     refine hK.out _ _ (fun h => absurd h (by decide)) ?_
     clear hK K
     refine wpAnyG_done (by kernel_rfl) ?_ _
     go_simp
     go_wp2_with fail
     go_meet
     exact csbeg_close q1 hR_w2 (((((Keeps.refl (fun k => k = rb) W0).then (Keeps.refl (fun _ => False) W0).drew (fun _ _ f => f.elim)).then o_a (fun _ _ f => f.elim)).trans k_w1).trans k_w2) (by omega) hrbW hbW
   case rest =>
   obtain ⟨ep, rfl, hep, hbe, hRc, hkc⟩ := hcut
   rename World => wc
   have b0 := (hkc.block _ (lt_of_heap HB.out.1) (by omega)).trans HB.out.1
   have b1 := (hkc.block _ (lt_of_heap HB.out.2) (by omega)).trans HB.out.2
   have g0 := (blk1 b0).1
   have g1 := blk7 b1
   have g2 := blk7 hbe
   have hkW := HK.out.trans hkc
   have hrbW := HR0.out.lt
   have hbW := HR0.out.base
   by_cases o1 : op = 1
   ·subst o1
    have e : res = some (⟨nm, 1, noVal, []⟩, l2) := by rw [← HRES.out]; rfl
    clear HRES
    subst e
    have H := Lib.hid (And.intro hRc hkW)
    clear hRc hkc hkW hbe b0 b1
    go_wp2_with fail
    refine bodyPost_ret (v := .agg #[.string nm, .int .i64 1, .int .i64 0, .int .i64 0, .string ⟨#[]⟩, .bool false, .slice none 0 0]) (by simp [results, Tryz.results122, go_sem, g1]) rfl ⟨⟨none, 0, 0, rfl, OwnsR.nil _ _⟩, rd_close H.out.1 H.out.2 hbase hrb ?_⟩
    repeat (first | refine Keeps.setCell ?_ (fun _ => by dsimp only; omega) _ | exact Keeps.refl _ _)
   ·have t1 : ((op : Int) == 1) = false := by simp; omega
    by_cases o9 : op = 9
    ·subst o9
     obtain ⟨rs, hrs⟩ : ∃ rs, pList 6 pVal l2 = rs := ⟨_, rfl⟩
     have e : rs.map (fun z => ((⟨nm, 9, noVal, z.1⟩ : PCon), z.2)) = res := by rw [← HRES.out, ← hrs]; rfl
     have inv : CsInv W0 B rb bb w.heap.size ep nm 9 [] l2 wc := ⟨hRc, b0, ⟨_, hbe, OwnsR.nil _ _⟩, hkc⟩
     have T := times_any B rb bb 6 147 #[.pointer (some ⟨ep, 0, none⟩), .pointer (some ⟨w.heap.size, 0, none⟩)] pVal (CsInv W0 B rb bb w.heap.size ep nm 9) (Bad W0 B rb bb) [] l2 wc
      (by decide) (fun args W => by simp [go_sem, callFunc, Tryz.func147]; rfl) (fun _ _ _ h => h.1) (fun s l l' W W' h k r => h.rk (by omega) hrbW hep k r) (fun _ _ _ h => h.bad)
      (fun s l x r W h hs hp => ccon1_yes B rb bb _ _ nm 9 s x l r W0 W hbW hrbW (by omega) (by omega) hep h (by simpa using hs) hp)
      (fun s l W h hp => ccon1_no B rb bb _ _ nm 9 s l W0 W hbW hrbW (by omega) (by omega) hep h hp) inv
     have T' : Calls Tryz.prog 120 #[rdV rb, .int .u64 (6 : Nat), .func (.func 147) #[] #[.pointer (some ⟨ep, 0, none⟩), .pointer (some ⟨w.heap.size, 0, none⟩)]] wc (TPost (CsInv W0 B rb bb w.heap.size ep nm 9) (Bad W0 B rb bb) rs) := by rw [← hrs]; exact T
     have HT2 := Lib.hid T'
     have HE := Lib.hid e
     have B1 := Lib.hid HB.out.2
     clear HRES hrs e inv T T' hRc hkc hkW hbe b0 b1 HT HN
     go_wp2_with fail
     refine HT2.out.mono ?_
     intro e w2 ht
     rcases rs with _ | ⟨es, r⟩
     ·obtain ⟨rfl, ht⟩ : e = .panicked fault ∧ Bad W0 B rb bb w2 := ht
      have e := HE.out
      have R := Lib.hid (show Bad w B rb bb w2 from ⟨ht.1, HK.out.trans ht.2⟩)
      clear ht HE HT2
      subst e
      go_wp2_with fail
      exact ⟨rfl, rfl, R.out⟩
     ·obtain ⟨rfl, hR2, _, ⟨v, hv, ho⟩, k2⟩ : e = .returned (.tuple #[]) ∧ CsInv W0 B rb bb w.heap.size ep nm 9 es r w2 := ht
      obtain ⟨p', n', c', rfl⟩ : ∃ p n c, v = .slice p n c := by obtain ⟨p, c, h, _⟩ := (ho.sees (fun _ => rfl) (by decide)).len; exact ⟨p, _, c, h⟩
      have e := HE.out
      have c1 := (k2.block _ (lt_of_heap B1.out) (by omega)).trans B1.out
      have g3 := blk7 c1
      have g4 := blk7 hv
      have H := Lib.hid (And.intro hR2 (And.intro ho (HK.out.trans k2)))
      clear hR2 hv ho k2 c1 HE HT2 g1 g2
      subst e
      go_wp2_with fail
      refine bodyPost_ret (v := .agg #[.string nm, .int .i64 9, .int .i64 0, .int .i64 0, .string ⟨#[]⟩, .bool false, .slice p' n' c']) (by simp [results, Tryz.results122, go_sem, g3]) rfl ⟨⟨p', n', c', rfl, ?_⟩, rd_close H.out.1 H.out.2.2 hbase hrb ?_⟩
      ·refine (H.out.2.1.mono (by omega)).keeps (S := fun k => k ≤ ep) ?_ (fun b hb e => by have := (H.out.2.1.block b hb).1; omega)
       repeat (first | refine Keeps.setCell ?_ (fun _ => by dsimp only; omega) _ | exact Keeps.refl _ _)
      ·repeat (first | refine Keeps.setCell ?_ (fun _ => by dsimp only; omega) _ | exact Keeps.refl _ _)
    ·have t9 : ((op : Int) == 9) = false := by simp; omega
     cases hv : pVal l2 with
     | none =>
      have e : res = none := by rw [← HRES.out, if_neg o1, if_neg o9, hv]; rfl
      have HV := Lib.hid (cval_no B rb bb l2 wc hRc hv)
      have H := Lib.hid hkW
      clear HRES hRc hkc hkW hbe b0 b1 hv HT HN
      subst e
      go_wp2_with fail
      refine HV.out.mono ?_
      rintro e w2 ⟨rfl, hbad⟩
      have R := Lib.hid (show Bad w B rb bb w2 from ⟨hbad.1, H.out.trans hbad.2⟩)
      clear hbad
      go_wp2_with fail
      exact ⟨rfl, rfl, R.out⟩
     | some x =>
      obtain ⟨⟨vk, vn, vs, vi⟩, r⟩ := x
      have e : res = some (⟨nm, (op : Int), ⟨vk, vn, vs, vi⟩, []⟩, r) := by rw [← HRES.out, if_neg o1, if_neg o9, hv]; rfl
      have hv' := cval_yes B rb bb ⟨vk, vn, vs, vi⟩ l2 r wc hRc hv
      unfold Val.cells at hv'
      simp only at hv'
      have HV := Lib.hid hv'
      have H := Lib.hid (And.intro hkW (And.intro hbe b1))
      clear HRES hRc hkc hkW hbe b0 b1 hv hv' HT HN
      subst e
      go_wp2_with fail
      refine HV.out.mono ?_
      rintro e w2 ⟨rfl, hR2, k2⟩
      have c1 := (k2.block _ (lt_of_heap H.out.2.1) (by omega)).trans H.out.2.1
      have c2 := (k2.block _ (lt_of_heap H.out.2.2) (by omega)).trans H.out.2.2
      have g3 := blk7 c1
      have g4 := blk7 c2
      have R := Lib.hid (And.intro hR2 (H.out.1.trans k2))
      clear hR2 k2 c1 c2 g1 g2 g0
      go_wp2_with fail
      refine bodyPost_ret (v := .agg #[.string nm, .int .i64 op, .int .i64 vk, .int .i64 vn, .string vs, .bool vi, .slice none 0 0]) (by simp [results, Tryz.results122, go_sem, g4]) rfl ⟨⟨none, 0, 0, rfl, OwnsR.nil _ _⟩, rd_close R.out.1 R.out.2 hbase hrb ?_⟩
      repeat (first | refine Keeps.setCell ?_ (fun _ => by dsimp only; omega) _ | exact Keeps.refl _ _)
end
end Go.Proofs.YtpjpimahnnekkaaGreat
