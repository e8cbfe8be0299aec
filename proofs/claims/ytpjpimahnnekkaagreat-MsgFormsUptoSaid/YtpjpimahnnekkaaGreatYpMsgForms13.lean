/- DERIVED. The contract of codec's reader: page. -/
import Derived.Test.YtpjpimahnnekkaaGreatYpMsgForms12
import Derived.Deep.DeepCutAuto
set_option maxRecDepth 100000
set_option maxHeartbeats 1000000
namespace Go.Proofs.YtpjpimahnnekkaaGreat
section
open Go.RowKit
def PgInv (w : World) (B rb bb rp ep fr en : Nat) (s : List PIt) (l : List UInt8) (W : World) : Prop :=
 Rd W B rb bb l ∧ W.heap[rp]? = some (.cells #[.pointer (some ⟨rb, 0, none⟩)] 146 (0, 0)) ∧
 (∃ v s', W.heap[ep]? = some (.cells #[.int .u64 fr, .int .u64 en, v, .slice none 0 0, .bool false] 35 (0, 0)) ∧ s'.map It.plain = s ∧ OwnN W (ep + 1) 29 4 It.cells It.av ItF v s') ∧ RK rb w W
theorem PgInv.rk {w W W' : World} {B rb bb rp ep fr en : Nat} {s : List PIt} {l l' : List UInt8} (hrp : rp ≠ rb) (hrb : rb < w.heap.size) (hwe : w.heap.size ≤ ep) (h : PgInv w B rb bb rp ep fr en s l W) (hk : RK rb W W') (hR : Rd W' B rb bb l') : PgInv w B rb bb rp ep fr en s l' W' := by
 obtain ⟨_, h1, ⟨v, s', h2, hm, h3⟩, h4⟩ := h
 have l1 : rp < W.heap.size := lt_of_heap h1
 have l2 : ep < W.heap.size := lt_of_heap h2
 exact ⟨hR, (hk.block rp l1 (by omega)).trans h1, ⟨v, s', (hk.block ep l2 (by omega)).trans h2, hm, h3.keeps itF_k hk (fun b hb _ e => by omega)⟩, h4.trans hk⟩
theorem PgInv.bad {w W : World} {B rb bb rp ep fr en : Nat} {s : List PIt} {l : List UInt8} (h : PgInv w B rb bb rp ep fr en s l W) : Bad w B rb bb W := ⟨⟨l, h.1⟩, h.2.2.2⟩
def GpInv (w : World) (B rb bb rp ep fr en : Nat) (it : Value) (s : List PGap) (l : List UInt8) (W : World) : Prop :=
 Rd W B rb bb l ∧ W.heap[rp]? = some (.cells #[.pointer (some ⟨rb, 0, none⟩)] 146 (0, 0)) ∧
 (∃ v, W.heap[ep]? = some (.cells #[.int .u64 fr, .int .u64 en, it, v, .bool false] 35 (0, 0)) ∧ OwnsR W w.heap.size 121 2 gapL v s) ∧ Keeps (fun k => k = rb ∨ k = ep) w W
theorem GpInv.rk {w W W' : World} {B rb bb rp ep fr en : Nat} {it : Value} {s : List PGap} {l l' : List UInt8} (hrp : rp ≠ rb) (hrb : rb < w.heap.size) (hre : ep ≠ rb) (h : GpInv w B rb bb rp ep fr en it s l W) (hk : RK rb W W') (hR : Rd W' B rb bb l') : GpInv w B rb bb rp ep fr en it s l' W' := by
 obtain ⟨_, h1, ⟨v, h2, h3⟩, h4⟩ := h
 have l1 : rp < W.heap.size := lt_of_heap h1
 have l2 : ep < W.heap.size := lt_of_heap h2
 exact ⟨hR, (hk.block rp l1 (by omega)).trans h1, ⟨v, (hk.block ep l2 (by omega)).trans h2, h3.keeps hk (fun b hb e => by have := (h3.block b hb).1; omega)⟩, h4.then hk (fun i _ e => Or.inl e)⟩
def pGap (l : List UInt8) : Option (PGap × List UInt8) := (pNum 1099511627776 l).bind fun x => (pNum 1099511627776 x.2).map fun y => ((x.1, y.1), y.2)
theorem pGap_cases {l r : List UInt8} {g : PGap} (h : pGap l = some (g, r)) : ∃ l1, pNum 1099511627776 l = some (g.1, l1) ∧ pNum 1099511627776 l1 = some (g.2, r) := by
 unfold pGap at h
 cases hk : pNum 1099511627776 l with
 | none => rw [hk] at h; cases h
 | some x =>
  rw [hk] at h
  simp only [Option.bind_some] at h
  cases hi : pNum 1099511627776 x.2 with
  | none => rw [hi] at h; cases h
  | some y =>
   rw [hi] at h
   simp only [Option.map_some, Option.some.injEq, Prod.mk.injEq] at h
   obtain ⟨rfl, rfl⟩ := h
   exact ⟨x.2, rfl, hi⟩
theorem pGap_nones {l : List UInt8} (h : pGap l = none) : pNum 1099511627776 l = none ∨ ∃ s l1, pNum 1099511627776 l = some (s, l1) ∧ pNum 1099511627776 l1 = none := by
 unfold pGap at h
 cases hk : pNum 1099511627776 l with
 | none => exact .inl rfl
 | some x =>
  rw [hk] at h
  simp only [Option.bind_some] at h
  exact .inr ⟨x.1, x.2, rfl, by simpa using h⟩
theorem cpage1_yes (B rb bb rp ep : Nat) (fr en : Nat) (s : List PIt) (x : PIt) (l r : List UInt8) (w w1 : World) (hB : B ≤ w.heap.size) (hrb : rb < w.heap.size) (hrp : rp ≠ rb) (hep : rp < ep) (hwe : w.heap.size ≤ ep)
  (h : PgInv w B rb bb rp ep fr en s l w1) (hs : s.length < 4) (hp : pItem l = some (x, r)) :
  Calls Tryz.prog 127 #[.pointer (some ⟨ep, 0, none⟩), .pointer (some ⟨rp, 0, none⟩)] w1 fun e W' => e = .returned (.tuple #[]) ∧ PgInv w B rb bb rp ep fr en (s ++ [x]) r W' := by
 have FK := itF_k
 obtain ⟨n, tm, key, es⟩ := x
 obtain ⟨hR, h1, ⟨v, s', h2, hm, hon⟩, hk⟩ := h
 have hs' : s'.length < 4 := by rw [← hm] at hs; simpa using hs
 have hv := fun W' (h : Rd W' B rb bb l) => citem_any B rb bb l W' h
 simp only [hp] at hv
 have HV := Lib.hid hv
 have hwW := hk.size
 have g1 := (blk1 h1).1
 have g2 := (blk5 h2).1.2.2.1
 have H := Lib.hid (And.intro hR (And.intro h1 (And.intro h2 (And.intro hon.1 hk))))
 have HON := Lib.hid (And.intro hon hm)
 clear h1 h2 hon hm hk hp hR hv
 go_enter Tryz.func127, Tryz.ntmps127
 refine wp_region_g (S := fun W' => W'.cell? ⟨ep, 2, none⟩ = some v ∧ W'.cell? ⟨rp, 0, none⟩ = some (.pointer (some ⟨rb, 0, none⟩))) (M := [0, 1, 2, 3, 4, 5, 6]) (by kernel_rfl) ?_
 have hS : w1.drew.cell? ⟨ep, 2, none⟩ = some v ∧ w1.drew.cell? ⟨rp, 0, none⟩ = some (.pointer (some ⟨rb, 0, none⟩)) := ⟨g2, g1⟩
 refine wpAnyG_takeL (i := 0) (oi := _) (v := ?va0) rfl (by kernel_rfl) (by kernel_rfl) (by kernel_rfl) (by kernel_rfl) (fun _ _ _ h => h) (Or.inl ⟨by rfl, ?ya0⟩) hS ?ra0
 case ya0 => (intro W hSw; go_simp; try with_reducible rfl)
 try simp only [Act.put, List.setIfInBounds_toArray, List.set_cons_zero, List.set_cons_succ]
 refine wpAnyG_takeL (i := 1) (oi := _) (v := ?va1) rfl (by kernel_rfl) (by kernel_rfl) (by kernel_rfl) (by kernel_rfl) (fun _ _ _ h => h) (Or.inl ⟨by rfl, ?ya1⟩) hS ?ra1
 case ya1 => (intro W hSw; obtain ⟨y1, y2⟩ := hSw; go_simp; try with_reducible rfl)
 try simp only [Act.put, List.setIfInBounds_toArray, List.set_cons_zero, List.set_cons_succ]
 refine wpAnyG_takeL (i := 2) (oi := _) (v := ?va2) rfl (by kernel_rfl) (by kernel_rfl) (by kernel_rfl) (by kernel_rfl) (fun _ _ _ h => h) (Or.inl ⟨by rfl, ?ya2⟩) hS ?ra2
 case ya2 => (intro W hSw; obtain ⟨y1, y2⟩ := hSw; go_simp; try with_reducible rfl)
 try simp only [Act.put, List.setIfInBounds_toArray, List.set_cons_zero, List.set_cons_succ]
 refine wpAnyG_onlyL (i := 3) (o := _) (by kernel_rfl) rfl (fun K hK => ?_)
 go_simp
 refine (HV.out _ (H.out.1.old (Keeps.refl _ _).drew)).mono ?_
 rintro e w2 ⟨⟨p2, n2, c2, rfl, hv2⟩, hR2, k2⟩
 simp only at hv2
 have hS2 : w2.cell? ⟨ep, 2, none⟩ = some v ∧ w2.cell? ⟨rp, 0, none⟩ = some (.pointer (some ⟨rb, 0, none⟩)) := ⟨k2.cell hS.1 (by dsimp only; omega), k2.cell hS.2 (by dsimp only; omega)⟩
 go_wp2_with fail
 refine hK.out _ _ (fun _ => hS2) ?_
 clear hK K
 try simp only [Act.put, List.setIfInBounds_toArray, List.set_cons_zero, List.set_cons_succ]
 have H2 := Lib.hid (And.intro hR2 (And.intro k2 ((k2.block rp (lt_of_heap H.out.2.1) (by omega)).trans H.out.2.1)))
 have b3 := (k2.block ep (lt_of_heap H.out.2.2.1) (by omega)).trans H.out.2.2.1
 have o2 := (H.out.2.2.2.1.old ((Keeps.refl _ _).drew)).keeps k2 (fun b hb e => by have := (H.out.2.2.2.1.block b hb).1; omega)
 have B3 := Lib.hid b3
 have OB := Lib.hid (fun b (hb : v.ownBlock = some b) => (o2.block b hb).1)
 have hz : ep + 1 ≤ w2.heap.size := lt_of_heap b3
 have SN := Lib.hid (SeesR.new (k := 4) (enc := It.cells) w2 29 (0, 0) [(⟨n, tm, key, .slice p2 n2 c2, es⟩ : It)] #[.int .u64 n, .int .u64 tm, .string key, .slice p2 n2 c2] (by simp [It.cells]) (fun _ => rfl) (by unfold maxLen; simp))
 have O2 := Lib.hid (o2.alloc (.cells #[.int .u64 n, .int .u64 tm, .string key, .slice p2 n2 c2] 29))
 have HN := Lib.hid (show s'.length + 1 ≤ maxLen ∧ (s'.length + 1) * 56 ≤ 140737488355328 ∧ (ep + 1) ≤ (w2.alloc (.cells #[.int .u64 n, .int .u64 tm, .string key, .slice p2 n2 c2] 29)).heap.size from ⟨by unfold maxLen; omega, by omega, by simp; omega⟩)
 have hvb := hv2.block
 have hvl := H.out.2.2.2.1.block
 have n1 := (HON.out.1.keeps FK ((Keeps.refl (fun _ => False) w1).drew) (fun _ _ _ f => f)).keeps FK k2 (fun b hb hlt e => by omega)
 have n2' := n1.keeps FK ((Keeps.refl (fun _ => False) w2).alloc (.cells #[.int .u64 n, .int .u64 tm, .string key, .slice p2 n2 c2] 29)) (fun _ _ _ f => f)
 have e0 : w1.drew.heap.size = w1.heap.size := rfl
 have hw12 := k2.size
 have hepw : ep < w1.heap.size := lt_of_heap H.out.2.2.1
 have hal : (w2.alloc (.cells #[.int .u64 n, .int .u64 tm, .string key, .slice p2 n2 c2] 29)).heap.size = w2.heap.size + 1 := by simp
 have nb : ∀ b, (Value.slice p2 n2 c2).ownBlock = some b → ep + 1 ≤ b ∧ b < (w2.alloc (.cells #[.int .u64 n, .int .u64 tm, .string key, .slice p2 n2 c2] 29)).heap.size ∧ v.ownBlock ≠ some b := fun b hb => ⟨by have := hvb b hb; omega, by have := hvb b hb; omega, fun e => by have := hvb b hb; have := hvl b e; omega⟩
 have NN := Lib.hid (And.intro n2' (And.intro (show ItF (⟨n, tm, key, .slice p2 n2 c2, es⟩ : It) (w2.alloc (.cells #[.int .u64 n, .int .u64 tm, .string key, .slice p2 n2 c2] 29)) from (hv2.sees (fun _ => rfl) (by decide)).alloc _) nb))
 clear n1 n2' nb hal
 clear hR2 k2 b3 o2
 refine wpAnyG_onlyL (i := 4) (o := _) (by kernel_rfl) rfl (fun K hK => ?_)
 go_simp
 have hS3 : (w2.alloc (.cells #[.int .u64 n, .int .u64 tm, .string key, .slice p2 n2 c2] 29)).cell? ⟨ep, 2, none⟩ = some v ∧ (w2.alloc (.cells #[.int .u64 n, .int .u64 tm, .string key, .slice p2 n2 c2] 29)).cell? ⟨rp, 0, none⟩ = some (.pointer (some ⟨rb, 0, none⟩)) := ⟨((Keeps.refl (fun _ => False) w2).alloc _).cell hS2.1 (fun f => f), ((Keeps.refl (fun _ => False) w2).alloc _).cell hS2.2 (fun f => f)⟩
 refine hK.out _ _ (fun _ => hS3) ?_
 clear hK K
 try simp only [Act.put, List.setIfInBounds_toArray, List.set_cons_zero, List.set_cons_succ]
 refine wpAnyG_onlyL (i := 5) (o := _) (by kernel_rfl) rfl (fun K hK => ?_)
 refine step_append_rows (P := Tryz.prog) rfl _ _ 32 rfl (ep + 1) 29 4 56 It.cells _ Tryz.underlying32 Tryz.infoItem rfl (by decide) v s' (by rfl) O2.out _ [(⟨n, tm, key, .slice p2 n2 c2, es⟩ : It)] (by rfl) SN.out (fun _ _ => rfl) (by simp [It.cells, Value.oneCell']) HN.out.1 HN.out.2.1 HN.out.2.2 ?_
 intro v' w3 ho3 hg3 hv3
 obtain ⟨p', n', c', rfl⟩ : ∃ p n c, v' = .slice p n c := by obtain ⟨p, c, h, _⟩ := (ho3.sees (fun _ => rfl) (by decide)).len; exact ⟨p, _, c, h⟩
 have k3 : Keeps (fun k => ep < k) w2 w3 := (((Keeps.refl _ _).alloc _).grown hg3 (fun k hk _ => by have := OB.out k hk; omega))
 have hS4 : w3.cell? ⟨ep, 2, none⟩ = some v ∧ w3.cell? ⟨rp, 0, none⟩ = some (.pointer (some ⟨rb, 0, none⟩)) := ⟨k3.cell hS2.1 (by dsimp only; omega), k3.cell hS2.2 (by dsimp only; omega)⟩
 have b4 := (k3.block ep hz (by omega)).trans B3.out
 have F := Lib.hid (And.intro k3 (And.intro ho3 (And.intro b4 (And.intro hg3 hv3))))
 have g4 := (blk5 b4).1
 have g5 := (blk5 b4).2
 clear k3 ho3 b4 hg3 hv3 hS3
 refine hK.out _ _ (fun _ => hS4) ?_
 clear hK K
 try simp only [Act.put, List.setIfInBounds_toArray, List.set_cons_zero, List.set_cons_succ]
 refine wpAnyG_takeL (i := 6) (oi := _) (v := ?va6) rfl (by kernel_rfl) (by kernel_rfl) (by kernel_rfl) (by kernel_rfl) (fun _ _ _ h => h) (Or.inl ⟨by rfl, ?ya6⟩) hS4 ?ra6
 case ya6 => (intro W hSw; go_simp; try with_reducible rfl)
 try simp only [Act.put, List.setIfInBounds_toArray, List.set_cons_zero, List.set_cons_succ]
 refine wpAnyG_onlyL (i := 7) (o := _) (by kernel_rfl) rfl (fun K hK => ?_)
 go_simp
 refine hK.out _ _ (fun h => absurd h (by decide)) ?_
 clear hK K
 refine wpAnyG_done (by kernel_rfl) ?_ _
 go_simp
 go_wp2_with fail
 go_end0
 refine ⟨rfl, ?_⟩
 have hb4 := F.out.2.1.block
 have kF : Keeps (fun k => ep ≤ k) w2 (w3.setCell ⟨ep, 2, none⟩ (.slice p' n' c')) := (F.out.1.weaken (fun i _ h => Nat.le_of_lt h)).setCell (fun _ => Nat.le_refl _) _
 have N := (OwnN.snoc FK NN.out.1 NN.out.2.1 NN.out.2.2 F.out.2.1 F.out.2.2.2.1 F.out.2.2.2.2).keeps FK ((Keeps.refl (fun k => k = ep) w3).setCell (p := ⟨ep, 2, none⟩) (fun _ => rfl) (.slice p' n' c')) (fun b hb _ e => by omega)
 refine ⟨H2.out.1.far kF (fun k hk => ⟨by omega, by omega⟩), (kF.block rp (lt_of_heap H2.out.2.2) (by omega)).trans H2.out.2.2, ⟨.slice p' n' c', _, ?_, ?_, N⟩, ?_⟩
 ·have := heap_setCell_same w3 ep 2 _ _ (.slice p' n' c') F.out.2.2.1
  simpa using this
 ·rw [List.map_append, HON.out.2]; rfl
 ·exact ((H.out.2.2.2.2.then (Keeps.refl (fun _ => False) w1).drew (fun _ _ f => f.elim)).trans H2.out.2.1).then kF (fun i hi h => by omega)
theorem cpage1_no (B rb bb rp ep : Nat) (fr en : Nat) (s : List PIt) (l : List UInt8) (w w1 : World) (_hB : B ≤ w.heap.size) (_hrb : rb < w.heap.size) (_hrp : rp ≠ rb) (_hep : rp < ep) (_hwe : w.heap.size ≤ ep)
  (h : PgInv w B rb bb rp ep fr en s l w1) (hp : pItem l = none) :
  Calls Tryz.prog 127 #[.pointer (some ⟨ep, 0, none⟩), .pointer (some ⟨rp, 0, none⟩)] w1 fun e W' => e = .panicked fault ∧ Bad w B rb bb W' := by
 obtain ⟨hR, h1, ⟨v, s', h2, hm, hon⟩, hk⟩ := h
 have hv := fun W' (h : Rd W' B rb bb l) => citem_any B rb bb l W' h
 simp only [hp] at hv
 have HV := Lib.hid hv
 have g1 := (blk1 h1).1
 have g2 := (blk5 h2).1.2.2.1
 have H := Lib.hid (And.intro hR hk)
 clear h1 h2 hon hm hk hp hR hv
 go_enter Tryz.func127, Tryz.ntmps127
 refine wp_region_g (S := fun W' => W'.cell? ⟨ep, 2, none⟩ = some v ∧ W'.cell? ⟨rp, 0, none⟩ = some (.pointer (some ⟨rb, 0, none⟩))) (M := [0, 1, 2, 3, 4, 5, 6]) (by kernel_rfl) ?_
 have hS : w1.drew.cell? ⟨ep, 2, none⟩ = some v ∧ w1.drew.cell? ⟨rp, 0, none⟩ = some (.pointer (some ⟨rb, 0, none⟩)) := ⟨g2, g1⟩
 refine wpAnyG_takeL (i := 0) (oi := _) (v := ?va0) rfl (by kernel_rfl) (by kernel_rfl) (by kernel_rfl) (by kernel_rfl) (fun _ _ _ h => h) (Or.inl ⟨by rfl, ?ya0⟩) hS ?ra0
 case ya0 => (intro W hSw; go_simp; try with_reducible rfl)
 try simp only [Act.put, List.setIfInBounds_toArray, List.set_cons_zero, List.set_cons_succ]
 refine wpAnyG_takeL (i := 1) (oi := _) (v := ?va1) rfl (by kernel_rfl) (by kernel_rfl) (by kernel_rfl) (by kernel_rfl) (fun _ _ _ h => h) (Or.inl ⟨by rfl, ?ya1⟩) hS ?ra1
 case ya1 => (intro W hSw; obtain ⟨y1, y2⟩ := hSw; go_simp; try with_reducible rfl)
 try simp only [Act.put, List.setIfInBounds_toArray, List.set_cons_zero, List.set_cons_succ]
 refine wpAnyG_takeL (i := 2) (oi := _) (v := ?va2) rfl (by kernel_rfl) (by kernel_rfl) (by kernel_rfl) (by kernel_rfl) (fun _ _ _ h => h) (Or.inl ⟨by rfl, ?ya2⟩) hS ?ra2
 case ya2 => (intro W hSw; obtain ⟨y1, y2⟩ := hSw; go_simp; try with_reducible rfl)
 try simp only [Act.put, List.setIfInBounds_toArray, List.set_cons_zero, List.set_cons_succ]
 refine wpAnyG_onlyL (i := 3) (o := _) (by kernel_rfl) rfl (fun K hK => ?_)
 go_simp
 refine (HV.out _ (H.out.1.old (Keeps.refl _ _).drew)).mono ?_
 rintro e w2 ⟨rfl, hbad⟩
 have R := Lib.hid (show Bad w B rb bb w2 from ⟨hbad.1, (H.out.2.then (Keeps.refl (fun _ => False) w1).drew (fun _ _ f => f.elim)).trans hbad.2⟩)
 clear hbad
 go_wp2_with fail
 exact ⟨rfl, rfl, R.out⟩
theorem cpage2_yes (B rb bb rp ep : Nat) (fr en : Nat) (it : Value) (w0 : World) (s : List PGap) (x : PGap) (l r : List UInt8) (w W : World) (hB : B ≤ w0.heap.size) (hrb : rb < w0.heap.size) (hrp : rp ≠ rb) (hep : rp < ep) (hwe : w0.heap.size ≤ ep) (hew : ep < w.heap.size) (hk0 : RK rb w0 w)
  (h : GpInv w B rb bb rp ep fr en it s l W) (hs : s.length < 16) (hp : pGap l = some (x, r)) :
  Calls Tryz.prog 128 #[.pointer (some ⟨rp, 0, none⟩), .pointer (some ⟨ep, 0, none⟩)] W fun e W' => e = .returned (.tuple #[]) ∧ GpInv w B rb bb rp ep fr en it (s ++ [x]) r W' := by
 obtain ⟨l1, q1, q2⟩ := pGap_cases hp
 obtain ⟨ga, gb⟩ := x
 simp only at q1 q2
 obtain ⟨hR, h1, ⟨v, h2, ho⟩, hk⟩ := h
 have f0 := (blk1 h1).1
 have HT := Lib.hid (cnum_yes B rb bb 1099511627776 ga l l1 W hR (by decide) q1)
 have HV := Lib.hid (fun W' (h : Rd W' B rb bb l1) => cnum_yes B rb bb 1099511627776 gb l1 r W' h (by decide) q2)
 have hwW := hk.size
 have hw0 := hk0.size
 have G := Lib.hid (And.intro h1 (And.intro h2 (And.intro ho hk)))
 clear h1 h2 ho hk hp q1 q2 hR
 go_enter Tryz.func128, Tryz.ntmps128
 go_wp2_with fail
 refine HT.out.mono ?_
 rintro e w1 ⟨rfl, hR1, k1⟩
 have b1 := (k1.block rp (lt_of_heap G.out.1) (by omega)).trans G.out.1
 have b2 := (k1.block ep (lt_of_heap G.out.2.1) (by omega)).trans G.out.2.1
 have g1 := (blk1 b1).1
 have g2 := (blk5 b2).1.2.2.2.1
 have o1 := G.out.2.2.1.keeps k1 (fun b hb e => by have := (G.out.2.2.1.block b hb).1; omega)
 have H := Lib.hid (And.intro hR1 (And.intro b1 (And.intro b2 (And.intro o1 (G.out.2.2.2.then k1 (fun i _ e => Or.inl e))))))
 have hw1 := k1.size
 clear hR1 k1 b1 b2 o1 f0
 go_wp2_with fail
 refine wp_region_g (S := fun W' => W'.cell? ⟨ep, 3, none⟩ = some v ∧ W'.cell? ⟨rp, 0, none⟩ = some (.pointer (some ⟨rb, 0, none⟩))) (M := [0, 1, 2, 3, 4, 5, 6, 7, 8]) (by kernel_rfl) ?_
 have hS : w1.drew.cell? ⟨ep, 3, none⟩ = some v ∧ w1.drew.cell? ⟨rp, 0, none⟩ = some (.pointer (some ⟨rb, 0, none⟩)) := ⟨g2, g1⟩
 refine wpAnyG_takeL (i := 0) (oi := _) (v := ?va0) rfl (by kernel_rfl) (by kernel_rfl) (by kernel_rfl) (by kernel_rfl) (fun _ _ _ h => h) (Or.inl ⟨by rfl, ?ya0⟩) hS ?ra0
 case ya0 => (intro W hSw; go_simp; try with_reducible rfl)
 try simp only [Act.put, List.setIfInBounds_toArray, List.set_cons_zero, List.set_cons_succ]
 refine wpAnyG_takeL (i := 1) (oi := _) (v := ?va1) rfl (by kernel_rfl) (by kernel_rfl) (by kernel_rfl) (by kernel_rfl) (fun _ _ _ h => h) (Or.inl ⟨by rfl, ?ya1⟩) hS ?ra1
 case ya1 => (intro W hSw; obtain ⟨y1, y2⟩ := hSw; go_simp; try with_reducible rfl)
 try simp only [Act.put, List.setIfInBounds_toArray, List.set_cons_zero, List.set_cons_succ]
 refine wpAnyG_takeL (i := 2) (oi := _) (v := ?va2) rfl (by kernel_rfl) (by kernel_rfl) (by kernel_rfl) (by kernel_rfl) (fun _ _ _ h => h) (Or.inl ⟨by rfl, ?ya2⟩) hS ?ra2
 case ya2 => (intro W hSw; go_simp; try with_reducible rfl)
 try simp only [Act.put, List.setIfInBounds_toArray, List.set_cons_zero, List.set_cons_succ]
 refine wpAnyG_takeL (i := 3) (oi := _) (v := ?va3) rfl (by kernel_rfl) (by kernel_rfl) (by kernel_rfl) (by kernel_rfl) (fun _ _ _ h => h) (Or.inl ⟨by rfl, ?ya3⟩) hS ?ra3
 case ya3 => (intro W hSw; obtain ⟨y1, y2⟩ := hSw; go_simp; try with_reducible rfl)
 try simp only [Act.put, List.setIfInBounds_toArray, List.set_cons_zero, List.set_cons_succ]
 refine wpAnyG_onlyL (i := 4) (o := _) (by kernel_rfl) rfl (fun K hK => ?_)
 go_simp
 refine (HV.out _ (H.out.1.old (Keeps.refl _ _).drew)).mono ?_
 rintro e w2 ⟨rfl, hR2, k2⟩
 have hS2 : w2.cell? ⟨ep, 3, none⟩ = some v ∧ w2.cell? ⟨rp, 0, none⟩ = some (.pointer (some ⟨rb, 0, none⟩)) := ⟨k2.cell hS.1 (by dsimp only; omega), k2.cell hS.2 (by dsimp only; omega)⟩
 go_wp2_with fail
 refine hK.out _ _ (fun _ => hS2) ?_
 clear hK K
 try simp only [Act.put, List.setIfInBounds_toArray, List.set_cons_zero, List.set_cons_succ]
 refine wpAnyG_takeL (i := 5) (oi := _) (v := ?va5) rfl (by kernel_rfl) (by kernel_rfl) (by kernel_rfl) (by kernel_rfl) (fun _ _ _ h => h) (Or.inl ⟨by rfl, ?ya5⟩) hS2 ?ra5
 case ya5 => (intro W hSw; go_simp; try with_reducible rfl)
 try simp only [Act.put, List.setIfInBounds_toArray, List.set_cons_zero, List.set_cons_succ]
 have hw12 := k2.size
 have hdr : w1.drew.heap.size = w1.heap.size := rfl
 have H2 := Lib.hid (And.intro hR2 (And.intro k2 ((k2.block rp (lt_of_heap H.out.2.1) (by omega)).trans H.out.2.1)))
 have b3 := (k2.block ep (lt_of_heap H.out.2.2.1) (by omega)).trans H.out.2.2.1
 have o2 := (H.out.2.2.2.1.old ((Keeps.refl _ _).drew)).keeps k2 (fun b hb e => by have := (H.out.2.2.2.1.block b hb).1; omega)
 have B3 := Lib.hid b3
 have OB := Lib.hid (fun b (hb : v.ownBlock = some b) => (o2.block b hb).1)
 have hz : ep + 1 ≤ w2.heap.size := lt_of_heap b3
 have SN := Lib.hid (SeesR.new (k := 2) (enc := gapL) w2 121 (0, 0) [((ga, gb) : PGap)] #[.int .u64 ga, .int .u64 gb] (by simp [gapL]) (fun _ => rfl) (by unfold maxLen; simp))
 have O2 := Lib.hid (o2.alloc (.cells #[.int .u64 ga, .int .u64 gb] 121))
 have HN := Lib.hid (show s.length + 1 ≤ maxLen ∧ (s.length + 1) * 16 ≤ 140737488355328 ∧ w.heap.size ≤ (w2.alloc (.cells #[.int .u64 ga, .int .u64 gb] 121)).heap.size from ⟨by unfold maxLen; omega, by omega, by simp; omega⟩)
 clear hR2 k2 b3 o2
 refine wpAnyG_onlyL (i := 6) (o := _) (by kernel_rfl) rfl (fun K hK => ?_)
 go_simp
 have hS3 : (w2.alloc (.cells #[.int .u64 ga, .int .u64 gb] 121)).cell? ⟨ep, 3, none⟩ = some v ∧ (w2.alloc (.cells #[.int .u64 ga, .int .u64 gb] 121)).cell? ⟨rp, 0, none⟩ = some (.pointer (some ⟨rb, 0, none⟩)) := ⟨((Keeps.refl (fun _ => False) w2).alloc _).cell hS2.1 (fun f => f), ((Keeps.refl (fun _ => False) w2).alloc _).cell hS2.2 (fun f => f)⟩
 refine hK.out _ _ (fun _ => hS3) ?_
 clear hK K
 try simp only [Act.put, List.setIfInBounds_toArray, List.set_cons_zero, List.set_cons_succ]
 refine wpAnyG_onlyL (i := 7) (o := _) (by kernel_rfl) rfl (fun K hK => ?_)
 refine step_append_rows (P := Tryz.prog) rfl _ _ 33 rfl w.heap.size 121 2 16 gapL _ Tryz.underlying33 Tryz.infoGap rfl (by decide) v s (by rfl) O2.out _ [((ga, gb) : PGap)] (by rfl) SN.out (fun _ _ => rfl) (by simp [gapL, Value.oneCell']) HN.out.1 HN.out.2.1 HN.out.2.2 ?_
 intro v' w3 ho3 hg3 hv3
 obtain ⟨p', n', c', rfl⟩ : ∃ p n c, v' = .slice p n c := by obtain ⟨p, c, h, _⟩ := (ho3.sees (fun _ => rfl) (by decide)).len; exact ⟨p, _, c, h⟩
 have k3 : Keeps (fun k => ep < k) w2 w3 := (((Keeps.refl _ _).alloc _).grown hg3 (fun k hk _ => by have := OB.out k hk; omega))
 have hS4 : w3.cell? ⟨ep, 3, none⟩ = some v ∧ w3.cell? ⟨rp, 0, none⟩ = some (.pointer (some ⟨rb, 0, none⟩)) := ⟨k3.cell hS2.1 (by dsimp only; omega), k3.cell hS2.2 (by dsimp only; omega)⟩
 have b4 := (k3.block ep hz (by omega)).trans B3.out
 have F := Lib.hid (And.intro k3 (And.intro ho3 (And.intro b4 (And.intro hg3 hv3))))
 have g4 := (blk5 b4).1
 have g5 := (blk5 b4).2
 clear k3 ho3 b4 hg3 hv3 hS3
 refine hK.out _ _ (fun _ => hS4) ?_
 clear hK K
 try simp only [Act.put, List.setIfInBounds_toArray, List.set_cons_zero, List.set_cons_succ]
 refine wpAnyG_takeL (i := 8) (oi := _) (v := ?va8) rfl (by kernel_rfl) (by kernel_rfl) (by kernel_rfl) (by kernel_rfl) (fun _ _ _ h => h) (Or.inl ⟨by rfl, ?ya8⟩) hS4 ?ra8
 case ya8 => (intro W hSw; go_simp; try with_reducible rfl)
 try simp only [Act.put, List.setIfInBounds_toArray, List.set_cons_zero, List.set_cons_succ]
 refine wpAnyG_onlyL (i := 9) (o := _) (by kernel_rfl) rfl (fun K hK => ?_)
 go_simp
 refine hK.out _ _ (fun h => absurd h (by decide)) ?_
 clear hK K
 refine wpAnyG_done (by kernel_rfl) ?_ _
 go_simp
 go_wp2_with fail
 go_end0
 refine ⟨rfl, ?_⟩
 have hb4 := F.out.2.1.block
 have kF : Keeps (fun k => ep ≤ k) w2 (w3.setCell ⟨ep, 3, none⟩ (.slice p' n' c')) := (F.out.1.weaken (fun i _ h => Nat.le_of_lt h)).setCell (fun _ => Nat.le_refl _) _
 refine ⟨H2.out.1.far kF (fun k hk => ⟨by omega, by omega⟩), (kF.block rp (lt_of_heap H2.out.2.2) (by omega)).trans H2.out.2.2, ⟨.slice p' n' c', ?_, ?_⟩, ?_⟩
 ·have := heap_setCell_same w3 ep 3 _ _ (.slice p' n' c') F.out.2.2.1
  simpa using this
 ·exact F.out.2.1.keeps ((Keeps.refl (fun k => k = ep) _).setCell (fun _ => rfl) _) (fun b hb e => by have := (hb4 b hb).1; omega)
 ·have kG0 : Keeps (fun k => k = ep ∨ w.heap.size ≤ k) w2 w3 := ((Keeps.refl _ w2).alloc _).grown F.out.2.2.2.1 (fun k hk _ => Or.inr (OB.out k hk))
  have kG := kG0.setCell (p := ⟨ep, 3, none⟩) (fun _ => Or.inl rfl) (.slice p' n' c')
  exact ((H.out.2.2.2.2.then (Keeps.refl (fun _ => False) w1).drew (fun _ _ f => f.elim)).then (H2.out.2.1) (fun i _ e => Or.inl e)).then kG (fun i hi h => by omega)
theorem cpage2_no (B rb bb rp ep : Nat) (fr en : Nat) (it : Value) (w0 : World) (s : List PGap) (l : List UInt8) (w W : World) (_hB : B ≤ w0.heap.size) (hrb : rb < w0.heap.size) (hrp : rp ≠ rb) (_hep : rp < ep) (hwe : w0.heap.size ≤ ep) (_hew : ep < w.heap.size) (hk0 : RK rb w0 w)
  (h : GpInv w B rb bb rp ep fr en it s l W) (hp : pGap l = none) :
  Calls Tryz.prog 128 #[.pointer (some ⟨rp, 0, none⟩), .pointer (some ⟨ep, 0, none⟩)] W fun e W' => e = .panicked fault ∧ Bad w0 B rb bb W' := by
 obtain ⟨hR, h1, ⟨v, h2, ho⟩, hk⟩ := h
 have f0 := (blk1 h1).1
 have hkb : RK rb w0 W := hk0.then hk (fun i hi e => by omega)
 rcases pGap_nones hp with q | ⟨ga, l1, q1, q2⟩
 ·have HT := Lib.hid (cnum_no B rb bb 1099511627776 l W hR (by decide) q)
  have G := Lib.hid hkb
  clear h1 h2 ho hk hp q hR hkb
  go_enter Tryz.func128, Tryz.ntmps128
  go_wp2_with fail
  refine HT.out.mono ?_
  rintro e w1 ⟨rfl, hR1, k1⟩
  have R := Lib.hid (show Bad w0 B rb bb w1 from ⟨⟨_, hR1⟩, G.out.trans k1⟩)
  clear hR1 k1
  go_wp2_with fail
  exact ⟨rfl, rfl, R.out⟩
 have HT := Lib.hid (cnum_yes B rb bb 1099511627776 ga l l1 W hR (by decide) q1)
 have HV := Lib.hid (fun W' (h : Rd W' B rb bb l1) => (cnum_no B rb bb 1099511627776 l1 W' h (by decide) q2).mono (fun e w' h => (⟨h.1, ⟨_, h.2.1⟩, h.2.2⟩ : e = .panicked fault ∧ (∃ r, Rd w' B rb bb r) ∧ RK rb W' w')))
 have G := Lib.hid (And.intro h1 (And.intro h2 hkb))
 clear h1 h2 ho hk hp q1 q2 hR hkb
 go_enter Tryz.func128, Tryz.ntmps128
 go_wp2_with fail
 refine HT.out.mono ?_
 rintro e w1 ⟨rfl, hR1, k1⟩
 have b1 := (k1.block rp (lt_of_heap G.out.1) (by omega)).trans G.out.1
 have b2 := (k1.block ep (lt_of_heap G.out.2.1) (by omega)).trans G.out.2.1
 have g1 := (blk1 b1).1
 have g2 := (blk5 b2).1.2.2.2.1
 have H := Lib.hid (And.intro hR1 (And.intro trivial (G.out.2.2.trans k1)))
 clear hR1 k1 b1 b2 f0
 go_wp2_with fail
 refine wp_region_g (S := fun W' => W'.cell? ⟨ep, 3, none⟩ = some v ∧ W'.cell? ⟨rp, 0, none⟩ = some (.pointer (some ⟨rb, 0, none⟩))) (M := [0, 1, 2, 3, 4, 5, 6, 7, 8]) (by kernel_rfl) ?_
 have hS : w1.drew.cell? ⟨ep, 3, none⟩ = some v ∧ w1.drew.cell? ⟨rp, 0, none⟩ = some (.pointer (some ⟨rb, 0, none⟩)) := ⟨g2, g1⟩
 refine wpAnyG_takeL (i := 0) (oi := _) (v := ?va0) rfl (by kernel_rfl) (by kernel_rfl) (by kernel_rfl) (by kernel_rfl) (fun _ _ _ h => h) (Or.inl ⟨by rfl, ?ya0⟩) hS ?ra0
 case ya0 => (intro W hSw; go_simp; try with_reducible rfl)
 try simp only [Act.put, List.setIfInBounds_toArray, List.set_cons_zero, List.set_cons_succ]
 refine wpAnyG_takeL (i := 1) (oi := _) (v := ?va1) rfl (by kernel_rfl) (by kernel_rfl) (by kernel_rfl) (by kernel_rfl) (fun _ _ _ h => h) (Or.inl ⟨by rfl, ?ya1⟩) hS ?ra1
 case ya1 => (intro W hSw; obtain ⟨y1, y2⟩ := hSw; go_simp; try with_reducible rfl)
 try simp only [Act.put, List.setIfInBounds_toArray, List.set_cons_zero, List.set_cons_succ]
 refine wpAnyG_takeL (i := 2) (oi := _) (v := ?va2) rfl (by kernel_rfl) (by kernel_rfl) (by kernel_rfl) (by kernel_rfl) (fun _ _ _ h => h) (Or.inl ⟨by rfl, ?ya2⟩) hS ?ra2
 case ya2 => (intro W hSw; go_simp; try with_reducible rfl)
 try simp only [Act.put, List.setIfInBounds_toArray, List.set_cons_zero, List.set_cons_succ]
 refine wpAnyG_takeL (i := 3) (oi := _) (v := ?va3) rfl (by kernel_rfl) (by kernel_rfl) (by kernel_rfl) (by kernel_rfl) (fun _ _ _ h => h) (Or.inl ⟨by rfl, ?ya3⟩) hS ?ra3
 case ya3 => (intro W hSw; obtain ⟨y1, y2⟩ := hSw; go_simp; try with_reducible rfl)
 try simp only [Act.put, List.setIfInBounds_toArray, List.set_cons_zero, List.set_cons_succ]
 refine wpAnyG_onlyL (i := 4) (o := _) (by kernel_rfl) rfl (fun K hK => ?_)
 go_simp
 refine (HV.out _ (H.out.1.old (Keeps.refl _ _).drew)).mono ?_
 rintro e w2 ⟨rfl, hbad⟩
 have R := Lib.hid (show Bad w0 B rb bb w2 from ⟨hbad.1, ((H.out.2.2).then (Keeps.refl (fun _ => False) w1).drew (fun _ _ f => f.elim)).trans hbad.2⟩)
 clear hbad
 go_wp2_with fail
 exact ⟨rfl, rfl, R.out⟩
end
end Go.Proofs.YtpjpimahnnekkaaGreat
