/- DERIVED. The contract of codec's reader: page. -/
import Derived.Test.YtpjpimahnnekkaaGreatYpMsgForms13
set_option maxRecDepth 100000
set_option maxHeartbeats 8000000
namespace Go.Proofs.YtpjpimahnnekkaaGreat
section
open Go.RowKit
structure PPg where
 fr : Nat
 en : Nat
 items : List PIt
 gaps : List PGap
 last : Bool
def pPage (l : List UInt8) : Option (PPg × List UInt8) := (pNum 1099511627777 l).bind fun a => (pNum 1099511627777 a.2).bind fun b => (pList 4 pItem b.2).bind fun c => (pList 16 pGap c.2).bind fun d => (pNum 1 d.2).map fun f => (⟨a.1, b.1, c.1, d.1, f.1 == 1⟩, f.2)
theorem set5 {w : World} {b : Nat} {t : TypeId} {x0 x1 x2 x3 x4 a0 a1 a2 a3 a4 : Value} (h : w.heap[b]? = some (.cells #[x0, x1, x2, x3, x4] t (0, 0))) :
  (((((w.setCell ⟨b, 0, none⟩ a0).setCell ⟨b, 1, none⟩ a1).setCell ⟨b, 2, none⟩ a2).setCell ⟨b, 3, none⟩ a3).setCell ⟨b, 4, none⟩ a4).heap[b]? = some (.cells #[a0, a1, a2, a3, a4] t (0, 0)) := by
 have h0 := heap_setCell_same w b 0 _ _ a0 h
 have h1 := heap_setCell_same _ b 1 _ _ a1 h0
 have h2 := heap_setCell_same _ b 2 _ _ a2 h1
 have h3 := heap_setCell_same _ b 3 _ _ a3 h2
 have h4 := heap_setCell_same _ b 4 _ _ a4 h3
 simpa using h4
def PgBeg (w : World) (B rb bb fr en : Nat) (l : List UInt8) (v : Value) (W : World) : Prop :=
 ∃ ep, v = .pointer (some ⟨ep, 0, none⟩) ∧ w.heap.size ≤ ep ∧ W.heap[ep]? = some (.cells #[.int .u64 fr, .int .u64 en, .slice none 0 0, .slice none 0 0, .bool false] 35 (0, 0)) ∧ Rd W B rb bb l ∧ RK rb w W
theorem pgbeg_close {W0 w2 : World} {B rb bb ep fr en : Nat} {l : List UInt8} {x0 x1 x2 x3 x4 : Value} (q : w2.heap[ep]? = some (.cells #[x0, x1, x2, x3, x4] 35 (0, 0))) (hR : Rd w2 B rb bb l) (hk : RK rb W0 w2) (h0 : W0.heap.size ≤ ep) (hrb : rb < W0.heap.size) (hB : B ≤ W0.heap.size) :
  PgBeg W0 B rb bb fr en l (.pointer (some ⟨ep, 0, none⟩)) (((((w2.setCell ⟨ep, 0, none⟩ (.int .u64 fr)).setCell ⟨ep, 1, none⟩ (.int .u64 en)).setCell ⟨ep, 2, none⟩ (.slice none 0 0)).setCell ⟨ep, 3, none⟩ (.slice none 0 0)).setCell ⟨ep, 4, none⟩ (.bool false)) := by
 have step : ∀ {a b : World} {i : Nat} (u : Value), Keeps (fun k => k = ep) a b → Keeps (fun k => k = ep) a (b.setCell ⟨ep, i, none⟩ u) := fun u h => h.setCell (fun _ => rfl) u
 have kk : Keeps (fun k => k = ep) w2 (((((w2.setCell ⟨ep, 0, none⟩ (.int .u64 fr)).setCell ⟨ep, 1, none⟩ (.int .u64 en)).setCell ⟨ep, 2, none⟩ (.slice none 0 0)).setCell ⟨ep, 3, none⟩ (.slice none 0 0)).setCell ⟨ep, 4, none⟩ (.bool false)) :=
  step _ (step _ (step _ (step _ (step _ (Keeps.refl _ _)))))
 exact ⟨ep, rfl, h0, set5 q, hR.far kk (fun k hk => by omega), hk.then kk (fun i hi e => by omega)⟩
def PgPost (w : World) (B rb bb : Nat) (res : Option (PPg × List UInt8)) (e : Ending) (w' : World) : Prop :=
 match res with
 | some x => (∃ p n c p' n' c' s', e = .returned (.agg #[.int .u64 x.1.fr, .int .u64 x.1.en, .slice p n c, .slice p' n' c', .bool x.1.last]) ∧ s'.map It.plain = x.1.items ∧
   OwnN w' w.heap.size 29 4 It.cells It.av ItF (.slice p n c) s' ∧ OwnsR w' w.heap.size 121 2 gapL (.slice p' n' c') x.1.gaps) ∧ Rd w' B rb bb x.2 ∧ RK rb w w'
 | none => e = .panicked fault ∧ Bad w B rb bb w'
theorem cpage_no1 (B rb bb : Nat) (l : List UInt8) (w : World) (h : Rd w B rb bb l) (hp : pNum 1099511627777 l = none) :
  Calls Tryz.prog 92 #[rdV rb] w (fun e w' => e = .panicked fault ∧ Bad w B rb bb w') := by
 have hrb := h.lt
 have hbase := h.base
 obtain ⟨W0, hW0⟩ : ∃ W0, (w.alloc (.cells #[.pointer (some ⟨rb, 0, none⟩)] 146)).alloc (.cells #[.int .u64 0, .int .u64 0, .slice none 0 0, .slice none 0 0, .bool false] 35) = W0 := ⟨_, rfl⟩
 have k0 : Old w W0 := by rw [← hW0]; exact ((Keeps.refl _ _).alloc _).alloc _
 have hb := two_blocks w (.cells #[.pointer (some ⟨rb, 0, none⟩)] 146) (.cells #[.int .u64 0, .int .u64 0, .slice none 0 0, .slice none 0 0, .bool false] 35)
 rw [hW0] at hb
 have kk : RK rb w W0 := k0.weaken (fun _ _ f => f.elim)
 have hR0 := h.old k0
 have HB := Lib.hid hb
 have HK := Lib.hid kk
 have hsz : w.heap.size + 1 < W0.heap.size := lt_of_heap hb.2
 have f0 := (blk1 hb.1).1
 have HR0 := Lib.hid hR0
 clear hb kk h k0 hR0
 have HT := Lib.hid (fun W (h : Rd W B rb bb l) => cnum_no B rb bb 1099511627777 l W h (by decide) hp)
 clear hp
 go_enter Tryz.func92, Tryz.ntmps92
 go_upto_region 1 with fail
 refine wp_region_g (S := fun W' => W'.cell? ⟨w.heap.size, 0, none⟩ = some (.pointer (some ⟨rb, 0, none⟩))) (M := [0, 1, 2, 3, 4, 5]) (by kernel_rfl) ?_
 have hS : W0.drew.cell? ⟨w.heap.size, 0, none⟩ = some (.pointer (some ⟨rb, 0, none⟩)) := f0
 refine wpAnyG_takeL (i := 0) (oi := _) (v := ?va0) rfl (by kernel_rfl) (by kernel_rfl) (by kernel_rfl) (by kernel_rfl) (fun _ _ _ h => h) (Or.inl ⟨by rfl, ?ya0⟩) hS ?ra0
 case ya0 => (intro W hSw; go_simp; try with_reducible rfl)
 try simp only [Act.put, List.setIfInBounds_toArray, List.set_cons_zero, List.set_cons_succ]
 refine wpAnyG_takeL (i := 2) (oi := _) (v := ?va2) rfl (by kernel_rfl) (by kernel_rfl) (by kernel_rfl) (by kernel_rfl) (fun _ _ _ h => h) (Or.inl ⟨by rfl, ?ya2⟩) hS ?ra2
 case ya2 => (intro W hSw; go_simp; try with_reducible rfl)
 try simp only [Act.put, List.setIfInBounds_toArray, List.set_cons_zero, List.set_cons_succ]
 refine wpAnyG_ready (rs := [1, 5]) (by kernel_rfl) (by simp) ?_
 refine AllReadyG.cons (o := _) rfl (fun K hK => ?_) (AllReadyG.cons (o := _) rfl (fun K hK => ?_) AllReadyG.nil)
 ·go_simp
  refine (HT.out _ (HR0.out.old (Keeps.refl _ _).drew)).mono ?_
  rintro e w9 ⟨rfl, hbad⟩
  have R := Lib.hid (show Bad w B rb bb w9 from ⟨⟨_, hbad.1⟩, ((HK.out.then (Keeps.refl (fun _ => False) W0).drew (fun _ _ f => f.elim))).trans hbad.2⟩)
  clear hbad
  go_wp2_with fail
  exact ⟨rfl, rfl, R.out⟩
 ·go_simp
  have o_a : Old W0.drew (W0.drew.alloc (.cells #[.int .u64 0, .int .u64 0, .slice none 0 0, .slice none 0 0, .bool false] 35)) := (Keeps.refl _ _).alloc _
  have hS_a : (W0.drew.alloc (.cells #[.int .u64 0, .int .u64 0, .slice none 0 0, .slice none 0 0, .bool false] 35)).cell? ⟨w.heap.size, 0, none⟩ = some (.pointer (some ⟨rb, 0, none⟩)) := o_a.cell hS (fun f => f)
  refine hK.out _ _ (fun _ => hS_a) ?_
  clear hK K
  try simp only [Act.put, List.setIfInBounds_toArray, List.set_cons_zero, List.set_cons_succ]
  refine wpAnyG_onlyL (i := 1) (o := _) (by kernel_rfl) rfl (fun K hK => ?_)
  go_simp
  refine (HT.out _ ((HR0.out.old (Keeps.refl _ _).drew).old o_a)).mono ?_
  rintro e w9 ⟨rfl, hbad⟩
  have R := Lib.hid (show Bad w B rb bb w9 from ⟨⟨_, hbad.1⟩, ((HK.out.then (Keeps.refl (fun _ => False) W0).drew (fun _ _ f => f.elim)).then o_a (fun _ _ f => f.elim)).trans hbad.2⟩)
  clear hbad
  go_wp2_with fail
  exact ⟨rfl, rfl, R.out⟩
theorem cpage_no2 (B rb bb : Nat) (l : List UInt8) (w : World) (h : Rd w B rb bb l) (n : Nat) (l1 : List UInt8) (hp : pNum 1099511627777 l = some (n, l1)) (hq : pNum 1099511627777 l1 = none) :
  Calls Tryz.prog 92 #[rdV rb] w (fun e w' => e = .panicked fault ∧ Bad w B rb bb w') := by
 have hrb := h.lt
 have hbase := h.base
 obtain ⟨W0, hW0⟩ : ∃ W0, (w.alloc (.cells #[.pointer (some ⟨rb, 0, none⟩)] 146)).alloc (.cells #[.int .u64 0, .int .u64 0, .slice none 0 0, .slice none 0 0, .bool false] 35) = W0 := ⟨_, rfl⟩
 have k0 : Old w W0 := by rw [← hW0]; exact ((Keeps.refl _ _).alloc _).alloc _
 have hb := two_blocks w (.cells #[.pointer (some ⟨rb, 0, none⟩)] 146) (.cells #[.int .u64 0, .int .u64 0, .slice none 0 0, .slice none 0 0, .bool false] 35)
 rw [hW0] at hb
 have kk : RK rb w W0 := k0.weaken (fun _ _ f => f.elim)
 have hR0 := h.old k0
 have HB := Lib.hid hb
 have HK := Lib.hid kk
 have hsz : w.heap.size + 1 < W0.heap.size := lt_of_heap hb.2
 have f0 := (blk1 hb.1).1
 have HR0 := Lib.hid hR0
 clear hb kk h k0 hR0
 have HT := Lib.hid (fun W (h : Rd W B rb bb l) => cnum_yes B rb bb 1099511627777 n l l1 W h (by decide) hp)
 have HN := Lib.hid (fun W (h : Rd W B rb bb l1) => cnum_no B rb bb 1099511627777 l1 W h (by decide) hq)
 clear hp hq
 go_enter Tryz.func92, Tryz.ntmps92
 go_upto_region 1 with fail
 refine wp_region_g (S := fun W' => W'.cell? ⟨w.heap.size, 0, none⟩ = some (.pointer (some ⟨rb, 0, none⟩))) (M := [0, 1, 2, 3, 4, 5]) (by kernel_rfl) ?_
 have hS : W0.drew.cell? ⟨w.heap.size, 0, none⟩ = some (.pointer (some ⟨rb, 0, none⟩)) := f0
 refine wpAnyG_takeL (i := 0) (oi := _) (v := ?vb0) rfl (by kernel_rfl) (by kernel_rfl) (by kernel_rfl) (by kernel_rfl) (fun _ _ _ h => h) (Or.inl ⟨by rfl, ?yb0⟩) hS ?rb0
 case yb0 => (intro W hSw; go_simp; try with_reducible rfl)
 try simp only [Act.put, List.setIfInBounds_toArray, List.set_cons_zero, List.set_cons_succ]
 refine wpAnyG_takeL (i := 2) (oi := _) (v := ?vb2) rfl (by kernel_rfl) (by kernel_rfl) (by kernel_rfl) (by kernel_rfl) (fun _ _ _ h => h) (Or.inl ⟨by rfl, ?yb2⟩) hS ?rb2
 case yb2 => (intro W hSw; go_simp; try with_reducible rfl)
 try simp only [Act.put, List.setIfInBounds_toArray, List.set_cons_zero, List.set_cons_succ]
 refine wpAnyG_ready (rs := [1, 5]) (by kernel_rfl) (by simp) ?_
 refine AllReadyG.cons (o := _) rfl (fun K hK => ?_) (AllReadyG.cons (o := _) rfl (fun K hK => ?_) AllReadyG.nil)
 ·go_simp
  refine (HT.out _ (HR0.out.old (Keeps.refl _ _).drew)).mono ?_
  rintro e w1 ⟨rfl, hR_w1, k_w1⟩
  have hS_w1 : w1.cell? ⟨w.heap.size, 0, none⟩ = some (.pointer (some ⟨rb, 0, none⟩)) := k_w1.cell hS (by dsimp only; omega)
  go_wp2_with fail
  refine hK.out _ _ (fun _ => hS_w1) ?_
  clear hK K
  try simp only [Act.put, List.setIfInBounds_toArray, List.set_cons_zero, List.set_cons_succ]
  refine wpAnyG_ready (rs := [3, 5]) (by kernel_rfl) (by simp) ?_
  refine AllReadyG.cons (o := _) rfl (fun K hK => ?_) (AllReadyG.cons (o := _) rfl (fun K hK => ?_) AllReadyG.nil)
  ·go_simp
   refine (HN.out _ hR_w1).mono ?_
   rintro e w9 ⟨rfl, hbad⟩
   have R := Lib.hid (show Bad w B rb bb w9 from ⟨⟨_, hbad.1⟩, ((HK.out.then (Keeps.refl (fun _ => False) W0).drew (fun _ _ f => f.elim)).trans k_w1).trans hbad.2⟩)
   clear hbad
   go_wp2_with fail
   exact ⟨rfl, rfl, R.out⟩
  ·go_simp
   have o_a : Old w1 (w1.alloc (.cells #[.int .u64 0, .int .u64 0, .slice none 0 0, .slice none 0 0, .bool false] 35)) := (Keeps.refl _ _).alloc _
   have hS_a : (w1.alloc (.cells #[.int .u64 0, .int .u64 0, .slice none 0 0, .slice none 0 0, .bool false] 35)).cell? ⟨w.heap.size, 0, none⟩ = some (.pointer (some ⟨rb, 0, none⟩)) := o_a.cell hS_w1 (fun f => f)
   refine hK.out _ _ (fun _ => hS_a) ?_
   clear hK K
   try simp only [Act.put, List.setIfInBounds_toArray, List.set_cons_zero, List.set_cons_succ]
   refine wpAnyG_onlyL (i := 3) (o := _) (by kernel_rfl) rfl (fun K hK => ?_)
   go_simp
   refine (HN.out _ (hR_w1.old o_a)).mono ?_
   rintro e w9 ⟨rfl, hbad⟩
   have R := Lib.hid (show Bad w B rb bb w9 from ⟨⟨_, hbad.1⟩, (((HK.out.then (Keeps.refl (fun _ => False) W0).drew (fun _ _ f => f.elim)).trans k_w1).then o_a (fun _ _ f => f.elim)).trans hbad.2⟩)
   clear hbad
   go_wp2_with fail
   exact ⟨rfl, rfl, R.out⟩
 ·go_simp
  have o_a : Old W0.drew (W0.drew.alloc (.cells #[.int .u64 0, .int .u64 0, .slice none 0 0, .slice none 0 0, .bool false] 35)) := (Keeps.refl _ _).alloc _
  have hS_a : (W0.drew.alloc (.cells #[.int .u64 0, .int .u64 0, .slice none 0 0, .slice none 0 0, .bool false] 35)).cell? ⟨w.heap.size, 0, none⟩ = some (.pointer (some ⟨rb, 0, none⟩)) := o_a.cell hS (fun f => f)
  refine hK.out _ _ (fun _ => hS_a) ?_
  clear hK K
  try simp only [Act.put, List.setIfInBounds_toArray, List.set_cons_zero, List.set_cons_succ]
  refine wpAnyG_onlyL (i := 1) (o := _) (by kernel_rfl) rfl (fun K hK => ?_)
  go_simp
  refine (HT.out _ ((HR0.out.old (Keeps.refl _ _).drew).old o_a)).mono ?_
  rintro e w1 ⟨rfl, hR_w1, k_w1⟩
  have hS_w1 : w1.cell? ⟨w.heap.size, 0, none⟩ = some (.pointer (some ⟨rb, 0, none⟩)) := k_w1.cell hS_a (by dsimp only; omega)
  go_wp2_with fail
  refine hK.out _ _ (fun _ => hS_w1) ?_
  clear hK K
  try simp only [Act.put, List.setIfInBounds_toArray, List.set_cons_zero, List.set_cons_succ]
  refine wpAnyG_onlyL (i := 3) (o := _) (by kernel_rfl) rfl (fun K hK => ?_)
  go_simp
  refine (HN.out _ hR_w1).mono ?_
  rintro e w9 ⟨rfl, hbad⟩
  have R := Lib.hid (show Bad w B rb bb w9 from ⟨⟨_, hbad.1⟩, (((HK.out.then (Keeps.refl (fun _ => False) W0).drew (fun _ _ f => f.elim)).then o_a (fun _ _ f => f.elim)).trans k_w1).trans hbad.2⟩)
  clear hbad
  go_wp2_with fail
  exact ⟨rfl, rfl, R.out⟩
theorem cpage_yes2 (B rb bb : Nat) (l : List UInt8) (w : World) (h : Rd w B rb bb l) (fr en : Nat) (l1 l2 : List UInt8) (hp : pNum 1099511627777 l = some (fr, l1)) (hq : pNum 1099511627777 l1 = some (en, l2)) :
  Calls Tryz.prog 92 #[rdV rb] w (PgPost w B rb bb ((pList 4 pItem l2).bind fun c => (pList 16 pGap c.2).bind fun d => (pNum 1 d.2).map fun f => (⟨fr, en, c.1, d.1, f.1 == 1⟩, f.2))) := by
 have hrb := h.lt
 have hbase := h.base
 obtain ⟨W0, hW0⟩ : ∃ W0, (w.alloc (.cells #[.pointer (some ⟨rb, 0, none⟩)] 146)).alloc (.cells #[.int .u64 0, .int .u64 0, .slice none 0 0, .slice none 0 0, .bool false] 35) = W0 := ⟨_, rfl⟩
 have k0 : Old w W0 := by rw [← hW0]; exact ((Keeps.refl _ _).alloc _).alloc _
 have hb := two_blocks w (.cells #[.pointer (some ⟨rb, 0, none⟩)] 146) (.cells #[.int .u64 0, .int .u64 0, .slice none 0 0, .slice none 0 0, .bool false] 35)
 rw [hW0] at hb
 have kk : RK rb w W0 := k0.weaken (fun _ _ f => f.elim)
 have hR0 := h.old k0
 have HB := Lib.hid hb
 have HK := Lib.hid kk
 have hsz : w.heap.size + 1 < W0.heap.size := lt_of_heap hb.2
 have f0 := (blk1 hb.1).1
 have HR0 := Lib.hid hR0
 clear hb kk h k0 hR0
 have HT := Lib.hid (fun W (h : Rd W B rb bb l) => cnum_yes B rb bb 1099511627777 fr l l1 W h (by decide) hp)
 have HN := Lib.hid (fun W (h : Rd W B rb bb l1) => cnum_yes B rb bb 1099511627777 en l1 l2 W h (by decide) hq)
 clear hp hq
 obtain ⟨rs, hrs⟩ : ∃ rs, pList 4 pItem l2 = rs := ⟨_, rfl⟩
 rw [hrs]
 obtain ⟨res, hres⟩ : ∃ res, (rs.bind fun c => (pList 16 pGap c.2).bind fun d => (pNum 1 d.2).map fun f => ((⟨fr, en, c.1, d.1, f.1 == 1⟩ : PPg), f.2)) = res := ⟨_, rfl⟩
 rw [hres]
 have HRES := Lib.hid hres
 have HRS := Lib.hid hrs
 clear hrs hres
 go_enter Tryz.func92, Tryz.ntmps92
 go_upto_region 1 with fail
 go_cut [3] (fun v3 wc => PgBeg W0 B rb bb fr en l2 v3 wc)
 case first =>
  refine wp_region_g (S := fun W' => W'.cell? ⟨w.heap.size, 0, none⟩ = some (.pointer (some ⟨rb, 0, none⟩))) (M := [0, 1, 2, 3, 4, 5]) (by kernel_rfl) ?_
  have hS : W0.drew.cell? ⟨w.heap.size, 0, none⟩ = some (.pointer (some ⟨rb, 0, none⟩)) := f0
  refine wpAnyG_takeL (i := 0) (oi := _) (v := ?vf0) rfl (by kernel_rfl) (by kernel_rfl) (by kernel_rfl) (by kernel_rfl) (fun _ _ _ h => h) (Or.inl ⟨by rfl, ?yf0⟩) hS ?rf0
  case yf0 => (intro W hSw; go_simp; try with_reducible rfl)
  try simp only [Act.put, List.setIfInBounds_toArray, List.set_cons_zero, List.set_cons_succ]
  refine wpAnyG_takeL (i := 2) (oi := _) (v := ?vf2) rfl (by kernel_rfl) (by kernel_rfl) (by kernel_rfl) (by kernel_rfl) (fun _ _ _ h => h) (Or.inl ⟨by rfl, ?yf2⟩) hS ?rf2
  case yf2 => (intro W hSw; go_simp; try with_reducible rfl)
  try simp only [Act.put, List.setIfInBounds_toArray, List.set_cons_zero, List.set_cons_succ]
  have hrbW := HR0.out.lt
  have hbW := HR0.out.base
  refine wpAnyG_ready (rs := [1, 5]) (by kernel_rfl) (by simp) ?_
  refine AllReadyG.cons (o := _) rfl (fun K hK => ?_) (AllReadyG.cons (o := _) rfl (fun K hK => ?_) AllReadyG.nil)
  ·go_simp
   refine (HT.out _ (HR0.out.old (Keeps.refl _ _).drew)).mono ?_
   rintro e w1 ⟨rfl, hR_w1, k_w1⟩
   have hS_w1 : w1.cell? ⟨w.heap.size, 0, none⟩ = some (.pointer (some ⟨rb, 0, none⟩)) := k_w1.cell hS (by dsimp only; omega)
   go_wp2_with fail
   refine hK.out _ _ (fun _ => hS_w1) ?_
   clear hK K
   try simp only [Act.put, List.setIfInBounds_toArray, List.set_cons_zero, List.set_cons_succ]
   refine wpAnyG_ready (rs := [3, 5]) (by kernel_rfl) (by simp) ?_
   refine AllReadyG.cons (o := _) rfl (fun K hK => ?_) (AllReadyG.cons (o := _) rfl (fun K hK => ?_) AllReadyG.nil)
   ·go_simp
    refine (HN.out _ hR_w1).mono ?_
    rintro e w2 ⟨rfl, hR_w2, k_w2⟩
    have hS_w2 : w2.cell? ⟨w.heap.size, 0, none⟩ = some (.pointer (some ⟨rb, 0, none⟩)) := k_w2.cell hS_w1 (by dsimp only; omega)
    go_wp2_with fail
    refine hK.out _ _ (fun _ => hS_w2) ?_
    clear hK K
    try simp only [Act.put, List.setIfInBounds_toArray, List.set_cons_zero, List.set_cons_succ]
    refine wpAnyG_takeL (i := 4) (oi := _) (v := ?vc4) rfl (by kernel_rfl) (by kernel_rfl) (by kernel_rfl) (by kernel_rfl) (fun _ _ _ h => h) (Or.inl ⟨by rfl, ?yc4⟩) hS_w2 ?rc4
    case yc4 => (intro W hSw; go_simp; try with_reducible rfl)
    try simp only [Act.put, List.setIfInBounds_toArray, List.set_cons_zero, List.set_cons_succ]
    refine wpAnyG_onlyL (i := 5) (o := _) (by kernel_rfl) rfl (fun K hK => ?_)
    go_simp
    refine hK.out _ _ (fun _ => (((Keeps.refl (fun _ => False) w2).alloc _).cell hS_w2 (fun f => f))) ?_
    clear hK K
    try simp only [Act.put, List.setIfInBounds_toArray, List.set_cons_zero, List.set_cons_succ]
    refine wpAnyG_onlyL (i := 6) (o := _) (by kernel_rfl) rfl (fun K hK => ?_)
    go_simp
    refine hK.out _ _ (fun h => absurd h (by decide)) ?_
    clear hK K
    refine wpAnyG_done (by kernel_rfl) ?_ _
    go_simp
    go_wp2_with fail
    go_meet
    have hsz2 := k_w2.size
    have hsz1 := k_w1.size
    have e0 : W0.drew.heap.size = W0.heap.size := rfl
    exact ⟨_, rfl, by omega, heap_alloc_new _ _, hR_w2.old ((Keeps.refl _ _).alloc _), ((((Keeps.refl (fun k => k = rb) W0).then (Keeps.refl (fun _ => False) W0).drew (fun _ _ f => f.elim)).trans k_w1).trans k_w2).alloc _⟩
   ·go_simp
    have o_a : Old w1 (w1.alloc (.cells #[.int .u64 0, .int .u64 0, .slice none 0 0, .slice none 0 0, .bool false] 35)) := (Keeps.refl _ _).alloc _
    have hS_a : (w1.alloc (.cells #[.int .u64 0, .int .u64 0, .slice none 0 0, .slice none 0 0, .bool false] 35)).cell? ⟨w.heap.size, 0, none⟩ = some (.pointer (some ⟨rb, 0, none⟩)) := o_a.cell hS_w1 (fun f => f)
    have b_a : (w1.alloc (.cells #[.int .u64 0, .int .u64 0, .slice none 0 0, .slice none 0 0, .bool false] 35)).heap[w1.heap.size]? = some (.cells #[.int .u64 0, .int .u64 0, .slice none 0 0, .slice none 0 0, .bool false] 35 (0, 0)) := heap_alloc_new _ _
    refine hK.out _ _ (fun _ => hS_a) ?_
    clear hK K
    try simp only [Act.put, List.setIfInBounds_toArray, List.set_cons_zero, List.set_cons_succ]
    refine wpAnyG_onlyL (i := 3) (o := _) (by kernel_rfl) rfl (fun K hK => ?_)
    go_simp
    refine (HN.out _ (hR_w1.old o_a)).mono ?_
    rintro e w2 ⟨rfl, hR_w2, k_w2⟩
    have hS_w2 : w2.cell? ⟨w.heap.size, 0, none⟩ = some (.pointer (some ⟨rb, 0, none⟩)) := k_w2.cell hS_a (by dsimp only; omega)
    go_wp2_with fail
    refine hK.out _ _ (fun _ => hS_w2) ?_
    clear hK K
    try simp only [Act.put, List.setIfInBounds_toArray, List.set_cons_zero, List.set_cons_succ]
    refine wpAnyG_takeL (i := 4) (oi := _) (v := ?vd4) rfl (by kernel_rfl) (by kernel_rfl) (by kernel_rfl) (by kernel_rfl) (fun _ _ _ h => h) (Or.inl ⟨by rfl, ?yd4⟩) hS_w2 ?rd4
    case yd4 => (intro W hSw; go_simp; try with_reducible rfl)
    try simp only [Act.put, List.setIfInBounds_toArray, List.set_cons_zero, List.set_cons_succ]
    have q1 := (k_w2.block _ (lt_of_heap b_a) (by have := hR_w1.lt; omega)).trans b_a
    have q2 := blk5 q1
    have hsz1 := k_w1.size
    have e0 : W0.drew.heap.size = W0.heap.size := rfl
    refine wpAnyG_onlyL (i := 6) (o := _) (by kernel_rfl) rfl (fun K hK => ?_)
    go_simp
    refine hK.out _ _ (fun h => absurd h (by decide)) ?_
    clear hK K
    refine wpAnyG_done (by kernel_rfl) ?_ _
    go_simp
    go_wp2_with fail
    go_meet
    exact pgbeg_close q1 hR_w2 (((((Keeps.refl (fun k => k = rb) W0).then (Keeps.refl (fun _ => False) W0).drew (fun _ _ f => f.elim)).trans k_w1).then o_a (fun _ _ f => f.elim)).trans k_w2) (by omega) hrbW hbW
  ·go_simp
   have o_a : Old W0.drew (W0.drew.alloc (.cells #[.int .u64 0, .int .u64 0, .slice none 0 0, .slice none 0 0, .bool false] 35)) := (Keeps.refl _ _).alloc _
   have hS_a : (W0.drew.alloc (.cells #[.int .u64 0, .int .u64 0, .slice none 0 0, .slice none 0 0, .bool false] 35)).cell? ⟨w.heap.size, 0, none⟩ = some (.pointer (some ⟨rb, 0, none⟩)) := o_a.cell hS (fun f => f)
   have b_a : (W0.drew.alloc (.cells #[.int .u64 0, .int .u64 0, .slice none 0 0, .slice none 0 0, .bool false] 35)).heap[W0.heap.size]? = some (.cells #[.int .u64 0, .int .u64 0, .slice none 0 0, .slice none 0 0, .bool false] 35 (0, 0)) := heap_alloc_new _ _
   refine hK.out _ _ (fun _ => hS_a) ?_
   clear hK K
   try simp only [Act.put, List.setIfInBounds_toArray, List.set_cons_zero, List.set_cons_succ]
   have hR_0 := HR0.out.old (Keeps.refl (fun _ => False) W0).drew
   have e0 : W0.drew.heap.size = W0.heap.size := rfl
   refine wpAnyG_onlyL (i := 1) (o := _) (by kernel_rfl) rfl (fun K hK => ?_)
   go_simp
   refine (HT.out _ (hR_0.old o_a)).mono ?_
   rintro e w1 ⟨rfl, hR_w1, k_w1⟩
   have hS_w1 : w1.cell? ⟨w.heap.size, 0, none⟩ = some (.pointer (some ⟨rb, 0, none⟩)) := k_w1.cell hS_a (by dsimp only; omega)
   go_wp2_with fail
   refine hK.out _ _ (fun _ => hS_w1) ?_
   clear hK K
   try simp only [Act.put, List.setIfInBounds_toArray, List.set_cons_zero, List.set_cons_succ]
   have b_b := (k_w1.block _ (lt_of_heap b_a) (by have := hR_0.lt; omega)).trans b_a
   refine wpAnyG_onlyL (i := 3) (o := _) (by kernel_rfl) rfl (fun K hK => ?_)
   go_simp
   refine (HN.out _ hR_w1).mono ?_
   rintro e w2 ⟨rfl, hR_w2, k_w2⟩
   have hS_w2 : w2.cell? ⟨w.heap.size, 0, none⟩ = some (.pointer (some ⟨rb, 0, none⟩)) := k_w2.cell hS_w1 (by dsimp only; omega)
   go_wp2_with fail
   refine hK.out _ _ (fun _ => hS_w2) ?_
   clear hK K
   try simp only [Act.put, List.setIfInBounds_toArray, List.set_cons_zero, List.set_cons_succ]
   refine wpAnyG_takeL (i := 4) (oi := _) (v := ?ve4) rfl (by kernel_rfl) (by kernel_rfl) (by kernel_rfl) (by kernel_rfl) (fun _ _ _ h => h) (Or.inl ⟨by rfl, ?ye4⟩) hS_w2 ?re4
   case ye4 => (intro W hSw; go_simp; try with_reducible rfl)
   try simp only [Act.put, List.setIfInBounds_toArray, List.set_cons_zero, List.set_cons_succ]
   have hrb0 := hR_0.lt
   have q1 := (k_w2.block _ (lt_of_heap b_b) (by omega)).trans b_b
   have q2 := blk5 q1
   refine wpAnyG_onlyL (i := 6) (o := _) (by kernel_rfl) rfl (fun K hK => ?_)
   go_simp
   refine hK.out _ _ (fun h => absurd h (by decide)) ?_
   clear hK K
   refine wpAnyG_done (by kernel_rfl) ?_ _
   go_simp
   go_wp2_with fail
   go_meet
   exact pgbeg_close q1 hR_w2 (((((Keeps.refl (fun k => k = rb) W0).then (Keeps.refl (fun _ => False) W0).drew (fun _ _ f => f.elim)).then o_a (fun _ _ f => f.elim)).trans k_w1).trans k_w2) (by omega) hrbW hbW
 case rest =>
 obtain ⟨ep, rfl, hep, hbe, hRc, hkc⟩ := hcut
 rename World => wc
 have b0 := (hkc.block _ (lt_of_heap HB.out.1) (by omega)).trans HB.out.1
 have g0 := (blk1 b0).1
 have hrbW := HR0.out.lt
 have hbW := HR0.out.base
 have inv : PgInv W0 B rb bb w.heap.size ep fr en [] l2 wc := ⟨hRc, b0, ⟨_, [], hbe, rfl, OwnN.nil _ _⟩, hkc⟩
 have T := times_any B rb bb 4 127 #[.pointer (some ⟨ep, 0, none⟩), .pointer (some ⟨w.heap.size, 0, none⟩)] pItem (PgInv W0 B rb bb w.heap.size ep fr en) (Bad W0 B rb bb) [] l2 wc
  (by decide) (fun args W => by simp [go_sem, callFunc, Tryz.func127]; rfl) (fun _ _ _ h => h.1) (fun s l l' W W' h k r => h.rk (by omega) hrbW hep k r) (fun _ _ _ h => h.bad)
  (fun s l x r W h hs hp => cpage1_yes B rb bb _ _ fr en s x l r W0 W hbW hrbW (by omega) (by omega) hep h (by simpa using hs) hp)
  (fun s l W h hp => cpage1_no B rb bb _ _ fr en s l W0 W hbW hrbW (by omega) (by omega) hep h hp) inv
 have T' : Calls Tryz.prog 120 #[rdV rb, .int .u64 (4 : Nat), .func (.func 127) #[] #[.pointer (some ⟨ep, 0, none⟩), .pointer (some ⟨w.heap.size, 0, none⟩)]] wc (TPost (PgInv W0 B rb bb w.heap.size ep fr en) (Bad W0 B rb bb) rs) := by rw [← HRS.out]; exact T
 have HT2 := Lib.hid T'
 clear HRS inv T T' hRc hkc hbe b0 HT HN
 go_wp2_with fail
 refine HT2.out.mono ?_
 intro e w2 ht
 clear HT2
 rcases rs with _ | ⟨its, l3⟩
 ·obtain ⟨rfl, ht⟩ : e = .panicked fault ∧ Bad W0 B rb bb w2 := ht
  have R := Lib.hid (show Bad w B rb bb w2 from ⟨ht.1, HK.out.trans ht.2⟩)
  have e9 : res = none := by rw [← HRES.out]; rfl
  clear ht HRES
  subst e9
  go_wp2_with fail
  exact ⟨rfl, rfl, R.out⟩
 obtain ⟨rfl, hR2, hrp2, ⟨v, s', hv, hm, hon⟩, k2⟩ : e = .returned (.tuple #[]) ∧ PgInv W0 B rb bb w.heap.size ep fr en its l3 w2 := ht
 obtain ⟨p1, n1, c1, rfl⟩ : ∃ p n c, v = .slice p n c := by obtain ⟨p, c, h, _⟩ := (hon.1.sees (fun _ => rfl) (by decide)).len; exact ⟨p, _, c, h⟩
 have g1 := (blk1 hrp2).1
 have hew := lt_of_heap hv
 have hrb2 := hR2.lt
 have hsz2 := k2.size
 have ginv : GpInv w2 B rb bb w.heap.size ep fr en (.slice p1 n1 c1) [] l3 w2 := ⟨hR2, hrp2, ⟨_, hv, OwnsR.nil _ _⟩, Keeps.refl _ _⟩
 obtain ⟨rg, hrg⟩ : ∃ rs, pList 16 pGap l3 = rs := ⟨_, rfl⟩
 have T := times_any B rb bb 16 128 #[.pointer (some ⟨w.heap.size, 0, none⟩), .pointer (some ⟨ep, 0, none⟩)] pGap (GpInv w2 B rb bb w.heap.size ep fr en (.slice p1 n1 c1)) (Bad W0 B rb bb) [] l3 w2
  (by decide) (fun args W => by simp [go_sem, callFunc, Tryz.func128]; rfl) (fun _ _ _ h => h.1) (fun s l l' W W' h k r => h.rk (by omega) hrb2 (by omega) k r) (fun _ _ _ h => ⟨⟨_, h.1⟩, k2.then h.2.2.2 (fun i hi e => by omega)⟩)
  (fun s l x r W h hs hp => cpage2_yes B rb bb _ _ fr en _ W0 s x l r w2 W hbW hrbW (by omega) (by omega) hep hew k2 h (by simpa using hs) hp)
  (fun s l W h hp => cpage2_no B rb bb _ _ fr en _ W0 s l w2 W hbW hrbW (by omega) (by omega) hep hew k2 h hp) ginv
 have T' : Calls Tryz.prog 120 #[rdV rb, .int .u64 (16 : Nat), .func (.func 128) #[] #[.pointer (some ⟨w.heap.size, 0, none⟩), .pointer (some ⟨ep, 0, none⟩)]] w2 (TPost (GpInv w2 B rb bb w.heap.size ep fr en (.slice p1 n1 c1)) (Bad W0 B rb bb) rg) := by rw [← hrg]; exact T
 have HT3 := Lib.hid T'
 have HRG := Lib.hid hrg
 have H2 := Lib.hid (And.intro hon (And.intro hm k2))
 clear hon hm k2 ginv T T' hrg hR2 hrp2 hv
 go_wp2_with fail
 refine HT3.out.mono ?_
 intro e w3 ht
 clear HT3
 rcases rg with _ | ⟨gs, l4⟩
 ·obtain ⟨rfl, ht⟩ : e = .panicked fault ∧ Bad W0 B rb bb w3 := ht
  have R := Lib.hid (show Bad w B rb bb w3 from ⟨ht.1, HK.out.trans ht.2⟩)
  have e9 : res = none := by rw [← HRES.out]; simp only [Option.bind_some]; rw [HRG.out]; rfl
  clear ht HRG HRES
  subst e9
  go_wp2_with fail
  exact ⟨rfl, rfl, R.out⟩
 obtain ⟨rfl, hR3, hrp3, ⟨u, hu, hg⟩, k3⟩ : e = .returned (.tuple #[]) ∧ GpInv w2 B rb bb w.heap.size ep fr en (.slice p1 n1 c1) gs l4 w3 := ht
 obtain ⟨p2, n2, c2, rfl⟩ : ∃ p n c, u = .slice p n c := by obtain ⟨p, c, h, _⟩ := (hg.sees (fun _ => rfl) (by decide)).len; exact ⟨p, _, c, h⟩
 have hb3 := (k3.block _ (by omega) (by omega)).trans ((H2.out.2.2.block _ hsz (by omega)).trans HB.out.2)
 have g3 := blk5 hb3
 have g4 := blk5 hu
 have g5 := (blk1 hrp3).1
 have hlt3 := lt_of_heap hu
 cases hl : pNum 1 l4 with
 | none =>
  have e9 : res = none := by rw [← HRES.out]; simp only [Option.bind_some]; rw [HRG.out]; simp only [Option.bind_some]; rw [hl]; rfl
  have HV := Lib.hid (cnum_no B rb bb 1 l4 w3 hR3 (by decide) hl)
  have K3 := Lib.hid ((HK.out.trans H2.out.2.2).then k3 (fun i hi e => by omega))
  clear HRES HRG hg hu hrp3 hR3 k3 hb3 hl
  subst e9
  go_wp2_with fail
  refine HV.out.mono ?_
  rintro e w4 ⟨rfl, hR4, k4⟩
  have R := Lib.hid (show Bad w B rb bb w4 from ⟨⟨_, hR4⟩, K3.out.trans k4⟩)
  clear hR4 k4
  go_wp2_with fail
  exact ⟨rfl, rfl, R.out⟩
 | some x =>
  obtain ⟨mk, r⟩ := x
  have hmk := (pNum_inv hl).2.1
  have e9 : res = some (⟨fr, en, its, gs, mk == 1⟩, r) := by rw [← HRES.out]; simp only [Option.bind_some]; rw [HRG.out]; simp only [Option.bind_some]; rw [hl]; rfl
  have HV := Lib.hid (cnum_yes B rb bb 1 mk l4 r w3 hR3 (by decide) hl)
  have on3 := H2.out.1.keeps (S := fun k => k = rb ∨ k = ep) itF_k k3 (fun b hb _ e => by omega)
  have K3 := Lib.hid (And.intro ((HK.out.trans H2.out.2.2).then k3 (fun i hi e => by omega)) (And.intro on3 (And.intro hg (And.intro hu hb3))))
  clear HRES HRG hg hu hrp3 hR3 k3 hb3 hl on3
  subst e9
  have hmk' : mk = 0 ∨ mk = 1 := by omega
  rcases hmk' with rfl | rfl
  ·go_wp2_with fail
   refine HV.out.mono ?_
   rintro e w4 ⟨rfl, hR4, k4⟩
   have c1 := (k4.block _ hlt3 (by omega)).trans K3.out.2.2.2.1
   have c2 := (k4.block _ (lt_of_heap K3.out.2.2.2.2) (by omega)).trans K3.out.2.2.2.2
   have g6 := blk5 c1
   have g7 := blk5 c2
   have on4 := K3.out.2.1.keeps itF_k k4 (fun b hb _ e => by omega)
   have gg4 := K3.out.2.2.1.keeps k4 (fun b hb e => by have := (K3.out.2.2.1.block b hb).1; omega)
   have R := Lib.hid (And.intro hR4 (And.intro (K3.out.1.trans k4) (And.intro on4 gg4)))
   have hlt4 := lt_of_heap c1
   clear hR4 k4 c1 c2 on4 gg4 g3 g4
   go_wp2_with fail
   refine bodyPost_ret (v := .agg #[.int .u64 fr, .int .u64 en, .slice p1 n1 c1, .slice p2 n2 c2, .bool false]) (by simp [results, Tryz.results92, go_sem, g7]) rfl ⟨⟨p1, n1, c1, p2, n2, c2, s', rfl, H2.out.2.1, ?_, ?_⟩, rd_close R.out.1 R.out.2.1 hbase hrb ?_⟩
   ·refine (R.out.2.2.1.keeps (S := fun k => k = ep ∨ k = w.heap.size + 1) itF_k ?_ (fun b hb _ e => by omega)).mono (by omega)
    repeat (first | refine Keeps.setCell ?_ (fun _ => by first | exact Or.inl rfl | exact Or.inr rfl) _ | exact Keeps.refl _ _)
   ·refine (R.out.2.2.2.mono (by omega)).keeps (S := fun k => k = ep ∨ k = w.heap.size + 1) ?_ (fun b hb e => by have := (R.out.2.2.2.block b hb).1; omega)
    repeat (first | refine Keeps.setCell ?_ (fun _ => by first | exact Or.inl rfl | exact Or.inr rfl) _ | exact Keeps.refl _ _)
   ·repeat (first | refine Keeps.setCell ?_ (fun _ => by dsimp only; omega) _ | exact Keeps.refl _ _)
  ·go_wp2_with fail
   refine HV.out.mono ?_
   rintro e w4 ⟨rfl, hR4, k4⟩
   have c1 := (k4.block _ hlt3 (by omega)).trans K3.out.2.2.2.1
   have c2 := (k4.block _ (lt_of_heap K3.out.2.2.2.2) (by omega)).trans K3.out.2.2.2.2
   have g6 := blk5 c1
   have g7 := blk5 c2
   have on4 := K3.out.2.1.keeps itF_k k4 (fun b hb _ e => by omega)
   have gg4 := K3.out.2.2.1.keeps k4 (fun b hb e => by have := (K3.out.2.2.1.block b hb).1; omega)
   have R := Lib.hid (And.intro hR4 (And.intro (K3.out.1.trans k4) (And.intro on4 gg4)))
   have hlt4 := lt_of_heap c1
   clear hR4 k4 c1 c2 on4 gg4 g3 g4
   go_wp2_with fail
   refine bodyPost_ret (v := .agg #[.int .u64 fr, .int .u64 en, .slice p1 n1 c1, .slice p2 n2 c2, .bool true]) (by simp [results, Tryz.results92, go_sem, g7]) rfl ⟨⟨p1, n1, c1, p2, n2, c2, s', rfl, H2.out.2.1, ?_, ?_⟩, rd_close R.out.1 R.out.2.1 hbase hrb ?_⟩
   ·refine (R.out.2.2.1.keeps (S := fun k => k = ep ∨ k = w.heap.size + 1) itF_k ?_ (fun b hb _ e => by omega)).mono (by omega)
    repeat (first | refine Keeps.setCell ?_ (fun _ => by first | exact Or.inl rfl | exact Or.inr rfl) _ | exact Keeps.refl _ _)
   ·refine (R.out.2.2.2.mono (by omega)).keeps (S := fun k => k = ep ∨ k = w.heap.size + 1) ?_ (fun b hb e => by have := (R.out.2.2.2.block b hb).1; omega)
    repeat (first | refine Keeps.setCell ?_ (fun _ => by first | exact Or.inl rfl | exact Or.inr rfl) _ | exact Keeps.refl _ _)
   ·repeat (first | refine Keeps.setCell ?_ (fun _ => by dsimp only; omega) _ | exact Keeps.refl _ _)
end
end Go.Proofs.YtpjpimahnnekkaaGreat
