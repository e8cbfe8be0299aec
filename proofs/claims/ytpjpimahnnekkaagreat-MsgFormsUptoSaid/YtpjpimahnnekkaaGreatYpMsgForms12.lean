/- DERIVED. The contract of codec's reader: pred. · DERIVED. The contract of codec's reader: item. -/
import Derived.Test.YtpjpimahnnekkaaGreatYpMsgForms11
set_option maxRecDepth 100000
set_option maxHeartbeats 2000000
namespace Go.Proofs.YtpjpimahnnekkaaGreat
section
open Go.RowKit
def ConF (x : Con) (W : World) : Prop := SeesV W x.sv x.set
theorem conF_k : FineK Con.sv ConF := fun _ _ _ _ h hk hS => SeesR.keeps h hk hS
def PdInv (w : World) (B rb bb rp ep : Nat) (s : List PCon) (l : List UInt8) (W : World) : Prop :=
 Rd W B rb bb l ∧ W.heap[rp]? = some (.cells #[.pointer (some ⟨rb, 0, none⟩)] 146 (0, 0)) ∧
 (∃ v s', W.heap[ep]? = some (.cells #[v] 24 (0, 0)) ∧ s'.map Con.plain = s ∧ OwnN W (ep + 1) 72 7 Con.cells Con.sv ConF v s') ∧ RK rb w W
theorem PdInv.rk {w W W' : World} {B rb bb rp ep : Nat} {s : List PCon} {l l' : List UInt8} (hrp : rp ≠ rb) (hrb : rb < w.heap.size) (hwe : w.heap.size ≤ ep) (h : PdInv w B rb bb rp ep s l W) (hk : RK rb W W') (hR : Rd W' B rb bb l') : PdInv w B rb bb rp ep s l' W' := by
 obtain ⟨_, h1, ⟨v, s', h2, hm, h3⟩, h4⟩ := h
 have l1 : rp < W.heap.size := lt_of_heap h1
 have l2 : ep < W.heap.size := lt_of_heap h2
 exact ⟨hR, (hk.block rp l1 (by omega)).trans h1, ⟨v, s', (hk.block ep l2 (by omega)).trans h2, hm, h3.keeps conF_k hk (fun b hb _ e => by omega)⟩, h4.trans hk⟩
theorem PdInv.bad {w W : World} {B rb bb rp ep : Nat} {s : List PCon} {l : List UInt8} (h : PdInv w B rb bb rp ep s l W) : Bad w B rb bb W := ⟨⟨l, h.1⟩, h.2.2.2⟩
theorem cpred1_yes (B rb bb rp ep : Nat)  (s : List PCon) (x : PCon) (l r : List UInt8) (w w1 : World) (hB : B ≤ w.heap.size) (hrb : rb < w.heap.size) (hrp : rp ≠ rb) (hep : rp < ep) (hwe : w.heap.size ≤ ep)
  (h : PdInv w B rb bb rp ep s l w1) (hs : s.length < 6) (hp : pCon l = some (x, r)) :
  Calls Tryz.prog 121 #[.pointer (some ⟨ep, 0, none⟩), .pointer (some ⟨rp, 0, none⟩)] w1 fun e W' => e = .returned (.tuple #[]) ∧ PdInv w B rb bb rp ep (s ++ [x]) r W' := by
 have FK := conF_k
 obtain ⟨nm, op, ⟨vk, vn, vs, vi⟩, set⟩ := x
 obtain ⟨hR, h1, ⟨v, s', h2, hm, hon⟩, hk⟩ := h
 have hs' : s'.length < 6 := by rw [← hm] at hs; simpa using hs
 have hv := fun W' (h : Rd W' B rb bb l) => ccon_any B rb bb l W' h
 simp only [hp] at hv
 have HV := Lib.hid hv
 have hwW := hk.size
 have g1 := (blk1 h1).1
 have g2 := (blk1 h2).1
 have H := Lib.hid (And.intro hR (And.intro h1 (And.intro h2 (And.intro hon.1 hk))))
 have HON := Lib.hid (And.intro hon hm)
 clear h1 h2 hon hm hk hp hR hv
 go_enter Tryz.func121, Tryz.ntmps121
 refine wp_region_g (S := fun W' => W'.cell? ⟨ep, 0, none⟩ = some v ∧ W'.cell? ⟨rp, 0, none⟩ = some (.pointer (some ⟨rb, 0, none⟩))) (M := [0, 1, 2, 3, 4]) (by kernel_rfl) ?_
 have hS : w1.drew.cell? ⟨ep, 0, none⟩ = some v ∧ w1.drew.cell? ⟨rp, 0, none⟩ = some (.pointer (some ⟨rb, 0, none⟩)) := ⟨g2, g1⟩
 refine wpAnyG_takeL (i := 0) (oi := _) (v := ?va0) rfl (by kernel_rfl) (by kernel_rfl) (by kernel_rfl) (by kernel_rfl) (fun _ _ _ h => h) (Or.inl ⟨by rfl, ?ya0⟩) hS ?ra0
 case ya0 => (intro W hSw; obtain ⟨y1, y2⟩ := hSw; go_simp; try with_reducible rfl)
 try simp only [Act.put, List.setIfInBounds_toArray, List.set_cons_zero, List.set_cons_succ]
 refine wpAnyG_takeL (i := 1) (oi := _) (v := ?va1) rfl (by kernel_rfl) (by kernel_rfl) (by kernel_rfl) (by kernel_rfl) (fun _ _ _ h => h) (Or.inl ⟨by rfl, ?ya1⟩) hS ?ra1
 case ya1 => (intro W hSw; obtain ⟨y1, y2⟩ := hSw; go_simp; try with_reducible rfl)
 try simp only [Act.put, List.setIfInBounds_toArray, List.set_cons_zero, List.set_cons_succ]
 refine wpAnyG_onlyL (i := 2) (o := _) (by kernel_rfl) rfl (fun K hK => ?_)
 go_simp
 refine (HV.out _ (H.out.1.old (Keeps.refl _ _).drew)).mono ?_
 rintro e w2 ⟨⟨p2, n2, c2, rfl, hv2⟩, hR2, k2⟩
 simp only at hv2
 have hS2 : w2.cell? ⟨ep, 0, none⟩ = some v ∧ w2.cell? ⟨rp, 0, none⟩ = some (.pointer (some ⟨rb, 0, none⟩)) := ⟨k2.cell hS.1 (by dsimp only; omega), k2.cell hS.2 (by dsimp only; omega)⟩
 go_wp2_with fail
 refine hK.out _ _ (fun _ => hS2) ?_
 clear hK K
 try simp only [Act.put, List.setIfInBounds_toArray, List.set_cons_zero, List.set_cons_succ]
 have H2 := Lib.hid (And.intro hR2 (And.intro k2 ((k2.block rp (lt_of_heap H.out.2.1) (by omega)).trans H.out.2.1)))
 have b3 := (k2.block ep (lt_of_heap H.out.2.2.1) (by omega)).trans H.out.2.2.1
 have o2 := (H.out.2.2.2.1.old ((Keeps.refl _ _).drew)).keeps k2 (fun b hb e => by have := (H.out.2.2.2.1.block b hb).1; omega)
 have B3 := Lib.hid b3
 have OB := Lib.hid (fun b (hb : v.ownBlock = some b) => (o2.block b hb).1)
 have hz : ep + 1 ≤ w2.heap.size := lt_of_heap b3
 have SN := Lib.hid (SeesR.new (k := 7) (enc := Con.cells) w2 72 (0, 0) [(⟨nm, op, ⟨vk, vn, vs, vi⟩, .slice p2 n2 c2, set⟩ : Con)] #[.string nm, .int .i64 op, .int .i64 vk, .int .i64 vn, .string vs, .bool vi, .slice p2 n2 c2] (by simp [Con.cells]) (fun _ => rfl) (by unfold maxLen; simp))
 have O2 := Lib.hid (o2.alloc (.cells #[.string nm, .int .i64 op, .int .i64 vk, .int .i64 vn, .string vs, .bool vi, .slice p2 n2 c2] 72))
 have HN := Lib.hid (show s'.length + 1 ≤ maxLen ∧ (s'.length + 1) * 88 ≤ 140737488355328 ∧ ep + 1 ≤ (w2.alloc (.cells #[.string nm, .int .i64 op, .int .i64 vk, .int .i64 vn, .string vs, .bool vi, .slice p2 n2 c2] 72)).heap.size from ⟨by unfold maxLen; omega, by omega, by simp; omega⟩)
 have hvb := hv2.block
 have hvl := H.out.2.2.2.1.block
 have n1 := (HON.out.1.keeps FK ((Keeps.refl (fun _ => False) w1).drew) (fun _ _ _ f => f)).keeps FK k2 (fun b hb hlt e => by omega)
 have n2' := n1.keeps FK ((Keeps.refl (fun _ => False) w2).alloc (.cells #[.string nm, .int .i64 op, .int .i64 vk, .int .i64 vn, .string vs, .bool vi, .slice p2 n2 c2] 72)) (fun _ _ _ f => f)
 have e0 : w1.drew.heap.size = w1.heap.size := rfl
 have hw12 := k2.size
 have hepw : ep < w1.heap.size := lt_of_heap H.out.2.2.1
 have hal : (w2.alloc (.cells #[.string nm, .int .i64 op, .int .i64 vk, .int .i64 vn, .string vs, .bool vi, .slice p2 n2 c2] 72)).heap.size = w2.heap.size + 1 := by simp
 have nb : ∀ b, (Value.slice p2 n2 c2).ownBlock = some b → ep + 1 ≤ b ∧ b < (w2.alloc (.cells #[.string nm, .int .i64 op, .int .i64 vk, .int .i64 vn, .string vs, .bool vi, .slice p2 n2 c2] 72)).heap.size ∧ v.ownBlock ≠ some b := fun b hb => ⟨by have := hvb b hb; omega, by have := hvb b hb; omega, fun e => by have := hvb b hb; have := hvl b e; omega⟩
 have NN := Lib.hid (And.intro n2' (And.intro (show ConF (⟨nm, op, ⟨vk, vn, vs, vi⟩, .slice p2 n2 c2, set⟩ : Con) (w2.alloc (.cells #[.string nm, .int .i64 op, .int .i64 vk, .int .i64 vn, .string vs, .bool vi, .slice p2 n2 c2] 72)) from (hv2.sees (fun _ => rfl) (by decide)).alloc _) nb))
 clear n1 n2' nb hal
 clear hR2 k2 b3 o2
 refine wpAnyG_onlyL (i := 3) (o := _) (by kernel_rfl) rfl (fun K hK => ?_)
 go_simp
 have hS3 : (w2.alloc (.cells #[.string nm, .int .i64 op, .int .i64 vk, .int .i64 vn, .string vs, .bool vi, .slice p2 n2 c2] 72)).cell? ⟨ep, 0, none⟩ = some v ∧ (w2.alloc (.cells #[.string nm, .int .i64 op, .int .i64 vk, .int .i64 vn, .string vs, .bool vi, .slice p2 n2 c2] 72)).cell? ⟨rp, 0, none⟩ = some (.pointer (some ⟨rb, 0, none⟩)) := ⟨((Keeps.refl (fun _ => False) w2).alloc _).cell hS2.1 (fun f => f), ((Keeps.refl (fun _ => False) w2).alloc _).cell hS2.2 (fun f => f)⟩
 refine hK.out _ _ (fun _ => hS3) ?_
 clear hK K
 try simp only [Act.put, List.setIfInBounds_toArray, List.set_cons_zero, List.set_cons_succ]
 refine wpAnyG_onlyL (i := 4) (o := _) (by kernel_rfl) rfl (fun K hK => ?_)
 refine step_append_rows (P := Tryz.prog) rfl _ _ 24 rfl (ep + 1) 72 7 88 Con.cells _ Tryz.underlying24 Tryz.infoCon rfl (by decide) v s' (by rfl) O2.out _ [(⟨nm, op, ⟨vk, vn, vs, vi⟩, .slice p2 n2 c2, set⟩ : Con)] (by rfl) SN.out (fun _ _ => rfl) (by simp [Con.cells, Value.oneCell']) HN.out.1 HN.out.2.1 HN.out.2.2 ?_
 intro v' w3 ho3 hg3 hv3
 obtain ⟨p', n', c', rfl⟩ : ∃ p n c, v' = .slice p n c := by obtain ⟨p, c, h, _⟩ := (ho3.sees (fun _ => rfl) (by decide)).len; exact ⟨p, _, c, h⟩
 have k3 : Keeps (fun k => ep < k) w2 w3 := (((Keeps.refl _ _).alloc _).grown hg3 (fun k hk _ => OB.out k hk))
 have hS4 : w3.cell? ⟨ep, 0, none⟩ = some v ∧ w3.cell? ⟨rp, 0, none⟩ = some (.pointer (some ⟨rb, 0, none⟩)) := ⟨k3.cell hS2.1 (by dsimp only; omega), k3.cell hS2.2 (by dsimp only; omega)⟩
 have b4 := (k3.block ep hz (by omega)).trans B3.out
 have F := Lib.hid (And.intro k3 (And.intro ho3 (And.intro b4 (And.intro hg3 hv3))))
 have g4 := (blk1 b4).1
 have g5 := (blk1 b4).2
 clear k3 ho3 b4 hg3 hv3 hS3
 refine hK.out _ _ (fun _ => hS4) ?_
 clear hK K
 try simp only [Act.put, List.setIfInBounds_toArray, List.set_cons_zero, List.set_cons_succ]
 refine wpAnyG_onlyL (i := 5) (o := _) (by kernel_rfl) rfl (fun K hK => ?_)
 go_simp
 refine hK.out _ _ (fun h => absurd h (by decide)) ?_
 clear hK K
 refine wpAnyG_done (by kernel_rfl) ?_ _
 go_simp
 go_wp2_with fail
 go_end0
 refine ⟨rfl, ?_⟩
 have hb4 := F.out.2.1.block
 have kF : Keeps (fun k => ep ≤ k) w2 (w3.setCell ⟨ep, 0, none⟩ (.slice p' n' c')) := (F.out.1.weaken (fun i _ h => Nat.le_of_lt h)).setCell (fun _ => Nat.le_refl _) _
 have N := (OwnN.snoc FK NN.out.1 NN.out.2.1 NN.out.2.2 F.out.2.1 F.out.2.2.2.1 F.out.2.2.2.2).keeps FK ((Keeps.refl (fun k => k = ep) w3).setCell (p := ⟨ep, 0, none⟩) (fun _ => rfl) (.slice p' n' c')) (fun b hb _ e => by omega)
 refine ⟨H2.out.1.far kF (fun k hk => ⟨by omega, by omega⟩), (kF.block rp (lt_of_heap H2.out.2.2) (by omega)).trans H2.out.2.2, ⟨.slice p' n' c', _, ?_, ?_, N⟩, ?_⟩
 ·have := heap_setCell_same w3 ep 0 _ _ (.slice p' n' c') F.out.2.2.1
  simpa using this
 ·rw [List.map_append, HON.out.2]; rfl
 ·exact ((H.out.2.2.2.2.then (Keeps.refl (fun _ => False) w1).drew (fun _ _ f => f.elim)).trans H2.out.2.1).then kF (fun i hi h => by omega)
theorem cpred1_no (B rb bb rp ep : Nat)  (s : List PCon) (l : List UInt8) (w w1 : World) (_hB : B ≤ w.heap.size) (_hrb : rb < w.heap.size) (_hrp : rp ≠ rb) (_hep : rp < ep) (_hwe : w.heap.size ≤ ep)
  (h : PdInv w B rb bb rp ep s l w1) (hp : pCon l = none) :
  Calls Tryz.prog 121 #[.pointer (some ⟨ep, 0, none⟩), .pointer (some ⟨rp, 0, none⟩)] w1 fun e W' => e = .panicked fault ∧ Bad w B rb bb W' := by
 obtain ⟨hR, h1, ⟨v, s', h2, hm, hon⟩, hk⟩ := h
 have hv := fun W' (h : Rd W' B rb bb l) => ccon_any B rb bb l W' h
 simp only [hp] at hv
 have HV := Lib.hid hv
 have g1 := (blk1 h1).1
 have g2 := (blk1 h2).1
 have H := Lib.hid (And.intro hR hk)
 clear h1 h2 hon hm hk hp hR hv
 go_enter Tryz.func121, Tryz.ntmps121
 refine wp_region_g (S := fun W' => W'.cell? ⟨ep, 0, none⟩ = some v ∧ W'.cell? ⟨rp, 0, none⟩ = some (.pointer (some ⟨rb, 0, none⟩))) (M := [0, 1, 2, 3, 4]) (by kernel_rfl) ?_
 have hS : w1.drew.cell? ⟨ep, 0, none⟩ = some v ∧ w1.drew.cell? ⟨rp, 0, none⟩ = some (.pointer (some ⟨rb, 0, none⟩)) := ⟨g2, g1⟩
 refine wpAnyG_takeL (i := 0) (oi := _) (v := ?va0) rfl (by kernel_rfl) (by kernel_rfl) (by kernel_rfl) (by kernel_rfl) (fun _ _ _ h => h) (Or.inl ⟨by rfl, ?ya0⟩) hS ?ra0
 case ya0 => (intro W hSw; obtain ⟨y1, y2⟩ := hSw; go_simp; try with_reducible rfl)
 try simp only [Act.put, List.setIfInBounds_toArray, List.set_cons_zero, List.set_cons_succ]
 refine wpAnyG_takeL (i := 1) (oi := _) (v := ?va1) rfl (by kernel_rfl) (by kernel_rfl) (by kernel_rfl) (by kernel_rfl) (fun _ _ _ h => h) (Or.inl ⟨by rfl, ?ya1⟩) hS ?ra1
 case ya1 => (intro W hSw; obtain ⟨y1, y2⟩ := hSw; go_simp; try with_reducible rfl)
 try simp only [Act.put, List.setIfInBounds_toArray, List.set_cons_zero, List.set_cons_succ]
 refine wpAnyG_onlyL (i := 2) (o := _) (by kernel_rfl) rfl (fun K hK => ?_)
 go_simp
 refine (HV.out _ (H.out.1.old (Keeps.refl _ _).drew)).mono ?_
 rintro e w2 ⟨rfl, hbad⟩
 have R := Lib.hid (show Bad w B rb bb w2 from ⟨hbad.1, (H.out.2.then (Keeps.refl (fun _ => False) w1).drew (fun _ _ f => f.elim)).trans hbad.2⟩)
 clear hbad
 go_wp2_with fail
 exact ⟨rfl, rfl, R.out⟩
def pPred (l : List UInt8) : Option (List PCon × List UInt8) := pList 6 pCon l
def PdPost (w : World) (B rb bb : Nat) (res : Option (List PCon × List UInt8)) (e : Ending) (w' : World) : Prop :=
 match res with
 | some x => (∃ p n c s', e = .returned (.slice p n c) ∧ s'.map Con.plain = x.1 ∧ OwnN w' w.heap.size 72 7 Con.cells Con.sv ConF (.slice p n c) s') ∧ Rd w' B rb bb x.2 ∧ RK rb w w'
 | none => e = .panicked fault ∧ Bad w B rb bb w'
theorem OwnN.mono {α : Type} {w : World} {B B' : Nat} {E : TypeId} {k : Nat} {enc : α → List Value} {nv : α → Value} {fine : α → World → Prop} {v : Value} {l : List α} (h : OwnN w B E k enc nv fine v l) (hb : B' ≤ B) : OwnN w B' E k enc nv fine v l :=
 ⟨h.1.mono hb, fun x hx => ⟨(h.2 x hx).1, fun b hb' => ⟨Nat.le_trans hb ((h.2 x hx).2 b hb').1, ((h.2 x hx).2 b hb').2⟩⟩⟩
theorem cpred_any (B rb bb : Nat) (l : List UInt8) (w : World) (h : Rd w B rb bb l) :
  Calls Tryz.prog 88 #[rdV rb] w (PdPost w B rb bb (pPred l)) := by
 have hrb := h.lt
 have hbase := h.base
 obtain ⟨W0, hW0⟩ : ∃ W0, (w.alloc (.cells #[.pointer (some ⟨rb, 0, none⟩)] 146)).alloc (.cells #[.slice none 0 0] 24) = W0 := ⟨_, rfl⟩
 have k0 : Old w W0 := by rw [← hW0]; exact ((Keeps.refl _ _).alloc _).alloc _
 have hb := two_blocks w (.cells #[.pointer (some ⟨rb, 0, none⟩)] 146) (.cells #[.slice none 0 0] 24)
 rw [hW0] at hb
 have kk : RK rb w W0 := k0.weaken (fun _ _ f => f.elim)
 have hR0 := h.old k0
 have f0 := (blk1 hb.1).1
 obtain ⟨rs, hrs⟩ : ∃ rs, pPred l = rs := ⟨_, rfl⟩
 rw [hrs]
 have inv : PdInv w B rb bb w.heap.size (w.heap.size + 1) [] l W0 := ⟨hR0, hb.1, ⟨_, [], hb.2, rfl, OwnN.nil _ _⟩, kk⟩
 have T := times_any B rb bb 6 121 #[.pointer (some ⟨w.heap.size + 1, 0, none⟩), .pointer (some ⟨w.heap.size, 0, none⟩)] pCon (PdInv w B rb bb w.heap.size (w.heap.size + 1)) (Bad w B rb bb) [] l W0
  (by decide) (fun args W => by simp [go_sem, callFunc, Tryz.func121]; rfl) (fun _ _ _ h => h.1) (fun s l l' W W' h k r => h.rk (by omega) hrb (by omega) k r) (fun _ _ _ h => h.bad)
  (fun s l x r W h hs hp => cpred1_yes B rb bb _ _ s x l r w W hbase hrb (by omega) (by omega) (by omega) h (by simpa using hs) hp)
  (fun s l W h hp => cpred1_no B rb bb _ _ s l w W hbase hrb (by omega) (by omega) (by omega) h hp) inv
 have T' : Calls Tryz.prog 120 #[rdV rb, .int .u64 (6 : Nat), .func (.func 121) #[] #[.pointer (some ⟨w.heap.size + 1, 0, none⟩), .pointer (some ⟨w.heap.size, 0, none⟩)]] W0 (TPost (PdInv w B rb bb w.heap.size (w.heap.size + 1)) (Bad w B rb bb) rs) := by rw [← hrs]; exact T
 have HT2 := Lib.hid T'
 have HW0 := Lib.hid hW0
 clear hb kk h k0 hR0 inv T T' hrs
 go_enter Tryz.func88, Tryz.ntmps88
 go_wp2_with fail
 refine HT2.out.mono ?_
 intro e w2 ht
 rcases rs with _ | ⟨es, r⟩
 ·obtain ⟨rfl, ht⟩ : e = .panicked fault ∧ Bad w B rb bb w2 := ht
  have R := Lib.hid ht
  clear ht HT2
  go_wp2_with fail
  exact ⟨rfl, rfl, R.out⟩
 ·obtain ⟨rfl, hR2, _, ⟨v, s', hv, hm, ho⟩, k2⟩ : e = .returned (.tuple #[]) ∧ PdInv w B rb bb w.heap.size (w.heap.size + 1) es r w2 := ht
  obtain ⟨p', n', c', rfl⟩ : ∃ p n c, v = .slice p n c := by obtain ⟨p, c, h, _⟩ := (ho.1.sees (fun _ => rfl) (by decide)).len; exact ⟨p, _, c, h⟩
  have g4 := (blk1 hv).1
  have H := Lib.hid (And.intro hR2 (And.intro ho (And.intro hm k2)))
  clear hR2 hv ho k2 HT2 hm
  go_wp2_with fail
  go_ret
  exact ⟨⟨p', n', c', s', rfl, H.out.2.2.1, H.out.2.1.mono (by omega)⟩, H.out.1, H.out.2.2.2⟩
end
section
open Go.RowKit
structure PIt where
 n : Nat
 time : Nat
 key : ByteArray
 es : List At
def pItem (l : List UInt8) : Option (PIt × List UInt8) := (pNum 1099511627776 l).bind fun x => (pNum 1099511627776 x.2).bind fun y => (pEvent y.2).map fun z => (⟨x.1, y.1, z.1.1, z.1.2⟩, z.2)
def ItPost (w : World) (B rb bb : Nat) (res : Option (PIt × List UInt8)) (e : Ending) (w' : World) : Prop :=
 match res with
 | some x => (∃ p n c, e = .returned (.agg #[.int .u64 x.1.n, .int .u64 x.1.time, .string x.1.key, .slice p n c]) ∧ OwnsA w' w.heap.size (.slice p n c) x.1.es) ∧ Rd w' B rb bb x.2 ∧ RK rb w w'
 | none => e = .panicked fault ∧ Bad w B rb bb w'
theorem citem_any (B rb bb : Nat) (l : List UInt8) (w : World) (h : Rd w B rb bb l) :
  Calls Tryz.prog 90 #[rdV rb] w (ItPost w B rb bb (pItem l)) := by
 have hrb := h.lt
 have hbase := h.base
 obtain ⟨W0, hW0⟩ : ∃ W0, (w.alloc (.cells #[.pointer (some ⟨rb, 0, none⟩)] 146)).alloc (.cells #[.int .u64 0, .int .u64 0, .string ⟨#[]⟩, .slice none 0 0] 29) = W0 := ⟨_, rfl⟩
 have k0 : Old w W0 := by rw [← hW0]; exact ((Keeps.refl _ _).alloc _).alloc _
 have hb := two_blocks w (.cells #[.pointer (some ⟨rb, 0, none⟩)] 146) (.cells #[.int .u64 0, .int .u64 0, .string ⟨#[]⟩, .slice none 0 0] 29)
 rw [hW0] at hb
 have kk : RK rb w W0 := k0.weaken (fun _ _ f => f.elim)
 have hR0 := h.old k0
 have HB := Lib.hid hb
 have HK := Lib.hid (kk.then (Keeps.refl (fun _ => False) W0).drew (fun _ _ f => f.elim))
 have hsz : w.heap.size + 1 < W0.heap.size := lt_of_heap hb.2
 have f0 := (blk1 hb.1).1
 have HR0 := Lib.hid (hR0.old (Keeps.refl (fun _ => False) W0).drew)
 unfold pItem
 cases hn : pNum 1099511627776 l with
 | none =>
  have HT := Lib.hid (fun W (h : Rd W B rb bb l) => cnum_no B rb bb 1099511627776 l W h (by decide) hn)
  simp only [Option.bind_none]
  clear hb kk h k0 hR0 hn
  go_enter Tryz.func90, Tryz.ntmps90
  go_upto_region 1 with fail
  refine wp_region_g (S := fun W' => W'.cell? ⟨w.heap.size, 0, none⟩ = some (.pointer (some ⟨rb, 0, none⟩))) (M := [0, 1, 2, 3, 4, 5]) (by kernel_rfl) ?_
  have hS : W0.drew.cell? ⟨w.heap.size, 0, none⟩ = some (.pointer (some ⟨rb, 0, none⟩)) := f0
  refine wpAnyG_takeL (i := 0) (oi := _) (v := ?va0) rfl (by kernel_rfl) (by kernel_rfl) (by kernel_rfl) (by kernel_rfl) (fun _ _ _ h => h) (Or.inl ⟨by rfl, ?ya0⟩) hS ?ra0
  case ya0 => (intro W hSw; go_simp; try with_reducible rfl)
  try simp only [Act.put, List.setIfInBounds_toArray, List.set_cons_zero, List.set_cons_succ]
  refine wpAnyG_takeL (i := 2) (oi := _) (v := ?va2) rfl (by kernel_rfl) (by kernel_rfl) (by kernel_rfl) (by kernel_rfl) (fun _ _ _ h => h) (Or.inl ⟨by rfl, ?ya2⟩) hS ?ra2
  case ya2 => (intro W hSw; go_simp; try with_reducible rfl)
  try simp only [Act.put, List.setIfInBounds_toArray, List.set_cons_zero, List.set_cons_succ]
  refine wpAnyG_onlyL (i := 1) (o := _) (by kernel_rfl) rfl (fun K hK => ?_)
  go_simp
  refine (HT.out _ HR0.out).mono ?_
  rintro e w1 ⟨rfl, hR1, k1⟩
  have R := Lib.hid (show Bad w B rb bb w1 from ⟨⟨_, hR1⟩, HK.out.trans k1⟩)
  clear hR1 k1
  go_wp2_with fail
  exact ⟨rfl, rfl, R.out⟩
 | some x =>
  obtain ⟨n, l1⟩ := x
  have HT := Lib.hid (fun W (h : Rd W B rb bb l) => cnum_yes B rb bb 1099511627776 n l l1 W h (by decide) hn)
  simp only [Option.bind_some]
  cases hm : pNum 1099511627776 l1 with
  | none =>
   have HM := Lib.hid (fun W (h : Rd W B rb bb l1) => cnum_no B rb bb 1099511627776 l1 W h (by decide) hm)
   simp only [Option.bind_none]
   clear hb kk h k0 hR0 hn hm
   go_enter Tryz.func90, Tryz.ntmps90
   go_upto_region 1 with fail
   refine wp_region_g (S := fun W' => W'.cell? ⟨w.heap.size, 0, none⟩ = some (.pointer (some ⟨rb, 0, none⟩))) (M := [0, 1, 2, 3, 4, 5]) (by kernel_rfl) ?_
   have hS : W0.drew.cell? ⟨w.heap.size, 0, none⟩ = some (.pointer (some ⟨rb, 0, none⟩)) := f0
   refine wpAnyG_takeL (i := 0) (oi := _) (v := ?vb0) rfl (by kernel_rfl) (by kernel_rfl) (by kernel_rfl) (by kernel_rfl) (fun _ _ _ h => h) (Or.inl ⟨by rfl, ?yb0⟩) hS ?rb0
   case yb0 => (intro W hSw; go_simp; try with_reducible rfl)
   try simp only [Act.put, List.setIfInBounds_toArray, List.set_cons_zero, List.set_cons_succ]
   refine wpAnyG_takeL (i := 2) (oi := _) (v := ?vb2) rfl (by kernel_rfl) (by kernel_rfl) (by kernel_rfl) (by kernel_rfl) (fun _ _ _ h => h) (Or.inl ⟨by rfl, ?yb2⟩) hS ?rb2
   case yb2 => (intro W hSw; go_simp; try with_reducible rfl)
   try simp only [Act.put, List.setIfInBounds_toArray, List.set_cons_zero, List.set_cons_succ]
   refine wpAnyG_onlyL (i := 1) (o := _) (by kernel_rfl) rfl (fun K hK => ?_)
   go_simp
   refine (HT.out _ HR0.out).mono ?_
   rintro e w1 ⟨rfl, hR1, k1⟩
   have hS1 : w1.cell? ⟨w.heap.size, 0, none⟩ = some (.pointer (some ⟨rb, 0, none⟩)) := k1.cell hS (by dsimp only; omega)
   have H1 := Lib.hid (And.intro hR1 (HK.out.trans k1))
   clear hR1 k1
   go_wp2_with fail
   refine hK.out _ _ (fun _ => hS1) ?_
   clear hK K
   try simp only [Act.put, List.setIfInBounds_toArray, List.set_cons_zero, List.set_cons_succ]
   refine wpAnyG_onlyL (i := 3) (o := _) (by kernel_rfl) rfl (fun K hK => ?_)
   go_simp
   refine (HM.out _ H1.out.1).mono ?_
   rintro e w2 ⟨rfl, hR2, k2⟩
   have R := Lib.hid (show Bad w B rb bb w2 from ⟨⟨_, hR2⟩, H1.out.2.trans k2⟩)
   clear hR2 k2
   go_wp2_with fail
   exact ⟨rfl, rfl, R.out⟩
  | some x =>
   obtain ⟨m, l2⟩ := x
   have HM := Lib.hid (fun W (h : Rd W B rb bb l1) => cnum_yes B rb bb 1099511627776 m l1 l2 W h (by decide) hm)
   simp only [Option.bind_some]
   have HV := Lib.hid (fun W (h : Rd W B rb bb l2) => cevent_any B rb bb l2 W h)
   obtain ⟨rs, hrs⟩ : ∃ rs, pEvent l2 = rs := ⟨_, rfl⟩
   rw [hrs]
   have HRS := Lib.hid hrs
   clear hb kk h k0 hR0 hn hm hrs
   go_enter Tryz.func90, Tryz.ntmps90
   go_upto_region 1 with fail
   refine wp_region_g (S := fun W' => W'.cell? ⟨w.heap.size, 0, none⟩ = some (.pointer (some ⟨rb, 0, none⟩))) (M := [0, 1, 2, 3, 4, 5]) (by kernel_rfl) ?_
   have hS : W0.drew.cell? ⟨w.heap.size, 0, none⟩ = some (.pointer (some ⟨rb, 0, none⟩)) := f0
   refine wpAnyG_takeL (i := 0) (oi := _) (v := ?vc0) rfl (by kernel_rfl) (by kernel_rfl) (by kernel_rfl) (by kernel_rfl) (fun _ _ _ h => h) (Or.inl ⟨by rfl, ?yc0⟩) hS ?rc0
   case yc0 => (intro W hSw; go_simp; try with_reducible rfl)
   try simp only [Act.put, List.setIfInBounds_toArray, List.set_cons_zero, List.set_cons_succ]
   refine wpAnyG_takeL (i := 2) (oi := _) (v := ?vc2) rfl (by kernel_rfl) (by kernel_rfl) (by kernel_rfl) (by kernel_rfl) (fun _ _ _ h => h) (Or.inl ⟨by rfl, ?yc2⟩) hS ?rc2
   case yc2 => (intro W hSw; go_simp; try with_reducible rfl)
   try simp only [Act.put, List.setIfInBounds_toArray, List.set_cons_zero, List.set_cons_succ]
   refine wpAnyG_onlyL (i := 1) (o := _) (by kernel_rfl) rfl (fun K hK => ?_)
   go_simp
   refine (HT.out _ HR0.out).mono ?_
   rintro e w1 ⟨rfl, hR1, k1⟩
   have hS1 : w1.cell? ⟨w.heap.size, 0, none⟩ = some (.pointer (some ⟨rb, 0, none⟩)) := k1.cell hS (by dsimp only; omega)
   have b1 := (k1.block _ (show w.heap.size + 1 < W0.drew.heap.size from hsz) (by omega)).trans HB.out.2
   have H1 := Lib.hid (And.intro hR1 (And.intro (HK.out.trans k1) b1))
   clear hR1 k1 b1
   go_wp2_with fail
   refine hK.out _ _ (fun _ => hS1) ?_
   clear hK K
   try simp only [Act.put, List.setIfInBounds_toArray, List.set_cons_zero, List.set_cons_succ]
   refine wpAnyG_onlyL (i := 3) (o := _) (by kernel_rfl) rfl (fun K hK => ?_)
   go_simp
   refine (HM.out _ H1.out.1).mono ?_
   rintro e w2 ⟨rfl, hR2, k2⟩
   have hS2 : w2.cell? ⟨w.heap.size, 0, none⟩ = some (.pointer (some ⟨rb, 0, none⟩)) := k2.cell hS1 (by dsimp only; omega)
   have b2 := (k2.block _ (lt_of_heap H1.out.2.2) (by omega)).trans H1.out.2.2
   have hw2 := lt_of_heap b2
   have H2 := Lib.hid (And.intro hR2 (And.intro (H1.out.2.1.trans k2) b2))
   clear hR2 k2 b2
   go_wp2_with fail
   refine hK.out _ _ (fun _ => hS2) ?_
   clear hK K
   try simp only [Act.put, List.setIfInBounds_toArray, List.set_cons_zero, List.set_cons_succ]
   refine wpAnyG_takeL (i := 4) (oi := _) (v := ?vc4) rfl (by kernel_rfl) (by kernel_rfl) (by kernel_rfl) (by kernel_rfl) (fun _ _ _ h => h) (Or.inl ⟨by rfl, ?yc4⟩) hS2 ?rc4
   case yc4 => (intro W hSw; go_simp; try with_reducible rfl)
   try simp only [Act.put, List.setIfInBounds_toArray, List.set_cons_zero, List.set_cons_succ]
   refine wpAnyG_takeL (i := 5) (oi := _) (v := ?vc5) rfl (by kernel_rfl) (by kernel_rfl) (by kernel_rfl) (by kernel_rfl) (fun _ _ _ h => h) (Or.inl ⟨by rfl, ?yc5⟩) hS2 ?rc5
   case yc5 => (intro W hSw; go_simp; try with_reducible rfl)
   try simp only [Act.put, List.setIfInBounds_toArray, List.set_cons_zero, List.set_cons_succ]
   refine wpAnyG_done (by kernel_rfl) ?_ _
   go_simp
   go_wp2_with fail
   refine (HV.out _ H2.out.1).mono ?_
   intro e w3 ht
   rw [HRS.out] at ht
   clear HRS
   rcases rs with _ | ⟨⟨key, es⟩, r⟩
   ·obtain ⟨rfl, ht⟩ : e = .panicked fault ∧ Bad w2 B rb bb w3 := ht
    have R := Lib.hid (show Bad w B rb bb w3 from ⟨ht.1, H2.out.2.1.trans ht.2⟩)
    clear ht
    go_wp2_with fail
    exact ⟨rfl, rfl, R.out⟩
   ·obtain ⟨⟨p', n', c', rfl, ho⟩, hR3, k3⟩ : (∃ p n c, e = .returned (.agg #[.string key, .slice p n c]) ∧ OwnsA w3 w2.heap.size (.slice p n c) es) ∧ Rd w3 B rb bb r ∧ RK rb w2 w3 := ht
    have b3 := (k3.block _ hw2 (by omega)).trans H2.out.2.2
    have g3 := blk4 b3
    have H := Lib.hid (And.intro hR3 (And.intro ho (H2.out.2.1.trans k3)))
    clear hR3 ho k3 b3
    go_wp2_with fail
    refine bodyPost_ret (v := .agg #[.int .u64 n, .int .u64 m, .string key, .slice p' n' c']) (by simp [results, Tryz.results90, go_sem, g3]) rfl ⟨⟨p', n', c', rfl, ?_⟩, rd_close H.out.1 H.out.2.2 hbase hrb ?_⟩
    ·refine (H.out.2.1.mono (by omega)).keeps (S := fun k => k = w.heap.size + 1) ?_ (fun b hb e => by have := (H.out.2.1.block b hb).1; omega)
     repeat (first | refine Keeps.setCell ?_ (fun _ => by rfl) _ | exact Keeps.refl _ _)
    ·repeat (first | refine Keeps.setCell ?_ (fun _ => by dsimp only; omega) _ | exact Keeps.refl _ _)
end
section
open Go.RowKit
structure It where
 n : Nat
 time : Nat
 key : ByteArray
 av : Value
 es : List At
def It.cells (x : It) : List Value := [.int .u64 x.n, .int .u64 x.time, .string x.key, x.av]
def It.fine (w : World) (x : It) : Prop := SeesA w x.av x.es ∧ (0 < x.es.length → ∀ k, x.av.ownBlock = some k → k < w.heap.size) ∧ Fits x.es ∧ x.n < 18446744073709551616 ∧ x.time < 18446744073709551616
theorem It.fine.old {w w' : World} {x : It} (h : x.fine w) (hk : Old w w') : x.fine w' :=
 ⟨h.1.old hk, fun h0 k hk' => Nat.lt_of_lt_of_le (h.2.1 h0 k hk') hk.size, h.2.2⟩
def It.plain (x : It) : PIt := ⟨x.n, x.time, x.key, x.es⟩
def ItF (x : It) (W : World) : Prop := SeesA W x.av x.es
theorem itF_k : FineK It.av ItF := fun _ _ _ _ h hk hS => SeesR.keeps h hk hS
abbrev PGap := Nat × Nat
def gapL (g : PGap) : List Value := [.int .u64 g.1, .int .u64 g.2]
theorem Tryz.infoItem : (Tryz.prog.info? 29).map (fun i => (i.zero, i.size, i.bytes)) = some (some (.agg #[.int .u64 0, .int .u64 0, .string ⟨#[]⟩, .slice none 0 0]), 4, 56) := by kernel_rfl
theorem Tryz.infoGap : (Tryz.prog.info? 121).map (fun i => (i.zero, i.size, i.bytes)) = some (some (.agg #[.int .u64 0, .int .u64 0]), 2, 16) := by kernel_rfl
theorem blk5 {w : World} {b : Nat} {t : TypeId} {a0 a1 a2 a3 a4 : Value} (h : w.heap[b]? = some (.cells #[a0, a1, a2, a3, a4] t (0, 0))) :
  (w.cell? ⟨b, 0, none⟩ = some a0 ∧ w.cell? ⟨b, 1, none⟩ = some a1 ∧ w.cell? ⟨b, 2, none⟩ = some a2 ∧ w.cell? ⟨b, 3, none⟩ = some a3 ∧ w.cell? ⟨b, 4, none⟩ = some a4) ∧
  (w.frozen? ⟨b, 0, none⟩ = false ∧ w.frozen? ⟨b, 1, none⟩ = false ∧ w.frozen? ⟨b, 2, none⟩ = false ∧ w.frozen? ⟨b, 3, none⟩ = false ∧ w.frozen? ⟨b, 4, none⟩ = false) := by simp [World.cell?, World.frozen?, h]
end
end Go.Proofs.YtpjpimahnnekkaaGreat
