/- DERIVED. The contract of codec's reader: event. · DERIVED. Predicates: what may be (layer 4), the program's answer. -/
import Derived.Test.YtpjpimahnnekkaaGreatYpMsgForms07
import Derived.Test.YtpjpimahnnekkaaGreatYpMsgForms01
import Derived.Test.YtpjpimahnnekkaaGreatYpMsgForms04
set_option maxRecDepth 100000
set_option maxHeartbeats 1000000
namespace Go.Proofs.YtpjpimahnnekkaaGreat
section
open Go.RowKit
abbrev OwnsA (w : World) (B : Nat) (v : Value) (l : List At) : Prop := OwnsR w B 169 5 At.cells v l
theorem Tryz.infoAttr : (Tryz.prog.info? 169).map (fun i => (i.zero, i.size, i.bytes)) = some (some (.agg #[.string ⟨#[]⟩, .int .i64 0, .int .i64 0, .string ⟨#[]⟩, .bool false]), 5, 56) := by kernel_rfl
theorem blk2 {w : World} {b : Nat} {t : TypeId} {a0 a1 : Value} (h : w.heap[b]? = some (.cells #[a0, a1] t (0, 0))) :
  (w.cell? ⟨b, 0, none⟩ = some a0 ∧ w.cell? ⟨b, 1, none⟩ = some a1) ∧ (w.frozen? ⟨b, 0, none⟩ = false ∧ w.frozen? ⟨b, 1, none⟩ = false) := by simp [World.cell?, World.frozen?, h]
def EvInv (w : World) (B rb bb rp ep : Nat) (key : ByteArray) (s : List At) (l : List UInt8) (W : World) : Prop :=
 Rd W B rb bb l ∧ W.heap[rp]? = some (.cells #[.pointer (some ⟨rb, 0, none⟩)] 146 (0, 0)) ∧
 (∃ v, W.heap[ep]? = some (.cells #[.string key, v] 27 (0, 0)) ∧ OwnsA W (ep + 1) v s) ∧ RK rb w W
theorem pAt_cases {l r : List UInt8} {a : At} (h : pAt l = some (a, r)) : ∃ l1, pText 16 l = some (a.name, l1) ∧ pVal l1 = some (a.val, r) := by
 unfold pAt at h
 cases hk : pText 16 l with
 | none => rw [hk] at h; cases h
 | some x =>
  rw [hk] at h
  simp only [Option.bind_some] at h
  cases hi : pVal x.2 with
  | none => rw [hi] at h; cases h
  | some y =>
   rw [hi] at h
   simp only [Option.map_some, Option.some.injEq, Prod.mk.injEq] at h
   obtain ⟨rfl, rfl⟩ := h
   exact ⟨x.2, rfl, hi⟩
theorem pAt_nones {l : List UInt8} (h : pAt l = none) : pText 16 l = none ∨ ∃ s l1, pText 16 l = some (s, l1) ∧ pVal l1 = none := by
 unfold pAt at h
 cases hk : pText 16 l with
 | none => exact .inl rfl
 | some x =>
  rw [hk] at h
  simp only [Option.bind_some] at h
  exact .inr ⟨x.1, x.2, rfl, by simpa using h⟩
theorem EvInv.rk {w W W' : World} {B rb bb rp ep : Nat} {key : ByteArray} {s : List At} {l l' : List UInt8} (hrb : rb < w.heap.size) (hrp : rp ≠ rb) (_hep : rp < ep) (hwe : w.heap.size ≤ ep) (h : EvInv w B rb bb rp ep key s l W) (hk : RK rb W W') (hR : Rd W' B rb bb l') : EvInv w B rb bb rp ep key s l' W' := by
 obtain ⟨_, h1, ⟨v, h2, h3⟩, h4⟩ := h
 have l1 : rp < W.heap.size := lt_of_heap h1
 have l2 : ep < W.heap.size := lt_of_heap h2
 exact ⟨hR, (hk.block rp l1 (by omega)).trans h1, ⟨v, (hk.block ep l2 (by omega)).trans h2, h3.keeps hk (fun b hb e => by have := (h3.block b hb).1; omega)⟩, h4.trans hk⟩
theorem cev1_yes (B rb bb rp ep : Nat) (key : ByteArray) (s : List At) (a : At) (l r : List UInt8) (w W : World) (hB : B ≤ w.heap.size) (hrb : rb < w.heap.size) (hrp : rp ≠ rb) (hep : rp < ep) (hwe : w.heap.size ≤ ep)
  (h : EvInv w B rb bb rp ep key s l W) (hs : s.length < 8) (hp : pAt l = some (a, r)) :
  Calls Tryz.prog 150 #[.pointer (some ⟨rp, 0, none⟩), .pointer (some ⟨ep, 0, none⟩)] W fun e W' => e = .returned (.tuple #[]) ∧ EvInv w B rb bb rp ep key (s ++ [a]) r W' := by
 obtain ⟨l1, q1, q2⟩ := pAt_cases hp
 obtain ⟨nm, ⟨vk, vn, vs, vi⟩⟩ := a
 simp only at q1 q2
 obtain ⟨hR, h1, ⟨v, h2, ho⟩, hk⟩ := h
 have f0 := (blk1 h1).1
 have HT := Lib.hid (ctext_yes B rb bb 16 nm l l1 W hR (by decide) q1)
 have hv := fun W' (h : Rd W' B rb bb l1) => cval_yes B rb bb ⟨vk, vn, vs, vi⟩ l1 r W' h q2
 unfold Val.cells at hv
 simp only at hv
 have HV := Lib.hid hv
 have hwW := hk.size
 have G := Lib.hid (And.intro h1 (And.intro h2 (And.intro ho hk)))
 clear h1 h2 ho hk hp q1 q2 hR hv
 go_enter Tryz.func150, Tryz.ntmps150
 go_wp2_with fail
 refine HT.out.mono ?_
 rintro e w1 ⟨rfl, hR1, k1⟩
 have b1 := (k1.block rp (lt_of_heap G.out.1) (by omega)).trans G.out.1
 have b2 := (k1.block ep (lt_of_heap G.out.2.1) (by omega)).trans G.out.2.1
 have g1 := (blk1 b1).1
 have g2 := (blk2 b2).1.2
 have o1 := G.out.2.2.1.keeps k1 (fun b hb e => by have := (G.out.2.2.1.block b hb).1; omega)
 have H := Lib.hid (And.intro hR1 (And.intro b1 (And.intro b2 (And.intro o1 (G.out.2.2.2.trans k1)))))
 clear hR1 k1 b1 b2 o1 f0
 go_wp2_with fail
 refine wp_region_g (S := fun W' => W'.cell? ⟨ep, 1, none⟩ = some v ∧ W'.cell? ⟨rp, 0, none⟩ = some (.pointer (some ⟨rb, 0, none⟩))) (M := [0, 1, 2, 3, 4, 5, 6, 7, 8]) (by kernel_rfl) ?_
 have hS : w1.drew.cell? ⟨ep, 1, none⟩ = some v ∧ w1.drew.cell? ⟨rp, 0, none⟩ = some (.pointer (some ⟨rb, 0, none⟩)) := ⟨g2, g1⟩
 refine wpAnyG_takeL (i := 0) (oi := _) (v := ?va0) rfl (by kernel_rfl) (by kernel_rfl) (by kernel_rfl) (by kernel_rfl) (fun _ _ _ h => h) (Or.inl ⟨by rfl, ?ya0⟩) hS ?ra0
 case ya0 => (intro W hSw; go_simp; try with_reducible rfl)
 try simp only [Act.put, List.setIfInBounds_toArray, List.set_cons_zero, List.set_cons_succ]
 refine wpAnyG_takeL (i := 1) (oi := _) (v := ?va1) rfl (by kernel_rfl) (by kernel_rfl) (by kernel_rfl) (by kernel_rfl) (fun _ _ _ h => h) (Or.inl ⟨by rfl, ?ya1⟩) hS ?ra1
 case ya1 => (intro W hSw; obtain ⟨y1, y2⟩ := hSw; go_simp; try with_reducible rfl)
 try simp only [Act.put, List.setIfInBounds_toArray, List.set_cons_zero, List.set_cons_succ]
 refine wpAnyG_takeL (i := 2) (oi := _) (v := ?va2) rfl (by kernel_rfl) (by kernel_rfl) (by kernel_rfl) (by kernel_rfl) (fun _ _ _ h => h) (Or.inl ⟨by rfl, ?ya2⟩) hS ?ra2
 case ya2 => (intro W hSw; go_simp; try with_reducible rfl)
 try simp only [Act.put, List.setIfInBounds_toArray, List.set_cons_zero, List.set_cons_succ]
 refine wpAnyG_takeL (i := 3) (oi := _) (v := ?va3) rfl (by kernel_rfl) (by kernel_rfl) (by kernel_rfl) (by kernel_rfl) (fun _ _ _ h => h) (Or.inl ⟨by rfl, ?ya3⟩) hS ?ra3
 case ya3 => (intro W hSw; obtain ⟨y1, y2⟩ := hSw; go_simp; try with_reducible rfl)
 try simp only [Act.put, List.setIfInBounds_toArray, List.set_cons_zero, List.set_cons_succ]
 refine wpAnyG_onlyL (i := 4) (o := _) (by kernel_rfl) rfl (fun K hK => ?_)
 go_simp
 refine (HV.out _ (H.out.1.old (Keeps.refl _ _).drew)).mono ?_
 rintro e w2 ⟨rfl, hR2, k2⟩
 have hS2 : w2.cell? ⟨ep, 1, none⟩ = some v ∧ w2.cell? ⟨rp, 0, none⟩ = some (.pointer (some ⟨rb, 0, none⟩)) := ⟨k2.cell hS.1 (by dsimp only; omega), k2.cell hS.2 (by dsimp only; omega)⟩
 go_wp2_with fail
 refine hK.out _ _ (fun _ => hS2) ?_
 clear hK K
 try simp only [Act.put, List.setIfInBounds_toArray, List.set_cons_zero, List.set_cons_succ]
 refine wpAnyG_takeL (i := 5) (oi := _) (v := ?va5) rfl (by kernel_rfl) (by kernel_rfl) (by kernel_rfl) (by kernel_rfl) (fun _ _ _ h => h) (Or.inl ⟨by rfl, ?ya5⟩) hS2 ?ra5
 case ya5 => (intro W hSw; go_simp; try with_reducible rfl)
 try simp only [Act.put, List.setIfInBounds_toArray, List.set_cons_zero, List.set_cons_succ]
 have H2 := Lib.hid (And.intro hR2 (And.intro k2 ((k2.block rp (lt_of_heap H.out.2.1) (by omega)).trans H.out.2.1)))
 have b3 := (k2.block ep (lt_of_heap H.out.2.2.1) (by omega)).trans H.out.2.2.1
 have o2 := (H.out.2.2.2.1.old ((Keeps.refl _ _).drew)).keeps k2 (fun b hb e => by have := (H.out.2.2.2.1.block b hb).1; omega)
 have B3 := Lib.hid b3
 have OB := Lib.hid (fun b (hb : v.ownBlock = some b) => (o2.block b hb).1)
 have hz : ep + 1 ≤ w2.heap.size := lt_of_heap b3
 have SN := Lib.hid (SeesR.new (k := 5) (enc := At.cells) w2 169 (0, 0) [(⟨nm, ⟨vk, vn, vs, vi⟩⟩ : At)] #[.string nm, .int .i64 vk, .int .i64 vn, .string vs, .bool vi] (by simp [At.cells]) (fun _ => rfl) (by unfold maxLen; simp))
 have O2 := Lib.hid (o2.alloc (.cells #[.string nm, .int .i64 vk, .int .i64 vn, .string vs, .bool vi] 169))
 have HN := Lib.hid (show s.length + 1 ≤ maxLen ∧ (s.length + 1) * 56 ≤ 140737488355328 ∧ ep + 1 ≤ (w2.alloc (.cells #[.string nm, .int .i64 vk, .int .i64 vn, .string vs, .bool vi] 169)).heap.size from ⟨by unfold maxLen; omega, by omega, by simp; omega⟩)
 clear hR2 k2 b3 o2
 refine wpAnyG_onlyL (i := 6) (o := _) (by kernel_rfl) rfl (fun K hK => ?_)
 go_simp
 have hS3 : (w2.alloc (.cells #[.string nm, .int .i64 vk, .int .i64 vn, .string vs, .bool vi] 169)).cell? ⟨ep, 1, none⟩ = some v ∧ (w2.alloc (.cells #[.string nm, .int .i64 vk, .int .i64 vn, .string vs, .bool vi] 169)).cell? ⟨rp, 0, none⟩ = some (.pointer (some ⟨rb, 0, none⟩)) := ⟨((Keeps.refl (fun _ => False) w2).alloc _).cell hS2.1 (fun f => f), ((Keeps.refl (fun _ => False) w2).alloc _).cell hS2.2 (fun f => f)⟩
 refine hK.out _ _ (fun _ => hS3) ?_
 clear hK K
 try simp only [Act.put, List.setIfInBounds_toArray, List.set_cons_zero, List.set_cons_succ]
 refine wpAnyG_onlyL (i := 7) (o := _) (by kernel_rfl) rfl (fun K hK => ?_)
 refine step_append_rows (P := Tryz.prog) rfl _ _ 25 rfl (ep + 1) 169 5 56 At.cells _ Tryz.underlying25 Tryz.infoAttr rfl (by decide) v s (by rfl) O2.out _ [(⟨nm, ⟨vk, vn, vs, vi⟩⟩ : At)] (by rfl) SN.out (fun _ _ => rfl) (by simp [At.cells, Value.oneCell']) HN.out.1 HN.out.2.1 HN.out.2.2 ?_
 intro v' w3 ho3 hg3 _
 obtain ⟨p', n', c', rfl⟩ : ∃ p n c, v' = .slice p n c := by obtain ⟨p, c, h, _⟩ := (ho3.sees (fun _ => rfl) (by decide)).len; exact ⟨p, _, c, h⟩
 have k3 : Keeps (fun k => ep < k) w2 w3 := (((Keeps.refl _ _).alloc _).grown hg3 (fun k hk _ => OB.out k hk))
 have hS4 : w3.cell? ⟨ep, 1, none⟩ = some v ∧ w3.cell? ⟨rp, 0, none⟩ = some (.pointer (some ⟨rb, 0, none⟩)) := ⟨k3.cell hS2.1 (by dsimp only; omega), k3.cell hS2.2 (by dsimp only; omega)⟩
 have b4 := (k3.block ep hz (by omega)).trans B3.out
 have F := Lib.hid (And.intro k3 (And.intro ho3 b4))
 have g4 := (blk2 b4).1.2
 have g5 := (blk2 b4).2.2
 clear k3 ho3 b4 hg3 hS3
 refine hK.out _ _ (fun _ => hS4) ?_
 clear hK K
 try simp only [Act.put, List.setIfInBounds_toArray, List.set_cons_zero, List.set_cons_succ]
 refine wpAnyG_takeL (i := 8) (oi := _) (v := ?va8) rfl (by kernel_rfl) (by kernel_rfl) (by kernel_rfl) (by kernel_rfl) (fun _ _ _ h => h) (Or.inl ⟨by rfl, ?ya8⟩) hS4 ?ra8
 case ya8 => (intro W hSw; go_simp; try with_reducible rfl)
 try simp only [Act.put, List.setIfInBounds_toArray, List.set_cons_zero, List.set_cons_succ]
 refine wpAnyG_onlyL (i := 9) (o := _) (by kernel_rfl) rfl (fun K hK => ?_)
 go_simp
 refine hK.out _ _ (fun h => absurd h (by decide)) ?_
 clear hK K
 refine wpAnyG_done (by kernel_rfl) ?_ _
 go_simp
 go_wp2_with fail
 go_end0
 refine ⟨rfl, ?_⟩
 have hb4 := F.out.2.1.block
 have kF : Keeps (fun k => ep ≤ k) w2 (w3.setCell ⟨ep, 1, none⟩ (.slice p' n' c')) := (F.out.1.weaken (fun i _ h => Nat.le_of_lt h)).setCell (fun _ => Nat.le_refl _) _
 refine ⟨H2.out.1.far kF (fun k hk => ⟨by omega, by omega⟩), (kF.block rp (lt_of_heap H2.out.2.2) (by omega)).trans H2.out.2.2, ⟨.slice p' n' c', ?_, ?_⟩, ?_⟩
 ·have := heap_setCell_same w3 ep 1 _ _ (.slice p' n' c') F.out.2.2
  simpa using this
 ·exact F.out.2.1.keeps ((Keeps.refl (fun k => k = ep) _).setCell (fun _ => rfl) _) (fun b hb e => by have := (hb4 b hb).1; omega)
 ·exact ((H.out.2.2.2.2.then (Keeps.refl (fun _ => False) w1).drew (fun _ _ f => f.elim)).trans H2.out.2.1).then kF (fun i hi h => by omega)
def Bad (w : World) (B rb bb : Nat) (W : World) : Prop := (∃ r, Rd W B rb bb r) ∧ RK rb w W
theorem EvInv.bad {w W : World} {B rb bb rp ep : Nat} {key : ByteArray} {s : List At} {l : List UInt8} (h : EvInv w B rb bb rp ep key s l W) : Bad w B rb bb W := ⟨⟨l, h.1⟩, h.2.2.2⟩
theorem cev1_no (B rb bb rp ep : Nat) (key : ByteArray) (s : List At) (l : List UInt8) (w W : World) (_hB : B ≤ w.heap.size) (hrb : rb < w.heap.size) (hrp : rp ≠ rb) (_hep : rp < ep) (hwe : w.heap.size ≤ ep)
  (h : EvInv w B rb bb rp ep key s l W) (hp : pAt l = none) :
  Calls Tryz.prog 150 #[.pointer (some ⟨rp, 0, none⟩), .pointer (some ⟨ep, 0, none⟩)] W fun e W' => e = .panicked fault ∧ Bad w B rb bb W' := by
 obtain ⟨hR, h1, ⟨v, h2, ho⟩, hk⟩ := h
 have f0 := (blk1 h1).1
 rcases pAt_nones hp with q | ⟨nm, l1, q1, q2⟩
 ·have HT := Lib.hid (ctext_no B rb bb 16 l W hR (by decide) q)
  have G := Lib.hid hk
  clear h1 h2 ho hk hp q hR
  go_enter Tryz.func150, Tryz.ntmps150
  go_wp2_with fail
  refine HT.out.mono ?_
  rintro e w1 ⟨rfl, hR1, k1⟩
  have R := Lib.hid (show Bad w B rb bb w1 from ⟨hR1, G.out.trans k1⟩)
  clear hR1 k1
  go_wp2_with fail
  exact ⟨rfl, rfl, R.out⟩
 ·have HT := Lib.hid (ctext_yes B rb bb 16 nm l l1 W hR (by decide) q1)
  have HV := Lib.hid (fun W' (h : Rd W' B rb bb l1) => cval_no B rb bb l1 W' h q2)
  have G := Lib.hid (And.intro h1 (And.intro h2 (And.intro ho hk)))
  clear h1 h2 ho hk hp q1 q2 hR
  go_enter Tryz.func150, Tryz.ntmps150
  go_wp2_with fail
  refine HT.out.mono ?_
  rintro e w1 ⟨rfl, hR1, k1⟩
  have b1 := (k1.block rp (lt_of_heap G.out.1) (by omega)).trans G.out.1
  have b2 := (k1.block ep (lt_of_heap G.out.2.1) (by omega)).trans G.out.2.1
  have g1 := (blk1 b1).1
  have g2 := (blk2 b2).1.2
  have H := Lib.hid (And.intro hR1 (G.out.2.2.2.trans k1))
  clear hR1 k1 b1 b2 f0
  go_wp2_with fail
  refine wp_region_g (S := fun W' => W'.cell? ⟨ep, 1, none⟩ = some v ∧ W'.cell? ⟨rp, 0, none⟩ = some (.pointer (some ⟨rb, 0, none⟩))) (M := [0, 1, 2, 3, 4, 5, 6, 7, 8]) (by kernel_rfl) ?_
  have hS : w1.drew.cell? ⟨ep, 1, none⟩ = some v ∧ w1.drew.cell? ⟨rp, 0, none⟩ = some (.pointer (some ⟨rb, 0, none⟩)) := ⟨g2, g1⟩
  refine wpAnyG_takeL (i := 0) (oi := _) (v := ?va0) rfl (by kernel_rfl) (by kernel_rfl) (by kernel_rfl) (by kernel_rfl) (fun _ _ _ h => h) (Or.inl ⟨by rfl, ?ya0⟩) hS ?ra0
  case ya0 => (intro W hSw; go_simp; try with_reducible rfl)
  try simp only [Act.put, List.setIfInBounds_toArray, List.set_cons_zero, List.set_cons_succ]
  refine wpAnyG_takeL (i := 1) (oi := _) (v := ?va1) rfl (by kernel_rfl) (by kernel_rfl) (by kernel_rfl) (by kernel_rfl) (fun _ _ _ h => h) (Or.inl ⟨by rfl, ?ya1⟩) hS ?ra1
  case ya1 => (intro W hSw; obtain ⟨y1, y2⟩ := hSw; go_simp; try with_reducible rfl)
  try simp only [Act.put, List.setIfInBounds_toArray, List.set_cons_zero, List.set_cons_succ]
  refine wpAnyG_takeL (i := 2) (oi := _) (v := ?va2) rfl (by kernel_rfl) (by kernel_rfl) (by kernel_rfl) (by kernel_rfl) (fun _ _ _ h => h) (Or.inl ⟨by rfl, ?ya2⟩) hS ?ra2
  case ya2 => (intro W hSw; go_simp; try with_reducible rfl)
  try simp only [Act.put, List.setIfInBounds_toArray, List.set_cons_zero, List.set_cons_succ]
  refine wpAnyG_takeL (i := 3) (oi := _) (v := ?va3) rfl (by kernel_rfl) (by kernel_rfl) (by kernel_rfl) (by kernel_rfl) (fun _ _ _ h => h) (Or.inl ⟨by rfl, ?ya3⟩) hS ?ra3
  case ya3 => (intro W hSw; obtain ⟨y1, y2⟩ := hSw; go_simp; try with_reducible rfl)
  try simp only [Act.put, List.setIfInBounds_toArray, List.set_cons_zero, List.set_cons_succ]
  refine wpAnyG_onlyL (i := 4) (o := _) (by kernel_rfl) rfl (fun K hK => ?_)
  go_simp
  refine (HV.out _ (H.out.1.old (Keeps.refl _ _).drew)).mono ?_
  rintro e w2 ⟨rfl, hR2, k2⟩
  have R := Lib.hid (show Bad w B rb bb w2 from ⟨hR2, (H.out.2.then (Keeps.refl (fun _ => False) w1).drew (fun _ _ f => f.elim)).trans k2⟩)
  clear hR2 k2
  go_wp2_with fail
  exact ⟨rfl, rfl, R.out⟩
theorem pEvent_eq (l : List UInt8) : pEvent l = (pText 16 l).bind fun x => (pList 8 pAt x.2).map fun y => ((x.1, y.1), y.2) := rfl
def EvPost (w : World) (B rb bb : Nat) (res : Option ((ByteArray × List At) × List UInt8)) (e : Ending) (w' : World) : Prop :=
 match res with
 | some x => (∃ p n c, e = .returned (.agg #[.string x.1.1, .slice p n c]) ∧ OwnsA w' w.heap.size (.slice p n c) x.1.2) ∧ Rd w' B rb bb x.2 ∧ RK rb w w'
 | none => e = .panicked fault ∧ Bad w B rb bb w'
theorem cevent_any (B rb bb : Nat) (l : List UInt8) (w : World) (h : Rd w B rb bb l) :
  Calls Tryz.prog 125 #[rdV rb] w (EvPost w B rb bb (pEvent l)) := by
 rw [pEvent_eq]
 have hrb := h.lt
 have hbase := h.base
 obtain ⟨W0, hW0⟩ : ∃ W0, (w.alloc (.cells #[.pointer (some ⟨rb, 0, none⟩)] 146)).alloc (.cells #[.string ⟨#[]⟩, .slice none 0 0] 27) = W0 := ⟨_, rfl⟩
 have k0 : Old w W0 := by rw [← hW0]; exact ((Keeps.refl _ _).alloc _).alloc _
 have hb := two_blocks w (.cells #[.pointer (some ⟨rb, 0, none⟩)] 146) (.cells #[.string ⟨#[]⟩, .slice none 0 0] 27)
 rw [hW0] at hb
 have kk : RK rb w W0 := k0.weaken (fun _ _ f => f.elim)
 have hR0 := h.old k0
 have HB := Lib.hid hb
 have HK := Lib.hid kk
 have f0 := (blk1 hb.1).1
 cases ht : pText 16 l with
 | none =>
  have HT := Lib.hid (ctext_no B rb bb 16 l W0 hR0 (by decide) ht)
  simp only [Option.bind_none]
  clear hb kk h k0 hR0 ht
  go_enter Tryz.func125, Tryz.ntmps125
  go_wp2_with fail
  refine HT.out.mono ?_
  rintro e w1 ⟨rfl, hR1, k1⟩
  have R := Lib.hid (show Bad w B rb bb w1 from ⟨hR1, HK.out.trans k1⟩)
  clear hR1 k1
  go_wp2_with fail
  exact ⟨rfl, rfl, R.out⟩
 | some x =>
  obtain ⟨key, r1⟩ := x
  have HT := Lib.hid (ctext_yes B rb bb 16 key l r1 W0 hR0 (by decide) ht)
  simp only [Option.bind_some]
  obtain ⟨res, hres⟩ : ∃ res, pList 8 pAt r1 = res := ⟨_, rfl⟩
  rw [hres]
  have HRES := Lib.hid hres
  clear hb kk h k0 hR0 ht hres
  go_enter Tryz.func125, Tryz.ntmps125
  go_wp2_with fail
  refine HT.out.mono ?_
  rintro e w1 ⟨rfl, h1, h2⟩
  have b0 := (h2.block _ (lt_of_heap HB.out.1) (by omega)).trans HB.out.1
  have b1 := (h2.block _ (lt_of_heap HB.out.2) (by omega)).trans HB.out.2
  have hk1 := HK.out.trans h2
  have f1 := (blk1 b0).1
  have hlt0 := lt_of_heap b0
  have hlt1 := lt_of_heap b1
  have hrb1 := h1.lt
  obtain ⟨W1, hW1⟩ : ∃ W1, w1.alloc (.cells #[.string key, .slice none 0 0] 27) = W1 := ⟨_, rfl⟩
  have o1 : Old w1 W1 := by rw [← hW1]; exact (Keeps.refl _ _).alloc _
  have b2 : W1.heap[w1.heap.size]? = some (.cells #[.string key, .slice none 0 0] 27 (0, 0)) := by rw [← hW1]; exact heap_alloc_new _ _
  have b0' := (o1.block _ hlt0 (fun f => f)).trans b0
  have inv : EvInv w1 B rb bb w.heap.size w1.heap.size key [] r1 W1 := ⟨h1.old o1, b0', ⟨_, b2, OwnsR.nil _ _⟩, o1.weaken (fun _ _ f => f.elim)⟩
  have hB1 : B ≤ w1.heap.size := h1.base
  have T := times_any B rb bb 8 150 #[.pointer (some ⟨w.heap.size, 0, none⟩), .pointer (some ⟨w1.heap.size, 0, none⟩)] pAt (EvInv w1 B rb bb w.heap.size w1.heap.size key) (Bad w1 B rb bb) [] r1 W1
   (by decide) (fun args W => by simp [go_sem, callFunc, Tryz.func150]; rfl) (fun _ _ _ h => h.1) (fun s l l' W W' h k r => h.rk hrb1 (by omega) hlt0 (Nat.le_refl _) k r) (fun _ _ _ h => h.bad)
   (fun s l x r W h hs hp => cev1_yes B rb bb _ _ key s x l r w1 W hB1 hrb1 (by omega) hlt0 (Nat.le_refl _) h (by simpa using hs) hp)
   (fun s l W h hp => cev1_no B rb bb _ _ key s l w1 W hB1 hrb1 (by omega) hlt0 (Nat.le_refl _) h hp) inv
  have T' : Calls Tryz.prog 120 #[rdV rb, .int .u64 (8 : Nat), .func (.func 150) #[] #[.pointer (some ⟨w.heap.size, 0, none⟩), .pointer (some ⟨w1.heap.size, 0, none⟩)]] W1 (TPost (EvInv w1 B rb bb w.heap.size w1.heap.size key) (Bad w1 B rb bb) res) := by rw [← HRES.out]; exact T
  have HT2 := Lib.hid T'
  have G := Lib.hid (And.intro hk1 b1)
  have HW1 := Lib.hid hW1
  clear h1 h2 b0 b1 hk1 o1 b2 b0' inv T T' hW1 HT
  go_wp2_with fail
  rw [HW1.out]
  refine HT2.out.mono ?_
  intro e w2 ht
  clear HRES HT2
  rcases res with _ | ⟨es, r⟩
  ·obtain ⟨rfl, ht⟩ : e = .panicked fault ∧ Bad w1 B rb bb w2 := ht
   have R := Lib.hid (show Bad w B rb bb w2 from ⟨ht.1, G.out.1.trans ht.2⟩)
   clear ht
   go_wp2_with fail
   exact ⟨rfl, rfl, R.out⟩
  ·obtain ⟨rfl, hR2, _, ⟨v, hv, ho⟩, k2⟩ : e = .returned (.tuple #[]) ∧ EvInv w1 B rb bb w.heap.size w1.heap.size key es r w2 := ht
   obtain ⟨p', n', c', rfl⟩ : ∃ p n c, v = .slice p n c := by obtain ⟨p, c, h, _⟩ := (ho.sees (fun _ => rfl) (by decide)).len; exact ⟨p, _, c, h⟩
   have c1 := (k2.block _ hlt1 (by omega)).trans G.out.2
   have g1 := blk2 c1
   have g2 := blk2 hv
   have H := Lib.hid (And.intro hR2 (And.intro ho (G.out.1.trans k2)))
   clear hR2 hv ho k2 c1
   go_wp2_with fail
   refine bodyPost_ret (v := .agg #[.string key, .slice p' n' c']) (by simp [results, Tryz.results125, go_sem, g1]) rfl ⟨⟨p', n', c', rfl, ?_⟩, rd_close H.out.1 H.out.2.2 hbase hrb ?_⟩
   ·refine (H.out.2.1.mono (Nat.le_trans (Nat.le_of_lt hlt0) (Nat.le_succ _))).keeps (S := fun k => k ≤ w1.heap.size) ?_ (fun b hb e => by have := (H.out.2.1.block b hb).1; omega)
    repeat (first | exact Keeps.refl _ _ | refine Keeps.setCell ?_ (fun _ => by dsimp only; omega) _)
   ·repeat (first | exact Keeps.refl _ _ | refine Keeps.setCell ?_ (fun _ => by dsimp only; omega) _)
end
section
open Go.RowKit
def valL (v : Val) : List Value := [.int .i64 v.kind, .int .i64 v.num, .string v.str, .bool v.is]
abbrev SeesV (w : World) (v : Value) (l : List Val) : Prop := SeesR w 4 valL v l
structure Con where
 name : ByteArray
 op : Int
 val : Val
 sv : Value
 set : List Val
def Con.cells (c : Con) : List Value := [.string c.name, .int .i64 c.op, .int .i64 c.val.kind, .int .i64 c.val.num, .string c.val.str, .bool c.val.is, c.sv]
def bare (v : Val) : Bool := (v.kind == 0) && ((v.num == 0) && (v.str.toList.isEmpty && !v.is))
def conOk (c : Con) : Bool :=
 decide (1 ≤ c.name.size) && decide (c.name.size ≤ 16) &&
 if c.op = 1 then bare c.val && decide (c.set.length = 0)
 else if 2 ≤ c.op ∧ c.op ≤ 7 then c.val.ok && decide (c.set.length = 0)
 else if c.op = 8 then c.val.ok && (decide (c.val.kind = 2) && decide (c.set.length = 0))
 else if c.op = 9 then bare c.val && (decide (1 ≤ c.set.length) && (decide (c.set.length ≤ 6) && c.set.all Val.ok))
 else false
theorem eql_bare (v : Val) (W : World) : (binOp .eql 69 (.agg v.cells) (.agg #[.int .i64 0, .int .i64 0, .string ⟨#[]⟩, .bool false])).run Tryz.prog W = .ok (.bool (bare v)) W := by
 obtain ⟨k, n, s, b⟩ := v
 unfold Val.cells bare
 rw [eql_val, empty_eq]
 cases b <;> simp
theorem may_cons1_any (v : Val) (w : World) : Calls Tryz.prog 110 #[.agg v.cells] w fun e w' => e = .returned (.bool (!v.ok)) ∧ Old w w' := by
 have V := fun W => val_any v W
 obtain ⟨k, n, s, b⟩ := v
 unfold Val.cells at V ⊢
 simp only at V ⊢
 have HV := Lib.hid V
 clear V
 go_enter Tryz.func110, Tryz.ntmps110
 go_wp2_with fail
 refine (HV.out _).mono ?_
 rintro e w1 ⟨rfl, hk⟩
 have K := Lib.hid (((Keeps.refl _ w).alloc _).trans hk)
 clear hk
 go_wp2_with fail
 go_ret
 exact ⟨rfl, K.out⟩
theorem index_set_any (v : Value) (l : List Val) (w : World) (h : SeesR w 4 valL v l) (hf : ∀ x ∈ l, True)
  (hc : ∀ x, True → ∀ W, Old w W → Calls Tryz.prog 110 #[.agg x.cells] W fun e w' => e = .returned (.bool (!Val.ok x)) ∧ Old W w') :
  Calls Tryz.prog 138 #[v, .func (.func 110) #[] #[]] w fun e w' => (∃ i : Int, e = .returned (.int .i64 i) ∧ decide (0 ≤ i) = !(l.all Val.ok)) ∧ Old w w' := by
 by_cases hl : 0 < l.length
 ·obtain ⟨b, o, c, rfl, h1, h2, hcell⟩ := h.at hl
  have hm : l.length ≤ 9223372036854775807 := by unfold maxLen at h2; omega
  have HC := Lib.hid hcell
  have HF := Lib.hid hf
  have HK := Lib.hid hc
  clear h1 h2 h hcell hl hf hc
  go_enter Tryz.func138, Tryz.ntmps138
  go_wp2_with fail
  go_loopw [8] (fun v8 wr => ∃ k : Nat, k ≤ l.length ∧ v8 = .int .i64 k ∧ (l.take k).all Val.ok = true ∧ Old w wr) (fun v8 _ => l.length - (intOf v8).toNat)
  case atStart => exact ⟨0, by omega, rfl, by simp, Keeps.refl _ _⟩
  case round =>
   obtain ⟨k, hk, rfl, hr, hkw⟩ := hrel
   have HR := Lib.hid hr
   clear hr
   by_cases hlt : k < l.length
   ·have hx : l[k]? = some l[k] := List.getElem?_eq_getElem hlt
    generalize l[k] = x at hx
    have cell : ∀ i u, (valL x)[i]? = some u → wr.cell? ⟨b, o + k * 4 + i, none⟩ = some u := fun i u hu => hkw.cell (HC.out k x hx i u hu) (fun f => f)
    have c0 := cell 0 _ rfl
    have c1 := cell 1 _ rfl
    have c2 := cell 2 _ rfl
    have c3 := cell 3 _ rfl
    simp only [Nat.add_zero] at c0
    have N := HK.out x (HF.out x (List.mem_of_getElem? hx)) wr hkw
    have HX := Lib.hid (And.intro hx hkw)
    clear cell hx hkw
    cases hg : Val.ok x
    ·rw [hg] at N
     have HN := Lib.hid N
     have HG := Lib.hid hg
     clear N hg
     go_wp2_with fail
     refine HN.out.mono ?_
     rintro e w1 ⟨rfl, hk1⟩
     have K1 := Lib.hid (HX.out.2.trans hk1)
     clear hk1
     go_wp2_with fail
     go_ret
     exact ⟨⟨k, rfl, by rw [all_false_of HX.out.1 HG.out]; simp⟩, K1.out⟩
    ·rw [hg] at N
     have HN := Lib.hid N
     have HG := Lib.hid hg
     clear N hg
     go_wp2_with fail
     refine HN.out.mono ?_
     rintro e w1 ⟨rfl, hk1⟩
     have K1 := Lib.hid (HX.out.2.trans hk1)
     clear hk1
     go_wp2_with fail
     go_roundw
     case rel => exact ⟨k + 1, by omega, by go_num, by rw [all_take_succ HX.out.1, HR.out, HG.out]; rfl, K1.out⟩
     case measure => simp [intOf]; omega
   ·have K1 := Lib.hid hkw
    clear hkw
    go_wp2_with fail
    go_ret
    refine ⟨⟨-1, rfl, ?_⟩, K1.out⟩
    have := HR.out
    rw [List.take_of_length_le (by omega)] at this
    rw [this]
    rfl
 ·obtain ⟨rfl, p, c, rfl⟩ := h.at0 (by omega)
  clear h hl hf hc
  go_enter Tryz.func138, Tryz.ntmps138
  go_wp2_with fail
  go_loopw [8] (fun v8 wr => v8 = .int .i64 0 ∧ Old w wr) (fun _ _ => 0)
  case atStart => exact ⟨rfl, Keeps.refl _ _⟩
  case round =>
   obtain ⟨rfl, hkw⟩ := hrel
   have K1 := Lib.hid hkw
   clear hkw
   go_wp2_with fail
   go_ret
   exact ⟨⟨-1, rfl, rfl⟩, K1.out⟩
theorem contains_set_any (v : Value) (l : List Val) (w : World) (h : SeesR w 4 valL v l) (hf : ∀ x ∈ l, True)
  (hc : ∀ x, True → ∀ W, Old w W → Calls Tryz.prog 110 #[.agg x.cells] W fun e w' => e = .returned (.bool (!Val.ok x)) ∧ Old W w') :
  Calls Tryz.prog 109 #[v, .func (.func 110) #[] #[]] w fun e w' => e = .returned (.bool (!(l.all Val.ok))) ∧ Old w w' := by
 obtain ⟨p, c, rfl, h1, h2⟩ := h.len
 have C := Lib.hid (index_set_any _ l w h hf hc)
 clear h h1 h2 hf hc
 go_enter Tryz.func109, Tryz.ntmps109
 go_wp2_with fail
 refine C.out.mono ?_
 rintro e w' ⟨⟨i, rfl, hi⟩, hk⟩
 have HI := Lib.hid (And.intro hi hk)
 clear hi hk
 go_wp2_with fail
 go_ret
 exact ⟨ret_bool HI.out.1, HI.out.2⟩
end
end Go.Proofs.YtpjpimahnnekkaaGreat
