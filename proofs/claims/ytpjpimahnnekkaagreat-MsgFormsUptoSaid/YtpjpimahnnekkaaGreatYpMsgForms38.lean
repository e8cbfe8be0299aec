/- DERIVED. Chapter 21: Ours, theirs. (gen_ow.py wrote it) · DERIVED. How arguments read: bytes; and what the bound on their bulk gives. -/
import Derived.Test.YtpjpimahnnekkaaGreatYpMsgForms35
import Derived.Test.YtpjpimahnnekkaaGreatYpMsgForms05
import Derived.Test.YtpjpimahnnekkaaGreatRows
import Derived.Test.YtpjpimahnnekkaaGreatYpMsgForms01
import Derived.ProofKit
import Derived.OpenShut
import Derived.Test.YtpjpimahnnekkaaGreatYpMsgForms12
import Derived.Test.YtpjpimahnnekkaaGreatYpMsgForms10
import Derived.Test.YtpjpimahnnekkaaGreatYpMsgForms17
import Derived.Test.YtpjpimahnnekkaaGreatYpMsgForms09
import Derived.Deep.Slices
import Derived.Deep.Fields
import Derived.Test.YtpjpimahnnekkaaGreatYpMsgForms30
set_option maxRecDepth 100000
set_option maxHeartbeats 1000000
namespace Go.Proofs.YtpjpimahnnekkaaGreat
section
open Go.RowKit Go.Great
attribute [-go_sem] loadVar storeVar
theorem Ms.fine.one {w : World} {m : Ms} (h : m.fine w) : m.cells.toArray.all (·.oneCell') = true := by
 obtain ⟨p1, c1, e1, _, r1⟩ := h.1.1.1.len
 obtain ⟨p2, c2, e2, _, _⟩ := h.2.1.1.len
 obtain ⟨p3, c3, e3, _, _⟩ := h.2.2.1.1.1.len
 obtain ⟨p4, c4, e4, _, _⟩ := h.2.2.1.1.2.2.len
 simp [Ms.cells, e1, e2, e3, e4, Value.oneCell']
theorem load_whole {W : World} {b : Nat} {cs : Array Value} {t ty : TypeId} {fr : Nat × Nat} {d : Array Field} (h : W.heap[b]? = some (.cells cs t fr)) (hn : cs.size = 18) (hu : Tryz.prog.underlying ty = some (.struct d)) (hi : (Tryz.prog.info? ty).map (·.size) = some 18) : (loadVar ty ⟨b, 0, none⟩).run Tryz.prog W = .ok (.agg cs) W :=
 load_sub (o := 0) (fun j v hv => by
  have : cs[j]? = some v := by simpa using hv
  simp [World.cell?, h, this]) hu rfl (by rw [hn]; exact hi)
abbrev RAt (w : World) (mb : Nat) (m : Ms) : Prop := w.heap[mb]? = some (.cells m.cells.toArray 37 (0, 0))
theorem store_msgR {w : World} {mb : Nat} {m : Ms} (h : RAt w mb m) (m' : Ms) (h1 : m'.cells.toArray.all (·.oneCell') = true) : ∃ w', (storeVar 37 ⟨mb, 0, none⟩ (.agg m'.cells.toArray)).run Tryz.prog w = .ok () w' ∧ RAt w' mb m' ∧ Keeps (fun k => k = mb) w w' :=
 store_cells h _ (by simp [Ms.cells]) (by simp only [Ms.cells, List.size_toArray]; kernel_rfl) h1 (putRange_whole (by simp [Ms.cells]))
theorem ours_any (m : Ms) (w : World) (h : m.fine w) : Calls Tryz.prog 9 #[.agg m.cells.toArray] w fun e w' => e = .returned (.agg m.cells.toArray) ∧ Old w w' := by
 have hone := h.one
 obtain ⟨kind, pub, ver, there, pv, ps, ⟨n, tm, key, av, es⟩, tb, tl, tc, frm, ⟨fr, en, iv, its, gv, gs, last⟩⟩ := m
 obtain ⟨p1, c1, e1, _, r1⟩ := h.1.1.1.len
 obtain ⟨p2, c2, e2, _, _⟩ := h.2.1.1.len
 obtain ⟨p3, c3, e3, _, _⟩ := h.2.2.1.1.1.len
 obtain ⟨p4, c4, e4, _, _⟩ := h.2.2.1.1.2.2.len
 simp only at e1 e2 e3 e4
 subst e1 e2 e3 e4
 clear h r1
 obtain ⟨m, hm⟩ : ∃ m : Ms, m = ⟨kind, pub, ver, there, .slice p1 ps.length c1, ps, ⟨n, tm, key, .slice p2 es.length c2, es⟩, tb, tl, tc, frm, ⟨fr, en, .slice p3 its.length c3, its, .slice p4 gs.length c4, gs, last⟩⟩ := ⟨_, rfl⟩
 rw [← hm] at hone ⊢
 have hmc : m.cells.toArray = #[.int .i64 kind, .int .i64 pub, .int .u64 ver, .bool there, .slice p1 ps.length c1, .int .u64 n, .int .u64 tm, .string key, .slice p2 es.length c2, .int .i64 tb, .int .u64 tl, .int .u64 tc, .int .u64 frm, .int .u64 fr, .int .u64 en, .slice p3 its.length c3, .slice p4 gs.length c4, .bool last] := by rw [hm]; rfl
 obtain ⟨W0, hW0⟩ : ∃ W0, (w.alloc (.cells m.cells.toArray 37)).alloc (.cells zeroMs.cells.toArray 44) = W0 := ⟨_, rfl⟩
 have k0 : Old w W0 := by rw [← hW0]; exact ((Keeps.refl _ _).alloc _).alloc _
 obtain ⟨b0, b1⟩ := two_blocks w (.cells m.cells.toArray 37) (.cells zeroMs.cells.toArray 44)
 rw [hW0] at b0 b1
 obtain ⟨W1, hst, b2, kb⟩ := store_msg b1 m hone
 have k1 : Old w W1 := k0.then kb (fun i hi e => by omega)
 have gl := load_whole b2 (by rw [hmc]; rfl) Tryz.underlying44 (by kernel_rfl)
 rw [hmc] at b0 hW0 hst gl ⊢
 have g0 := blkM b0
 have l5 := load_sub (W := W0) (b := w.heap.size) (o := 5) (cs := #[.int .u64 n, .int .u64 tm, .string key, .slice p2 es.length c2]) (ty := 29) (by
  intro j v hv
  rcases j with _ | _ | _ | _ | _ | j <;> simp at hv
  all_goals (subst hv; first | exact g0.2.2.2.2.2.1 | exact g0.2.2.2.2.2.2.1 | exact g0.2.2.2.2.2.2.2.1 | exact g0.2.2.2.2.2.2.2.2.1)) Tryz.underlying29 rfl (by kernel_rfl)
 have l9 := load_sub (W := W0) (b := w.heap.size) (o := 9) (cs := #[.int .i64 tb, .int .u64 tl, .int .u64 tc]) (ty := 31) (by
  intro j v hv
  rcases j with _ | _ | _ | _ | _ | j <;> simp at hv
  all_goals (subst hv; first | exact g0.2.2.2.2.2.2.2.2.2.1 | exact g0.2.2.2.2.2.2.2.2.2.2.1 | exact g0.2.2.2.2.2.2.2.2.2.2.2.1)) Tryz.underlying31 rfl (by kernel_rfl)
 have l13 := load_sub (W := W0) (b := w.heap.size) (o := 13) (cs := #[.int .u64 fr, .int .u64 en, .slice p3 its.length c3, .slice p4 gs.length c4, .bool last]) (ty := 35) (by
  intro j v hv
  rcases j with _ | _ | _ | _ | _ | j <;> simp at hv
  all_goals (subst hv; first | exact g0.2.2.2.2.2.2.2.2.2.2.2.2.2.1 | exact g0.2.2.2.2.2.2.2.2.2.2.2.2.2.2.1 | exact g0.2.2.2.2.2.2.2.2.2.2.2.2.2.2.2.1 | exact g0.2.2.2.2.2.2.2.2.2.2.2.2.2.2.2.2.1 | exact g0.2.2.2.2.2.2.2.2.2.2.2.2.2.2.2.2.2)) Tryz.underlying35 rfl (by kernel_rfl)
 have q1 : ∀ a W, (loadVar 3 a).run Tryz.prog W = (load a).run Tryz.prog W := fun _ _ => by kernel_rfl
 have q2 : ∀ a W, (loadVar 22 a).run Tryz.prog W = (load a).run Tryz.prog W := fun _ _ => by kernel_rfl
 have q3 : ∀ a W, (loadVar 4 a).run Tryz.prog W = (load a).run Tryz.prog W := fun _ _ => by kernel_rfl
 have q4 : ∀ a W, (loadVar 24 a).run Tryz.prog W = (load a).run Tryz.prog W := fun _ _ => by kernel_rfl
 have K := Lib.hid (And.intro k1 gl)
 clear b0 b1 k0 k1 kb gl hm hmc b2 hone
 change (w.alloc (.cells #[.int .i64 kind, .int .i64 pub, .int .u64 ver, .bool there, .slice p1 ps.length c1, .int .u64 n, .int .u64 tm, .string key, .slice p2 es.length c2, .int .i64 tb, .int .u64 tl, .int .u64 tc, .int .u64 frm, .int .u64 fr, .int .u64 en, .slice p3 its.length c3, .slice p4 gs.length c4, .bool last] 37)).alloc (.cells #[.int .i64 0, .int .i64 0, .int .u64 0, .bool false, .slice none 0 0, .int .u64 0, .int .u64 0, .string ⟨#[]⟩, .slice none 0 0, .int .i64 0, .int .u64 0, .int .u64 0, .int .u64 0, .int .u64 0, .int .u64 0, .slice none 0 0, .slice none 0 0, .bool false] 44) = W0 at hW0
 go_enter Tryz.func9, Tryz.ntmps9
 go_wp2_with fail
 have gl := K.out.2
 exact bodyPost_ret (by simp [results, Tryz.results9, go_sem, gl]) rfl ⟨rfl, K.out.1⟩
theorem theirs_any (m : Ms) (w : World) (h : m.fine w) : Calls Tryz.prog 14 #[.agg m.cells.toArray] w fun e w' => e = .returned (.agg m.cells.toArray) ∧ Old w w' := by
 have hone := h.one
 obtain ⟨kind, pub, ver, there, pv, ps, ⟨n, tm, key, av, es⟩, tb, tl, tc, frm, ⟨fr, en, iv, its, gv, gs, last⟩⟩ := m
 obtain ⟨p1, c1, e1, _, r1⟩ := h.1.1.1.len
 obtain ⟨p2, c2, e2, _, _⟩ := h.2.1.1.len
 obtain ⟨p3, c3, e3, _, _⟩ := h.2.2.1.1.1.len
 obtain ⟨p4, c4, e4, _, _⟩ := h.2.2.1.1.2.2.len
 simp only at e1 e2 e3 e4
 subst e1 e2 e3 e4
 clear h r1
 obtain ⟨m, hm⟩ : ∃ m : Ms, m = ⟨kind, pub, ver, there, .slice p1 ps.length c1, ps, ⟨n, tm, key, .slice p2 es.length c2, es⟩, tb, tl, tc, frm, ⟨fr, en, .slice p3 its.length c3, its, .slice p4 gs.length c4, gs, last⟩⟩ := ⟨_, rfl⟩
 rw [← hm] at hone ⊢
 have hmc : m.cells.toArray = #[.int .i64 kind, .int .i64 pub, .int .u64 ver, .bool there, .slice p1 ps.length c1, .int .u64 n, .int .u64 tm, .string key, .slice p2 es.length c2, .int .i64 tb, .int .u64 tl, .int .u64 tc, .int .u64 frm, .int .u64 fr, .int .u64 en, .slice p3 its.length c3, .slice p4 gs.length c4, .bool last] := by rw [hm]; rfl
 obtain ⟨W0, hW0⟩ : ∃ W0, (w.alloc (.cells m.cells.toArray 44)).alloc (.cells zeroMs.cells.toArray 37) = W0 := ⟨_, rfl⟩
 have k0 : Old w W0 := by rw [← hW0]; exact ((Keeps.refl _ _).alloc _).alloc _
 obtain ⟨b0, b1⟩ := two_blocks w (.cells m.cells.toArray 44) (.cells zeroMs.cells.toArray 37)
 rw [hW0] at b0 b1
 obtain ⟨W1, hst, b2, kb⟩ := store_msgR b1 m hone
 have k1 : Old w W1 := k0.then kb (fun i hi e => by omega)
 have gl := load_whole b2 (by rw [hmc]; rfl) Tryz.underlying37 (by kernel_rfl)
 rw [hmc] at b0 hW0 hst gl ⊢
 have g0 := blkM b0
 have l5 := load_sub (W := W0) (b := w.heap.size) (o := 5) (cs := #[.int .u64 n, .int .u64 tm, .string key, .slice p2 es.length c2]) (ty := 29) (by
  intro j v hv
  rcases j with _ | _ | _ | _ | _ | j <;> simp at hv
  all_goals (subst hv; first | exact g0.2.2.2.2.2.1 | exact g0.2.2.2.2.2.2.1 | exact g0.2.2.2.2.2.2.2.1 | exact g0.2.2.2.2.2.2.2.2.1)) Tryz.underlying29 rfl (by kernel_rfl)
 have l9 := load_sub (W := W0) (b := w.heap.size) (o := 9) (cs := #[.int .i64 tb, .int .u64 tl, .int .u64 tc]) (ty := 42) (by
  intro j v hv
  rcases j with _ | _ | _ | _ | _ | j <;> simp at hv
  all_goals (subst hv; first | exact g0.2.2.2.2.2.2.2.2.2.1 | exact g0.2.2.2.2.2.2.2.2.2.2.1 | exact g0.2.2.2.2.2.2.2.2.2.2.2.1)) Tryz.underlying42 rfl (by kernel_rfl)
 have l13 := load_sub (W := W0) (b := w.heap.size) (o := 13) (cs := #[.int .u64 fr, .int .u64 en, .slice p3 its.length c3, .slice p4 gs.length c4, .bool last]) (ty := 35) (by
  intro j v hv
  rcases j with _ | _ | _ | _ | _ | j <;> simp at hv
  all_goals (subst hv; first | exact g0.2.2.2.2.2.2.2.2.2.2.2.2.2.1 | exact g0.2.2.2.2.2.2.2.2.2.2.2.2.2.2.1 | exact g0.2.2.2.2.2.2.2.2.2.2.2.2.2.2.2.1 | exact g0.2.2.2.2.2.2.2.2.2.2.2.2.2.2.2.2.1 | exact g0.2.2.2.2.2.2.2.2.2.2.2.2.2.2.2.2.2)) Tryz.underlying35 rfl (by kernel_rfl)
 have q1 : ∀ a W, (loadVar 3 a).run Tryz.prog W = (load a).run Tryz.prog W := fun _ _ => by kernel_rfl
 have q2 : ∀ a W, (loadVar 22 a).run Tryz.prog W = (load a).run Tryz.prog W := fun _ _ => by kernel_rfl
 have q3 : ∀ a W, (loadVar 4 a).run Tryz.prog W = (load a).run Tryz.prog W := fun _ _ => by kernel_rfl
 have q4 : ∀ a W, (loadVar 24 a).run Tryz.prog W = (load a).run Tryz.prog W := fun _ _ => by kernel_rfl
 have K := Lib.hid (And.intro k1 gl)
 clear b0 b1 k0 k1 kb gl hm hmc b2 hone
 change (w.alloc (.cells #[.int .i64 kind, .int .i64 pub, .int .u64 ver, .bool there, .slice p1 ps.length c1, .int .u64 n, .int .u64 tm, .string key, .slice p2 es.length c2, .int .i64 tb, .int .u64 tl, .int .u64 tc, .int .u64 frm, .int .u64 fr, .int .u64 en, .slice p3 its.length c3, .slice p4 gs.length c4, .bool last] 44)).alloc (.cells #[.int .i64 0, .int .i64 0, .int .u64 0, .bool false, .slice none 0 0, .int .u64 0, .int .u64 0, .string ⟨#[]⟩, .slice none 0 0, .int .i64 0, .int .u64 0, .int .u64 0, .int .u64 0, .int .u64 0, .int .u64 0, .slice none 0 0, .slice none 0 0, .bool false] 37) = W0 at hW0
 go_enter Tryz.func14, Tryz.ntmps14
 go_wp2_with fail
 have gl := K.out.2
 exact bodyPost_ret (by simp [results, Tryz.results14, go_sem, gl]) rfl ⟨rfl, K.out.1⟩
end
section
open Go.ChangeShapes Go.WideShapes Go.ChangeAt Go.RowKit
theorem one_le_bulk {H : Type} (d : DataW H) : 1 ≤ Rows.uptoBulk d := by
 cases d with
 | lit l => cases l <;> simp [Rows.uptoBulk]
 | nil => simp [Rows.uptoBulk]
 | ptr d => simp [Rows.uptoBulk]
 | slice elems spare => simp [Rows.uptoBulk]
 | agg parts => simp [Rows.uptoBulk]
 | iface t d => simp [Rows.uptoBulk]
 | map entries => simp [Rows.uptoBulk]
 | held h => simp [Rows.uptoBulk]
theorem part_bulk {H : Type} {d : DataW H} {l : List (DataW H)} (h : d ∈ l) : Rows.uptoBulk d ≤ Rows.uptoBulkAll l := by
 induction l with
 | nil => cases h
 | cons x r ih =>
  simp only [Rows.uptoBulkAll]
  cases List.mem_cons.1 h with
  | inl e => subst e; omega
  | inr e => have := ih e; omega
theorem length_bulk {H : Type} (l : List (DataW H)) : l.length ≤ Rows.uptoBulkAll l := by
 induction l with
 | nil => simp [Rows.uptoBulkAll]
 | cons x r ih => have := one_le_bulk x; simp only [Rows.uptoBulkAll, List.length_cons]; omega
theorem elems_bulk {H : Type} (elems spare : List (DataW H)) : Rows.uptoBulkAll elems + 1 ≤ Rows.uptoBulk (.slice elems spare) := by
 simp only [Rows.uptoBulk]; omega
theorem trod_bytes {H : Type} {enc : TypeId × Value → H} {W : World} {fuel : Nat} {cs : List Value} {x : DataW H × List MemPlace} (hf : DataW.trod enc Tryz.prog W 0 (fun _ => true) true fuel 38 cs = some x) :
  ∃ (v : Value) (l : List UInt8), cs = [v] ∧ Sees W v l ∧ l.length < Rows.uptoBulk x.1 := by
 rcases open_ints Tryz.underlying38 Tryz.underlying5 (by kernel_rfl) hf with ⟨hcs, hx⟩ | ⟨a, len, cap, zs, hcs, _, hl, hm, hz, hx, hcell, hwz⟩
 ·exact ⟨_, [], hcs, Sees.nil W, one_le_bulk x.1⟩
 ·subst hx
  have hz' : zs.length = cap := by simpa using hz
  have hlen : ((zs.take len).map fun z => UInt8.ofNat z.toNat).length = len := by simp; omega
  refine ⟨_, (zs.take len).map fun z => UInt8.ofNat z.toNat, hcs, ⟨some a, cap, by rw [hlen], by rw [hlen]; exact hl, hm, fun h => (by cases h), fun a' ha => ?_⟩, ?_⟩
  ·cases ha
   refine ⟨fun hc => ?_, fun j b hj => ?_⟩
   ·have := hcell 0 (by omega)
    have hs := World.cell?_spot this
    simpa [Addr.add] using hs
   ·rw [List.getElem?_map, Option.map_eq_some_iff] at hj
    obtain ⟨z, hz1, rfl⟩ := hj
    rw [List.getElem?_take] at hz1
    split at hz1
    ·have hjl := (List.getElem?_eq_some_iff.1 hz1).1
     rw [hcell j hjl]
     have hzz : zs.getD j 0 = z := by simp [List.getD, hz1]
     have hw := hwz z (List.mem_of_getElem? hz1)
     have hr : 0 ≤ z ∧ z ≤ 255 := by simpa [Lit.wf, IntKind.min, IntKind.max, IntKind.signed, IntKind.bits] using hw
     rw [hzz]
     unfold u8
     rw [UInt8.toNat_ofNat']
     congr 2
     omega
    ·cases hz1
  ·rw [hlen]
   have h1 := elems_bulk (lits (H := H) .u8 (zs.take len)) (lits .u8 (zs.drop len))
   have h2 := length_bulk (lits (H := H) .u8 (zs.take len))
   have h3 : (lits (H := H) .u8 (zs.take len)).length = len := by simp [lits]; omega
   simp only at h1 ⊢
   omega
theorem read_bytes {H : Type} {enc : TypeId × Value → H} {W : World} {base : Nat} {v : Value} {d : DataW H} {p : List MemPlace} (hv : Value.okWide Tryz.prog W .any base 38 v)
  (h : DataW.Trod enc Tryz.prog W 0 (fun _ => true) true 38 v d p) : ∃ l : List UInt8, Sees W v l ∧ l.length < Rows.uptoBulk d := by
 obtain ⟨a, len, cap, rfl⟩ := okWide_slice Tryz.underlying38 hv
 obtain ⟨fuel, hf⟩ := h
 obtain ⟨v, l, hc, hs, hl⟩ := trod_bytes hf
 simp only [Value.cells, List.cons.injEq, and_true] at hc
 subst hc
 exact ⟨l, hs, hl⟩
end
section
open Go.ChangeShapes Go.WideShapes Go.ChangeAt Go.RowKit Go.Deep
section
variable {H : Type} {enc : TypeId × Value → H} {W : World}
abbrev Trd (enc : TypeId × Value → H) (W : World) (fuel : Nat) (t : TypeId) (cs : List Value) (x : DataW H × List MemPlace) : Prop := DataW.trod enc Tryz.prog W 0 (fun _ => true) true fuel t cs = some x
theorem trod_rows_b {α : Type} [Inhabited α] (dec : α → List Value) (k : Nat) (e t : TypeId) (ht : Tryz.prog.underlying t = some (.slice e)) (hC : Tryz.prog.cellsOf e = k) (hk : 0 < k) (Q : α → Prop)
  (hd : ∀ n cs x, Trd enc W n e cs x → ∃ a, cs = dec a ∧ Q a) {fuel : Nat} {cs : List Value} {x : DataW H × List MemPlace} (h : Trd enc W fuel t cs x) :
  ∃ v l, cs = [v] ∧ SeesR W k dec v l ∧ (∀ a ∈ l, Q a) ∧ (0 < l.length → ∀ b, v.ownBlock = some b → b < W.heap.size) ∧ l.length < Rows.uptoBulk x.1 := by
 rcases open_slice ht h with ⟨hcs, hx⟩ | ⟨a, len, cap, m, n, D, Pl, hcs, _, hl, hm, hmm, hx, hi⟩
 ·exact ⟨_, [], hcs, SeesR.nil W, (fun a ha => by cases ha), (fun h => by simp at h), one_le_bulk x.1⟩
 ·simp only [if_true] at hmm
  subst hmm
  rw [hC] at hi
  have hi' : ∀ i, i < m → ∃ y : α, (∀ j u, (dec y)[j]? = some u → W.cell? (a.add (i * k + j)) = some u) ∧ (dec y).length = k ∧ Q y := by
   intro i hlt
   obtain ⟨cs', hc, ht'⟩ := hi i hlt
   obtain ⟨y, rfl, hq⟩ := hd _ _ _ ht'
   obtain ⟨_, hcl, hat⟩ := World.cells?_some hc
   refine ⟨y, fun j u hu => ?_, hcl, hq⟩
   have hj : j < k := by rw [← hcl]; exact (List.getElem?_eq_some_iff.1 hu).1
   rw [← Go.Deep.add_add, hat j hj, hu]
  obtain ⟨f, hf⟩ := choose_lt hi'
  refine ⟨_, (List.range len).map f, hcs, ⟨some a, m, by simp, by simpa using hl, hm, fun h => (by cases h), fun a' ha => ?_⟩, ?_, ?_, ?_⟩
  ·cases ha
   refine ⟨fun hc => ?_, fun j y hj i u hu => ?_⟩
   ·obtain ⟨h1, h2, _⟩ := hf 0 hc
    have h0 : (dec (f 0))[0]? = some ((dec (f 0))[0]'(by omega)) := List.getElem?_eq_getElem _
    have := h1 0 _ h0
    have hs := World.cell?_spot this
    simpa [Addr.add] using hs
   ·have hjl : j < len := by have := (List.getElem?_eq_some_iff.1 hj).1; simpa using this
    have : y = f j := by simp [hjl] at hj; exact hj.symm
    subst this
    exact (hf j (by omega)).1 i u hu
  ·intro y hy
   obtain ⟨j, hj, rfl⟩ := List.mem_map.1 hy
   exact (hf j (by have := List.mem_range.1 hj; omega)).2.2
  ·intro h0 b hb
   have hlen : 0 < len := by simpa using h0
   obtain ⟨h1, h2, _⟩ := hf 0 (by omega)
   have h0' : (dec (f 0))[0]? = some ((dec (f 0))[0]'(by omega)) := List.getElem?_eq_getElem _
   have hc := World.block_lt_of_cell? _ _ (h1 0 _ h0')
   simp [Value.ownBlock] at hb
   subst hb
   rwa [block_add] at hc
  ·subst hx
   have h1 := elems_bulk ((List.range len).map D) ((List.range (m - len)).map fun j => D (len + j))
   have h2 := length_bulk ((List.range len).map D)
   simp only [List.length_map, List.length_range] at h2 ⊢
   omega
theorem trod_rows {α : Type} [Inhabited α] (dec : α → List Value) (k : Nat) (e t : TypeId) (ht : Tryz.prog.underlying t = some (.slice e)) (hC : Tryz.prog.cellsOf e = k) (hk : 0 < k) (Q : α → Prop)
  (hd : ∀ n cs x, Trd enc W n e cs x → ∃ a, cs = dec a ∧ Q a) {fuel : Nat} {cs : List Value} {x : DataW H × List MemPlace} (h : Trd enc W fuel t cs x) :
  ∃ v l, cs = [v] ∧ SeesR W k dec v l ∧ (∀ a ∈ l, Q a) ∧ (0 < l.length → ∀ b, v.ownBlock = some b → b < W.heap.size) := by
 obtain ⟨v, l, h1, h2, h3, h4, _⟩ := trod_rows_b dec k e t ht hC hk Q hd h
 exact ⟨v, l, h1, h2, h3, h4⟩
theorem i64_range {z : Int} (h : (Lit.int .i64 z).wf = true) : -9223372036854775808 ≤ z ∧ z ≤ 9223372036854775807 := by
 simpa [Lit.wf, IntKind.min, IntKind.max, IntKind.signed, IntKind.bits] using h
theorem u64_range {z : Int} (h : (Lit.int .u64 z).wf = true) : 0 ≤ z ∧ z ≤ 18446744073709551615 := by
 simpa [Lit.wf, IntKind.min, IntKind.max, IntKind.signed, IntKind.bits] using h
theorem cells_value : Tryz.prog.cellsOf 69 = 4 := by kernel_rfl
theorem cells_int : Tryz.prog.cellsOf 3 = 1 := by kernel_rfl
theorem cells_i64 : Tryz.prog.cellsOf 2 = 1 := by kernel_rfl
theorem cells_u64 : Tryz.prog.cellsOf 22 = 1 := by kernel_rfl
theorem cells_string : Tryz.prog.cellsOf 9 = 1 := by kernel_rfl
theorem cells_bool : Tryz.prog.cellsOf 4 = 1 := by kernel_rfl
theorem cells_attr : Tryz.prog.cellsOf 169 = 5 := by kernel_rfl
theorem cells_attrs : Tryz.prog.cellsOf 25 = 1 := by kernel_rfl
theorem cells_event : Tryz.prog.cellsOf 27 = 2 := by kernel_rfl
theorem cells_item : Tryz.prog.cellsOf 29 = 4 := by kernel_rfl
theorem field_at {fs : Array Field} {xs : List (DataW H × List MemPlace)} {n : Nat} {cs : List Value}
  (hf : ∀ (i : Nat) (f : Field), fs[i]? = some f → DataW.trod enc Tryz.prog W 0 (fun _ => true) true n f.type ((cs.drop f.offset).take (Tryz.prog.cellsOf f.type)) = xs[i]?) (hl : xs.length = fs.size)
  (i : Nat) (t : TypeId) (off k : Nat) (f : Field) (h : fs[i]? = some f) (ht : f.type = t) (ho : f.offset = off) (hk : Tryz.prog.cellsOf t = k) : ∃ y, Trd enc W n t ((cs.drop off).take k) y := by
 subst ht ho hk
 have h1 := hf i f h
 have hi : i < xs.length := by rw [hl]; exact (Array.getElem?_eq_some_iff.1 h).1
 exact ⟨xs[i], h1.trans (List.getElem?_eq_getElem hi)⟩
theorem trod_value {n : Nat} {cs : List Value} {x : DataW H × List MemPlace} (h : Trd enc W n 69 cs x) :
  ∃ v : Val, cs = [.int .i64 v.kind, .int .i64 v.num, .string v.str, .bool v.is] ∧ (-9223372036854775808 ≤ v.num ∧ v.num ≤ 9223372036854775807) ∧ (-9223372036854775808 ≤ v.kind ∧ v.kind ≤ 9223372036854775807) ∧ v.str.size ≤ maxLen := by
 obtain ⟨xs, n', _, _, hlen, hl, hf⟩ := DataW.trod_struct Tryz.underlying69 h
 rw [cells_value] at hlen
 match cs, hlen with
 | [c0, c1, c2, c3], _ =>
  obtain ⟨y0, g0⟩ := field_at hf hl 0 3 0 1 _ rfl rfl rfl cells_int
  obtain ⟨y1, g1⟩ := field_at hf hl 1 2 1 1 _ rfl rfl rfl cells_i64
  obtain ⟨y2, g2⟩ := field_at hf hl 2 9 2 1 _ rfl rfl rfl cells_string
  obtain ⟨y3, g3⟩ := field_at hf hl 3 4 3 1 _ rfl rfl rfl cells_bool
  obtain ⟨z0, e0, _, w0⟩ := DataW.trod_int Tryz.underlying3 g0
  obtain ⟨z1, e1, _, w1⟩ := DataW.trod_int Tryz.underlying2 g1
  obtain ⟨z2, e2, _, w2⟩ := DataW.trod_string Tryz.underlying9 g2
  obtain ⟨z3, e3, _⟩ := DataW.trod_bool Tryz.underlying4 g3
  simp only [List.drop_zero, List.drop_succ_cons, List.take_succ_cons, List.take_zero, List.cons.injEq, and_true] at e0 e1 e2 e3
  subst e0 e1 e2 e3
  exact ⟨⟨z0, z1, z2, z3⟩, rfl, i64_range w1, i64_range w0, w2⟩
instance : Inhabited At := ⟨⟨⟨#[]⟩, ⟨0, 0, ⟨#[]⟩, false⟩⟩⟩
theorem trod_attr {n : Nat} {cs : List Value} {x : DataW H × List MemPlace} (h : Trd enc W n 169 cs x) :
  ∃ a : At, cs = a.cells ∧ (a.name.size ≤ 9223372036854775807 ∧ -9223372036854775808 ≤ a.val.num ∧ a.val.num ≤ 9223372036854775807) := by
 obtain ⟨xs, n', _, _, hlen, hl, hf⟩ := DataW.trod_struct Tryz.underlying169 h
 rw [cells_attr] at hlen
 match cs, hlen with
 | [c0, c1, c2, c3, c4], _ =>
  obtain ⟨y0, g0⟩ := field_at hf hl 0 9 0 1 _ rfl rfl rfl cells_string
  obtain ⟨y1, g1⟩ := field_at hf hl 1 69 1 4 _ rfl rfl rfl cells_value
  obtain ⟨z0, e0, _, w0⟩ := DataW.trod_string Tryz.underlying9 g0
  obtain ⟨v, e1, hv, _⟩ := trod_value g1
  simp only [List.drop_zero, List.drop_succ_cons, List.take_succ_cons, List.take_zero, List.cons.injEq, and_true] at e0 e1
  obtain ⟨rfl, rfl, rfl, rfl⟩ := e1
  subst e0
  exact ⟨⟨z0, v⟩, rfl, by unfold maxLen at w0; exact w0, hv⟩
theorem trod_attrs {n : Nat} {cs : List Value} {x : DataW H × List MemPlace} (h : Trd enc W n 25 cs x) :
  ∃ v l, cs = [v] ∧ SeesA W v l ∧ Fits l ∧ (0 < l.length → ∀ b, v.ownBlock = some b → b < W.heap.size) := by
 obtain ⟨v, l, h1, h2, h3, h4⟩ := trod_rows At.cells 5 169 25 Tryz.underlying25 cells_attr (by decide) _ (fun n cs x hh => trod_attr hh) h
 exact ⟨v, l, h1, h2, h3, h4⟩
theorem trod_event {n : Nat} {cs : List Value} {x : DataW H × List MemPlace} (h : Trd enc W n 27 cs x) :
  ∃ (key : ByteArray) (v : Value) (l : List At), cs = [.string key, v] ∧ SeesA W v l ∧ Fits l ∧ (0 < l.length → ∀ b, v.ownBlock = some b → b < W.heap.size) ∧ key.size ≤ maxLen := by
 obtain ⟨xs, n', _, _, hlen, hl, hf⟩ := DataW.trod_struct Tryz.underlying27 h
 rw [cells_event] at hlen
 match cs, hlen with
 | [c0, c1], _ =>
  obtain ⟨y0, g0⟩ := field_at hf hl 0 9 0 1 _ rfl rfl rfl cells_string
  obtain ⟨y1, g1⟩ := field_at hf hl 1 25 1 1 _ rfl rfl rfl cells_attrs
  obtain ⟨z0, e0, _, w0⟩ := DataW.trod_string Tryz.underlying9 g0
  obtain ⟨v, l, e1, h1, h2, h3⟩ := trod_attrs g1
  simp only [List.drop_zero, List.drop_succ_cons, List.take_succ_cons, List.take_zero, List.cons.injEq, and_true] at e0 e1
  subst e0 e1
  exact ⟨z0, _, l, rfl, h1, h2, h3, w0⟩
def Items (w : World) (lv : Value) (l : List It) : Prop := SeesR w 4 It.cells lv l ∧ ∀ x ∈ l, x.fine w
instance : Inhabited It := ⟨⟨0, 0, ⟨#[]⟩, .slice none 0 0, []⟩⟩
theorem trod_item {n : Nat} {cs : List Value} {x : DataW H × List MemPlace} (h : Trd enc W n 29 cs x) :
  ∃ a : It, cs = a.cells ∧ a.fine W := by
 obtain ⟨xs, n', _, _, hlen, hl, hf⟩ := DataW.trod_struct Tryz.underlying29 h
 rw [cells_item] at hlen
 match cs, hlen with
 | [c0, c1, c2, c3], _ =>
  obtain ⟨y0, g0⟩ := field_at hf hl 0 22 0 1 _ rfl rfl rfl cells_u64
  obtain ⟨y1, g1⟩ := field_at hf hl 1 22 1 1 _ rfl rfl rfl cells_u64
  obtain ⟨y2, g2⟩ := field_at hf hl 2 27 2 2 _ rfl rfl rfl cells_event
  obtain ⟨z0, e0, _, w0⟩ := DataW.trod_int Tryz.underlying22 g0
  obtain ⟨z1, e1, _, w1⟩ := DataW.trod_int Tryz.underlying22 g1
  obtain ⟨key, v, l, e2, h1, h2, h3, _⟩ := trod_event g2
  simp only [List.drop_zero, List.drop_succ_cons, List.take_succ_cons, List.take_zero, List.cons.injEq, and_true] at e0 e1 e2
  obtain ⟨rfl, rfl⟩ := e2
  subst e0 e1
  have r0 := u64_range w0
  have r1 := u64_range w1
  obtain ⟨a, rfl⟩ := Int.eq_ofNat_of_zero_le r0.1
  obtain ⟨b, rfl⟩ := Int.eq_ofNat_of_zero_le r1.1
  exact ⟨⟨a, b, key, _, l⟩, rfl, h1, h3, h2, by show a < _; omega, by show b < _; omega⟩
theorem cells_con : Tryz.prog.cellsOf 72 = 7 := by kernel_rfl
theorem cells_vals : Tryz.prog.cellsOf 70 = 1 := by kernel_rfl
theorem cells_gap : Tryz.prog.cellsOf 121 = 2 := by kernel_rfl
theorem cells_page : Tryz.prog.cellsOf 35 = 5 := by kernel_rfl
theorem cells_items : Tryz.prog.cellsOf 32 = 1 := by kernel_rfl
theorem cells_gaps : Tryz.prog.cellsOf 33 = 1 := by kernel_rfl
instance : Inhabited Val := ⟨⟨0, 0, ⟨#[]⟩, false⟩⟩
instance : Inhabited Con := ⟨⟨⟨#[]⟩, 0, ⟨0, 0, ⟨#[]⟩, false⟩, .slice none 0 0, []⟩⟩
theorem trod_vals {n : Nat} {cs : List Value} {x : DataW H × List MemPlace} (h : Trd enc W n 70 cs x) :
  ∃ v l, cs = [v] ∧ SeesV W v l ∧ (∀ v ∈ l, -9223372036854775808 ≤ v.num ∧ v.num ≤ 9223372036854775807) ∧ (0 < l.length → ∀ b, v.ownBlock = some b → b < W.heap.size) := by
 obtain ⟨v, l, h1, h2, h3, h4⟩ := trod_rows valL 4 69 70 Tryz.underlying70 cells_value (by decide) (fun v => -9223372036854775808 ≤ v.num ∧ v.num ≤ 9223372036854775807) (fun n cs x hh => by
  obtain ⟨v, e, g, _⟩ := trod_value hh
  exact ⟨v, e, g⟩) h
 exact ⟨v, l, h1, h2, h3, h4⟩
theorem trod_con {n : Nat} {cs : List Value} {x : DataW H × List MemPlace} (h : Trd enc W n 72 cs x) :
  ∃ a : Con, cs = a.cells ∧ a.fine W := by
 obtain ⟨xs, n', _, _, hlen, hl, hf⟩ := DataW.trod_struct Tryz.underlying72 h
 rw [cells_con] at hlen
 match cs, hlen with
 | [c0, c1, c2, c3, c4, c5, c6], _ =>
  obtain ⟨y0, g0⟩ := field_at hf hl 0 9 0 1 _ rfl rfl rfl cells_string
  obtain ⟨y1, g1⟩ := field_at hf hl 1 3 1 1 _ rfl rfl rfl cells_int
  obtain ⟨y2, g2⟩ := field_at hf hl 2 69 2 4 _ rfl rfl rfl cells_value
  obtain ⟨y3, g3⟩ := field_at hf hl 3 70 6 1 _ rfl rfl rfl cells_vals
  obtain ⟨z0, e0, _, w0⟩ := DataW.trod_string Tryz.underlying9 g0
  obtain ⟨z1, e1, _, w1⟩ := DataW.trod_int Tryz.underlying3 g1
  obtain ⟨v, e2, hv, _⟩ := trod_value g2
  obtain ⟨sv, l, e3, h1, h2, h3⟩ := trod_vals g3
  simp only [List.drop_zero, List.drop_succ_cons, List.take_succ_cons, List.take_zero, List.cons.injEq, and_true] at e0 e1 e2 e3
  obtain ⟨rfl, rfl, rfl, rfl⟩ := e2
  subst e0 e1 e3
  exact ⟨⟨z0, z1, v, _, l⟩, rfl, h1, ⟨by unfold maxLen at w0; exact w0, hv⟩, h2, h3⟩
theorem trod_pred {n : Nat} {cs : List Value} {x : DataW H × List MemPlace} (h : Trd enc W n 24 cs x) :
  ∃ v l, cs = [v] ∧ Cons W v l ∧ (0 < l.length → ∀ b, v.ownBlock = some b → b < W.heap.size) := by
 obtain ⟨v, l, h1, h2, h3, h4⟩ := trod_rows Con.cells 7 72 24 Tryz.underlying24 cells_con (by decide) (fun c => c.fine W) (fun n cs x hh => trod_con hh) h
 exact ⟨v, l, h1, ⟨h2, h3⟩, h4⟩
theorem trod_gap {n : Nat} {cs : List Value} {x : DataW H × List MemPlace} (h : Trd enc W n 121 cs x) :
  ∃ g : PGap, cs = gapL g ∧ (g.1 < 18446744073709551616 ∧ g.2 < 18446744073709551616) := by
 obtain ⟨xs, n', _, _, hlen, hl, hf⟩ := DataW.trod_struct Tryz.underlying121 h
 rw [cells_gap] at hlen
 match cs, hlen with
 | [c0, c1], _ =>
  obtain ⟨y0, g0⟩ := field_at hf hl 0 22 0 1 _ rfl rfl rfl cells_u64
  obtain ⟨y1, g1⟩ := field_at hf hl 1 22 1 1 _ rfl rfl rfl cells_u64
  obtain ⟨z0, e0, _, w0⟩ := DataW.trod_int Tryz.underlying22 g0
  obtain ⟨z1, e1, _, w1⟩ := DataW.trod_int Tryz.underlying22 g1
  simp only [List.drop_zero, List.drop_succ_cons, List.take_succ_cons, List.take_zero, List.cons.injEq, and_true] at e0 e1
  subst e0 e1
  have r0 := u64_range w0
  have r1 := u64_range w1
  obtain ⟨a, rfl⟩ := Int.eq_ofNat_of_zero_le r0.1
  obtain ⟨b, rfl⟩ := Int.eq_ofNat_of_zero_le r1.1
  exact ⟨(a, b), rfl, by show a < _; omega, by show b < _; omega⟩
theorem field_at_mem {fs : Array Field} {xs : List (DataW H × List MemPlace)} {n : Nat} {cs : List Value}
  (hf : ∀ (i : Nat) (f : Field), fs[i]? = some f → DataW.trod enc Tryz.prog W 0 (fun _ => true) true n f.type ((cs.drop f.offset).take (Tryz.prog.cellsOf f.type)) = xs[i]?) (hl : xs.length = fs.size)
  (i : Nat) (t : TypeId) (off k : Nat) (f : Field) (h : fs[i]? = some f) (ht : f.type = t) (ho : f.offset = off) (hk : Tryz.prog.cellsOf t = k) : ∃ y, Trd enc W n t ((cs.drop off).take k) y ∧ y ∈ xs := by
 subst ht ho hk
 have h1 := hf i f h
 have hi : i < xs.length := by rw [hl]; exact (Array.getElem?_eq_some_iff.1 h).1
 exact ⟨xs[i], h1.trans (List.getElem?_eq_getElem hi), List.getElem_mem hi⟩
theorem part_bulk_agg {y : DataW H × List MemPlace} {xs : List (DataW H × List MemPlace)} (h : y ∈ xs) : Rows.uptoBulk y.1 ≤ Rows.uptoBulk (.agg (xs.map (·.1))) := by
 have h1 := part_bulk (d := y.1) (l := xs.map (·.1)) (List.mem_map_of_mem h)
 simp only [Rows.uptoBulk]
 omega
theorem trod_page {n : Nat} {cs : List Value} {x : DataW H × List MemPlace} (h : Trd enc W n 35 cs x) :
  ∃ a : Pg, cs = a.cells ∧ a.fine W ∧ a.its.length < Rows.uptoBulk x.1 := by
 obtain ⟨xs, n', _, rfl, hlen, hl, hf⟩ := DataW.trod_struct Tryz.underlying35 h
 rw [cells_page] at hlen
 match cs, hlen with
 | [c0, c1, c2, c3, c4], _ =>
  obtain ⟨y0, g0⟩ := field_at hf hl 0 22 0 1 _ rfl rfl rfl cells_u64
  obtain ⟨y1, g1⟩ := field_at hf hl 1 22 1 1 _ rfl rfl rfl cells_u64
  obtain ⟨y2, g2, hy2⟩ := field_at_mem hf hl 2 32 2 1 _ rfl rfl rfl cells_items
  obtain ⟨y3, g3⟩ := field_at hf hl 3 33 3 1 _ rfl rfl rfl cells_gaps
  obtain ⟨y4, g4⟩ := field_at hf hl 4 4 4 1 _ rfl rfl rfl cells_bool
  obtain ⟨z0, e0, _, w0⟩ := DataW.trod_int Tryz.underlying22 g0
  obtain ⟨z1, e1, _, w1⟩ := DataW.trod_int Tryz.underlying22 g1
  obtain ⟨iv, its, e2, i1, i2, i3, i4⟩ := trod_rows_b It.cells 4 29 32 Tryz.underlying32 cells_item (by decide) (fun x => x.fine W) (fun n cs x hh => trod_item hh) g2
  obtain ⟨gv, gs, e3, j1, j2, j3⟩ := trod_rows gapL 2 121 33 Tryz.underlying33 cells_gap (by decide) (fun g => g.1 < 18446744073709551616 ∧ g.2 < 18446744073709551616) (fun n cs x hh => trod_gap hh) g3
  obtain ⟨z4, e4, _⟩ := DataW.trod_bool Tryz.underlying4 g4
  simp only [List.drop_zero, List.drop_succ_cons, List.take_succ_cons, List.take_zero, List.cons.injEq, and_true] at e0 e1 e2 e3 e4
  subst e0 e1 e2 e3 e4
  have r0 := u64_range w0
  have r1 := u64_range w1
  obtain ⟨a, rfl⟩ := Int.eq_ofNat_of_zero_le r0.1
  obtain ⟨b, rfl⟩ := Int.eq_ofNat_of_zero_le r1.1
  exact ⟨⟨a, b, _, its, _, gs, z4⟩, rfl, ⟨⟨i1, i2, j1⟩, j2, ⟨by show a < _; omega, by show b < _; omega⟩, i3, j3⟩, Nat.lt_of_lt_of_le i4 (part_bulk_agg hy2)⟩
end
end
section
open Go.ChangeShapes Go.WideShapes Go.ChangeAt Go.RowKit Go.Deep
section
variable {H : Type} {enc : TypeId × Value → H} {W : World}
theorem cells_rmsg : Tryz.prog.cellsOf 37 = 18 := by kernel_rfl
theorem cells_rtok : Tryz.prog.cellsOf 31 = 3 := by kernel_rfl
theorem cells_pred : Tryz.prog.cellsOf 24 = 1 := by kernel_rfl
theorem trod_rtok {n : Nat} {cs : List Value} {x : DataW H × List MemPlace} (h : Trd enc W n 31 cs x) :
  ∃ (a : Int) (b c : Nat), cs = [.int .i64 a, .int .u64 b, .int .u64 c] ∧ I64 a ∧ U64 b ∧ U64 c := by
 obtain ⟨xs, n', _, _, hlen, hl, hf⟩ := DataW.trod_struct Tryz.underlying31 h
 rw [cells_rtok] at hlen
 match cs, hlen with
 | [c0, c1, c2], _ =>
  obtain ⟨y0, g0⟩ := field_at hf hl 0 3 0 1 _ rfl rfl rfl cells_int
  obtain ⟨y1, g1⟩ := field_at hf hl 1 22 1 1 _ rfl rfl rfl cells_u64
  obtain ⟨y2, g2⟩ := field_at hf hl 2 22 2 1 _ rfl rfl rfl cells_u64
  obtain ⟨z0, e0, _, w0⟩ := DataW.trod_int Tryz.underlying3 g0
  obtain ⟨z1, e1, _, w1⟩ := DataW.trod_int Tryz.underlying22 g1
  obtain ⟨z2, e2, _, w2⟩ := DataW.trod_int Tryz.underlying22 g2
  simp only [List.drop_zero, List.drop_succ_cons, List.take_succ_cons, List.take_zero, List.cons.injEq, and_true] at e0 e1 e2
  subst e0 e1 e2
  have r1 := u64_range w1
  have r2 := u64_range w2
  obtain ⟨b, rfl⟩ := Int.eq_ofNat_of_zero_le r1.1
  obtain ⟨c, rfl⟩ := Int.eq_ofNat_of_zero_le r2.1
  exact ⟨z0, b, c, rfl, i64_range w0, by unfold U64; omega, by unfold U64; omega⟩
theorem trod_msg {n : Nat} {cs : List Value} {x : DataW H × List MemPlace} (h : Trd enc W n 37 cs x) :
  ∃ m : Ms, cs = m.cells ∧ m.fine W := by
 obtain ⟨xs, n', _, _, hlen, hl, hf⟩ := DataW.trod_struct Tryz.underlying37 h
 rw [cells_rmsg] at hlen
 match cs, hlen with
 | [c0, c1, c2, c3, c4, c5, c6, c7, c8, c9, c10, c11, c12, c13, c14, c15, c16, c17], _ =>
  obtain ⟨y0, g0⟩ := field_at hf hl 0 3 0 1 _ rfl rfl rfl cells_int
  obtain ⟨y1, g1⟩ := field_at hf hl 1 3 1 1 _ rfl rfl rfl cells_int
  obtain ⟨y2, g2⟩ := field_at hf hl 2 22 2 1 _ rfl rfl rfl cells_u64
  obtain ⟨y3, g3⟩ := field_at hf hl 3 4 3 1 _ rfl rfl rfl cells_bool
  obtain ⟨y4, g4⟩ := field_at hf hl 4 24 4 1 _ rfl rfl rfl cells_pred
  obtain ⟨y5, g5⟩ := field_at hf hl 5 29 5 4 _ rfl rfl rfl cells_item
  obtain ⟨y6, g6⟩ := field_at hf hl 6 31 9 3 _ rfl rfl rfl cells_rtok
  obtain ⟨y7, g7⟩ := field_at hf hl 7 22 12 1 _ rfl rfl rfl cells_u64
  obtain ⟨y8, g8⟩ := field_at hf hl 8 35 13 5 _ rfl rfl rfl cells_page
  obtain ⟨z0, e0, _, w0⟩ := DataW.trod_int Tryz.underlying3 g0
  obtain ⟨z1, e1, _, w1⟩ := DataW.trod_int Tryz.underlying3 g1
  obtain ⟨z2, e2, _, w2⟩ := DataW.trod_int Tryz.underlying22 g2
  obtain ⟨z3, e3, _⟩ := DataW.trod_bool Tryz.underlying4 g3
  obtain ⟨pv, ps, e4, p1, p2⟩ := trod_pred g4
  obtain ⟨it, e5, i1⟩ := trod_item g5
  obtain ⟨tb, tl, tc, e6, t1, t2, t3⟩ := trod_rtok g6
  obtain ⟨z7, e7, _, w7⟩ := DataW.trod_int Tryz.underlying22 g7
  obtain ⟨pg, e8, q1, _⟩ := trod_page g8
  simp only [List.drop_zero, List.drop_succ_cons, List.take_succ_cons, List.take_zero, List.cons.injEq, and_true, It.cells, Pg.cells] at e0 e1 e2 e3 e4 e5 e6 e7 e8
  have r2 := u64_range w2
  have r7 := u64_range w7
  obtain ⟨ver, rfl⟩ := Int.eq_ofNat_of_zero_le r2.1
  obtain ⟨frm, rfl⟩ := Int.eq_ofNat_of_zero_le r7.1
  obtain ⟨rfl, rfl, rfl, rfl⟩ := e5
  obtain ⟨rfl, rfl, rfl⟩ := e6
  obtain ⟨rfl, rfl, rfl, rfl, rfl⟩ := e8
  subst e0 e1 e2 e3 e4 e7
  exact ⟨⟨z0, z1, ver, z3, _, ps, it, tb, tl, tc, frm, pg⟩, rfl, ⟨p1, p2⟩, i1, q1, ⟨i64_range w0, i64_range w1, t1⟩, by show ver < _; omega, t2, t3, by show frm < _; omega⟩
theorem read_msg {base : Nat} {v : Value} {d : DataW H} {p : List MemPlace} (hv : Value.okWide Tryz.prog W .any base 37 v) (h : DataW.Trod enc Tryz.prog W 0 (fun _ => true) true 37 v d p) : ∃ x : Ms, v = .agg x.cells.toArray ∧ x.fine W := by
 obtain ⟨cs, rfl, hsz⟩ := okWide_struct Tryz.underlying37 hv
 obtain ⟨fuel, hf⟩ := h
 obtain ⟨x, hc, hx⟩ := trod_msg hf
 refine ⟨x, ?_, hx⟩
 simp only [Value.cells] at hc
 rw [← hc]
end
end
end Go.Proofs.YtpjpimahnnekkaaGreat
