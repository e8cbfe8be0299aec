/- DERIVED. The document's TakeItem: what is told lies in new memory. (gen_own7.py wrote it out of Ro7) -/
import Derived.Test.YtpjpimahnnekkaaGreatYpMsgForms26
set_option maxRecDepth 100000
set_option maxHeartbeats 2000000
namespace Go.Proofs.YtpjpimahnnekkaaGreat
section
open Go.RowKit
def TakIo (L : List UInt8) (w : World) (e : Ending) (w' : World) : Prop :=
 ∃ (n tm : Nat) (key : ByteArray) (p : Option Addr) (len c : Nat) (es : List At) (z : Int), e = .returned (.tuple #[.agg #[.int .u64 n, .int .u64 tm, .string key, .slice p len c], .int .i64 z]) ∧ Old w w' ∧
  OwnsA w' w.heap.size (.slice p len c) es ∧ (n < 18446744073709551616 ∧ tm < 18446744073709551616) ∧ Fits es ∧ ((takeI L = some ⟨n, tm, key, es⟩ ∧ z = 0) ∨ (takeI L = none ∧ n = 0 ∧ tm = 0 ∧ key = ⟨#[]⟩ ∧ es = [] ∧ z = 5))
theorem TakIo.no {L : List UInt8} {w w' : World} (h : takeI L = none) (k : Old w w') : TakIo L w (.returned (.tuple #[.agg #[.int .u64 0, .int .u64 0, .string ⟨#[]⟩, .slice none 0 0], .int .i64 5])) w' :=
 ⟨0, 0, _, none, 0, 0, [], 5, rfl, k, OwnsR.nil _ _, ⟨by decide, by decide⟩, fun _ h => (by cases h), Or.inr ⟨h, rfl, rfl, rfl, rfl, rfl⟩⟩
theorem ref_take_item_o (v : Value) (L : List UInt8) (w : World) (h : Sees w v L) : Calls Tryz.prog 50 #[v] w (TakIo L w) := by
 obtain ⟨pv, cv, rfl, _, _⟩ := h.len
 obtain ⟨W0, hW0⟩ : ∃ W0, w.alloc (.cells #[.int .u64 0, .int .u64 0, .string ⟨#[]⟩, .slice none 0 0] 29) = W0 := ⟨_, rfl⟩
 have k0 : Old w W0 := by rw [← hW0]; exact (Keeps.refl _ _).alloc _
 have z0 : W0.heap.size = w.heap.size + 1 := by rw [← hW0]; simp
 have b0 : W0.heap[w.heap.size]? = some (.cells #[.int .u64 0, .int .u64 0, .string ⟨#[]⟩, .slice none 0 0] 29 (0, 0)) := by rw [← hW0]; exact heap_alloc_new _ _
 obtain ⟨W1, hW1⟩ : ∃ W1, W0.alloc (.cells #[.slice pv L.length cv, .bool false] 156) = W1 := ⟨_, rfl⟩
 have k1 : Old W0 W1 := by rw [← hW1]; exact (Keeps.refl _ _).alloc _
 have hR : Rr W1 (w.heap.size + 1) (some L) := by rw [← hW1, ← z0]; exact Rr.new (h.old k0)
 have CE := Lib.hid (rfitem_any (w.heap.size + 1) (some L) W1 hR)
 have G := Lib.hid (And.intro (k0.trans k1) ((k1.block _ (lt_of_heap b0) (fun f => f)).trans b0))
 have zW1 : W1.heap.size = w.heap.size + 1 + 1 := by rw [← hW1]; simp [z0]
 obtain ⟨res, hres⟩ : ∃ r, pItem L = r := ⟨_, rfl⟩
 have hT : takeI L = res.bind fun x => if itOk x.1 && decide (x.2 = []) then some x.1 else none := by rw [← hres]; rfl
 have hfit : ∀ x, res = some x → Fits x.1.es := fun x hx => (pItem_inv (x := x.1) (r := x.2) (hres.trans hx)).1
 have HT := Lib.hid (And.intro hT (And.intro hfit hres))
 clear k0 k1 b0 hR h hT hfit hres
 go_enter Tryz.func50, Tryz.ntmps50
 go_wp2_with fail
 refine CE.out.mono ?_
 rintro e w2 ⟨⟨nn, tm, key, p2, n2, c2, s, rfl, ho, hbd, hx⟩, hr, k2⟩
 have hsee : SeesA w2 (.slice p2 n2 c2) s := ho.sees (fun _ => rfl) (by decide)
 obtain rfl : n2 = s.length := by obtain ⟨_, _, e, _⟩ := hsee.len; simp only [Value.slice.injEq] at e; exact e.2.1
 simp only [Option.bind_some] at hr hx
 rw [HT.out.2.2] at hr hx
 have b2 := (k2.block _ (lt_of_heap G.out.2) (by omega)).trans G.out.2
 obtain ⟨W2, hW2⟩ : ∃ W2, w2.alloc (.cells #[.int .u64 nn, .int .u64 tm, .string key, .slice p2 s.length c2] 29) = W2 := ⟨_, rfl⟩
 have o2 : Old w2 W2 := by rw [← hW2]; exact (Keeps.refl _ _).alloc _
 have b3 : W2.heap[w2.heap.size]? = some (.cells #[.int .u64 nn, .int .u64 tm, .string key, .slice p2 s.length c2] 29 (0, 0)) := by rw [← hW2]; exact heap_alloc_new _ _
 have b20 := (o2.block _ (lt_of_heap b2) (fun f => f)).trans b2
 have DN := Lib.hid (rfdone_any (w.heap.size + 1) (res.map (·.2)) W2 (hr.old o2))
 obtain ⟨dn, hdn⟩ : ∃ d, (res.map (·.2)).elim false (fun l => l.isEmpty) = d := ⟨_, rfl⟩
 have hO : Old w W2 := (G.out.1.then (k2.trans (o2.weaken (fun i _ f => f.elim))) (fun i hi e => by omega))
 have HBD := Lib.hid hbd
 have R := Lib.hid (And.intro hO (And.intro (hsee.old o2) (And.intro b20 (And.intro b3 (And.intro hx (And.intro hdn (fun b (hb : (Value.slice p2 s.length c2).ownBlock = some b) => And.intro (ho.block b hb).1 (Nat.lt_of_lt_of_le (ho.block b hb).2 o2.size))))))))
 have g0 := blk4 b20
 have g3 := blk4 b3
 have HW2 := Lib.hid hW2
 have hz2 : w.heap.size < w2.heap.size := lt_of_heap b2
 rw [hdn] at DN
 have HO := Lib.hid (ho.old o2)
 clear hsee hx hr k2 b2 o2 b3 b20 hdn hO hW2 ho CE hbd
 go_wp2_with fail
 try rw [HW2.out]
 refine DN.out.mono ?_
 rintro e w3 ⟨rfl, rfl⟩
 cases dn
 ·have hno : takeI L = none := by
   have h := R.out.2.2.2.2.2.1
   rw [HT.out.1]
   cases res with
   | none => rfl
   | some x =>
    have hne : x.2 ≠ [] := by intro e; simp [e] at h
    simp [hne]
  have HN := Lib.hid (TakIo.no hno (R.out.1.then (keep4 (a0 := .int .u64 0) (a1 := .int .u64 0) (a2 := .string ⟨#[]⟩) (a3 := .slice none 0 0) W2 w.heap.size) (fun i hi e => by omega)))
  clear hno
  go_wp2_with fail
  exact bodyPost_ret (v := .tuple #[.agg #[.int .u64 0, .int .u64 0, .string ⟨#[]⟩, .slice none 0 0], .int .i64 5]) (by simp [results, Tryz.results50, go_sem, g0]) rfl HN.out
 ·obtain ⟨x, hx, hx2⟩ : ∃ x, res = some x ∧ x.2 = [] := by
   have h := R.out.2.2.2.2.2.1
   cases res with
   | none => simp at h
   | some x => exact ⟨x, rfl, by simpa using h⟩
  have e1 := R.out.2.2.2.2.1 x hx
  have hfit : Fits s := by have h := HT.out.2.1 x hx; rw [← e1] at h; exact h
  have hfine : It.fine W2 ⟨nn, tm, key, .slice p2 s.length c2, s⟩ := ⟨R.out.2.1, fun _ b hb => (R.out.2.2.2.2.2.2 b hb).2, hfit, HBD.out.1, HBD.out.2⟩
  have CM := ref_may_item_any ⟨nn, tm, key, .slice p2 s.length c2, s⟩ W2 hfine
  unfold It.cells It.plain at CM
  simp only at CM
  have hT : takeI L = if itOk ⟨nn, tm, key, s⟩ then some ⟨nn, tm, key, s⟩ else none := by
   rw [HT.out.1, hx, e1]; simp [hx2]
  cases hok : itOk ⟨nn, tm, key, s⟩
  ·rw [hok] at CM hT
   have CH := Lib.hid CM
   have hno : takeI L = none := by simpa using hT
   have HNo := Lib.hid hno
   clear CM hT hno hok hfit e1 hx hx2 hfine
   go_wp2_with fail
   refine CH.out.mono ?_
   rintro e w4 ⟨rfl, k4⟩
   have b4 := (k4.block _ (lt_of_heap R.out.2.2.1) (fun f => f)).trans R.out.2.2.1
   clear g0 g3
   have g0 := blk4 b4
   have HN := Lib.hid (TakIo.no HNo.out ((R.out.1.trans k4).then (keep4 (a0 := .int .u64 0) (a1 := .int .u64 0) (a2 := .string ⟨#[]⟩) (a3 := .slice none 0 0) w4 w.heap.size) (fun i hi e => by omega)))
   clear k4 b4
   go_wp2_with fail
   exact bodyPost_ret (v := .tuple #[.agg #[.int .u64 0, .int .u64 0, .string ⟨#[]⟩, .slice none 0 0], .int .i64 5]) (by simp [results, Tryz.results50, go_sem, g0]) rfl HN.out
  ·rw [hok] at CM hT
   have CH := Lib.hid CM
   have HY := Lib.hid (And.intro (show takeI L = some ⟨nn, tm, key, s⟩ by simpa using hT) hfine)
   clear CM hT hok hfit e1 hx hx2 hfine
   go_wp2_with fail
   refine CH.out.mono ?_
   rintro e w4 ⟨rfl, k4⟩
   have b4 := (k4.block _ (lt_of_heap R.out.2.2.1) (fun f => f)).trans R.out.2.2.1
   have b43 := (k4.block _ (lt_of_heap R.out.2.2.2.1) (fun f => f)).trans R.out.2.2.2.1
   clear g0 g3
   have g0 := blk4 b4
   have g3 := blk4 b43
   have kf := keep4 (a0 := .int .u64 nn) (a1 := .int .u64 tm) (a2 := .string key) (a3 := .slice p2 s.length c2) w4 w.heap.size
   have HN : Hid (TakIo L w (.returned (.tuple #[.agg #[.int .u64 nn, .int .u64 tm, .string key, .slice p2 s.length c2], .int .i64 0])) ((((w4.setCell ⟨w.heap.size, 0, none⟩ (.int .u64 nn)).setCell ⟨w.heap.size, 1, none⟩ (.int .u64 tm)).setCell ⟨w.heap.size, 2, none⟩ (.string key)).setCell ⟨w.heap.size, 3, none⟩ (.slice p2 s.length c2))) :=
    Lib.hid ⟨nn, tm, key, p2, s.length, c2, s, 0, rfl, (R.out.1.trans k4).then kf (fun i hi e => by omega), ((HO.out.old k4).keeps kf (fun b hb e => by have := (HO.out.block b hb).1; omega)).mono (by omega), ⟨HBD.out.1, HBD.out.2⟩, HY.out.2.2.2.1, Or.inl ⟨HY.out.1, rfl⟩⟩
   clear k4 b4 b43 kf
   go_wp2_with fail
   exact bodyPost_ret (v := .tuple #[.agg #[.int .u64 nn, .int .u64 tm, .string key, .slice p2 s.length c2], .int .i64 0]) (by simp [results, Tryz.results50, go_sem, g0]) rfl HN.out
end
end Go.Proofs.YtpjpimahnnekkaaGreat
