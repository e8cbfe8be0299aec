/- DERIVED. The document's TakeEvent and TakeItem. · DERIVED. CodecEvents, walked. · DERIVED. The document's items (layer 7): May, Put, Take. -/
import Derived.Test.YtlpbbcjmmhabfaaZCodecPages02
import Derived.Test.YtlpbbcjmmhabfaaY25
import Derived.Test.YtlpbbcjmmhabfaaY22
import Derived.Deep.DeepCutAuto
namespace Go.Proofs.Ytlpbbcjmmhabfaa
open Go.RowKit

/-- what is told of bytes as an event, told in full -/
def TakVE (L : List UInt8) (w : World) (e : Ending) (w' : World) : Prop :=
  ∃ (key : ByteArray) (p : Option Addr) (n c : Nat) (z : Int) (es : List At), e = .returned (.tuple #[.agg #[.string key, .slice p n c], .int .i64 z]) ∧ Old w w' ∧ SeesA w' (.slice p n c) es ∧ (∀ b, (Value.slice p n c).ownBlock = some b → w.heap.size ≤ b ∧ b < w'.heap.size) ∧ Fits es ∧
    ((takeE L = some (key, es) ∧ z = 0) ∨ (takeE L = none ∧ key = ⟨#[]⟩ ∧ es = [] ∧ z = 5))
theorem TakVE.no {L : List UInt8} {w w' : World} (h : takeE L = none) (k : Old w w') : TakVE L w (.returned (.tuple #[.agg #[.string ⟨#[]⟩, .slice none 0 0], .int .i64 5])) w' :=
  ⟨_, none, 0, 0, 5, [], rfl, k, SeesR.nil _, (fun b h => by cases h), (fun _ h => by cases h), Or.inr ⟨h, rfl, rfl, rfl⟩⟩
theorem take_event_v (v : Value) (L : List UInt8) (w : World) (h : Sees w v L) (hl : L.length ≤ 1000000000) : Calls Try.prog 14 #[v] w (TakVE L w) :=
  (take_event_any v L w h hl).mono fun e w' ht => by
    cases hE : takeE L with
    | none =>
      rw [hE] at ht
      obtain ⟨k, rfl⟩ := ht
      exact TakVE.no hE k
    | some x =>
      rw [hE] at ht
      obtain ⟨k, p, n, c, rfl, ho⟩ := ht
      obtain ⟨_, _, ⟨r, h3⟩, _⟩ := takeE_law hE
      exact ⟨x.1, p, n, c, 0, x.2, rfl, k, ho.sees (fun _ => rfl) (by decide), fun b hb => ho.block b hb, (pEvent_inv (key := x.1) (es := x.2) h3).2.2.1, Or.inl ⟨hE, rfl⟩⟩

theorem rfdone_any (rp : Nat) (st : Option (List UInt8)) (w : World) (h : Rr w rp st) : Calls Try.prog 49 #[.pointer (some ⟨rp, 0, none⟩)] w fun e w' => e = .returned (.bool (st.elim false (fun l => l.isEmpty))) ∧ w = w' := by
  cases st with
  | none =>
    obtain ⟨p, n, c, hb⟩ := h.bad
    have g := blk2 hb
    clear h hb
    go_enter Try.func49, Try.ntmps49
    go_wp2_with fail
    go_ret
    exact ⟨rfl, rfl⟩
  | some l =>
    obtain ⟨p, c, hb, hs, _⟩ := h.cells
    have g := blk2 hb
    clear h hb hs
    cases l with
    | nil =>
      go_enter Try.func49, Try.ntmps49
      go_wp2_with fail
      go_ret
      exact ⟨rfl, rfl⟩
    | cons x r =>
      have t0 : ((((x :: r).length : Nat) : Int) == 0) = false := by simp; omega
      go_enter Try.func49, Try.ntmps49
      go_wp2_with fail
      go_ret
      exact ⟨rfl, rfl⟩
theorem Rr.new {w : World} {v : Value} {l : List UInt8} (h : Sees w v l) : Rr (w.alloc (.cells #[v, .bool false] 102)) w.heap.size (some l) := by
  refine ⟨v, heap_alloc_new _ _, h.alloc _, fun hl k hk => ?_⟩
  obtain ⟨b, o, c, rfl, _, _, hc⟩ := h.at hl
  simp only [Value.ownBlock, Option.some.injEq] at hk
  subst hk
  obtain ⟨x, hx⟩ : ∃ x, l[0]? = some x := ⟨_, List.getElem?_eq_getElem hl⟩
  exact World.block_lt_of_cell? _ _ (hc 0 x hx)

set_option maxRecDepth 100000 in
set_option maxHeartbeats 2000000 in
theorem ref_take_event_v (v : Value) (L : List UInt8) (w : World) (h : Sees w v L) : Calls Try.prog 15 #[v] w (TakVE L w) := by
  obtain ⟨pv, cv, rfl, _, _⟩ := h.len
  obtain ⟨W0, hW0⟩ : ∃ W0, w.alloc (.cells #[.string ⟨#[]⟩, .slice none 0 0] 24) = W0 := ⟨_, rfl⟩
  have k0 : Old w W0 := by rw [← hW0]; exact (Keeps.refl _ _).alloc _
  have z0 : W0.heap.size = w.heap.size + 1 := by rw [← hW0]; simp
  have b0 : W0.heap[w.heap.size]? = some (.cells #[.string ⟨#[]⟩, .slice none 0 0] 24 (0, 0)) := by rw [← hW0]; exact heap_alloc_new _ _
  obtain ⟨W1, hW1⟩ : ∃ W1, W0.alloc (.cells #[.slice pv L.length cv, .bool false] 102) = W1 := ⟨_, rfl⟩
  have k1 : Old W0 W1 := by rw [← hW1]; exact (Keeps.refl _ _).alloc _
  have hR : Rr W1 (w.heap.size + 1) (some L) := by rw [← hW1, ← z0]; exact Rr.new (h.old k0)
  have CE := Lib.hid (rfevent_any (w.heap.size + 1) (some L) W1 hR)
  have G := Lib.hid (And.intro (k0.trans k1) ((k1.block _ (lt_of_heap b0) (fun f => f)).trans b0))
  have zW1 : W1.heap.size = w.heap.size + 1 + 1 := by rw [← hW1]; simp [z0]
  obtain ⟨res, hres⟩ : ∃ r, pEvent L = r := ⟨_, rfl⟩
  have hT : takeE L = res.bind fun x => if evOk x.1.1 x.1.2 && decide (x.2 = []) then some x.1 else none := by rw [← hres]; rfl
  have hfit : ∀ x, res = some x → Fits x.1.2 := fun x hx => (pEvent_inv (key := x.1.1) (es := x.1.2) (r := x.2) (hres.trans hx)).2.2.1
  have HT := Lib.hid (And.intro hT (And.intro hfit hres))
  clear k0 k1 b0 hR h hT hfit hres
  go_enter Try.func15, Try.ntmps15
  go_wp2_with fail
  refine CE.out.mono ?_
  rintro e w2 ⟨⟨key, p2, n2, c2, s, rfl, ho, hx⟩, hr, k2⟩
  have hsee : SeesA w2 (.slice p2 n2 c2) s := ho.sees (fun _ => rfl) (by decide)
  obtain rfl : n2 = s.length := by obtain ⟨_, _, e, _⟩ := hsee.len; simp only [Value.slice.injEq] at e; exact e.2.1
  simp only [Option.bind_some] at hr hx
  rw [HT.out.2.2] at hr hx
  have b2 := (k2.block _ (lt_of_heap G.out.2) (by omega)).trans G.out.2
  obtain ⟨W2, hW2⟩ : ∃ W2, w2.alloc (.cells #[.string key, .slice p2 s.length c2] 24) = W2 := ⟨_, rfl⟩
  have o2 : Old w2 W2 := by rw [← hW2]; exact (Keeps.refl _ _).alloc _
  have b3 : W2.heap[w2.heap.size]? = some (.cells #[.string key, .slice p2 s.length c2] 24 (0, 0)) := by rw [← hW2]; exact heap_alloc_new _ _
  have b20 := (o2.block _ (lt_of_heap b2) (fun f => f)).trans b2
  have DN := Lib.hid (rfdone_any (w.heap.size + 1) (res.map (·.2)) W2 (hr.old o2))
  obtain ⟨dn, hdn⟩ : ∃ d, (res.map (·.2)).elim false (fun l => l.isEmpty) = d := ⟨_, rfl⟩
  have hO : Old w W2 := (G.out.1.then (k2.trans (o2.weaken (fun i _ f => f.elim))) (fun i hi e => by omega))
  have R := Lib.hid (And.intro hO (And.intro (hsee.old o2) (And.intro b20 (And.intro b3 (And.intro hx (And.intro hdn (fun b (hb : (Value.slice p2 s.length c2).ownBlock = some b) => And.intro (ho.block b hb).1 (Nat.lt_of_lt_of_le (ho.block b hb).2 o2.size))))))))
  have g0 := blk2 b20
  have g3 := blk2 b3
  have HW2 := Lib.hid hW2
  have hz2 : w.heap.size < w2.heap.size := lt_of_heap b2
  rw [hdn] at DN
  clear hsee hx hr k2 b2 o2 b3 b20 hdn hO hW2 ho CE
  go_wp2_with fail
  try rw [HW2.out]
  refine DN.out.mono ?_
  rintro e w3 ⟨rfl, rfl⟩
  cases dn
  · have hno : takeE L = none := by
      have h := R.out.2.2.2.2.2.1
      rw [HT.out.1]
      cases res with
      | none => rfl
      | some x =>
        have hne : x.2 ≠ [] := by intro e; simp [e] at h
        simp [hne]
    have HN := Lib.hid (TakVE.no hno (R.out.1.then (keep2 (a0 := .string ⟨#[]⟩) (a1 := .slice none 0 0) W2 w.heap.size) (fun i hi e => by omega)))
    clear hno
    go_wp2_with fail
    exact bodyPost_ret (v := .tuple #[.agg #[.string ⟨#[]⟩, .slice none 0 0], .int .i64 5]) (by simp [results, Try.results15, go_sem, g0]) rfl HN.out
  · obtain ⟨x, hx, hx2⟩ : ∃ x, res = some x ∧ x.2 = [] := by
      have h := R.out.2.2.2.2.2.1
      cases res with
      | none => simp at h
      | some x => exact ⟨x, rfl, by simpa using h⟩
    obtain ⟨e1, e2⟩ := R.out.2.2.2.2.1 x hx
    have hfit : Fits s := by rw [e2]; exact HT.out.2.1 x hx
    have CM := ref_ev_may_any key (.slice p2 s.length c2) s W2 R.out.2.1 (fun a ha => (hfit a ha).1)
    have hT : takeE L = if evOk key s then some (key, s) else none := by
      rw [HT.out.1, hx, e1, e2]; simp [hx2]
    cases hok : evOk key s
    · rw [hok] at CM hT
      have CH := Lib.hid CM
      have hno : takeE L = none := by simpa using hT
      have HNo := Lib.hid hno
      clear CM hT hno hok hfit e1 e2 hx hx2
      go_wp2_with fail
      refine CH.out.mono ?_
      rintro e w4 ⟨rfl, k4⟩
      have b4 := (k4.block _ (lt_of_heap R.out.2.2.1) (fun f => f)).trans R.out.2.2.1
      clear g0 g3
      have g0 := blk2 b4
      have HN := Lib.hid (TakVE.no HNo.out ((R.out.1.trans k4).then (keep2 (a0 := .string ⟨#[]⟩) (a1 := .slice none 0 0) w4 w.heap.size) (fun i hi e => by omega)))
      clear k4 b4
      go_wp2_with fail
      exact bodyPost_ret (v := .tuple #[.agg #[.string ⟨#[]⟩, .slice none 0 0], .int .i64 5]) (by simp [results, Try.results15, go_sem, g0]) rfl HN.out
    · rw [hok] at CM hT
      have CH := Lib.hid CM
      have HY := Lib.hid (And.intro (show takeE L = some (key, s) by simpa using hT) hfit)
      clear CM hT hok hfit e1 e2 hx hx2
      go_wp2_with fail
      refine CH.out.mono ?_
      rintro e w4 ⟨rfl, k4⟩
      have b4 := (k4.block _ (lt_of_heap R.out.2.2.1) (fun f => f)).trans R.out.2.2.1
      have b43 := (k4.block _ (lt_of_heap R.out.2.2.2.1) (fun f => f)).trans R.out.2.2.2.1
      clear g0 g3
      have g0 := blk2 b4
      have g3 := blk2 b43
      have kf := keep2 (a0 := .string key) (a1 := .slice p2 s.length c2) w4 w.heap.size
      have HN : Hid (TakVE L w (.returned (.tuple #[.agg #[.string key, .slice p2 s.length c2], .int .i64 0])) ((w4.setCell ⟨w.heap.size, 0, none⟩ (.string key)).setCell ⟨w.heap.size, 1, none⟩ (.slice p2 s.length c2))) :=
        Lib.hid ⟨key, p2, s.length, c2, 0, s, rfl, (R.out.1.trans k4).then kf (fun i hi e => by omega), (R.out.2.1.old k4).keeps kf (fun b hb e => by have := (R.out.2.2.2.2.2.2 b hb).1; have := G.out.1.size; omega), (fun b hb => by have := R.out.2.2.2.2.2.2 b hb; have := k4.size; have := kf.size; have := G.out.1.size; omega), HY.out.2, Or.inl ⟨HY.out.1, rfl⟩⟩
      clear k4 b4 b43 kf
      go_wp2_with fail
      exact bodyPost_ret (v := .tuple #[.agg #[.string key, .slice p2 s.length c2], .int .i64 0]) (by simp [results, Try.results15, go_sem, g0]) rfl HN.out

/-- what is told of something that is put: new memory -/
def PutV (ok : Bool) (F : List UInt8) (w : World) (e : Ending) (w' : World) : Prop :=
  ∃ (p : Option Addr) (c : Nat) (z : Int) (L : List UInt8), e = .returned (.tuple #[.slice p L.length c, .int .i64 z]) ∧ Old w w' ∧ Owns w' w.heap.size (.slice p L.length c) L ∧ L = (if ok then F else []) ∧ z = (if ok then 0 else 30)
theorem PutV.yes {F : List UInt8} {w w' : World} {e : Ending} (h : Formed w F e w') : PutV true F w e w' := by
  obtain ⟨p, n, c, rfl, ho, k⟩ := h
  obtain ⟨p', c', e', _, _⟩ := ho.sees.len
  simp only [Value.slice.injEq] at e'
  obtain ⟨rfl, rfl, rfl⟩ := e'
  exact ⟨_, _, _, F, rfl, k, ho, rfl, rfl⟩
theorem PutV.no {F : List UInt8} {w w' : World} {e : Ending} (h : e = .returned (.tuple #[.slice none 0 0, .int .i64 30]) ∧ Old w w') : PutV false F w e w' := by
  obtain ⟨rfl, k⟩ := h
  exact ⟨none, 0, 30, [], rfl, k, Owns.nil _ _, rfl, rfl⟩
theorem put_event_v (key : ByteArray) (v : Value) (es : List At) (w : World) (ha : SeesA w v es) (hlt : 0 < es.length → ∀ k, v.ownBlock = some k → k < w.heap.size) (hf : Fits es) :
    Calls Try.prog 12 #[.agg #[.string key, v]] w (PutV (evOk key es) (evForm key es) w) := by
  cases hok : evOk key es
  · exact (put_event_no_any key v es w ha hok).mono fun _ _ h => PutV.no h
  · exact (put_event_any key v es w ha hlt hok hf).mono fun _ _ h => PutV.yes h
theorem ref_put_event_v (key : ByteArray) (v : Value) (es : List At) (w : World) (ha : SeesA w v es) (hlt : 0 < es.length → ∀ k, v.ownBlock = some k → k < w.heap.size) (hf : Fits es) :
    Calls Try.prog 13 #[.agg #[.string key, v]] w (PutV (evOk key es) (evForm key es) w) := by
  cases hok : evOk key es
  · exact (ref_put_event_no_any key v es w ha hok hf).mono fun _ _ h => PutV.no h
  · exact (ref_put_event_any key v es w ha hlt hok hf).mono fun _ _ h => PutV.yes h
theorem xor255_u8 {x : Nat} (h : x < 256) : bits .xor .u8 (x : Int) 255 = ((255 - x : Nat) : Int) := by revert x; decide +kernel
theorem xor255 (x : UInt8) : bits .xor .u8 (x.toNat : Int) 255 = ((UInt8.ofNat (255 - x.toNat)).toNat : Int) := by
  have h := UInt8.toNat_lt x
  rw [xor255_u8 h, UInt8.toNat_ofNat']
  omega
end Go.Proofs.Ytlpbbcjmmhabfaa

namespace Go.Proofs.Ytlpbbcjmmhabfaa
open Go.RowKit

set_option maxRecDepth 100000 in
set_option maxHeartbeats 8000000 in
theorem events_any (k : ByteArray) (v : Value) (es : List At) (bv : Value) (l : List UInt8) (w : World) (ha : SeesA w v es) (hlt : 0 < es.length → ∀ b, v.ownBlock = some b → b < w.heap.size) (hf : Fits es) (hb : Sees w bv l) (hl : l.length ≤ 900000000) :
    Calls Try.prog 3 #[.agg #[.string k, v], bv] w fun e w' => e = .returned (.bool true) ∧ Old w w' := by
  obtain ⟨W0, hW0⟩ : ∃ W0, w.alloc (.cells #[.string k, v] 24) = W0 := ⟨_, rfl⟩
  have k0 : Old w W0 := by rw [← hW0]; exact (Keeps.refl _ _).alloc _
  have b0 : W0.heap[w.heap.size]? = some (.cells #[.string k, v] 24 (0, 0)) := by rw [← hW0]; exact heap_alloc_new _ _
  have P1 := Lib.hid (fun W (o : Old w W) => put_event_v k v es W (ha.old o) (fun h0 b hb => Nat.lt_of_lt_of_le (hlt h0 b hb) o.size) hf)
  have P2 := Lib.hid (fun W (o : Old w W) => ref_put_event_v k v es W (ha.old o) (fun h0 b hb => Nat.lt_of_lt_of_le (hlt h0 b hb) o.size) hf)
  have P3 := Lib.hid (fun W (o : Old w W) => size_any k v es W (ha.old o) (fun h0 b hb => Nat.lt_of_lt_of_le (hlt h0 b hb) o.size) hf)
  have T2 := Lib.hid (fun W (o : Old w W) => ref_take_event_v bv l W (hb.old o))
  obtain ⟨a1, c1, rfl, _, _⟩ := ha.len
  obtain ⟨a2, c2, rfl, _, hmx⟩ := hb.len
  have HB := Lib.hid (And.intro (hb.old k0) (And.intro k0 b0))
  have HN := Lib.hid (show ([] : List UInt8).length + l.length ≤ 1152921504606 by simp; omega)
  have hl63 : l.length ≤ 9223372036854775807 := by omega
  have hl9 := Lib.hid (show l.length ≤ 1000000000 by omega)
  have hz0 : W0.heap.size = w.heap.size + 1 := by rw [← hW0]; simp
  clear ha hlt hf hb k0 b0 hmx hl
  go_enter Try.func3, Try.ntmps3
  go_upto_region 2 with (at_builtin; (refine wpList_append_sees rfl _ _ rfl W0.heap.size (.slice none 0 0) [] rfl (Owns.nil _ _) _ l rfl HB.out.1 HN.out (Nat.le_refl _) ?_; intro v1 w1 ho1 hg1; have O1 := Lib.hid (And.intro ho1 hg1); clear ho1 hg1))
  have ho1 : Owns w1 W0.heap.size v1 l := O1.out.1
  have k1 : Old W0 w1 := (Keeps.refl (fun _ => False) W0).grown O1.out.2 (fun k hk _ => by cases hk)
  obtain ⟨p1, d1, e1, _, _⟩ := ho1.sees.len
  subst e1
  have KM := Lib.hid (And.intro ho1 (HB.out.2.1.trans k1))
  have b0 := (k1.block _ (lt_of_heap HB.out.2.2) (fun f => f)).trans HB.out.2.2
  have BB := Lib.hid b0
  have g0 := blk2 b0
  clear ho1 k1 O1 b0
  go_wp2_with fail
  refine (P1.out _ KM.out.2).mono ?_
  rintro e w2 ⟨p2, d2, z2, L2, rfl, k2, o2, hL2, hz2⟩
  have R2 := Lib.hid (And.intro k2 (And.intro o2 (And.intro hL2 hz2)))
  have b0 := (k2.block _ (lt_of_heap BB.out) (fun f => f)).trans BB.out
  clear g0
  have g0 := blk2 b0
  clear k2 o2 hL2 hz2 b0
  go_wp2_with fail
  refine (P2.out _ (KM.out.2.trans R2.out.1)).mono ?_
  rintro e w3 ⟨p3, d3, z3, L3, rfl, k3, o3, hL3, hz3⟩
  have R3 := Lib.hid (And.intro k3 (And.intro o3 (And.intro (hL3.trans R2.out.2.2.1.symm) (And.intro (hz3.trans R2.out.2.2.2.symm) hL3))))
  clear k3 o3 hL3 hz3 g0
  go_wp2_with fail
  refine (take_event_v _ l w3 (KM.out.1.sees.old (R2.out.1.trans R3.out.1)) hl9.out).mono ?_
  rintro e w4 ⟨key4, p4, n4, d4, z4, es4, rfl, k4, s4, hb4, hf4, ht4⟩
  obtain rfl : n4 = es4.length := by obtain ⟨_, _, e, _⟩ := s4.len; simp only [Value.slice.injEq] at e; exact e.2.1
  obtain ⟨W5, hW5⟩ : ∃ W5, w4.alloc (.cells #[.string key4, .slice p4 es4.length d4] 24) = W5 := ⟨_, rfl⟩
  have k5 : Old w4 W5 := by rw [← hW5]; exact (Keeps.refl _ _).alloc _
  have b5 : W5.heap[w4.heap.size]? = some (.cells #[.string key4, .slice p4 es4.length d4] 24 (0, 0)) := by rw [← hW5]; exact heap_alloc_new _ _
  have k15 : Old w1 W5 := ((R2.out.1.trans R3.out.1).trans k4).trans k5
  have mine := KM.out.1.old k15
  have R5 := Lib.hid (And.intro k15 (And.intro (R2.out.2.1.old (R3.out.1.trans (k4.trans k5))) (And.intro (R3.out.2.1.old (k4.trans k5)) (And.intro (s4.old k5) (And.intro hb4 (And.intro ht4 (And.intro b5 ((k15.block _ (lt_of_heap BB.out) (fun f => f)).trans BB.out))))))))
  have sz := Lib.hid (And.intro R2.out.1.size (And.intro R3.out.1.size (And.intro k4.size k5.size)))
  have HW5 := Lib.hid hW5
  have MN := Lib.hid mine
  clear k4 s4 hb4 hf4 ht4 k5 b5 k15 hW5 mine
  go_upto_region 5 with fail
  try rw [HW5.out]
  go_wp2_with fail
  have KW5 := Lib.hid (KM.out.2.trans R5.out.1)
  go_loopw [12] (fun v12 wr => ∃ (i : Nat) (m : List UInt8), i ≤ l.length ∧ v12 = .int .i64 i ∧ m.length = l.length ∧ Owns wr W0.heap.size (.slice p1 l.length d1) m ∧ Keeps (fun k => (Value.slice p1 l.length d1).ownBlock = some k) W5 wr) (fun v12 _ => l.length - (intOf v12).toNat)
  case atStart => exact ⟨0, l, Nat.zero_le _, rfl, rfl, MN.out, Keeps.refl _ _⟩
  case round =>
    obtain ⟨i, m, hi, rfl, hml, hm, hk⟩ := hrel
    by_cases hlt : i < l.length
    · obtain ⟨g, hg⟩ : ∃ g, p1 = some ⟨g, 0, none⟩ := by
        rcases hm.2 with ⟨e, h⟩ | ⟨g, cap, cur, e, _⟩
        · simp only [Value.slice.injEq] at e; omega
        · simp only [Value.slice.injEq] at e; exact ⟨g, e.1⟩
      subst hg
      obtain ⟨x, hx⟩ : ∃ x, m[i]? = some x := ⟨_, List.getElem?_eq_getElem (by omega)⟩
      have hm' : wr.ownsRow W0.heap.size 5 1 (.slice (some ⟨g, 0, none⟩) l.length d1) l.length (m.map u8) := by have h : Owns wr W0.heap.size (.slice (some ⟨g, 0, none⟩) l.length d1) m := hm; unfold Owns at h; rwa [hml] at h
      have q : wr.cell? ⟨g, i, none⟩ = some (.int .u8 (x.toNat : Int)) := by rw [World.ownsRow.cellAt hm' i (by omega), List.getElem?_map, hx]; rfl
      have qf := World.ownsRow.frozenAt hm' i
      have i1 : (0 : Int) ≤ (i : Int) := by omega
      have i2 : (i : Int) < (l.length : Int) := by omega
      have hxor := xor255 x
      have hx256 := UInt8.toNat_lt x
      have hst := (World.ownsRow.stored hm' i (.int .u8 ((UInt8.ofNat (255 - x.toNat)).toNat : Int))).1
      have ST : Hid (Owns (wr.setCell ⟨g, i, none⟩ (.int .u8 ((UInt8.ofNat (255 - x.toNat)).toNat : Int))) W0.heap.size (.slice (some ⟨g, 0, none⟩) l.length d1) (m.set i (UInt8.ofNat (255 - x.toNat)))) := Lib.hid (by
        unfold Owns
        rw [List.length_set, hml, List.map_set]
        exact hst)
      have KK := Lib.hid (And.intro hml (hk.setCell (p := ⟨g, i, none⟩) (fun _ => rfl) (.int .u8 ((UInt8.ofNat (255 - x.toNat)).toNat : Int))))
      generalize hy : ((UInt8.ofNat (255 - x.toNat)).toNat : Int) = y at hxor ST KK
      clear hy hm hm' hst hx hk hml
      go_wp2_with fail
      go_roundw
      case rel => exact ⟨i + 1, m.set i (UInt8.ofNat (255 - x.toNat)), by omega, by go_num, by rw [List.length_set]; exact KK.out.1, ST.out, KK.out.2⟩
      case measure => simp [intOf]; omega
    · have hown : ∀ b, (Value.slice p1 l.length d1).ownBlock = some b → W0.heap.size ≤ b ∧ b < w1.heap.size := fun b hb => KM.out.1.block b hb
      have k6 : Old w wr := KW5.out.then hk (fun i hi e => by have := (hown i e).1; omega)
      have s1 := sz.out.1
      have s2 := sz.out.2.1
      have s3 := sz.out.2.2.1
      have s4 := sz.out.2.2.2
      have x6 := R5.out.2.1.keeps hk (fun b hb e => by have := (R5.out.2.1.block b hb).1; have := (hown b e).2; omega)
      have y6 := R5.out.2.2.1.keeps hk (fun b hb e => by have := (R5.out.2.2.1.block b hb).1; have := (hown b e).2; omega)
      have u6 := SeesR.keeps R5.out.2.2.2.1 hk (fun b hb e => by have := (R5.out.2.2.2.2.1 b hb).1; have := (hown b e).2; omega)
      have bu6 := (hk.block _ (lt_of_heap R5.out.2.2.2.2.2.2.1) (fun e => by have := (hown _ e).2; omega)).trans R5.out.2.2.2.2.2.2.1
      have be6 := (hk.block _ (lt_of_heap R5.out.2.2.2.2.2.2.2) (fun e => by have := (hown _ e).1; omega)).trans R5.out.2.2.2.2.2.2.2
      have R6 := Lib.hid (And.intro k6 (And.intro x6 (And.intro y6 (And.intro u6 (And.intro bu6 be6)))))
      clear s1 s2 s3 s4 x6 y6 u6 bu6 be6 k6 hk hm hml hown
      go_wp2_with fail
      refine (T2.out _ R6.out.1).mono ?_
      rintro e w7 ⟨key7, p7, n7, d7, z7, es7, rfl, k7, s7, hb7, hf7, ht7⟩
      obtain rfl : n7 = es7.length := by obtain ⟨_, _, e, _⟩ := s7.len; simp only [Value.slice.injEq] at e; exact e.2.1
      have heq : key7 = key4 ∧ es7 = es4 ∧ z7 = z4 := by
        rcases R5.out.2.2.2.2.2.1 with ⟨e1, e2⟩ | ⟨e1, e2, e3, e4⟩
        · rcases ht7 with ⟨f1, f2⟩ | ⟨f1, _⟩
          · rw [e1] at f1
            simp only [Option.some.injEq, Prod.mk.injEq] at f1
            exact ⟨f1.1.symm, f1.2.symm, f2.trans e2.symm⟩
          · rw [e1] at f1; cases f1
        · rcases ht7 with ⟨f1, _⟩ | ⟨f1, f2, f3, f4⟩
          · rw [e1] at f1; cases f1
          · exact ⟨f2.trans e2.symm, f3.trans e3.symm, f4.trans e4.symm⟩
      obtain ⟨rfl, rfl, rfl⟩ := heq
      obtain ⟨W8, hW8⟩ : ∃ W8, w7.alloc (.cells #[.string key7, .slice p7 es7.length d7] 24) = W8 := ⟨_, rfl⟩
      have k8 : Old w7 W8 := by rw [← hW8]; exact (Keeps.refl _ _).alloc _
      have b8 : W8.heap[w7.heap.size]? = some (.cells #[.string key7, .slice p7 es7.length d7] 24 (0, 0)) := by rw [← hW8]; exact heap_alloc_new _ _
      have k78 := k7.trans k8
      have e23 : L3 = L2 := R3.out.2.2.1
      have ez : z3 = z2 := R3.out.2.2.2.1
      have eL : (L3.length : Int) = (evSize k es : Int) := by rw [R3.out.2.2.2.2]; unfold evSize; cases evOk k es <;> rfl
      subst e23 ez
      have t1 := (R6.out.2.1.sees.old k78).text
      have t2 := (R6.out.2.2.1.sees.old k78).text
      have bs := bytes_self ⟨L3.toArray⟩
      have gu := blk2 ((k78.block _ (lt_of_heap R6.out.2.2.2.2.1) (fun f => f)).trans R6.out.2.2.2.2.1)
      have gv := blk2 b8
      have R8 := Lib.hid (And.intro (R6.out.1.trans k78) (And.intro (SeesR.old R6.out.2.2.2.1 k78) (And.intro (s7.old k8) (And.intro ((k78.block _ (lt_of_heap R6.out.2.2.2.2.2) (fun f => f)).trans R6.out.2.2.2.2.2) eL))))
      have HW8 := Lib.hid hW8
      clear k7 s7 hb7 hf7 ht7 k8 b8 k78 hW8 eL R5
      go_upto_region 10 with fail
      try rw [HW8.out]
      go_wp2_with fail
      refine (same_ev_any key7 key7 _ _ es7 es7 W8 R8.out.2.1 R8.out.2.2.1).mono ?_
      rintro e w9 ⟨he, k9⟩
      rw [(sameE_iff _ _ _ _).2 ⟨rfl, rfl⟩] at he
      subst he
      have g9 := blk2 ((k9.block _ (lt_of_heap R8.out.2.2.2.1) (fun f => f)).trans R8.out.2.2.2.1)
      have K9 := Lib.hid (R8.out.1.trans k9)
      clear k9 gu gv t1 t2
      go_wp2_with fail
      refine (P3.out _ K9.out).mono ?_
      rintro e wa ⟨rfl, ka⟩
      have heqq : (((evSize k es : Nat) : Int) == (L3.length : Int)) = true := by rw [R8.out.2.2.2.2]; simp
      have KA := Lib.hid (K9.out.trans ka)
      clear ka g9
      go_wp2_with fail
      refine (wakes_any _).mono ?_
      rintro e wb ⟨rfl, kb⟩
      have KB := Lib.hid (KA.out.trans kb)
      clear kb
      go_wp2_with fail
      go_ret
      exact ⟨rfl, KB.out⟩
end Go.Proofs.Ytlpbbcjmmhabfaa

namespace Go.Proofs.Ytlpbbcjmmhabfaa
open Go.RowKit
theorem SeesR.keep0 {α : Type} {S : Nat → Prop} {w w' : World} {k : Nat} {enc : α → List Value} {v : Value} {l : List α} (h : SeesR w k enc v l) (hk : Keeps S w w') (hS : 0 < l.length → ∀ b, v.ownBlock = some b → ¬ S b) : SeesR w' k enc v l := by
  cases l with
  | nil =>
    obtain ⟨p, c, e, h1, h2, h3, h4⟩ := h
    exact ⟨p, c, e, h1, h2, h3, fun a ha => ⟨(h4 a ha).1, fun j x hj => by cases hj⟩⟩
  | cons x r => exact h.keeps hk (hS (by simp))

theorem ref_may_item_any (x : It) (w : World) (h : x.fine w) : Calls Try.prog 29 #[.agg x.cells.toArray] w fun e w' => e = .returned (.bool (itOk x.plain)) ∧ Old w w' := by
  have M := fun W (k : Old w W) => ref_ev_may_any x.key x.av x.es W (h.1.old k) (fun a ha => (h.2.2.1 a ha).1)
  obtain ⟨n, t, key, av, es⟩ := x
  obtain ⟨p, c, e9, _, _⟩ := h.1.len
  simp only at e9
  subst e9
  unfold It.cells itOk It.plain
  simp only at M ⊢
  have hn := h.2.2.2.1
  have ht := h.2.2.2.2
  simp only at hn ht
  generalize hW0 : w.alloc (.cells #[.int .u64 n, .int .u64 t, .string key, .slice p es.length c] 46) = W0
  have k0 : Old w W0 := by rw [← hW0]; exact (Keeps.refl _ _).alloc _
  have hb0 : W0.heap[w.heap.size]? = some (.cells #[.int .u64 n, .int .u64 t, .string key, .slice p es.length c] 46 (0, 0)) := by rw [← hW0]; exact heap_alloc_new _ _
  have g := (blk4 hb0).1
  have C := Lib.hid (M W0 k0)
  have H := Lib.hid k0
  clear M k0 hb0 h
  by_cases a : 1 ≤ n
  · have a1 : decide (1 ≤ n) = true := decide_eq_true a
    have a2 : decide (0 < n) = true := by simp; omega
    have a3 : decide ((n : Int) > 0) = true := by simp; omega
    by_cases b : n ≤ 1099511627776
    · have b1 : decide (n ≤ 1099511627776) = true := decide_eq_true b
      have b2 : decide ((n : Int) ≤ 1099511627776) = true := by simp; omega
      by_cases d : t ≤ 1099511627776
      · have d1 : decide (t ≤ 1099511627776) = true := decide_eq_true d
        have d2 : decide ((t : Int) ≤ 1099511627776) = true := by simp; omega
        go_enter Try.func29, Try.ntmps29
        go_wp2_with fail
        refine C.out.mono ?_
        rintro e w1 ⟨rfl, hk⟩
        have K := Lib.hid (H.out.trans hk)
        clear hk
        go_wp2_with fail
        go_ret
        exact ⟨by first | rfl | simp [a, b, d], K.out⟩
      · have d1 : decide (t ≤ 1099511627776) = false := decide_eq_false d
        have d2 : decide ((t : Int) ≤ 1099511627776) = false := by simp; omega
        go_enter Try.func29, Try.ntmps29
        go_wp2_with fail
        go_ret
        exact ⟨by first | rfl | simp, H.out⟩
    · have b1 : decide (n ≤ 1099511627776) = false := decide_eq_false b
      have b2 : decide ((n : Int) ≤ 1099511627776) = false := by simp; omega
      go_enter Try.func29, Try.ntmps29
      go_wp2_with fail
      go_ret
      exact ⟨by first | rfl | simp, H.out⟩
  · have a1 : decide (1 ≤ n) = false := decide_eq_false a
    have a2 : decide (0 < n) = false := by simp; omega
    have a3 : decide ((n : Int) > 0) = false := by simp; omega
    go_enter Try.func29, Try.ntmps29
    go_wp2_with fail
    go_ret
    exact ⟨by first | rfl | simp, H.out⟩


set_option maxRecDepth 100000 in
set_option maxHeartbeats 2000000 in
theorem ref7_item_any (v0 : Value) (l : List UInt8) (x : It) (B : Nat) (w : World) (h : Owns w B v0 l) (hl : l.length ≤ 999980000) (hf : x.fine w) (hne : 0 < x.es.length → ∀ k, x.av.ownBlock = some k → k < B) (hok : itOk x.plain = true) (hB : B ≤ w.heap.size) :
    Calls Try.prog 60 #[v0, .agg x.cells.toArray] w (Gro w B (l ++ itForm x.plain)) := by
  obtain ⟨pv, cv, rfl, _, _⟩ := h.sees.len
  have hev : evOk x.key x.es = true := by unfold itOk at hok; simp only [Bool.and_eq_true] at hok; exact hok.2.2.2
  have CE := Lib.hid (fun (u : Value) (m : List UInt8) (W : World) (hu : Owns W B u m) (hm : m.length ≤ 999990000) (k : K8 B w W) => ref7_event_any u m x.key x.av x.es B W hu hm (hf.1.keep0 k (fun h0 b hb e => by have := hne h0 b hb; have := e.1; omega)) hne hev hf.2.2.1 (Nat.le_trans hB k.size))
  have hn := hf.2.2.2.1
  have ht := hf.2.2.2.2
  obtain ⟨n, tm, key, av, es⟩ := x
  obtain ⟨p, c, e9, _, _⟩ := hf.1.len
  simp only at e9 hn ht
  subst e9
  unfold It.cells It.plain itForm
  simp only at CE ⊢
  obtain ⟨W0, hW0⟩ : ∃ W0, w.alloc (.cells #[.int .u64 n, .int .u64 tm, .string key, .slice p es.length c] 46) = W0 := ⟨_, rfl⟩
  have k0 : Old w W0 := by rw [← hW0]; exact (Keeps.refl _ _).alloc _
  have b0 : W0.heap[w.heap.size]? = some (.cells #[.int .u64 n, .int .u64 tm, .string key, .slice p es.length c] 46 (0, 0)) := by rw [← hW0]; exact heap_alloc_new _ _
  have HB := Lib.hid (And.intro (h.old k0) (And.intro k0 (And.intro b0 (And.intro hn (And.intro ht (And.intro hl hB))))))
  have f1 := form_le10 hn
  have f2 := form_le10 ht
  clear k0 b0 h hf hne hok hev hn ht hl
  go_enter Try.func60, Try.ntmps60
  go_wp2_with fail
  refine wp_region_g (S := fun W' => K8 B W0 W') (M := List.range 11) (by kernel_rfl) ?_
  have hS : K8 B W0 W0.drew := (Keeps.refl _ _).drew
  refine wpAnyG_takeL (i := 0) (oi := _) (v := ?va0) rfl (by kernel_rfl) (by kernel_rfl) (by kernel_rfl) (by kernel_rfl) (fun _ _ _ h => h) (Or.inl ⟨by rfl, ?ya0⟩) hS ?ra0
  case ya0 => (intro W hSw; go_simp; try with_reducible rfl)
  try simp only [Act.put, List.setIfInBounds_toArray, List.set_cons_zero, List.set_cons_succ]
  refine wpAnyG_takeL (i := 1) (oi := _) (v := ?va1) rfl (by kernel_rfl) (by kernel_rfl) (by kernel_rfl) (by kernel_rfl) (fun _ _ _ h => h) (Or.inl ⟨by rfl, ?ya1⟩) hS ?ra1
  case ya1 => (intro W hSw; go_simp; try with_reducible rfl)
  try simp only [Act.put, List.setIfInBounds_toArray, List.set_cons_zero, List.set_cons_succ]
  refine wpAnyG_takeL (i := 2) (oi := _) (v := ?va2) rfl (by kernel_rfl) (by kernel_rfl) (by kernel_rfl) (by kernel_rfl) (fun _ _ _ h => h) (Or.inl ⟨by rfl, ?ya2⟩) hS ?ra2
  case ya2 => (intro W hSw; have tt := blk4 (K8.block hSw HB.out.2.2.1 (by decide)); go_simp; try with_reducible rfl)
  try simp only [Act.put, List.setIfInBounds_toArray, List.set_cons_zero, List.set_cons_succ]
  refine wpAnyG_takeL (i := 4) (oi := _) (v := ?va4) rfl (by kernel_rfl) (by kernel_rfl) (by kernel_rfl) (by kernel_rfl) (fun _ _ _ h => h) (Or.inl ⟨by rfl, ?ya4⟩) hS ?ra4
  case ya4 => (intro W hSw; go_simp; try with_reducible rfl)
  try simp only [Act.put, List.setIfInBounds_toArray, List.set_cons_zero, List.set_cons_succ]
  refine wpAnyG_takeL (i := 5) (oi := _) (v := ?va5) rfl (by kernel_rfl) (by kernel_rfl) (by kernel_rfl) (by kernel_rfl) (fun _ _ _ h => h) (Or.inl ⟨by rfl, ?ya5⟩) hS ?ra5
  case ya5 => (intro W hSw; have tt := blk4 (K8.block hSw HB.out.2.2.1 (by decide)); go_simp; try with_reducible rfl)
  try simp only [Act.put, List.setIfInBounds_toArray, List.set_cons_zero, List.set_cons_succ]
  refine wpAnyG_takeL (i := 7) (oi := _) (v := ?va7) rfl (by kernel_rfl) (by kernel_rfl) (by kernel_rfl) (by kernel_rfl) (fun _ _ _ h => h) (Or.inl ⟨by rfl, ?ya7⟩) hS ?ra7
  case ya7 => (intro W hSw; go_simp; try with_reducible rfl)
  try simp only [Act.put, List.setIfInBounds_toArray, List.set_cons_zero, List.set_cons_succ]
  refine wpAnyG_takeL (i := 8) (oi := _) (v := ?va8) rfl (by kernel_rfl) (by kernel_rfl) (by kernel_rfl) (by kernel_rfl) (fun _ _ _ h => h) (Or.inl ⟨by rfl, ?ya8⟩) hS ?ra8
  case ya8 => (intro W hSw; have tt := blk4 (K8.block hSw HB.out.2.2.1 (by decide)); go_simp; try with_reducible rfl)
  try simp only [Act.put, List.setIfInBounds_toArray, List.set_cons_zero, List.set_cons_succ]
  refine wpAnyG_onlyL (i := 3) (o := _) (by kernel_rfl) rfl (fun K hK => ?_)
  go_simp
  refine (ref7_num_any _ l n B _ (HB.out.1.old (Keeps.refl _ _).drew) (by have := HB.out.2.2.2.2.2.1; omega) HB.out.2.2.2.1 (Nat.le_trans HB.out.2.2.2.2.2.2 (show w.heap.size ≤ W0.drew.heap.size from HB.out.2.1.size))).mono ?_
  rintro e w1 ⟨p1, n1, c1, rfl, ho1, k1⟩
  have hS1 : K8 B W0 w1 := hS.trans k1
  have z1 := k1.size
  clear k1
  go_wp2_with fail
  refine hK.out _ _ (fun _ => hS1) ?_
  clear hK K
  try simp only [Act.put, List.setIfInBounds_toArray, List.set_cons_zero, List.set_cons_succ]
  refine wpAnyG_onlyL (i := 6) (o := _) (by kernel_rfl) rfl (fun K hK => ?_)
  go_simp
  refine (ref7_num_any _ _ tm B _ ho1 (by have := HB.out.2.2.2.2.2.1; simp only [List.length_append]; omega) HB.out.2.2.2.2.1 (Nat.le_trans (Nat.le_trans HB.out.2.2.2.2.2.2 HB.out.2.1.size) hS1.size)).mono ?_
  rintro e w2 ⟨p2, n2, c2, rfl, ho2, k2⟩
  have hS2 : K8 B W0 w2 := hS1.trans k2
  clear k2
  go_wp2_with fail
  refine hK.out _ _ (fun _ => hS2) ?_
  clear hK K
  try simp only [Act.put, List.setIfInBounds_toArray, List.set_cons_zero, List.set_cons_succ]
  refine wpAnyG_onlyL (i := 9) (o := _) (by kernel_rfl) rfl (fun K hK => ?_)
  go_simp
  refine (CE.out _ _ _ ho2 (by have := HB.out.2.2.2.2.2.1; simp only [List.length_append]; omega) ((K8.old HB.out.2.1).trans hS2)).mono ?_
  rintro e w3 ⟨p3, n3, c3, rfl, ho3, k3⟩
  have hS3 : K8 B W0 w3 := hS2.trans k3
  clear k3
  go_wp2_with fail
  refine hK.out _ _ (fun _ => hS3) ?_
  clear hK K
  try simp only [Act.put, List.setIfInBounds_toArray, List.set_cons_zero, List.set_cons_succ]
  refine wpAnyG_takeL (i := 10) (oi := _) (v := ?va10) rfl (by kernel_rfl) (by kernel_rfl) (by kernel_rfl) (by kernel_rfl) (fun _ _ _ h => h) (Or.inl ⟨by rfl, ?ya10⟩) hS3 ?ra10
  case ya10 => (intro W hSw; go_simp; try with_reducible rfl)
  try simp only [Act.put, List.setIfInBounds_toArray, List.set_cons_zero, List.set_cons_succ]
  refine wpAnyG_done (by kernel_rfl) ?_ _
  go_simp
  go_wp2_with fail
  go_ret
  refine gro rfl (by simpa [List.append_assoc] using ho3) ((K8.old HB.out.2.1).trans hS3)

set_option maxRecDepth 100000 in
theorem ref_put_item_v (x : It) (w : World) (hf : x.fine w) : Calls Try.prog 24 #[.agg x.cells.toArray] w (PutV (itOk x.plain) (itForm x.plain) w) := by
  have CM := Lib.hid (fun W (k : Old w W) => ref_may_item_any x W (It.fine.old hf k))
  have CI := Lib.hid (fun W (k : Old w W) (hok : itOk x.plain = true) => ref7_item_any (.slice none 0 0) [] x W.heap.size W (Owns.nil _ _) (by simp) (It.fine.old hf k) (fun h0 b hb => Nat.lt_of_lt_of_le (hf.2.1 h0 b hb) k.size) hok (Nat.le_refl _))
  obtain ⟨n, tm, key, av, es⟩ := x
  obtain ⟨p, c, e9, _, _⟩ := hf.1.len
  simp only at e9
  subst e9
  unfold It.cells at CM CI ⊢
  simp only at CM CI ⊢
  generalize It.plain ⟨n, tm, key, .slice p es.length c, es⟩ = x at CM CI ⊢
  obtain ⟨W0, hW0⟩ : ∃ W0, w.alloc (.cells #[.int .u64 n, .int .u64 tm, .string key, .slice p es.length c] 46) = W0 := ⟨_, rfl⟩
  have k0 : Old w W0 := by rw [← hW0]; exact (Keeps.refl _ _).alloc _
  have b0 : W0.heap[w.heap.size]? = some (.cells #[.int .u64 n, .int .u64 tm, .string key, .slice p es.length c] 46 (0, 0)) := by rw [← hW0]; exact heap_alloc_new _ _
  have g0 := blk4 b0
  have H := Lib.hid (And.intro k0 b0)
  clear hf k0 b0
  go_enter Try.func24, Try.ntmps24
  go_wp2_with fail
  refine (CM.out _ H.out.1).mono ?_
  rintro e w1 ⟨rfl, k1⟩
  have b1 := (k1.block _ (lt_of_heap H.out.2) (fun f => f)).trans H.out.2
  clear g0
  have g1 := blk4 b1
  have K1 := Lib.hid (H.out.1.trans k1)
  clear k1 b1
  cases hok : itOk x
  · have HK := Lib.hid hok
    go_wp2_with fail
    go_ret2
    rw [HK.out]
    exact PutV.no ⟨rfl, K1.out⟩
  · have HK := Lib.hid hok
    have HO := Lib.hid (CI.out _ K1.out hok)
    clear hok
    go_wp2_with fail
    refine HO.out.mono ?_
    rintro e w2 ⟨p2, n2, c2, rfl, ho2, k2⟩
    have R := Lib.hid (And.intro ho2 (K8.to_old k2))
    clear ho2 k2
    go_wp2_with fail
    go_ret2
    rw [HK.out]
    exact PutV.yes ⟨_, _, _, rfl, by simpa using R.out.1.mono K1.out.size, K1.out.trans R.out.2⟩
end Go.Proofs.Ytlpbbcjmmhabfaa
