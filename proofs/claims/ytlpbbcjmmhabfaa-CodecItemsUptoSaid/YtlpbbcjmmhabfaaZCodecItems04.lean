/- DERIVED. The document's TakeItem. · DERIVED. The document's TakeItem; the program's, told in full. · DERIVED. CodecItems, walked. · DERIVED. CodecItems, from how its arguments read. · The statement CodecItems, second form: for every input of bulk at most 1048576 the law returns true, and the arguments read as they did. -/
import Derived.Test.YtlpbbcjmmhabfaaZCodecItems03
import Derived.Test.YtlpbbcjmmhabfaaY23
import Derived.Test.YtlpbbcjmmhabfaaRows
import Derived.ProofKit
import Derived.OpenShut
import Derived.JoinedCond
import Derived.ChangeOld
namespace Go.Proofs.Ytlpbbcjmmhabfaa
open Go.RowKit

/-- what is told of an item that is read -/
def RIt (w : World) (rp : Nat) (res : Option (PIt × List UInt8)) (e : Ending) (w' : World) : Prop :=
  (∃ (n tm : Nat) (key : ByteArray) (p : Option Addr) (len c : Nat) (s : List At), e = .returned (.agg #[.int .u64 n, .int .u64 tm, .string key, .slice p len c]) ∧ OwnsA w' w.heap.size (.slice p len c) s ∧ (n < 18446744073709551616 ∧ tm < 18446744073709551616) ∧ ∀ x, res = some x → (⟨n, tm, key, s⟩ : PIt) = x.1) ∧ (Rr w' rp (res.map (·.2)) ∧ Keeps (fun k => k = rp) w w')
theorem no_u8_it (n t : Nat) (k : ByteArray) (p : Option Addr) (l c : Nat) : ∀ (i : Nat) (x : UInt8), (#[.int .u64 n, .int .u64 t, .string k, .slice p l c] : Array Value)[i]? ≠ some (u8 x) := by
  intro i x h
  rcases i with _ | _ | _ | _ | i <;> simp [u8] at h

set_option maxRecDepth 100000 in
set_option maxHeartbeats 2000000 in
theorem rfitem_any (rp : Nat) (st : Option (List UInt8)) (w : World) (h : Rr w rp st) : Calls Try.prog 63 #[.pointer (some ⟨rp, 0, none⟩)] w (RIt w rp (st.bind pItem)) := by
  have hrp := h.lt
  obtain ⟨W0, hW0⟩ : ∃ W0, w.alloc (.cells #[.int .u64 0, .int .u64 0, .string ⟨#[]⟩, .slice none 0 0] 46) = W0 := ⟨_, rfl⟩
  have k0 : Old w W0 := by rw [← hW0]; exact (Keeps.refl _ _).alloc _
  have b0 : W0.heap[w.heap.size]? = some (.cells #[.int .u64 0, .int .u64 0, .string ⟨#[]⟩, .slice none 0 0] 46 (0, 0)) := by rw [← hW0]; exact heap_alloc_new _ _
  have C1 := Lib.hid (rfnum_any rp 1099511627776 st W0 (h.old k0) (by decide))
  obtain ⟨q1, hq1⟩ : ∃ q, st.bind (pNum 1099511627776) = q := ⟨_, rfl⟩
  have hres : st.bind pItem = q1.bind fun x => (pNum 1099511627776 x.2).bind fun y => (pEvent y.2).map fun z => (⟨x.1, y.1, z.1.1, z.1.2⟩, z.2) := by rw [← hq1]; cases st <;> rfl
  generalize st.bind pItem = res at hres ⊢
  rw [hq1] at C1
  have hn64 : q1.elim 0 (·.1) < 18446744073709551616 := by
    rw [← hq1]
    cases st with
    | none => exact (by decide)
    | some l =>
      simp only [Option.bind_some]
      cases hp : pNum 1099511627776 l with
      | none => exact (by decide)
      | some x => exact (pNum_inv (n := x.1) (r := x.2) hp).2.2
  have HW := Lib.hid (And.intro k0 (And.intro b0 (And.intro hres hn64)))
  have hz0 : w.heap.size < W0.heap.size := lt_of_heap b0
  clear k0 b0 h hres hq1 hn64
  go_enter Try.func63, Try.ntmps63
  go_wp2_with fail
  refine C1.out.mono ?_
  rintro e w1 ⟨rfl, hr1, k1⟩
  obtain ⟨n, hn⟩ : ∃ n, q1.elim 0 (·.1) = n := ⟨_, rfl⟩
  obtain ⟨st1, hst1⟩ : ∃ s, q1.map (·.2) = s := ⟨_, rfl⟩
  rw [hst1] at hr1
  rw [hn]
  obtain ⟨W1, hW1⟩ : ∃ W1, w1.alloc (.cells #[.int .u64 n, .int .u64 0, .string ⟨#[]⟩, .slice none 0 0] 46) = W1 := ⟨_, rfl⟩
  have o1 : Old w1 W1 := by rw [← hW1]; exact (Keeps.refl _ _).alloc _
  have b1 : W1.heap[w1.heap.size]? = some (.cells #[.int .u64 n, .int .u64 0, .string ⟨#[]⟩, .slice none 0 0] 46 (0, 0)) := by rw [← hW1]; exact heap_alloc_new _ _
  have hz1 : w.heap.size < w1.heap.size := Nat.lt_of_lt_of_le hz0 k1.size
  have bw0 := (k1.block _ hz0 (by omega)).trans HW.out.2.1
  have C2 := Lib.hid (rfnum_any rp 1099511627776 st1 W1 (hr1.old o1) (by decide))
  obtain ⟨q2, hq2⟩ : ∃ q, st1.bind (pNum 1099511627776) = q := ⟨_, rfl⟩
  have hres2 : res = q2.bind fun y => (pEvent y.2).map fun z => (⟨n, y.1, z.1.1, z.1.2⟩, z.2) := by
    rw [HW.out.2.2.1, ← hq2, ← hst1]
    cases q1 with
    | none => rfl
    | some x => rw [← hn]; rfl
  rw [hq2] at C2
  have ht64 : q2.elim 0 (·.1) < 18446744073709551616 := by
    rw [← hq2]
    cases st1 with
    | none => exact (by decide)
    | some l =>
      simp only [Option.bind_some]
      cases hp : pNum 1099511627776 l with
      | none => exact (by decide)
      | some x => exact (pNum_inv (n := x.1) (r := x.2) hp).2.2
  have hn64 : n < 18446744073709551616 := by rw [← hn]; exact HW.out.2.2.2
  have G := Lib.hid (And.intro (((HW.out.1.weaken (fun i _ f => f.elim) : Keeps (fun k => k = rp) w W0).trans k1).trans (o1.weaken (fun i _ f => f.elim))) (And.intro b1 (And.intro ((o1.block _ (lt_of_heap bw0) (fun f => f)).trans bw0) (And.intro hres2 (And.intro hn64 ht64)))))
  have HW1 := Lib.hid hW1
  have hz1' : w1.heap.size < W1.heap.size := lt_of_heap b1
  clear hr1 k1 o1 b1 bw0 hn hst1 hq2 hres2 hW1 C1 hn64 ht64
  go_wp2_with fail
  try rw [HW1.out]
  refine C2.out.mono ?_
  rintro e w2 ⟨rfl, hr2, k2⟩
  obtain ⟨tm, htm⟩ : ∃ n, q2.elim 0 (·.1) = n := ⟨_, rfl⟩
  obtain ⟨st2, hst2⟩ : ∃ s, q2.map (·.2) = s := ⟨_, rfl⟩
  rw [hst2] at hr2
  rw [htm]
  have b2 := (k2.block _ hz1' (by omega)).trans G.out.2.1
  have b20 := (k2.block _ (lt_of_heap G.out.2.2.1) (by omega)).trans G.out.2.2.1
  have g2 := blk4 b2
  obtain ⟨W2, hW2⟩ : ∃ W2, w2.setCell ⟨w1.heap.size, 1, none⟩ (.int .u64 tm) = W2 := ⟨_, rfl⟩
  have kk : Keeps (fun k => k = w1.heap.size) w2 W2 := by rw [← hW2]; exact keepS _ (Keeps.refl _ _)
  have b3 : W2.heap[w1.heap.size]? = some (.cells #[.int .u64 n, .int .u64 tm, .string ⟨#[]⟩, .slice none 0 0] 46 (0, 0)) := by
    rw [← hW2]; have := heap_setCell_same w2 w1.heap.size 1 _ _ (.int .u64 tm) b2; simpa using this
  have b30 := (kk.block _ (lt_of_heap b20) (by omega)).trans b20
  have hr3 : Rr W2 rp st2 := hr2.above kk (fun b hb => by omega)
  have C3 := Lib.hid (rfevent_any rp st2 W2 hr3)
  obtain ⟨q3, hq3⟩ : ∃ q, st2.bind pEvent = q := ⟨_, rfl⟩
  have hres3 : res = q3.map fun z => (⟨n, tm, z.1.1, z.1.2⟩, z.2) := by
    rw [G.out.2.2.2.1, ← hq3, ← hst2]
    cases q2 with
    | none => rfl
    | some x => rw [← htm]; rfl
  rw [hq3] at C3
  have ht64 : tm < 18446744073709551616 := by rw [← htm]; exact G.out.2.2.2.2.2
  have F := Lib.hid (And.intro ((G.out.1.trans k2).then kk (fun i hi e => by omega)) (And.intro b3 (And.intro b30 (And.intro hres3 (And.intro G.out.2.2.2.2.1 ht64)))))
  have HW2 := Lib.hid hW2
  have hz2 : w1.heap.size < W2.heap.size := lt_of_heap b3
  clear hr2 k2 htm hst2 b2 b20 kk b3 b30 hr3 hq3 hres3 hW2 ht64 C2
  go_wp2_with fail
  try rw [HW2.out]
  refine C3.out.mono ?_
  rintro e w3 ⟨⟨key, p3, n3, c3, s, rfl, ho, hx⟩, hr, k3⟩
  have b4 := (k3.block _ hz2 (by omega)).trans F.out.2.1
  have b40 := (k3.block _ (lt_of_heap F.out.2.2.1) (by omega)).trans F.out.2.2.1
  have g4 := blk4 b4
  have g40 := blk4 b40
  have hob : ∀ b, (Value.slice p3 n3 c3).ownBlock = some b → W2.heap.size ≤ b := fun b hb => (ho.block b hb).1
  have kA : Keeps (fun k => k = w1.heap.size) w3 ((w3.setCell ⟨w1.heap.size, 2, none⟩ (.string key)).setCell ⟨w1.heap.size, 3, none⟩ (.slice p3 n3 c3)) := keepS _ (keepS _ (Keeps.refl _ _))
  have bA := (kA.block _ (lt_of_heap b40) (by omega)).trans b40
  have rA : Rr ((w3.setCell ⟨w1.heap.size, 2, none⟩ (.string key)).setCell ⟨w1.heap.size, 3, none⟩ (.slice p3 n3 c3)) rp (q3.map (·.2)) := hr.above kA (fun b hb => by omega)
  have kB := keep4 (a0 := .int .u64 n) (a1 := .int .u64 tm) (a2 := .string key) (a3 := .slice p3 n3 c3) ((w3.setCell ⟨w1.heap.size, 2, none⟩ (.string key)).setCell ⟨w1.heap.size, 3, none⟩ (.slice p3 n3 c3)) w.heap.size
  have rB := rA.apart kB (by omega) (fun b hb' _ => ⟨_, _, _, by subst hb'; exact bA, no_u8_it 0 0 ⟨#[]⟩ none 0 0⟩)
  have oB := (ho.keeps kA (fun b hb e => by have := hob b hb; omega)).keeps kB (fun b hb e => by have := hob b hb; omega)
  have FIN := Lib.hid (show RIt w rp res (.returned (.agg #[.int .u64 n, .int .u64 tm, .string key, .slice p3 n3 c3])) _ from ⟨⟨n, tm, key, p3, n3, c3, s, rfl, oB.mono (by omega), F.out.2.2.2.2, fun x hxx => by
    rw [F.out.2.2.2.1] at hxx
    cases q3 with
    | none => cases hxx
    | some z =>
      simp only [Option.map_some, Option.some.injEq] at hxx
      obtain ⟨e1, e2⟩ := hx z rfl
      rw [← hxx, e1, e2]⟩, by
    have e : res.map (·.2) = q3.map (·.2) := by rw [F.out.2.2.2.1]; cases q3 <;> rfl
    rw [e]; exact rB, ((F.out.1.trans k3).then kA (fun i hi e => by omega)).then kB (fun i hi e => by omega)⟩)
  clear b4 b40 hob kA bA rA kB rB oB ho hx hr k3 C3
  go_wp2_with fail
  exact bodyPost_ret (v := .agg #[.int .u64 n, .int .u64 tm, .string key, .slice p3 n3 c3]) (by simp [results, Try.results63, go_sem, g40]) rfl FIN.out
end Go.Proofs.Ytlpbbcjmmhabfaa

namespace Go.Proofs.Ytlpbbcjmmhabfaa
open Go.RowKit

/-- what is told of bytes as an item, told in full -/
def TakVI (L : List UInt8) (w : World) (e : Ending) (w' : World) : Prop :=
  ∃ (n tm : Nat) (key : ByteArray) (p : Option Addr) (len c : Nat) (es : List At) (z : Int), e = .returned (.tuple #[.agg #[.int .u64 n, .int .u64 tm, .string key, .slice p len c], .int .i64 z]) ∧ Old w w' ∧
    It.fine w' ⟨n, tm, key, .slice p len c, es⟩ ∧ ((takeI L = some ⟨n, tm, key, es⟩ ∧ z = 0) ∨ (takeI L = none ∧ n = 0 ∧ tm = 0 ∧ key = ⟨#[]⟩ ∧ es = [] ∧ z = 5))
theorem TakVI.no {L : List UInt8} {w w' : World} (h : takeI L = none) (k : Old w w') : TakVI L w (.returned (.tuple #[.agg #[.int .u64 0, .int .u64 0, .string ⟨#[]⟩, .slice none 0 0], .int .i64 5])) w' :=
  ⟨0, 0, _, none, 0, 0, [], 5, rfl, k, ⟨SeesR.nil _, fun h => by simp at h, fun _ h => (by cases h), by decide, by decide⟩, Or.inr ⟨h, rfl, rfl, rfl, rfl, rfl⟩⟩
theorem take_item_v (v : Value) (L : List UInt8) (w : World) (h : Sees w v L) (hl : L.length ≤ 1000000000) : Calls Try.prog 25 #[v] w (TakVI L w) :=
  (take_item_any v L w h hl).mono fun e w' ht => by
    cases hE : takeI L with
    | none =>
      rw [hE] at ht
      obtain ⟨k, rfl⟩ := ht
      exact TakVI.no hE k
    | some x =>
      rw [hE] at ht
      obtain ⟨k, p, n, c, rfl, ho⟩ := ht
      obtain ⟨_, _, ⟨r, h3⟩, _⟩ := takeI_law hE
      obtain ⟨g1, g2, g3, _⟩ := pItem_inv h3
      exact ⟨x.n, x.time, x.key, p, n, c, x.es, 0, rfl, k, ⟨ho.sees (fun _ => rfl) (by decide), fun _ b hb => (ho.block b hb).2, g1, by simp only; omega, by simp only; omega⟩, Or.inl ⟨hE, rfl⟩⟩

set_option maxRecDepth 100000 in
set_option maxHeartbeats 2000000 in
theorem ref_take_item_v (v : Value) (L : List UInt8) (w : World) (h : Sees w v L) : Calls Try.prog 26 #[v] w (TakVI L w) := by
  obtain ⟨pv, cv, rfl, _, _⟩ := h.len
  obtain ⟨W0, hW0⟩ : ∃ W0, w.alloc (.cells #[.int .u64 0, .int .u64 0, .string ⟨#[]⟩, .slice none 0 0] 46) = W0 := ⟨_, rfl⟩
  have k0 : Old w W0 := by rw [← hW0]; exact (Keeps.refl _ _).alloc _
  have z0 : W0.heap.size = w.heap.size + 1 := by rw [← hW0]; simp
  have b0 : W0.heap[w.heap.size]? = some (.cells #[.int .u64 0, .int .u64 0, .string ⟨#[]⟩, .slice none 0 0] 46 (0, 0)) := by rw [← hW0]; exact heap_alloc_new _ _
  obtain ⟨W1, hW1⟩ : ∃ W1, W0.alloc (.cells #[.slice pv L.length cv, .bool false] 102) = W1 := ⟨_, rfl⟩
  have k1 : Old W0 W1 := by rw [← hW1]; exact (Keeps.refl _ _).alloc _
  have hR : Rr W1 (w.heap.size + 1) (some L) := by rw [← hW1, ← z0]; exact Rr.new (h.old k0)
  have CE := Lib.hid (rfitem_any (w.heap.size + 1) (some L) W1 hR)
  have G := Lib.hid (And.intro (k0.trans k1) ((k1.block _ (lt_of_heap b0) (fun f => f)).trans b0))
  have zW1 : W1.heap.size = w.heap.size + 1 + 1 := by rw [← hW1]; simp [z0]
  obtain ⟨res, hres⟩ : ∃ r, pItem L = r := ⟨_, rfl⟩
  have hT : takeI L = res.bind fun x => if itOk x.1 && decide (x.2 = []) then some x.1 else none := by rw [← hres]; rfl
  have hfit : ∀ x, res = some x → Fits x.1.es := fun x hx => (pItem_inv (x := x.1) (r := x.2) (hres.trans hx)).1
  have HT := Lib.hid (And.intro hT (And.intro hfit hres))
  clear k0 k1 b0 hR h hT hfit hres
  go_enter Try.func26, Try.ntmps26
  go_wp2_with fail
  refine CE.out.mono ?_
  rintro e w2 ⟨⟨nn, tm, key, p2, n2, c2, s, rfl, ho, hbd, hx⟩, hr, k2⟩
  have hsee : SeesA w2 (.slice p2 n2 c2) s := ho.sees (fun _ => rfl) (by decide)
  obtain rfl : n2 = s.length := by obtain ⟨_, _, e, _⟩ := hsee.len; simp only [Value.slice.injEq] at e; exact e.2.1
  simp only [Option.bind_some] at hr hx
  rw [HT.out.2.2] at hr hx
  have b2 := (k2.block _ (lt_of_heap G.out.2) (by omega)).trans G.out.2
  obtain ⟨W2, hW2⟩ : ∃ W2, w2.alloc (.cells #[.int .u64 nn, .int .u64 tm, .string key, .slice p2 s.length c2] 46) = W2 := ⟨_, rfl⟩
  have o2 : Old w2 W2 := by rw [← hW2]; exact (Keeps.refl _ _).alloc _
  have b3 : W2.heap[w2.heap.size]? = some (.cells #[.int .u64 nn, .int .u64 tm, .string key, .slice p2 s.length c2] 46 (0, 0)) := by rw [← hW2]; exact heap_alloc_new _ _
  have b20 := (o2.block _ (lt_of_heap b2) (fun f => f)).trans b2
  have DN := Lib.hid (rfdone_any (w.heap.size + 1) (res.map (·.2)) W2 (hr.old o2))
  obtain ⟨dn, hdn⟩ : ∃ d, (res.map (·.2)).elim false (fun l => l.isEmpty) = d := ⟨_, rfl⟩
  have hO : Old w W2 := (G.out.1.then (k2.trans (o2.weaken (fun i _ f => f.elim))) (fun i hi e => by omega))
  have HBD := Lib.hid hbd
  have R := Lib.hid (And.intro hO (And.intro (hsee.old o2) (And.intro b20 (And.intro b3 (And.intro hx (And.intro hdn (fun b (hb : (Value.slice p2 s.length c2).ownBlock = some b) => And.intro (ho.block b hb).1 (Nat.lt_of_lt_of_le (ho.block b hb).2 o2.size))))))))
  have g0 := blk4 b20
  have g3 := blk4 b3
  have HW2 := Lib.hid hW2
  have hz2 : w.heap.size < w2.heap.size := lt_of_heap b2
  rw [hdn] at DN
  clear hsee hx hr k2 b2 o2 b3 b20 hdn hO hW2 ho CE hbd
  go_wp2_with fail
  try rw [HW2.out]
  refine DN.out.mono ?_
  rintro e w3 ⟨rfl, rfl⟩
  cases dn
  · have hno : takeI L = none := by
      have h := R.out.2.2.2.2.2.1
      rw [HT.out.1]
      cases res with
      | none => rfl
      | some x =>
        have hne : x.2 ≠ [] := by intro e; simp [e] at h
        simp [hne]
    have HN := Lib.hid (TakVI.no hno (R.out.1.then (keep4 (a0 := .int .u64 0) (a1 := .int .u64 0) (a2 := .string ⟨#[]⟩) (a3 := .slice none 0 0) W2 w.heap.size) (fun i hi e => by omega)))
    clear hno
    go_wp2_with fail
    exact bodyPost_ret (v := .tuple #[.agg #[.int .u64 0, .int .u64 0, .string ⟨#[]⟩, .slice none 0 0], .int .i64 5]) (by simp [results, Try.results26, go_sem, g0]) rfl HN.out
  · obtain ⟨x, hx, hx2⟩ : ∃ x, res = some x ∧ x.2 = [] := by
      have h := R.out.2.2.2.2.2.1
      cases res with
      | none => simp at h
      | some x => exact ⟨x, rfl, by simpa using h⟩
    have e1 := R.out.2.2.2.2.1 x hx
    have hfit : Fits s := by have h := HT.out.2.1 x hx; rw [← e1] at h; exact h
    have hfine : It.fine W2 ⟨nn, tm, key, .slice p2 s.length c2, s⟩ := ⟨R.out.2.1, fun _ b hb => (R.out.2.2.2.2.2.2 b hb).2, hfit, HBD.out.1, HBD.out.2⟩
    have CM := ref_may_item_any ⟨nn, tm, key, .slice p2 s.length c2, s⟩ W2 hfine
    unfold It.cells It.plain at CM
    simp only at CM
    have hT : takeI L = if itOk ⟨nn, tm, key, s⟩ then some ⟨nn, tm, key, s⟩ else none := by
      rw [HT.out.1, hx, e1]; simp [hx2]
    cases hok : itOk ⟨nn, tm, key, s⟩
    · rw [hok] at CM hT
      have CH := Lib.hid CM
      have hno : takeI L = none := by simpa using hT
      have HNo := Lib.hid hno
      clear CM hT hno hok hfit e1 hx hx2 hfine
      go_wp2_with fail
      refine CH.out.mono ?_
      rintro e w4 ⟨rfl, k4⟩
      have b4 := (k4.block _ (lt_of_heap R.out.2.2.1) (fun f => f)).trans R.out.2.2.1
      clear g0 g3
      have g0 := blk4 b4
      have HN := Lib.hid (TakVI.no HNo.out ((R.out.1.trans k4).then (keep4 (a0 := .int .u64 0) (a1 := .int .u64 0) (a2 := .string ⟨#[]⟩) (a3 := .slice none 0 0) w4 w.heap.size) (fun i hi e => by omega)))
      clear k4 b4
      go_wp2_with fail
      exact bodyPost_ret (v := .tuple #[.agg #[.int .u64 0, .int .u64 0, .string ⟨#[]⟩, .slice none 0 0], .int .i64 5]) (by simp [results, Try.results26, go_sem, g0]) rfl HN.out
    · rw [hok] at CM hT
      have CH := Lib.hid CM
      have HY := Lib.hid (And.intro (show takeI L = some ⟨nn, tm, key, s⟩ by simpa using hT) hfine)
      clear CM hT hok hfit e1 hx hx2 hfine
      go_wp2_with fail
      refine CH.out.mono ?_
      rintro e w4 ⟨rfl, k4⟩
      have b4 := (k4.block _ (lt_of_heap R.out.2.2.1) (fun f => f)).trans R.out.2.2.1
      have b43 := (k4.block _ (lt_of_heap R.out.2.2.2.1) (fun f => f)).trans R.out.2.2.2.1
      clear g0 g3
      have g0 := blk4 b4
      have g3 := blk4 b43
      have kf := keep4 (a0 := .int .u64 nn) (a1 := .int .u64 tm) (a2 := .string key) (a3 := .slice p2 s.length c2) w4 w.heap.size
      have HN : Hid (TakVI L w (.returned (.tuple #[.agg #[.int .u64 nn, .int .u64 tm, .string key, .slice p2 s.length c2], .int .i64 0])) ((((w4.setCell ⟨w.heap.size, 0, none⟩ (.int .u64 nn)).setCell ⟨w.heap.size, 1, none⟩ (.int .u64 tm)).setCell ⟨w.heap.size, 2, none⟩ (.string key)).setCell ⟨w.heap.size, 3, none⟩ (.slice p2 s.length c2))) :=
        Lib.hid ⟨nn, tm, key, p2, s.length, c2, s, 0, rfl, (R.out.1.trans k4).then kf (fun i hi e => by omega), ⟨(R.out.2.1.old k4).keeps kf (fun b hb e => by have := (R.out.2.2.2.2.2.2 b hb).1; have := G.out.1.size; omega), (fun _ b hb => by have h := (R.out.2.2.2.2.2.2 b hb).2; have := k4.size; have := kf.size; omega), HY.out.2.2.2.1, HBD.out.1, HBD.out.2⟩, Or.inl ⟨HY.out.1, rfl⟩⟩
      clear k4 b4 b43 kf
      go_wp2_with fail
      exact bodyPost_ret (v := .tuple #[.agg #[.int .u64 nn, .int .u64 tm, .string key, .slice p2 s.length c2], .int .i64 0]) (by simp [results, Try.results26, go_sem, g0]) rfl HN.out
end Go.Proofs.Ytlpbbcjmmhabfaa

namespace Go.Proofs.Ytlpbbcjmmhabfaa
open Go.RowKit

theorem put_item_v (x : It) (w : World) (hf : x.fine w) : Calls Try.prog 21 #[.agg x.cells.toArray] w (PutV (itOk x.plain) (itForm x.plain) w) := by
  cases hok : itOk x.plain
  · exact (put_item_no_any x w hf hok).mono fun _ _ h => PutV.no h
  · exact (put_item_any x w hf hok).mono fun _ _ h => PutV.yes h

set_option maxRecDepth 100000 in
set_option maxHeartbeats 8000000 in
theorem items_any (x : It) (bv : Value) (l : List UInt8) (w : World) (hx : x.fine w) (hb : Sees w bv l) (hl : l.length ≤ 1000000000) :
    Calls Try.prog 6 #[.agg x.cells.toArray, bv] w fun e w' => e = .returned (.bool true) ∧ Old w w' := by
  have P1 := Lib.hid (fun W (o : Old w W) => put_item_v x W (It.fine.old hx o))
  have P2 := Lib.hid (fun W (o : Old w W) => ref_put_item_v x W (It.fine.old hx o))
  have T1 := Lib.hid (fun W (o : Old w W) => take_item_v bv l W (hb.old o) hl)
  have T2 := Lib.hid (fun W (o : Old w W) => ref_take_item_v bv l W (hb.old o))
  have M1 := fun W (o : Old w W) => may_item_any x W (It.fine.old hx o)
  have M2 := fun W (o : Old w W) => ref_may_item_any x W (It.fine.old hx o)
  generalize itOk x.plain = ok at P1 P2 M1 M2
  generalize itForm x.plain = F at P1 P2
  have HM1 := Lib.hid M1
  have HM2 := Lib.hid M2
  obtain ⟨n, tm, key, av, es⟩ := x
  obtain ⟨a1, c1, e9, _, _⟩ := hx.1.len
  simp only at e9
  subst e9
  obtain ⟨a2, c2, rfl, _, _⟩ := hb.len
  unfold It.cells at P1 P2 HM1 HM2 ⊢
  simp only at P1 P2 HM1 HM2 ⊢
  obtain ⟨W0, hW0⟩ : ∃ W0, w.alloc (.cells #[.int .u64 n, .int .u64 tm, .string key, .slice a1 es.length c1] 46) = W0 := ⟨_, rfl⟩
  have k0 : Old w W0 := by rw [← hW0]; exact (Keeps.refl _ _).alloc _
  have b0 : W0.heap[w.heap.size]? = some (.cells #[.int .u64 n, .int .u64 tm, .string key, .slice a1 es.length c1] 46 (0, 0)) := by rw [← hW0]; exact heap_alloc_new _ _
  have g0 := blk4 b0
  have H := Lib.hid (And.intro k0 b0)
  clear hx hb k0 b0 hl M1 M2
  go_enter Try.func6, Try.ntmps6
  go_wp2_with fail
  refine (P1.out _ H.out.1).mono ?_
  rintro e w1 ⟨p1, d1, z1, L1, rfl, k1, o1, e1, f1⟩
  have R1 := Lib.hid (And.intro k1 (And.intro o1 (And.intro e1 f1)))
  clear g0
  have g0 := blk4 ((k1.block _ (lt_of_heap H.out.2) (fun f => f)).trans H.out.2)
  clear k1 o1 e1 f1
  go_wp2_with fail
  refine (P2.out _ (H.out.1.trans R1.out.1)).mono ?_
  rintro e w2 ⟨p2, d2, z2, L2, rfl, k2, o2, e2, f2⟩
  obtain rfl : L2 = L1 := e2.trans R1.out.2.2.1.symm
  obtain rfl : z2 = z1 := f2.trans R1.out.2.2.2.symm
  have R2 := Lib.hid (And.intro k2 o2)
  clear k2 o2 e2 f2 g0
  go_wp2_with fail
  refine (T1.out _ (H.out.1.trans (R1.out.1.trans R2.out.1))).mono ?_
  rintro e w3 ⟨n3, t3, key3, p3, m3, d3, es3, z3, rfl, k3, s3, h3⟩
  obtain rfl : m3 = es3.length := by obtain ⟨_, _, e, _⟩ := s3.1.len; simp only [Value.slice.injEq] at e; exact e.2.1
  obtain ⟨W4, hW4⟩ : ∃ W4, w3.alloc (.cells #[.int .u64 n3, .int .u64 t3, .string key3, .slice p3 es3.length d3] 46) = W4 := ⟨_, rfl⟩
  have k4 : Old w3 W4 := by rw [← hW4]; exact (Keeps.refl _ _).alloc _
  have b4 : W4.heap[w3.heap.size]? = some (.cells #[.int .u64 n3, .int .u64 t3, .string key3, .slice p3 es3.length d3] 46 (0, 0)) := by rw [← hW4]; exact heap_alloc_new _ _
  have R4 := Lib.hid (And.intro (k3.trans k4) (And.intro (It.fine.old s3 k4) (And.intro h3 b4)))
  have HW4 := Lib.hid hW4
  clear k3 s3 h3 k4 b4 hW4
  go_upto_region 4 with fail
  try rw [HW4.out]
  go_wp2_with fail
  refine (T2.out _ (H.out.1.trans (R1.out.1.trans (R2.out.1.trans R4.out.1)))).mono ?_
  rintro e w5 ⟨n5, t5, key5, p5, m5, d5, es5, z5, rfl, k5, s5, h5⟩
  obtain rfl : m5 = es5.length := by obtain ⟨_, _, e, _⟩ := s5.1.len; simp only [Value.slice.injEq] at e; exact e.2.1
  have heq : n5 = n3 ∧ t5 = t3 ∧ key5 = key3 ∧ es5 = es3 ∧ z5 = z3 := by
    rcases R4.out.2.2.1 with ⟨e1, e2⟩ | ⟨e1, e2, e3, e4, e5, e6⟩
    · rcases h5 with ⟨f1, f2⟩ | ⟨f1, _⟩
      · rw [e1] at f1
        simp only [Option.some.injEq, PIt.mk.injEq] at f1
        exact ⟨f1.1.symm, f1.2.1.symm, f1.2.2.1.symm, f1.2.2.2.symm, f2.trans e2.symm⟩
      · rw [e1] at f1; cases f1
    · rcases h5 with ⟨f1, _⟩ | ⟨f1, f2, f3, f4, f5, f6⟩
      · rw [e1] at f1; cases f1
      · exact ⟨f2.trans e2.symm, f3.trans e3.symm, f4.trans e4.symm, f5.trans e5.symm, f6.trans e6.symm⟩
  obtain ⟨rfl, rfl, rfl, rfl, rfl⟩ := heq
  obtain ⟨W6, hW6⟩ : ∃ W6, w5.alloc (.cells #[.int .u64 n5, .int .u64 t5, .string key5, .slice p5 es5.length d5] 46) = W6 := ⟨_, rfl⟩
  have k6 : Old w5 W6 := by rw [← hW6]; exact (Keeps.refl _ _).alloc _
  have b6 : W6.heap[w5.heap.size]? = some (.cells #[.int .u64 n5, .int .u64 t5, .string key5, .slice p5 es5.length d5] 46 (0, 0)) := by rw [← hW6]; exact heap_alloc_new _ _
  have kall : Old W0 W6 := R1.out.1.trans (R2.out.1.trans (R4.out.1.trans (k5.trans k6)))
  have bu := ((k5.trans k6).block _ (lt_of_heap R4.out.2.2.2) (fun f => f)).trans R4.out.2.2.2
  have bx := (kall.block _ (lt_of_heap H.out.2) (fun f => f)).trans H.out.2
  have t1 := fun p : OldOf W6 => (R1.out.2.1.sees.old ((R2.out.1.trans (R4.out.1.trans (k5.trans k6))).trans p.old)).text
  have t2 := fun p : OldOf W6 => (R2.out.2.sees.old ((R4.out.1.trans (k5.trans k6)).trans p.old)).text
  have bs := bytes_self ⟨L2.toArray⟩
  have u0 := OldOf.cell (blk4 bu).1.1
  have u1 := OldOf.cell (blk4 bu).1.2.1
  have u2 := OldOf.cell (blk4 bu).1.2.2.1
  have u3 := OldOf.cell (blk4 bu).1.2.2.2
  have v0 := OldOf.cell (blk4 b6).1.1
  have v1 := OldOf.cell (blk4 b6).1.2.1
  have v2 := OldOf.cell (blk4 b6).1.2.2.1
  have v3 := OldOf.cell (blk4 b6).1.2.2.2
  have x0 := OldOf.cell (blk4 bx).1.1
  have x1 := OldOf.cell (blk4 bx).1.2.1
  have x2 := OldOf.cell (blk4 bx).1.2.2.1
  have x3 := OldOf.cell (blk4 bx).1.2.2.2
  have CS := fun (p : OldOf W6) => same_item_any ⟨n5, t5, key5, .slice p3 es5.length d3, es5⟩ ⟨n5, t5, key5, .slice p5 es5.length d5, es5⟩ p.to (It.fine.old R4.out.2.1 ((k5.trans k6).trans p.old)) (It.fine.old s5 (k6.trans p.old))
  have hself : sameI (It.plain ⟨n5, t5, key5, .slice p3 es5.length d3, es5⟩) (It.plain ⟨n5, t5, key5, .slice p5 es5.length d5, es5⟩) = true := (sameI_iff _ _).2 rfl
  rw [hself] at CS
  unfold It.cells at CS
  have HCS := Lib.hid CS
  have KA := Lib.hid (H.out.1.trans kall)
  have HW6 := Lib.hid hW6
  clear k5 s5 h5 k6 b6 kall bu bx hW6 CS hself
  go_upto_region 5 with fail
  try rw [HW6.out]
  cases ok
  all_goals
    go_wp2_with fail
    refine wp_region_quiet_old (by kernel_rfl) (by kernel_rfl) ?_
    repeat (go_big_quiet_step (((first | (go_at_call 27; exact Calls.quiet_of_old (HCS.out _)) | (go_at_call 28; exact Calls.quiet_of_old (HM1.out _ (KA.out.trans (OldOf.old _)))) | (go_at_call 29; exact Calls.quiet_of_old (HM2.out _ (KA.out.trans (OldOf.old _)))) | (go_at_call 18; exact Calls.quiet_of_old (wakes_any _))))))
    refine wpQuiet_nil ?_
    intro _ hpq
    obtain ⟨pq, hpq'⟩ := hpq
    subst hpq'
    go_wp2_with fail
    go_ret
    exact ⟨rfl, KA.out.trans pq.old⟩
end Go.Proofs.Ytlpbbcjmmhabfaa

namespace Go.Proofs.Ytlpbbcjmmhabfaa
open Go.ChangeShapes Go.WideShapes Go.ChangeAt Go.RowKit

set_option maxRecDepth 100000 in
theorem walk_CodecItems {H : Type} (enc : TypeId × Value → H) (W : World) (base : Nat) {v0 v1 : Value} {d0 d1 : DataW H} {p0 p1 : List MemPlace}
    (hv0 : Value.okWide Try.prog W .any base 46 v0) (h0 : DataW.Trod enc Try.prog W 0 (fun _ => true) true 46 v0 d0 p0)
    (hv1 : Value.okWide Try.prog W .any base 25 v1) (h1 : DataW.Trod enc Try.prog W 0 (fun _ => true) true 25 v1 d1 p1)
    (hk : Rows.uptoBulkAll [d0, d1] ≤ 1048576) :
    Calls Try.prog 6 #[v0, v1] W fun e W' => e = .returned (.bool true) ∧ Below W.heap.size W W' := by
  obtain ⟨x, rfl, hx⟩ := read_item hv0 h0
  obtain ⟨l, hb, hlb⟩ := read_bytes hv1 h1
  simp only [Rows.uptoBulkAll] at hk
  exact (items_any x v1 l W hx hb (by omega)).mono fun e W' h => ⟨h.1, Old.below h.2⟩
end Go.Proofs.Ytlpbbcjmmhabfaa

namespace Go.Proofs.Ytlpbbcjmmhabfaa.codecItems
open Go.ChangeShapes Go.WideShapes Go.ChangeAt Go.RowKit
theorem own : ownKnob Try.prog.godebug = none := by kernel_rfl
theorem laidOut : laidOutB Try.prog = true := by kernel_rfl

set_option maxRecDepth 100000 in
theorem lifted (os : Os) (started : os.Started) (H : Type) (enc : TypeId × Value → H) (F : Stop.Interp) :
    ReturnsInHanded {} Try.checked os 6 .any ((Rows.OpenSpec.upto Rows.codecItemsSpec).pre6 enc Try.prog Try.f6 Rows.codecItemsUptoRow.domain false) (((Rows.OpenSpec.upto Rows.codecItemsSpec).at F).post enc Try.prog Try.f6 false true false false) := by
  refine returnsInHanded_of_cond (C := Try.checked) (s := Rows.OpenSpec.upto Rows.codecItemsSpec) (k := Rows.uptoSmall) rfl own started (by kernel_rfl) Try.func6
    (OpenSpec.witness (enc := enc) (C := Try.checked) (s := Rows.OpenSpec.upto Rows.codecItemsSpec) (k := Rows.uptoSmall) rfl false ⟨#[], #[.agg #[.int .u64 0, .int .u64 0, .string ⟨#[]⟩, .slice none 0 0], .slice none 0 0], []⟩ 8 (by kernel_rfl) (by kernel_rfl) (by kernel_rfl)
      (x := ([.agg [.lit (.int .u64 0), .lit (.int .u64 0), .agg [.lit (.string []), .nil]], .nil], [], [])) (by kernel_rfl) rfl (by kernel_rfl)) ?_
  intro W base args ds gs before hval0 hW _ hk0 _
  have hval : ∀ (j : Nat) t v, Try.f6.params[j]? = some t → args[j]? = some v → Value.okWide Try.prog W .any base t v := hval0
  have hW' := hW
  obtain ⟨p, q, hA0, hV, rfl, hfz, hnd⟩ := hW
  have hA : DataW.TrodAll enc Try.prog W 0 (fun _ => true) true Try.f6.params.toList args.toList ds p := hA0
  rw [Try.params6] at hA hval
  obtain ⟨v0, vs0, d0, ds0, p0, q0, hargs, rfl, rfl, h0, r0⟩ := trodAll_cons hA
  obtain ⟨v1, vs1, d1, ds1, p1, q1, rfl, rfl, rfl, h1, r1⟩ := trodAll_cons r0
  obtain ⟨rfl, rfl, rfl⟩ := trodAll_nil r1
  obtain rfl : args = #[v0, v1] := by cases args; simp_all
  obtain ⟨rfl, rfl⟩ := trodVars_none hV
  have lt0 : ∀ x ∈ p0, x.block < W.heap.size := by obtain ⟨m, hm⟩ := h0; exact DataW.trod_lt m _ _ _ hm
  have lt1 : ∀ x ∈ p1, x.block < W.heap.size := by obtain ⟨m, hm⟩ := h1; exact DataW.trod_lt m _ _ _ hm
  have hk : Rows.uptoBulkAll [d0, d1] ≤ 1048576 := of_decide_eq_true hk0
  clear hA0 hval0
  refine (walk_CodecItems enc W base (hval 0 46 v0 rfl rfl) h0 (hval 1 25 v1 rfl rfl) h1 hk).mono fun e W' ⟨he, bel⟩ => ?_
  subst he
  exact ⟨_, rfl, _, _, _, [], _, [], hW', trodAll_mk1 (shut_bool Try.underlying4 _), (trodAll_cons_mk (Below.trod laidOut (by kernel_rfl) (of_decide_eq_true (by kernel_rfl)) h0 bel lt0) (trodAll_cons_mk (Below.trod laidOut (by kernel_rfl) (of_decide_eq_true (by kernel_rfl)) h1 bel lt1) trodAll_mk0)), rfl, bel.frame _, fun h => by cases h⟩

theorem proved : Rows.CodecItemsUptoSaid :=
  OpenClaim.holds_of_cond 6 Try.f6 rfl rfl rfl rfl rfl rfl rfl ⟨rfl, rfl, rfl, rfl, rfl⟩ rfl rfl rfl rfl rfl (by kernel_rfl) Try.func6 (by kernel_rfl)
    (of_decide_eq_true (by kernel_rfl)) (by unfold Func.isWrapper; first | (rw [if_pos (by decide +kernel)]; kernel_rfl) | (rw [if_neg (by decide +kernel)]; exact ⟨rfl, rfl⟩))
    (fun os started H enc _ F => lifted os started H enc F)
end Go.Proofs.Ytlpbbcjmmhabfaa.codecItems
