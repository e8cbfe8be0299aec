/- DERIVED. Rows of the call's own: overwritten in place, cut, cleared. Plain theorems. · DERIVED. Chapter 25: slices.DeleteFunc over queries. -/
import Derived.Test.YtiednihagnehlaaY05
import Derived.Deep.MidRow
import Derived.Test.YtiednihagnehlaaY20
namespace Go.Proofs.Ytiednihagnehlaa
open Go.RowKit

/-- cells from o on are replaced -/
def putAt (cs : Array Value) (o : Nat) : List Value → Array Value
 | [] => cs
 | v :: r => putAt (cs.setIfInBounds o v) (o + 1) r
theorem putAt_heap {b : Nat} {t : TypeId} : ∀ (vs : List Value) (o : Nat) (w : World) (cs : Array Value), w.heap[b]? = some (.cells cs t (0, 0)) → (w.setCells b o vs).heap[b]? = some (.cells (putAt cs o vs) t (0, 0))
 | [], _, _, _, h => h
 | v :: r, o, w, _cs, h => putAt_heap r (o + 1) _ _ (heap_setCell_same w b o _ _ v h)
theorem putAt_keeps {b : Nat} : ∀ (vs : List Value) (o : Nat) (w a : World), Keeps (fun k => k = b) a w → Keeps (fun k => k = b) a (w.setCells b o vs)
 | [], _, _, _, h => h
 | v :: r, o, _w, _a, h => putAt_keeps r (o + 1) _ _ (h.setCell (fun _ => rfl) v)
theorem putAt_size : ∀ (vs : List Value) (o : Nat) (cs : Array Value), (putAt cs o vs).size = cs.size
 | [], _, _ => rfl
 | _ :: r, o, cs => by unfold putAt; rw [putAt_size r]; simp
theorem putAt_list (vs : List Value) : ∀ (o : Nat) (cs : Array Value), o + vs.length ≤ cs.size → (putAt cs o vs).toList = cs.toList.take o ++ vs ++ cs.toList.drop (o + vs.length) := by
 induction vs with
 | nil => intro o cs _; unfold putAt; simp
 | cons v r ih =>
  intro o cs h
  simp only [List.length_cons] at h
  unfold putAt
  rw [ih (o + 1) _ (by simp; omega)]
  simp only [Array.toList_setIfInBounds, List.length_cons]
  have h1 : (cs.toList.set o v).take (o + 1) = cs.toList.take o ++ [v] := by
   rw [List.take_succ_eq_append_getElem (by simp; omega), List.take_set_of_le (by omega)]
   simp
  have h2 : (cs.toList.set o v).drop (o + 1 + r.length) = cs.toList.drop (o + (r.length + 1)) := by
   rw [List.drop_set_of_lt (by omega)]
   congr 1
   omega
  rw [h1, h2]
  simp

section
variable {α : Type} {w w' : World} {B : Nat} {E : TypeId} {k : Nat} {enc : α → List Value} {v : Value} {L : List α}
theorem flat_take (hk : ∀ x, (enc x).length = k) : ∀ (L : List α) (i : Nat), (L.take i).flatMap enc = (L.flatMap enc).take (i * k)
 | [], i => by simp
 | x :: r, 0 => by simp
 | x :: r, i + 1 => by
  rw [List.take_succ_cons, List.flatMap_cons, List.flatMap_cons, flat_take hk r i, Nat.succ_mul, List.take_append, hk x]
  rw [List.take_of_length_le (l := enc x) (by rw [hk x]; omega), show i * k + k - k = i * k by omega]
theorem flat_drop (hk : ∀ x, (enc x).length = k) : ∀ (L : List α) (i : Nat), (L.drop i).flatMap enc = (L.flatMap enc).drop (i * k)
 | [], i => by simp
 | x :: r, 0 => by simp
 | x :: r, i + 1 => by
  rw [List.drop_succ_cons, List.flatMap_cons, flat_drop hk r i, Nat.succ_mul, List.drop_append, hk x]
  rw [List.drop_of_length_le (l := enc x) (by rw [hk x]; omega), show i * k + k - k = i * k by omega]
  rfl
/-- the row, taken apart: not nil -/
theorem OwnsR.row (h : OwnsR w B E k enc v L) (hv : v.ownBlock ≠ none) : ∃ g cap cur, v = .slice (some ⟨g, 0, none⟩) L.length cap ∧ B ≤ g ∧ w.heap[g]? = some (.cells cur E (0, 0)) ∧ L.length ≤ cap ∧ cap ≤ maxLen ∧ cur.size = cap * k ∧ cur.toList.take (L.length * k) = L.flatMap enc := by
 rcases h.2 with ⟨rfl, _⟩ | h
 ·exact absurd rfl hv
 ·exact h
/-- rows are replaced from the i-th on -/
theorem OwnsR.put {g cap : Nat} (hk : ∀ x, (enc x).length = k) (h : OwnsR w B E k enc (.slice (some ⟨g, 0, none⟩) L.length cap) L) (i : Nat) (M : List α) (hi : i + M.length ≤ L.length) :
  OwnsR (w.setCells g (i * k) (M.flatMap enc)) B E k enc (.slice (some ⟨g, 0, none⟩) L.length cap) (L.take i ++ M ++ L.drop (i + M.length)) := by
 obtain ⟨g', cap', cur, he, hb, hg, hn, hm, hs, ht⟩ := h.row (by simp [Value.ownBlock])
 simp only [Value.slice.injEq, Option.some.injEq, Addr.mk.injEq, and_true, true_and] at he
 obtain ⟨rfl, rfl⟩ := he
 have hlen : (L.take i ++ M ++ L.drop (i + M.length)).length = L.length := by simp; omega
 have hML : (M.flatMap enc).length = M.length * k := flat_len (fun x _ => hk x)
 have hle : i * k + M.length * k ≤ L.length * k := by rw [← Nat.add_mul]; exact Nat.mul_le_mul_right _ hi
 have hcap : L.length * k ≤ cap * k := Nat.mul_le_mul_right _ hn
 refine ⟨flat_len (fun x _ => hk x), .inr ⟨g, cap, _, by rw [hlen], hb, putAt_heap _ _ _ _ hg, by omega, hm, by rw [putAt_size]; exact hs, ?_⟩⟩
 rw [hlen, putAt_list _ _ _ (by rw [hML, hs]; omega), hML]
 rw [List.flatMap_append, List.flatMap_append, flat_take hk, flat_drop hk, ← ht]
 rw [List.take_append, List.take_append, List.take_take, List.drop_take]
 simp only [List.length_append, List.length_take, Array.length_toList, hs, hML]
 rw [show min (L.length * k) (i * k) = min (i * k) (L.length * k) by omega]
 rw [List.take_of_length_le (l := M.flatMap enc) (by rw [hML]; omega)]
 rw [List.take_take]
 rw [show min (i * k) (cap * k) = i * k by omega, ← Nat.add_mul]
theorem OwnsR.set {g cap : Nat} (hk : ∀ x, (enc x).length = k) (h : OwnsR w B E k enc (.slice (some ⟨g, 0, none⟩) L.length cap) L) (i : Nat) (x : α) (hi : i < L.length) :
  OwnsR (w.setCells g (i * k) (enc x)) B E k enc (.slice (some ⟨g, 0, none⟩) L.length cap) (L.set i x) := by
 have := h.put hk i [x] (by simp; omega)
 simp only [List.flatMap_cons, List.flatMap_nil, List.append_nil, List.length_cons, List.length_nil, Nat.zero_add] at this
 rw [show L.set i x = L.take i ++ [x] ++ L.drop (i + 1) by rw [List.set_eq_take_append_cons_drop, if_pos hi]; simp]
 exact this
/-- the slice is cut -/
theorem OwnsR.cut {p : Option Addr} {n cap : Nat} (hk : ∀ x, (enc x).length = k) (h : OwnsR w B E k enc (.slice p n cap) L) (i : Nat) (hi : i ≤ L.length) (hp : p ≠ none) : OwnsR w B E k enc (.slice p i cap) (L.take i) := by
 obtain ⟨g, cap', cur, he, hb, hg, hn, hm, hs, ht⟩ := h.row (by cases p <;> simp_all [Value.ownBlock])
 simp only [Value.slice.injEq] at he
 obtain ⟨rfl, rfl, rfl⟩ := he
 have hlen : (L.take i).length = i := by simp; omega
 have hle : i * k ≤ L.length * k := Nat.mul_le_mul_right _ hi
 refine ⟨flat_len (fun x _ => hk x), .inr ⟨g, cap, cur, by rw [hlen], hb, hg, by omega, hm, hs, ?_⟩⟩
 rw [hlen, flat_take hk, ← ht, List.take_take, show min (i * k) (L.length * k) = i * k by omega]
/-- what is there may be written -/
theorem OwnsR.there {g cap : Nat} (h : OwnsR w B E k enc (.slice (some ⟨g, 0, none⟩) L.length cap) L) (o n : Nat) (hn : o + n ≤ L.length * k) : w.there g o n := by
 obtain ⟨g', cap', cur, he, hb, hg, hn', hm, hs, ht⟩ := h.row (by simp [Value.ownBlock])
 simp only [Value.slice.injEq, Option.some.injEq, Addr.mk.injEq, and_true, true_and] at he
 obtain ⟨rfl, rfl⟩ := he
 have hcap : L.length * k ≤ cap * k := Nat.mul_le_mul_right _ hn'
 intro j hj
 have : o + j < cur.size := by omega
 constructor
 ·simp [World.cell?, hg, this]
 ·simp [World.frozen?, hg]
/-- a row is stored -/
theorem OwnsR.store {P : Program} {g cap : Nat} (h : OwnsR w B E k enc (.slice (some ⟨g, 0, none⟩) L.length cap) L) (i : Nat) (cells : Array Value) (hc : cells.size = k) (hi : i < L.length) (hz : (P.info? E).map (·.size) = some k) (h1 : cells.all (·.oneCell') = true) :
  (storeVar E ⟨g, i * k, none⟩ (.agg cells)).run P w = .ok () (w.setCells g (i * k) cells.toList) :=
 run_storeVar_mid w g (i * k) E cells (h.there _ _ (by rw [hc]; have := Nat.mul_le_mul_right k (show i + 1 ≤ L.length by omega); rw [Nat.succ_mul] at this; exact this)) (by rw [hc]; exact hz) h1
theorem zeroCells_flat (hk : ∀ x, (enc x).length = k) (hpos : 0 < k) (z : α) (zc : Array Value) (hz : zc.toList = enc z) (n : Nat) : (Builtin.zeroCells zc n).toList = (List.replicate n z).flatMap enc := by
 have hs : zc.size = k := by rw [← Array.length_toList, hz, hk]
 have hlen : ((List.replicate n z).flatMap enc).length = n * k := by rw [flat_len (fun x _ => hk x), List.length_replicate]
 apply List.ext_getElem?
 intro m
 by_cases hm : m < n * k
 ·have hq : m / k < n := (Nat.div_lt_iff_lt_mul hpos).2 hm
  have hr := Nat.mod_lt m hpos
  have := flat_at hk (List.replicate n z) (m / k) z (by simp [hq]) (m % k) hr
  rw [Nat.mul_comm, Nat.div_add_mod] at this
  rw [this, ← hz]
  have hr' : m % k < zc.size := by omega
  simp [Builtin.zeroCells, hs, hm]
  rw [getElem!_pos zc _ hr', Array.getElem?_eq_getElem hr']
 ·rw [List.getElem?_eq_none (l := (Builtin.zeroCells zc n).toList) (by simp [Builtin.zeroCells, hs]; omega), List.getElem?_eq_none (by rw [hlen]; omega)]
/-- clear(s[i:]) of a row of the call's own -/
theorem OwnsR.clear {P : Program} {g cap : Nat} {T ty : TypeId} {zv : Value} (hk : ∀ x, (enc x).length = k) (hpos : 0 < k) (h : OwnsR w B E k enc (.slice (some ⟨g, 0, none⟩) L.length cap) L) (i : Nat) (hi : i < L.length) (c : Nat)
  (ht : P.underlying T = some (.slice E)) (hv : ∀ w, (zeroValue E).run P w = .ok zv w) (z : α) (hz : zv.cells.toList = enc z) (h1 : ∀ v ∈ enc z, v.oneCell' = true) :
  (Builtin.clear_ #[T] ty #[.slice (some ⟨g, i * k, none⟩) (L.length - i) c]).run P w = .ok (.tuple #[]) (w.setCells g (i * k) ((List.replicate (L.length - i) z).flatMap enc)) := by
 have hzc := zeroCells_flat (k := k) hk hpos z zv.cells hz (L.length - i)
 have hlen : ((List.replicate (L.length - i) z).flatMap enc).length = (L.length - i) * k := by rw [flat_len (fun x _ => hk x), List.length_replicate]
 have hth := h.there (i * k) ((L.length - i) * k) (by rw [← Nat.add_mul]; exact Nat.mul_le_mul_right _ (by omega))
 have hst := run_storeCells_cells (P := P) g (i * k) ((List.replicate (L.length - i) z).flatMap enc) 0 w (fun j hj => by simpa using (hth j (by omega)).1) (fun j hj => by simpa using (hth j (by omega)).2)
  (by intro u hu; obtain ⟨y, hy, hu⟩ := List.mem_flatMap.1 hu; rw [List.eq_of_mem_replicate hy] at hu; exact h1 u hu)
 simp only [Nat.add_zero] at hst
 obtain ⟨m, hm⟩ : ∃ m, L.length - i = m + 1 := ⟨L.length - i - 1, by omega⟩
 rw [hm] at hzc hst ⊢
 simp [Builtin.clear_, run_underlying ht, hv, hzc, hst]
theorem flat_set (hk : ∀ x, (enc x).length = k) {x' : α} {j : Nat} {u : Value} (hj : j < k) : ∀ (L : List α) (i : Nat) (x : α), L[i]? = some x → enc x' = (enc x).set j u → (L.flatMap enc).set (i * k + j) u = (L.set i x').flatMap enc
 | [], _, _, h, _ => by cases h
 | y :: r, 0, x, h, he => by
  simp only [List.getElem?_cons_zero, Option.some.injEq] at h
  subst h
  rw [List.set_cons_zero, List.flatMap_cons, List.flatMap_cons, he, Nat.zero_mul, Nat.zero_add, List.set_append_left _ _ (by rw [hk]; exact hj)]
 | y :: r, i + 1, x, h, he => by
  simp only [List.getElem?_cons_succ] at h
  rw [List.set_cons_succ, List.flatMap_cons, List.flatMap_cons, ← flat_set hk hj r i x h he, List.set_append_right _ _ (by rw [hk, Nat.succ_mul]; omega), hk, show (i + 1) * k + j - k = i * k + j by rw [Nat.succ_mul]; omega]
/-- one cell of a row is stored -/
theorem OwnsR.setOne {g cap : Nat} (hk : ∀ x, (enc x).length = k) (h : OwnsR w B E k enc (.slice (some ⟨g, 0, none⟩) L.length cap) L) (i j : Nat) (x x' : α) (u : Value) (hj : j < k) (hx : L[i]? = some x) (he : enc x' = (enc x).set j u) :
  OwnsR (w.setCell ⟨g, i * k + j, none⟩ u) B E k enc (.slice (some ⟨g, 0, none⟩) L.length cap) (L.set i x') := by
 obtain ⟨g', cap', cur, e, hb, hg, hn, hm, hs, ht⟩ := h.row (by simp [Value.ownBlock])
 simp only [Value.slice.injEq, Option.some.injEq, Addr.mk.injEq, and_true, true_and] at e
 obtain ⟨rfl, rfl⟩ := e
 refine ⟨by rw [flat_len (fun x _ => hk x), List.length_set], .inr ⟨g, cap, _, by rw [List.length_set], hb, heap_setCell_same w g _ _ _ u hg, by rw [List.length_set]; exact hn, hm, by simpa using hs, ?_⟩⟩
 rw [List.length_set, ← flat_set hk hj L i x hx he, ← ht, Array.toList_setIfInBounds, List.take_set]
end
end Go.Proofs.Ytiednihagnehlaa

namespace Go.Proofs.Ytiednihagnehlaa
open Go.RowKit

theorem Try.infoQ : (Try.prog.info? 87).map (·.size) = some 19 := by kernel_rfl
def zeroQ : Qy := ⟨0, zeroMs⟩
theorem zero_q (w : World) : (zeroValue 87).run Try.prog w = .ok (.agg zeroQ.cells.toArray) w := by kernel_rfl
theorem zeroQ_one : ∀ v ∈ zeroQ.cells, v.oneCell' = true := by simp [zeroQ, Qy.cells, Ms.cells, zeroMs, Value.oneCell']
theorem store_q {w : World} {mb : Nat} {t : TypeId} {y : Qy} (h : w.heap[mb]? = some (.cells y.cells.toArray t (0, 0))) (x : Qy) (h1 : x.cells.toArray.all (·.oneCell') = true) :
  ∃ w', (storeVar 87 ⟨mb, 0, none⟩ (.agg x.cells.toArray)).run Try.prog w = .ok () w' ∧ w'.heap[mb]? = some (.cells x.cells.toArray t (0, 0)) ∧ Keeps (fun k => k = mb) w w' :=
 store_cells h _ (by simp [Qy.len]) (by simp only [List.size_toArray, Qy.len]; exact Try.infoQ) h1 (putRange_whole (by simp [Qy.len]))
theorem load_qat {w : World} {b : Nat} {x : Qy} {t : TypeId} (h : w.heap[b]? = some (.cells x.cells.toArray t (0, 0))) : (loadVar 87 ⟨b, 0, none⟩).run Try.prog w = .ok (.agg x.cells.toArray) w :=
 load_q (fun i u hu => by
  have : x.cells.toArray[i]? = some u := by simpa using hu
  simp only [World.cell?, Nat.zero_add]
  rw [h]
  simpa using this)
theorem filter_take {pr : Qy → Bool} {L : List Qy} {j : Nat} {x : Qy} (hx : L[j]? = some x) : (L.take (j + 1)).filter (fun y => !pr y) = (L.take j).filter (fun y => !pr y) ++ if pr x then [] else [x] := by
 rw [List.take_add_one, hx, List.filter_append]
 cases h : pr x <;> simp [h]
theorem filter_first {pr : Qy → Bool} {L : List Qy} (h : L.any pr = true) : L.findIdx pr < L.length ∧ (L.take (L.findIdx pr + 1)).filter (fun y => !pr y) = L.take (L.findIdx pr) := by
 obtain ⟨x, hx, hp⟩ := List.any_eq_true.1 h
 have hlt : L.findIdx pr < L.length := List.findIdx_lt_length_of_exists ⟨x, hx, hp⟩
 refine ⟨hlt, ?_⟩
 have hxk : L[L.findIdx pr]? = some L[L.findIdx pr] := List.getElem?_eq_getElem hlt
 rw [filter_take hxk, if_pos List.findIdx_getElem, List.append_nil, List.filter_eq_self]
 intro y hy
 obtain ⟨j, hj, rfl⟩ := List.mem_take_iff_getElem.1 hy
 have := List.not_of_lt_findIdx (p := pr) (xs := L) (i := j) (by omega)
 simpa using this

attribute [-go_sem] loadVar storeVar
set_option maxRecDepth 100000 in
set_option maxHeartbeats 1000000 in
theorem delete_q (g : FuncId) (cap : Array Value) (pr : Qy → Bool) (v : Value) (L : List Qy) (B : Nat) (w : World) (h : OwnsQ w B v L) (hone : ∀ x ∈ L, x.cells.toArray.all (·.oneCell') = true)
  (hent : ∀ (args : Array Value) (w : World), (callFunc g args).run Try.prog w = .ok (.enter g args) w)
  (hc : ∀ x ∈ L, ∀ W, Keeps (fun k => v.ownBlock = some k) w W → Calls Try.prog g (#[.agg x.cells.toArray] ++ cap) W fun e W' => e = .returned (.bool (pr x)) ∧ Old W W') :
  Calls Try.prog 62 #[v, .func (.func g) #[] cap] w fun e w' => ∃ p n c, e = .returned (.slice p n c) ∧ OwnsQ w' B (.slice p n c) (L.filter fun y => !pr y) ∧ (Value.slice p n c).ownBlock = v.ownBlock ∧ Keeps (fun k => v.ownBlock = some k) w w' := by
 have hsee := h.sees Qy.len (by decide)
 have C := Lib.hid (index_q g cap pr v L w hsee hent (fun x hx W hW => hc x hx W (hW.weaken (fun _ _ f => f.elim))))
 obtain ⟨p0, c0, hv, hle, hmx⟩ := hsee.len
 have hm : L.length ≤ 9223372036854775807 := by unfold maxLen at hmx; omega
 by_cases ha : L.any pr = true
 case neg =>
  have hf : (L.filter fun y => !pr y) = L := by
   rw [List.filter_eq_self]
   intro y hy
   simp only [List.any_eq_true, not_exists, not_and] at ha
   simpa using ha y hy
  have hix : ixQ pr L = -1 := by unfold ixQ; rw [if_neg ha]
  rw [hix] at C
  rw [hf]
  have H := Lib.hid h
  subst hv
  clear h hsee hc hone hent ha hf hix hle hmx
  go_enter Try.func62, Try.ntmps62
  go_wp2_with fail
  refine C.out.mono ?_
  rintro e w1 ⟨rfl, k1⟩
  have K1 := Lib.hid k1
  clear k1
  go_wp2_with fail
  go_ret
  exact ⟨_, _, _, rfl, H.out.old K1.out, rfl, K1.out.weaken (fun _ _ f => f.elim)⟩
 case pos =>
  have hix : ixQ pr L = ((L.findIdx pr : Nat) : Int) := by unfold ixQ; rw [if_pos ha]
  obtain ⟨hlt0, hff⟩ := filter_first ha
  obtain ⟨g0, cap0, cur, rfl, hb, hgg, hn, hmc, _, _⟩ := h.row (by
   rcases h.2 with ⟨_, h0⟩ | ⟨g, cap, cur, rfl, _⟩
   ·omega
   ·simp [Value.ownBlock])
  have hg0 : g0 < w.heap.size := (Array.getElem?_eq_some_iff.1 hgg).1
  rw [hix] at C
  generalize L.findIdx pr = i0 at hlt0 hff C
  have hsl1 : ∀ (i : Nat) (W : World), i < L.length → (Instr.slice 80 (.slice (some ⟨g0, 0, none⟩) L.length cap0) (some (.int .i64 (i : Int))) none none).run Try.prog W = .ok (.slice (some ⟨g0, i * 19, none⟩) (L.length - i) (cap0 - i)) W := by
   intro i W hi
   have h1 : (i : Int) ≤ (L.length : Int) := by omega
   have h2 : ¬ cap0 = i := by omega
   simp [go_sem, h1, Go.sliced, h2]
  have hsl2 : ∀ (i : Nat) (W : World), i < L.length → (Instr.slice 80 (.slice (some ⟨g0, 0, none⟩) L.length cap0) none (some (.int .i64 (i : Int))) none).run Try.prog W = .ok (.slice (some ⟨g0, 0, none⟩) i cap0) W := by
   intro i W hi
   have h1 : (i : Int) ≤ (cap0 : Int) := by omega
   simp [go_sem, h1, Go.sliced]
  have hne : (((i0 : Nat) : Int) == -1) = false := by simp
  have H := Lib.hid (And.intro h (And.intro hone (And.intro hc (And.intro hg0 (And.intro hsl1 (And.intro hsl2 hff))))))
  have HE := Lib.hid hent
  clear h hsee hc hone hent ha hff hix hle hmx hsl1 hsl2 hgg hv hg0
  go_enter Try.func62, Try.ntmps62
  go_wp2_with fail
  refine C.out.mono ?_
  rintro e w1 ⟨rfl, k1⟩
  have K1 := Lib.hid k1
  clear k1
  go_wp2_with fail
  go_loopw [5, 6] (fun v5 v6 wr => ∃ (i j : Nat) (L' : List Qy), v5 = .int .i64 i ∧ v6 = .int .i64 j ∧ i < j ∧ j ≤ L.length ∧ L'.length = L.length ∧ L'.take i = (L.take j).filter (fun y => !pr y) ∧ L'.drop j = L.drop j ∧
   OwnsQ wr B (.slice (some ⟨g0, 0, none⟩) L'.length cap0) L' ∧ Keeps (fun k => k = g0) w wr) (fun _ v6 _ => L.length - (intOf v6).toNat)
  case atStart => exact ⟨i0, i0 + 1, L, rfl, by go_num, by omega, by omega, rfl, H.out.2.2.2.2.2.2.symm, rfl, H.out.1.old K1.out, K1.out.weaken (fun _ _ f => f.elim)⟩
  case round =>
   obtain ⟨i, j, L', rfl, rfl, hij, hj, hl', ht, hd, ho, hk⟩ := hrel
   have R := Lib.hid (And.intro ht (And.intro hd (And.intro ho hk)))
   clear ht hd ho hk
   by_cases hlt : j < L.length
   ·have hx : L'[j]? = some L'[j] := List.getElem?_eq_getElem (by omega)
    generalize L'[j] = x at hx
    have hx0 : L[j]? = some x := by
     have := congrArg (·[0]?) R.out.2.1
     simpa [hx] using this.symm
    have lq := load_q (w := wr) (b := g0) (o := j * 19) (x := x) (fun i u hu => by
     obtain ⟨_, _, _, e, _, _, hcell⟩ := (R.out.2.2.1.sees Qy.len (by decide)).at (by omega)
     simp only [Value.slice.injEq, Option.some.injEq, Addr.mk.injEq, and_true, true_and] at e
     obtain ⟨⟨rfl, rfl⟩, _⟩ := e
     simpa using hcell j x hx i u hu)
    have hxm : x ∈ L := List.mem_of_getElem? hx0
    have h1 := H.out.2.1 x hxm
    obtain ⟨Wa, hWa⟩ : ∃ W, wr.alloc (.cells zeroQ.cells.toArray 87) = W := ⟨_, rfl⟩
    have ba : QAt Wa wr.heap.size zeroQ := by rw [← hWa]; exact heap_alloc_new _ _
    have oa : Old wr Wa := by rw [← hWa]; exact (Keeps.refl _ _).alloc _
    obtain ⟨W2, hst, b2, kb⟩ := store_q ba x h1
    have o2 : Old wr W2 := oa.then kb (fun i hi e => by omega)
    have l2 := load_qat b2
    change wr.alloc (.cells #[.int .i64 0, .int .i64 0, .int .i64 0, .int .u64 0, .bool false, .slice none 0 0, .int .u64 0, .int .u64 0, .string ⟨#[]⟩, .slice none 0 0, .int .i64 0, .int .u64 0, .int .u64 0, .int .u64 0, .int .u64 0, .int .u64 0, .slice none 0 0, .slice none 0 0, .bool false] 87) = Wa at hWa
    have k2 := R.out.2.2.2.then o2 (fun _ _ f => f.elim)
    have N := H.out.2.2.1 x hxm W2 (k2.weaken (fun _ _ e => by subst e; rfl))
    have he := HE.out (#[.agg x.cells.toArray] ++ cap)
    have hG : g0 ≠ wr.heap.size := by have := lt_of_heap b2; have := R.out.2.2.2.size; have := H.out.2.2.2.1; omega
    have X := Lib.hid (And.intro hx (And.intro hx0 (And.intro b2 (And.intro k2 (And.intro (R.out.2.2.1.old o2) (And.intro h1 hG))))))
    clear hx hx0 b2 k2 ba oa kb o2 h1 hxm hG
    cases hg : pr x
    ·rw [hg] at N
     have HN := Lib.hid N
     have HG := Lib.hid hg
     clear N hg
     go_wp2_with fail
     refine HN.out.mono ?_
     rintro e w3 ⟨rfl, k3⟩
     have b3 := (k3.block _ (lt_of_heap X.out.2.2.1) (fun f => f)).trans X.out.2.2.1
     have l3 := load_qat b3
     have o3 := X.out.2.2.2.2.1.old k3
     have st3 := o3.store (P := Try.prog) i x.cells.toArray (by simp [Qy.len]) (by omega) Try.infoQ X.out.2.2.2.2.2.1
     obtain ⟨W4, hW4⟩ : ∃ W, w3.setCells g0 (i * 19) x.cells.toArray.toList = W := ⟨_, rfl⟩
     have o4 := o3.set Qy.len i x (by omega)
     have k4 : Keeps (fun k => k = g0) w W4 := by
      rw [← hW4]
      exact (X.out.2.2.2.1.then k3 (fun _ _ f => f.elim)).trans (putAt_keeps _ _ _ _ (Keeps.refl _ _))
     have hW4' : w3.setCells g0 (i * 19) x.cells = W4 := by rw [← hW4]
     rw [hW4'] at o4
     rw [hW4] at st3
     have K4 := Lib.hid (And.intro o4 k4)
     clear k3 b3 o3 o4 k4 hW4 hW4' l2
     go_wp2_with fail
     go_roundw
     case rel => exact ⟨i + 1, j + 1, L'.set i x, by go_num, by go_num, by omega, by omega, by simp [hl'], by rw [filter_take X.out.2.1, HG.out, ← R.out.1, List.take_succ_eq_append_getElem (by simp; omega), List.take_set_of_le (by omega)]; simp, by rw [List.drop_set_of_lt (by omega), ← List.drop_drop, R.out.2.1, List.drop_drop], by rw [List.length_set]; exact K4.out.1, K4.out.2⟩
     case measure => simp [intOf]; omega
    ·rw [hg] at N
     have HN := Lib.hid N
     have HG := Lib.hid hg
     clear N hg
     go_wp2_with fail
     refine HN.out.mono ?_
     rintro e w3 ⟨rfl, k3⟩
     have K3 := Lib.hid k3
     clear k3
     go_wp2_with fail
     go_roundw
     case rel => exact ⟨i, j + 1, L', rfl, by go_num, by omega, by omega, hl', by rw [filter_take X.out.2.1, HG.out, R.out.1]; simp, by rw [← List.drop_drop, R.out.2.1, List.drop_drop], X.out.2.2.2.2.1.old K3.out, X.out.2.2.2.1.then K3.out (fun _ _ f => f.elim)⟩
     case measure => simp [intOf]; omega
   ·have hji : j = L.length := by omega
    subst hji
    have hcl := fun ty => R.out.2.2.1.clear (P := Try.prog) (T := 80) (ty := ty) Qy.len (by decide) i (by omega) (cap0 - i) Try.underlying80 zero_q zeroQ rfl zeroQ_one
    have o5 := R.out.2.2.1.put Qy.len i (List.replicate (L'.length - i) zeroQ) (by simp; omega)
    obtain ⟨W5, hW5⟩ : ∃ W, wr.setCells g0 (i * 19) ((List.replicate (L'.length - i) zeroQ).flatMap Qy.cells) = W := ⟨_, rfl⟩
    have k5 : Keeps (fun k => k = g0) w W5 := by
     rw [← hW5]
     exact R.out.2.2.2.trans (putAt_keeps _ _ _ _ (Keeps.refl _ _))
    rw [hW5] at o5 hcl
    rw [hl'] at hcl
    have hs1 := fun W => H.out.2.2.2.2.1 i W (by omega)
    have hs2 := fun W => H.out.2.2.2.2.2.1 i W (by omega)
    have lenL : (L'.take i ++ List.replicate (L'.length - i) zeroQ ++ L'.drop (i + (List.replicate (L'.length - i) zeroQ).length)).length = L'.length := by simp; omega
    have o6 : OwnsQ W5 B (.slice (some ⟨g0, 0, none⟩) i cap0) (L.filter fun y => !pr y) := by
     have := (show OwnsQ W5 B (.slice (some ⟨g0, 0, none⟩) L'.length cap0) _ from o5).cut Qy.len i (by rw [lenL]; omega) (by simp)
     have e : (L'.take i ++ List.replicate (L'.length - i) zeroQ ++ L'.drop (i + (List.replicate (L'.length - i) zeroQ).length)).take i = L.filter fun y => !pr y := by
      rw [List.append_assoc, List.take_append_of_le_length (by simp; omega), List.take_take, Nat.min_self, R.out.1, List.take_of_length_le (Nat.le_refl _)]
     rw [e] at this
     exact this
    have K6 := Lib.hid (And.intro o6 k5)
    clear o5 o6 k5 hW5 lenL
    go_wp2_with fail
    go_ret
    exact ⟨_, _, _, rfl, K6.out.1, rfl, K6.out.2.weaken (fun _ _ e => by subst e; rfl)⟩
end Go.Proofs.Ytiednihagnehlaa
