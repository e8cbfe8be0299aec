/- DERIVED. A region that draws its order: loads are taken first where nobody but operations that wait for them writes their cells. Plain theorems over any program. · DERIVED. Chapter 03: bytes.Repeat of one byte, nine or ten times. · DERIVED. Chapter 03: the readers' methods at no reader at all, and at an empty one; an append that grows. -/
import Derived.Test.YtplcnceacbpjhaaY01
import Derived.Deep.RegionHeld3
import Derived.Test.YtplcnceacbpjhaaY03
import Derived.Lib.MakeNoZero
import Derived.Laws.CopyOwn
import Derived.Lib.MinMax
import Derived.Deep.RegionLaw
import Derived.Deep.LoopGhost
import Derived.Great.Walk
import Derived.Deep.DeepCutAuto
import Derived.Test.YtplcnceacbpjhaaY04
import Derived.ArgAppend
namespace Go.Proofs.Ytplcnceacbpjhaa
open Go.RowKit

section
variable {P : Program} {ops : Array Oper} {Q : Exit → Act → World → Prop} {md : Region.Mode} {S : World → Prop} {M : List Nat}

/-- whatever order is picked from here on; behind every operation of M the condition S holds -/
def wpAnyG (P : Program) (md : Region.Mode) (ops : Array Oper) (Q : Exit → Act → World → Prop) (S : World → Prop) (M : List Nat) : Nat → Array Bool → Act → World → Prop
 | 0, listed, a, w => Region.ready md ops listed = [] ∧ Q .normal a w
 | fuel + 1, listed, a, w =>
  (Region.ready md ops listed = [] → Q .normal a w) ∧
  ∀ i ∈ Region.ready md ops listed, wpOp P ops Q i (fun a' w' => (M.contains i = true → S w') ∧ wpAnyG P md ops Q S M fuel (listed.setIfInBounds i true) a' w') a w
theorem wpAny_of_g : ∀ (fuel : Nat) (listed : Array Bool) (a : Act) (w : World), wpAnyG P md ops Q S M fuel listed a w → wpAny P md ops Q fuel listed a w
 | 0, _, _, _, h => h
 | fuel + 1, _, _, _, h => ⟨h.1, fun i hi => wpOp_mono (fun a' w' h' => wpAny_of_g fuel _ a' w' h'.2) (h.2 i hi)⟩

/-- those that are not in M wait for i -/
def othersWait (md : Region.Mode) (ops : Array Oper) (M : List Nat) (i : Nat) : Bool :=
 (List.range ops.size).all fun j => M.contains j || (j == i || match ops[j]? with | some o => o.after.any (fun e => Region.binds md e && e.on == i) | none => true)
theorem othersWait_spec {i j : Nat} {o : Oper} (h : othersWait md ops M i = true) (ho : ops[j]? = some o) (hj : M.contains j = false) (hne : j ≠ i) : ∃ e ∈ o.after, Region.binds md e = true ∧ e.on = i := by
 unfold othersWait at h
 rw [List.all_eq_true] at h
 have := h j (by rw [List.mem_range]; exact (Array.getElem?_eq_some_iff.1 ho).1)
 rw [hj, ho] at this
 have hb : (j == i) = false := by simp [hne]
 rw [hb] at this
 simp only [Bool.false_or] at this
 obtain ⟨e, he, hb⟩ := Array.any_eq_true'.1 this
 simp only [Bool.and_eq_true, beq_iff_eq] at hb
 exact ⟨e, he, hb.1, hb.2⟩

theorem wpAnyG_first {i : Nat} {oi : Oper} {v : Value} (hi : ops[i]? = some oi) (hsel : ∀ (j : Nat) (o : Oper) cs b, ops[j]? = some o → o.op ≠ .select cs b)
  (hM : othersWait md ops M i = true)
  (hQ : ∀ c a w, Q (.panic c) (a.put oi.dst v) w → Q (.panic c) a w) :
  ∀ (fuel : Nat) (listed : Array Bool) (a : Act) (w : World),
   (∀ j oj, ops[j]? = some oj → j ≠ i → listed.getD j true = false → (∀ e ∈ oj.after, Region.binds md e = true → e.on ≠ i) → oi.apart ops oj = true) →
   i ∈ Region.ready md ops listed → YieldsIf P ops S oi v a → S w →
   wpAnyG P md ops Q S M fuel (listed.setIfInBounds i true) (a.put oi.dst v) w → wpAnyG P md ops Q S M (fuel + 1) listed a w := by
 intro fuel
 induction fuel with
 | zero =>
  intro listed a w _ hr hy hS H
  refine ⟨fun h => (by rw [h] at hr; cases hr), fun j hj => ?_⟩
  by_cases hji : j = i
  ·subst hji; exact hy.wpOp hi hS ⟨fun _ => hS, H⟩
  ·have := ready_mono hj hji
   rw [H.1] at this
   cases this
 | succ fuel ih =>
  intro listed a w hfree hr hy hS H
  refine ⟨fun h => (by rw [h] at hr; cases hr), fun j hj => ?_⟩
  by_cases hji : j = i
  ·subst hji; exact hy.wpOp hi hS ⟨fun _ => hS, H⟩
  ·have h1 := H.2 j (ready_mono hj hji)
   obtain ⟨hjun, oj, hoj, hall⟩ := mem_ready.1 hj
   have hnot : ∀ e ∈ oj.after, Region.binds md e = true → e.on ≠ i := fun e he hb heq => by
    have h1 := hall e he hb
    have h0 := (mem_ready.1 hr).1
    rw [heq] at h1
    rcases Nat.lt_or_ge i listed.size with h' | h'
    ·simp [h'] at h0 h1; rw [h0] at h1; cases h1
    ·simp [Array.getElem?_eq_none h'] at h1
   have hjM : M.contains j = true := by
    cases hc : M.contains j with
    | true => rfl
    | false =>
     obtain ⟨e, he, hb, hon⟩ := othersWait_spec hM hoj hc hji
     exact absurd hon (hnot e he hb)
   have h2 := wpOp_putIf hoj (hfree j oj hoj hji hjun hnot) (fun cs b => hsel i oi cs b hi) (fun cs b => hsel j oj cs b hoj) hQ hy h1
   have hfree' : ∀ k ok, ops[k]? = some ok → k ≠ i → (listed.setIfInBounds j true).getD k true = false →
     (∀ e ∈ ok.after, Region.binds md e = true → e.on ≠ i) → oi.apart ops ok = true := fun k ok hk hki hun hno => by
    refine hfree k ok hk hki ?_ hno
    by_cases hjk : j = k
    ·subst hjk; exact hjun
    ·rw [getD_set_ne true hjk] at hun; exact hun
   refine wpOp_mono (fun a' w' h3 => ⟨h3.2.1, ih (listed.setIfInBounds j true) a' w' hfree' (ready_mono hr (Ne.symm hji)) h3.1 (h3.2.1 hjM) ?_⟩) h2
   rw [Array.setIfInBounds_comm _ _ hji]
   exact h3.2.2

theorem wpAnyG_take {i : Nat} {oi : Oper} {v : Value} {fuel : Nat} {listed : Array Bool} {a : Act} {w : World} (hi : ops[i]? = some oi)
  (hs : Region.noSelect ops = true) (hf : Region.free md ops listed i = true) (hr : (Region.ready md ops listed).contains i = true) (hM : othersWait md ops M i = true)
  (hQ : ∀ c a w, Q (.panic c) (a.put oi.dst v) w → Q (.panic c) a w) (hy : YieldsIf P ops S oi v a) (hS : S w)
  (h : wpAnyG P md ops Q S M fuel (listed.setIfInBounds i true) (a.put oi.dst v) w) : wpAnyG P md ops Q S M (fuel + 1) listed a w :=
 wpAnyG_first hi (Region.noSelect_spec hs) hM hQ fuel listed a w (Region.free_spec hi hf) (by simpa using hr) hy hS h
theorem wpAnyG_done {listed : Array Bool} {a : Act} {w : World} (hr : Region.ready md ops listed = []) (h : Q .normal a w) :
  ∀ fuel, wpAnyG P md ops Q S M fuel listed a w
 | 0 => ⟨hr, h⟩
 | _ + 1 => ⟨fun _ => h, by rw [hr]; simp⟩
theorem wp_region_g {id : Nat} {a : Act} {w : World} (hm : P.follows .mixedOrders = true) (h : wpAnyG P .any ops Q S M ops.size (Array.replicate ops.size false) a w.drew) : (Code.region id ops true).wp P Q a w :=
 wp_region_any hm (wpAny_of_g _ _ _ _ h)
def AllReadyG (P : Program) (md : Region.Mode) (ops : Array Oper) (Q : Exit → Act → World → Prop) (S : World → Prop) (M : List Nat) (fuel : Nat) (listed : Array Bool) (a : Act) (w : World) (rs : List Nat) : Prop :=
 ∀ i ∈ rs, wpOp P ops Q i (fun a' w' => (M.contains i = true → S w') ∧ wpAnyG P md ops Q S M fuel (listed.setIfInBounds i true) a' w') a w
theorem AllReadyG.nil {fuel : Nat} {listed : Array Bool} {a : Act} {w : World} : AllReadyG P md ops Q S M fuel listed a w [] := fun _ h => by cases h
theorem wpAnyG_ready {rs : List Nat} {fuel : Nat} {listed : Array Bool} {a : Act} {w : World} (hr : Region.ready md ops listed = rs) (hne : rs ≠ [])
  (h : AllReadyG P md ops Q S M fuel listed a w rs) : wpAnyG P md ops Q S M (fuel + 1) listed a w :=
 ⟨fun h0 => absurd (hr ▸ h0) hne, hr ▸ h⟩
theorem AllReadyG.cons {fuel : Nat} {listed : Array Bool} {a : Act} {w : World} {i : Nat} {o : Oper} {rs : List Nat} (ho : ops[i]? = some o)
  (h : ∀ K' : Act → World → Prop, Shut (∀ a w, (M.contains i = true → S w) → wpAnyG P md ops Q S M fuel (listed.setIfInBounds i true) a w → K' a w) → if Region.wanted o (yielded ops a.tmps) = true then Oper.wp P o a w K' Q else K' (a.put o.dst undef) w)
  (hs : AllReadyG P md ops Q S M fuel listed a w rs) : AllReadyG P md ops Q S M fuel listed a w (i :: rs) := fun j hj => by
 rcases List.mem_cons.1 hj with rfl | hj
 ·exact wpOp_step ho (fun K' hK => h K' (fun a w hS hW => hK a w ⟨hS, hW⟩))
 ·exact hs j hj
/-- one operation alone may come up -/
theorem wpAnyG_only {fuel : Nat} {listed : Array Bool} {a : Act} {w : World} {i : Nat} {o : Oper} (hr : Region.ready md ops listed = [i]) (ho : ops[i]? = some o)
  (h : ∀ K' : Act → World → Prop, Shut (∀ a w, (M.contains i = true → S w) → wpAnyG P md ops Q S M fuel (listed.setIfInBounds i true) a w → K' a w) → if Region.wanted o (yielded ops a.tmps) = true then Oper.wp P o a w K' Q else K' (a.put o.dst undef) w) :
  wpAnyG P md ops Q S M (fuel + 1) listed a w := wpAnyG_ready hr (by simp) (AllReadyG.cons ho h AllReadyG.nil)
theorem wpAnyG_takeL {i : Nat} {oi : Oper} {v : Value} {fuel : Nat} {listed : Array Bool} {a : Act} {w : World} (hi : ops.toList[i]? = some oi)
  (hs : Region.noSelect ops = true) (hf : Region.free md ops listed i = true) (hr : (Region.ready md ops listed).contains i = true) (hM : othersWait md ops M i = true)
  (hQ : ∀ c a w, Q (.panic c) (a.put oi.dst v) w → Q (.panic c) a w) (hy : YieldsIf P ops S oi v a) (hS : S w)
  (h : wpAnyG P md ops Q S M fuel (listed.setIfInBounds i true) (a.put oi.dst v) w) : wpAnyG P md ops Q S M (fuel + 1) listed a w :=
 wpAnyG_take (by simpa using hi) hs hf hr hM hQ hy hS h
theorem wpAnyG_onlyL {fuel : Nat} {listed : Array Bool} {a : Act} {w : World} {i : Nat} {o : Oper} (hr : Region.ready md ops listed = [i]) (ho : ops.toList[i]? = some o)
  (h : ∀ K' : Act → World → Prop, Shut (∀ a w, (M.contains i = true → S w) → wpAnyG P md ops Q S M fuel (listed.setIfInBounds i true) a w → K' a w) → if Region.wanted o (yielded ops a.tmps) = true then Oper.wp P o a w K' Q else K' (a.put o.dst undef) w) :
  wpAnyG P md ops Q S M (fuel + 1) listed a w := wpAnyG_only hr (by simpa using ho) h
end
end Go.Proofs.Ytplcnceacbpjhaa

namespace Go.Proofs.Ytplcnceacbpjhaa
open Go.RowKit Go.Great

theorem mul64_9 (w : World) : Calls Try.prog 40 #[.int .u64 1, .int .u64 9] w fun e w' => e = .returned (.tuple #[.int .u64 0, .int .u64 9]) ∧ w = w' := by
 go_enter Try.func40, Try.ntmps40
 go_wp2_with fail
 go_ret2
 exact ⟨by kernel_rfl, rfl⟩
theorem mul_9 (w : World) : Calls Try.prog 37 #[.int .u64 1, .int .u64 9] w fun e w' => e = .returned (.tuple #[.int .u64 0, .int .u64 9]) ∧ w = w' := by
 have C := Lib.hid (mul64_9 w)
 go_enter Try.func37, Try.ntmps37
 go_wp2_with fail
 refine C.out.mono ?_
 rintro e w' ⟨rfl, rfl⟩
 go_wp2_with fail
 go_ret2
 exact ⟨rfl, rfl⟩
theorem mul64_10 (w : World) : Calls Try.prog 40 #[.int .u64 1, .int .u64 10] w fun e w' => e = .returned (.tuple #[.int .u64 0, .int .u64 10]) ∧ w = w' := by
 go_enter Try.func40, Try.ntmps40
 go_wp2_with fail
 go_ret2
 exact ⟨by kernel_rfl, rfl⟩
theorem mul_10 (w : World) : Calls Try.prog 37 #[.int .u64 1, .int .u64 10] w fun e w' => e = .returned (.tuple #[.int .u64 0, .int .u64 10]) ∧ w = w' := by
 have C := Lib.hid (mul64_10 w)
 go_enter Try.func37, Try.ntmps37
 go_wp2_with fail
 refine C.out.mono ?_
 rintro e w' ⟨rfl, rfl⟩
 go_wp2_with fail
 go_ret2
 exact ⟨rfl, rfl⟩

/-- the buffer: its first m bytes are x -/
def RepB (w0 : World) (g n : Nat) (x : UInt8) (m : Nat) (w : World) : Prop := ∃ cur : List Value, w.heap[g]? = some (.cells cur.toArray 5 (0, 0)) ∧ n ≤ cur.length ∧ cur.take m = List.replicate m (u8 x) ∧ Below w0.heap.size w0 w
set_option maxRecDepth 100000 in
set_option maxHeartbeats 1000000 in
theorem rep_any (n : Nat) (hn : 2 ≤ n) (hn2 : n ≤ 100) (hM : ∀ w, Calls Try.prog 37 #[.int .u64 1, .int .u64 (n : Int)] w fun e w' => e = .returned (.tuple #[.int .u64 0, .int .u64 (n : Int)]) ∧ w = w') (v : Value) (x : UInt8) (w : World) (h : Sees w v [x]) :
  Calls Try.prog 28 #[v, .int .i64 (n : Int)] w fun e w' => ∃ g, e = .returned (.slice (some ⟨g, 0, none⟩) n n) ∧ Sees w' (.slice (some ⟨g, 0, none⟩) n n) (List.replicate n x) ∧ w.heap.size ≤ g ∧ Old w w' := by
 obtain ⟨b, o, c, rfl, _, _, hat⟩ := h.at (by simp)
 have hx0 : w.cell? ⟨b, o, none⟩ = some (u8 x) := by have := hat 0 x rfl; simpa using this
 have CM := Lib.hid hM
 have d1 : ((n : Int) == 0) = false := by simp; omega
 have d2 : decide ((n : Int) < 0) = false := by simp
 have b1 : (0 : Int) ≤ (n : Int) := by omega
 have b2 : (n : Int) ≤ 100 := by omega
 obtain ⟨cs, hrunM, hle, _⟩ := Lib.run_makeNoZero (P := Try.prog) w #[3] 22 5 Try.underlying22 n (by omega)
 have hcall : (callFunc 38 #[.int .i64 (n : Int)]).run Try.prog w = .ok (.value (.slice (some ⟨w.heap.size, 0, none⟩) n cs.size)) ((w.alloc (.cells cs 5)).drewN 2) := by
  rw [run_callFunc_extern Try.func38 (by kernel_rfl) (by kernel_rfl) (by kernel_rfl) (e := Extern.BytealgMakeNoZero.makeNoZero #[3] #[22]) (by kernel_rfl), hrunM]
  rfl
 have i1 : (n : Int) ≤ (cs.size : Int) := by omega
 obtain ⟨W1, hW1⟩ : ∃ W1, (w.alloc (.cells cs 5)).drewN 2 = W1 := ⟨_, rfl⟩
 have hg1 : W1.heap[w.heap.size]? = some (.cells cs.toList.toArray 5 (0, 0)) := by rw [← hW1]; simpa using heap_alloc_new w (.cells cs 5)
 have hk1 : Old w W1 := by rw [← hW1]; exact ((Keeps.refl (fun _ => False) w).alloc (.cells cs 5) |> fun h => ⟨h.os, h.tape, h.output, h.size, h.block⟩)
 have hsrc : ∀ j v, ([u8 x] : List Value)[j]? = some v → W1.cell? ((⟨b, o, none⟩ : Addr).add j) = some v := by
  intro j v hj
  rcases j with _ | j
  ·have := hk1.cell hx0 (fun f => f)
   simp only [List.getElem?_cons_zero, Option.some.injEq] at hj
   subst hj
   exact this
  ·simp at hj
 have H := Lib.hid (And.intro hn (And.intro hn2 hle))
 have S1 := Lib.hid (And.intro hg1 (And.intro hk1 hsrc))
 rw [hW1] at hcall
 clear hrunM h hM hat hn hn2 hle hg1 hk1 hsrc hx0 hW1
 go_enter Try.func28, Try.ntmps28
 go_wp2_with fail
 refine (CM.out w).mono ?_
 rintro e w' ⟨rfl, rfl⟩
 go_upto_region 17 with fail
 refine wp_region_lit ?_
 refine wpList_runTo rfl (some 58) rfl (.slice (some ⟨w.heap.size, 0, none⟩) n n) W1 (by kernel_rfl) ?_
 refine wpList_runTo rfl (some 59) rfl (.slice (some ⟨b, o, none⟩) 1 c) W1 (by kernel_rfl) ?_
 refine wpList_copy_splice rfl (.tmp 58) (.tmp 59) 22 22 rfl 5 Try.underlying22 (by kernel_rfl) (some ⟨w.heap.size, 0, none⟩) (some ⟨b, o, none⟩) n n 1 c rfl rfl w.heap.size 0 cs.toList 5 S1.out.1 [u8 x] (by have := H.out.1; exact (Nat.min_eq_left (by omega : 1 ≤ n)).symm) (fun _ => ⟨rfl, _, rfl, S1.out.2.2⟩) (by have := H.out; simp; omega) (by simp [u8, Value.oneCell']) w.heap.size w (Old.below S1.out.2.1) (Nat.le_refl _) ?_
 intro w2 hg2 hb2
 have R2 : Hid (RepB w w.heap.size n x 1 w2) := by
  refine Lib.hid ⟨_, hg2.out, ?_, ?_, hb2⟩
  ·have := H.out; rw [length_splice _ _ _ (by simp; omega)]; simp; omega
  ·simp [splice]
 clear hg2 hb2 hcall
 go_wp2_with fail
 go_loopg [10, 11] (n - 1) (fun k v10 _ wm => ∃ m : Nat, 1 ≤ m ∧ m ≤ n ∧ k = n - m ∧ v10 = .int .i64 (m : Int) ∧ RepB w w.heap.size n x m wm)
 case atStart => exact ⟨1, Nat.le_refl _, by have := H.out.1; omega, rfl, rfl, R2.out⟩
 case round =>
  obtain ⟨m, hm1, hmn, hk, rfl, hr⟩ := hrel
  by_cases hlt : m < n
  ·obtain ⟨cur, hg, hcl, htk, hbl⟩ := hr
   have hmin : min (m : Int) (n : Int) = (m : Int) := by omega
   obtain ⟨q, hq⟩ : ∃ q, Nat.min m (n - m) = q := ⟨_, rfl⟩
   have hq1 : 1 ≤ q ∧ m + q ≤ n ∧ q ≤ m := by
    have h1 : Nat.min m (n - m) ≤ m := Nat.min_le_left _ _
    have h2 : Nat.min m (n - m) ≤ n - m := Nat.min_le_right _ _
    have h3 : 1 ≤ Nat.min m (n - m) := Nat.le_min.2 ⟨hm1, by omega⟩
    omega
   have hsl1 : ∀ W, (Instr.slice 22 (.slice (some ⟨w.heap.size, 0, none⟩) n n) (some (.int .i64 (m : Int))) none none).run Try.prog W = .ok (.slice (some ⟨w.heap.size, m, none⟩) (n - m) (n - m)) W := fun W => by
    have h1 : (m : Int) ≤ (n : Int) := by omega
    have h2 : ¬ n = m := by omega
    have h3 : ¬ m = 0 := by omega
    have h4 : m ≤ n := by omega
    simp [go_sem, h1, Go.sliced, h2, h3, Addr.add]
   have hsl2 : ∀ W, (Instr.slice 22 (.slice (some ⟨w.heap.size, 0, none⟩) n n) none (some (.int .i64 (m : Int))) none).run Try.prog W = .ok (.slice (some ⟨w.heap.size, 0, none⟩) m n) W := fun W => by
    have h1 : (m : Int) ≤ (n : Int) := by omega
    have h2 : ¬ (0 : Nat) = n := by omega
    simp [go_sem, h1, Go.sliced, Addr.add]
   have hsrc : ∀ j v, (List.replicate q (u8 x))[j]? = some v → wr.drew.cell? ((⟨w.heap.size, 0, none⟩ : Addr).add j) = some v := by
    intro j v hj
    have hjq : j < q := by have := (List.getElem?_eq_some_iff.1 hj).1; simpa using this
    rw [List.getElem?_replicate, if_pos hjq] at hj
    have hc : cur[j]? = some (u8 x) := by
     have h1 : (cur.take m)[j]? = some (u8 x) := by rw [htk, List.getElem?_replicate, if_pos (by omega)]
     rw [List.getElem?_take, if_pos (by omega)] at h1
     exact h1
    rw [← hj, show (⟨w.heap.size, 0, none⟩ : Addr).add j = ⟨w.heap.size, j, none⟩ from by unfold Addr.add; split <;> simp_all]
    show wr.cell? _ = _
    simp [World.cell?, hg, hc]
   have Z := Lib.hid (And.intro hg (And.intro hcl (And.intro htk (And.intro hbl (And.intro hq (And.intro hq1 (And.intro hsrc (And.intro hk (And.intro hm1 hmn)))))))))
   clear hg hcl htk hbl hq hq1 hsrc hk hm1 hmn
   go_wp2_with fail
   refine wp_region_g (S := fun _ => True) (M := [0, 1, 2, 3, 4, 5, 6, 7, 8, 9]) (by kernel_rfl) ?_
   have hS : True := trivial
   refine wpAnyG_takeL (i := 0) (oi := _) (v := ?vt0) rfl (by kernel_rfl) (by kernel_rfl) (by kernel_rfl) (by kernel_rfl) (fun _ _ _ h => h) (Or.inl ⟨by rfl, ?yt0⟩) hS ?rt0
   case yt0 => (intro W hSw; go_simp; try with_reducible rfl)
   try simp only [Act.put, List.setIfInBounds_toArray, List.set_cons_zero, List.set_cons_succ]
   refine wpAnyG_takeL (i := 1) (oi := _) (v := ?vt1) rfl (by kernel_rfl) (by kernel_rfl) (by kernel_rfl) (by kernel_rfl) (fun _ _ _ h => h) (Or.inl ⟨by rfl, ?yt1⟩) hS ?rt1
   case yt1 => (intro W hSw; go_simp; try with_reducible rfl)
   try simp only [Act.put, List.setIfInBounds_toArray, List.set_cons_zero, List.set_cons_succ]
   refine wpAnyG_takeL (i := 2) (oi := _) (v := ?vt2) rfl (by kernel_rfl) (by kernel_rfl) (by kernel_rfl) (by kernel_rfl) (fun _ _ _ h => h) (Or.inl ⟨by rfl, ?yt2⟩) hS ?rt2
   case yt2 => (intro W hSw; go_simp; try with_reducible rfl)
   try simp only [Act.put, List.setIfInBounds_toArray, List.set_cons_zero, List.set_cons_succ]
   refine wpAnyG_takeL (i := 3) (oi := _) (v := ?vt3) rfl (by kernel_rfl) (by kernel_rfl) (by kernel_rfl) (by kernel_rfl) (fun _ _ _ h => h) (Or.inl ⟨by rfl, ?yt3⟩) hS ?rt3
   case yt3 => (intro W hSw; go_simp; try with_reducible rfl)
   try simp only [Act.put, List.setIfInBounds_toArray, List.set_cons_zero, List.set_cons_succ]
   refine wpAnyG_takeL (i := 4) (oi := _) (v := ?vt4) rfl (by kernel_rfl) (by kernel_rfl) (by kernel_rfl) (by kernel_rfl) (fun _ _ _ h => h) (Or.inl ⟨by rfl, ?yt4⟩) hS ?rt4
   case yt4 => (intro W hSw; go_simp; try with_reducible rfl)
   try simp only [Act.put, List.setIfInBounds_toArray, List.set_cons_zero, List.set_cons_succ]
   refine wpAnyG_takeL (i := 5) (oi := _) (v := ?vt5) rfl (by kernel_rfl) (by kernel_rfl) (by kernel_rfl) (by kernel_rfl) (fun _ _ _ h => h) (Or.inl ⟨by rfl, ?yt5⟩) hS ?rt5
   case yt5 => (intro W hSw; go_simp; try with_reducible rfl)
   try simp only [Act.put, List.setIfInBounds_toArray, List.set_cons_zero, List.set_cons_succ]
   refine wpAnyG_takeL (i := 6) (oi := _) (v := ?vt6) rfl (by kernel_rfl) (by kernel_rfl) (by kernel_rfl) (by kernel_rfl) (fun _ _ _ h => h) (Or.inl ⟨by rfl, ?yt6⟩) hS ?rt6
   case yt6 => (intro W hSw; go_simp; try with_reducible rfl)
   try simp only [Act.put, List.setIfInBounds_toArray, List.set_cons_zero, List.set_cons_succ]
   refine wpAnyG_onlyL (i := 7) (o := _) (by kernel_rfl) rfl (fun K hK => ?_)
   refine step_copy_splice rfl (.tmp 70) (.tmp 73) 22 22 rfl 5 Try.underlying22 (by kernel_rfl) (some ⟨w.heap.size, m, none⟩) (some ⟨w.heap.size, 0, none⟩) (n - m) (n - m) m n (by rfl) (by rfl) w.heap.size m cur 5 Z.out.1 (List.replicate q (u8 x)) (by simpa using Z.out.2.2.2.2.1.symm) (fun _ => ⟨rfl, _, rfl, Z.out.2.2.2.2.2.2.1⟩) (by have := Z.out.2.1; have := Z.out.2.2.2.2.2.1; simp; omega) (by simp [u8, Value.oneCell']) w.heap.size w (Z.out.2.2.2.1.trans ⟨rfl, rfl, rfl, Nat.le_refl _, fun _ _ => rfl⟩) (Nat.le_refl _) ?_
   intro w2 hg2 hb2
   have hrel2 : RepB w w.heap.size n x (m + q) w2 := by
    have f0 := Z.out.2.1
    have f1 := Z.out.2.2.2.2.2.1
    have hlen : (cur.take m).length = m := by simp; omega
    refine ⟨_, hg2.out, ?_, ?_, hb2⟩
    ·rw [length_splice _ _ _ (by simp; omega)]; exact f0
    ·have e : m + q = (cur.take m ++ List.replicate q (u8 x)).length := by simp; omega
     rw [show splice cur m (List.replicate q (u8 x)) = (cur.take m ++ List.replicate q (u8 x)) ++ cur.drop (m + q) from by simp [splice], e, List.take_left' rfl, Z.out.2.2.1, List.replicate_append_replicate]
     rw [List.length_replicate]
   have RR := Lib.hid hrel2
   clear hg2 hb2 hrel2
   obtain ⟨z, hz⟩ : ∃ z : Int, (m : Int) + ((List.replicate q (u8 x)).length : Int) = z := ⟨_, rfl⟩
   have hz1 : z = ((m + q : Nat) : Int) := by rw [← hz]; simp
   have b3 : z ≤ 100 := by
    have f1 := Z.out.2.2.2.2.2.1
    have := H.out.2.1
    omega
   have b4 : (0 : Int) ≤ z := by omega
   have HZ := Lib.hid hz1
   clear hz1
   refine hK.out _ _ (fun _ => trivial) ?_
   clear hK K
   try simp only [Act.put, List.setIfInBounds_toArray, List.set_cons_zero, List.set_cons_succ]
   refine wpAnyG_takeL (i := 8) (oi := _) (v := ?vt8) rfl (by kernel_rfl) (by kernel_rfl) (by kernel_rfl) (by kernel_rfl) (fun _ _ _ h => h) (Or.inl ⟨by rfl, ?yt8⟩) hS ?rt8
   case yt8 => (intro W hSw; go_simp; try with_reducible rfl)
   try simp only [Act.put, List.setIfInBounds_toArray, List.set_cons_zero, List.set_cons_succ]
   refine wpAnyG_onlyL (i := 9) (o := _) (by kernel_rfl) rfl (fun K hK => ?_)
   go_simp
   refine hK.out _ _ (fun _ => trivial) ?_
   clear hK K
   refine wpAnyG_done (by kernel_rfl) ?_ _
   go_simp
   go_wp2_with fail
   go_roundg (n - (m + q))
   case measure => have f1 := Z.out.2.2.2.2.2.1; have f2 := Z.out.2.2.2.2.2.2.2.1; have f3 := Z.out.2.2.2.2.2.2.2.2; omega
   case rel =>
    refine ⟨m + q, by have := Z.out.2.2.2.2.2.2.2.2.1; omega, Z.out.2.2.2.2.2.1.2.1, rfl, ?_, RR.out⟩
    have e : IntKind.i64.wrap ((m : Int) + (q : Int)) = (m : Int) + (q : Int) := by
     have f1 := Z.out.2.2.2.2.2.1
     have f2 := H.out.2.1
     simp only [IntKind.wrap, IntKind.bits, IntKind.signed]
     simp
     omega
    rw [e]
    exact congrArg _ (by omega)
  ·obtain rfl : m = n := by omega
   obtain ⟨cur, hg, hcl, htk, hbl⟩ := hr
   have s1 : Sees wr (.slice (some ⟨w.heap.size, 0, none⟩) m m) (List.replicate m x) := by
    refine ⟨some ⟨w.heap.size, 0, none⟩, m, by rw [List.length_replicate], by rw [List.length_replicate]; exact Nat.le_refl _, by (unfold maxLen; have := H.out.2.1; omega), by simp, fun a ha => ?_⟩
    obtain rfl := Option.some.inj ha
    refine ⟨fun _ => rfl, fun j b hj => ?_⟩
    have hjm : j < m := by have := (List.getElem?_eq_some_iff.1 hj).1; simpa using this
    rw [List.getElem?_replicate, if_pos hjm] at hj
    obtain rfl := Option.some.inj hj
    have hc : cur[j]? = some (u8 x) := by
     have h1 : (cur.take m)[j]? = some (u8 x) := by rw [htk, List.getElem?_replicate, if_pos hjm]
     rw [List.getElem?_take, if_pos hjm] at h1
     exact h1
    rw [show (⟨w.heap.size, 0, none⟩ : Addr).add j = ⟨w.heap.size, j, none⟩ from by unfold Addr.add; split <;> simp_all]
    simp [World.cell?, hg, hc]
   have RR := Lib.hid (And.intro s1 (Old.of_below hbl (Nat.le_refl _)))
   clear hg hcl htk hbl hlt s1
   go_wp2_with fail
   go_ret
   exact ⟨_, rfl, RR.out.1, Nat.le_refl _, RR.out.2⟩
end Go.Proofs.Ytplcnceacbpjhaa

namespace Go.Proofs.Ytplcnceacbpjhaa
open Go.RowKit

theorem left_nil (w : World) : Calls Try.prog 24 #[.pointer none] w fun e w' => e = .returned (.int .i64 0) ∧ w = w' := by
 go_enter Try.func24, Try.ntmps24
 go_wp2_with fail
 go_ret
 exact ⟨rfl, rfl⟩
theorem end_nil (w : World) : Calls Try.prog 25 #[.pointer none] w fun e w' => e = .returned (.int .i64 2) ∧ w = w' := by
 go_enter Try.func25, Try.ntmps25
 go_wp2_with fail
 go_ret
 exact ⟨rfl, rfl⟩
theorem end_empty (rb : Nat) (w : World) (h : w.cell? ⟨rb, 1, none⟩ = some (.bool false)) : Calls Try.prog 25 #[.pointer (some ⟨rb, 0, none⟩)] w fun e w' => e = .returned (.int .i64 2) ∧ w = w' := by
 go_enter Try.func25, Try.ntmps25
 go_wp2_with fail
 go_ret
 exact ⟨rfl, rfl⟩
theorem rnum_nil (m : Int) (w : World) : Calls Try.prog 18 #[.pointer none, .int .u64 m] w fun e w' => e = .returned (.tuple #[.int .u64 0, .int .i64 2]) ∧ Old w w' := by
 go_enter_defers Try.func18, Try.ntmps18
 go_wp2_with fail
 refine ⟨_, num_results _ w.heap.size 0 2 _ rfl rfl ?_, rfl, (Keeps.refl _ _).alloc _⟩
 rw [World.cell?_alloc_at _ _ _ _ rfl]
 rfl
theorem rbytes_nil (m : Int) (w : World) : Calls Try.prog 22 #[.pointer none, .int .i64 m] w fun e w' => e = .returned (.tuple #[.slice none 0 0, .int .i64 2]) ∧ Old w w' := by
 go_enter_defers Try.func22, Try.ntmps22
 go_wp2_with fail
 refine ⟨_, bytes_results _ w.heap.size none 0 0 2 _ rfl rfl ?_, rfl, (Keeps.refl _ _).alloc _⟩
 rw [World.cell?_alloc_at _ _ _ _ rfl]
 rfl
theorem rint_nil (w : World) : Calls Try.prog 20 #[.pointer none] w fun e w' => e = .returned (.tuple #[.int .i64 0, .int .i64 2]) ∧ Old w w' := by
 have C := Lib.hid (rnum_nil 18446744073709551615 w)
 go_enter Try.func20, Try.ntmps20
 go_wp2_with fail
 refine C.out.mono ?_
 rintro e w1 ⟨rfl, hk⟩
 go_wp2_with fail
 go_ret2
 exact ⟨rfl, hk⟩

/-- append(full.., seen..), where the slice has no room left: a new row -/
theorem wpList_append_full {w : World} {ops : Array Oper} {rest : List Oper} {o : Oper} {a : Act} {Q : Exit → Act → World → Prop} (hgd : o.guard = none) (s x : Operand)
  (ho : o.op = .call { callee := .builtin .append, args := #[s, x], argTypes := #[22, 22] })
  (g n : Nat) (l : List UInt8) (hs : a.eval s = .slice (some ⟨g, 0, none⟩) n n) (hl : l.length = n) (hsee : Sees w (.slice (some ⟨g, 0, none⟩) n n) l) (ad : Addr) (c : Nat) (m : List UInt8) (hx : a.eval x = .slice (some ad) m.length c) (hu : Sees w (.slice (some ad) m.length c) m)
  (hm : 0 < m.length) (hlen : l.length + m.length ≤ 1152921504606)
  (h : ∀ v' w', Owns w' w.heap.size v' (l ++ m) → w.grownBy w' none → wpList Try.prog ops Q rest (a.put o.dst v') w') : wpList Try.prog ops Q (o :: rest) a w := by
 obtain ⟨i0, hi, hz0, hz1, hz2⟩ := info_parts Try.infoU8
 obtain ⟨p, c1, hv, h1, h2, h3, h4⟩ := hsee
 obtain ⟨q, c2, hv2, g1, g2, g3, g4⟩ := hu
 cases hv
 cases hv2
 refine wpList_append_grows w hgd s x 22 ho 5 i0 (.int .u8 0) 1 1 (Try.underlying22) hi hz0 hz1 hz2 rfl (by decide) (some ⟨g, 0, none⟩) l.length l.length (l.map u8) hs (fun h => absurd h (by simp)) (by simp) ?_ ad m.length c (m.map u8) hx (by simp) ?_ (oneCell_u8 m) (by omega) (by unfold maxLen; omega) (by omega) ?_
 ·intro b hb j z hz
  obtain rfl := Option.some.inj hb
  rw [List.getElem?_map, Option.map_eq_some_iff] at hz
  obtain ⟨u, hu, rfl⟩ := hz
  exact (h4 _ rfl).2 j u hu
 ·intro j z hz
  rw [List.getElem?_map, Option.map_eq_some_iff] at hz
  obtain ⟨b, hb, rfl⟩ := hz
  exact (g4 ad rfl).2 j b hb
 ·intro v' w' ho' hg'
  exact h v' w' (by unfold Owns; simpa using ho') hg'
end Go.Proofs.Ytplcnceacbpjhaa
