/- DERIVED. Chapter 20: an end in memory; anew, the small functions. · DERIVED. A region that draws its order: loads are taken first where nobody but operations that wait for them writes their cells. Plain theorems over any program. -/
import Derived.Test.YtllnlimbfoingaaY02
import Derived.Test.YtllnlimbfoingaaY03
import Derived.RegionTactic
import Derived.Conc.LoneSelectN
import Derived.BigRegion
import Derived.ChangeAlike
import Derived.Test.YtllnlimbfoingaaY01
import Derived.Deep.RegionHeld3
namespace Go.Proofs.Ytllnlimbfoingaa
open Go.RowKit Go.Conc

/-- a message that waits: where it lies, what it is -/
abbrev Bv := Value × List UInt8
def bvL (x : Bv) : List Value := [x.1]
/-- an end, with where its parts lie -/
structure Lv where
 life : Nat
 peer : Nat
 wv : Value
 W : List Bv
 c : Nat
 F : List Fl
 last : Nat
 next : Nat
 again : Bool
 owes : Bool
 heard : Bool
def Lv.cells (L : Lv) : List Value := [.int .u64 (L.life : Int), .int .u64 (L.peer : Int), L.wv, .chan (some L.c), .int .u64 (L.last : Int), .int .u64 (L.next : Int), .bool L.again, .bool L.owes, .bool L.heard]
def Fl.plain (f : Fl) : Nat × Bs := (f.seq, f.d)
def Lv.plain (L : Lv) : En := ⟨L.life, L.peer, L.W.map (·.2), L.F.map Fl.plain, L.last, L.next, L.again, L.owes, L.heard⟩
/-- the end's block and its window's -/
def LkM (w : World) (lb : Nat) (L : Lv) : Prop := w.heap[lb]? = some (.cells L.cells.toArray 85 (0, 0)) ∧ Win w L.c L.F ∧ lb ≠ L.c
/-- what it reads -/
def Lv.reads (L : Lv) (w : World) : Prop := SeesR w 1 bvL L.wv L.W ∧ (∀ x ∈ L.W, Sees w x.1 x.2 ∧ x.2.length ≤ 140737488355328) ∧ ∀ f ∈ L.F, Sees w f.v f.d ∧ f.d.length ≤ 140737488355328

theorem blk9 {w : World} {b : Nat} {t : TypeId} {a0 a1 a2 a3 a4 a5 a6 a7 a8 : Value} (h : w.heap[b]? = some (.cells #[a0, a1, a2, a3, a4, a5, a6, a7, a8] t (0, 0))) :
  (w.cell? ⟨b, 0, none⟩ = some a0 ∧ w.cell? ⟨b, 1, none⟩ = some a1 ∧ w.cell? ⟨b, 2, none⟩ = some a2 ∧ w.cell? ⟨b, 3, none⟩ = some a3 ∧ w.cell? ⟨b, 4, none⟩ = some a4 ∧ w.cell? ⟨b, 5, none⟩ = some a5 ∧ w.cell? ⟨b, 6, none⟩ = some a6 ∧ w.cell? ⟨b, 7, none⟩ = some a7 ∧ w.cell? ⟨b, 8, none⟩ = some a8) ∧
  (w.frozen? ⟨b, 0, none⟩ = false ∧ w.frozen? ⟨b, 1, none⟩ = false ∧ w.frozen? ⟨b, 2, none⟩ = false ∧ w.frozen? ⟨b, 3, none⟩ = false ∧ w.frozen? ⟨b, 4, none⟩ = false ∧ w.frozen? ⟨b, 5, none⟩ = false ∧ w.frozen? ⟨b, 6, none⟩ = false ∧ w.frozen? ⟨b, 7, none⟩ = false ∧ w.frozen? ⟨b, 8, none⟩ = false) := by simp [World.cell?, World.frozen?, h]
theorem infoFl3 : ∃ i, Try.prog.info? 92 = some i ∧ i.bytes = 32 := by
 obtain ⟨i0, hi, _, _, h2⟩ := info_parts Try.infoFl
 exact ⟨i0, hi, h2⟩
theorem mk_win (w : World) : (Instr.makeChan 83 (.int .i64 8)).run Try.prog w = .ok (.chan (some w.heap.size)) (w.alloc (.chan 8 #[] false 0 0 false)) := by
 obtain ⟨i, hi, hb⟩ := infoFl3
 simpa using run_makeChan (P := Try.prog) (w := w) Try.underlying83 hi .i64 8 (by omega) (by rw [hb]; omega)
theorem size_set (w : World) (a : Addr) (v : Value) : (w.setCell a v).heap.size = w.heap.size := by simp [World.setCell]
theorem anew_end {w : World} {o X : Obj} {lb n : Nat} (h : w.heap[lb]? = some X) (hn : w.heap.size = n) : (w.alloc o).drew.heap[lb]? = some X ∧ (w.alloc o).drew.heap[n]? = some o := by
 subst hn
 exact ⟨(Below.heap_alloc _ _ _ (Array.getElem?_eq_some_iff.1 h).1).trans h, heap_alloc_new _ _⟩
set_option maxRecDepth 100000 in
theorem anew_any (lb : Nat) (a0 a1 a2 a3 a4 a5 a6 a7 a8 : Value) (p : Nat) (w : World) (h : w.heap[lb]? = some (.cells #[a0, a1, a2, a3, a4, a5, a6, a7, a8] 85 (0, 0))) :
  Calls Try.prog 34 #[.pointer (some ⟨lb, 0, none⟩), .int .u64 (p : Int)] w fun e w' => e = .returned (.tuple #[]) ∧
   w'.heap[lb]? = some (.cells #[a0, .int .u64 (p : Int), .slice none 0 0, .chan (some w.heap.size), .int .u64 0, .int .u64 1, .bool false, .bool true, .bool false] 85 (0, 0)) ∧ Win w' w.heap.size [] ∧ Keeps (fun k => k = lb) w w' := by
 obtain ⟨⟨c0, c1, c2, c3, c4, c5, c6, c7, c8⟩, ⟨f0, f1, f2, f3, f4, f5, f6, f7, f8⟩⟩ := blk9 h
 have hmk := mk_win
 have hlt : lb < w.heap.size := (Array.getElem?_eq_some_iff.1 h).1
 have n1 : lb ≠ w.heap.size := by omega
 have H := Lib.hid h
 clear h
 go_enter Try.func34, Try.ntmps34
 go_wp2_with fail
 go_region
 all_goals go_wp2_with fail
 all_goals go_end0
 have h1 := heap_setCell_same _ lb 1 _ _ (.int .u64 (p : Int)) H.out
 have h2 := heap_setCell_same _ lb 2 _ _ (.slice none 0 0) h1
 have h3 := heap_setCell_same _ lb 3 _ _ (.chan (some w.heap.size)) h2
 have h4 := heap_setCell_same _ lb 4 _ _ (.int .u64 0) h3
 have h5 := heap_setCell_same _ lb 5 _ _ (.int .u64 1) h4
 have h6 := heap_setCell_same _ lb 6 _ _ (.bool false) h5
 have h7 := heap_setCell_same _ lb 7 _ _ (.bool true) h6
 have h8 := heap_setCell_same _ lb 8 _ _ (.bool false) h7
 have hk : ∀ (a : World) (o : Nat) (v : Value), Keeps (fun k => k = lb) w a → Keeps (fun k => k = lb) w (a.setCell ⟨lb, o, none⟩ v) := fun a o v h => h.setCell (fun _ => rfl) v
 have hk8 := hk _ 8 (.bool false) (hk _ 7 (.bool true) (hk _ 6 (.bool false) (hk _ 5 (.int .u64 1) (hk _ 4 (.int .u64 0) (hk _ 3 (.chan (some w.heap.size)) (hk _ 2 (.slice none 0 0) (hk _ 1 (.int .u64 (p : Int)) (Keeps.refl _ w))))))))
 simp only [List.setIfInBounds_toArray, List.set_cons_zero, List.set_cons_succ] at h8
 have hz := anew_end (o := .chan 8 #[] false 0 0 false) (n := w.heap.size) h8 (by simp only [size_set])
 exact ⟨rfl, hz.1, ⟨0, 0, hz.2⟩, (hk8.alloc _).drew⟩

theorem setAt {lb : Nat} {w a : World} (h : Keeps (fun k => k = lb) w a) (o : Nat) (v : Value) : Keeps (fun k => k = lb) w (a.setCell ⟨lb, o, none⟩ v) := h.setCell (fun _ => rfl) v
theorem LkM.set {w : World} {lb : Nat} {L : Lv} (h : LkM w lb L) (i : Nat) (v : Value) (L' : Lv) (hc : L'.cells = L.cells.set i v) (h1 : L'.c = L.c) (h2 : L'.F = L.F) : LkM (w.setCell ⟨lb, i, none⟩ v) lb L' := by
 obtain ⟨g1, g2, g3⟩ := h
 refine ⟨?_, ?_, by rw [h1]; exact g3⟩
 ·have := heap_setCell_same w lb i _ _ v g1
  rw [this, hc]
  simp
 ·rw [h1, h2]
  exact g2.keeps (S := fun k => k = lb) (setAt (Keeps.refl _ _) i v) (fun e => g3 e.symm)
theorem LkM.keeps {S : Nat → Prop} {w w' : World} {lb : Nat} {L : Lv} (h : LkM w lb L) (hk : Keeps S w w') (h1 : ¬ S lb) (h2 : ¬ S L.c) : LkM w' lb L :=
 ⟨(hk.block lb (Array.getElem?_eq_some_iff.1 h.1).1 h1).trans h.1, h.2.1.keeps hk h2, h.2.2⟩
theorem LkM.old {w w' : World} {lb : Nat} {L : Lv} (h : LkM w lb L) (hk : Old w w') : LkM w' lb L := h.keeps hk (fun f => f) (fun f => f)
/-- the window changed -/
theorem LkM.win {w w' : World} {lb : Nat} {L : Lv} (h : LkM w lb L) (F : List Fl) (hk : Keeps (fun k => k = L.c) w w') (hw : Win w' L.c F) : LkM w' lb { L with F := F } :=
 ⟨(hk.block lb (Array.getElem?_eq_some_iff.1 h.1).1 h.2.2).trans h.1, hw, h.2.2⟩

theorem peer_any (lb : Nat) (L : Lv) (w : World) (h : LkM w lb L) : Calls Try.prog 23 #[.pointer (some ⟨lb, 0, none⟩)] w fun e w' => e = .returned (.int .u64 (L.peer : Int)) ∧ w = w' := by
 obtain ⟨⟨c0, c1, c2, c3, c4, c5, c6, c7, c8⟩, _⟩ := blk9 h.1
 clear h
 go_enter Try.func23, Try.ntmps23
 go_wp2_with fail
 go_ret
 exact ⟨rfl, rfl⟩
theorem waiting_any (lb : Nat) (L : Lv) (w : World) (h : LkM w lb L) (hr : L.reads w) : Calls Try.prog 24 #[.pointer (some ⟨lb, 0, none⟩)] w fun e w' => e = .returned (.int .i64 (L.W.length : Int)) ∧ w = w' := by
 obtain ⟨⟨c0, c1, c2, c3, c4, c5, c6, c7, c8⟩, _⟩ := blk9 h.1
 obtain ⟨p, c, hv, _⟩ := hr.1.len
 rw [hv] at c2
 clear h hr hv
 go_enter Try.func24, Try.ntmps24
 go_wp2_with fail
 go_ret
 exact ⟨rfl, rfl⟩
theorem flying_any (lb : Nat) (L : Lv) (w : World) (h : LkM w lb L) : Calls Try.prog 25 #[.pointer (some ⟨lb, 0, none⟩)] w fun e w' => e = .returned (.int .i64 (L.F.length : Int)) ∧ w = w' := by
 obtain ⟨⟨c0, c1, c2, c3, c4, c5, c6, c7, c8⟩, _⟩ := blk9 h.1
 obtain ⟨s, r, hw⟩ := h.2.1
 have hlen := fun ty => run_len_chan (P := Try.prog) 83 ty Try.underlying83 hw
 simp only [List.size_toArray, List.length_map] at hlen
 clear h hw
 go_enter Try.func25, Try.ntmps25
 go_wp2_with fail
 go_ret
 exact ⟨rfl, rfl⟩
theorem peer_nil (w : World) : Calls Try.prog 23 #[.pointer none] w fun e w' => e = .returned (.int .u64 0) ∧ w = w' := by
 go_enter Try.func23, Try.ntmps23
 go_wp2_with fail
 go_ret
 exact ⟨rfl, rfl⟩
theorem waiting_nil (w : World) : Calls Try.prog 24 #[.pointer none] w fun e w' => e = .returned (.int .i64 0) ∧ w = w' := by
 go_enter Try.func24, Try.ntmps24
 go_wp2_with fail
 go_ret
 exact ⟨rfl, rfl⟩
theorem flying_nil (w : World) : Calls Try.prog 25 #[.pointer none] w fun e w' => e = .returned (.int .i64 0) ∧ w = w' := by
 go_enter Try.func25, Try.ntmps25
 go_wp2_with fail
 go_ret
 exact ⟨rfl, rfl⟩
theorem tick_nil (w : World) : Calls Try.prog 21 #[.pointer none] w fun e w' => e = .returned (.int .i64 2) ∧ w = w' := by
 go_enter Try.func21, Try.ntmps21
 go_wp2_with fail
 go_ret
 exact ⟨rfl, rfl⟩
theorem send_nil (v : Value) (w : World) : Calls Try.prog 12 #[.pointer none, v] w fun e w' => e = .returned (.int .i64 2) ∧ w = w' := by
 go_enter Try.func12, Try.ntmps12
 go_wp2_with fail
 go_ret
 exact ⟨rfl, rfl⟩
theorem out_nil (w : World) : Calls Try.prog 17 #[.pointer none] w fun e w' => e = .returned (.slice none 0 0) ∧ w = w' := by
 go_enter Try.func17, Try.ntmps17
 go_wp2_with fail
 go_ret
 exact ⟨rfl, rfl⟩
def Lv.tick (L : Lv) : Lv := { L with again := true, owes := L.owes || !L.heard }
theorem tick_any (lb : Nat) (L : Lv) (w : World) (h : LkM w lb L) (hl : 1 ≤ L.life) : Calls Try.prog 21 #[.pointer (some ⟨lb, 0, none⟩)] w fun e w' => e = .returned (.int .i64 0) ∧ LkM w' lb L.tick ∧ Keeps (fun k => k = lb) w w' := by
 obtain ⟨⟨c0, c1, c2, c3, c4, c5, c6, c7, c8⟩, ⟨f0, f1, f2, f3, f4, f5, f6, f7, f8⟩⟩ := blk9 h.1
 have d : (((L.life : Nat) : Int) == 0) = false := by simp; omega
 have k2 : Keeps (fun k => k = lb) w ((w.setCell ⟨lb, 6, none⟩ (.bool true)).setCell ⟨lb, 7, none⟩ (.bool (L.owes || !L.heard))) := setAt (setAt (Keeps.refl _ _) 6 _) 7 _
 have m2 := (h.set 6 (.bool true) { L with again := true } rfl rfl rfl).set 7 (.bool (L.owes || !L.heard)) L.tick rfl rfl rfl
 have H := Lib.hid (And.intro k2 m2)
 clear k2 m2 h
 obtain ⟨ow, how⟩ : ∃ z, L.owes = z := ⟨_, rfl⟩
 obtain ⟨he, hhe⟩ : ∃ z, L.heard = z := ⟨_, rfl⟩
 rw [how] at c7 H
 rw [hhe] at c8 H
 clear how hhe
 cases ow <;> cases he
 all_goals
  go_enter Try.func21, Try.ntmps21
  go_wp2_with fail
  go_ret
  exact ⟨rfl, H.out.2, H.out.1⟩
end Go.Proofs.Ytllnlimbfoingaa

namespace Go.Proofs.Ytllnlimbfoingaa
open Go.RowKit

section
variable {P : Program} {ops : Array Oper} {Q : Exit → Act → World → Prop} {md : Region.Mode} {S : World → Prop} {M : List Nat}

/-- whatever order is picked from here on; behind every operation of M the condition S holds -/
def wpAnyG (P : Program) (md : Region.Mode) (ops : Array Oper) (Q : Exit → Act → World → Prop) (S : World → Prop) (M : List Nat) : Nat → Array Bool → Act → World → Prop
 | 0, listed, a, w => Region.ready md ops listed = [] ∧ Q .normal a w
 | fuel + 1, listed, a, w =>
  (Region.ready md ops listed = [] → Q .normal a w) ∧
  ∀ i ∈ Region.ready md ops listed, wpOp P ops Q i (fun a' w' => (M.contains i = true → S w') ∧ wpAnyG P md ops Q S M fuel (listed.setIfInBounds i true) a' w') a w
theorem wpAny_of_g : ∀ (fuel : Nat) (listed : Array Bool) (a : Act) (w : World), wpAnyG P md ops Q S M fuel listed a w → wpAny P md ops Q fuel listed a w
 | 0, _, _, _, h => h
 | fuel + 1, _, _, _, h => ⟨h.1, fun i hi => wpOp_mono (fun a' w' h' => wpAny_of_g fuel _ a' w' h'.2) (h.2 i hi)⟩

/-- those that are not in M wait for i -/
def othersWait (md : Region.Mode) (ops : Array Oper) (M : List Nat) (i : Nat) : Bool :=
 (List.range ops.size).all fun j => M.contains j || (j == i || match ops[j]? with | some o => o.after.any (fun e => Region.binds md e && e.on == i) | none => true)
theorem othersWait_spec {i j : Nat} {o : Oper} (h : othersWait md ops M i = true) (ho : ops[j]? = some o) (hj : M.contains j = false) (hne : j ≠ i) : ∃ e ∈ o.after, Region.binds md e = true ∧ e.on = i := by
 unfold othersWait at h
 rw [List.all_eq_true] at h
 have := h j (by rw [List.mem_range]; exact (Array.getElem?_eq_some_iff.1 ho).1)
 rw [hj, ho] at this
 have hb : (j == i) = false := by simp [hne]
 rw [hb] at this
 simp only [Bool.false_or] at this
 obtain ⟨e, he, hb⟩ := Array.any_eq_true'.1 this
 simp only [Bool.and_eq_true, beq_iff_eq] at hb
 exact ⟨e, he, hb.1, hb.2⟩

theorem wpAnyG_first {i : Nat} {oi : Oper} {v : Value} (hi : ops[i]? = some oi) (hsel : ∀ (j : Nat) (o : Oper) cs b, ops[j]? = some o → o.op ≠ .select cs b)
  (hM : othersWait md ops M i = true)
  (hQ : ∀ c a w, Q (.panic c) (a.put oi.dst v) w → Q (.panic c) a w) :
  ∀ (fuel : Nat) (listed : Array Bool) (a : Act) (w : World),
   (∀ j oj, ops[j]? = some oj → j ≠ i → listed.getD j true = false → (∀ e ∈ oj.after, Region.binds md e = true → e.on ≠ i) → oi.apart ops oj = true) →
   i ∈ Region.ready md ops listed → YieldsIf P ops S oi v a → S w →
   wpAnyG P md ops Q S M fuel (listed.setIfInBounds i true) (a.put oi.dst v) w → wpAnyG P md ops Q S M (fuel + 1) listed a w := by
 intro fuel
 induction fuel with
 | zero =>
  intro listed a w _ hr hy hS H
  refine ⟨fun h => (by rw [h] at hr; cases hr), fun j hj => ?_⟩
  by_cases hji : j = i
  ·subst hji; exact hy.wpOp hi hS ⟨fun _ => hS, H⟩
  ·have := ready_mono hj hji
   rw [H.1] at this
   cases this
 | succ fuel ih =>
  intro listed a w hfree hr hy hS H
  refine ⟨fun h => (by rw [h] at hr; cases hr), fun j hj => ?_⟩
  by_cases hji : j = i
  ·subst hji; exact hy.wpOp hi hS ⟨fun _ => hS, H⟩
  ·have h1 := H.2 j (ready_mono hj hji)
   obtain ⟨hjun, oj, hoj, hall⟩ := mem_ready.1 hj
   have hnot : ∀ e ∈ oj.after, Region.binds md e = true → e.on ≠ i := fun e he hb heq => by
    have h1 := hall e he hb
    have h0 := (mem_ready.1 hr).1
    rw [heq] at h1
    rcases Nat.lt_or_ge i listed.size with h' | h'
    ·simp [h'] at h0 h1; rw [h0] at h1; cases h1
    ·simp [Array.getElem?_eq_none h'] at h1
   have hjM : M.contains j = true := by
    cases hc : M.contains j with
    | true => rfl
    | false =>
     obtain ⟨e, he, hb, hon⟩ := othersWait_spec hM hoj hc hji
     exact absurd hon (hnot e he hb)
   have h2 := wpOp_putIf hoj (hfree j oj hoj hji hjun hnot) (fun cs b => hsel i oi cs b hi) (fun cs b => hsel j oj cs b hoj) hQ hy h1
   have hfree' : ∀ k ok, ops[k]? = some ok → k ≠ i → (listed.setIfInBounds j true).getD k true = false →
     (∀ e ∈ ok.after, Region.binds md e = true → e.on ≠ i) → oi.apart ops ok = true := fun k ok hk hki hun hno => by
    refine hfree k ok hk hki ?_ hno
    by_cases hjk : j = k
    ·subst hjk; exact hjun
    ·rw [getD_set_ne true hjk] at hun; exact hun
   refine wpOp_mono (fun a' w' h3 => ⟨h3.2.1, ih (listed.setIfInBounds j true) a' w' hfree' (ready_mono hr (Ne.symm hji)) h3.1 (h3.2.1 hjM) ?_⟩) h2
   rw [Array.setIfInBounds_comm _ _ hji]
   exact h3.2.2

theorem wpAnyG_take {i : Nat} {oi : Oper} {v : Value} {fuel : Nat} {listed : Array Bool} {a : Act} {w : World} (hi : ops[i]? = some oi)
  (hs : Region.noSelect ops = true) (hf : Region.free md ops listed i = true) (hr : (Region.ready md ops listed).contains i = true) (hM : othersWait md ops M i = true)
  (hQ : ∀ c a w, Q (.panic c) (a.put oi.dst v) w → Q (.panic c) a w) (hy : YieldsIf P ops S oi v a) (hS : S w)
  (h : wpAnyG P md ops Q S M fuel (listed.setIfInBounds i true) (a.put oi.dst v) w) : wpAnyG P md ops Q S M (fuel + 1) listed a w :=
 wpAnyG_first hi (Region.noSelect_spec hs) hM hQ fuel listed a w (Region.free_spec hi hf) (by simpa using hr) hy hS h
theorem wpAnyG_done {listed : Array Bool} {a : Act} {w : World} (hr : Region.ready md ops listed = []) (h : Q .normal a w) :
  ∀ fuel, wpAnyG P md ops Q S M fuel listed a w
 | 0 => ⟨hr, h⟩
 | _ + 1 => ⟨fun _ => h, by rw [hr]; simp⟩
theorem wp_region_g {id : Nat} {a : Act} {w : World} (hm : P.follows .mixedOrders = true) (h : wpAnyG P .any ops Q S M ops.size (Array.replicate ops.size false) a w.drew) : (Code.region id ops true).wp P Q a w :=
 wp_region_any hm (wpAny_of_g _ _ _ _ h)
def AllReadyG (P : Program) (md : Region.Mode) (ops : Array Oper) (Q : Exit → Act → World → Prop) (S : World → Prop) (M : List Nat) (fuel : Nat) (listed : Array Bool) (a : Act) (w : World) (rs : List Nat) : Prop :=
 ∀ i ∈ rs, wpOp P ops Q i (fun a' w' => (M.contains i = true → S w') ∧ wpAnyG P md ops Q S M fuel (listed.setIfInBounds i true) a' w') a w
theorem AllReadyG.nil {fuel : Nat} {listed : Array Bool} {a : Act} {w : World} : AllReadyG P md ops Q S M fuel listed a w [] := fun _ h => by cases h
theorem wpAnyG_ready {rs : List Nat} {fuel : Nat} {listed : Array Bool} {a : Act} {w : World} (hr : Region.ready md ops listed = rs) (hne : rs ≠ [])
  (h : AllReadyG P md ops Q S M fuel listed a w rs) : wpAnyG P md ops Q S M (fuel + 1) listed a w :=
 ⟨fun h0 => absurd (hr ▸ h0) hne, hr ▸ h⟩
theorem AllReadyG.cons {fuel : Nat} {listed : Array Bool} {a : Act} {w : World} {i : Nat} {o : Oper} {rs : List Nat} (ho : ops[i]? = some o)
  (h : ∀ K' : Act → World → Prop, Shut (∀ a w, (M.contains i = true → S w) → wpAnyG P md ops Q S M fuel (listed.setIfInBounds i true) a w → K' a w) → if Region.wanted o (yielded ops a.tmps) = true then Oper.wp P o a w K' Q else K' (a.put o.dst undef) w)
  (hs : AllReadyG P md ops Q S M fuel listed a w rs) : AllReadyG P md ops Q S M fuel listed a w (i :: rs) := fun j hj => by
 rcases List.mem_cons.1 hj with rfl | hj
 ·exact wpOp_step ho (fun K' hK => h K' (fun a w hS hW => hK a w ⟨hS, hW⟩))
 ·exact hs j hj
/-- one operation alone may come up -/
theorem wpAnyG_only {fuel : Nat} {listed : Array Bool} {a : Act} {w : World} {i : Nat} {o : Oper} (hr : Region.ready md ops listed = [i]) (ho : ops[i]? = some o)
  (h : ∀ K' : Act → World → Prop, Shut (∀ a w, (M.contains i = true → S w) → wpAnyG P md ops Q S M fuel (listed.setIfInBounds i true) a w → K' a w) → if Region.wanted o (yielded ops a.tmps) = true then Oper.wp P o a w K' Q else K' (a.put o.dst undef) w) :
  wpAnyG P md ops Q S M (fuel + 1) listed a w := wpAnyG_ready hr (by simp) (AllReadyG.cons ho h AllReadyG.nil)
theorem wpAnyG_takeL {i : Nat} {oi : Oper} {v : Value} {fuel : Nat} {listed : Array Bool} {a : Act} {w : World} (hi : ops.toList[i]? = some oi)
  (hs : Region.noSelect ops = true) (hf : Region.free md ops listed i = true) (hr : (Region.ready md ops listed).contains i = true) (hM : othersWait md ops M i = true)
  (hQ : ∀ c a w, Q (.panic c) (a.put oi.dst v) w → Q (.panic c) a w) (hy : YieldsIf P ops S oi v a) (hS : S w)
  (h : wpAnyG P md ops Q S M fuel (listed.setIfInBounds i true) (a.put oi.dst v) w) : wpAnyG P md ops Q S M (fuel + 1) listed a w :=
 wpAnyG_take (by simpa using hi) hs hf hr hM hQ hy hS h
theorem wpAnyG_onlyL {fuel : Nat} {listed : Array Bool} {a : Act} {w : World} {i : Nat} {o : Oper} (hr : Region.ready md ops listed = [i]) (ho : ops.toList[i]? = some o)
  (h : ∀ K' : Act → World → Prop, Shut (∀ a w, (M.contains i = true → S w) → wpAnyG P md ops Q S M fuel (listed.setIfInBounds i true) a w → K' a w) → if Region.wanted o (yielded ops a.tmps) = true then Oper.wp P o a w K' Q else K' (a.put o.dst undef) w) :
  wpAnyG P md ops Q S M (fuel + 1) listed a w := wpAnyG_only hr (by simpa using ho) h
end
end Go.Proofs.Ytllnlimbfoingaa
