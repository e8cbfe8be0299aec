/- DERIVED. Chapter 25, plain: of one broker queries of one life wait. · DERIVED. A region that draws its order: quiet operations (loads, arithmetic, callees that keep all old memory), one allocation that is free to come up, one store that waits for all the others. Plain theorems over any program. -/
import Derived.Test.YtiednihagnehlaaY24
import Derived.Test.YtiednihagnehlaaY01
import Derived.Deep.Quiet
namespace Go.Proofs.Ytiednihagnehlaa

/-- all are of broker b and life g, and no two of one count -/
def Lv (b : Int) (g : Nat) (P : List (Int × PMs)) : Prop := (∀ x ∈ P, x.2.tb = b ∧ x.2.tl = g) ∧ P.Pairwise (fun x y => x.2.tc ≠ y.2.tc)
theorem Lv.nil (b : Int) (g : Nat) : Lv b g [] := ⟨fun _ h => (by cases h), List.Pairwise.nil⟩
theorem Lv.tail {b : Int} {g : Nat} {x : Int × PMs} {P : List (Int × PMs)} (h : Lv b g (x :: P)) : Lv b g P := ⟨fun y hy => h.1 y (List.mem_cons_of_mem _ hy), (List.pairwise_cons.1 h.2).2⟩
/-- a query of that broker comes -/
def lvRes (_b : Int) (l _c : Nat) (P P' : List (Int × PMs)) (g g' : Nat) (z : Int) (m : Bool) : Prop :=
 (z = 30 ∧ m = false ∧ P' = P ∧ g' = g) ∨ (z = 9 ∧ m = true ∧ P' = P ∧ g' = g) ∨ (z = 0 ∧ m = true ∧ g' = l ∧ P'.length ≤ P.length + 1)
theorem lv_add {b : Int} {g l c : Nat} {P : List (Int × PMs)} {k : Int} (h : Lv b g P) (hl : P.length < 100) :
  ∃ g', Lv b g' (addP 100 P (k, pAsk b l c)).2 ∧ lvRes b l c P (addP 100 P (k, pAsk b l c)).2 g g' (addP 100 P (k, pAsk b l c)).1 (mayM (pAsk b l c)) := by
 rw [addP_ask, may_ask]
 cases hm : (decide (0 ≤ b) && (decide (b < 64) && (numOk l && numOk c)))
 ·exact ⟨g, h, .inl ⟨rfl, rfl, rfl, rfl⟩⟩
 cases hs : P.any (staleP b l c)
 case true => exact ⟨g, h, .inr (.inl ⟨rfl, rfl, rfl, rfl⟩)⟩
 have hle : (P.filter fun y => !dropP b l y).length ≤ P.length := List.length_filter_le _ _
 have hd : decide (100 ≤ (P.filter fun y => !dropP b l y).length) = false := by simp; omega
 refine ⟨l, ?_, .inr (.inr ?_)⟩
 ·rw [if_pos rfl, if_neg (by simp), if_neg (by rw [hd]; simp)]
  rw [List.any_eq_false] at hs
  have key : ∀ x ∈ P.filter fun y => !dropP b l y, x.2.tb = b ∧ x.2.tl = l ∧ x.2.tc ≠ c := by
   intro x hx
   obtain ⟨hx, hxd⟩ := List.mem_filter.1 hx
   have hxs := hs x hx
   have hb := (h.1 x hx).1
   unfold staleP at hxs
   unfold dropP at hxd
   simp [hb] at hxs hxd
   have : x.2.tl = l := by omega
   exact ⟨hb, this, hxs.2 this⟩
  refine ⟨fun x hx => ?_, ?_⟩
  ·rcases List.mem_append.1 hx with hx | hx
   ·exact ⟨(key x hx).1, (key x hx).2.1⟩
   ·obtain rfl : x = (k, pAsk b l c) := by simpa using hx
    exact ⟨rfl, rfl⟩
  ·rw [List.pairwise_append]
   refine ⟨h.2.filter _, by simp, fun x hx y hy => ?_⟩
   obtain rfl : y = (k, pAsk b l c) := by simpa using hy
   exact (key x hx).2.2
 ·rw [if_pos rfl, if_neg (by simp), if_neg (by rw [hd]; simp)]
  exact ⟨rfl, rfl, rfl, by simp; omega⟩
end Go.Proofs.Ytiednihagnehlaa

namespace Go.Proofs.Ytiednihagnehlaa
open Go.RowKit

section
variable {P : Program} {ops : Array Oper} {md : Region.Mode} {S : World → Prop} {R : World → World → Prop}

/-- what is asked of an operation's outcome at w: the value v in the very world, or a call that hands back v and leaves a world that R allows -/
def rUpon (P : Program) (R : World → World → Prop) (w : World) (v : Value) : Result Next → Prop
 | .ok (.value u) w' => w' = w ∧ u = v
 | .ok (.enter f args) w' => w' = w ∧ Calls P f args w (fun e w'' => e = .returned v ∧ R w w'')
 | _ => False
/-- in every world of S the operation yields v (or is not wanted) -/
def YR (P : Program) (ops : Array Oper) (S : World → Prop) (R : World → World → Prop) (o : Oper) (v : Value) (a : Act) : Prop :=
 (Region.wanted o (yielded ops a.tmps) = true ∧ ∀ w, S w → rUpon P R w v ((execOp a.eval o).run P w)) ∨ (Region.wanted o (yielded ops a.tmps) = false ∧ v = undef)
theorem YR.of_same {o : Oper} {v : Value} {a a' : Act} (hy : YR P ops S R o v a) (he : execOp a'.eval o = execOp a.eval o)
  (hw : Region.wanted o (yielded ops a'.tmps) = Region.wanted o (yielded ops a.tmps)) : YR P ops S R o v a' := by
 unfold YR at *
 rw [he, hw]
 exact hy
theorem YR.wpOp {Q : Exit → Act → World → Prop} {j : Nat} {o : Oper} {v : Value} {a : Act} {w : World} {K : Act → World → Prop} (ho : ops[j]? = some o) (hy : YR P ops S R o v a) (hS : S w) (hrefl : R w w)
  (h : ∀ w', R w w' → K (a.put o.dst v) w') : wpOp P ops Q j K a w := by
 unfold Go.wpOp
 simp only [ho]
 rcases hy with ⟨hw, hv⟩ | ⟨hw, rfl⟩
 ·simp only [hw, if_true]
  left
  have h3 := hv w hS
  unfold Oper.wp
  generalize (execOp a.eval o).run P w = r at *
  cases r with
  | ok n w' =>
   cases n <;> simp only [rUpon] at h3 <;> simp only [Oper.upon]
   case value u =>
    obtain ⟨e1, e2⟩ := h3
    rw [e1, e2]
    exact h _ hrefl
   case enter f args =>
    obtain ⟨e1, hc⟩ := h3
    rw [e1]
    exact hc.mono fun e w'' ⟨he, hw''⟩ => by subst he; exact h _ hw''
  | halt x w' => simp only [rUpon] at h3
 ·simp only [hw, Bool.false_eq_true, if_false]
  exact h _ hrefl

def rOp (P : Program) (ops : Array Oper) (S : World → Prop) (R : World → World → Prop) (i : Nat) (K : Act → Prop) (a : Act) : Prop := ∃ o v, ops[i]? = some o ∧ YR P ops S R o v a ∧ K (a.put o.dst v)
/-- whatever order is picked from here on, up to the last one -/
def wpAnyR (P : Program) (md : Region.Mode) (ops : Array Oper) (S : World → Prop) (R : World → World → Prop) (stop : Nat) (Q : Act → Prop) : Nat → Array Bool → Act → Prop
 | 0, _, _ => False
 | fuel + 1, listed, a => Region.ready md ops listed ≠ [] ∧ (stop ∈ Region.ready md ops listed → Q a) ∧ ∀ i ∈ Region.ready md ops listed, i ≠ stop → rOp P ops S R i (wpAnyR P md ops S R stop Q fuel (listed.setIfInBounds i true)) a

/-- stop waits for all the others -/
def stopWaits (md : Region.Mode) (ops : Array Oper) (stop : Nat) : Bool :=
 match ops[stop]? with
 | none => false
 | some o => (List.range ops.size).all fun j => j == stop || o.after.any fun e => Region.binds md e && e.on == j
theorem stopWaits_spec {stop j : Nat} {listed : Array Bool} (h : stopWaits md ops stop = true) (hs : stop ∈ Region.ready md ops listed) (hj : j < ops.size) (hne : j ≠ stop) : listed.getD j false = true := by
 obtain ⟨_, o, ho, hall⟩ := mem_ready.1 hs
 unfold stopWaits at h
 rw [ho, List.all_eq_true] at h
 have := h j (List.mem_range.2 hj)
 have hb : (j == stop) = false := by simp [hne]
 rw [hb, Bool.false_or] at this
 obtain ⟨e, he, hb⟩ := Array.any_eq_true'.1 this
 simp only [Bool.and_eq_true, beq_iff_eq] at hb
 obtain ⟨hb1, rfl⟩ := hb
 exact hall e he hb1
theorem not_ready {stop i : Nat} {listed : Array Bool} (h : stopWaits md ops stop = true) (hi : listed.getD i true = false) (hlt : i < ops.size) (hne : i ≠ stop) : stop ∉ Region.ready md ops listed := fun hs => by
 have h1 := stopWaits_spec h hs hlt hne
 rcases Nat.lt_or_ge i listed.size with h' | h'
 ·simp [h'] at h1 hi; rw [hi] at h1; cases h1
 ·simp [Array.getElem?_eq_none h'] at hi

/-- an operation that may come up now may be taken first -/
theorem wpAnyR_first {Q : Act → Prop} {stop i : Nat} {oi : Oper} {v : Value} (hi : ops[i]? = some oi) (hsel : ∀ (j : Nat) (o : Oper) cs b, ops[j]? = some o → o.op ≠ .select cs b) (hst : stopWaits md ops stop = true) (his : i ≠ stop) :
  ∀ (fuel : Nat) (listed : Array Bool) (a : Act),
   (∀ j oj, ops[j]? = some oj → j ≠ i → listed.getD j true = false → (∀ e ∈ oj.after, Region.binds md e = true → e.on ≠ i) → oi.apart ops oj = true) →
   i ∈ Region.ready md ops listed → YR P ops S R oi v a →
   wpAnyR P md ops S R stop Q fuel (listed.setIfInBounds i true) (a.put oi.dst v) → wpAnyR P md ops S R stop Q (fuel + 1) listed a := by
 have hlt : i < ops.size := (Array.getElem?_eq_some_iff.1 hi).1
 intro fuel
 induction fuel with
 | zero => intro _ _ _ _ _ H; exact H.elim
 | succ fuel ih =>
  intro listed a hfree hr hy H
  refine ⟨fun h0 => (by rw [h0] at hr; cases hr), fun hs => absurd hs (not_ready hst (mem_ready.1 hr).1 hlt his), fun j hj hjs => ?_⟩
  by_cases hji : j = i
  ·subst hji; exact ⟨oi, v, hi, hy, H⟩
  ·obtain ⟨oj, u, hoj, hyj, hK⟩ := H.2.2 j (ready_mono hj hji) hjs
   obtain ⟨hjun, oj', hoj', hall⟩ := mem_ready.1 hj
   obtain rfl : oj' = oj := by rw [hoj] at hoj'; exact (Option.some.inj hoj').symm
   have hnot : ∀ e ∈ oj'.after, Region.binds md e = true → e.on ≠ i := fun e he hb heq => by
    have h1 := hall e he hb
    have h0 := (mem_ready.1 hr).1
    rw [heq] at h1
    rcases Nat.lt_or_ge i listed.size with h' | h'
    ·simp [h'] at h0 h1; rw [h0] at h1; cases h1
    ·simp [Array.getElem?_eq_none h'] at h1
   obtain ⟨h1, h2, h3⟩ := Oper.apart_spec (hfree j oj' hoj hji hjun hnot)
   refine ⟨oj', u, hoj, hyj.of_same (execOp_put oj' (fun cs b => hsel j oj' cs b hoj) a oi.dst v h1).symm (wanted_put oj' a oi.dst v h1).symm, ?_⟩
   have hfree' : ∀ k ok, ops[k]? = some ok → k ≠ i → (listed.setIfInBounds j true).getD k true = false →
     (∀ e ∈ ok.after, Region.binds md e = true → e.on ≠ i) → oi.apart ops ok = true := fun k ok hk hki hun hno => by
    refine hfree k ok hk hki ?_ hno
    by_cases hjk : j = k
    ·subst hjk; exact hjun
    ·rw [getD_set_ne true hjk] at hun; exact hun
   refine ih (listed.setIfInBounds j true) _ hfree' (ready_mono hr (Ne.symm hji)) (hy.of_same (execOp_put oi (fun cs b => hsel i oi cs b hi) a oj'.dst u h3) (wanted_put oi a oj'.dst u h3)) ?_
   rw [Array.setIfInBounds_comm _ _ hji, ← Act.put_comm a v u h2]
   exact hK
theorem wpAnyR_take {Q : Act → Prop} {stop i : Nat} {oi : Oper} {v : Value} {fuel : Nat} {listed : Array Bool} {a : Act} (hi : ops.toList[i]? = some oi) (hs : Region.noSelect ops = true) (hst : stopWaits md ops stop = true) (his : (i != stop) = true)
  (hf : Region.free md ops listed i = true) (hr : (Region.ready md ops listed).contains i = true) (hy : YR P ops S R oi v a)
  (h : wpAnyR P md ops S R stop Q fuel (listed.setIfInBounds i true) (a.put oi.dst v)) : wpAnyR P md ops S R stop Q (fuel + 1) listed a :=
 have hi' : ops[i]? = some oi := by simpa using hi
 wpAnyR_first hi' (Region.noSelect_spec hs) hst (by simpa using his) fuel listed a (Region.free_spec hi' hf) (by simpa using hr) hy h
theorem wpAnyR_stop {Q : Act → Prop} {stop fuel : Nat} {listed : Array Bool} {a : Act} (hr : Region.ready md ops listed = [stop]) (h : Q a) : wpAnyR P md ops S R stop Q (fuel + 1) listed a :=
 ⟨by rw [hr]; simp, fun _ => h, fun i hi hne => by rw [hr] at hi; exact absurd (by simpa using hi) hne⟩

/-- nothing is ready once all have come up -/
theorem ready_nil {listed : Array Bool} (h : ∀ j, j < ops.size → listed.getD j false = true) : Region.ready md ops listed = [] := by
 rw [List.eq_nil_iff_forall_not_mem]
 intro j hj
 obtain ⟨h0, o, ho, _⟩ := mem_ready.1 hj
 have h1 := h j (Array.getElem?_eq_some_iff.1 ho).1
 rcases Nat.lt_or_ge j listed.size with h' | h'
 ·simp [h'] at h0 h1; rw [h0] at h1; cases h1
 ·simp [Array.getElem?_eq_none h'] at h0

variable {Q' : Exit → Act → World → Prop} {B : Nat → World → Prop}
theorem wpAny_done' {listed : Array Bool} {a : Act} {w : World} (hr : Region.ready md ops listed = []) (h : Q' .normal a w) : ∀ fuel, wpAny P md ops Q' fuel listed a w
 | 0 => ⟨hr, h⟩
 | _ + 1 => ⟨fun _ => h, by rw [hr]; simp⟩
/-- behind the allocation -/
theorem wpAny_of_r2 {Q : Act → Prop} {A stop : Nat} {oA : Oper} (hA : ops[A]? = some oA) (hst : stopWaits md ops stop = true) (hss : stop < ops.size)
  (hsel : ∀ (j : Nat) (o : Oper) cs b, ops[j]? = some o → o.op ≠ .select cs b)
  (hap : ∀ j oj, ops[j]? = some oj → j ≠ A → j ≠ stop → oA.apart ops oj = true)
  (hBS : ∀ b w, B b w → S w) (hBR : ∀ b w w', B b w → R w w' → B b w') (hrefl : ∀ w, R w w)
  (hfin : ∀ a b w, B b w → Q a → wpOp P ops Q' stop (Q' .normal) (a.put oA.dst (.pointer (some ⟨b, 0, none⟩))) w) :
  ∀ (fuel : Nat) (listed : Array Bool) (a : Act) (b : Nat) (w : World), B b w → listed.size = ops.size → listed.getD A true = true → listed.getD stop true = false →
   wpAnyR P md ops S R stop Q fuel listed a → wpAny P md ops Q' fuel listed (a.put oA.dst (.pointer (some ⟨b, 0, none⟩))) w := by
 intro fuel
 induction fuel with
 | zero => intro _ _ _ _ _ _ _ _ H; exact H.elim
 | succ fuel ih =>
  intro listed a b w hB hsz hlA hls H
  refine ⟨fun h0 => absurd h0 H.1, fun j hj => ?_⟩
  by_cases hjs : j = stop
  ·subst hjs
   refine wpOp_mono (fun a' w' h' => wpAny_done' (ready_nil fun k hk => ?_) h' fuel) (hfin a b w hB (H.2.1 hj))
   by_cases hkj : k = j
   ·subst hkj
    simp [hsz, hk]
   ·exact getD_set_true (stopWaits_spec hst hj hk hkj)
  ·obtain ⟨oj, v, hoj, hy, hK⟩ := H.2.2 j hj hjs
   have hjA : j ≠ A := fun e => by
    subst e
    have h0 := (mem_ready.1 hj).1
    rw [hlA] at h0
    cases h0
   obtain ⟨h1, h2, _⟩ := Oper.apart_spec (hap j oj hoj hjA hjs)
   have hy' : YR P ops S R oj v (a.put oA.dst (.pointer (some ⟨b, 0, none⟩))) := hy.of_same (execOp_put oj (fun cs c => hsel j oj cs c hoj) a oA.dst _ h1) (wanted_put oj a oA.dst _ h1)
   refine hy'.wpOp hoj (hBS b w hB) (hrefl w) (fun w' hw' => ?_)
   rw [Act.put_comm a _ v h2]
   exact ih (listed.setIfInBounds j true) (a.put oj.dst v) b w' (hBR b w w' hB hw') (by simpa using hsz) (by
    by_cases hAj : A = j
    ·exact absurd hAj.symm hjA
    ·rw [getD_set_ne true (Ne.symm hAj)]; exact hlA) (by rw [getD_set_ne true hjs]; exact hls) hK
/-- ahead of the allocation -/
theorem wpAny_of_r1 {Q : Act → Prop} {A stop : Nat} {oA : Oper} (hA : ops[A]? = some oA) (hAf : oA.after = #[]) (hst : stopWaits md ops stop = true) (hss : stop < ops.size) (hAs : A ≠ stop)
  (hsel : ∀ (j : Nat) (o : Oper) cs b, ops[j]? = some o → o.op ≠ .select cs b)
  (hap : ∀ j oj, ops[j]? = some oj → j ≠ A → j ≠ stop → oA.apart ops oj = true)
  (hBS : ∀ b w, B b w → S w) (hBR : ∀ b w w', B b w → R w w' → B b w') (hSR : ∀ w w', S w → R w w' → S w') (hrefl : ∀ w, R w w)
  (hal : ∀ a w K, S w → (∀ b w', B b w' → K (a.put oA.dst (.pointer (some ⟨b, 0, none⟩))) w') → wpOp P ops Q' A K a w)
  (hfin : ∀ a b w, B b w → Q a → wpOp P ops Q' stop (Q' .normal) (a.put oA.dst (.pointer (some ⟨b, 0, none⟩))) w) :
  ∀ (fuel : Nat) (listed : Array Bool) (a : Act) (w : World), S w → listed.size = ops.size → listed.getD A true = false → listed.getD stop true = false →
   wpAnyR P md ops S R stop Q fuel (listed.setIfInBounds A true) a → wpAny P md ops Q' (fuel + 1) listed a w := by
 have hlt : A < ops.size := (Array.getElem?_eq_some_iff.1 hA).1
 intro fuel
 induction fuel with
 | zero => intro _ _ _ _ _ _ _ H; exact H.elim
 | succ fuel ih =>
  intro listed a w hS hsz hlA hls H
  have hrA : A ∈ Region.ready md ops listed := mem_ready.2 ⟨hlA, oA, hA, fun e he => by rw [hAf] at he; simp at he⟩
  refine ⟨fun h0 => (by rw [h0] at hrA; cases hrA), fun j hj => ?_⟩
  have hjs : j ≠ stop := fun e => absurd (e ▸ hj) (not_ready hst hlA hlt hAs)
  by_cases hjA : j = A
  ·subst hjA
   exact hal a w _ hS fun b w' hB => wpAny_of_r2 hA hst hss hsel hap hBS hBR hrefl hfin (fuel + 1) (listed.setIfInBounds j true) a b w' hB (by simpa using hsz) (by simp [hsz, hlt]) (by rw [getD_set_ne true hAs]; exact hls) H
  ·obtain ⟨oj, v, hoj, hy, hK⟩ := H.2.2 j (ready_mono hj hjA) hjs
   refine hy.wpOp hoj hS (hrefl w) (fun w' hw' => ?_)
   refine ih (listed.setIfInBounds j true) (a.put oj.dst v) w' (hSR w w' hS hw') (by simpa using hsz) (by rw [getD_set_ne true hjA]; exact hlA) (by rw [getD_set_ne true hjs]; exact hls) ?_
   rw [Array.setIfInBounds_comm _ _ hjA]
   exact hK
/-- the region -/
theorem wp_region_r {id n : Nat} {a : Act} {w : World} {Q : Act → Prop} (A stop : Nat) {oA : Oper} (hm : P.follows .mixedOrders = true) (hn : ops.size = n + 1) (hA : ops.toList[A]? = some oA) (hAf : oA.after = #[]) (hst : stopWaits .any ops stop = true) (hss' : Nat.blt stop ops.size = true) (hAs : (A != stop) = true)
  (hsel : Region.noSelect ops = true) (hap : ((List.range ops.size).all fun j => j == A || (j == stop || match ops[j]? with | some oj => oA.apart ops oj | none => true)) = true)
  (hBS : ∀ b w, B b w → S w) (hBR : ∀ b w w', B b w → R w w' → B b w') (hSR : ∀ w w', S w → R w w' → S w') (hrefl : ∀ w, R w w)
  (hal : ∀ a w K, S w → (∀ b w', B b w' → K (a.put oA.dst (.pointer (some ⟨b, 0, none⟩))) w') → wpOp P ops Q' A K a w)
  (hfin : ∀ a b w, B b w → Q a → wpOp P ops Q' stop (Q' .normal) (a.put oA.dst (.pointer (some ⟨b, 0, none⟩))) w) (hS : S w.drew)
  (h : Region.noSelect ops = true → stopWaits .any ops stop = true → wpAnyR P .any ops S R stop Q n ((Array.replicate (n + 1) false).setIfInBounds A true) a) : (Code.region id ops true).wp P Q' a w := by
 have hA' : ops[A]? = some oA := by simpa using hA
 have hss : stop < ops.size := by simpa using hss'
 have hlt : A < ops.size := (Array.getElem?_eq_some_iff.1 hA').1
 refine wp_region_any hm ?_
 have h1 := wpAny_of_r1 (md := .any) (Q' := Q') hA' hAf hst hss (by simpa using hAs) (Region.noSelect_spec hsel) (fun j oj hj hjA hjs => by
  rw [List.all_eq_true] at hap
  have := hap j (List.mem_range.2 (Array.getElem?_eq_some_iff.1 hj).1)
  rw [hj] at this
  have e1 : (j == A) = false := by simp [hjA]
  have e2 : (j == stop) = false := by simp [hjs]
  simpa [e1, e2] using this) hBS hBR hSR hrefl hal hfin n (Array.replicate (n + 1) false) a w.drew hS (by simp [hn]) (by simp [← hn, hlt]) (by simp [← hn, hss]) (h hsel hst)
 rw [← hn] at h1
 exact h1
theorem YR.value {o : Oper} {v : Value} {a : Act} (hw : Region.wanted o (yielded ops a.tmps) = true) (h : ∀ w, S w → (execOp a.eval o).run P w = .ok (.value v) w) : YR P ops S R o v a :=
 .inl ⟨hw, fun w hS => by rw [h w hS]; exact ⟨rfl, rfl⟩⟩
theorem YR.call {o : Oper} {v : Value} {a : Act} {f : FuncId} {args : Array Value} (hw : Region.wanted o (yielded ops a.tmps) = true) (h : ∀ w, S w → (execOp a.eval o).run P w = .ok (.enter f args) w)
  (hc : ∀ w, S w → Calls P f args w fun e w'' => e = .returned v ∧ R w w'') : YR P ops S R o v a :=
 .inl ⟨hw, fun w hS => by rw [h w hS]; exact ⟨rfl, hc w hS⟩⟩
/-- v, if wanted -/
def gv (z : Bool) (v : Value) : Value := if z = true then v else undef
theorem YR.ite {o : Oper} {v : Value} {a : Act} (z : Bool) (h1 : z = true → YR P ops S R o v a) (h0 : z = false → Region.wanted o (yielded ops a.tmps) = false) : YR P ops S R o (gv z v) a := by
 cases z
 ·exact .inr ⟨h0 rfl, rfl⟩
 ·exact h1 rfl
theorem wpOp_skip {i : Nat} {o : Oper} {a : Act} {w w' : World} {K : Act → World → Prop} (hi : ops.toList[i]? = some o) (hw : Region.wanted o (yielded ops a.tmps) = true) (hr : (execOp a.eval o).run P w = .ok .skip w') (h : K (a.put o.dst undef) w') : wpOp P ops Q' i K a w := by
 have hi' : ops[i]? = some o := by simpa using hi
 unfold Go.wpOp
 simp only [hi', hw, if_true]
 left
 unfold Oper.wp
 rw [hr]
 exact h
theorem wpOp_value {i : Nat} {o : Oper} {v : Value} {a : Act} {w w' : World} {K : Act → World → Prop} (hi : ops.toList[i]? = some o) (hw : o.guard = none) (hr : (execOp a.eval o).run P w = .ok (.value v) w') (h : K (a.put o.dst v) w') : wpOp P ops Q' i K a w := by
 have hi' : ops[i]? = some o := by simpa using hi
 have hw' : Region.wanted o (yielded ops a.tmps) = true := by unfold Region.wanted; rw [hw]
 unfold Go.wpOp
 simp only [hi', hw', if_true]
 left
 unfold Oper.wp
 rw [hr]
 exact h
end
end Go.Proofs.Ytiednihagnehlaa
