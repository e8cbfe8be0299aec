/- DERIVED. Chapter 20: maps keyed by two numbers (a session). · DERIVED. Chapter 20: the laws' world in memory: two ends, the packets on their way, what was sent and told. · DERIVED. Chapter 20: the laws' world: its ways, a new end. -/
import Derived.Test.YtllnlimbfoingaaY08
import Derived.MapKept
import Derived.Test.YtllnlimbfoingaaY09
namespace Go.Proofs.Ytllnlimbfoingaa
open Go.RowKit Go.Conc

/-- a session's value -/
def ses (k : Nat × Nat) : Value := .agg #[.int .u64 (k.1 : Int), .int .u64 (k.2 : Int)]
/-- what a map holds of one session -/
structure Se where
 k : Nat × Nat
 r : Value × List Bv
 born : Nat
def Se.ent (e : Se) : MapEntry := ⟨ses e.k, e.r.1, e.born⟩
theorem check_ses (em : Bool) (k : Nat × Nat) (w : World) : (Instr.checkKey em 10000 74 (ses k)).run Try.prog w = .ok () w := by kernel_rfl
theorem eqs_u64 (d : Nat) (x y : Int) (W : World) : (Op.equalIn (d+1) 22 (.int .u64 x) (.int .u64 y)).run Try.prog W = .ok (x == y) W := by
 unfold Op.equalIn; simp [go_sem]
set_option maxRecDepth 100000 in
theorem eqs_in (m : Nat) (F : ∀ x y W, (Op.equalIn m 22 (.int .u64 x) (.int .u64 y)).run Try.prog W = .ok (x == y) W) (a a' b b' : Int) (W : World) :
  (Op.equalIn (m+1) 74 (.agg #[.int .u64 a, .int .u64 b]) (.agg #[.int .u64 a', .int .u64 b'])).run Try.prog W = .ok (a == a' && b == b') W := by
 have hst : Try.prog.stoodInHeld 74 = false := by kernel_rfl
 unfold Op.equalIn
 cases h1 : (a == a')
 ·simp [go_sem, hst, F, h1]
 ·cases h2 : (b == b') <;> simp [go_sem, hst, F, h1, h2]
set_option maxRecDepth 100000 in
theorem equal_ses (k q : Nat × Nat) (w : World) : (Op.equal 74 (ses k) (ses q)).run Try.prog w = .ok (decide (k = q)) w := by
 obtain ⟨a, b⟩ := k
 obtain ⟨c, d⟩ := q
 have h := eqs_in 9999 (eqs_u64 9998) a c b d w
 have e : (Op.equal 74 (ses (a, b)) (ses (c, d))).run Try.prog w = .ok (((a : Int) == (c : Int)) && ((b : Int) == (d : Int))) w := by
  simp [Op.equal, Op.maxDepth, ses, h]
 rw [e]
 congr 1
 by_cases h1 : a = c <;> by_cases h2 : b = d <;> simp [h1, h2] <;> omega
/-- where a key stands -/
def findS (k : Nat × Nat) : List Se → Nat → Option (Nat × Value)
 | [], _ => none
 | e :: r, i => if k = e.k then some (i, e.r.1) else findS k r (i + 1)
theorem asking_ses (k : Nat × Nat) (w : World) : ∀ (es : List Se) (i : Nat), (Instr.findAsking 74 (ses k) (es.map Se.ent) i).run Try.prog w = .ok (findS k es i) w
 | [], _ => rfl
 | e :: r, i => by
  have ih := asking_ses k w r (i + 1)
  simp only [List.map_cons, Instr.findAsking, Sem.run_bind, Se.ent, equal_ses, Result.andThen, findS]
  by_cases h : k = e.k
  ·rw [decide_eq_true h, if_pos h]; rfl
  ·rw [decide_eq_false h, if_neg h]; exact ih
theorem find_ses (k : Nat × Nat) (es : List Se) (w : World) : (Instr.findKey 74 (ses k) (es.map Se.ent)).run Try.prog w = .ok (findS k es 0) w := by
 cases es with
 | nil => simp [Instr.findKey, Instr.findNow, findS, go_sem]
 | cons e r =>
  have h := asking_ses k w (e :: r) 0
  have hn : ∀ fs, Instr.findNow (.struct fs) (ses k) ((e :: r).map Se.ent) 0 = none := fun fs => rfl
  simp only [Instr.findKey, Sem.run_bind, run_underlying Try.underlying74, Result.andThen]
  rw [hn]
  exact h
/-- what a map holds: of each session its slice, and what that reads as -/
def lookS (es : List Se) (k : Nat × Nat) : Value × List Bv := ((es.find? fun e => decide (k = e.k)).map (·.r)).getD (.slice none 0 0, [])
theorem findS_none {k : Nat × Nat} : ∀ (es : List Se) (i : Nat), findS k es i = none → (∀ e ∈ es, k ≠ e.k) ∧ lookS es k = (.slice none 0 0, [])
 | [], _, _ => ⟨fun _ h => (by cases h), rfl⟩
 | e :: r, i, h => by
  unfold findS at h
  split at h
  ·cases h
  ·rename_i hne
   obtain ⟨h1, h2⟩ := findS_none r (i + 1) h
   refine ⟨fun x hx => ?_, ?_⟩
   ·rcases List.mem_cons.1 hx with rfl | hx
    ·exact hne
    ·exact h1 x hx
   ·unfold lookS at h2 ⊢
    rw [List.find?_cons, decide_eq_false hne]
    exact h2
theorem findS_some {k : Nat × Nat} {v : Value} {j : Nat} : ∀ (es : List Se) (i : Nat), findS k es i = some (j, v) → ∃ e, i ≤ j ∧ es[j - i]? = some e ∧ e.k = k ∧ e.r.1 = v ∧ lookS es k = e.r
 | [], _, h => by cases h
 | e :: r, i, h => by
  unfold findS at h
  split at h
  ·rename_i he
   simp only [Option.some.injEq, Prod.mk.injEq] at h
   obtain ⟨rfl, rfl⟩ := h
   refine ⟨e, Nat.le_refl _, by simp, he.symm, rfl, ?_⟩
   unfold lookS
   rw [List.find?_cons, decide_eq_true he]
   rfl
  ·rename_i hne
   obtain ⟨x, h1, h2, h3, h4, h5⟩ := findS_some r (i + 1) h
   refine ⟨x, by omega, ?_, h3, h4, ?_⟩
   ·rw [show j - i = (j - (i + 1)) + 1 from by omega, List.getElem?_cons_succ]
    exact h2
   ·unfold lookS at h5 ⊢
    rw [List.find?_cons, decide_eq_false hne]
    exact h5
/-- the map at block m holds f -/
def SeM (w : World) (m : Nat) (f : Nat × Nat → Value × List Bv) : Prop := ∃ (es : List Se) (clk : Nat), w.heap[m]? = some (.map (es.map Se.ent).toArray clk) ∧ (∀ e ∈ es, e.born < clk) ∧ (es.map (·.born)).Nodup ∧ (es.map (·.k)).Nodup ∧ ∀ k, f k = lookS es k
/-- the same, and the entry of k was born at st -/
def SeT (w : World) (m : Nat) (f : Nat × Nat → Value × List Bv) (k : Nat × Nat) (st : Nat) : Prop := ∃ (es : List Se) (clk : Nat), w.heap[m]? = some (.map (es.map Se.ent).toArray clk) ∧ (∀ e ∈ es, e.born < clk) ∧ (es.map (·.born)).Nodup ∧ (es.map (·.k)).Nodup ∧ (∀ k, f k = lookS es k) ∧ ∃ e ∈ es, e.k = k ∧ e.born = st
theorem SeM.keeps {S : Nat → Prop} {w w' : World} {m : Nat} {f : Nat × Nat → Value × List Bv} (h : SeM w m f) (hk : Keeps S w w') (hS : ¬ S m) : SeM w' m f := by
 obtain ⟨es, clk, h1, h2⟩ := h
 exact ⟨es, clk, (hk.block m (Array.getElem?_eq_some_iff.1 h1).1 hS).trans h1, h2⟩
theorem SeT.keeps {S : Nat → Prop} {w w' : World} {m st : Nat} {f : Nat × Nat → Value × List Bv} {k : Nat × Nat} (h : SeT w m f k st) (hk : Keeps S w w') (hS : ¬ S m) : SeT w' m f k st := by
 obtain ⟨es, clk, h1, h2⟩ := h
 exact ⟨es, clk, (hk.block m (Array.getElem?_eq_some_iff.1 h1).1 hS).trans h1, h2⟩
theorem SeM.lt {w : World} {m : Nat} {f : Nat × Nat → Value × List Bv} (h : SeM w m f) : m < w.heap.size := by
 obtain ⟨es, clk, h1, _⟩ := h
 exact (Array.getElem?_eq_some_iff.1 h1).1
theorem SeM.new (w : World) : SeM (w.alloc (.map #[] 0)) w.heap.size (fun _ => (.slice none 0 0, [])) := ⟨[], 0, heap_alloc_new _ _, fun _ h => (by cases h), List.nodup_nil, List.nodup_nil, fun _ => rfl⟩
set_option maxRecDepth 100000 in
theorem lookup_ses {w : World} {m : Nat} {f : Nat × Nat → Value × List Bv} (h : SeM w m f) (k : Nat × Nat) : (Instr.lookup 68 (.map (some m)) (ses k) false).run Try.prog w = .ok (f k).1 w := by
 obtain ⟨es, clk, h1, h2, h3, h4, h5⟩ := h
 have hf := find_ses k es w
 rw [h5 k]
 have hz : (zeroValue 53).run Try.prog w = .ok (.slice none 0 0) w := by simp [go_sem]
 cases hs : findS k es 0 with
 | none =>
  rw [hs] at hf
  obtain ⟨_, g2⟩ := findS_none es 0 hs
  rw [g2]
  simp [Instr.lookup, run_underlying Try.underlying68, MapKept.run_getObj_map h1, check_ses, hf, hz, Result.andThen]
 | some x =>
  obtain ⟨j, v⟩ := x
  rw [hs] at hf
  obtain ⟨e, _, _, _, g4, g5⟩ := findS_some es 0 hs
  rw [g5, g4]
  simp [Instr.lookup, run_underlying Try.underlying68, MapKept.run_getObj_map h1, check_ses, hf, Result.andThen]
theorem same_ses (k : Nat × Nat) : Instr.sameBits 10000 (ses k) (ses k) = true := by
 obtain ⟨a, b⟩ := k
 simp [ses, Instr.sameBits]
theorem stays_ses (k : Nat × Nat) (w : World) : (Instr.keyThatStays (ses k) (ses k)).run Try.prog w = .ok (ses k) w := by
 simp [Instr.keyThatStays, same_ses]
theorem modify_same {es : List Se} {j : Nat} {e : Se} (h : es[j]? = some e) : ((es.map Se.ent).modify j fun x => { x with key := ses e.k }) = es.map Se.ent := by
 apply List.ext_getElem?
 intro i
 rw [List.getElem?_modify]
 split
 ·rename_i hij
  subst hij
  simp only [List.getElem?_map, h, Option.map_some]
  rfl
 ·simp
theorem mapEntry_ses {w : World} {m : Nat} {f : Nat × Nat → Value × List Bv} (h : SeM w m f) (k : Nat × Nat) :
  ∃ (st : Nat) (w' : World), (Instr.mapEntry 68 (.map (some m)) (ses k)).run Try.prog w = .ok (.tuple #[(f k).1, goInt st]) w' ∧ SeT w' m f k st ∧ Keeps (fun b => b = m) w w' := by
 obtain ⟨es, clk, h1, h2, h3, h4, h5⟩ := h
 have hlt : m < w.heap.size := (Array.getElem?_eq_some_iff.1 h1).1
 have hf := find_ses k es w
 have hz : (zeroValue 53).run Try.prog w = .ok (.slice none 0 0) w := by simp [go_sem]
 have hk : ∀ o : Obj, Keeps (fun b => b = m) w { w with heap := w.heap.setIfInBounds m o } := fun o => ⟨rfl, rfl, rfl, by simp, fun i _ hi => by simp [Ne.symm hi]⟩
 cases hs : findS k es 0 with
 | none =>
  rw [hs] at hf
  obtain ⟨g1, g2⟩ := findS_none es 0 hs
  refine ⟨clk, { w with heap := w.heap.setIfInBounds m (.map ((es.map Se.ent).toArray.push ⟨ses k, .slice none 0 0, clk⟩) (clk + 1)) }, ?_, ⟨es ++ [⟨k, (.slice none 0 0, []), clk⟩], clk + 1, ?_, ?_, ?_, ?_, ?_, ?_⟩, hk _⟩
  ·rw [h5 k, g2]
   simp [Instr.mapEntry, run_underlying Try.underlying68, MapKept.run_getObj_map h1, check_ses, hf, hz, MapKept.run_setObj_map _ h1, Result.andThen]
  ·simp [hlt, Se.ent]
  ·intro e he
   rcases List.mem_append.1 he with he | he
   ·exact Nat.lt_succ_of_lt (h2 e he)
   ·rw [List.mem_singleton.1 he]; exact Nat.lt_succ_self _
  ·rw [List.map_append, List.nodup_append]
   refine ⟨h3, by simp, fun a ha b hb => ?_⟩
   obtain ⟨e, he, rfl⟩ := List.mem_map.1 ha
   simp only [List.map_cons, List.map_nil, List.mem_singleton] at hb
   have := h2 e he
   omega
  ·rw [List.map_append, List.nodup_append]
   refine ⟨h4, by simp, fun a ha b hb => ?_⟩
   obtain ⟨e, he, rfl⟩ := List.mem_map.1 ha
   simp only [List.map_cons, List.map_nil, List.mem_singleton] at hb
   subst hb
   exact fun e' => g1 e he e'.symm
  ·intro q
   rw [h5 q]
   unfold lookS
   rw [List.find?_append]
   cases hq : es.find? (fun e => decide (q = e.k)) with
   | some x => rfl
   | none =>
    by_cases hqk : q = k
    ·simp [hqk]
    ·simp [hqk]
  ·exact ⟨_, List.mem_append_right _ (List.mem_singleton.2 rfl), rfl, rfl⟩
 | some x =>
  obtain ⟨j, v⟩ := x
  rw [hs] at hf
  obtain ⟨e, _, g2, g3, g4, g5⟩ := findS_some es 0 hs
  rw [Nat.sub_zero] at g2
  refine ⟨e.born, { w with heap := w.heap.setIfInBounds m (.map (es.map Se.ent).toArray clk) }, ?_, ⟨es, clk, by simp [hlt], h2, h3, h4, h5, ⟨e, List.mem_of_getElem? g2, g3, rfl⟩⟩, hk _⟩
  subst g3
  have hms := modify_same g2
  rw [h5 e.k, g5, g4]
  have hkey : e.ent.key = ses e.k := rfl
  have hborn : e.ent.born = e.born := rfl
  simp [Instr.mapEntry, run_underlying Try.underlying68, MapKept.run_getObj_map h1, check_ses, hf, g2, hkey, hborn, stays_ses, hms, MapKept.run_setObj_map _ h1, Result.andThen]
/-- the map with k's row changed -/
def putS (f : Nat × Nat → Value × List Bv) (k : Nat × Nat) (r : Value × List Bv) : Nat × Nat → Value × List Bv := fun q => if q = k then r else f q
theorem look_set (es : List Se) (k q : Nat × Nat) (r : Value × List Bv) (hk : ∃ e ∈ es, e.k = k) : lookS (es.map fun e => if e.k = k then { e with r := r } else e) q = if q = k then r else lookS es q := by
 unfold lookS
 induction es with
 | nil => obtain ⟨_, h, _⟩ := hk; cases h
 | cons x l ih =>
  rw [List.map_cons, List.find?_cons, List.find?_cons]
  by_cases hx : x.k = k
  ·rw [if_pos hx]
   by_cases hq : q = k
   ·have e1 : decide (q = x.k) = true := decide_eq_true (hq.trans hx.symm)
    simp only [e1, if_pos hq]
    rfl
   ·have e1 : decide (q = x.k) = false := decide_eq_false (fun h => hq (h.trans hx))
    simp only [e1, if_neg hq]
    by_cases hl : ∃ e ∈ l, e.k = k
    ·have := ih hl
     rw [if_neg hq] at this
     exact this
    ·have : (l.map fun e => if e.k = k then { e with r := r } else e) = l := by
      conv => rhs; rw [← List.map_id l]
      refine List.map_congr_left (fun e he => ?_)
      rw [if_neg (fun h => hl ⟨e, he, h⟩)]; rfl
     rw [this]
  ·rw [if_neg hx]
   have hl : ∃ e ∈ l, e.k = k := by
    obtain ⟨e, he, hk⟩ := hk
    rcases List.mem_cons.1 he with rfl | he
    ·exact absurd hk hx
    ·exact ⟨e, he, hk⟩
   by_cases hq : q = x.k
   ·have e1 : decide (q = x.k) = true := decide_eq_true hq
    simp only [e1]
    rw [if_neg (fun h => hx (hq ▸ h))]
   ·have e1 : decide (q = x.k) = false := decide_eq_false hq
    simp only [e1]
    exact ih hl
theorem nodup_at {α : Type} {l : List α} (h : l.Nodup) {i j : Nat} {a : α} (hi : l[i]? = some a) (hj : l[j]? = some a) : i = j := by
 obtain ⟨h1, e1⟩ := List.getElem?_eq_some_iff.1 hi
 obtain ⟨h2, e2⟩ := List.getElem?_eq_some_iff.1 hj
 have hp := List.pairwise_iff_getElem.1 (show l.Pairwise (· ≠ ·) from h)
 rcases Nat.lt_trichotomy i j with h | h | h
 ·exact absurd (e1.trans e2.symm) (hp i j h1 h2 h)
 ·exact h
 ·exact absurd (e2.trans e1.symm) (hp j i h2 h1 h)
theorem nodup_key {es : List Se} (h3 : (es.map (·.born)).Nodup) (h4 : (es.map (·.k)).Nodup) {a b : Se} (ha : a ∈ es) (hb : b ∈ es) : a.born = b.born ↔ a.k = b.k := by
 obtain ⟨i, hi⟩ := List.mem_iff_getElem?.1 ha
 obtain ⟨j, hj⟩ := List.mem_iff_getElem?.1 hb
 constructor
 ·intro h
  have := nodup_at h3 (i := i) (j := j) (a := a.born) (by simp [hi]) (by simp [hj, h])
  subst this
  rw [hi] at hj
  cases hj; rfl
 ·intro h
  have := nodup_at h4 (i := i) (j := j) (a := a.k) (by simp [hi]) (by simp [hj, h])
  subst this
  rw [hi] at hj
  cases hj; rfl
theorem entryStore_ses {w : World} {m st : Nat} {f : Nat × Nat → Value × List Bv} {k : Nat × Nat} (h : SeT w m f k st) (T : TypeId) (r : Value × List Bv) :
  ∃ w' : World, (Instr.entryStore T (.map (some m)) (goInt st) r.1).run Try.prog w = .ok () w' ∧ SeM w' m (putS f k r) ∧ Keeps (fun b => b = m) w w' := by
 obtain ⟨es, clk, h1, h2, h3, h4, h5, e, he, ek, eb⟩ := h
 have hlt : m < w.heap.size := (Array.getElem?_eq_some_iff.1 h1).1
 obtain ⟨j, hj, hje⟩ := List.getElem_of_mem he
 have hje' : es[j]? = some e := by rw [List.getElem?_eq_getElem hj, hje]
 have hfi : (es.map Se.ent).findIdx? (fun x => ((x.born : Nat) : Int) == ((st : Nat) : Int)) = some j := by
  rw [List.findIdx?_eq_some_iff_getElem]
  refine ⟨by simpa using hj, ?_, fun i hi => ?_⟩
  ·simp [hje, Se.ent, eb]
  ·have hi' : i < es.length := by omega
   simp only [List.getElem_map, Se.ent, Bool.not_eq_true, beq_eq_false_iff_ne, ne_eq, Int.natCast_inj]
   intro hb
   have hk := (nodup_key h3 h4 (List.getElem_mem hi') he).1 (by rw [hb, eb])
   have hn := nodup_at h4 (i := i) (j := j) (a := e.k) (by simp [hi', hk]) (by simp [hje'])
   omega
 refine ⟨{ w with heap := w.heap.setIfInBounds m (.map ((es.map fun x => if x.k = k then { x with r := r } else x).map Se.ent).toArray clk) }, ?_, ⟨es.map fun x => if x.k = k then { x with r := r } else x, clk, by simp [hlt], ?_, ?_, ?_, fun q => ?_⟩, ⟨rfl, rfl, rfl, by simp, fun i _ hi => by simp [Ne.symm hi]⟩⟩
 ·have hmod : ((es.map Se.ent).modify j fun x => { x with val := r.1 }) = (es.map fun x => if x.k = k then { x with r := r } else x).map Se.ent := by
   apply List.ext_getElem?
   intro i
   rw [List.getElem?_modify, List.getElem?_map, List.getElem?_map, List.getElem?_map]
   by_cases hij : j = i
   ·subst hij
    rw [hje']
    simp [ek, Se.ent]
   ·cases hei : es[i]? with
    | none => simp
    | some x =>
     have hxk : x.k ≠ k := fun hx => by
      exact hij (nodup_at h4 (i := j) (j := i) (a := k) (by simp [hje', ek]) (by simp [hei, hx]))
     simp [hij, hxk]
  simp [Instr.entryStore, MapKept.run_getObj_map h1, goInt, asInt, asIntOf, hfi, hmod, MapKept.run_setObj_map _ h1, Result.andThen]
 ·intro x hx
  obtain ⟨y, hy, rfl⟩ := List.mem_map.1 hx
  split
  ·exact h2 y hy
  ·exact h2 y hy
 ·have : ((es.map fun x => if x.k = k then { x with r := r } else x).map (·.born)) = es.map (·.born) := by
   rw [List.map_map]
   refine List.map_congr_left (fun x _ => ?_)
   simp only [Function.comp]
   split <;> rfl
  rw [this]; exact h3
 ·have : ((es.map fun x => if x.k = k then { x with r := r } else x).map (·.k)) = es.map (·.k) := by
   rw [List.map_map]
   refine List.map_congr_left (fun x _ => ?_)
   simp only [Function.comp]
   split <;> rfl
  rw [this]; exact h4
 ·rw [look_set es k q r ⟨e, he, ek⟩]
  unfold putS
  split
  ·rfl
  ·exact h5 q
end Go.Proofs.Ytllnlimbfoingaa

namespace Go.Proofs.Ytllnlimbfoingaa
open Go.RowKit Go.Conc

/-- whose a block is -/
inductive Cp where
 | wb
 | mp (s i : Bool)
 | row (s i : Bool) (k : Nat × Nat)
 | way (i : Bool)
abbrev Own := Nat → Option Cp
def ownB (own : Own) (k : Nat) : Prop := ∃ c, own k = some c
abbrev SeRows := Bool → Bool → Nat × Nat → Value × List Bv
def wdCells (lb : Bool → Nat) (V : Bool → Value) (e : Bool → En) (mb : Bool → Bool → Nat) : List Value :=
 [.pointer (some ⟨lb false, 0, none⟩), V false, .int .u64 ((e false).life : Int), .pointer (some ⟨lb true, 0, none⟩), V true, .int .u64 ((e true).life : Int), .map (some (mb false false)), .map (some (mb false true)), .map (some (mb true false)), .map (some (mb true true))]
/-- the world at block wb; s = false: sent, s = true: told -/
structure Wm (w0 w : World) (wb : Nat) (lb : Bool → Nat) (R : Bool → Nat → Prop) (own : Own) (mb : Bool → Bool → Nat) (F : SeRows) (V : Bool → Value) (X : Bool → List Pv) (W : Wd) : Prop where
 duo : Duo (ownB own) R w lb W.e
 blk : w.heap[wb]? = some (.cells (wdCells lb V W.e mb).toArray 71 (0, 0))
 owb : own wb = some .wb
 maps : ∀ s i, SeM w (mb s i) (F s i)
 omap : ∀ s i, own (mb s i) = some (.mp s i)
 rows : ∀ s i k, OwnsR w w0.heap.size 32 1 bvL (F s i k).1 (F s i k).2
 orow : ∀ s i k b, (F s i k).1.ownBlock = some b → own b = some (.row s i k)
 ways : ∀ i, OwnsR w w0.heap.size 37 5 Pv.cells (V i) (X i)
 oway : ∀ i b, (V i).ownBlock = some b → own b = some (.way i)
 data : ∀ w', Keeps (fun k => ownB own k ∨ R false k ∨ R true k) w w' → (∀ s i k, ∀ x ∈ (F s i k).2, Sees w' x.1 x.2 ∧ x.2.length ≤ 140737488355328) ∧ ∀ i, ∀ x ∈ X i, Sees w' x.v x.d ∧ x.d.length ≤ 140737488355328
 lo : ∀ k, ownB own k ∨ R false k ∨ R true k → w0.heap.size ≤ k
 old : Old w0 w
 sent : ∀ i k, W.sent i k = (F false i k).2.map (·.2)
 told : ∀ i k, W.told i k = (F true i k).2.map (·.2)
 way : ∀ i, W.way i = (X i).map Pv.plain
def Wx (w0 w : World) (wb : Nat) (W : Wd) : Prop := ∃ lb R own mb F V X, Wm w0 w wb lb R own mb F V X W
section
variable {w0 w w1 : World} {wb : Nat} {lb : Bool → Nat} {R : Bool → Nat → Prop} {own : Own} {mb : Bool → Bool → Nat} {F : SeRows} {V : Bool → Value} {X : Bool → List Pv} {W : Wd}
theorem Wm.lt (h : Wm w0 w wb lb R own mb F V X W) (k : Nat) (hk : ownB own k) : k < w.heap.size ∧ ∀ i, ¬ R i k := ⟨(h.duo.lt false).2.2.1 k hk, fun i => (h.duo.lt i).2.1 k hk⟩
/-- the law wrote what is of C -/
theorem Wm.frame (h : Wm w0 w wb lb R own mb F V X W) (C : Cp → Prop) (own' : Own) (hk : Keeps (fun k => ∃ c, own k = some c ∧ C c) w w1) (hn : ∀ k, own' k = own k ∨ (w.heap.size ≤ k ∧ k < w1.heap.size ∧ ∃ c, own' k = some c ∧ C c)) :
  Duo (ownB own') R w1 lb W.e ∧ (¬ C .wb → w1.heap[wb]? = w.heap[wb]?) ∧ (∀ k, k < w.heap.size → own' k = own k) ∧ (∀ s i, ¬ C (.mp s i) → SeM w1 (mb s i) (F s i)) ∧
   (∀ s i k, ¬ C (.row s i k) → OwnsR w1 w0.heap.size 32 1 bvL (F s i k).1 (F s i k).2) ∧ (∀ i, ¬ C (.way i) → OwnsR w1 w0.heap.size 37 5 Pv.cells (V i) (X i)) ∧
   (∀ w', Keeps (fun k => ownB own' k ∨ R false k ∨ R true k) w1 w' → (∀ s i k, ∀ x ∈ (F s i k).2, Sees w' x.1 x.2 ∧ x.2.length ≤ 140737488355328) ∧ ∀ i, ∀ x ∈ X i, Sees w' x.v x.d ∧ x.d.length ≤ 140737488355328) ∧
   (∀ k, ownB own' k ∨ R false k ∨ R true k → w0.heap.size ≤ k) ∧ Old w0 w1 := by
 have hkM : Keeps (ownB own) w w1 := hk.weaken (fun k _ e => by obtain ⟨c, e, _⟩ := e; exact ⟨c, e⟩)
 have ho : ∀ k, ownB own' k → ownB own k ∨ w.heap.size ≤ k := fun k e => by
  rcases hn k with h | h
  ·left; obtain ⟨c, e⟩ := e; exact ⟨c, h ▸ e⟩
  ·exact .inr h.1
 have hz := h.old.size
 have ne : ∀ {b : Nat} {c : Cp}, own b = some c → ¬ C c → ¬ ∃ c', own b = some c' ∧ C c' := fun hb hc ⟨c', e, hC⟩ => by
  rw [hb] at e
  cases e
  exact hc hC
 refine ⟨h.duo.mem hkM ho (fun k e => ?_), fun hc => hk.block wb (lt_of_block h.blk) (ne h.owb hc), fun k hlt => ?_, fun s i hc => (h.maps s i).keeps hk (ne (h.omap s i) hc), fun s i k hc => (h.rows s i k).keeps hk (fun b hb => ne (h.orow s i k b hb) hc),
  fun i hc => (h.ways i).keeps hk (fun b hb => ne (h.oway i b hb) hc), fun w' hw' => h.data w' ((hkM.weaken (T := fun k => ownB own k ∨ R false k ∨ R true k) (fun _ _ m => .inl m)).then hw' (fun k hlt e => ?_)), fun k e => ?_, h.old.then hkM (fun i hi m => by have := h.lo i (.inl m); omega)⟩
 ·rcases hn k with h' | h'
  ·obtain ⟨c, e⟩ := e
   exact Nat.lt_of_lt_of_le (h.lt k ⟨c, h' ▸ e⟩).1 hk.size
  ·exact h'.2.1
 ·rcases hn k with h' | h'
  ·exact h'
  ·omega
 ·rcases e with e | e
  ·rcases ho k e with e | e
   ·exact .inl e
   ·omega
  ·exact .inr e
 ·rcases e with e | e
  ·rcases ho k e with e | e
   ·exact h.lo k (.inl e)
   ·omega
  ·exact h.lo k (.inr e)
/-- an end worked -/
theorem Wm.link (h : Wm w0 w wb lb R own mb F V X W) (i : Bool) {R' : Nat → Prop} {e : En} (hk : Keeps (R i) w w1) (hR : ∀ k, R' k → R i k ∨ w.heap.size ≤ k) (hl : e.life = (W.e i).life) (hd : Duo (ownB own) (upd R i R') w1 lb (upd W.e i e)) :
  Wm w0 w1 wb lb (upd R i R') own mb F V X { W with e := upd W.e i e } := by
 have no : ∀ {b : Nat} {c : Cp}, own b = some c → ¬ R i b := fun hb => (h.lt _ ⟨_, hb⟩).2 i
 have hlife : ∀ j, ((upd W.e i e) j).life = (W.e j).life := both i (by rw [upd_same]; exact hl) (by rw [upd_not])
 have hr : ∀ j k, upd R i R' j k → R j k ∨ w.heap.size ≤ k := both i (fun k r => by rw [upd_same] at r; exact hR k r) (fun k r => by rw [upd_not] at r; exact .inl r)
 have hin : ∀ k, R i k → R false k ∨ R true k := fun k r => by cases i; exact .inl r; exact .inr r
 refine ⟨hd, ?_, h.owb, fun s j => (h.maps s j).keeps hk (no (h.omap s j)), h.omap, fun s j k => (h.rows s j k).keeps hk (fun b hb => no (h.orow s j k b hb)), h.orow, fun j => (h.ways j).keeps hk (fun b hb => no (h.oway j b hb)), h.oway,
  fun w' hw' => h.data w' ((hk.weaken (T := fun k => ownB own k ∨ R false k ∨ R true k) (fun k _ r => .inr (hin k r))).then hw' (fun k hlt e => ?_)), fun k e => ?_, h.old.then hk (fun k hlt r => by have := h.lo k (.inr (hin k r)); omega), h.sent, h.told, h.way⟩
 ·have := (hk.block wb (lt_of_block h.blk) (no h.owb)).trans h.blk
  rw [this]
  unfold wdCells
  dsimp only
  rw [hlife, hlife]
 ·rcases e with e | e | e
  ·exact .inl e
  ·rcases hr false k e with e | e
   ·exact .inr (.inl e)
   ·omega
  ·rcases hr true k e with e | e
   ·exact .inr (.inr e)
   ·omega
 ·have hz := h.old.size
  rcases e with e | e | e
  ·exact h.lo k (.inl e)
  ·rcases hr false k e with e | e
   ·exact h.lo k (.inr (.inl e))
   ·omega
  ·rcases hr true k e with e | e
   ·exact h.lo k (.inr (.inr e))
   ·omega
theorem Wm.oldW (h : Wm w0 w wb lb R own mb F V X W) (hk : Old w w1) : Wm w0 w1 wb lb R own mb F V X W :=
 ⟨h.duo.old hk, (hk.block wb (lt_of_block h.blk) (fun f => f)).trans h.blk, h.owb, fun s i => (h.maps s i).keeps hk (fun f => f), h.omap, fun s i k => (h.rows s i k).old hk, h.orow, fun i => (h.ways i).old hk, h.oway, fun w' k => h.data w' ((hk.weaken (fun _ _ f => f.elim)).trans k), h.lo, h.old.trans hk, h.sent, h.told, h.way⟩
/-- what is owned and written grew by new blocks alone, and nothing else was written -/
def Grew (w w' : World) (own own' : Own) (R R' : Bool → Nat → Prop) : Prop :=
 (∀ k, ownB own' k ∨ R' false k ∨ R' true k → (ownB own k ∨ R false k ∨ R true k) ∨ w.heap.size ≤ k) ∧ Keeps (fun k => ownB own k ∨ R false k ∨ R true k) w w'
theorem Grew.refl {own : Own} {R : Bool → Nat → Prop} (w : World) : Grew w w own own R R := ⟨fun _ h => .inl h, Keeps.refl _ _⟩
theorem Grew.trans {w w1 w2 : World} {own own1 own2 : Own} {R R1 R2 : Bool → Nat → Prop} (h : Grew w w1 own own1 R R1) (k : Grew w1 w2 own1 own2 R1 R2) : Grew w w2 own own2 R R2 := by
 have hz := h.2.size
 refine ⟨fun q e => ?_, h.2.then k.2 (fun q hq e => ?_)⟩
 ·rcases k.1 q e with e | e
  ·exact h.1 q e
  ·exact .inr (by omega)
 ·rcases h.1 q e with e | e
  ·exact e
  ·omega
theorem Grew.old {w w1 w2 : World} {own own1 : Own} {R R1 : Bool → Nat → Prop} (h : Grew w w1 own own1 R R1) (k : Old w1 w2) : Grew w w2 own own1 R R1 := ⟨h.1, h.2.trans (k.weaken (fun _ _ f => f.elim))⟩
theorem Grew.from {w w1 w2 : World} {own own1 : Own} {R R1 : Bool → Nat → Prop} (o : Old w w1) (h : Grew w1 w2 own own1 R R1) : Grew w w2 own own1 R R1 :=
 ⟨fun q e => (h.1 q e).imp id (fun e => by have := o.size; omega), (o.weaken (fun _ _ f => f.elim)).trans h.2⟩
/-- end i worked -/
theorem Grew.link {w w1 : World} (own : Own) {R : Bool → Nat → Prop} (i : Bool) {R' : Nat → Prop} (k : Keeps (R i) w w1) (hR : ∀ k, R' k → R i k ∨ w.heap.size ≤ k) : Grew w w1 own own R (upd R i R') := by
 have hin : ∀ q, R i q → R false q ∨ R true q := fun q r => by cases i; exact .inl r; exact .inr r
 have hr : ∀ j q, upd R i R' j q → (R false q ∨ R true q) ∨ w.heap.size ≤ q := both i (fun q r => by rw [upd_same] at r; exact (hR q r).imp (hin q) id) (fun q r => by rw [upd_not] at r; left; cases i; exact .inr r; exact .inl r)
 refine ⟨fun q e => ?_, k.weaken (fun q _ r => .inr (hin q r))⟩
 rcases e with e | e | e
 ·exact .inl (.inl e)
 ·exact (hr false q e).imp .inr id
 ·exact (hr true q e).imp .inr id
/-- the law worked -/
theorem Grew.mine {w w1 : World} {own own' : Own} (R : Bool → Nat → Prop) (k : Keeps (ownB own) w w1) (h : ∀ b, ownB own' b → ownB own b ∨ w.heap.size ≤ b) : Grew w w1 own own' R R :=
 ⟨fun q e => by rcases e with e | e; exact (h q e).imp .inl id; exact .inl (.inr e), k.weaken (fun q _ e => .inl e)⟩
def Wy (w0 w w' : World) (wb : Nat) (own : Own) (R : Bool → Nat → Prop) (W : Wd) : Prop := ∃ lb R' own' mb F V X, Wm w0 w' wb lb R' own' mb F V X W ∧ Grew w w' own own' R R'
theorem Wy.x {own : Own} {R : Bool → Nat → Prop} {w' : World} (h : Wy w0 w w' wb own R W) : Wx w0 w' wb W := by
 obtain ⟨_, _, _, _, _, _, _, h, _⟩ := h
 exact ⟨_, _, _, _, _, _, _, h⟩
/-- F with one row changed -/
def putR (F : SeRows) (s i : Bool) (k : Nat × Nat) (r : Value × List Bv) : SeRows := fun s' i' => if s' = s ∧ i' = i then putS (F s i) k r else F s' i'
theorem putR_same (F : SeRows) (s i : Bool) (k : Nat × Nat) (r : Value × List Bv) : putR F s i k r s i = putS (F s i) k r := by unfold putR; rw [if_pos ⟨rfl, rfl⟩]
theorem putR_at (F : SeRows) (s i : Bool) (k : Nat × Nat) (r : Value × List Bv) (s' i' : Bool) (q : Nat × Nat) : putR F s i k r s' i' q = if s' = s ∧ i' = i ∧ q = k then r else F s' i' q := by
 unfold putR putS
 by_cases h1 : s' = s ∧ i' = i
 ·obtain ⟨rfl, rfl⟩ := h1
  simp
 ·rw [if_neg h1, if_neg (fun h => h1 ⟨h.1, h.2.1⟩)]
/-- one message more in a row -/
theorem Wm.row (h : Wm w0 w wb lb R own mb F V X W) (s i : Bool) (k : Nat × Nat) (v : Value) (x : Bv) (hk : Keeps (fun b => ∃ c, own b = some c ∧ (c = .mp s i ∨ c = .row s i k)) w w1) (hm : SeM w1 (mb s i) (putS (F s i) k (v, (F s i k).2 ++ [x])))
  (ho : OwnsR w1 w0.heap.size 32 1 bvL v ((F s i k).2 ++ [x])) (hv : ∀ b, v.ownBlock = some b → (F s i k).1.ownBlock = some b ∨ w.heap.size ≤ b) (hx : ∀ w', Keeps (fun b => ownB own b ∨ v.ownBlock = some b ∨ R false b ∨ R true b) w1 w' → Sees w' x.1 x.2) (hxl : x.2.length ≤ 140737488355328) :
  ∃ own', Wm w0 w1 wb lb R own' mb (putR F s i k (v, (F s i k).2 ++ [x])) V X (if s then { W with told := upd W.told i (putKey (W.told i) k x.2) } else { W with sent := upd W.sent i (putKey (W.sent i) k x.2) }) ∧ ∀ b, ownB own' b → ownB own b ∨ w.heap.size ≤ b := by
 classical
 refine ⟨fun b => if v.ownBlock = some b ∧ w.heap.size ≤ b then some (.row s i k) else own b, ?_⟩
 have hown : ∀ b, (if v.ownBlock = some b ∧ w.heap.size ≤ b then some (Cp.row s i k) else own b) = own b ∨ (w.heap.size ≤ b ∧ b < w1.heap.size ∧ ∃ c, (if v.ownBlock = some b ∧ w.heap.size ≤ b then some (Cp.row s i k) else own b) = some c ∧ (c = .mp s i ∨ c = .row s i k)) := fun b => by
  by_cases hc : v.ownBlock = some b ∧ w.heap.size ≤ b
  ·exact .inr ⟨hc.2, (ho.block b hc.1).2, .row s i k, by rw [if_pos hc], .inr rfl⟩
  ·exact .inl (by rw [if_neg hc])
 obtain ⟨f1, f2, f3, f4, f5, f6, f7, f8, f9⟩ := h.frame (fun c => c = .mp s i ∨ c = .row s i k) _ hk hown
 have hob : ∀ b, ownB (fun b => if v.ownBlock = some b ∧ w.heap.size ≤ b then some (Cp.row s i k) else own b) b → ownB own b ∨ v.ownBlock = some b := fun b e => by
  obtain ⟨c, e⟩ := e
  by_cases hc : v.ownBlock = some b ∧ w.heap.size ≤ b
  ·exact .inr hc.1
  ·simp only [if_neg hc] at e; exact .inl ⟨c, e⟩
 have hkeep : ∀ b c, own b = some c → (if v.ownBlock = some b ∧ w.heap.size ≤ b then some (Cp.row s i k) else own b) = some c := fun b c e => by rw [f3 b (h.lt b ⟨c, e⟩).1]; exact e
 have hlen : ∀ s' i' q, (putR F s i k (v, (F s i k).2 ++ [x]) s' i' q) = if s' = s ∧ i' = i ∧ q = k then (v, (F s i k).2 ++ [x]) else F s' i' q := putR_at F s i k _
 refine ⟨?_, fun b ⟨c, e⟩ => (hown b).elim (fun h' => .inl ⟨c, h' ▸ e⟩) (fun h' => .inr h'.1)⟩
 refine ⟨?_, ?_, hkeep _ _ h.owb, fun s' i' => ?_, fun s' i' => hkeep _ _ (h.omap s' i'), fun s' i' q => ?_, fun s' i' q b hb => ?_, fun j => f6 j (by rintro (h | h) <;> cases h), fun j b hb => hkeep _ _ (h.oway j b hb), fun w' hw' => ?_, f8, f9, fun j q => ?_, fun j q => ?_, fun j => ?_⟩
 ·cases s <;> exact f1
 ·rw [f2 (by rintro (h | h) <;> cases h), h.blk]
  cases s <;> rfl
 ·by_cases hc : s' = s ∧ i' = i
  ·obtain ⟨rfl, rfl⟩ := hc
   rw [putR_same]; exact hm
  ·have : putR F s i k (v, (F s i k).2 ++ [x]) s' i' = F s' i' := by unfold putR; rw [if_neg hc]
   rw [this]
   exact f4 s' i' (by rintro (h | h); (cases h; exact hc ⟨rfl, rfl⟩); cases h)
 ·rw [hlen]
  split
  ·exact ho
  ·rename_i hc
   exact f5 s' i' q (by rintro (h | h); cases h; (cases h; exact hc ⟨rfl, rfl, rfl⟩))
 ·rw [hlen] at hb
  split at hb
  ·rename_i hc
   obtain ⟨rfl, rfl, rfl⟩ := hc
   rcases hv b hb with e | e
   ·exact hkeep _ _ (h.orow _ _ _ b e)
   ·show (if v.ownBlock = some b ∧ w.heap.size ≤ b then some (Cp.row s' i' q) else own b) = _
    rw [if_pos ⟨hb, e⟩]
  ·exact hkeep _ _ (h.orow s' i' q b hb)
 ·obtain ⟨d1, d2⟩ := f7 w' hw'
  refine ⟨fun s' i' q y hy => ?_, d2⟩
  rw [hlen] at hy
  split at hy
  ·rcases List.mem_append.1 hy with hy | hy
   ·exact d1 s i k y hy
   ·rw [List.mem_singleton.1 hy]
    refine ⟨hx w' (hw'.weaken (fun b _ e => ?_)), hxl⟩
    rcases e with e | e
    ·rcases hob b e with e | e
     ·exact .inl e
     ·exact .inr (.inl e)
    ·exact .inr (.inr e)
  ·exact d1 s' i' q y hy
 ·rw [hlen]
  cases s
  ·simp only [Bool.false_eq_true, if_false]
   by_cases hj : j = i
   ·subst hj
    rw [upd_same]
    unfold putKey
    by_cases hq : q = k
    ·subst hq
     simp [h.sent]
    ·simp [hq, h.sent]
   ·simp [upd, hj, h.sent]
  ·simp [h.sent]
 ·rw [hlen]
  cases s
  ·simp [h.told]
  ·simp only [if_true]
   by_cases hj : j = i
   ·subst hj
    rw [upd_same]
    unfold putKey
    by_cases hq : q = k
    ·subst hq
     simp [h.told]
    ·simp [hq, h.told]
   ·simp [upd, hj, h.told]
 ·cases s <;> exact h.way j
end
end Go.Proofs.Ytllnlimbfoingaa

namespace Go.Proofs.Ytllnlimbfoingaa
open Go.RowKit Go.Conc
section
variable {w0 w w1 : World} {wb : Nat} {lb : Bool → Nat} {R : Bool → Nat → Prop} {own : Own} {mb : Bool → Bool → Nat} {F : SeRows} {V : Bool → Value} {X : Bool → List Pv} {W : Wd}
/-- the way to end i is another one -/
theorem Wm.setWay (h : Wm w0 w wb lb R own mb F V X W) (i : Bool) (v : Value) (Y : List Pv) (hk : Keeps (fun b => ∃ c, own b = some c ∧ (c = .wb ∨ c = .way i)) w w1) (hb : w1.heap[wb]? = some (.cells (wdCells lb (upd V i v) W.e mb).toArray 71 (0, 0)))
  (ho : OwnsR w1 w0.heap.size 37 5 Pv.cells v Y) (hv : ∀ b, v.ownBlock = some b → (V i).ownBlock = some b ∨ w.heap.size ≤ b) (hx : ∀ w', Keeps (fun b => ownB own b ∨ v.ownBlock = some b ∨ R false b ∨ R true b) w1 w' → ∀ x ∈ Y, Sees w' x.v x.d ∧ x.d.length ≤ 140737488355328) :
  ∃ own', Wm w0 w1 wb lb R own' mb F (upd V i v) (upd X i Y) { W with way := upd W.way i (Y.map Pv.plain) } := by
 classical
 refine ⟨fun b => if v.ownBlock = some b ∧ w.heap.size ≤ b then some (.way i) else own b, ?_⟩
 have hown : ∀ b, (if v.ownBlock = some b ∧ w.heap.size ≤ b then some (Cp.way i) else own b) = own b ∨ (w.heap.size ≤ b ∧ b < w1.heap.size ∧ ∃ c, (if v.ownBlock = some b ∧ w.heap.size ≤ b then some (Cp.way i) else own b) = some c ∧ (c = .wb ∨ c = .way i)) := fun b => by
  by_cases hc : v.ownBlock = some b ∧ w.heap.size ≤ b
  ·exact .inr ⟨hc.2, (ho.block b hc.1).2, .way i, by rw [if_pos hc], .inr rfl⟩
  ·exact .inl (by rw [if_neg hc])
 obtain ⟨f1, f2, f3, f4, f5, f6, f7, f8, f9⟩ := h.frame (fun c => c = .wb ∨ c = .way i) _ hk hown
 have hob : ∀ b, ownB (fun b => if v.ownBlock = some b ∧ w.heap.size ≤ b then some (Cp.way i) else own b) b → ownB own b ∨ v.ownBlock = some b := fun b e => by
  obtain ⟨c, e⟩ := e
  by_cases hc : v.ownBlock = some b ∧ w.heap.size ≤ b
  ·exact .inr hc.1
  ·simp only [if_neg hc] at e; exact .inl ⟨c, e⟩
 have hkeep : ∀ b c, own b = some c → (if v.ownBlock = some b ∧ w.heap.size ≤ b then some (Cp.way i) else own b) = some c := fun b c e => by rw [f3 b (h.lt b ⟨c, e⟩).1]; exact e
 refine ⟨f1, hb, hkeep _ _ h.owb, fun s' i' => f4 s' i' (by rintro (h | h) <;> cases h), fun s' i' => hkeep _ _ (h.omap s' i'), fun s' i' q => f5 s' i' q (by rintro (h | h) <;> cases h), fun s' i' q b hb => hkeep _ _ (h.orow s' i' q b hb), both i ?_ ?_, both i (fun b hb => ?_) (fun b hb => ?_), fun w' hw' => ⟨(f7 w' hw').1, both i ?_ ?_⟩, f8, f9, h.sent, h.told, both i ?_ ?_⟩
 ·rw [upd_same, upd_same]; exact ho
 ·rw [upd_not, upd_not]; exact f6 (!i) (by rintro (h | h); cases h; cases i <;> cases h)
 ·rw [upd_same] at hb
  rcases hv b hb with e | e
  ·exact hkeep _ _ (h.oway i b e)
  ·show (if v.ownBlock = some b ∧ w.heap.size ≤ b then some (Cp.way i) else own b) = _
   rw [if_pos ⟨hb, e⟩]
 ·rw [upd_not] at hb; exact hkeep _ _ (h.oway (!i) b hb)
 ·rw [upd_same]
  refine hx w' (hw'.weaken (fun b _ e => ?_))
  rcases e with e | e
  ·rcases hob b e with e | e
   ·exact .inl e
   ·exact .inr (.inl e)
  ·exact .inr (.inr e)
 ·rw [upd_not]; exact (f7 w' hw').2 (!i)
 ·show upd W.way i (Y.map Pv.plain) i = _; rw [upd_same, upd_same]
 ·show upd W.way i (Y.map Pv.plain) (!i) = _; rw [upd_not, upd_not]; exact h.way (!i)
/-- an end anew: its life in the world's block, then the end itself -/
theorem Wm.born (h : Wm w0 w wb lb R own mb F V X W) (i : Bool) {R' : Nat → Prop} {nb : Nat} {e : En} (hk : Keeps (fun b => b = wb) w w1) (hb : w1.heap[wb]? = some (.cells (wdCells (upd lb i nb) V (upd W.e i e) mb).toArray 71 (0, 0)))
  (hR : ∀ k, R' k → w.heap.size ≤ k) (hL : Lk R' (fun k => R (!i) k ∨ ownB own k) w1 nb e) : Wm w0 w1 wb (upd lb i nb) (upd R i R') own mb F V X { W with e := upd W.e i e } := by
 have hkC : Keeps (fun b => ∃ c, own b = some c ∧ c = Cp.wb) w w1 := hk.weaken (fun b _ e => by subst e; exact ⟨_, h.owb, rfl⟩)
 obtain ⟨f1, f2, f3, f4, f5, f6, f7, f8, f9⟩ := h.frame (fun c => c = .wb) own hkC (fun k => .inl rfl)
 have hz := h.old.size
 have hin : ∀ k, upd R i R' false k ∨ upd R i R' true k → (R false k ∨ R true k) ∨ w.heap.size ≤ k := fun k r => by
  have hr : ∀ j, upd R i R' j k → (R false k ∨ R true k) ∨ w.heap.size ≤ k := both i (fun r => by rw [upd_same] at r; exact .inr (hR k r)) (fun r => by rw [upd_not] at r; left; cases i; exact .inr r; exact .inl r)
  rcases r with r | r
  ·exact hr false r
  ·exact hr true r
 refine ⟨both i ?_ ?_, hb, h.owb, fun s' i' => f4 s' i' (by intro h; cases h), h.omap, fun s' i' q => f5 s' i' q (by intro h; cases h), h.orow, fun j => f6 j (by intro h; cases h), h.oway,
  fun w' hw' => h.data w' ((hk.weaken (T := fun k => ownB own k ∨ R false k ∨ R true k) (fun b _ e => by subst e; exact .inl ⟨_, h.owb⟩)).then hw' (fun k hlt e => ?_)), fun k e => ?_, f9, h.sent, h.told, h.way⟩
 ·show Lk (upd R i R' i) (fun k => upd R i R' (!i) k ∨ ownB own k) w1 (upd lb i nb i) (upd W.e i e i)
  rw [upd_same, upd_same, upd_same, upd_not]
  exact hL
 ·show Lk (upd R i R' (!i)) (fun k => upd R i R' (!!i) k ∨ ownB own k) w1 (upd lb i nb (!i)) (upd W.e i e (!i))
  rw [upd_not, upd_not, upd_not, Bool.not_not, upd_same]
  refine (h.duo (!i)).to (hk.weaken (fun b _ e => by subst e; exact .inr ⟨_, h.owb⟩)) (fun k t => ?_) (fun k t => ?_)
  ·rcases t with t | t
   ·exact .inr (hR k t)
   ·exact .inl (.inr t)
  ·rcases t with t | t
   ·exact hL.facts.2.2.1 k t
   ·exact Nat.lt_of_lt_of_le (h.lt k t).1 hk.size
 ·rcases e with e | e
  ·exact .inl e
  ·rcases hin k e with e | e
   ·exact .inr e
   ·omega
 ·rcases e with e | e
  ·exact h.lo k (.inl e)
  ·rcases hin k e with e | e
   ·exact h.lo k (.inr e)
   ·omega
end
end Go.Proofs.Ytllnlimbfoingaa
