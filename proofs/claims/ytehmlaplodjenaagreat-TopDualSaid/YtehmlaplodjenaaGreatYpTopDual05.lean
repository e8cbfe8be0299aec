/- DERIVED. Rows of the call's own whose elements hold slices of their own. Plain forms of constraints, items, gaps. · DERIVED. The contract of codec's reader: constraint. -/
import Derived.Test.YtehmlaplodjenaaGreatYpTopDual03
import Derived.Test.YtehmlaplodjenaaGreatYpTopDual04
import Derived.Deep.DeepCutAuto
import Derived.Test.YtehmlaplodjenaaGreatYpTopDual02
import Derived.Lib.AppendStr
import Derived.Deep.RegionWith
import Derived.Deep.RegionHeld3
import Derived.Defers
import Derived.Recover
import Derived.Test.YtehmlaplodjenaaGreatRows
import Derived.Test.YtehmlaplodjenaaGreatYpTopDual01
import Derived.ProofKit
import Derived.OpenShut
import Derived.Deep.Slices
import Derived.Deep.Fields
set_option maxRecDepth 100000
namespace Go.Proofs.YtehmlaplodjenaaGreat
section
open Go.RowKit
section
variable {α : Type} {w w' : World} {B : Nat} {E : TypeId} {k : Nat} {enc : α → List Value} {nv : α → Value} {fine : α → World → Prop} {v : Value} {l : List α}
def OwnN (w : World) (B : Nat) (E : TypeId) (k : Nat) (enc : α → List Value) (nv : α → Value) (fine : α → World → Prop) (v : Value) (l : List α) : Prop :=
 OwnsR w B E k enc v l ∧ ∀ x ∈ l, fine x w ∧ ∀ b, (nv x).ownBlock = some b → B ≤ b ∧ b < w.heap.size ∧ v.ownBlock ≠ some b
theorem OwnN.nil (w : World) (B : Nat) : OwnN w B E k enc nv fine (.slice none 0 0) [] := ⟨OwnsR.nil w B, fun _ h => by cases h⟩
def FineK (nv : α → Value) (fine : α → World → Prop) : Prop := ∀ (S : Nat → Prop) (x : α) (w w' : World), fine x w → Keeps S w w' → (∀ b, (nv x).ownBlock = some b → ¬ S b) → fine x w'
theorem OwnN.keeps {S : Nat → Prop} (hf : FineK nv fine) (h : OwnN w B E k enc nv fine v l) (hk : Keeps S w w') (hS : ∀ b, B ≤ b → b < w.heap.size → ¬ S b) : OwnN w' B E k enc nv fine v l :=
 ⟨h.1.keeps hk (fun b hb => hS b (h.1.block b hb).1 (h.1.block b hb).2), fun x hx =>
  ⟨hf S x w w' (h.2 x hx).1 hk (fun b hb => hS b ((h.2 x hx).2 b hb).1 ((h.2 x hx).2 b hb).2.1), fun b hb =>
   ⟨((h.2 x hx).2 b hb).1, Nat.lt_of_lt_of_le ((h.2 x hx).2 b hb).2.1 hk.size, ((h.2 x hx).2 b hb).2.2⟩⟩⟩
end
structure PCon where
 name : ByteArray
 op : Int
 val : Val
 set : List Val
def Con.plain (c : Con) : PCon := ⟨c.name, c.op, c.val, c.set⟩
abbrev OwnsV (w : World) (B : Nat) (v : Value) (l : List Val) : Prop := OwnsR w B 61 4 valL v l
theorem Tryz.infoVal : (Tryz.prog.info? 61).map (fun i => (i.zero, i.size, i.bytes)) = some (some (.agg #[.int .i64 0, .int .i64 0, .string ⟨#[]⟩, .bool false]), 4, 40) := by kernel_rfl
theorem Tryz.infoCon : (Tryz.prog.info? 78).map (fun i => (i.zero, i.size, i.bytes)) = some (some (.agg #[.string ⟨#[]⟩, .int .i64 0, .int .i64 0, .int .i64 0, .string ⟨#[]⟩, .bool false, .slice none 0 0]), 7, 88) := by kernel_rfl
theorem blk7 {w : World} {b : Nat} {t : TypeId} {a0 a1 a2 a3 a4 a5 a6 : Value} (h : w.heap[b]? = some (.cells #[a0, a1, a2, a3, a4, a5, a6] t (0, 0))) :
  (w.cell? ⟨b, 0, none⟩ = some a0 ∧ w.cell? ⟨b, 1, none⟩ = some a1 ∧ w.cell? ⟨b, 2, none⟩ = some a2 ∧ w.cell? ⟨b, 3, none⟩ = some a3 ∧ w.cell? ⟨b, 4, none⟩ = some a4 ∧ w.cell? ⟨b, 5, none⟩ = some a5 ∧ w.cell? ⟨b, 6, none⟩ = some a6) ∧
  (w.frozen? ⟨b, 0, none⟩ = false ∧ w.frozen? ⟨b, 1, none⟩ = false ∧ w.frozen? ⟨b, 2, none⟩ = false ∧ w.frozen? ⟨b, 3, none⟩ = false ∧ w.frozen? ⟨b, 4, none⟩ = false ∧ w.frozen? ⟨b, 5, none⟩ = false ∧ w.frozen? ⟨b, 6, none⟩ = false) := by simp [World.cell?, World.frozen?, h]
end
section
open Go.RowKit
end
section
open Go.RowKit
theorem OwnN.mono {α : Type} {w : World} {B B' : Nat} {E : TypeId} {k : Nat} {enc : α → List Value} {nv : α → Value} {fine : α → World → Prop} {v : Value} {l : List α} (h : OwnN w B E k enc nv fine v l) (hb : B' ≤ B) : OwnN w B' E k enc nv fine v l :=
 ⟨h.1.mono hb, fun x hx => ⟨(h.2 x hx).1, fun b hb' => ⟨Nat.le_trans hb ((h.2 x hx).2 b hb').1, ((h.2 x hx).2 b hb').2⟩⟩⟩
end
section
open Go.RowKit
structure PIt where
 n : Nat
 time : Nat
 key : ByteArray
 es : List At
end
section
open Go.RowKit
structure It where
 n : Nat
 time : Nat
 key : ByteArray
 av : Value
 es : List At
def It.cells (x : It) : List Value := [.int .u64 x.n, .int .u64 x.time, .string x.key, x.av]
def It.fine (w : World) (x : It) : Prop := SeesA w x.av x.es ∧ (0 < x.es.length → ∀ k, x.av.ownBlock = some k → k < w.heap.size) ∧ Fits x.es ∧ x.n < 18446744073709551616 ∧ x.time < 18446744073709551616
theorem It.fine.old {w w' : World} {x : It} (h : x.fine w) (hk : Old w w') : x.fine w' :=
 ⟨h.1.old hk, fun h0 k hk' => Nat.lt_of_lt_of_le (h.2.1 h0 k hk') hk.size, h.2.2⟩
def It.plain (x : It) : PIt := ⟨x.n, x.time, x.key, x.es⟩
abbrev PGap := Nat × Nat
def gapL (g : PGap) : List Value := [.int .u64 g.1, .int .u64 g.2]
theorem blk5 {w : World} {b : Nat} {t : TypeId} {a0 a1 a2 a3 a4 : Value} (h : w.heap[b]? = some (.cells #[a0, a1, a2, a3, a4] t (0, 0))) :
  (w.cell? ⟨b, 0, none⟩ = some a0 ∧ w.cell? ⟨b, 1, none⟩ = some a1 ∧ w.cell? ⟨b, 2, none⟩ = some a2 ∧ w.cell? ⟨b, 3, none⟩ = some a3 ∧ w.cell? ⟨b, 4, none⟩ = some a4) ∧
  (w.frozen? ⟨b, 0, none⟩ = false ∧ w.frozen? ⟨b, 1, none⟩ = false ∧ w.frozen? ⟨b, 2, none⟩ = false ∧ w.frozen? ⟨b, 3, none⟩ = false ∧ w.frozen? ⟨b, 4, none⟩ = false) := by simp [World.cell?, World.frozen?, h]
end
section
open Go.RowKit
end
section
open Go.RowKit
structure PPg where
 fr : Nat
 en : Nat
 items : List PIt
 gaps : List PGap
 last : Bool
end
section
open Go.RowKit
end
section
open Go.RowKit
def U8 (w : World) (B k : Nat) : Prop := B ≤ k ∧ ∃ cs fr, w.heap[k]? = some (.cells cs 5 fr)
abbrev K8 (B : Nat) (w w' : World) : Prop := Keeps (U8 w B) w w'
theorem K8.trans {B : Nat} {a b c : World} (h : K8 B a b) (k : K8 B b c) : K8 B a c := by
 refine h.then k (fun i hi hu => ?_)
 by_cases hn : U8 a B i
 ·exact hn
 ·have := h.block i hi hn
  obtain ⟨h1, cs, fr, h2⟩ := hu
  exact ⟨h1, cs, fr, this ▸ h2⟩
theorem K8.old {B : Nat} {a b : World} (h : Old a b) : K8 B a b := h.weaken (fun _ _ f => f.elim)
theorem K8.grown {B : Nat} {a b : World} {v : Value} {l : List UInt8} (ho : Owns a B v l) (hg : a.grownBy b v.ownBlock) : K8 B a b :=
 (Keeps.refl _ _).grown hg (fun k hk hlt => ⟨(ho.block k hk).1, by
  obtain ⟨h1, h2⟩ := ho
  rcases h2 with ⟨rfl, h0⟩ | ⟨g, cap, cur, rfl, hb, hgg, _⟩
  ·cases hk
  ·simp only [Value.ownBlock, Option.some.injEq] at hk
   subst hk
   exact ⟨_, _, hgg⟩⟩)
theorem K8.block {B : Nat} {a b : World} (h : K8 B a b) {k : Nat} {cs : Array Value} {t : TypeId} {fr : Nat × Nat} (hk : a.heap[k]? = some (.cells cs t fr)) (ht : t ≠ 5) : b.heap[k]? = some (.cells cs t fr) := by
 refine (Keeps.block h k (Array.getElem?_eq_some_iff.1 hk).1 ?_).trans hk
 rintro ⟨_, cs', fr', h'⟩
 rw [hk] at h'
 simp only [Option.some.injEq, Obj.cells.injEq] at h'
 exact ht h'.2.1
theorem K8.below {B : Nat} {a b : World} (h : K8 B a b) (hB : B ≤ a.heap.size) : Below B a b := Keeps.below (h.weaken (fun _ _ u => u.1)) hB
theorem K8.alloc {B : Nat} {a b : World} (h : K8 B a b) (o : Obj) : K8 B a (b.alloc o) := Keeps.alloc h o
end
section
open Go.RowKit
end
section
open Go.RowKit
end
section
open Go.RowKit
end
section
open Go.RowKit
end
section
open Go.RowKit
theorem set4 {w : World} {b : Nat} {t : TypeId} {x0 x1 x2 x3 a0 a1 a2 a3 : Value} (h : w.heap[b]? = some (.cells #[x0, x1, x2, x3] t (0, 0))) : ((((w.setCell ⟨b, 0, none⟩ a0).setCell ⟨b, 1, none⟩ a1).setCell ⟨b, 2, none⟩ a2).setCell ⟨b, 3, none⟩ a3).heap[b]? = some (.cells #[a0, a1, a2, a3] t (0, 0)) := by
 have h0 := heap_setCell_same w b 0 _ _ a0 h
 have h1 := heap_setCell_same _ b 1 _ _ a1 h0
 have h2 := heap_setCell_same _ b 2 _ _ a2 h1
 have h3 := heap_setCell_same _ b 3 _ _ a3 h2
 simpa using h3
theorem set1 {w : World} {b : Nat} {t : TypeId} {x0 a0 : Value} (h : w.heap[b]? = some (.cells #[x0] t (0, 0))) : (w.setCell ⟨b, 0, none⟩ a0).heap[b]? = some (.cells #[a0] t (0, 0)) := by
 have h0 := heap_setCell_same w b 0 _ _ a0 h
 simpa using h0
theorem keepS {ep : Nat} {a b : World} {i : Nat} (u : Value) (h : Keeps (fun k => k = ep) a b) : Keeps (fun k => k = ep) a (b.setCell ⟨ep, i, none⟩ u) := h.setCell (fun _ => rfl) u
def TkE (w : World) (res : Option (ByteArray × List At)) (e : Ending) (w' : World) : Prop :=
 Old w w' ∧ match res with
 | some x => ∃ p n c, e = .returned (.tuple #[.agg #[.string x.1, .slice p n c], .int .i64 0]) ∧ OwnsA w' w.heap.size (.slice p n c) x.2
 | none => e = .returned (.tuple #[.agg #[.string ⟨#[]⟩, .slice none 0 0], .int .i64 5])
theorem TkE.no {w w' : World} {res : Option (ByteArray × List At)} (h : res = none) (k : Old w w') : TkE w res (.returned (.tuple #[.agg #[.string ⟨#[]⟩, .slice none 0 0], .int .i64 5])) w' := by subst h; exact ⟨k, rfl⟩
theorem TkE.yes {w w' : World} {res : Option (ByteArray × List At)} {key : ByteArray} {es : List At} {p : Option Addr} {n c : Nat} (h : res = some (key, es)) (k : Old w w') (ho : OwnsA w' w.heap.size (.slice p n c) es) : TkE w res (.returned (.tuple #[.agg #[.string key, .slice p n c], .int .i64 0])) w' := by subst h; exact ⟨k, p, n, c, rfl, ho⟩
end
section
open Go.RowKit
def ConR (x : Con) : Prop := VFits x.val ∧ ∀ v ∈ x.set, VFits v
end
section
open Go.RowKit
theorem Con.fine.ranges {w : World} {x : Con} (h : x.fine w) : ConR x := ⟨h.2.1.2, h.2.2.1⟩
end
section
open Go.RowKit
end
section
open Go.RowKit
structure Pg where
 fr : Nat
 en : Nat
 iv : Value
 its : List It
 gv : Value
 gs : List PGap
 last : Bool
def Pg.cells (x : Pg) : List Value := [.int .u64 x.fr, .int .u64 x.en, x.iv, x.gv, .bool x.last]
def Pg.fine (w : World) (x : Pg) : Prop := (SeesR w 4 It.cells x.iv x.its ∧ (∀ y ∈ x.its, y.fine w) ∧ SeesR w 2 gapL x.gv x.gs) ∧ (∀ g ∈ x.gs, g.1 < 18446744073709551616 ∧ g.2 < 18446744073709551616) ∧ (x.fr < 18446744073709551616 ∧ x.en < 18446744073709551616) ∧
 ((0 < x.its.length → ∀ b, x.iv.ownBlock = some b → b < w.heap.size) ∧ (0 < x.gs.length → ∀ b, x.gv.ownBlock = some b → b < w.heap.size))
def Pg.plain (x : Pg) : PPg := ⟨x.fr, x.en, x.its.map It.plain, x.gs, x.last⟩
theorem Pg.fine.old {w w' : World} {x : Pg} (h : x.fine w) (hk : Old w w') : x.fine w' :=
 ⟨⟨h.1.1.old hk, fun y hy => It.fine.old (h.1.2.1 y hy) hk, h.1.2.2.old hk⟩, h.2.1, h.2.2.1, fun h0 b hb => Nat.lt_of_lt_of_le (h.2.2.2.1 h0 b hb) hk.size, fun h0 b hb => Nat.lt_of_lt_of_le (h.2.2.2.2 h0 b hb) hk.size⟩
end
section
open Go.ChangeShapes Go.WideShapes Go.ChangeAt Go.RowKit
theorem one_le_bulk {H : Type} (d : DataW H) : 1 ≤ Rows.uptoBulk d := by
 cases d with
 | lit l => cases l <;> simp [Rows.uptoBulk]
 | nil => simp [Rows.uptoBulk]
 | ptr d => simp [Rows.uptoBulk]
 | slice elems spare => simp [Rows.uptoBulk]
 | agg parts => simp [Rows.uptoBulk]
 | iface t d => simp [Rows.uptoBulk]
 | map entries => simp [Rows.uptoBulk]
 | held h => simp [Rows.uptoBulk]
theorem length_bulk {H : Type} (l : List (DataW H)) : l.length ≤ Rows.uptoBulkAll l := by
 induction l with
 | nil => simp [Rows.uptoBulkAll]
 | cons x r ih => have := one_le_bulk x; simp only [Rows.uptoBulkAll, List.length_cons]; omega
theorem elems_bulk {H : Type} (elems spare : List (DataW H)) : Rows.uptoBulkAll elems + 1 ≤ Rows.uptoBulk (.slice elems spare) := by
 simp only [Rows.uptoBulk]; omega
end
section
open Go.ChangeShapes Go.WideShapes Go.ChangeAt Go.RowKit Go.Deep
section
variable {H : Type} {enc : TypeId × Value → H} {W : World}
abbrev Trd (enc : TypeId × Value → H) (W : World) (fuel : Nat) (t : TypeId) (cs : List Value) (x : DataW H × List MemPlace) : Prop := DataW.trod enc Tryz.prog W 0 (fun _ => true) true fuel t cs = some x
theorem trod_rows_b {α : Type} [Inhabited α] (dec : α → List Value) (k : Nat) (e t : TypeId) (ht : Tryz.prog.underlying t = some (.slice e)) (hC : Tryz.prog.cellsOf e = k) (hk : 0 < k) (Q : α → Prop)
  (hd : ∀ n cs x, Trd enc W n e cs x → ∃ a, cs = dec a ∧ Q a) {fuel : Nat} {cs : List Value} {x : DataW H × List MemPlace} (h : Trd enc W fuel t cs x) :
  ∃ v l, cs = [v] ∧ SeesR W k dec v l ∧ (∀ a ∈ l, Q a) ∧ (0 < l.length → ∀ b, v.ownBlock = some b → b < W.heap.size) ∧ l.length < Rows.uptoBulk x.1 := by
 rcases open_slice ht h with ⟨hcs, hx⟩ | ⟨a, len, cap, m, n, D, Pl, hcs, _, hl, hm, hmm, hx, hi⟩
 ·exact ⟨_, [], hcs, SeesR.nil W, (fun a ha => by cases ha), (fun h => by simp at h), one_le_bulk x.1⟩
 ·simp only [if_true] at hmm
  subst hmm
  rw [hC] at hi
  have hi' : ∀ i, i < m → ∃ y : α, (∀ j u, (dec y)[j]? = some u → W.cell? (a.add (i * k + j)) = some u) ∧ (dec y).length = k ∧ Q y := by
   intro i hlt
   obtain ⟨cs', hc, ht'⟩ := hi i hlt
   obtain ⟨y, rfl, hq⟩ := hd _ _ _ ht'
   obtain ⟨_, hcl, hat⟩ := World.cells?_some hc
   refine ⟨y, fun j u hu => ?_, hcl, hq⟩
   have hj : j < k := by rw [← hcl]; exact (List.getElem?_eq_some_iff.1 hu).1
   rw [← Go.Deep.add_add, hat j hj, hu]
  obtain ⟨f, hf⟩ := choose_lt hi'
  refine ⟨_, (List.range len).map f, hcs, ⟨some a, m, by simp, by simpa using hl, hm, fun h => (by cases h), fun a' ha => ?_⟩, ?_, ?_, ?_⟩
  ·cases ha
   refine ⟨fun hc => ?_, fun j y hj i u hu => ?_⟩
   ·obtain ⟨h1, h2, _⟩ := hf 0 hc
    have h0 : (dec (f 0))[0]? = some ((dec (f 0))[0]'(by omega)) := List.getElem?_eq_getElem _
    have := h1 0 _ h0
    have hs := World.cell?_spot this
    simpa [Addr.add] using hs
   ·have hjl : j < len := by have := (List.getElem?_eq_some_iff.1 hj).1; simpa using this
    have : y = f j := by simp [hjl] at hj; exact hj.symm
    subst this
    exact (hf j (by omega)).1 i u hu
  ·intro y hy
   obtain ⟨j, hj, rfl⟩ := List.mem_map.1 hy
   exact (hf j (by have := List.mem_range.1 hj; omega)).2.2
  ·intro h0 b hb
   have hlen : 0 < len := by simpa using h0
   obtain ⟨h1, h2, _⟩ := hf 0 (by omega)
   have h0' : (dec (f 0))[0]? = some ((dec (f 0))[0]'(by omega)) := List.getElem?_eq_getElem _
   have hc := World.block_lt_of_cell? _ _ (h1 0 _ h0')
   simp [Value.ownBlock] at hb
   subst hb
   rwa [block_add] at hc
  ·subst hx
   have h1 := elems_bulk ((List.range len).map D) ((List.range (m - len)).map fun j => D (len + j))
   have h2 := length_bulk ((List.range len).map D)
   simp only [List.length_map, List.length_range] at h2 ⊢
   omega
theorem trod_rows {α : Type} [Inhabited α] (dec : α → List Value) (k : Nat) (e t : TypeId) (ht : Tryz.prog.underlying t = some (.slice e)) (hC : Tryz.prog.cellsOf e = k) (hk : 0 < k) (Q : α → Prop)
  (hd : ∀ n cs x, Trd enc W n e cs x → ∃ a, cs = dec a ∧ Q a) {fuel : Nat} {cs : List Value} {x : DataW H × List MemPlace} (h : Trd enc W fuel t cs x) :
  ∃ v l, cs = [v] ∧ SeesR W k dec v l ∧ (∀ a ∈ l, Q a) ∧ (0 < l.length → ∀ b, v.ownBlock = some b → b < W.heap.size) := by
 obtain ⟨v, l, h1, h2, h3, h4, _⟩ := trod_rows_b dec k e t ht hC hk Q hd h
 exact ⟨v, l, h1, h2, h3, h4⟩
theorem i64_range {z : Int} (h : (Lit.int .i64 z).wf = true) : -9223372036854775808 ≤ z ∧ z ≤ 9223372036854775807 := by
 simpa [Lit.wf, IntKind.min, IntKind.max, IntKind.signed, IntKind.bits] using h
theorem cells_value : Tryz.prog.cellsOf 61 = 4 := by kernel_rfl
theorem cells_int : Tryz.prog.cellsOf 3 = 1 := by kernel_rfl
theorem cells_i64 : Tryz.prog.cellsOf 2 = 1 := by kernel_rfl
theorem cells_string : Tryz.prog.cellsOf 9 = 1 := by kernel_rfl
theorem cells_bool : Tryz.prog.cellsOf 4 = 1 := by kernel_rfl
theorem cells_attr : Tryz.prog.cellsOf 63 = 5 := by kernel_rfl
theorem cells_attrs : Tryz.prog.cellsOf 31 = 1 := by kernel_rfl
theorem cells_event : Tryz.prog.cellsOf 33 = 2 := by kernel_rfl
theorem field_at {fs : Array Field} {xs : List (DataW H × List MemPlace)} {n : Nat} {cs : List Value}
  (hf : ∀ (i : Nat) (f : Field), fs[i]? = some f → DataW.trod enc Tryz.prog W 0 (fun _ => true) true n f.type ((cs.drop f.offset).take (Tryz.prog.cellsOf f.type)) = xs[i]?) (hl : xs.length = fs.size)
  (i : Nat) (t : TypeId) (off k : Nat) (f : Field) (h : fs[i]? = some f) (ht : f.type = t) (ho : f.offset = off) (hk : Tryz.prog.cellsOf t = k) : ∃ y, Trd enc W n t ((cs.drop off).take k) y := by
 subst ht ho hk
 have h1 := hf i f h
 have hi : i < xs.length := by rw [hl]; exact (Array.getElem?_eq_some_iff.1 h).1
 exact ⟨xs[i], h1.trans (List.getElem?_eq_getElem hi)⟩
theorem trod_value {n : Nat} {cs : List Value} {x : DataW H × List MemPlace} (h : Trd enc W n 61 cs x) :
  ∃ v : Val, cs = [.int .i64 v.kind, .int .i64 v.num, .string v.str, .bool v.is] ∧ (-9223372036854775808 ≤ v.num ∧ v.num ≤ 9223372036854775807) ∧ (-9223372036854775808 ≤ v.kind ∧ v.kind ≤ 9223372036854775807) ∧ v.str.size ≤ maxLen := by
 obtain ⟨xs, n', _, _, hlen, hl, hf⟩ := DataW.trod_struct Tryz.underlying61 h
 rw [cells_value] at hlen
 match cs, hlen with
 | [c0, c1, c2, c3], _ =>
  obtain ⟨y0, g0⟩ := field_at hf hl 0 3 0 1 _ rfl rfl rfl cells_int
  obtain ⟨y1, g1⟩ := field_at hf hl 1 2 1 1 _ rfl rfl rfl cells_i64
  obtain ⟨y2, g2⟩ := field_at hf hl 2 9 2 1 _ rfl rfl rfl cells_string
  obtain ⟨y3, g3⟩ := field_at hf hl 3 4 3 1 _ rfl rfl rfl cells_bool
  obtain ⟨z0, e0, _, w0⟩ := DataW.trod_int Tryz.underlying3 g0
  obtain ⟨z1, e1, _, w1⟩ := DataW.trod_int Tryz.underlying2 g1
  obtain ⟨z2, e2, _, w2⟩ := DataW.trod_string Tryz.underlying9 g2
  obtain ⟨z3, e3, _⟩ := DataW.trod_bool Tryz.underlying4 g3
  simp only [List.drop_zero, List.drop_succ_cons, List.take_succ_cons, List.take_zero, List.cons.injEq, and_true] at e0 e1 e2 e3
  subst e0 e1 e2 e3
  exact ⟨⟨z0, z1, z2, z3⟩, rfl, i64_range w1, i64_range w0, w2⟩
instance : Inhabited At := ⟨⟨⟨#[]⟩, ⟨0, 0, ⟨#[]⟩, false⟩⟩⟩
theorem trod_attr {n : Nat} {cs : List Value} {x : DataW H × List MemPlace} (h : Trd enc W n 63 cs x) :
  ∃ a : At, cs = a.cells ∧ (a.name.size ≤ 9223372036854775807 ∧ -9223372036854775808 ≤ a.val.num ∧ a.val.num ≤ 9223372036854775807) := by
 obtain ⟨xs, n', _, _, hlen, hl, hf⟩ := DataW.trod_struct Tryz.underlying63 h
 rw [cells_attr] at hlen
 match cs, hlen with
 | [c0, c1, c2, c3, c4], _ =>
  obtain ⟨y0, g0⟩ := field_at hf hl 0 9 0 1 _ rfl rfl rfl cells_string
  obtain ⟨y1, g1⟩ := field_at hf hl 1 61 1 4 _ rfl rfl rfl cells_value
  obtain ⟨z0, e0, _, w0⟩ := DataW.trod_string Tryz.underlying9 g0
  obtain ⟨v, e1, hv, _⟩ := trod_value g1
  simp only [List.drop_zero, List.drop_succ_cons, List.take_succ_cons, List.take_zero, List.cons.injEq, and_true] at e0 e1
  obtain ⟨rfl, rfl, rfl, rfl⟩ := e1
  subst e0
  exact ⟨⟨z0, v⟩, rfl, by unfold maxLen at w0; exact w0, hv⟩
theorem trod_attrs {n : Nat} {cs : List Value} {x : DataW H × List MemPlace} (h : Trd enc W n 31 cs x) :
  ∃ v l, cs = [v] ∧ SeesA W v l ∧ Fits l ∧ (0 < l.length → ∀ b, v.ownBlock = some b → b < W.heap.size) := by
 obtain ⟨v, l, h1, h2, h3, h4⟩ := trod_rows At.cells 5 63 31 Tryz.underlying31 cells_attr (by decide) _ (fun n cs x hh => trod_attr hh) h
 exact ⟨v, l, h1, h2, h3, h4⟩
theorem trod_event {n : Nat} {cs : List Value} {x : DataW H × List MemPlace} (h : Trd enc W n 33 cs x) :
  ∃ (key : ByteArray) (v : Value) (l : List At), cs = [.string key, v] ∧ SeesA W v l ∧ Fits l ∧ (0 < l.length → ∀ b, v.ownBlock = some b → b < W.heap.size) ∧ key.size ≤ maxLen := by
 obtain ⟨xs, n', _, _, hlen, hl, hf⟩ := DataW.trod_struct Tryz.underlying33 h
 rw [cells_event] at hlen
 match cs, hlen with
 | [c0, c1], _ =>
  obtain ⟨y0, g0⟩ := field_at hf hl 0 9 0 1 _ rfl rfl rfl cells_string
  obtain ⟨y1, g1⟩ := field_at hf hl 1 31 1 1 _ rfl rfl rfl cells_attrs
  obtain ⟨z0, e0, _, w0⟩ := DataW.trod_string Tryz.underlying9 g0
  obtain ⟨v, l, e1, h1, h2, h3⟩ := trod_attrs g1
  simp only [List.drop_zero, List.drop_succ_cons, List.take_succ_cons, List.take_zero, List.cons.injEq, and_true] at e0 e1
  subst e0 e1
  exact ⟨z0, _, l, rfl, h1, h2, h3, w0⟩
def Items (w : World) (lv : Value) (l : List It) : Prop := SeesR w 4 It.cells lv l ∧ ∀ x ∈ l, x.fine w
instance : Inhabited It := ⟨⟨0, 0, ⟨#[]⟩, .slice none 0 0, []⟩⟩
theorem cells_con : Tryz.prog.cellsOf 78 = 7 := by kernel_rfl
theorem cells_vals : Tryz.prog.cellsOf 76 = 1 := by kernel_rfl
instance : Inhabited Val := ⟨⟨0, 0, ⟨#[]⟩, false⟩⟩
instance : Inhabited Con := ⟨⟨⟨#[]⟩, 0, ⟨0, 0, ⟨#[]⟩, false⟩, .slice none 0 0, []⟩⟩
theorem trod_vals {n : Nat} {cs : List Value} {x : DataW H × List MemPlace} (h : Trd enc W n 76 cs x) :
  ∃ v l, cs = [v] ∧ SeesV W v l ∧ (∀ v ∈ l, -9223372036854775808 ≤ v.num ∧ v.num ≤ 9223372036854775807) ∧ (0 < l.length → ∀ b, v.ownBlock = some b → b < W.heap.size) := by
 obtain ⟨v, l, h1, h2, h3, h4⟩ := trod_rows valL 4 61 76 Tryz.underlying76 cells_value (by decide) (fun v => -9223372036854775808 ≤ v.num ∧ v.num ≤ 9223372036854775807) (fun n cs x hh => by
  obtain ⟨v, e, g, _⟩ := trod_value hh
  exact ⟨v, e, g⟩) h
 exact ⟨v, l, h1, h2, h3, h4⟩
theorem trod_con {n : Nat} {cs : List Value} {x : DataW H × List MemPlace} (h : Trd enc W n 78 cs x) :
  ∃ a : Con, cs = a.cells ∧ a.fine W := by
 obtain ⟨xs, n', _, _, hlen, hl, hf⟩ := DataW.trod_struct Tryz.underlying78 h
 rw [cells_con] at hlen
 match cs, hlen with
 | [c0, c1, c2, c3, c4, c5, c6], _ =>
  obtain ⟨y0, g0⟩ := field_at hf hl 0 9 0 1 _ rfl rfl rfl cells_string
  obtain ⟨y1, g1⟩ := field_at hf hl 1 3 1 1 _ rfl rfl rfl cells_int
  obtain ⟨y2, g2⟩ := field_at hf hl 2 61 2 4 _ rfl rfl rfl cells_value
  obtain ⟨y3, g3⟩ := field_at hf hl 3 76 6 1 _ rfl rfl rfl cells_vals
  obtain ⟨z0, e0, _, w0⟩ := DataW.trod_string Tryz.underlying9 g0
  obtain ⟨z1, e1, _, w1⟩ := DataW.trod_int Tryz.underlying3 g1
  obtain ⟨v, e2, hv, _⟩ := trod_value g2
  obtain ⟨sv, l, e3, h1, h2, h3⟩ := trod_vals g3
  simp only [List.drop_zero, List.drop_succ_cons, List.take_succ_cons, List.take_zero, List.cons.injEq, and_true] at e0 e1 e2 e3
  obtain ⟨rfl, rfl, rfl, rfl⟩ := e2
  subst e0 e1 e3
  exact ⟨⟨z0, z1, v, _, l⟩, rfl, h1, ⟨by unfold maxLen at w0; exact w0, hv⟩, h2, h3⟩
theorem trod_pred {n : Nat} {cs : List Value} {x : DataW H × List MemPlace} (h : Trd enc W n 39 cs x) :
  ∃ v l, cs = [v] ∧ Cons W v l ∧ (0 < l.length → ∀ b, v.ownBlock = some b → b < W.heap.size) := by
 obtain ⟨v, l, h1, h2, h3, h4⟩ := trod_rows Con.cells 7 78 39 Tryz.underlying39 cells_con (by decide) (fun c => c.fine W) (fun n cs x hh => trod_con hh) h
 exact ⟨v, l, h1, ⟨h2, h3⟩, h4⟩
end
end
end Go.Proofs.YtehmlaplodjenaaGreat
