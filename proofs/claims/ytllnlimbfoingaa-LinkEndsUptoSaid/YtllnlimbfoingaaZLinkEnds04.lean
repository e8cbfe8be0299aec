/- DERIVED. Chapter 20: a way without one of its packets. · DERIVED. Chapter 20: what the laws' step counts. -/
import Derived.Test.YtllnlimbfoingaaZLinkEnds03
import Derived.Deep.CutBlock
namespace Go.Proofs.Ytllnlimbfoingaa
open Go.RowKit Go.Conc

theorem flat_u8' (l : List UInt8) : l.flatMap (fun b => [u8 b]) = l.map u8 := by induction l <;> simp_all
theorem ownsR_u8' {w : World} {B : Nat} {v : Value} {l : List UInt8} : OwnsR w B 5 1 (fun b => [u8 b]) v l ↔ Owns w B v l := by unfold OwnsR Owns; rw [flat_u8']
theorem seesR_u8' {w : World} {v : Value} {l : List UInt8} (h : Sees w v l) : SeesR w 1 (fun b => [u8 b]) v l := by
 obtain ⟨p, c, h1, h2, h3, h4, h5⟩ := h
 refine ⟨p, c, h1, h2, h3, h4, fun a ha => ⟨(h5 a ha).1, fun j x hx i u hu => ?_⟩⟩
 cases i with
 | zero => simp only [List.getElem?_cons_zero, Option.some.injEq] at hu; subst hu; simpa using (h5 a ha).2 j x hx
 | succ i => simp at hu
theorem step_append_big {w : World} {ops : Array Oper} {o : Oper} {a : Act} {K : Act → World → Prop} {Q : Exit → Act → World → Prop} {G : Prop} (hgd : o.guard = none) (s x : Operand)
  (ho : o.op = .call { callee := .builtin .append, args := #[s, x], argTypes := #[32, 32] })
  (B : Nat) (v : Value) (l : List UInt8) (hs : a.eval s = v) (hown : Owns w B v l) (u : Value) (m : List UInt8) (hx : a.eval x = u) (hu : Sees w u m)
  (hlen : l.length + m.length ≤ 140737488355328) (hB : B ≤ w.heap.size)
  (h : ∀ v' w', Owns w' B v' (l ++ m) → w.grownBy w' v.ownBlock → K (a.put o.dst v') w') :
  if Region.wanted o (yielded ops a.tmps) = true then Oper.wp Try.prog o a w K Q else G :=
 step_append_rows (P := Try.prog) hgd s x 32 ho B 5 1 1 (fun b => [u8 b]) _ Try.underlying32 Try.infoU8 rfl (by decide) v l hs (ownsR_u8'.2 hown) u m hx (seesR_u8' hu) (fun _ _ => rfl)
  (fun y _ c hc => by simp at hc; subst hc; rfl) (by unfold maxLen; omega) (by omega) hB (fun v' w' h1 h2 _ => h v' w' (ownsR_u8'.1 h1) h2)
theorem eraseIdx_map_own {α β : Type} (f : α → β) (l : List α) (k : Nat) : (l.eraseIdx k).map f = (l.map f).eraseIdx k := by
 rw [List.eraseIdx_eq_take_drop_succ, List.eraseIdx_eq_take_drop_succ, List.map_append, List.map_take, List.map_drop]
/-- [:hi] of rows, as an equation on the run -/
theorem SeesR.upto {α : Type} {w : World} {k : Nat} {enc : α → List Value} {p : Option Addr} {n c : Nat} {l : List α} {T E : TypeId} (h : SeesR w k enc (.slice p n c) l) (hi : Nat) (h1 : hi ≤ l.length) (ht : Try.prog.underlying T = some (.slice E)) (hs : (Try.prog.info? E).map (·.size) = some k) (kd : IntKind) (x : Int) (hx : x = (hi : Int)) :
  ∃ p' c', (∀ W, (Instr.slice T (.slice p n c) none (some (.int kd x)) none).run Try.prog W = .ok (.slice p' hi c') W) ∧ (∀ w2, SeesR w2 k enc (.slice p n c) l → SeesR w2 k enc (.slice p' hi c') (l.take hi)) := by
 obtain ⟨p0, c0, he, hc, _⟩ := h.len
 simp only [Value.slice.injEq] at he
 obtain ⟨rfl, rfl, rfl⟩ := he
 obtain ⟨p', c', e⟩ : ∃ p' c', Go.sliced p 0 hi c k = .slice p' hi c' := ⟨_, _, rfl⟩
 refine ⟨p', c', fun W => ?_, fun w2 h2 => ?_⟩
 ·subst hx
  have hlo : (hi : Int) ≤ (c : Int) := by omega
  cases hi' : Try.prog.info? E with
  | none => simp [hi'] at hs
  | some i =>
   have hsz : i.size = k := by simpa [hi'] using hs
   rw [← e]
   simp [go_sem, ht, hi', hsz, hlo, sizeOf, typeInfo]
 ·have := (h2.sliced 0 hi (Nat.zero_le _) h1).1
  rw [List.drop_zero, e] at this
  exact this
section
variable {w0 w w1 : World} {wb : Nat} {lb : Bool → Nat} {R : Bool → Nat → Prop} {own : Own} {mb : Bool → Bool → Nat} {F : SeRows} {V : Bool → Value} {X : Bool → List Pv} {W : Wd}
theorem Wm.cutWay (g : Wm w0 w wb lb R own mb F V X W) (i : Bool) (at_ B : Nat) (v : Value) (ho : OwnsR w1 B 37 5 Pv.cells v ((X i).take at_ ++ (X i).drop (at_ + 1))) (hB : w.heap.size ≤ B) (ko : Old w w1) (n : Nat) (hn : iv i = n) :
  ∃ own' V' X', Wm w0 (w1.setCell ⟨wb, n * 3 + 1, none⟩ v) wb lb R own' mb F V' X' { W with way := upd W.way i ((W.way i).eraseIdx at_) } := by
 subst hn
 have hS : w1.heap[wb]? = some (.cells (wdCells lb V W.e mb).toArray 71 (0, 0)) := (ko.block _ (lt_of_block g.blk) (fun f => f)).trans g.blk
 have kf : Keeps (fun b => b = wb) w1 (w1.setCell ⟨wb, iv i * 3 + 1, none⟩ v) := setAt (Keeps.refl _ _) (iv i * 3 + 1) _
 have bf := heap_setCell_same _ wb (iv i * 3 + 1) _ _ v hS
 have hvb : ∀ b, v.ownBlock = some b → w.heap.size ≤ b := fun b hb => by have := (ho.block b hb).1; omega
 have hwb : wb < w.heap.size := lt_of_block g.blk
 obtain ⟨own', g'⟩ := g.setWay i v ((X i).take at_ ++ (X i).drop (at_ + 1)) ((ko.weaken (fun _ _ f => f.elim)).trans (kf.weaken (fun b _ e => by subst e; exact ⟨_, g.owb, .inl rfl⟩))) (by
   rw [bf]
   congr 2
   cases i <;> simp [wdCells, iv, upd]) ((ho.mono (Nat.le_trans g.old.size hB)).keeps kf (fun b e h => by have := hvb b e; omega)) (fun b e => .inr (hvb b e)) (fun w' hw' x hx => by
   have K2 : Keeps (fun b => (ownB own b ∨ R false b ∨ R true b) ∨ w.heap.size ≤ b) w w' :=
    ((ko.weaken (fun _ _ f => f.elim)).trans (kf.weaken (fun b _ e => by subst e; exact .inl (.inl ⟨_, g.owb⟩)))).trans (hw'.weaken (fun b _ e => by
     rcases e with e | e | e
     ·exact .inl (.inl e)
     ·exact .inr (hvb b e)
     ·exact .inl (.inr e)))
   refine (g.data w' (K2.weaken (fun b hb e => e.elim id (fun e => by omega)))).2 i x ?_
   rcases List.mem_append.1 hx with hx | hx
   ·exact List.mem_of_mem_take hx
   ·exact List.mem_of_mem_drop hx)
 rw [← List.eraseIdx_eq_take_drop_succ, eraseIdx_map_own, ← g.way] at g'
 exact ⟨own', _, _, g'⟩
end
end Go.Proofs.Ytllnlimbfoingaa

namespace Go.Proofs.Ytllnlimbfoingaa
open Go.RowKit Go.Conc

/-- what is counted behind n steps -/
structure WB (W : Wd) (n : Nat) : Prop where
 sent : ∀ i k, (W.sent i k).length ≤ n
 life : ∀ i, (W.e i).life ≤ n + 1
 way : ∀ i, (W.way i).length ≤ 20 * n
theorem WB.told {W : Wd} {n : Nat} {j : Bool} (h : WB W n) (hi : Inv W j) (i : Bool) (k : Nat × Nat) : (W.told i k).length ≤ n := Nat.le_trans (pre_len ((hi.1 i).pre k.1 k.2)) (h.sent (!i) _)
theorem WB.next {W : Wd} {n : Nat} {j : Bool} (h : WB W n) (hi : Inv W j) (i : Bool) : (W.e i).next ≤ n + 1 := by
 rw [(hi.1 i).next]
 exact Nat.succ_le_succ (h.told hi i _)
theorem WB.waits {W : Wd} {n : Nat} {j : Bool} (h : WB W n) (hi : Inv W j) (i : Bool) : (W.e i).last + (W.e i).waits.length ≤ n := by
 have h1 := (hi.1 i).last
 have h2 := h.sent i ((W.e i).life, (W.e i).peer)
 rw [(hi.1 i).waits, List.length_drop]
 omega
theorem WB.win {W : Wd} {j : Bool} (hi : Inv W j) (i : Bool) : (W.e i).win.length ≤ 8 := of_decide_eq_true (hi.little i)
theorem outs_len {e : En} (h : e.win.length ≤ 8) : e.outs.length ≤ 17 := by
 unfold En.outs
 obtain ⟨A, hA⟩ : ∃ A, (if e.again = true then e.win else []) = A := ⟨_, rfl⟩
 have h1 : A.length ≤ 8 := by rw [← hA]; split; exact h; simp
 have h2 : e.fresh.length ≤ 8 := by unfold En.fresh En.room; simp; omega
 rw [hA]
 dsimp only
 by_cases hc : (((A ++ e.fresh).map e.pkt).isEmpty && e.owes) = true
 ·rw [if_pos hc]; simp
 ·rw [if_neg hc, List.length_map, List.length_append]; omega
theorem blk4 {w : World} {b : Nat} {t : TypeId} {a0 a1 a2 a3 : Value} (h : w.heap[b]? = some (.cells #[a0, a1, a2, a3] t (0, 0))) :
  w.cell? ⟨b, 0, none⟩ = some a0 ∧ w.cell? ⟨b, 1, none⟩ = some a1 ∧ w.cell? ⟨b, 2, none⟩ = some a2 ∧ w.cell? ⟨b, 3, none⟩ = some a3 := by simp [World.cell?, h]
theorem bounds_lk {R T : Nat → Prop} {w : World} {lb : Nat} {E : En} (h : Lk R T w lb E) : ∀ p ∈ E.outs, p.data.length ≤ 140737488355328 := by
 obtain ⟨L, rfl, _, _, _, _, _, _, h6⟩ := h
 obtain ⟨_, h1, h2⟩ := h6 w (Keeps.refl _ _)
 intro p hp
 rcases outs_mem hp with rfl | ⟨f, hf, rfl⟩
 ·exact Nat.zero_le _
 ·rcases List.mem_append.1 hf with hf | hf
  ·obtain ⟨x, hx, rfl⟩ := List.mem_map.1 (show f ∈ L.F.map Fl.plain from hf)
   exact (h2 x hx).2
  ·unfold En.fresh at hf
   obtain ⟨x, hx, rfl⟩ := List.mem_map.1 hf
   have hm : x.1 ∈ (L.plain.waits.take L.plain.room).zipIdx.map Prod.fst := List.mem_map_of_mem hx
   rw [List.zipIdx_map_fst] at hm
   obtain ⟨y, hy, e⟩ := List.mem_map.1 (show x.1 ∈ L.W.map (·.2) from List.mem_of_mem_take hm)
   show x.1.length ≤ _
   rw [← e]
   exact (h1 y hy).2
/-- a step in memory -/
abbrev St4 := Int × Int × Int × Bv
def stL (x : St4) : List Value := [.int .i64 x.1, .int .i64 x.2.1, .int .i64 x.2.2.1, x.2.2.2.1]
def stP (x : St4) : Stp := ⟨x.1, decide (x.2.1 % 2 = 1), (x.2.2.1 % 18446744073709551616).toNat, x.2.2.2.2⟩
end Go.Proofs.Ytllnlimbfoingaa
