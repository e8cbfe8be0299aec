/- DERIVED. Appending rows of several cells. · DERIVED. The contract of codec's reader: event. -/
import Derived.Test.YtehmlaplodjenaaGreatYpTopDual01
import Derived.Maps.AppendAt
import Derived.Test.YtehmlaplodjenaaGreatYpTopDual02
set_option maxRecDepth 100000
namespace Go.Proofs.YtehmlaplodjenaaGreat
section
open Go.RowKit
def OwnsR {α : Type} (w : World) (B : Nat) (E : TypeId) (k : Nat) (enc : α → List Value) (v : Value) (l : List α) : Prop := w.ownsRow B E k v l.length (l.flatMap enc)
section
variable {α : Type} {w w' : World} {B : Nat} {E : TypeId} {k : Nat} {enc : α → List Value} {v : Value} {l : List α}
theorem flat_len (hk : ∀ x ∈ l, (enc x).length = k) : (l.flatMap enc).length = l.length * k := by
 induction l with
 | nil => simp
 | cons x r ih =>
  rw [List.flatMap_cons, List.length_append, hk x (by simp), ih (fun y hy => hk y (by simp [hy])), List.length_cons, Nat.succ_mul]
  omega
theorem OwnsR.nil (w : World) (B : Nat) : OwnsR w B E k enc (.slice none 0 0) [] := World.ownsRow_nil w B _ k
theorem OwnsR.keeps {S : Nat → Prop} (h : OwnsR w B E k enc v l) (hk : Keeps S w w') (hS : ∀ b, v.ownBlock = some b → ¬ S b) : OwnsR w' B E k enc v l := ownsRow_keeps h hk hS
theorem OwnsR.old (h : OwnsR w B E k enc v l) (hk : Old w w') : OwnsR w' B E k enc v l := h.keeps hk (fun _ _ f => f)
theorem OwnsR.mono {B' : Nat} (h : OwnsR w B E k enc v l) (hb : B' ≤ B) : OwnsR w B' E k enc v l := ownsRow_mono h hb
theorem OwnsR.block (h : OwnsR w B E k enc v l) : ∀ b, v.ownBlock = some b → B ≤ b ∧ b < w.heap.size := h.lt
theorem OwnsR.alloc (h : OwnsR w B E k enc v l) (o : Obj) : OwnsR (w.alloc o) B E k enc v l := h.old ((Keeps.refl _ _).alloc o)
theorem OwnsR.sees (h : OwnsR w B E k enc v l) (hk : ∀ x, (enc x).length = k) (_hpos : 0 < k) : SeesR w k enc v l := by
 obtain ⟨h1, h2⟩ := h
 rcases h2 with ⟨rfl, h0⟩ | ⟨g, cap, cur, rfl, hb, hgg, hn, hm, hs, ht⟩
 ·have hl : l = [] := List.eq_nil_of_length_eq_zero h0
  subst hl
  exact SeesR.nil w
 ·refine ⟨_, cap, rfl, hn, hm, fun h => (by cases h), fun a ha => ?_⟩
  cases ha
  refine ⟨fun _ => rfl, fun j x hj i u hu => ?_⟩
  have hi : i < k := by rw [← hk x]; exact (List.getElem?_eq_some_iff.1 hu).1
  have hjl : j < l.length := (List.getElem?_eq_some_iff.1 hj).1
  rw [show (⟨g, 0, none⟩ : Addr).add (j * k + i) = ⟨g, j * k + i, none⟩ from by unfold Addr.add; split <;> simp_all]
  rw [cell_of_row w g _ cur _ (0, 0) hgg]
  have hj' := flat_at hk l j x hj i hi
  rw [← ht, List.getElem?_take, hu] at hj'
  split at hj'
  ·simpa using hj'
  ·cases hj'
end
theorem wpList_append_rows {P : Program} {α : Type} {w : World} {ops : Array Oper} {rest : List Oper} {o : Oper} {a : Act} {Q : Exit → Act → World → Prop} (hgd : o.guard = none) (s x : Operand) (T : TypeId)
  (ho : o.op = .call { callee := .builtin .append, args := #[s, x], argTypes := #[T, T] })
  (B : Nat) (E : TypeId) (k by_ : Nat) (enc : α → List Value) (z : Value) (ht : P.underlying T = some (.slice E)) (hinfo : (P.info? E).map (fun i => (i.zero, i.size, i.bytes)) = some (some z, k, by_)) (hzs : z.cells.size = k) (hpos : 0 < k)
  (v : Value) (l : List α) (hs : a.eval s = v) (hown : OwnsR w B E k enc v l) (u : Value) (m : List α) (hx : a.eval x = u) (hu : SeesR w k enc u m) (hk : ∀ x ∈ m, (enc x).length = k) (h1 : ∀ x ∈ m, ∀ c ∈ enc x, c.oneCell' = true)
  (h63 : l.length + m.length ≤ maxLen) (hlen : (l.length + m.length) * by_ ≤ 140737488355328) (hB : B ≤ w.heap.size)
  (h : ∀ v' w', OwnsR w' B E k enc v' (l ++ m) → w.grownBy w' v.ownBlock → (v'.ownBlock = v.ownBlock ∨ v'.ownBlock = some w.heap.size) → wpList P ops Q rest (a.put o.dst v') w') : wpList P ops Q (o :: rest) a w := by
 obtain ⟨p, c, rfl, g1, g2, g3, g4⟩ := hu
 obtain ⟨i0, hi, hz0, hz1, hz2⟩ := info_parts hinfo
 cases p with
 | none =>
  obtain rfl := g3 rfl
  obtain rfl : m = [] := List.eq_nil_of_length_eq_zero (by omega)
  exact wpList_append_own_none hgd s x T ho B E i0 k ht hi v l.length (l.flatMap enc) hs hown hx (h v w (by simpa [OwnsR] using hown) (World.grownBy.refl _ _) (.inl rfl))
 | some ad =>
  refine wpList_append_own_at w hgd s x T ho B E i0 z k by_ ht hi hz0 hz1 hz2 hzs hpos v l.length (l.flatMap enc) hs hown
   ad m.length c (m.flatMap enc) hx (flat_len hk) ?_ ?_ h63 hlen hB ?_
  ·intro j u hu
   have hj : j < m.length * k := by rw [← flat_len hk]; exact (List.getElem?_eq_some_iff.1 hu).1
   have hq : j / k < m.length := (Nat.div_lt_iff_lt_mul hpos).2 hj
   have hx' : m[j / k]? = some m[j / k] := List.getElem?_eq_getElem hq
   have hjr : j = j / k * k + j % k := by rw [Nat.mul_comm]; exact (Nat.div_add_mod j k).symm
   rw [hjr]
   refine (g4 ad rfl).2 (j / k) _ hx' (j % k) u ?_
   rw [← hu]
   have := flat_at' hk (j / k) _ hx' (j % k) (Nat.mod_lt _ hpos)
   rw [← this, ← hjr]
  ·intro u hu
   obtain ⟨y, hy, hyu⟩ := List.mem_flatMap.1 hu
   exact h1 y hy u hyu
  ·intro v' w' ho' hg' _ hat
   exact h v' w' (by unfold OwnsR; simpa using ho') hg' hat
theorem step_append_rows {P : Program} {α : Type} {w : World} {ops : Array Oper} {o : Oper} {a : Act} {K : Act → World → Prop} {Q : Exit → Act → World → Prop} {G : Prop} (hgd : o.guard = none) (s x : Operand) (T : TypeId)
  (ho : o.op = .call { callee := .builtin .append, args := #[s, x], argTypes := #[T, T] })
  (B : Nat) (E : TypeId) (k by_ : Nat) (enc : α → List Value) (z : Value) (ht : P.underlying T = some (.slice E)) (hinfo : (P.info? E).map (fun i => (i.zero, i.size, i.bytes)) = some (some z, k, by_)) (hzs : z.cells.size = k) (hpos : 0 < k)
  (v : Value) (l : List α) (hs : a.eval s = v) (hown : OwnsR w B E k enc v l) (u : Value) (m : List α) (hx : a.eval x = u) (hu : SeesR w k enc u m) (hk : ∀ x ∈ m, (enc x).length = k) (h1 : ∀ x ∈ m, ∀ c ∈ enc x, c.oneCell' = true)
  (h63 : l.length + m.length ≤ maxLen) (hlen : (l.length + m.length) * by_ ≤ 140737488355328) (hB : B ≤ w.heap.size)
  (h : ∀ v' w', OwnsR w' B E k enc v' (l ++ m) → w.grownBy w' v.ownBlock → (v'.ownBlock = v.ownBlock ∨ v'.ownBlock = some w.heap.size) → K (a.put o.dst v') w') :
  if Region.wanted o (yielded ops a.tmps) = true then Oper.wp P o a w K Q else G := by
 have hw : Region.wanted o (yielded ops a.tmps) = true := by simp [Region.wanted, hgd]
 rw [if_pos hw]
 obtain ⟨p, c, rfl, g1, g2, g3, g4⟩ := hu
 obtain ⟨i0, hi, hz0, hz1, hz2⟩ := info_parts hinfo
 cases p with
 | none =>
  obtain rfl := g3 rfl
  obtain rfl : m = [] := List.eq_nil_of_length_eq_zero (by omega)
  have hrun := run_append_owned_none (P := P) (w := w) B T o.type E i0 k ht hi v l.length (l.flatMap enc) hown
  unfold Oper.wp
  simp [execOp, ho, resolve, invoke, builtin, hs, hx, hrun, Result.andThen]
  exact h v w (by simpa [OwnsR] using hown) (World.grownBy.refl _ _) (.inl rfl)
 | some ad =>
  obtain ⟨v', w', hr, h2, h3, _, h5⟩ := run_append_own_at (P := P) w B T o.type E i0 z k by_ ht hi hz0 hz1 hz2 hzs hpos v l.length (l.flatMap enc) hown ad m.length c (m.flatMap enc) (flat_len hk) (by
    intro j u hu
    have hj : j < m.length * k := by rw [← flat_len hk]; exact (List.getElem?_eq_some_iff.1 hu).1
    have hq : j / k < m.length := (Nat.div_lt_iff_lt_mul hpos).2 hj
    have hx' : m[j / k]? = some m[j / k] := List.getElem?_eq_getElem hq
    have hjr : j = j / k * k + j % k := by rw [Nat.mul_comm]; exact (Nat.div_add_mod j k).symm
    rw [hjr]
    refine (g4 ad rfl).2 (j / k) _ hx' (j % k) u ?_
    rw [← hu]
    have := flat_at' hk (j / k) _ hx' (j % k) (Nat.mod_lt _ hpos)
    rw [← this, ← hjr]) (by
    intro u hu
    obtain ⟨y, hy, hyu⟩ := List.mem_flatMap.1 hu
    exact h1 y hy u hyu) h63 hlen hB
  unfold Oper.wp
  simp [execOp, ho, resolve, invoke, builtin, hs, hx, hr, Result.andThen]
  exact h v' w' (by unfold OwnsR; simpa using h2) h3 h5
end
section
open Go.RowKit
abbrev OwnsA (w : World) (B : Nat) (v : Value) (l : List At) : Prop := OwnsR w B 63 5 At.cells v l
theorem Tryz.infoAttr : (Tryz.prog.info? 63).map (fun i => (i.zero, i.size, i.bytes)) = some (some (.agg #[.string ⟨#[]⟩, .int .i64 0, .int .i64 0, .string ⟨#[]⟩, .bool false]), 5, 56) := by kernel_rfl
theorem blk2 {w : World} {b : Nat} {t : TypeId} {a0 a1 : Value} (h : w.heap[b]? = some (.cells #[a0, a1] t (0, 0))) :
  (w.cell? ⟨b, 0, none⟩ = some a0 ∧ w.cell? ⟨b, 1, none⟩ = some a1) ∧ (w.frozen? ⟨b, 0, none⟩ = false ∧ w.frozen? ⟨b, 1, none⟩ = false) := by simp [World.cell?, World.frozen?, h]
end
section
open Go.RowKit
def valL (v : Val) : List Value := [.int .i64 v.kind, .int .i64 v.num, .string v.str, .bool v.is]
abbrev SeesV (w : World) (v : Value) (l : List Val) : Prop := SeesR w 4 valL v l
structure Con where
 name : ByteArray
 op : Int
 val : Val
 sv : Value
 set : List Val
def Con.cells (c : Con) : List Value := [.string c.name, .int .i64 c.op, .int .i64 c.val.kind, .int .i64 c.val.num, .string c.val.str, .bool c.val.is, c.sv]
def bare (v : Val) : Bool := (v.kind == 0) && ((v.num == 0) && (v.str.toList.isEmpty && !v.is))
def conOk (c : Con) : Bool :=
 decide (1 ≤ c.name.size) && decide (c.name.size ≤ 16) &&
 if c.op = 1 then bare c.val && decide (c.set.length = 0)
 else if 2 ≤ c.op ∧ c.op ≤ 7 then c.val.ok && decide (c.set.length = 0)
 else if c.op = 8 then c.val.ok && (decide (c.val.kind = 2) && decide (c.set.length = 0))
 else if c.op = 9 then bare c.val && (decide (1 ≤ c.set.length) && (decide (c.set.length ≤ 6) && c.set.all Val.ok))
 else false
theorem eql_bare (v : Val) (W : World) : (binOp .eql 61 (.agg v.cells) (.agg #[.int .i64 0, .int .i64 0, .string ⟨#[]⟩, .bool false])).run Tryz.prog W = .ok (.bool (bare v)) W := by
 obtain ⟨k, n, s, b⟩ := v
 unfold Val.cells bare
 rw [eql_val, empty_eq]
 cases b <;> simp
theorem may_cons1_any (v : Val) (w : World) : Calls Tryz.prog 63 #[.agg v.cells] w fun e w' => e = .returned (.bool (!v.ok)) ∧ Old w w' := by
 have V := fun W => val_any v W
 obtain ⟨k, n, s, b⟩ := v
 unfold Val.cells at V ⊢
 simp only at V ⊢
 have HV := Lib.hid V
 clear V
 go_enter Tryz.func63, Tryz.ntmps63
 go_wp2_with fail
 refine (HV.out _).mono ?_
 rintro e w1 ⟨rfl, hk⟩
 have K := Lib.hid (((Keeps.refl _ w).alloc _).trans hk)
 clear hk
 go_wp2_with fail
 go_ret
 exact ⟨rfl, K.out⟩
theorem index_set_any (v : Value) (l : List Val) (w : World) (h : SeesR w 4 valL v l) (hf : ∀ x ∈ l, True)
  (hc : ∀ x, True → ∀ W, Old w W → Calls Tryz.prog 63 #[.agg x.cells] W fun e w' => e = .returned (.bool (!Val.ok x)) ∧ Old W w') :
  Calls Tryz.prog 105 #[v, .func (.func 63) #[] #[]] w fun e w' => (∃ i : Int, e = .returned (.int .i64 i) ∧ decide (0 ≤ i) = !(l.all Val.ok)) ∧ Old w w' := by
 by_cases hl : 0 < l.length
 ·obtain ⟨b, o, c, rfl, h1, h2, hcell⟩ := h.at hl
  have hm : l.length ≤ 9223372036854775807 := by unfold maxLen at h2; omega
  have HC := Lib.hid hcell
  have HF := Lib.hid hf
  have HK := Lib.hid hc
  clear h1 h2 h hcell hl hf hc
  go_enter Tryz.func105, Tryz.ntmps105
  go_wp2_with fail
  go_loopw [8] (fun v8 wr => ∃ k : Nat, k ≤ l.length ∧ v8 = .int .i64 k ∧ (l.take k).all Val.ok = true ∧ Old w wr) (fun v8 _ => l.length - (intOf v8).toNat)
  case atStart => exact ⟨0, by omega, rfl, by simp, Keeps.refl _ _⟩
  case round =>
   obtain ⟨k, hk, rfl, hr, hkw⟩ := hrel
   have HR := Lib.hid hr
   clear hr
   by_cases hlt : k < l.length
   ·have hx : l[k]? = some l[k] := List.getElem?_eq_getElem hlt
    generalize l[k] = x at hx
    have cell : ∀ i u, (valL x)[i]? = some u → wr.cell? ⟨b, o + k * 4 + i, none⟩ = some u := fun i u hu => hkw.cell (HC.out k x hx i u hu) (fun f => f)
    have c0 := cell 0 _ rfl
    have c1 := cell 1 _ rfl
    have c2 := cell 2 _ rfl
    have c3 := cell 3 _ rfl
    simp only [Nat.add_zero] at c0
    have N := HK.out x (HF.out x (List.mem_of_getElem? hx)) wr hkw
    have HX := Lib.hid (And.intro hx hkw)
    clear cell hx hkw
    cases hg : Val.ok x
    ·rw [hg] at N
     have HN := Lib.hid N
     have HG := Lib.hid hg
     clear N hg
     go_wp2_with fail
     refine HN.out.mono ?_
     rintro e w1 ⟨rfl, hk1⟩
     have K1 := Lib.hid (HX.out.2.trans hk1)
     clear hk1
     go_wp2_with fail
     go_ret
     exact ⟨⟨k, rfl, by rw [all_false_of HX.out.1 HG.out]; simp⟩, K1.out⟩
    ·rw [hg] at N
     have HN := Lib.hid N
     have HG := Lib.hid hg
     clear N hg
     go_wp2_with fail
     refine HN.out.mono ?_
     rintro e w1 ⟨rfl, hk1⟩
     have K1 := Lib.hid (HX.out.2.trans hk1)
     clear hk1
     go_wp2_with fail
     go_roundw
     case rel => exact ⟨k + 1, by omega, by go_num, by rw [all_take_succ HX.out.1, HR.out, HG.out]; rfl, K1.out⟩
     case measure => simp [intOf]; omega
   ·have K1 := Lib.hid hkw
    clear hkw
    go_wp2_with fail
    go_ret
    refine ⟨⟨-1, rfl, ?_⟩, K1.out⟩
    have := HR.out
    rw [List.take_of_length_le (by omega)] at this
    rw [this]
    rfl
 ·obtain ⟨rfl, p, c, rfl⟩ := h.at0 (by omega)
  clear h hl hf hc
  go_enter Tryz.func105, Tryz.ntmps105
  go_wp2_with fail
  go_loopw [8] (fun v8 wr => v8 = .int .i64 0 ∧ Old w wr) (fun _ _ => 0)
  case atStart => exact ⟨rfl, Keeps.refl _ _⟩
  case round =>
   obtain ⟨rfl, hkw⟩ := hrel
   have K1 := Lib.hid hkw
   clear hkw
   go_wp2_with fail
   go_ret
   exact ⟨⟨-1, rfl, rfl⟩, K1.out⟩
theorem contains_set_any (v : Value) (l : List Val) (w : World) (h : SeesR w 4 valL v l) (hf : ∀ x ∈ l, True)
  (hc : ∀ x, True → ∀ W, Old w W → Calls Tryz.prog 63 #[.agg x.cells] W fun e w' => e = .returned (.bool (!Val.ok x)) ∧ Old W w') :
  Calls Tryz.prog 62 #[v, .func (.func 63) #[] #[]] w fun e w' => e = .returned (.bool (!(l.all Val.ok))) ∧ Old w w' := by
 obtain ⟨p, c, rfl, h1, h2⟩ := h.len
 have C := Lib.hid (index_set_any _ l w h hf hc)
 clear h h1 h2 hf hc
 go_enter Tryz.func62, Tryz.ntmps62
 go_wp2_with fail
 refine C.out.mono ?_
 rintro e w' ⟨⟨i, rfl, hi⟩, hk⟩
 have HI := Lib.hid (And.intro hi hk)
 clear hi hk
 go_wp2_with fail
 go_ret
 exact ⟨ret_bool HI.out.1, HI.out.2⟩
end
end Go.Proofs.YtehmlaplodjenaaGreat
