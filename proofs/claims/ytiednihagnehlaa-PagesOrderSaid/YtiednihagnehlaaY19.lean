/- DERIVED. Chapter 21: a message out of bytes (plain); a message's own parts; stores into a message. · DERIVED. Chapter 21: Ours, theirs. (gen_ow.py wrote it) · DERIVED. Chapter 25: a query; what the closures of the queue ask. -/
import Derived.Test.YtiednihagnehlaaY18
import Derived.Test.YtiednihagnehlaaY13
import Derived.Deep.MidRow
import Derived.Test.YtiednihagnehlaaY04
namespace Go.Proofs.Ytiednihagnehlaa
open Go.RowKit

/-- one part is read -/
def stepM (p : Int) (m : PMs) (l : List UInt8) : Option (PMs × List UInt8) :=
 if p = 0 then (pNum mMost l).map fun x => ({ m with pub := (x.1 : Int) }, x.2)
 else if p = 1 then (pNum mMost l).map fun x => ({ m with ver := x.1 }, x.2)
 else if p = 2 then (pNum mMost l).map fun x => ({ m with there := x.1 == 1 }, x.2)
 else if p = 3 then (if m.kind = 1 ∧ m.there = false then some (m, l) else (pPart takeP l).map fun x => ({ m with ps := x.1 }, x.2))
 else if p = 4 then (pPart takeI l).map fun x => ({ m with it := x.1 }, x.2)
 else if p = 5 then (pNum mMost l).bind fun x => (pNum mMost x.2).bind fun y => (pNum mMost y.2).map fun z => ({ m with tb := (x.1 : Int), tl := y.1, tc := z.1 }, z.2)
 else if p = 6 then (pNum mMost l).map fun x => ({ m with frm := x.1 }, x.2)
 else (pPart takeG l).map fun x => ({ m with pg := x.1 }, x.2)
/-- the parts are read in order -/
def partsM : List Int → PMs → List UInt8 → Option (PMs × List UInt8)
 | [], m, l => some (m, l)
 | p :: r, m, l => (stepM p m l).bind fun x => partsM r x.1 x.2
def parseM (l : List UInt8) : Option (PMs × List UInt8) := (pNum mMost l).bind fun x => partsM (partsL (x.1 : Int)) { noMs with kind := (x.1 : Int) } x.2
/-- bytes as a message -/
def takeM (b : List UInt8) : Option PMs := (parseM b).bind fun x => if mayM x.1 && decide (mForm x.1 = b) then some x.1 else none

/-- a number that is read; 0 if none -/
abbrev numV (st : Option (List UInt8)) : Nat := (st.bind (pNum mMost)).elim 0 (·.1)
abbrev numR (st : Option (List UInt8)) : Option (List UInt8) := (st.bind (pNum mMost)).map (·.2)
theorem numV_le (st : Option (List UInt8)) : numV st ≤ mMost := by
 unfold numV
 cases st with
 | none => exact Nat.zero_le _
 | some l =>
  simp only [Option.bind_some]
  cases h : pNum mMost l with
  | none => exact Nat.zero_le _
  | some x => exact (pNum_inv (n := x.1) (r := x.2) h).2.1
theorem step0 (st : Option (List UInt8)) (m : PMs) (r : List Int) : (st.bind fun l => partsM (0 :: r) m l) = (numR st).bind fun l => partsM r { m with pub := (numV st : Int) } l := by
 cases st with
 | none => rfl
 | some l => simp only [Option.bind_some, partsM, stepM, if_true, numR, numV]; cases pNum mMost l <;> rfl
theorem step1 (st : Option (List UInt8)) (m : PMs) (r : List Int) : (st.bind fun l => partsM (1 :: r) m l) = (numR st).bind fun l => partsM r { m with ver := numV st } l := by
 cases st with
 | none => rfl
 | some l => simp only [Option.bind_some, partsM, stepM, show ¬ ((1 : Int) = 0) by decide, if_false, if_true, numR, numV]; cases pNum mMost l <;> rfl
theorem step2 (st : Option (List UInt8)) (m : PMs) (r : List Int) : (st.bind fun l => partsM (2 :: r) m l) = (numR st).bind fun l => partsM r { m with there := numV st == 1 } l := by
 cases st with
 | none => rfl
 | some l => simp only [Option.bind_some, partsM, stepM, show ¬ ((2 : Int) = 0) by decide, show ¬ ((2 : Int) = 1) by decide, if_false, if_true, numR, numV]; cases pNum mMost l <;> rfl
theorem step3n (st : Option (List UInt8)) (m : PMs) (r : List Int) (h : m.kind = 1 ∧ m.there = false) : (st.bind fun l => partsM (3 :: r) m l) = st.bind fun l => partsM r m l := by
 cases st with
 | none => rfl
 | some l => simp only [Option.bind_some, partsM, stepM, show ¬ ((3 : Int) = 0) by decide, show ¬ ((3 : Int) = 1) by decide, show ¬ ((3 : Int) = 2) by decide, if_false, if_true]; rw [if_pos h]; rfl
theorem step3 (st : Option (List UInt8)) (m : PMs) (r : List Int) (cs : List PCon) (h : ¬ (m.kind = 1 ∧ m.there = false)) (hx : ∀ x, st.bind (pPart takeP) = some x → cs = x.1) : (st.bind fun l => partsM (3 :: r) m l) = ((st.bind (pPart takeP)).map (·.2)).bind fun l => partsM r { m with ps := cs } l := by
 cases st with
 | none => rfl
 | some l =>
  simp only [Option.bind_some, partsM, stepM, show ¬ ((3 : Int) = 0) by decide, show ¬ ((3 : Int) = 1) by decide, show ¬ ((3 : Int) = 2) by decide, if_false, if_true] at hx ⊢
  rw [if_neg h]
  cases hp : pPart takeP l with
  | none => rfl
  | some x => rw [hx x hp]; rfl
theorem step4 (st : Option (List UInt8)) (m : PMs) (r : List Int) (it : PIt) (hx : ∀ x, st.bind (pPart takeI) = some x → it = x.1) : (st.bind fun l => partsM (4 :: r) m l) = ((st.bind (pPart takeI)).map (·.2)).bind fun l => partsM r { m with it := it } l := by
 cases st with
 | none => rfl
 | some l =>
  simp only [Option.bind_some, partsM, stepM, show ¬ ((4 : Int) = 0) by decide, show ¬ ((4 : Int) = 1) by decide, show ¬ ((4 : Int) = 2) by decide, show ¬ ((4 : Int) = 3) by decide, if_false, if_true] at hx ⊢
  cases hp : pPart takeI l with
  | none => rfl
  | some x => rw [hx x hp]; rfl
theorem step5 (st : Option (List UInt8)) (m : PMs) (r : List Int) : (st.bind fun l => partsM (5 :: r) m l) = (numR (numR (numR st))).bind fun l => partsM r { m with tb := (numV st : Int), tl := numV (numR st), tc := numV (numR (numR st)) } l := by
 cases st with
 | none => rfl
 | some l =>
  simp only [Option.bind_some, partsM, stepM, show ¬ ((5 : Int) = 0) by decide, show ¬ ((5 : Int) = 1) by decide, show ¬ ((5 : Int) = 2) by decide, show ¬ ((5 : Int) = 3) by decide, show ¬ ((5 : Int) = 4) by decide, if_false, if_true, numR, numV]
  cases pNum mMost l with
  | none => rfl
  | some x =>
   simp only [Option.bind_some, Option.map_some, Option.elim_some]
   cases pNum mMost x.2 with
   | none => rfl
   | some y =>
    simp only [Option.bind_some, Option.map_some, Option.elim_some]
    cases pNum mMost y.2 <;> rfl
theorem step6 (st : Option (List UInt8)) (m : PMs) (r : List Int) : (st.bind fun l => partsM (6 :: r) m l) = (numR st).bind fun l => partsM r { m with frm := numV st } l := by
 cases st with
 | none => rfl
 | some l => simp only [Option.bind_some, partsM, stepM, show ¬ ((6 : Int) = 0) by decide, show ¬ ((6 : Int) = 1) by decide, show ¬ ((6 : Int) = 2) by decide, show ¬ ((6 : Int) = 3) by decide, show ¬ ((6 : Int) = 4) by decide, show ¬ ((6 : Int) = 5) by decide, if_false, if_true, numR, numV]; cases pNum mMost l <;> rfl
theorem step7 (st : Option (List UInt8)) (m : PMs) (r : List Int) (pg : PPg) (hx : ∀ x, st.bind (pPart takeG) = some x → pg = x.1) : (st.bind fun l => partsM (7 :: r) m l) = ((st.bind (pPart takeG)).map (·.2)).bind fun l => partsM r { m with pg := pg } l := by
 cases st with
 | none => rfl
 | some l =>
  simp only [Option.bind_some, partsM, stepM, show ¬ ((7 : Int) = 0) by decide, show ¬ ((7 : Int) = 1) by decide, show ¬ ((7 : Int) = 2) by decide, show ¬ ((7 : Int) = 3) by decide, show ¬ ((7 : Int) = 4) by decide, show ¬ ((7 : Int) = 5) by decide, show ¬ ((7 : Int) = 6) by decide, if_false] at hx ⊢
  cases hp : pPart takeG l with
  | none => rfl
  | some x => rw [hx x hp]; rfl

/-- a message whose parts lie in blocks of its own, from block B on -/
def MsO (w : World) (B : Nat) (m : Ms) : Prop :=
 (OwnN w B 69 7 Con.cells Con.sv ConF m.pv m.ps ∧ ∀ c ∈ m.ps.map Con.plain, ConG c) ∧
 (OwnsA w B m.it.av m.it.es ∧ (m.it.n < 18446744073709551616 ∧ m.it.time < 18446744073709551616) ∧ Fits m.it.es) ∧
 ((OwnN w B 35 4 It.cells It.av ItF m.pg.iv m.pg.its ∧ OwnsR w B 116 2 gapL m.pg.gv m.pg.gs) ∧ ((m.pg.fr < 18446744073709551616 ∧ m.pg.en < 18446744073709551616) ∧ (∀ y ∈ m.pg.its, Fits y.es ∧ y.n < 18446744073709551616 ∧ y.time < 18446744073709551616) ∧ ∀ g ∈ m.pg.gs, g.1 < 18446744073709551616 ∧ g.2 < 18446744073709551616)) ∧
 (I64 m.kind ∧ I64 m.pub ∧ I64 m.tb) ∧ (U64 m.ver ∧ U64 m.tl ∧ U64 m.tc ∧ U64 m.frm)
theorem MsO.keeps {S : Nat → Prop} {w w' : World} {B : Nat} {m : Ms} (h : MsO w B m) (hk : Keeps S w w') (hS : ∀ b, B ≤ b → b < w.heap.size → ¬ S b) : MsO w' B m :=
 ⟨⟨h.1.1.keeps conF_k hk hS, h.1.2⟩, ⟨h.2.1.1.keeps hk (fun b hb => hS b (h.2.1.1.block b hb).1 (h.2.1.1.block b hb).2), h.2.1.2⟩,
  ⟨⟨h.2.2.1.1.1.keeps itF_k hk hS, h.2.2.1.1.2.keeps hk (fun b hb => hS b (h.2.2.1.1.2.block b hb).1 (h.2.2.1.1.2.block b hb).2)⟩, h.2.2.1.2⟩, h.2.2.2⟩
theorem MsO.old {w w' : World} {B : Nat} {m : Ms} (h : MsO w B m) (hk : Old w w') : MsO w' B m := h.keeps hk (fun _ _ _ f => f)
theorem MsO.mono {w : World} {B B' : Nat} {m : Ms} (h : MsO w B m) (hb : B' ≤ B) : MsO w B' m :=
 ⟨⟨h.1.1.mono' hb, h.1.2⟩, ⟨h.2.1.1.mono hb, h.2.1.2⟩, ⟨⟨h.2.2.1.1.1.mono' hb, h.2.2.1.1.2.mono hb⟩, h.2.2.1.2⟩, h.2.2.2⟩
theorem MsO.fine {w : World} {B : Nat} {m : Ms} (h : MsO w B m) : m.fine w := by
 obtain ⟨⟨h1, h1'⟩, ⟨h2, h2', h2''⟩, ⟨⟨h3, h4⟩, ⟨h5, h6⟩, h7, h8⟩, h9⟩ := h
 refine ⟨⟨⟨h1.1.sees (fun _ => rfl) (by decide), fun y hy => ?_⟩, fun _ b hb => (h1.1.block b hb).2⟩, ⟨h2.sees (fun _ => rfl) (by decide), fun _ b hb => (h2.block b hb).2, h2'', h2'.1, h2'.2⟩,
  ⟨⟨h3.1.sees (fun _ => rfl) (by decide), fun y hy => ?_, h4.sees (fun _ => rfl) (by decide)⟩, h8, ⟨h5, h6⟩, fun _ b hb => (h3.1.block b hb).2, fun _ b hb => (h4.block b hb).2⟩, h9⟩
 ·have hg := h1' y.plain (List.mem_map_of_mem hy)
  have hb : y.name.size ≤ 16 := hg.1
  exact ⟨(h1.2 y hy).1, ⟨by omega, hg.2.1⟩, hg.2.2, fun _ b hb' => ((h1.2 y hy).2 b hb').2.1⟩
 ·exact ⟨(h3.2 y hy).1, fun _ k hk => ((h3.2 y hy).2 k hk).2.1, (h7 y hy).1, (h7 y hy).2.1, (h7 y hy).2.2⟩
/-- the message of which nothing is set -/
def zeroMs : Ms := ⟨0, 0, 0, false, .slice none 0 0, [], ⟨0, 0, ⟨#[]⟩, .slice none 0 0, []⟩, 0, 0, 0, 0, ⟨0, 0, .slice none 0 0, [], .slice none 0 0, [], false⟩⟩
theorem MsO.zero (w : World) (B : Nat) : MsO w B zeroMs :=
 ⟨⟨OwnN.nil _ _, fun c hc => by cases hc⟩, ⟨OwnsR.nil _ _, ⟨by decide, by decide⟩, fun _ h => (by cases h)⟩, ⟨⟨OwnN.nil _ _, OwnsR.nil _ _⟩, ⟨by decide, by decide⟩, fun _ h => (by cases h), fun _ h => (by cases h)⟩, ⟨⟨by decide, by decide⟩, ⟨by decide, by decide⟩, ⟨by decide, by decide⟩⟩, by unfold U64; decide, by unfold U64; decide, by unfold U64; decide, by unfold U64; decide⟩

/-- cells from o on are replaced -/
def putRange (cs : Array Value) (o : Nat) : List Value → Array Value
 | [] => cs
 | v :: r => putRange (cs.setIfInBounds o v) (o + 1) r
theorem setCells_heap {b : Nat} {t : TypeId} : ∀ (vs : List Value) (o : Nat) (w : World) (cs : Array Value), w.heap[b]? = some (.cells cs t (0, 0)) → (w.setCells b o vs).heap[b]? = some (.cells (putRange cs o vs) t (0, 0))
 | [], _, _, _, h => h
 | v :: r, o, w, _cs, h => setCells_heap r (o + 1) _ _ (heap_setCell_same w b o _ _ v h)
theorem setCells_keeps {b : Nat} : ∀ (vs : List Value) (o : Nat) (w a : World), Keeps (fun k => k = b) a w → Keeps (fun k => k = b) a (w.setCells b o vs)
 | [], _, _, _, h => h
 | v :: r, o, _w, _a, h => setCells_keeps r (o + 1) _ _ (keepS v h)
theorem there_of {w : World} {b : Nat} {cs : Array Value} {t : TypeId} (h : w.heap[b]? = some (.cells cs t (0, 0))) (o n : Nat) (hn : o + n ≤ cs.size) : w.there b o n := by
 intro j hj
 have : o + j < cs.size := by omega
 constructor
 ·simp [World.cell?, h, this]
 ·simp [World.frozen?, h]
/-- several cells are stored into a block -/
theorem store_cells {w : World} {b o : Nat} {cs : Array Value} {t ty : TypeId} (h : w.heap[b]? = some (.cells cs t (0, 0))) (vs : Array Value) (hn : o + vs.size ≤ cs.size) (hi : (Try.prog.info? ty).map (·.size) = some vs.size) (h1 : vs.all (·.oneCell') = true) {cs' : Array Value} (hc : putRange cs o vs.toList = cs') :
  ∃ w', (storeVar ty ⟨b, o, none⟩ (.agg vs)).run Try.prog w = .ok () w' ∧ w'.heap[b]? = some (.cells cs' t (0, 0)) ∧ Keeps (fun k => k = b) w w' :=
 ⟨_, run_storeVar_mid w b o ty vs (there_of h o _ hn) hi h1, hc ▸ setCells_heap vs.toList o w cs h, setCells_keeps vs.toList o w w (Keeps.refl _ _)⟩
/-- one cell is stored into a block -/
theorem store_cell {w : World} {b o : Nat} {cs : Array Value} {t ty : TypeId} (h : w.heap[b]? = some (.cells cs t (0, 0))) (v : Value) (hv : v.cells = #[v]) (hn : o < cs.size) (hi : (Try.prog.info? ty).map (·.size) = some 1) (h1 : v.oneCell' = true) {cs' : Array Value} (hc : cs.setIfInBounds o v = cs') :
  ∃ w', (storeVar ty ⟨b, o, none⟩ v).run Try.prog w = .ok () w' ∧ w'.heap[b]? = some (.cells cs' t (0, 0)) ∧ Keeps (fun k => k = b) w w' := by
 refine ⟨w.setCell ⟨b, o, none⟩ v, ?_, hc ▸ heap_setCell_same w b o _ _ v h, keepS _ (Keeps.refl _ _)⟩
 have := run_storeCells_cells (P := Try.prog) b o [v] 0 w (fun j hj => by have := (there_of h o 1 (by omega) j (by simpa using hj)).1; simpa using this) (fun j hj => by have := (there_of h o 1 (by omega) j (by simpa using hj)).2; simpa using this) (fun x hx => by simp at hx; subst hx; exact h1)
 cases hq : Try.prog.info? ty with
 | none => simp [hq] at hi
 | some i =>
  have hs : i.size = 1 := by simpa [hq] using hi
  simp only [Nat.add_zero] at this
  simp [storeVar, sizeOf, typeInfo, hq, hv, hs, this, World.setCells]

theorem putRange_whole {cs vs : Array Value} (h : cs.size = vs.size) : putRange cs 0 vs.toList = vs := by
 have key : ∀ (l pre : List Value) (rest : List Value), rest.length = l.length → putRange (pre ++ rest).toArray pre.length l = (pre ++ l).toArray := by
  intro l
  induction l with
  | nil => intro pre rest hr; have : rest = [] := List.eq_nil_of_length_eq_zero hr; subst this; rfl
  | cons v r ih =>
   intro pre rest hr
   cases rest with
   | nil => simp at hr
   | cons a t =>
    unfold putRange
    have e : (pre ++ a :: t).toArray.setIfInBounds pre.length v = ((pre ++ [v]) ++ t).toArray := by
     simp
    rw [e]
    have := ih (pre ++ [v]) t (by simpa using hr)
    simpa using this
 have := key vs.toList [] cs.toList (by simpa using h)
 simpa using this
abbrev MAt (w : World) (mb : Nat) (m : Ms) : Prop := w.heap[mb]? = some (.cells m.cells.toArray 43 (0, 0))
theorem store_pub {w : World} {mb : Nat} {m : Ms} (h : MAt w mb m) (n : Int) : ∃ w', (storeVar 3 ⟨mb, 1, none⟩ (.int .i64 n)).run Try.prog w = .ok () w' ∧ MAt w' mb { m with pub := n } ∧ Keeps (fun k => k = mb) w w' :=
 store_cell h _ rfl (by simp [Ms.cells]) (by kernel_rfl) (by simp [Value.oneCell']) (by simp [Ms.cells])
theorem store_ver {w : World} {mb : Nat} {m : Ms} (h : MAt w mb m) (n : Nat) : ∃ w', (storeVar 28 ⟨mb, 2, none⟩ (.int .u64 n)).run Try.prog w = .ok () w' ∧ MAt w' mb { m with ver := n } ∧ Keeps (fun k => k = mb) w w' :=
 store_cell h _ rfl (by simp [Ms.cells]) (by kernel_rfl) (by simp [Value.oneCell']) (by simp [Ms.cells])
theorem store_there {w : World} {mb : Nat} {m : Ms} (h : MAt w mb m) (n : Bool) : ∃ w', (storeVar 4 ⟨mb, 3, none⟩ (.bool n)).run Try.prog w = .ok () w' ∧ MAt w' mb { m with there := n } ∧ Keeps (fun k => k = mb) w w' :=
 store_cell h _ rfl (by simp [Ms.cells]) (by kernel_rfl) (by simp [Value.oneCell']) (by simp [Ms.cells])
theorem store_pred {w : World} {mb : Nat} {m : Ms} (h : MAt w mb m) (p : Option Addr) (n c : Nat) (cs : List Con) : ∃ w', (storeVar 30 ⟨mb, 4, none⟩ (.slice p n c)).run Try.prog w = .ok () w' ∧ MAt w' mb { m with pv := .slice p n c, ps := cs } ∧ Keeps (fun k => k = mb) w w' :=
 store_cell h _ rfl (by simp [Ms.cells]) (by kernel_rfl) (by simp [Value.oneCell']) (by simp [Ms.cells])
theorem store_life {w : World} {mb : Nat} {m : Ms} (h : MAt w mb m) (n : Nat) : ∃ w', (storeVar 28 ⟨mb, 10, none⟩ (.int .u64 n)).run Try.prog w = .ok () w' ∧ MAt w' mb { m with tl := n } ∧ Keeps (fun k => k = mb) w w' :=
 store_cell h _ rfl (by simp [Ms.cells]) (by kernel_rfl) (by simp [Value.oneCell']) (by simp [Ms.cells])
theorem store_count {w : World} {mb : Nat} {m : Ms} (h : MAt w mb m) (n : Nat) : ∃ w', (storeVar 28 ⟨mb, 11, none⟩ (.int .u64 n)).run Try.prog w = .ok () w' ∧ MAt w' mb { m with tc := n } ∧ Keeps (fun k => k = mb) w w' :=
 store_cell h _ rfl (by simp [Ms.cells]) (by kernel_rfl) (by simp [Value.oneCell']) (by simp [Ms.cells])
theorem store_from {w : World} {mb : Nat} {m : Ms} (h : MAt w mb m) (n : Nat) : ∃ w', (storeVar 28 ⟨mb, 12, none⟩ (.int .u64 n)).run Try.prog w = .ok () w' ∧ MAt w' mb { m with frm := n } ∧ Keeps (fun k => k = mb) w w' :=
 store_cell h _ rfl (by simp [Ms.cells]) (by kernel_rfl) (by simp [Value.oneCell']) (by simp [Ms.cells])
theorem store_tok {w : World} {mb : Nat} {m : Ms} (h : MAt w mb m) (a : Int) (b c : Nat) : ∃ w', (storeVar 37 ⟨mb, 9, none⟩ (.agg #[.int .i64 a, .int .u64 b, .int .u64 c])).run Try.prog w = .ok () w' ∧ MAt w' mb { m with tb := a, tl := b, tc := c } ∧ Keeps (fun k => k = mb) w w' :=
 store_cells h _ (by simp [Ms.cells]) (by kernel_rfl) (by simp [Value.oneCell']) (by simp [Ms.cells, putRange])
theorem store_item {w : World} {mb : Nat} {m : Ms} (h : MAt w mb m) (n tm : Nat) (key : ByteArray) (p : Option Addr) (l c : Nat) (es : List At) : ∃ w', (storeVar 35 ⟨mb, 5, none⟩ (.agg #[.int .u64 n, .int .u64 tm, .string key, .slice p l c])).run Try.prog w = .ok () w' ∧ MAt w' mb { m with it := ⟨n, tm, key, .slice p l c, es⟩ } ∧ Keeps (fun k => k = mb) w w' :=
 store_cells h _ (by simp [Ms.cells]) (by kernel_rfl) (by simp [Value.oneCell']) (by simp [Ms.cells, putRange])
theorem store_page {w : World} {mb : Nat} {m : Ms} (h : MAt w mb m) (fr en : Nat) (p : Option Addr) (l c : Nat) (its : List It) (q : Option Addr) (f g : Nat) (gs : List PGap) (last : Bool) : ∃ w', (storeVar 41 ⟨mb, 13, none⟩ (.agg #[.int .u64 fr, .int .u64 en, .slice p l c, .slice q f g, .bool last])).run Try.prog w = .ok () w' ∧ MAt w' mb { m with pg := ⟨fr, en, .slice p l c, its, .slice q f g, gs, last⟩ } ∧ Keeps (fun k => k = mb) w w' :=
 store_cells h _ (by simp [Ms.cells]) (by kernel_rfl) (by simp [Value.oneCell']) (by simp [Ms.cells, putRange])
theorem store_msg {w : World} {mb : Nat} {m : Ms} (h : MAt w mb m) (m' : Ms) (h1 : m'.cells.toArray.all (·.oneCell') = true) : ∃ w', (storeVar 43 ⟨mb, 0, none⟩ (.agg m'.cells.toArray)).run Try.prog w = .ok () w' ∧ MAt w' mb m' ∧ Keeps (fun k => k = mb) w w' :=
 store_cells h _ (by simp [Ms.cells]) (by simp only [Ms.cells, List.size_toArray]; kernel_rfl) h1 (putRange_whole (by simp [Ms.cells]))
theorem MsO.one {w : World} {B : Nat} {m : Ms} (h : MsO w B m) : m.cells.toArray.all (·.oneCell') = true := by
 obtain ⟨p1, c1, e1, _, _⟩ := (h.1.1.1.sees (fun _ => rfl) (by decide)).len
 obtain ⟨p2, c2, e2, _, _⟩ := (h.2.1.1.sees (fun _ => rfl) (by decide)).len
 obtain ⟨p3, c3, e3, _, _⟩ := (h.2.2.1.1.1.1.sees (fun _ => rfl) (by decide)).len
 obtain ⟨p4, c4, e4, _, _⟩ := (h.2.2.1.1.2.sees (fun _ => rfl) (by decide)).len
 simp [Ms.cells, e1, e2, e3, e4, Value.oneCell']

/-- what is told of bytes as a message -/
def TakM (b : List UInt8) (w : World) (e : Ending) (w' : World) : Prop :=
 ∃ (m : Ms) (z : Int), e = .returned (.tuple #[.agg m.cells.toArray, .int .i64 z]) ∧ Old w w' ∧ MsO w' w.heap.size m ∧ ((takeM b = some m.plain ∧ z = 0) ∨ (takeM b = none ∧ m = zeroMs ∧ z = 5))
end Go.Proofs.Ytiednihagnehlaa

namespace Go.Proofs.Ytiednihagnehlaa
open Go.RowKit Go.Great

attribute [-go_sem] loadVar storeVar
theorem Ms.fine.one {w : World} {m : Ms} (h : m.fine w) : m.cells.toArray.all (·.oneCell') = true := by
 obtain ⟨p1, c1, e1, _, r1⟩ := h.1.1.1.len
 obtain ⟨p2, c2, e2, _, _⟩ := h.2.1.1.len
 obtain ⟨p3, c3, e3, _, _⟩ := h.2.2.1.1.1.len
 obtain ⟨p4, c4, e4, _, _⟩ := h.2.2.1.1.2.2.len
 simp [Ms.cells, e1, e2, e3, e4, Value.oneCell']
/-- a message of either type is read at once -/
theorem load_whole {W : World} {b : Nat} {cs : Array Value} {t ty : TypeId} {fr : Nat × Nat} {d : Array Field} (h : W.heap[b]? = some (.cells cs t fr)) (hn : cs.size = 18) (hu : Try.prog.underlying ty = some (.struct d)) (hi : (Try.prog.info? ty).map (·.size) = some 18) : (loadVar ty ⟨b, 0, none⟩).run Try.prog W = .ok (.agg cs) W :=
 load_sub (o := 0) (fun j v hv => by
  have : cs[j]? = some v := by simpa using hv
  simp [World.cell?, h, this]) hu rfl (by rw [hn]; exact hi)
abbrev RAt (w : World) (mb : Nat) (m : Ms) : Prop := w.heap[mb]? = some (.cells m.cells.toArray 60 (0, 0))
theorem store_msgR {w : World} {mb : Nat} {m : Ms} (h : RAt w mb m) (m' : Ms) (h1 : m'.cells.toArray.all (·.oneCell') = true) : ∃ w', (storeVar 60 ⟨mb, 0, none⟩ (.agg m'.cells.toArray)).run Try.prog w = .ok () w' ∧ RAt w' mb m' ∧ Keeps (fun k => k = mb) w w' :=
 store_cells h _ (by simp [Ms.cells]) (by simp only [Ms.cells, List.size_toArray]; kernel_rfl) h1 (putRange_whole (by simp [Ms.cells]))

set_option maxRecDepth 100000 in
set_option maxHeartbeats 1000000 in
theorem ours_any (m : Ms) (w : World) (h : m.fine w) : Calls Try.prog 17 #[.agg m.cells.toArray] w fun e w' => e = .returned (.agg m.cells.toArray) ∧ Old w w' := by
 have hone := h.one
 obtain ⟨kind, pub, ver, there, pv, ps, ⟨n, tm, key, av, es⟩, tb, tl, tc, frm, ⟨fr, en, iv, its, gv, gs, last⟩⟩ := m
 obtain ⟨p1, c1, e1, _, r1⟩ := h.1.1.1.len
 obtain ⟨p2, c2, e2, _, _⟩ := h.2.1.1.len
 obtain ⟨p3, c3, e3, _, _⟩ := h.2.2.1.1.1.len
 obtain ⟨p4, c4, e4, _, _⟩ := h.2.2.1.1.2.2.len
 simp only at e1 e2 e3 e4
 subst e1 e2 e3 e4
 clear h r1
 obtain ⟨m, hm⟩ : ∃ m : Ms, m = ⟨kind, pub, ver, there, .slice p1 ps.length c1, ps, ⟨n, tm, key, .slice p2 es.length c2, es⟩, tb, tl, tc, frm, ⟨fr, en, .slice p3 its.length c3, its, .slice p4 gs.length c4, gs, last⟩⟩ := ⟨_, rfl⟩
 rw [← hm] at hone ⊢
 have hmc : m.cells.toArray = #[.int .i64 kind, .int .i64 pub, .int .u64 ver, .bool there, .slice p1 ps.length c1, .int .u64 n, .int .u64 tm, .string key, .slice p2 es.length c2, .int .i64 tb, .int .u64 tl, .int .u64 tc, .int .u64 frm, .int .u64 fr, .int .u64 en, .slice p3 its.length c3, .slice p4 gs.length c4, .bool last] := by rw [hm]; rfl
 obtain ⟨W0, hW0⟩ : ∃ W0, (w.alloc (.cells m.cells.toArray 60)).alloc (.cells zeroMs.cells.toArray 43) = W0 := ⟨_, rfl⟩
 have k0 : Old w W0 := by rw [← hW0]; exact ((Keeps.refl _ _).alloc _).alloc _
 obtain ⟨b0, b1⟩ := two_blocks w (.cells m.cells.toArray 60) (.cells zeroMs.cells.toArray 43)
 rw [hW0] at b0 b1
 obtain ⟨W1, hst, b2, kb⟩ := store_msg b1 m hone
 have k1 : Old w W1 := k0.then kb (fun i hi e => by omega)
 have gl := load_whole b2 (by rw [hmc]; rfl) Try.underlying43 (by kernel_rfl)
 rw [hmc] at b0 hW0 hst gl ⊢
 have g0 := blkM b0
 have l5 := load_sub (W := W0) (b := w.heap.size) (o := 5) (cs := #[.int .u64 n, .int .u64 tm, .string key, .slice p2 es.length c2]) (ty := 35) (by
  intro j v hv
  rcases j with _ | _ | _ | _ | _ | j <;> simp at hv
  all_goals (subst hv; first | exact g0.2.2.2.2.2.1 | exact g0.2.2.2.2.2.2.1 | exact g0.2.2.2.2.2.2.2.1 | exact g0.2.2.2.2.2.2.2.2.1)) Try.underlying35 rfl (by kernel_rfl)
 have l9 := load_sub (W := W0) (b := w.heap.size) (o := 9) (cs := #[.int .i64 tb, .int .u64 tl, .int .u64 tc]) (ty := 45) (by
  intro j v hv
  rcases j with _ | _ | _ | _ | _ | j <;> simp at hv
  all_goals (subst hv; first | exact g0.2.2.2.2.2.2.2.2.2.1 | exact g0.2.2.2.2.2.2.2.2.2.2.1 | exact g0.2.2.2.2.2.2.2.2.2.2.2.1)) Try.underlying45 rfl (by kernel_rfl)
 have l13 := load_sub (W := W0) (b := w.heap.size) (o := 13) (cs := #[.int .u64 fr, .int .u64 en, .slice p3 its.length c3, .slice p4 gs.length c4, .bool last]) (ty := 41) (by
  intro j v hv
  rcases j with _ | _ | _ | _ | _ | j <;> simp at hv
  all_goals (subst hv; first | exact g0.2.2.2.2.2.2.2.2.2.2.2.2.2.1 | exact g0.2.2.2.2.2.2.2.2.2.2.2.2.2.2.1 | exact g0.2.2.2.2.2.2.2.2.2.2.2.2.2.2.2.1 | exact g0.2.2.2.2.2.2.2.2.2.2.2.2.2.2.2.2.1 | exact g0.2.2.2.2.2.2.2.2.2.2.2.2.2.2.2.2.2)) Try.underlying41 rfl (by kernel_rfl)
 have q1 : ∀ a W, (loadVar 3 a).run Try.prog W = (load a).run Try.prog W := fun _ _ => by kernel_rfl
 have q2 : ∀ a W, (loadVar 28 a).run Try.prog W = (load a).run Try.prog W := fun _ _ => by kernel_rfl
 have q3 : ∀ a W, (loadVar 4 a).run Try.prog W = (load a).run Try.prog W := fun _ _ => by kernel_rfl
 have q4 : ∀ a W, (loadVar 30 a).run Try.prog W = (load a).run Try.prog W := fun _ _ => by kernel_rfl
 have K := Lib.hid (And.intro k1 gl)
 clear b0 b1 k0 k1 kb gl hm hmc b2 hone
 change (w.alloc (.cells #[.int .i64 kind, .int .i64 pub, .int .u64 ver, .bool there, .slice p1 ps.length c1, .int .u64 n, .int .u64 tm, .string key, .slice p2 es.length c2, .int .i64 tb, .int .u64 tl, .int .u64 tc, .int .u64 frm, .int .u64 fr, .int .u64 en, .slice p3 its.length c3, .slice p4 gs.length c4, .bool last] 60)).alloc (.cells #[.int .i64 0, .int .i64 0, .int .u64 0, .bool false, .slice none 0 0, .int .u64 0, .int .u64 0, .string ⟨#[]⟩, .slice none 0 0, .int .i64 0, .int .u64 0, .int .u64 0, .int .u64 0, .int .u64 0, .int .u64 0, .slice none 0 0, .slice none 0 0, .bool false] 43) = W0 at hW0
 go_enter Try.func17, Try.ntmps17
 go_wp2_with fail
 have gl := K.out.2
 exact bodyPost_ret (by simp [results, Try.results17, go_sem, gl]) rfl ⟨rfl, K.out.1⟩

end Go.Proofs.Ytiednihagnehlaa

namespace Go.Proofs.Ytiednihagnehlaa
open Go.RowKit

/-- a query that waits: its link, its message -/
structure Qy where
 link : Int
 m : Ms
def Qy.cells (x : Qy) : List Value := .int .i64 x.link :: x.m.cells
theorem Qy.len (x : Qy) : x.cells.length = 19 := rfl
abbrev SeesQ (w : World) (v : Value) (l : List Qy) : Prop := SeesR w 19 Qy.cells v l
abbrev OwnsQ (w : World) (B : Nat) (v : Value) (l : List Qy) : Prop := OwnsR w B 87 19 Qy.cells v l
/-- is it of that broker, and of a lesser life? -/
def dropQ (b : Int) (l : Nat) (x : Qy) : Bool := x.m.tb == b && decide (x.m.tl < l)
def linkQ (k : Int) (x : Qy) : Bool := x.link == k
def staleQ (b : Int) (l c : Nat) (x : Qy) : Bool := x.m.tb == b && (decide (l < x.m.tl) || (x.m.tl == l && x.m.tc == c))
abbrev QAt (w : World) (qb : Nat) (x : Qy) : Prop := w.heap[qb]? = some (.cells x.cells.toArray 87 (0, 0))
theorem qat_cells {w : World} {b : Nat} {x : Qy} {t : TypeId} (h : w.heap[b]? = some (.cells x.cells.toArray t (0, 0))) :
  w.cell? ⟨b, 0, none⟩ = some (.int .i64 x.link) ∧ w.cell? ⟨b, 10, none⟩ = some (.int .i64 x.m.tb) ∧ w.cell? ⟨b, 11, none⟩ = some (.int .u64 x.m.tl) ∧ w.cell? ⟨b, 12, none⟩ = some (.int .u64 x.m.tc) := by
 simp [World.cell?, h, Qy.cells, Ms.cells]

set_option maxRecDepth 100000 in
theorem drop1_any (x : Qy) (b : Int) (l c1 c2 : Nat) (w : World) (h1 : w.cell? ⟨c1, 0, none⟩ = some (.int .i64 b)) (h2 : w.cell? ⟨c2, 0, none⟩ = some (.int .u64 l)) :
  Calls Try.prog 43 #[.agg x.cells.toArray, .pointer (some ⟨c1, 0, none⟩), .pointer (some ⟨c2, 0, none⟩)] w fun e w' => e = .returned (.bool (dropQ b l x)) ∧ Old w w' := by
 have o : Old w (w.alloc (.cells x.cells.toArray 87)) := (Keeps.refl _ _).alloc _
 obtain ⟨g0, g1, g2, g3⟩ := qat_cells (heap_alloc_new w (.cells x.cells.toArray 87))
 have e1 := o.cell h1 (fun f => f)
 have e2 := o.cell h2 (fun f => f)
 have O := Lib.hid o
 clear o h1 h2
 unfold dropQ
 cases z : (x.m.tb == b)
 ·go_enter Try.func43, Try.ntmps43
  go_wp2_with fail
  go_ret
  exact ⟨ret_bool (by simp), O.out⟩
 ·go_enter Try.func43, Try.ntmps43
  go_wp2_with fail
  go_ret
  exact ⟨ret_bool (by simp), O.out⟩

set_option maxRecDepth 100000 in
theorem forget1_any (x : Qy) (k : Int) (c1 : Nat) (w : World) (h1 : w.cell? ⟨c1, 0, none⟩ = some (.int .i64 k)) :
  Calls Try.prog 44 #[.agg x.cells.toArray, .pointer (some ⟨c1, 0, none⟩)] w fun e w' => e = .returned (.bool (linkQ k x)) ∧ Old w w' := by
 have o : Old w (w.alloc (.cells x.cells.toArray 87)) := (Keeps.refl _ _).alloc _
 obtain ⟨g0, g1, g2, g3⟩ := qat_cells (heap_alloc_new w (.cells x.cells.toArray 87))
 have e1 := o.cell h1 (fun f => f)
 have O := Lib.hid o
 clear o h1 g1 g2 g3
 unfold linkQ
 go_enter Try.func44, Try.ntmps44
 go_wp2_with fail
 go_ret
 exact ⟨rfl, O.out⟩

theorem nat_beq (a b : Nat) : ((a : Int) == (b : Int)) = (a == b) := by rw [Bool.eq_iff_iff]; simp; omega
set_option maxRecDepth 100000 in
theorem add1_any (x : Qy) (b : Int) (l c c1 : Nat) (w : World) (h1 : w.cell? ⟨c1, 0, none⟩ = some (.int .i64 b) ∧ w.cell? ⟨c1, 1, none⟩ = some (.int .u64 l) ∧ w.cell? ⟨c1, 2, none⟩ = some (.int .u64 c)) :
  Calls Try.prog 27 #[.agg x.cells.toArray, .pointer (some ⟨c1, 0, none⟩)] w fun e w' => e = .returned (.bool (staleQ b l c x)) ∧ Old w w' := by
 have o : Old w (w.alloc (.cells x.cells.toArray 87)) := (Keeps.refl _ _).alloc _
 obtain ⟨g0, g1, g2, g3⟩ := qat_cells (heap_alloc_new w (.cells x.cells.toArray 87))
 have e1 := o.cell h1.1 (fun f => f)
 have e2 := o.cell h1.2.1 (fun f => f)
 have e3 := o.cell h1.2.2 (fun f => f)
 have et := eql_tok x.m.tb b x.m.tl l x.m.tc c
 have O := Lib.hid o
 clear o h1 g0
 unfold staleQ
 cases z : (x.m.tb == b)
 ·go_enter Try.func27, Try.ntmps27
  go_wp2_with fail
  go_ret
  exact ⟨ret_bool (by simp), O.out⟩
 ·obtain ⟨t, ht⟩ : ∃ t, decide (l < x.m.tl) = t := ⟨_, rfl⟩
  have ht' : decide ((x.m.tl : Int) > (l : Int)) = t := by rw [← ht]; simp
  cases t
  ·go_enter Try.func27, Try.ntmps27
   go_wp2_with fail
   go_ret
   exact ⟨ret_bool (by rw [ht]; simp [nat_beq]), O.out⟩
  ·go_enter Try.func27, Try.ntmps27
   go_wp2_with fail
   go_ret
   exact ⟨ret_bool (by rw [ht]; simp), O.out⟩

/-- the place of the first of which something is so -/
def ixQ (pr : Qy → Bool) (l : List Qy) : Int := if l.any pr then ((l.findIdx pr : Nat) : Int) else -1
theorem findIdx_of {pr : Qy → Bool} {l : List Qy} {k : Nat} {x : Qy} (hx : l[k]? = some x) (h1 : pr x = true) (h0 : (l.take k).any pr = false) : l.any pr = true ∧ l.findIdx pr = k := by
 obtain ⟨hk, rfl⟩ := List.getElem?_eq_some_iff.1 hx
 refine ⟨List.any_eq_true.2 ⟨_, List.getElem_mem hk, h1⟩, ?_⟩
 rw [List.findIdx_eq hk]
 refine ⟨h1, fun j hj => ?_⟩
 rw [List.any_eq_false] at h0
 have := h0 l[j] (List.mem_take_iff_getElem.2 ⟨j, by omega, rfl⟩)
 simpa using this
theorem any_take_succ {α : Type} {f : α → Bool} {l : List α} {k : Nat} {x : α} (hx : l[k]? = some x) : (l.take (k + 1)).any f = ((l.take k).any f || f x) := by
 rw [List.take_add_one, hx]
 simp
theorem load_q {w : World} {b o : Nat} {x : Qy} (h : ∀ i u, x.cells[i]? = some u → w.cell? ⟨b, o + i, none⟩ = some u) : (loadVar 87 ⟨b, o, none⟩).run Try.prog w = .ok (.agg x.cells.toArray) w :=
 load_sub (cs := x.cells.toArray) (fun j v hv => h j v (by simpa using hv)) Try.underlying87 rfl (by kernel_rfl)

attribute [-go_sem] loadVar
set_option maxRecDepth 100000 in
theorem index_q (g : FuncId) (cap : Array Value) (pr : Qy → Bool) (v : Value) (l : List Qy) (w : World) (h : SeesQ w v l)
  (hent : ∀ (args : Array Value) (w : World), (callFunc g args).run Try.prog w = .ok (.enter g args) w)
  (hc : ∀ x ∈ l, ∀ W, Old w W → Calls Try.prog g (#[.agg x.cells.toArray] ++ cap) W fun e W' => e = .returned (.bool (pr x)) ∧ Old W W') :
  Calls Try.prog 48 #[v, .func (.func g) #[] cap] w fun e w' => e = .returned (.int .i64 (ixQ pr l)) ∧ Old w w' := by
 by_cases hl : 0 < l.length
 ·obtain ⟨b, o, c, rfl, h1, h2, hcell⟩ := h.at hl
  have hm : l.length ≤ 9223372036854775807 := by unfold maxLen at h2; omega
  have HC := Lib.hid hcell
  have HK := Lib.hid hc
  have HE := Lib.hid hent
  clear h1 h2 h hcell hl hc hent
  go_enter Try.func48, Try.ntmps48
  go_wp2_with fail
  go_loopw [8] (fun v8 wr => ∃ k : Nat, k ≤ l.length ∧ v8 = .int .i64 k ∧ (l.take k).any pr = false ∧ Old w wr) (fun v8 _ => l.length - (intOf v8).toNat)
  case atStart => exact ⟨0, by omega, rfl, by simp, Keeps.refl _ _⟩
  case round =>
   obtain ⟨k, hk, rfl, hr, hkw⟩ := hrel
   have HR := Lib.hid hr
   clear hr
   by_cases hlt : k < l.length
   ·have hx : l[k]? = some l[k] := List.getElem?_eq_getElem hlt
    generalize l[k] = x at hx
    have lq := load_q (w := wr) (b := b) (o := o + k * 19) (x := x) (fun i u hu => hkw.cell (HC.out k x hx i u hu) (fun f => f))
    have N := HK.out x (List.mem_of_getElem? hx) wr hkw
    have he := HE.out (#[.agg x.cells.toArray] ++ cap)
    have HX := Lib.hid (And.intro hx hkw)
    clear hx hkw
    cases hg : pr x
    ·rw [hg] at N
     have HN := Lib.hid N
     have HG := Lib.hid hg
     clear N hg
     go_wp2_with fail
     refine HN.out.mono ?_
     rintro e w1 ⟨rfl, hk1⟩
     have K1 := Lib.hid (HX.out.2.trans hk1)
     clear hk1
     go_wp2_with fail
     go_roundw
     case rel => exact ⟨k + 1, by omega, by go_num, by rw [any_take_succ HX.out.1, HR.out, HG.out]; rfl, K1.out⟩
     case measure => simp [intOf]; omega
    ·rw [hg] at N
     have HN := Lib.hid N
     have HG := Lib.hid hg
     clear N hg
     go_wp2_with fail
     refine HN.out.mono ?_
     rintro e w1 ⟨rfl, hk1⟩
     have K1 := Lib.hid (HX.out.2.trans hk1)
     clear hk1
     go_wp2_with fail
     go_ret
     refine ⟨?_, K1.out⟩
     have := findIdx_of HX.out.1 HG.out HR.out
     unfold ixQ
     rw [if_pos this.1, this.2]
     rfl
   ·have K1 := Lib.hid hkw
    clear hkw
    go_wp2_with fail
    go_ret
    refine ⟨?_, K1.out⟩
    have := HR.out
    rw [List.take_of_length_le (by omega)] at this
    unfold ixQ
    rw [this]
    rfl
 ·obtain ⟨rfl, p, c, rfl⟩ := h.at0 (by omega)
  clear h hl hc hent
  go_enter Try.func48, Try.ntmps48
  go_wp2_with fail
  go_loopw [8] (fun v8 wr => v8 = .int .i64 0 ∧ Old w wr) (fun _ _ => 0)
  case atStart => exact ⟨rfl, Keeps.refl _ _⟩
  case round =>
   obtain ⟨rfl, hkw⟩ := hrel
   have K1 := Lib.hid hkw
   clear hkw
   go_wp2_with fail
   go_ret
   exact ⟨rfl, K1.out⟩
theorem contains_q (g : FuncId) (cap : Array Value) (pr : Qy → Bool) (v : Value) (l : List Qy) (w : World) (h : SeesQ w v l)
  (hent : ∀ (args : Array Value) (w : World), (callFunc g args).run Try.prog w = .ok (.enter g args) w)
  (hc : ∀ x ∈ l, ∀ W, Old w W → Calls Try.prog g (#[.agg x.cells.toArray] ++ cap) W fun e W' => e = .returned (.bool (pr x)) ∧ Old W W') :
  Calls Try.prog 29 #[v, .func (.func g) #[] cap] w fun e w' => e = .returned (.bool (l.any pr)) ∧ Old w w' := by
 obtain ⟨p, c, rfl, h1, h2⟩ := h.len
 have C := Lib.hid (index_q g cap pr _ l w h hent hc)
 have HI : decide (ixQ pr l ≥ 0) = l.any pr := by
  unfold ixQ
  cases l.any pr
  ·rfl
  ·simp
 obtain ⟨z, hz⟩ : ∃ z, ixQ pr l = z := ⟨_, rfl⟩
 rw [hz] at C HI
 have HJ := Lib.hid HI
 clear h h1 h2 hc HI hent hz
 go_enter Try.func29, Try.ntmps29
 go_wp2_with fail
 refine C.out.mono ?_
 rintro e w' ⟨rfl, hk⟩
 have K := Lib.hid hk
 clear hk
 go_wp2_with fail
 go_ret
 exact ⟨ret_bool HJ.out, K.out⟩
end Go.Proofs.Ytiednihagnehlaa
