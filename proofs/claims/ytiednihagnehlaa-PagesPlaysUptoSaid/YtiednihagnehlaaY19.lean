/- DERIVED. Chapter 21: a message out of bytes (plain); a message's own parts; stores into a message. · DERIVED. Chapter 21: msg.Take. · DERIVED. Chapter 21: msg.Same. -/
import Derived.Test.YtiednihagnehlaaY18
import Derived.Test.YtiednihagnehlaaY13
import Derived.Deep.MidRow
namespace Go.Proofs.Ytiednihagnehlaa
open Go.RowKit

/-- one part is read -/
def stepM (p : Int) (m : PMs) (l : List UInt8) : Option (PMs × List UInt8) :=
 if p = 0 then (pNum mMost l).map fun x => ({ m with pub := (x.1 : Int) }, x.2)
 else if p = 1 then (pNum mMost l).map fun x => ({ m with ver := x.1 }, x.2)
 else if p = 2 then (pNum mMost l).map fun x => ({ m with there := x.1 == 1 }, x.2)
 else if p = 3 then (if m.kind = 1 ∧ m.there = false then some (m, l) else (pPart takeP l).map fun x => ({ m with ps := x.1 }, x.2))
 else if p = 4 then (pPart takeI l).map fun x => ({ m with it := x.1 }, x.2)
 else if p = 5 then (pNum mMost l).bind fun x => (pNum mMost x.2).bind fun y => (pNum mMost y.2).map fun z => ({ m with tb := (x.1 : Int), tl := y.1, tc := z.1 }, z.2)
 else if p = 6 then (pNum mMost l).map fun x => ({ m with frm := x.1 }, x.2)
 else (pPart takeG l).map fun x => ({ m with pg := x.1 }, x.2)
/-- the parts are read in order -/
def partsM : List Int → PMs → List UInt8 → Option (PMs × List UInt8)
 | [], m, l => some (m, l)
 | p :: r, m, l => (stepM p m l).bind fun x => partsM r x.1 x.2
def parseM (l : List UInt8) : Option (PMs × List UInt8) := (pNum mMost l).bind fun x => partsM (partsL (x.1 : Int)) { noMs with kind := (x.1 : Int) } x.2
/-- bytes as a message -/
def takeM (b : List UInt8) : Option PMs := (parseM b).bind fun x => if mayM x.1 && decide (mForm x.1 = b) then some x.1 else none

/-- a number that is read; 0 if none -/
abbrev numV (st : Option (List UInt8)) : Nat := (st.bind (pNum mMost)).elim 0 (·.1)
abbrev numR (st : Option (List UInt8)) : Option (List UInt8) := (st.bind (pNum mMost)).map (·.2)
theorem numV_le (st : Option (List UInt8)) : numV st ≤ mMost := by
 unfold numV
 cases st with
 | none => exact Nat.zero_le _
 | some l =>
  simp only [Option.bind_some]
  cases h : pNum mMost l with
  | none => exact Nat.zero_le _
  | some x => exact (pNum_inv (n := x.1) (r := x.2) h).2.1
theorem step0 (st : Option (List UInt8)) (m : PMs) (r : List Int) : (st.bind fun l => partsM (0 :: r) m l) = (numR st).bind fun l => partsM r { m with pub := (numV st : Int) } l := by
 cases st with
 | none => rfl
 | some l => simp only [Option.bind_some, partsM, stepM, if_true, numR, numV]; cases pNum mMost l <;> rfl
theorem step1 (st : Option (List UInt8)) (m : PMs) (r : List Int) : (st.bind fun l => partsM (1 :: r) m l) = (numR st).bind fun l => partsM r { m with ver := numV st } l := by
 cases st with
 | none => rfl
 | some l => simp only [Option.bind_some, partsM, stepM, show ¬ ((1 : Int) = 0) by decide, if_false, if_true, numR, numV]; cases pNum mMost l <;> rfl
theorem step2 (st : Option (List UInt8)) (m : PMs) (r : List Int) : (st.bind fun l => partsM (2 :: r) m l) = (numR st).bind fun l => partsM r { m with there := numV st == 1 } l := by
 cases st with
 | none => rfl
 | some l => simp only [Option.bind_some, partsM, stepM, show ¬ ((2 : Int) = 0) by decide, show ¬ ((2 : Int) = 1) by decide, if_false, if_true, numR, numV]; cases pNum mMost l <;> rfl
theorem step3n (st : Option (List UInt8)) (m : PMs) (r : List Int) (h : m.kind = 1 ∧ m.there = false) : (st.bind fun l => partsM (3 :: r) m l) = st.bind fun l => partsM r m l := by
 cases st with
 | none => rfl
 | some l => simp only [Option.bind_some, partsM, stepM, show ¬ ((3 : Int) = 0) by decide, show ¬ ((3 : Int) = 1) by decide, show ¬ ((3 : Int) = 2) by decide, if_false, if_true]; rw [if_pos h]; rfl
theorem step3 (st : Option (List UInt8)) (m : PMs) (r : List Int) (cs : List PCon) (h : ¬ (m.kind = 1 ∧ m.there = false)) (hx : ∀ x, st.bind (pPart takeP) = some x → cs = x.1) : (st.bind fun l => partsM (3 :: r) m l) = ((st.bind (pPart takeP)).map (·.2)).bind fun l => partsM r { m with ps := cs } l := by
 cases st with
 | none => rfl
 | some l =>
  simp only [Option.bind_some, partsM, stepM, show ¬ ((3 : Int) = 0) by decide, show ¬ ((3 : Int) = 1) by decide, show ¬ ((3 : Int) = 2) by decide, if_false, if_true] at hx ⊢
  rw [if_neg h]
  cases hp : pPart takeP l with
  | none => rfl
  | some x => rw [hx x hp]; rfl
theorem step4 (st : Option (List UInt8)) (m : PMs) (r : List Int) (it : PIt) (hx : ∀ x, st.bind (pPart takeI) = some x → it = x.1) : (st.bind fun l => partsM (4 :: r) m l) = ((st.bind (pPart takeI)).map (·.2)).bind fun l => partsM r { m with it := it } l := by
 cases st with
 | none => rfl
 | some l =>
  simp only [Option.bind_some, partsM, stepM, show ¬ ((4 : Int) = 0) by decide, show ¬ ((4 : Int) = 1) by decide, show ¬ ((4 : Int) = 2) by decide, show ¬ ((4 : Int) = 3) by decide, if_false, if_true] at hx ⊢
  cases hp : pPart takeI l with
  | none => rfl
  | some x => rw [hx x hp]; rfl
theorem step5 (st : Option (List UInt8)) (m : PMs) (r : List Int) : (st.bind fun l => partsM (5 :: r) m l) = (numR (numR (numR st))).bind fun l => partsM r { m with tb := (numV st : Int), tl := numV (numR st), tc := numV (numR (numR st)) } l := by
 cases st with
 | none => rfl
 | some l =>
  simp only [Option.bind_some, partsM, stepM, show ¬ ((5 : Int) = 0) by decide, show ¬ ((5 : Int) = 1) by decide, show ¬ ((5 : Int) = 2) by decide, show ¬ ((5 : Int) = 3) by decide, show ¬ ((5 : Int) = 4) by decide, if_false, if_true, numR, numV]
  cases pNum mMost l with
  | none => rfl
  | some x =>
   simp only [Option.bind_some, Option.map_some, Option.elim_some]
   cases pNum mMost x.2 with
   | none => rfl
   | some y =>
    simp only [Option.bind_some, Option.map_some, Option.elim_some]
    cases pNum mMost y.2 <;> rfl
theorem step6 (st : Option (List UInt8)) (m : PMs) (r : List Int) : (st.bind fun l => partsM (6 :: r) m l) = (numR st).bind fun l => partsM r { m with frm := numV st } l := by
 cases st with
 | none => rfl
 | some l => simp only [Option.bind_some, partsM, stepM, show ¬ ((6 : Int) = 0) by decide, show ¬ ((6 : Int) = 1) by decide, show ¬ ((6 : Int) = 2) by decide, show ¬ ((6 : Int) = 3) by decide, show ¬ ((6 : Int) = 4) by decide, show ¬ ((6 : Int) = 5) by decide, if_false, if_true, numR, numV]; cases pNum mMost l <;> rfl
theorem step7 (st : Option (List UInt8)) (m : PMs) (r : List Int) (pg : PPg) (hx : ∀ x, st.bind (pPart takeG) = some x → pg = x.1) : (st.bind fun l => partsM (7 :: r) m l) = ((st.bind (pPart takeG)).map (·.2)).bind fun l => partsM r { m with pg := pg } l := by
 cases st with
 | none => rfl
 | some l =>
  simp only [Option.bind_some, partsM, stepM, show ¬ ((7 : Int) = 0) by decide, show ¬ ((7 : Int) = 1) by decide, show ¬ ((7 : Int) = 2) by decide, show ¬ ((7 : Int) = 3) by decide, show ¬ ((7 : Int) = 4) by decide, show ¬ ((7 : Int) = 5) by decide, show ¬ ((7 : Int) = 6) by decide, if_false] at hx ⊢
  cases hp : pPart takeG l with
  | none => rfl
  | some x => rw [hx x hp]; rfl

/-- a message whose parts lie in blocks of its own, from block B on -/
def MsO (w : World) (B : Nat) (m : Ms) : Prop :=
 (OwnN w B 69 7 Con.cells Con.sv ConF m.pv m.ps ∧ ∀ c ∈ m.ps.map Con.plain, ConG c) ∧
 (OwnsA w B m.it.av m.it.es ∧ (m.it.n < 18446744073709551616 ∧ m.it.time < 18446744073709551616) ∧ Fits m.it.es) ∧
 ((OwnN w B 35 4 It.cells It.av ItF m.pg.iv m.pg.its ∧ OwnsR w B 116 2 gapL m.pg.gv m.pg.gs) ∧ ((m.pg.fr < 18446744073709551616 ∧ m.pg.en < 18446744073709551616) ∧ (∀ y ∈ m.pg.its, Fits y.es ∧ y.n < 18446744073709551616 ∧ y.time < 18446744073709551616) ∧ ∀ g ∈ m.pg.gs, g.1 < 18446744073709551616 ∧ g.2 < 18446744073709551616)) ∧
 (I64 m.kind ∧ I64 m.pub ∧ I64 m.tb) ∧ (U64 m.ver ∧ U64 m.tl ∧ U64 m.tc ∧ U64 m.frm)
theorem MsO.keeps {S : Nat → Prop} {w w' : World} {B : Nat} {m : Ms} (h : MsO w B m) (hk : Keeps S w w') (hS : ∀ b, B ≤ b → b < w.heap.size → ¬ S b) : MsO w' B m :=
 ⟨⟨h.1.1.keeps conF_k hk hS, h.1.2⟩, ⟨h.2.1.1.keeps hk (fun b hb => hS b (h.2.1.1.block b hb).1 (h.2.1.1.block b hb).2), h.2.1.2⟩,
  ⟨⟨h.2.2.1.1.1.keeps itF_k hk hS, h.2.2.1.1.2.keeps hk (fun b hb => hS b (h.2.2.1.1.2.block b hb).1 (h.2.2.1.1.2.block b hb).2)⟩, h.2.2.1.2⟩, h.2.2.2⟩
theorem MsO.old {w w' : World} {B : Nat} {m : Ms} (h : MsO w B m) (hk : Old w w') : MsO w' B m := h.keeps hk (fun _ _ _ f => f)
theorem MsO.mono {w : World} {B B' : Nat} {m : Ms} (h : MsO w B m) (hb : B' ≤ B) : MsO w B' m :=
 ⟨⟨h.1.1.mono' hb, h.1.2⟩, ⟨h.2.1.1.mono hb, h.2.1.2⟩, ⟨⟨h.2.2.1.1.1.mono' hb, h.2.2.1.1.2.mono hb⟩, h.2.2.1.2⟩, h.2.2.2⟩
theorem MsO.fine {w : World} {B : Nat} {m : Ms} (h : MsO w B m) : m.fine w := by
 obtain ⟨⟨h1, h1'⟩, ⟨h2, h2', h2''⟩, ⟨⟨h3, h4⟩, ⟨h5, h6⟩, h7, h8⟩, h9⟩ := h
 refine ⟨⟨⟨h1.1.sees (fun _ => rfl) (by decide), fun y hy => ?_⟩, fun _ b hb => (h1.1.block b hb).2⟩, ⟨h2.sees (fun _ => rfl) (by decide), fun _ b hb => (h2.block b hb).2, h2'', h2'.1, h2'.2⟩,
  ⟨⟨h3.1.sees (fun _ => rfl) (by decide), fun y hy => ?_, h4.sees (fun _ => rfl) (by decide)⟩, h8, ⟨h5, h6⟩, fun _ b hb => (h3.1.block b hb).2, fun _ b hb => (h4.block b hb).2⟩, h9⟩
 ·have hg := h1' y.plain (List.mem_map_of_mem hy)
  have hb : y.name.size ≤ 16 := hg.1
  exact ⟨(h1.2 y hy).1, ⟨by omega, hg.2.1⟩, hg.2.2, fun _ b hb' => ((h1.2 y hy).2 b hb').2.1⟩
 ·exact ⟨(h3.2 y hy).1, fun _ k hk => ((h3.2 y hy).2 k hk).2.1, (h7 y hy).1, (h7 y hy).2.1, (h7 y hy).2.2⟩
/-- the message of which nothing is set -/
def zeroMs : Ms := ⟨0, 0, 0, false, .slice none 0 0, [], ⟨0, 0, ⟨#[]⟩, .slice none 0 0, []⟩, 0, 0, 0, 0, ⟨0, 0, .slice none 0 0, [], .slice none 0 0, [], false⟩⟩
theorem MsO.zero (w : World) (B : Nat) : MsO w B zeroMs :=
 ⟨⟨OwnN.nil _ _, fun c hc => by cases hc⟩, ⟨OwnsR.nil _ _, ⟨by decide, by decide⟩, fun _ h => (by cases h)⟩, ⟨⟨OwnN.nil _ _, OwnsR.nil _ _⟩, ⟨by decide, by decide⟩, fun _ h => (by cases h), fun _ h => (by cases h)⟩, ⟨⟨by decide, by decide⟩, ⟨by decide, by decide⟩, ⟨by decide, by decide⟩⟩, by unfold U64; decide, by unfold U64; decide, by unfold U64; decide, by unfold U64; decide⟩

/-- cells from o on are replaced -/
def putRange (cs : Array Value) (o : Nat) : List Value → Array Value
 | [] => cs
 | v :: r => putRange (cs.setIfInBounds o v) (o + 1) r
theorem setCells_heap {b : Nat} {t : TypeId} : ∀ (vs : List Value) (o : Nat) (w : World) (cs : Array Value), w.heap[b]? = some (.cells cs t (0, 0)) → (w.setCells b o vs).heap[b]? = some (.cells (putRange cs o vs) t (0, 0))
 | [], _, _, _, h => h
 | v :: r, o, w, _cs, h => setCells_heap r (o + 1) _ _ (heap_setCell_same w b o _ _ v h)
theorem setCells_keeps {b : Nat} : ∀ (vs : List Value) (o : Nat) (w a : World), Keeps (fun k => k = b) a w → Keeps (fun k => k = b) a (w.setCells b o vs)
 | [], _, _, _, h => h
 | v :: r, o, _w, _a, h => setCells_keeps r (o + 1) _ _ (keepS v h)
theorem there_of {w : World} {b : Nat} {cs : Array Value} {t : TypeId} (h : w.heap[b]? = some (.cells cs t (0, 0))) (o n : Nat) (hn : o + n ≤ cs.size) : w.there b o n := by
 intro j hj
 have : o + j < cs.size := by omega
 constructor
 ·simp [World.cell?, h, this]
 ·simp [World.frozen?, h]
/-- several cells are stored into a block -/
theorem store_cells {w : World} {b o : Nat} {cs : Array Value} {t ty : TypeId} (h : w.heap[b]? = some (.cells cs t (0, 0))) (vs : Array Value) (hn : o + vs.size ≤ cs.size) (hi : (Try.prog.info? ty).map (·.size) = some vs.size) (h1 : vs.all (·.oneCell') = true) {cs' : Array Value} (hc : putRange cs o vs.toList = cs') :
  ∃ w', (storeVar ty ⟨b, o, none⟩ (.agg vs)).run Try.prog w = .ok () w' ∧ w'.heap[b]? = some (.cells cs' t (0, 0)) ∧ Keeps (fun k => k = b) w w' :=
 ⟨_, run_storeVar_mid w b o ty vs (there_of h o _ hn) hi h1, hc ▸ setCells_heap vs.toList o w cs h, setCells_keeps vs.toList o w w (Keeps.refl _ _)⟩
/-- one cell is stored into a block -/
theorem store_cell {w : World} {b o : Nat} {cs : Array Value} {t ty : TypeId} (h : w.heap[b]? = some (.cells cs t (0, 0))) (v : Value) (hv : v.cells = #[v]) (hn : o < cs.size) (hi : (Try.prog.info? ty).map (·.size) = some 1) (h1 : v.oneCell' = true) {cs' : Array Value} (hc : cs.setIfInBounds o v = cs') :
  ∃ w', (storeVar ty ⟨b, o, none⟩ v).run Try.prog w = .ok () w' ∧ w'.heap[b]? = some (.cells cs' t (0, 0)) ∧ Keeps (fun k => k = b) w w' := by
 refine ⟨w.setCell ⟨b, o, none⟩ v, ?_, hc ▸ heap_setCell_same w b o _ _ v h, keepS _ (Keeps.refl _ _)⟩
 have := run_storeCells_cells (P := Try.prog) b o [v] 0 w (fun j hj => by have := (there_of h o 1 (by omega) j (by simpa using hj)).1; simpa using this) (fun j hj => by have := (there_of h o 1 (by omega) j (by simpa using hj)).2; simpa using this) (fun x hx => by simp at hx; subst hx; exact h1)
 cases hq : Try.prog.info? ty with
 | none => simp [hq] at hi
 | some i =>
  have hs : i.size = 1 := by simpa [hq] using hi
  simp only [Nat.add_zero] at this
  simp [storeVar, sizeOf, typeInfo, hq, hv, hs, this, World.setCells]

theorem putRange_whole {cs vs : Array Value} (h : cs.size = vs.size) : putRange cs 0 vs.toList = vs := by
 have key : ∀ (l pre : List Value) (rest : List Value), rest.length = l.length → putRange (pre ++ rest).toArray pre.length l = (pre ++ l).toArray := by
  intro l
  induction l with
  | nil => intro pre rest hr; have : rest = [] := List.eq_nil_of_length_eq_zero hr; subst this; rfl
  | cons v r ih =>
   intro pre rest hr
   cases rest with
   | nil => simp at hr
   | cons a t =>
    unfold putRange
    have e : (pre ++ a :: t).toArray.setIfInBounds pre.length v = ((pre ++ [v]) ++ t).toArray := by
     simp
    rw [e]
    have := ih (pre ++ [v]) t (by simpa using hr)
    simpa using this
 have := key vs.toList [] cs.toList (by simpa using h)
 simpa using this
abbrev MAt (w : World) (mb : Nat) (m : Ms) : Prop := w.heap[mb]? = some (.cells m.cells.toArray 43 (0, 0))
theorem store_pub {w : World} {mb : Nat} {m : Ms} (h : MAt w mb m) (n : Int) : ∃ w', (storeVar 3 ⟨mb, 1, none⟩ (.int .i64 n)).run Try.prog w = .ok () w' ∧ MAt w' mb { m with pub := n } ∧ Keeps (fun k => k = mb) w w' :=
 store_cell h _ rfl (by simp [Ms.cells]) (by kernel_rfl) (by simp [Value.oneCell']) (by simp [Ms.cells])
theorem store_ver {w : World} {mb : Nat} {m : Ms} (h : MAt w mb m) (n : Nat) : ∃ w', (storeVar 28 ⟨mb, 2, none⟩ (.int .u64 n)).run Try.prog w = .ok () w' ∧ MAt w' mb { m with ver := n } ∧ Keeps (fun k => k = mb) w w' :=
 store_cell h _ rfl (by simp [Ms.cells]) (by kernel_rfl) (by simp [Value.oneCell']) (by simp [Ms.cells])
theorem store_there {w : World} {mb : Nat} {m : Ms} (h : MAt w mb m) (n : Bool) : ∃ w', (storeVar 4 ⟨mb, 3, none⟩ (.bool n)).run Try.prog w = .ok () w' ∧ MAt w' mb { m with there := n } ∧ Keeps (fun k => k = mb) w w' :=
 store_cell h _ rfl (by simp [Ms.cells]) (by kernel_rfl) (by simp [Value.oneCell']) (by simp [Ms.cells])
theorem store_pred {w : World} {mb : Nat} {m : Ms} (h : MAt w mb m) (p : Option Addr) (n c : Nat) (cs : List Con) : ∃ w', (storeVar 30 ⟨mb, 4, none⟩ (.slice p n c)).run Try.prog w = .ok () w' ∧ MAt w' mb { m with pv := .slice p n c, ps := cs } ∧ Keeps (fun k => k = mb) w w' :=
 store_cell h _ rfl (by simp [Ms.cells]) (by kernel_rfl) (by simp [Value.oneCell']) (by simp [Ms.cells])
theorem store_life {w : World} {mb : Nat} {m : Ms} (h : MAt w mb m) (n : Nat) : ∃ w', (storeVar 28 ⟨mb, 10, none⟩ (.int .u64 n)).run Try.prog w = .ok () w' ∧ MAt w' mb { m with tl := n } ∧ Keeps (fun k => k = mb) w w' :=
 store_cell h _ rfl (by simp [Ms.cells]) (by kernel_rfl) (by simp [Value.oneCell']) (by simp [Ms.cells])
theorem store_count {w : World} {mb : Nat} {m : Ms} (h : MAt w mb m) (n : Nat) : ∃ w', (storeVar 28 ⟨mb, 11, none⟩ (.int .u64 n)).run Try.prog w = .ok () w' ∧ MAt w' mb { m with tc := n } ∧ Keeps (fun k => k = mb) w w' :=
 store_cell h _ rfl (by simp [Ms.cells]) (by kernel_rfl) (by simp [Value.oneCell']) (by simp [Ms.cells])
theorem store_from {w : World} {mb : Nat} {m : Ms} (h : MAt w mb m) (n : Nat) : ∃ w', (storeVar 28 ⟨mb, 12, none⟩ (.int .u64 n)).run Try.prog w = .ok () w' ∧ MAt w' mb { m with frm := n } ∧ Keeps (fun k => k = mb) w w' :=
 store_cell h _ rfl (by simp [Ms.cells]) (by kernel_rfl) (by simp [Value.oneCell']) (by simp [Ms.cells])
theorem store_tok {w : World} {mb : Nat} {m : Ms} (h : MAt w mb m) (a : Int) (b c : Nat) : ∃ w', (storeVar 37 ⟨mb, 9, none⟩ (.agg #[.int .i64 a, .int .u64 b, .int .u64 c])).run Try.prog w = .ok () w' ∧ MAt w' mb { m with tb := a, tl := b, tc := c } ∧ Keeps (fun k => k = mb) w w' :=
 store_cells h _ (by simp [Ms.cells]) (by kernel_rfl) (by simp [Value.oneCell']) (by simp [Ms.cells, putRange])
theorem store_item {w : World} {mb : Nat} {m : Ms} (h : MAt w mb m) (n tm : Nat) (key : ByteArray) (p : Option Addr) (l c : Nat) (es : List At) : ∃ w', (storeVar 35 ⟨mb, 5, none⟩ (.agg #[.int .u64 n, .int .u64 tm, .string key, .slice p l c])).run Try.prog w = .ok () w' ∧ MAt w' mb { m with it := ⟨n, tm, key, .slice p l c, es⟩ } ∧ Keeps (fun k => k = mb) w w' :=
 store_cells h _ (by simp [Ms.cells]) (by kernel_rfl) (by simp [Value.oneCell']) (by simp [Ms.cells, putRange])
theorem store_page {w : World} {mb : Nat} {m : Ms} (h : MAt w mb m) (fr en : Nat) (p : Option Addr) (l c : Nat) (its : List It) (q : Option Addr) (f g : Nat) (gs : List PGap) (last : Bool) : ∃ w', (storeVar 41 ⟨mb, 13, none⟩ (.agg #[.int .u64 fr, .int .u64 en, .slice p l c, .slice q f g, .bool last])).run Try.prog w = .ok () w' ∧ MAt w' mb { m with pg := ⟨fr, en, .slice p l c, its, .slice q f g, gs, last⟩ } ∧ Keeps (fun k => k = mb) w w' :=
 store_cells h _ (by simp [Ms.cells]) (by kernel_rfl) (by simp [Value.oneCell']) (by simp [Ms.cells, putRange])
theorem store_msg {w : World} {mb : Nat} {m : Ms} (h : MAt w mb m) (m' : Ms) (h1 : m'.cells.toArray.all (·.oneCell') = true) : ∃ w', (storeVar 43 ⟨mb, 0, none⟩ (.agg m'.cells.toArray)).run Try.prog w = .ok () w' ∧ MAt w' mb m' ∧ Keeps (fun k => k = mb) w w' :=
 store_cells h _ (by simp [Ms.cells]) (by simp only [Ms.cells, List.size_toArray]; kernel_rfl) h1 (putRange_whole (by simp [Ms.cells]))
theorem MsO.one {w : World} {B : Nat} {m : Ms} (h : MsO w B m) : m.cells.toArray.all (·.oneCell') = true := by
 obtain ⟨p1, c1, e1, _, _⟩ := (h.1.1.1.sees (fun _ => rfl) (by decide)).len
 obtain ⟨p2, c2, e2, _, _⟩ := (h.2.1.1.sees (fun _ => rfl) (by decide)).len
 obtain ⟨p3, c3, e3, _, _⟩ := (h.2.2.1.1.1.1.sees (fun _ => rfl) (by decide)).len
 obtain ⟨p4, c4, e4, _, _⟩ := (h.2.2.1.1.2.sees (fun _ => rfl) (by decide)).len
 simp [Ms.cells, e1, e2, e3, e4, Value.oneCell']

/-- what is told of bytes as a message -/
def TakM (b : List UInt8) (w : World) (e : Ending) (w' : World) : Prop :=
 ∃ (m : Ms) (z : Int), e = .returned (.tuple #[.agg m.cells.toArray, .int .i64 z]) ∧ Old w w' ∧ MsO w' w.heap.size m ∧ ((takeM b = some m.plain ∧ z = 0) ∨ (takeM b = none ∧ m = zeroMs ∧ z = 5))
end Go.Proofs.Ytiednihagnehlaa

namespace Go.Proofs.Ytiednihagnehlaa
open Go.RowKit Go.Great

attribute [-go_sem] loadVar storeVar

end Go.Proofs.Ytiednihagnehlaa

namespace Go.Proofs.Ytiednihagnehlaa
open Go.RowKit

def sameM (m n : PMs) : Bool := (m.kind == n.kind) && ((m.pub == n.pub) && ((m.ver == n.ver) && ((m.there == n.there) && (sameP m.ps n.ps && (sameI m.it n.it && ((m.tb == n.tb && (m.tl == n.tl && m.tc == n.tc)) && ((m.frm == n.frm) && sameG m.pg n.pg)))))))
theorem sameM_iff (m n : PMs) : sameM m n = true ↔ m = n := by
 obtain ⟨a1, a2, a3, a4, a5, a6, a7, a8, a9, a10, a11⟩ := m
 obtain ⟨b1, b2, b3, b4, b5, b6, b7, b8, b9, b10, b11⟩ := n
 unfold sameM
 simp only [Bool.and_eq_true, beq_iff_eq, sameP_iff, sameI_iff, sameG_iff, PMs.mk.injEq]
 constructor
 ·rintro ⟨h1, h2, h3, h4, h5, h6, ⟨h7, h8, h9⟩, h10, h11⟩
  exact ⟨h1, h2, h3, h4, h5, h6, h7, h8, h9, h10, h11⟩
 ·rintro ⟨h1, h2, h3, h4, h5, h6, h7, h8, h9, h10, h11⟩
  exact ⟨h1, h2, h3, h4, h5, h6, ⟨h7, h8, h9⟩, h10, h11⟩

attribute [-go_sem] loadVar
set_option maxRecDepth 100000 in
set_option maxHeartbeats 8000000 in
theorem msg_same_any (m m' : Ms) (w : World) (h : m.fine w) (h' : m'.fine w) : Calls Try.prog 26 #[.agg m.cells.toArray, .agg m'.cells.toArray] w fun e w' => e = .returned (.bool (sameM m.plain m'.plain)) ∧ Old w w' := by
 have CP := fun W (k : Old w W) => pred_same_any m.pv m'.pv m.ps m'.ps W ((h.1.1.old k).1) ((h'.1.1.old k).1) (fun x hx => ((h.1.1.old k).2 x hx).1) (fun x hx => ((h'.1.1.old k).2 x hx).1)
 have CI := fun W (k : Old w W) => msg_same_item_any m.it m'.it W (h.2.1.1.old k) (h'.2.1.1.old k)
 have CG := fun W (k : Old w W) => msg_same_page_any m.pg m'.pg W (Pg.fine.old h.2.2.1 k) (Pg.fine.old h'.2.2.1 k)
 unfold sameM Ms.plain
 simp only
 generalize sameP (m.ps.map Con.plain) (m'.ps.map Con.plain) = z5 at CP ⊢
 generalize sameI m.it.plain m'.it.plain = z6 at CI ⊢
 generalize sameG m.pg.plain m'.pg.plain = z9 at CG ⊢
 obtain ⟨kind, pub, ver, there, pv, ps, ⟨n, tm, key, av, es⟩, tb, tl, tc, frm, ⟨fr, en, iv, its, gv, gs, last⟩⟩ := m
 obtain ⟨p1, c1, e1, _, _⟩ := h.1.1.1.len
 obtain ⟨p2, c2, e2, _, _⟩ := h.2.1.1.len
 obtain ⟨p3, c3, e3, _, _⟩ := h.2.2.1.1.1.len
 obtain ⟨p4, c4, e4, _, _⟩ := h.2.2.1.1.2.2.len
 simp only at e1 e2 e3 e4
 subst e1 e2 e3 e4
 obtain ⟨kind', pub', ver', there', pv', ps', ⟨n', tm', key', av', es'⟩, tb', tl', tc', frm', ⟨fr', en', iv', its', gv', gs', last'⟩⟩ := m'
 obtain ⟨p1', c1', e1, _, _⟩ := h'.1.1.1.len
 obtain ⟨p2', c2', e2, _, _⟩ := h'.2.1.1.len
 obtain ⟨p3', c3', e3, _, _⟩ := h'.2.2.1.1.1.len
 obtain ⟨p4', c4', e4, _, _⟩ := h'.2.2.1.1.2.2.len
 simp only at e1 e2 e3 e4
 subst e1 e2 e3 e4
 unfold Ms.cells
 unfold It.cells at CI
 unfold Pg.cells at CG
 simp only at CP CI CG ⊢
 obtain ⟨z1, t1⟩ : ∃ b, (kind == kind') = b := ⟨_, rfl⟩
 obtain ⟨z2, t2⟩ : ∃ b, (pub == pub') = b := ⟨_, rfl⟩
 obtain ⟨z3, t3⟩ : ∃ b, (ver == ver') = b := ⟨_, rfl⟩
 obtain ⟨z4, t4⟩ : ∃ b, (there == there') = b := ⟨_, rfl⟩
 obtain ⟨z7, t7⟩ : ∃ b, (tb == tb' && (tl == tl' && tc == tc')) = b := ⟨_, rfl⟩
 obtain ⟨z8, t8⟩ : ∃ b, (frm == frm') = b := ⟨_, rfl⟩
 have natEq : ∀ a b : Nat, ((a : Int) == (b : Int)) = (a == b) := fun a b => by rw [Bool.eq_iff_iff, beq_iff_eq, beq_iff_eq]; omega
 have u3 : ((ver : Int) == (ver' : Int)) = z3 := by rw [natEq, t3]
 have u8 : ((frm : Int) == (frm' : Int)) = z8 := by rw [natEq, t8]
 have te : ∀ W, (binOp .eql 37 (.agg #[.int .i64 tb, .int .u64 tl, .int .u64 tc]) (.agg #[.int .i64 tb', .int .u64 tl', .int .u64 tc'])).run Try.prog W = .ok (.bool z7) W := fun W => by rw [eql_tok, natEq, natEq, t7]
 rw [t1, t2, t3, t4, t7, t8]
 have lI : ∀ a W, (loadVar 3 a).run Try.prog W = (load a).run Try.prog W := fun _ _ => by kernel_rfl
 have lU : ∀ a W, (loadVar 28 a).run Try.prog W = (load a).run Try.prog W := fun _ _ => by kernel_rfl
 have lB : ∀ a W, (loadVar 4 a).run Try.prog W = (load a).run Try.prog W := fun _ _ => by kernel_rfl
 have lP : ∀ a W, (loadVar 30 a).run Try.prog W = (load a).run Try.prog W := fun _ _ => by kernel_rfl
 obtain ⟨W0, hW0⟩ : ∃ W0, (w.alloc (.cells #[.int .i64 kind, .int .i64 pub, .int .u64 ver, .bool there, .slice p1 ps.length c1, .int .u64 n, .int .u64 tm, .string key, .slice p2 es.length c2, .int .i64 tb, .int .u64 tl, .int .u64 tc, .int .u64 frm, .int .u64 fr, .int .u64 en, .slice p3 its.length c3, .slice p4 gs.length c4, .bool last] 43)).alloc (.cells #[.int .i64 kind', .int .i64 pub', .int .u64 ver', .bool there', .slice p1' ps'.length c1', .int .u64 n', .int .u64 tm', .string key', .slice p2' es'.length c2', .int .i64 tb', .int .u64 tl', .int .u64 tc', .int .u64 frm', .int .u64 fr', .int .u64 en', .slice p3' its'.length c3', .slice p4' gs'.length c4', .bool last'] 43) = W0 := ⟨_, rfl⟩
 have k0 : Old w W0 := by rw [← hW0]; exact ((Keeps.refl _ _).alloc _).alloc _
 obtain ⟨b0, b1⟩ := two_blocks w (.cells #[.int .i64 kind, .int .i64 pub, .int .u64 ver, .bool there, .slice p1 ps.length c1, .int .u64 n, .int .u64 tm, .string key, .slice p2 es.length c2, .int .i64 tb, .int .u64 tl, .int .u64 tc, .int .u64 frm, .int .u64 fr, .int .u64 en, .slice p3 its.length c3, .slice p4 gs.length c4, .bool last] 43) (.cells #[.int .i64 kind', .int .i64 pub', .int .u64 ver', .bool there', .slice p1' ps'.length c1', .int .u64 n', .int .u64 tm', .string key', .slice p2' es'.length c2', .int .i64 tb', .int .u64 tl', .int .u64 tc', .int .u64 frm', .int .u64 fr', .int .u64 en', .slice p3' its'.length c3', .slice p4' gs'.length c4', .bool last'] 43)
 rw [hW0] at b0 b1
 have g0 := blkM b0
 have g1 := blkM b1
 have B := Lib.hid (And.intro k0 (And.intro b0 b1))
 have HC := Lib.hid (And.intro CP (And.intro CI CG))
 clear k0 b0 b1 CP CI CG h h' t3 t7 t8 natEq
 cases z1
 ·go_enter Try.func26, Try.ntmps26
  go_wp2_with fail
  go_ret
  exact ⟨rfl, B.out.1⟩
 cases z2
 ·go_enter Try.func26, Try.ntmps26
  go_wp2_with fail
  go_ret
  exact ⟨rfl, B.out.1⟩
 cases z3
 ·go_enter Try.func26, Try.ntmps26
  go_wp2_with fail
  go_ret
  exact ⟨rfl, B.out.1⟩
 cases z4
 ·go_enter Try.func26, Try.ntmps26
  go_wp2_with fail
  go_ret
  exact ⟨rfl, B.out.1⟩
 go_enter Try.func26, Try.ntmps26
 go_wp2_with fail
 refine (HC.out.1 _ B.out.1).mono ?_
 rintro e w1 ⟨rfl, k1⟩
 have b0 := (k1.block _ (lt_of_heap B.out.2.1) (fun f => f)).trans B.out.2.1
 have b1 := (k1.block _ (lt_of_heap B.out.2.2) (fun f => f)).trans B.out.2.2
 have K1 := Lib.hid (And.intro (B.out.1.trans k1) (And.intro b0 b1))
 clear g0 g1 k1 b0 b1
 cases z5
 ·go_wp2_with fail
  go_ret
  exact ⟨rfl, K1.out.1⟩
 have g0 := blkM K1.out.2.1
 have g1 := blkM K1.out.2.2
 have l5a := load_sub (W := w1) (b := w.heap.size) (o := 5) (cs := #[.int .u64 n, .int .u64 tm, .string key, .slice p2 es.length c2]) (ty := 35) (by
  intro j v hv
  rcases j with _ | _ | _ | _ | _ | j <;> simp at hv
  all_goals (subst hv; first | exact g0.2.2.2.2.2.1 | exact g0.2.2.2.2.2.2.1 | exact g0.2.2.2.2.2.2.2.1 | exact g0.2.2.2.2.2.2.2.2.1)) Try.underlying35 rfl (by kernel_rfl)
 have l5b := load_sub (W := w1) (b := w.heap.size + 1) (o := 5) (cs := #[.int .u64 n', .int .u64 tm', .string key', .slice p2' es'.length c2']) (ty := 35) (by
  intro j v hv
  rcases j with _ | _ | _ | _ | _ | j <;> simp at hv
  all_goals (subst hv; first | exact g1.2.2.2.2.2.1 | exact g1.2.2.2.2.2.2.1 | exact g1.2.2.2.2.2.2.2.1 | exact g1.2.2.2.2.2.2.2.2.1)) Try.underlying35 rfl (by kernel_rfl)
 go_wp2_with fail
 refine (HC.out.2.1 _ K1.out.1).mono ?_
 rintro e w2 ⟨rfl, k2⟩
 have b0 := (k2.block _ (lt_of_heap K1.out.2.1) (fun f => f)).trans K1.out.2.1
 have b1 := (k2.block _ (lt_of_heap K1.out.2.2) (fun f => f)).trans K1.out.2.2
 have K2 := Lib.hid (And.intro (K1.out.1.trans k2) (And.intro b0 b1))
 clear g0 g1 k2 b0 b1 l5a l5b
 cases z6
 ·go_wp2_with fail
  go_ret
  exact ⟨rfl, K2.out.1⟩
 have g0 := blkM K2.out.2.1
 have g1 := blkM K2.out.2.2
 have l9a := load_sub (W := w2) (b := w.heap.size) (o := 9) (cs := #[.int .i64 tb, .int .u64 tl, .int .u64 tc]) (ty := 37) (by
  intro j v hv
  rcases j with _ | _ | _ | _ | _ | j <;> simp at hv
  all_goals (subst hv; first | exact g0.2.2.2.2.2.2.2.2.2.1 | exact g0.2.2.2.2.2.2.2.2.2.2.1 | exact g0.2.2.2.2.2.2.2.2.2.2.2.1)) Try.underlying37 rfl (by kernel_rfl)
 have l9b := load_sub (W := w2) (b := w.heap.size + 1) (o := 9) (cs := #[.int .i64 tb', .int .u64 tl', .int .u64 tc']) (ty := 37) (by
  intro j v hv
  rcases j with _ | _ | _ | _ | _ | j <;> simp at hv
  all_goals (subst hv; first | exact g1.2.2.2.2.2.2.2.2.2.1 | exact g1.2.2.2.2.2.2.2.2.2.2.1 | exact g1.2.2.2.2.2.2.2.2.2.2.2.1)) Try.underlying37 rfl (by kernel_rfl)
 have l13a := load_sub (W := w2) (b := w.heap.size) (o := 13) (cs := #[.int .u64 fr, .int .u64 en, .slice p3 its.length c3, .slice p4 gs.length c4, .bool last]) (ty := 41) (by
  intro j v hv
  rcases j with _ | _ | _ | _ | _ | j <;> simp at hv
  all_goals (subst hv; first | exact g0.2.2.2.2.2.2.2.2.2.2.2.2.2.1 | exact g0.2.2.2.2.2.2.2.2.2.2.2.2.2.2.1 | exact g0.2.2.2.2.2.2.2.2.2.2.2.2.2.2.2.1 | exact g0.2.2.2.2.2.2.2.2.2.2.2.2.2.2.2.2.1 | exact g0.2.2.2.2.2.2.2.2.2.2.2.2.2.2.2.2.2)) Try.underlying41 rfl (by kernel_rfl)
 have l13b := load_sub (W := w2) (b := w.heap.size + 1) (o := 13) (cs := #[.int .u64 fr', .int .u64 en', .slice p3' its'.length c3', .slice p4' gs'.length c4', .bool last']) (ty := 41) (by
  intro j v hv
  rcases j with _ | _ | _ | _ | _ | j <;> simp at hv
  all_goals (subst hv; first | exact g1.2.2.2.2.2.2.2.2.2.2.2.2.2.1 | exact g1.2.2.2.2.2.2.2.2.2.2.2.2.2.2.1 | exact g1.2.2.2.2.2.2.2.2.2.2.2.2.2.2.2.1 | exact g1.2.2.2.2.2.2.2.2.2.2.2.2.2.2.2.2.1 | exact g1.2.2.2.2.2.2.2.2.2.2.2.2.2.2.2.2.2)) Try.underlying41 rfl (by kernel_rfl)
 cases z7
 ·go_wp2_with fail
  go_ret
  exact ⟨rfl, K2.out.1⟩
 cases z8
 ·go_wp2_with fail
  go_ret
  exact ⟨rfl, K2.out.1⟩
 go_wp2_with fail
 refine (HC.out.2.2 _ K2.out.1).mono ?_
 rintro e w3 ⟨rfl, k3⟩
 have K3 := Lib.hid (K2.out.1.trans k3)
 clear k3 g0 g1 l9a l9b l13a l13b
 go_wp2_with fail
 go_ret
 exact ⟨rfl, K3.out⟩
end Go.Proofs.Ytiednihagnehlaa
