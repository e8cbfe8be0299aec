/- DERIVED. codec's Put and Take, in one contract each; what was put is taken; forms that begin alike are one. -/
import Derived.Test.YtfnanbadbmmicaaGreatDoorY11
namespace Go.Proofs.YtfnanbadbmmicaaGreatDoor
open Go.RowKit

/-- what is told of something that is put -/
def PutU (ok : Bool) (F : List UInt8) (w : World) (e : Ending) (w' : World) : Prop :=
 ∃ (p : Option Addr) (c : Nat) (z : Int) (L : List UInt8), e = .returned (.tuple #[.slice p L.length c, .int .i64 z]) ∧ Old w w' ∧ Sees w' (.slice p L.length c) L ∧ ((ok = true ∧ L = F ∧ z = 0) ∨ (ok = false ∧ L = [] ∧ z = 30))
theorem PutU.yes {F : List UInt8} {w w' : World} {e : Ending} (h : Formed w F e w') : PutU true F w e w' := by
 obtain ⟨p, n, c, rfl, ho, k⟩ := h
 obtain ⟨p', c', e', _, _⟩ := ho.sees.len
 simp only [Value.slice.injEq] at e'
 obtain ⟨rfl, rfl, rfl⟩ := e'
 exact ⟨_, _, _, F, rfl, k, ho.sees, Or.inl ⟨rfl, rfl, rfl⟩⟩
theorem PutU.no {F : List UInt8} {w w' : World} {e : Ending} (h : e = .returned (.tuple #[.slice none 0 0, .int .i64 30]) ∧ Old w w') : PutU false F w e w' := by
 obtain ⟨rfl, k⟩ := h
 exact ⟨none, 0, 30, [], rfl, k, Sees.nil _, Or.inr ⟨rfl, rfl, rfl⟩⟩

theorem put_item_u (x : It) (w : World) (hf : x.fine w) : Calls Tryz.prog 7 #[.agg x.cells.toArray] w (PutU (itOk x.plain) (itForm x.plain) w) := by
 cases hok : itOk x.plain
 ·exact (put_item_no_any x w hf hok).mono fun _ _ h => PutU.no h
 ·exact (put_item_any x w hf hok).mono fun _ _ h => PutU.yes h
/-- what is told of bytes as an event -/
def TakUE (L : List UInt8) (w : World) (e : Ending) (w' : World) : Prop :=
 ∃ (key : ByteArray) (p : Option Addr) (n c : Nat) (z : Int) (es : List At), e = .returned (.tuple #[.agg #[.string key, .slice p n c], .int .i64 z]) ∧ Old w w' ∧ SeesA w' (.slice p n c) es ∧ ((takeE L = some (key, es) ∧ z = 0) ∨ (takeE L = none ∧ z = 5))
/-- what is told of bytes as an item -/
def TakUI (L : List UInt8) (w : World) (e : Ending) (w' : World) : Prop :=
 ∃ (n tm : Nat) (key : ByteArray) (p : Option Addr) (len c : Nat) (es : List At) (z : Int), e = .returned (.tuple #[.agg #[.int .u64 n, .int .u64 tm, .string key, .slice p len c], .int .i64 z]) ∧ Old w w' ∧
  It.fine w' ⟨n, tm, key, .slice p len c, es⟩ ∧ ((takeI L = some ⟨n, tm, key, es⟩ ∧ z = 0) ∨ (takeI L = none ∧ z = 5))
theorem take_item_u (v : Value) (L : List UInt8) (w : World) (h : Sees w v L) (hl : L.length ≤ 1000000000) : Calls Tryz.prog 34 #[v] w (TakUI L w) :=
 (take_item_any v L w h hl).mono fun e w' ht => by
  cases hE : takeI L with
  | none =>
   rw [hE] at ht
   obtain ⟨k, rfl⟩ := ht
   exact ⟨0, 0, _, none, 0, 0, [], 5, rfl, k, ⟨SeesR.nil _, fun h => by simp at h, fun _ h => (by cases h), by decide, by decide⟩, Or.inr ⟨hE, rfl⟩⟩
  | some x =>
   rw [hE] at ht
   obtain ⟨k, p, n, c, rfl, ho⟩ := ht
   obtain ⟨_, _, ⟨r, h3⟩, _⟩ := takeI_law hE
   obtain ⟨g1, g2, g3, _⟩ := pItem_inv h3
   exact ⟨x.n, x.time, x.key, p, n, c, x.es, 0, rfl, k, ⟨ho.sees (fun _ => rfl) (by decide), fun _ b hb => (ho.block b hb).2, g1, by simp only; omega, by simp only; omega⟩, Or.inl ⟨hE, rfl⟩⟩
/-- what is told of bytes as a predicate -/
def TakUP (L : List UInt8) (w : World) (e : Ending) (w' : World) : Prop :=
 ∃ (p : Option Addr) (n c : Nat) (cs : List Con) (z : Int), e = .returned (.tuple #[.slice p n c, .int .i64 z]) ∧ Old w w' ∧ Cons w' (.slice p n c) cs ∧ (0 < cs.length → ∀ k, (Value.slice p n c).ownBlock = some k → k < w'.heap.size) ∧ ((takeP L = some (cs.map Con.plain) ∧ z = 0) ∨ (takeP L = none ∧ cs = [] ∧ z = 5))
/-- what is told of bytes as a page -/
def TakUG (L : List UInt8) (w : World) (e : Ending) (w' : World) : Prop :=
 ∃ (fr en : Nat) (p : Option Addr) (n c : Nat) (its : List It) (q : Option Addr) (m d : Nat) (gs : List PGap) (last : Bool) (z : Int),
  e = .returned (.tuple #[.agg #[.int .u64 fr, .int .u64 en, .slice p n c, .slice q m d, .bool last], .int .i64 z]) ∧ Old w w' ∧
  Pg.fine w' ⟨fr, en, .slice p n c, its, .slice q m d, gs, last⟩ ∧ ((takeG L = some ⟨fr, en, its.map It.plain, gs, last⟩ ∧ z = 0) ∨ (takeG L = none ∧ fr = 0 ∧ en = 0 ∧ its = [] ∧ gs = [] ∧ last = false ∧ n = 0 ∧ m = 0 ∧ z = 5))
theorem takeE_form {key : ByteArray} {es : List At} (hok : evOk key es = true) (hf : Fits es) : takeE (evForm key es) = some (key, es) := by
 have h := pEvent_fwd [] hok hf
 rw [List.append_nil] at h
 unfold takeE
 rw [h]
 simp [hok]
theorem takeI_form {x : PIt} (hok : itOk x = true) (hf : Fits x.es) : takeI (itForm x) = some x := by
 have h := pItem_fwd [] hok hf
 rw [List.append_nil] at h
 unfold takeI
 rw [h]
 simp [hok]
theorem takeP_form {cs : List PCon} (hok : okP cs = true) (hg : ∀ c ∈ cs, ConG c) : takeP (predForm cs) = some cs := by
 have h := pPred_fwd [] hok hg
 rw [List.append_nil] at h
 unfold takeP
 rw [h]
 simp [hok]
theorem consG {w : World} {v : Value} {cs : List Con} (h : Cons w v cs) (hok : okP (cs.map Con.plain) = true) : ∀ c ∈ cs.map Con.plain, ConG c := by
 intro c hc
 obtain ⟨x, hx, rfl⟩ := List.mem_map.1 hc
 have hf := h.2 x hx
 have hn := (conOk_parts (x := x) (by have := (okP_parts hok).2 _ hc; rwa [← conOk_plain] at this)).1
 exact ⟨hn, hf.2.1.2, hf.2.2.1⟩
theorem pgOk_gaps {x : PPg} (hok : pgOk x = true) : ∀ g ∈ x.gaps, g.1 ≤ 1099511627776 ∧ g.2 ≤ 1099511627776 := by
 unfold pgOk at hok
 simp only [Bool.and_eq_true] at hok
 obtain ⟨h1, _, h2⟩ := hok
 have hen : x.en ≤ 1099511627777 := by
  unfold topOk at h1
  simp only [Bool.and_eq_true, decide_eq_true_eq] at h1
  omega
 generalize x.fr = a at h2
 generalize x.items = its at h2
 generalize x.gaps = gs at h2
 induction gs generalizing a with
 | nil => intro g hg; cases hg
 | cons b r ih =>
  intro g hg
  unfold gapsOk at h2
  simp only [Bool.and_eq_true, decide_eq_true_eq] at h2
  rcases List.mem_cons.1 hg with rfl | hg
  ·omega
  ·exact ih _ h2.2.2.2.2 g hg
theorem takeG_form {x : PPg} (hok : pgOk x = true) (hi : ∀ y ∈ x.items, Fits y.es) : takeG (pageForm x) = some x := by
 have h := pPage_fwd [] hok hi (pgOk_gaps hok)
 rw [List.append_nil] at h
 unfold takeG
 rw [h]
 simp [hok]

/-- forms that begin alike -/
theorem apart_law {X : Type} {p : List UInt8 → Option (X × List UInt8)} {F : X → List UInt8} {x y : X} (hx : ∀ r, p (F x ++ r) = some (x, r)) (hy : ∀ r, p (F y ++ r) = some (y, r)) {n : Nat} (hn : n = min (F x).length (F y).length) :
  (F x).take n = (F y).take n ↔ x = y := by
 subst hn
 constructor
 ·intro h
  rcases Nat.le_total (F x).length (F y).length with g | g
  ·rw [Nat.min_eq_left g, List.take_length] at h
   have e := hx ((F y).drop (F x).length)
   have e2 := hy []
   rw [List.append_nil] at e2
   have : F x ++ (F y).drop (F x).length = F y := by
    conv => lhs; arg 1; rw [h]
    exact List.take_append_drop _ _
   rw [this, e2] at e
   simp at e
   exact e.1.symm
  ·rw [Nat.min_eq_right g, List.take_length] at h
   have e := hy ((F x).drop (F y).length)
   have e2 := hx []
   rw [List.append_nil] at e2
   have : F y ++ (F x).drop (F y).length = F x := by
    conv => lhs; arg 1; rw [← h]
    exact List.take_append_drop _ _
   rw [this, e2] at e
   simp at e
   exact e.1
 ·rintro rfl; rfl
theorem arr_beq (l m : List UInt8) : ((⟨l.toArray⟩ : ByteArray) == ⟨m.toArray⟩) = decide (l = m) := by
 by_cases h : l = m
 ·subst h; simp [bytes_self]
 ·rw [decide_eq_false h, Bool.eq_false_iff]
  intro g
  have := bytes_eq.1 g
  simp at this
  exact h this
/-- an event's form has at most 512 bytes -/
theorem form_one {n : Nat} (h : n < 128) : (form n).length = 1 := by rw [form_lt h]; rfl
theorem valForm_le34 {v : Val} (hv : v.ok = true) (hz : VFits v) : (valForm v).length ≤ 34 := by
 have f4 := zig_le10 v.num hz
 unfold valForm
 split
 ·simp only [List.length_append, form_one (n := 1) (by omega)]; omega
 ·split
  ·rename_i h1 h2
   have hs : v.str.size ≤ 32 := by unfold Val.ok at hv; simp [h2] at hv; exact hv.1.1
   simp only [List.length_append, size_toList, form_one (n := 2) (by omega), form_one (n := v.str.size) (by omega)]
   omega
  ·simp only [List.length_append, form_one (n := 3) (by omega)]
   split <;> rw [form_one (by omega)] <;> omega
theorem atForm_le51 {a : At} (hn : nameOk a.name.toList = true) (hv : a.val.ok = true) (hz : VFits a.val) : (atForm a).length ≤ 51 := by
 have h1 := valForm_le34 hv hz
 have h2 := nameOk_size hn
 unfold atForm
 simp only [List.length_append, size_toList, form_one (n := a.name.size) (by omega)]
 omega
theorem flat_le51 : ∀ (l : List At), (∀ a ∈ l, (atForm a).length ≤ 51) → (l.flatMap atForm).length ≤ 51 * l.length
 | [], _ => by simp
 | a :: l, h => by
  have h1 := h a (List.mem_cons_self ..)
  have h2 := flat_le51 l (fun b hb => h b (List.mem_cons_of_mem _ hb))
  simp only [List.flatMap_cons, List.length_append, List.length_cons]
  omega
theorem evForm_le512 {key : ByteArray} {l : List At} (h : evOk key l = true) (hf : Fits l) : (evForm key l).length ≤ 512 := by
 obtain ⟨h1, h2, h3⟩ := evOk_parts h
 have h4 := flat_le51 l (fun a ha => atForm_le51 (attrsOk_mem h3 ha).1 (attrsOk_mem h3 ha).2 (hf a ha).2)
 unfold evForm
 simp only [List.length_append, size_toList, form_one (n := key.size) (by omega), form_one (n := l.length) (by omega)]
 omega
end Go.Proofs.YtfnanbadbmmicaaGreatDoor
