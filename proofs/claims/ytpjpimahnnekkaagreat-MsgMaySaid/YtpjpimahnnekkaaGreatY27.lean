/- DERIVED. codec's Put and Take, in one contract each; what was put is taken; forms that begin alike are one. · DERIVED. The document's TakeEvent and TakeItem. · DERIVED. The statements' small event (layer 7). · DERIVED. The chapter's rows (layer 7). · DERIVED. Bytes appended, as one step of a region that draws. · DERIVED. CodecEvents, walked. · DERIVED. The document's items (layer 7): May, Put, Take. -/
import Derived.Test.YtpjpimahnnekkaaGreatY26
import Derived.Test.YtpjpimahnnekkaaGreatY19
import Derived.Test.YtpjpimahnnekkaaGreatY23
import Derived.Test.YtpjpimahnnekkaaGreatY24
import Derived.Deep.DeepCutAuto
namespace Go.Proofs.YtpjpimahnnekkaaGreat
open Go.RowKit

/-- what is told of something that is put -/
def PutU (ok : Bool) (F : List UInt8) (w : World) (e : Ending) (w' : World) : Prop :=
 ∃ (p : Option Addr) (c : Nat) (z : Int) (L : List UInt8), e = .returned (.tuple #[.slice p L.length c, .int .i64 z]) ∧ Old w w' ∧ Sees w' (.slice p L.length c) L ∧ ((ok = true ∧ L = F ∧ z = 0) ∨ (ok = false ∧ L = [] ∧ z = 30))
theorem PutU.yes {F : List UInt8} {w w' : World} {e : Ending} (h : Formed w F e w') : PutU true F w e w' := by
 obtain ⟨p, n, c, rfl, ho, k⟩ := h
 obtain ⟨p', c', e', _, _⟩ := ho.sees.len
 simp only [Value.slice.injEq] at e'
 obtain ⟨rfl, rfl, rfl⟩ := e'
 exact ⟨_, _, _, F, rfl, k, ho.sees, Or.inl ⟨rfl, rfl, rfl⟩⟩
theorem PutU.no {F : List UInt8} {w w' : World} {e : Ending} (h : e = .returned (.tuple #[.slice none 0 0, .int .i64 30]) ∧ Old w w') : PutU false F w e w' := by
 obtain ⟨rfl, k⟩ := h
 exact ⟨none, 0, 30, [], rfl, k, Sees.nil _, Or.inr ⟨rfl, rfl, rfl⟩⟩

theorem put_item_u (x : It) (w : World) (hf : x.fine w) : Calls Tryz.prog 31 #[.agg x.cells.toArray] w (PutU (itOk x.plain) (itForm x.plain) w) := by
 cases hok : itOk x.plain
 ·exact (put_item_no_any x w hf hok).mono fun _ _ h => PutU.no h
 ·exact (put_item_any x w hf hok).mono fun _ _ h => PutU.yes h
theorem put_pred_u (v : Value) (cs : List Con) (w : World) (hc : Cons w v cs) (hlt : 0 < cs.length → ∀ k, v.ownBlock = some k → k < w.heap.size) :
  Calls Tryz.prog 30 #[v] w (PutU (okP (cs.map Con.plain)) (predForm (cs.map Con.plain)) w) := by
 rw [← predOk_plain]
 cases hok : predOk cs
 ·exact (put_pred_no_any v cs w hc hok).mono fun _ _ h => PutU.no h
 ·exact (put_pred_any v cs w hc hlt hok).mono fun _ _ h => PutU.yes h
theorem put_page_u (x : Pg) (w : World) (hf : x.fine w) : Calls Tryz.prog 32 #[.agg x.cells.toArray] w (PutU (pgOk x.plain) (pageForm x.plain) w) := by
 cases hok : pgOk x.plain
 ·exact (put_page_no_any x w hf hok).mono fun _ _ h => PutU.no h
 ·exact (put_page_any x w hf hok).mono fun _ _ h => PutU.yes h

/-- what is told of bytes as an event -/
def TakUE (L : List UInt8) (w : World) (e : Ending) (w' : World) : Prop :=
 ∃ (key : ByteArray) (p : Option Addr) (n c : Nat) (z : Int) (es : List At), e = .returned (.tuple #[.agg #[.string key, .slice p n c], .int .i64 z]) ∧ Old w w' ∧ SeesA w' (.slice p n c) es ∧ ((takeE L = some (key, es) ∧ z = 0) ∨ (takeE L = none ∧ z = 5))
/-- what is told of bytes as an item -/
def TakUI (L : List UInt8) (w : World) (e : Ending) (w' : World) : Prop :=
 ∃ (n tm : Nat) (key : ByteArray) (p : Option Addr) (len c : Nat) (es : List At) (z : Int), e = .returned (.tuple #[.agg #[.int .u64 n, .int .u64 tm, .string key, .slice p len c], .int .i64 z]) ∧ Old w w' ∧
  It.fine w' ⟨n, tm, key, .slice p len c, es⟩ ∧ ((takeI L = some ⟨n, tm, key, es⟩ ∧ z = 0) ∨ (takeI L = none ∧ z = 5))
theorem take_item_u (v : Value) (L : List UInt8) (w : World) (h : Sees w v L) (hl : L.length ≤ 1000000000) : Calls Tryz.prog 43 #[v] w (TakUI L w) :=
 (take_item_any v L w h hl).mono fun e w' ht => by
  cases hE : takeI L with
  | none =>
   rw [hE] at ht
   obtain ⟨k, rfl⟩ := ht
   exact ⟨0, 0, _, none, 0, 0, [], 5, rfl, k, ⟨SeesR.nil _, fun h => by simp at h, fun _ h => (by cases h), by decide, by decide⟩, Or.inr ⟨hE, rfl⟩⟩
  | some x =>
   rw [hE] at ht
   obtain ⟨k, p, n, c, rfl, ho⟩ := ht
   obtain ⟨_, _, ⟨r, h3⟩, _⟩ := takeI_law hE
   obtain ⟨g1, g2, g3, _⟩ := pItem_inv h3
   exact ⟨x.n, x.time, x.key, p, n, c, x.es, 0, rfl, k, ⟨ho.sees (fun _ => rfl) (by decide), fun _ b hb => (ho.block b hb).2, g1, by simp only; omega, by simp only; omega⟩, Or.inl ⟨hE, rfl⟩⟩
/-- what is told of bytes as a predicate -/
def TakUP (L : List UInt8) (w : World) (e : Ending) (w' : World) : Prop :=
 ∃ (p : Option Addr) (n c : Nat) (cs : List Con) (z : Int), e = .returned (.tuple #[.slice p n c, .int .i64 z]) ∧ Old w w' ∧ Cons w' (.slice p n c) cs ∧ (0 < cs.length → ∀ k, (Value.slice p n c).ownBlock = some k → k < w'.heap.size) ∧ ((takeP L = some (cs.map Con.plain) ∧ z = 0) ∨ (takeP L = none ∧ cs = [] ∧ z = 5))
theorem take_pred_u (v : Value) (L : List UInt8) (w : World) (h : Sees w v L) (hl : L.length ≤ 1000000000) : Calls Tryz.prog 41 #[v] w (TakUP L w) :=
 (take_pred_any v L w h hl).mono fun e w' ht => by
  cases hE : takeP L with
  | none =>
   rw [hE] at ht
   obtain ⟨k, rfl⟩ := ht
   exact ⟨none, 0, 0, [], 5, rfl, k, ⟨SeesR.nil _, fun _ h => (by cases h)⟩, fun h => by simp at h, Or.inr ⟨hE, rfl, rfl⟩⟩
  | some x =>
   rw [hE] at ht
   obtain ⟨k, p, n, c, s', rfl, hs, ho⟩ := ht
   obtain ⟨_, _, ⟨r, h3⟩, _⟩ := takeP_law hE
   have hfit := (pPred_inv h3).1
   refine ⟨p, n, c, s', 0, rfl, k, ⟨ho.1.sees (fun _ => rfl) (by decide), fun y hy => ?_⟩, fun _ b hb => (ho.1.block b hb).2, Or.inl ⟨hE.trans (by rw [hs]), rfl⟩⟩
   have hg := hfit y.plain (by rw [← hs]; exact List.mem_map_of_mem hy)
   have hb : y.name.size ≤ 16 := hg.1
   exact ⟨(ho.2 y hy).1, ⟨by omega, hg.2.1⟩, hg.2.2, fun _ b hb' => ((ho.2 y hy).2 b hb').2.1⟩
/-- what is told of bytes as a page -/
def TakUG (L : List UInt8) (w : World) (e : Ending) (w' : World) : Prop :=
 ∃ (fr en : Nat) (p : Option Addr) (n c : Nat) (its : List It) (q : Option Addr) (m d : Nat) (gs : List PGap) (last : Bool) (z : Int),
  e = .returned (.tuple #[.agg #[.int .u64 fr, .int .u64 en, .slice p n c, .slice q m d, .bool last], .int .i64 z]) ∧ Old w w' ∧
  Pg.fine w' ⟨fr, en, .slice p n c, its, .slice q m d, gs, last⟩ ∧ ((takeG L = some ⟨fr, en, its.map It.plain, gs, last⟩ ∧ z = 0) ∨ (takeG L = none ∧ fr = 0 ∧ en = 0 ∧ its = [] ∧ gs = [] ∧ last = false ∧ n = 0 ∧ m = 0 ∧ z = 5))
theorem take_page_u (v : Value) (L : List UInt8) (w : World) (h : Sees w v L) (hl : L.length ≤ 1000000000) : Calls Tryz.prog 45 #[v] w (TakUG L w) :=
 (take_page_any v L w h hl).mono fun e w' ht => by
  cases hE : takeG L with
  | none =>
   rw [hE] at ht
   obtain ⟨k, rfl⟩ := ht
   exact ⟨0, 0, none, 0, 0, [], none, 0, 0, [], false, 5, rfl, k, ⟨⟨SeesR.nil _, fun _ h => (by cases h), SeesR.nil _⟩, fun _ h => (by cases h), ⟨by decide, by decide⟩, fun h => (by simp at h), fun h => (by simp at h)⟩, Or.inr ⟨hE, rfl, rfl, rfl, rfl, rfl, rfl, rfl, rfl⟩⟩
  | some x =>
   rw [hE] at ht
   obtain ⟨k, p, n, c, pg, ng, cg, s', rfl, hs, ho⟩ := ht
   obtain ⟨_, _, ⟨r, h3⟩, _⟩ := takeG_law hE
   obtain ⟨hb1, hfit, hgf, _⟩ := pPage_inv h3
   obtain ⟨fr, en, its, gps, last⟩ := x
   simp only at hb1 hfit hgf hs ho
   refine ⟨fr, en, p, n, c, s', pg, ng, cg, gps, last, 0, rfl, k, ⟨⟨ho.1.1.sees (fun _ => rfl) (by decide), fun y hy => ?_, ho.2.sees (fun _ => rfl) (by decide)⟩, fun g hg => by have := hgf g hg; omega, ⟨by simp only; omega, by simp only; omega⟩, fun _ b hb => (ho.1.1.block b hb).2, fun _ b hb => (ho.2.block b hb).2⟩, Or.inl ⟨hE.trans (by rw [hs]), rfl⟩⟩
   have hg := hfit y.plain (by rw [← hs]; exact List.mem_map_of_mem hy)
   have g1 : y.n ≤ 1099511627776 := hg.2.1
   have g2 : y.time ≤ 1099511627776 := hg.2.2
   exact ⟨(ho.1.2 y hy).1, fun _ k hk => ((ho.1.2 y hy).2 k hk).2.1, hg.1, by omega, by omega⟩

theorem takeE_form {key : ByteArray} {es : List At} (hok : evOk key es = true) (hf : Fits es) : takeE (evForm key es) = some (key, es) := by
 have h := pEvent_fwd [] hok hf
 rw [List.append_nil] at h
 unfold takeE
 rw [h]
 simp [hok]
theorem takeI_form {x : PIt} (hok : itOk x = true) (hf : Fits x.es) : takeI (itForm x) = some x := by
 have h := pItem_fwd [] hok hf
 rw [List.append_nil] at h
 unfold takeI
 rw [h]
 simp [hok]
theorem takeP_form {cs : List PCon} (hok : okP cs = true) (hg : ∀ c ∈ cs, ConG c) : takeP (predForm cs) = some cs := by
 have h := pPred_fwd [] hok hg
 rw [List.append_nil] at h
 unfold takeP
 rw [h]
 simp [hok]
theorem consG {w : World} {v : Value} {cs : List Con} (h : Cons w v cs) (hok : okP (cs.map Con.plain) = true) : ∀ c ∈ cs.map Con.plain, ConG c := by
 intro c hc
 obtain ⟨x, hx, rfl⟩ := List.mem_map.1 hc
 have hf := h.2 x hx
 have hn := (conOk_parts (x := x) (by have := (okP_parts hok).2 _ hc; rwa [← conOk_plain] at this)).1
 exact ⟨hn, hf.2.1.2, hf.2.2.1⟩
theorem pgOk_gaps {x : PPg} (hok : pgOk x = true) : ∀ g ∈ x.gaps, g.1 ≤ 1099511627776 ∧ g.2 ≤ 1099511627776 := by
 unfold pgOk at hok
 simp only [Bool.and_eq_true] at hok
 obtain ⟨h1, _, h2⟩ := hok
 have hen : x.en ≤ 1099511627777 := by
  unfold topOk at h1
  simp only [Bool.and_eq_true, decide_eq_true_eq] at h1
  omega
 generalize x.fr = a at h2
 generalize x.items = its at h2
 generalize x.gaps = gs at h2
 induction gs generalizing a with
 | nil => intro g hg; cases hg
 | cons b r ih =>
  intro g hg
  unfold gapsOk at h2
  simp only [Bool.and_eq_true, decide_eq_true_eq] at h2
  rcases List.mem_cons.1 hg with rfl | hg
  ·omega
  ·exact ih _ h2.2.2.2.2 g hg
theorem takeG_form {x : PPg} (hok : pgOk x = true) (hi : ∀ y ∈ x.items, Fits y.es) : takeG (pageForm x) = some x := by
 have h := pPage_fwd [] hok hi (pgOk_gaps hok)
 rw [List.append_nil] at h
 unfold takeG
 rw [h]
 simp [hok]

/-- forms that begin alike -/
theorem apart_law {X : Type} {p : List UInt8 → Option (X × List UInt8)} {F : X → List UInt8} {x y : X} (hx : ∀ r, p (F x ++ r) = some (x, r)) (hy : ∀ r, p (F y ++ r) = some (y, r)) {n : Nat} (hn : n = min (F x).length (F y).length) :
  (F x).take n = (F y).take n ↔ x = y := by
 subst hn
 constructor
 ·intro h
  rcases Nat.le_total (F x).length (F y).length with g | g
  ·rw [Nat.min_eq_left g, List.take_length] at h
   have e := hx ((F y).drop (F x).length)
   have e2 := hy []
   rw [List.append_nil] at e2
   have : F x ++ (F y).drop (F x).length = F y := by
    conv => lhs; arg 1; rw [h]
    exact List.take_append_drop _ _
   rw [this, e2] at e
   simp at e
   exact e.1.symm
  ·rw [Nat.min_eq_right g, List.take_length] at h
   have e := hy ((F x).drop (F y).length)
   have e2 := hx []
   rw [List.append_nil] at e2
   have : F y ++ (F x).drop (F y).length = F x := by
    conv => lhs; arg 1; rw [← h]
    exact List.take_append_drop _ _
   rw [this, e2] at e
   simp at e
   exact e.1
 ·rintro rfl; rfl
theorem arr_beq (l m : List UInt8) : ((⟨l.toArray⟩ : ByteArray) == ⟨m.toArray⟩) = decide (l = m) := by
 by_cases h : l = m
 ·subst h; simp [bytes_self]
 ·rw [decide_eq_false h, Bool.eq_false_iff]
  intro g
  have := bytes_eq.1 g
  simp at this
  exact h this
/-- an event's form has at most 512 bytes -/
theorem form_one {n : Nat} (h : n < 128) : (form n).length = 1 := by rw [form_lt h]; rfl
theorem valForm_le34 {v : Val} (hv : v.ok = true) (hz : VFits v) : (valForm v).length ≤ 34 := by
 have f4 := zig_le10 v.num hz
 unfold valForm
 split
 ·simp only [List.length_append, form_one (n := 1) (by omega)]; omega
 ·split
  ·rename_i h1 h2
   have hs : v.str.size ≤ 32 := by unfold Val.ok at hv; simp [h2] at hv; exact hv.1.1
   simp only [List.length_append, size_toList, form_one (n := 2) (by omega), form_one (n := v.str.size) (by omega)]
   omega
  ·simp only [List.length_append, form_one (n := 3) (by omega)]
   split <;> rw [form_one (by omega)] <;> omega
theorem atForm_le51 {a : At} (hn : nameOk a.name.toList = true) (hv : a.val.ok = true) (hz : VFits a.val) : (atForm a).length ≤ 51 := by
 have h1 := valForm_le34 hv hz
 have h2 := nameOk_size hn
 unfold atForm
 simp only [List.length_append, size_toList, form_one (n := a.name.size) (by omega)]
 omega
theorem flat_le51 : ∀ (l : List At), (∀ a ∈ l, (atForm a).length ≤ 51) → (l.flatMap atForm).length ≤ 51 * l.length
 | [], _ => by simp
 | a :: l, h => by
  have h1 := h a (List.mem_cons_self ..)
  have h2 := flat_le51 l (fun b hb => h b (List.mem_cons_of_mem _ hb))
  simp only [List.flatMap_cons, List.length_append, List.length_cons]
  omega
theorem evForm_le512 {key : ByteArray} {l : List At} (h : evOk key l = true) (hf : Fits l) : (evForm key l).length ≤ 512 := by
 obtain ⟨h1, h2, h3⟩ := evOk_parts h
 have h4 := flat_le51 l (fun a ha => atForm_le51 (attrsOk_mem h3 ha).1 (attrsOk_mem h3 ha).2 (hf a ha).2)
 unfold evForm
 simp only [List.length_append, size_toList, form_one (n := key.size) (by omega), form_one (n := l.length) (by omega)]
 omega
end Go.Proofs.YtpjpimahnnekkaaGreat

namespace Go.Proofs.YtpjpimahnnekkaaGreat
open Go.RowKit

/-- what is told of bytes as an event, told in full -/
def TakVE (L : List UInt8) (w : World) (e : Ending) (w' : World) : Prop :=
 ∃ (key : ByteArray) (p : Option Addr) (n c : Nat) (z : Int) (es : List At), e = .returned (.tuple #[.agg #[.string key, .slice p n c], .int .i64 z]) ∧ Old w w' ∧ SeesA w' (.slice p n c) es ∧ (∀ b, (Value.slice p n c).ownBlock = some b → w.heap.size ≤ b ∧ b < w'.heap.size) ∧ Fits es ∧
  ((takeE L = some (key, es) ∧ z = 0) ∨ (takeE L = none ∧ key = ⟨#[]⟩ ∧ es = [] ∧ z = 5))
theorem TakVE.no {L : List UInt8} {w w' : World} (h : takeE L = none) (k : Old w w') : TakVE L w (.returned (.tuple #[.agg #[.string ⟨#[]⟩, .slice none 0 0], .int .i64 5])) w' :=
 ⟨_, none, 0, 0, 5, [], rfl, k, SeesR.nil _, (fun b h => by cases h), (fun _ h => by cases h), Or.inr ⟨h, rfl, rfl, rfl⟩⟩
theorem rfdone_any (rp : Nat) (st : Option (List UInt8)) (w : World) (h : Rr w rp st) : Calls Tryz.prog 96 #[.pointer (some ⟨rp, 0, none⟩)] w fun e w' => e = .returned (.bool (st.elim false (fun l => l.isEmpty))) ∧ w = w' := by
 cases st with
 | none =>
  obtain ⟨p, n, c, hb⟩ := h.bad
  have g := blk2 hb
  clear h hb
  go_enter Tryz.func96, Tryz.ntmps96
  go_wp2_with fail
  go_ret
  exact ⟨rfl, rfl⟩
 | some l =>
  obtain ⟨p, c, hb, hs, _⟩ := h.cells
  have g := blk2 hb
  clear h hb hs
  cases l with
  | nil =>
   go_enter Tryz.func96, Tryz.ntmps96
   go_wp2_with fail
   go_ret
   exact ⟨rfl, rfl⟩
  | cons x r =>
   have t0 : ((((x :: r).length : Nat) : Int) == 0) = false := by simp; omega
   go_enter Tryz.func96, Tryz.ntmps96
   go_wp2_with fail
   go_ret
   exact ⟨rfl, rfl⟩
theorem Rr.new {w : World} {v : Value} {l : List UInt8} (h : Sees w v l) : Rr (w.alloc (.cells #[v, .bool false] 156)) w.heap.size (some l) := by
 refine ⟨v, heap_alloc_new _ _, h.alloc _, fun hl k hk => ?_⟩
 obtain ⟨b, o, c, rfl, _, _, hc⟩ := h.at hl
 simp only [Value.ownBlock, Option.some.injEq] at hk
 subst hk
 obtain ⟨x, hx⟩ : ∃ x, l[0]? = some x := ⟨_, List.getElem?_eq_getElem hl⟩
 exact World.block_lt_of_cell? _ _ (hc 0 x hx)

/-- what is told of something that is put: new memory -/
def PutV (ok : Bool) (F : List UInt8) (w : World) (e : Ending) (w' : World) : Prop :=
 ∃ (p : Option Addr) (c : Nat) (z : Int) (L : List UInt8), e = .returned (.tuple #[.slice p L.length c, .int .i64 z]) ∧ Old w w' ∧ Owns w' w.heap.size (.slice p L.length c) L ∧ L = (if ok then F else []) ∧ z = (if ok then 0 else 30)
theorem PutV.yes {F : List UInt8} {w w' : World} {e : Ending} (h : Formed w F e w') : PutV true F w e w' := by
 obtain ⟨p, n, c, rfl, ho, k⟩ := h
 obtain ⟨p', c', e', _, _⟩ := ho.sees.len
 simp only [Value.slice.injEq] at e'
 obtain ⟨rfl, rfl, rfl⟩ := e'
 exact ⟨_, _, _, F, rfl, k, ho, rfl, rfl⟩
theorem PutV.no {F : List UInt8} {w w' : World} {e : Ending} (h : e = .returned (.tuple #[.slice none 0 0, .int .i64 30]) ∧ Old w w') : PutV false F w e w' := by
 obtain ⟨rfl, k⟩ := h
 exact ⟨none, 0, 30, [], rfl, k, Owns.nil _ _, rfl, rfl⟩
theorem xor255_u8 {x : Nat} (h : x < 256) : bits .xor .u8 (x : Int) 255 = ((255 - x : Nat) : Int) := by revert x; decide +kernel
theorem xor255 (x : UInt8) : bits .xor .u8 (x.toNat : Int) 255 = ((UInt8.ofNat (255 - x.toNat)).toNat : Int) := by
 have h := UInt8.toNat_lt x
 rw [xor255_u8 h, UInt8.toNat_ofNat']
 omega
end Go.Proofs.YtpjpimahnnekkaaGreat

namespace Go.Proofs.YtpjpimahnnekkaaGreat
open Go.RowKit

def smallL : List At := [⟨⟨#[97]⟩, ⟨1, -1, ⟨#[]⟩, false⟩⟩, ⟨⟨#[98]⟩, ⟨2, 0, ⟨#[120]⟩, false⟩⟩, ⟨⟨#[99]⟩, ⟨3, 0, ⟨#[]⟩, true⟩⟩]
def smallK : ByteArray := ⟨#[107]⟩
def SmallPost (w : World) (e : Ending) (w' : World) : Prop := ∃ p n c, e = .returned (.agg #[.string ⟨#[107]⟩, .slice p n c]) ∧ SeesA w' (.slice p n c) smallL ∧ (∀ k, (Value.slice p n c).ownBlock = some k → k < w'.heap.size) ∧ Old w w'
end Go.Proofs.YtpjpimahnnekkaaGreat

namespace Go.Proofs.YtpjpimahnnekkaaGreat
open Go.RowKit

abbrev wForm : List UInt8 := [1, 107, 3, 1, 97, 1, 1, 1, 98, 2, 1, 120, 1, 99, 3, 1]
theorem small_ok : evOk ⟨#[107]⟩ smallL = true := by decide +kernel
theorem small_form : evForm ⟨#[107]⟩ smallL = wForm := by
 have z : zigN (-1) = 1 := by decide
 simp [evForm, smallL, atForm, valForm, form_lt, ByteArray.size, z]
theorem small_fits : Fits smallL := by
 intro a ha
 simp [smallL] at ha
 rcases ha with rfl | rfl | rfl <;> simp [ByteArray.size]
theorem take_small : takeE wForm = some (⟨#[107]⟩, smallL) := by
 have h := pEvent_fwd [] small_ok small_fits
 rw [small_form, List.append_nil] at h
 unfold takeE
 rw [h]
 simp [small_ok]
theorem take_more : takeE (wForm ++ [0]) = none := by
 have h := pEvent_fwd [0] small_ok small_fits
 rw [small_form] at h
 unfold takeE
 rw [h]
 simp
theorem take_less : takeE [1, 107, 3, 1, 97] = none := Option.isNone_iff_eq_none.1 (by decide +kernel)
theorem take_odd : takeE [129, 0, 107, 0] = none := Option.isNone_iff_eq_none.1 (by decide +kernel)
abbrev hasA (v : Value) : Con := ⟨⟨#[97]⟩, 1, noVal, v, []⟩
theorem hasA_ok (v : Value) : predOk [hasA v] = true := by
 have h1 : conOk (hasA v) = conOk (hasA .nilIface) := rfl
 have h2 : conOk (hasA .nilIface) = true := by decide +kernel
 have h := h1.trans h2
 simp [predOk, h]
theorem hasA_form (v : Value) : predForm ([hasA v].map Con.plain) = [1, 1, 97, 1] := by
 simp [predForm, conForm, Con.plain, form_lt, ByteArray.size]
abbrev pg35 : Pg := ⟨3, 5, .slice none 0 0, [], .slice none 0 0, [], true⟩
theorem pg35_ok : pgOk pg35.plain = true := by decide +kernel
theorem pg35_form : pageForm pg35.plain = [3, 5, 0, 0, 1] := by
 simp [pageForm, Pg.plain, form_lt]
theorem pg35_fine (w : World) : pg35.fine w := ⟨⟨SeesR.nil w, fun _ h => (by cases h), SeesR.nil w⟩, fun _ h => (by cases h), ⟨by decide, by decide⟩, fun h => (by cases h), fun h => (by cases h)⟩
theorem same_small : sameE ⟨#[107]⟩ smallL ⟨#[107]⟩ smallL = true := by decide +kernel
theorem size_small : evSize ⟨#[107]⟩ smallL = 16 := by unfold evSize; rw [small_ok, small_form]; rfl

end Go.Proofs.YtpjpimahnnekkaaGreat

namespace Go.Proofs.YtpjpimahnnekkaaGreat
open Go.RowKit

theorem flat_u8 (l : List UInt8) : l.flatMap (fun b => [u8 b]) = l.map u8 := by induction l <;> simp_all
theorem ownsR_u8 {w : World} {B : Nat} {v : Value} {l : List UInt8} : OwnsR w B 5 1 (fun b => [u8 b]) v l ↔ Owns w B v l := by unfold OwnsR Owns; rw [flat_u8]
theorem seesR_u8 {w : World} {v : Value} {l : List UInt8} (h : Sees w v l) : SeesR w 1 (fun b => [u8 b]) v l := by
 obtain ⟨p, c, h1, h2, h3, h4, h5⟩ := h
 refine ⟨p, c, h1, h2, h3, h4, fun a ha => ⟨(h5 a ha).1, fun j x hx i u hu => ?_⟩⟩
 cases i with
 | zero => simp only [List.getElem?_cons_zero, Option.some.injEq] at hu; subst hu; simpa using (h5 a ha).2 j x hx
 | succ i => simp at hu
theorem step_append_bytes {w : World} {ops : Array Oper} {o : Oper} {a : Act} {K : Act → World → Prop} {Q : Exit → Act → World → Prop} {G : Prop} (hgd : o.guard = none) (s x : Operand)
  (ho : o.op = .call { callee := .builtin .append, args := #[s, x], argTypes := #[38, 38] })
  (B : Nat) (v : Value) (l : List UInt8) (hs : a.eval s = v) (hown : Owns w B v l) (u : Value) (m : List UInt8) (hx : a.eval x = u) (hu : Sees w u m)
  (hlen : l.length + m.length ≤ 1000000000) (hB : B ≤ w.heap.size)
  (h : ∀ v' w', Owns w' B v' (l ++ m) → w.grownBy w' v.ownBlock → K (a.put o.dst v') w') :
  if Region.wanted o (yielded ops a.tmps) = true then Oper.wp Tryz.prog o a w K Q else G :=
 step_append_rows (P := Tryz.prog) hgd s x 38 ho B 5 1 1 (fun b => [u8 b]) _ Tryz.underlying38 Tryz.infoU8 rfl (by decide) v l hs (ownsR_u8.2 hown) u m hx (seesR_u8 hu) (fun _ _ => rfl)
  (fun y _ c hc => by simp at hc; subst hc; rfl) (by unfold maxLen; omega) (by omega) hB (fun v' w' h1 h2 _ => h v' w' (ownsR_u8.1 h1) h2)
end Go.Proofs.YtpjpimahnnekkaaGreat

namespace Go.Proofs.YtpjpimahnnekkaaGreat
open Go.RowKit

end Go.Proofs.YtpjpimahnnekkaaGreat

namespace Go.Proofs.YtpjpimahnnekkaaGreat
open Go.RowKit
theorem SeesR.keep0 {α : Type} {S : Nat → Prop} {w w' : World} {k : Nat} {enc : α → List Value} {v : Value} {l : List α} (h : SeesR w k enc v l) (hk : Keeps S w w') (hS : 0 < l.length → ∀ b, v.ownBlock = some b → ¬ S b) : SeesR w' k enc v l := by
 cases l with
 | nil =>
  obtain ⟨p, c, e, h1, h2, h3, h4⟩ := h
  exact ⟨p, c, e, h1, h2, h3, fun a ha => ⟨(h4 a ha).1, fun j x hj => by cases hj⟩⟩
 | cons x r => exact h.keeps hk (hS (by simp))

theorem ref_may_item_any (x : It) (w : World) (h : x.fine w) : Calls Tryz.prog 59 #[.agg x.cells.toArray] w fun e w' => e = .returned (.bool (itOk x.plain)) ∧ Old w w' := by
 have M := fun W (k : Old w W) => ref_ev_may_any x.key x.av x.es W (h.1.old k) (fun a ha => (h.2.2.1 a ha).1)
 obtain ⟨n, t, key, av, es⟩ := x
 obtain ⟨p, c, e9, _, _⟩ := h.1.len
 simp only at e9
 subst e9
 unfold It.cells itOk It.plain
 simp only at M ⊢
 have hn := h.2.2.2.1
 have ht := h.2.2.2.2
 simp only at hn ht
 generalize hW0 : w.alloc (.cells #[.int .u64 n, .int .u64 t, .string key, .slice p es.length c] 29) = W0
 have k0 : Old w W0 := by rw [← hW0]; exact (Keeps.refl _ _).alloc _
 have hb0 : W0.heap[w.heap.size]? = some (.cells #[.int .u64 n, .int .u64 t, .string key, .slice p es.length c] 29 (0, 0)) := by rw [← hW0]; exact heap_alloc_new _ _
 have g := (blk4 hb0).1
 have C := Lib.hid (M W0 k0)
 have H := Lib.hid k0
 clear M k0 hb0 h
 by_cases a : 1 ≤ n
 ·have a1 : decide (1 ≤ n) = true := decide_eq_true a
  have a2 : decide (0 < n) = true := by simp; omega
  have a3 : decide ((n : Int) > 0) = true := by simp; omega
  by_cases b : n ≤ 1099511627776
  ·have b1 : decide (n ≤ 1099511627776) = true := decide_eq_true b
   have b2 : decide ((n : Int) ≤ 1099511627776) = true := by simp; omega
   by_cases d : t ≤ 1099511627776
   ·have d1 : decide (t ≤ 1099511627776) = true := decide_eq_true d
    have d2 : decide ((t : Int) ≤ 1099511627776) = true := by simp; omega
    go_enter Tryz.func59, Tryz.ntmps59
    go_wp2_with fail
    refine C.out.mono ?_
    rintro e w1 ⟨rfl, hk⟩
    have K := Lib.hid (H.out.trans hk)
    clear hk
    go_wp2_with fail
    go_ret
    exact ⟨by first | rfl | simp [a, b, d], K.out⟩
   ·have d1 : decide (t ≤ 1099511627776) = false := decide_eq_false d
    have d2 : decide ((t : Int) ≤ 1099511627776) = false := by simp; omega
    go_enter Tryz.func59, Tryz.ntmps59
    go_wp2_with fail
    go_ret
    exact ⟨by first | rfl | simp, H.out⟩
  ·have b1 : decide (n ≤ 1099511627776) = false := decide_eq_false b
   have b2 : decide ((n : Int) ≤ 1099511627776) = false := by simp; omega
   go_enter Tryz.func59, Tryz.ntmps59
   go_wp2_with fail
   go_ret
   exact ⟨by first | rfl | simp, H.out⟩
 ·have a1 : decide (1 ≤ n) = false := decide_eq_false a
  have a2 : decide (0 < n) = false := by simp; omega
  have a3 : decide ((n : Int) > 0) = false := by simp; omega
  go_enter Tryz.func59, Tryz.ntmps59
  go_wp2_with fail
  go_ret
  exact ⟨by first | rfl | simp, H.out⟩


set_option maxRecDepth 100000 in
set_option maxHeartbeats 2000000 in
theorem ref7_item_any (v0 : Value) (l : List UInt8) (x : It) (B : Nat) (w : World) (h : Owns w B v0 l) (hl : l.length ≤ 999980000) (hf : x.fine w) (hne : 0 < x.es.length → ∀ k, x.av.ownBlock = some k → k < B) (hok : itOk x.plain = true) (hB : B ≤ w.heap.size) :
  Calls Tryz.prog 83 #[v0, .agg x.cells.toArray] w (Gro w B (l ++ itForm x.plain)) := by
 obtain ⟨pv, cv, rfl, _, _⟩ := h.sees.len
 have hev : evOk x.key x.es = true := by unfold itOk at hok; simp only [Bool.and_eq_true] at hok; exact hok.2.2.2
 have CE := Lib.hid (fun (u : Value) (m : List UInt8) (W : World) (hu : Owns W B u m) (hm : m.length ≤ 999990000) (k : K8 B w W) => ref7_event_any u m x.key x.av x.es B W hu hm (hf.1.keep0 k (fun h0 b hb e => by have := hne h0 b hb; have := e.1; omega)) hne hev hf.2.2.1 (Nat.le_trans hB k.size))
 have hn := hf.2.2.2.1
 have ht := hf.2.2.2.2
 obtain ⟨n, tm, key, av, es⟩ := x
 obtain ⟨p, c, e9, _, _⟩ := hf.1.len
 simp only at e9 hn ht
 subst e9
 unfold It.cells It.plain itForm
 simp only at CE ⊢
 obtain ⟨W0, hW0⟩ : ∃ W0, w.alloc (.cells #[.int .u64 n, .int .u64 tm, .string key, .slice p es.length c] 29) = W0 := ⟨_, rfl⟩
 have k0 : Old w W0 := by rw [← hW0]; exact (Keeps.refl _ _).alloc _
 have b0 : W0.heap[w.heap.size]? = some (.cells #[.int .u64 n, .int .u64 tm, .string key, .slice p es.length c] 29 (0, 0)) := by rw [← hW0]; exact heap_alloc_new _ _
 have HB := Lib.hid (And.intro (h.old k0) (And.intro k0 (And.intro b0 (And.intro hn (And.intro ht (And.intro hl hB))))))
 have f1 := form_le10 hn
 have f2 := form_le10 ht
 clear k0 b0 h hf hne hok hev hn ht hl
 go_enter Tryz.func83, Tryz.ntmps83
 go_wp2_with fail
 refine wp_region_g (S := fun W' => K8 B W0 W') (M := List.range 11) (by kernel_rfl) ?_
 have hS : K8 B W0 W0.drew := (Keeps.refl _ _).drew
 refine wpAnyG_takeL (i := 0) (oi := _) (v := ?va0) rfl (by kernel_rfl) (by kernel_rfl) (by kernel_rfl) (by kernel_rfl) (fun _ _ _ h => h) (Or.inl ⟨by rfl, ?ya0⟩) hS ?ra0
 case ya0 => (intro W hSw; go_simp; try with_reducible rfl)
 try simp only [Act.put, List.setIfInBounds_toArray, List.set_cons_zero, List.set_cons_succ]
 refine wpAnyG_takeL (i := 1) (oi := _) (v := ?va1) rfl (by kernel_rfl) (by kernel_rfl) (by kernel_rfl) (by kernel_rfl) (fun _ _ _ h => h) (Or.inl ⟨by rfl, ?ya1⟩) hS ?ra1
 case ya1 => (intro W hSw; go_simp; try with_reducible rfl)
 try simp only [Act.put, List.setIfInBounds_toArray, List.set_cons_zero, List.set_cons_succ]
 refine wpAnyG_takeL (i := 2) (oi := _) (v := ?va2) rfl (by kernel_rfl) (by kernel_rfl) (by kernel_rfl) (by kernel_rfl) (fun _ _ _ h => h) (Or.inl ⟨by rfl, ?ya2⟩) hS ?ra2
 case ya2 => (intro W hSw; have tt := blk4 (K8.block hSw HB.out.2.2.1 (by decide)); go_simp; try with_reducible rfl)
 try simp only [Act.put, List.setIfInBounds_toArray, List.set_cons_zero, List.set_cons_succ]
 refine wpAnyG_takeL (i := 4) (oi := _) (v := ?va4) rfl (by kernel_rfl) (by kernel_rfl) (by kernel_rfl) (by kernel_rfl) (fun _ _ _ h => h) (Or.inl ⟨by rfl, ?ya4⟩) hS ?ra4
 case ya4 => (intro W hSw; go_simp; try with_reducible rfl)
 try simp only [Act.put, List.setIfInBounds_toArray, List.set_cons_zero, List.set_cons_succ]
 refine wpAnyG_takeL (i := 5) (oi := _) (v := ?va5) rfl (by kernel_rfl) (by kernel_rfl) (by kernel_rfl) (by kernel_rfl) (fun _ _ _ h => h) (Or.inl ⟨by rfl, ?ya5⟩) hS ?ra5
 case ya5 => (intro W hSw; have tt := blk4 (K8.block hSw HB.out.2.2.1 (by decide)); go_simp; try with_reducible rfl)
 try simp only [Act.put, List.setIfInBounds_toArray, List.set_cons_zero, List.set_cons_succ]
 refine wpAnyG_takeL (i := 7) (oi := _) (v := ?va7) rfl (by kernel_rfl) (by kernel_rfl) (by kernel_rfl) (by kernel_rfl) (fun _ _ _ h => h) (Or.inl ⟨by rfl, ?ya7⟩) hS ?ra7
 case ya7 => (intro W hSw; go_simp; try with_reducible rfl)
 try simp only [Act.put, List.setIfInBounds_toArray, List.set_cons_zero, List.set_cons_succ]
 refine wpAnyG_takeL (i := 8) (oi := _) (v := ?va8) rfl (by kernel_rfl) (by kernel_rfl) (by kernel_rfl) (by kernel_rfl) (fun _ _ _ h => h) (Or.inl ⟨by rfl, ?ya8⟩) hS ?ra8
 case ya8 => (intro W hSw; have tt := blk4 (K8.block hSw HB.out.2.2.1 (by decide)); go_simp; try with_reducible rfl)
 try simp only [Act.put, List.setIfInBounds_toArray, List.set_cons_zero, List.set_cons_succ]
 refine wpAnyG_onlyL (i := 3) (o := _) (by kernel_rfl) rfl (fun K hK => ?_)
 go_simp
 refine (ref7_num_any _ l n B _ (HB.out.1.old (Keeps.refl _ _).drew) (by have := HB.out.2.2.2.2.2.1; omega) HB.out.2.2.2.1 (Nat.le_trans HB.out.2.2.2.2.2.2 (show w.heap.size ≤ W0.drew.heap.size from HB.out.2.1.size))).mono ?_
 rintro e w1 ⟨p1, n1, c1, rfl, ho1, k1⟩
 have hS1 : K8 B W0 w1 := hS.trans k1
 have z1 := k1.size
 clear k1
 go_wp2_with fail
 refine hK.out _ _ (fun _ => hS1) ?_
 clear hK K
 try simp only [Act.put, List.setIfInBounds_toArray, List.set_cons_zero, List.set_cons_succ]
 refine wpAnyG_onlyL (i := 6) (o := _) (by kernel_rfl) rfl (fun K hK => ?_)
 go_simp
 refine (ref7_num_any _ _ tm B _ ho1 (by have := HB.out.2.2.2.2.2.1; simp only [List.length_append]; omega) HB.out.2.2.2.2.1 (Nat.le_trans (Nat.le_trans HB.out.2.2.2.2.2.2 HB.out.2.1.size) hS1.size)).mono ?_
 rintro e w2 ⟨p2, n2, c2, rfl, ho2, k2⟩
 have hS2 : K8 B W0 w2 := hS1.trans k2
 clear k2
 go_wp2_with fail
 refine hK.out _ _ (fun _ => hS2) ?_
 clear hK K
 try simp only [Act.put, List.setIfInBounds_toArray, List.set_cons_zero, List.set_cons_succ]
 refine wpAnyG_onlyL (i := 9) (o := _) (by kernel_rfl) rfl (fun K hK => ?_)
 go_simp
 refine (CE.out _ _ _ ho2 (by have := HB.out.2.2.2.2.2.1; simp only [List.length_append]; omega) ((K8.old HB.out.2.1).trans hS2)).mono ?_
 rintro e w3 ⟨p3, n3, c3, rfl, ho3, k3⟩
 have hS3 : K8 B W0 w3 := hS2.trans k3
 clear k3
 go_wp2_with fail
 refine hK.out _ _ (fun _ => hS3) ?_
 clear hK K
 try simp only [Act.put, List.setIfInBounds_toArray, List.set_cons_zero, List.set_cons_succ]
 refine wpAnyG_takeL (i := 10) (oi := _) (v := ?va10) rfl (by kernel_rfl) (by kernel_rfl) (by kernel_rfl) (by kernel_rfl) (fun _ _ _ h => h) (Or.inl ⟨by rfl, ?ya10⟩) hS3 ?ra10
 case ya10 => (intro W hSw; go_simp; try with_reducible rfl)
 try simp only [Act.put, List.setIfInBounds_toArray, List.set_cons_zero, List.set_cons_succ]
 refine wpAnyG_done (by kernel_rfl) ?_ _
 go_simp
 go_wp2_with fail
 go_ret
 refine gro rfl (by simpa [List.append_assoc] using ho3) ((K8.old HB.out.2.1).trans hS3)

set_option maxRecDepth 100000 in
theorem ref_put_item_v (x : It) (w : World) (hf : x.fine w) : Calls Tryz.prog 34 #[.agg x.cells.toArray] w (PutV (itOk x.plain) (itForm x.plain) w) := by
 have CM := Lib.hid (fun W (k : Old w W) => ref_may_item_any x W (It.fine.old hf k))
 have CI := Lib.hid (fun W (k : Old w W) (hok : itOk x.plain = true) => ref7_item_any (.slice none 0 0) [] x W.heap.size W (Owns.nil _ _) (by simp) (It.fine.old hf k) (fun h0 b hb => Nat.lt_of_lt_of_le (hf.2.1 h0 b hb) k.size) hok (Nat.le_refl _))
 obtain ⟨n, tm, key, av, es⟩ := x
 obtain ⟨p, c, e9, _, _⟩ := hf.1.len
 simp only at e9
 subst e9
 unfold It.cells at CM CI ⊢
 simp only at CM CI ⊢
 generalize It.plain ⟨n, tm, key, .slice p es.length c, es⟩ = x at CM CI ⊢
 obtain ⟨W0, hW0⟩ : ∃ W0, w.alloc (.cells #[.int .u64 n, .int .u64 tm, .string key, .slice p es.length c] 29) = W0 := ⟨_, rfl⟩
 have k0 : Old w W0 := by rw [← hW0]; exact (Keeps.refl _ _).alloc _
 have b0 : W0.heap[w.heap.size]? = some (.cells #[.int .u64 n, .int .u64 tm, .string key, .slice p es.length c] 29 (0, 0)) := by rw [← hW0]; exact heap_alloc_new _ _
 have g0 := blk4 b0
 have H := Lib.hid (And.intro k0 b0)
 clear hf k0 b0
 go_enter Tryz.func34, Tryz.ntmps34
 go_wp2_with fail
 refine (CM.out _ H.out.1).mono ?_
 rintro e w1 ⟨rfl, k1⟩
 have b1 := (k1.block _ (lt_of_heap H.out.2) (fun f => f)).trans H.out.2
 clear g0
 have g1 := blk4 b1
 have K1 := Lib.hid (H.out.1.trans k1)
 clear k1 b1
 cases hok : itOk x
 ·have HK := Lib.hid hok
  go_wp2_with fail
  go_ret2
  rw [HK.out]
  exact PutV.no ⟨rfl, K1.out⟩
 ·have HK := Lib.hid hok
  have HO := Lib.hid (CI.out _ K1.out hok)
  clear hok
  go_wp2_with fail
  refine HO.out.mono ?_
  rintro e w2 ⟨p2, n2, c2, rfl, ho2, k2⟩
  have R := Lib.hid (And.intro ho2 (K8.to_old k2))
  clear ho2 k2
  go_wp2_with fail
  go_ret2
  rw [HK.out]
  exact PutV.yes ⟨_, _, _, rfl, by simpa using R.out.1.mono K1.out.size, K1.out.trans R.out.2⟩
end Go.Proofs.YtpjpimahnnekkaaGreat
