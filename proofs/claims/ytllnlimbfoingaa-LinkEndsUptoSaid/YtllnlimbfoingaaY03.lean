/- DERIVED. Chapter 20, plain: an end, two ends, what is sent and told. -/
namespace Go.Proofs.Ytllnlimbfoingaa

abbrev Bs := List UInt8
structure Pk where
 src : Nat
 dst : Nat
 seq : Nat
 ack : Nat
 data : Bs
/-- an end -/
structure En where
 life : Nat
 peer : Nat
 waits : List Bs
 win : List (Nat × Bs)
 last : Nat
 next : Nat
 again : Bool
 owes : Bool
 heard : Bool
def En.new (life : Nat) : En := ⟨life, 0, [], [], 0, 1, false, true, false⟩
def En.anew (e : En) (peer : Nat) : En := ⟨e.life, peer, [], [], 0, 1, false, true, false⟩
def En.send (e : En) (d : Bs) : En := { e with waits := e.waits ++ [d] }
def En.tick (e : En) : En := { e with again := true, owes := e.owes || !e.heard }
/-- the end that takes: begun anew, if it must -/
def En.begun (e : En) (p : Pk) : En := if e.peer < p.src then e.anew p.src else e
def En.acked (e : En) (ack : Nat) : En := { e with heard := true, win := e.win.filter fun f => decide (min ack (e.last + 1) ≤ f.1) }
/-- what is taken -/
def En.take (e : En) (p : Pk) : En × Option Bs :=
 if p.src = 0 ∨ p.src < e.peer then (e, none)
 else if p.dst ≠ (e.begun p).life then ({ e.begun p with owes := true }, none)
 else if p.seq = 0 then ((e.begun p).acked p.ack, none)
 else if p.seq ≠ (e.begun p).next then ({ (e.begun p).acked p.ack with owes := true }, none)
 else ({ (e.begun p).acked p.ack with owes := true, next := (e.begun p).next + 1 }, some p.data)
/-- how many go into the window -/
def En.room (e : En) : Nat := min (8 - e.win.length) e.waits.length
def En.fresh (e : En) : List (Nat × Bs) := (e.waits.take e.room).zipIdx.map fun x => (e.last + 1 + x.2, x.1)
def En.pkt (e : En) (f : Nat × Bs) : Pk := ⟨e.life, e.peer, f.1, e.next, f.2⟩
def En.outs (e : En) : List Pk :=
 let l := ((if e.again then e.win else []) ++ e.fresh).map e.pkt
 if l.isEmpty && e.owes then [e.pkt (0, [])] else l
def En.out (e : En) : En := { e with win := e.win ++ e.fresh, waits := e.waits.drop e.room, last := e.last + e.room, again := false, owes := false }

/-- two ends, the packets on their way to each, what was sent and told, by sessions -/
structure Wd where
 e : Bool → En
 way : Bool → List Pk
 sent : Bool → Nat × Nat → List Bs
 told : Bool → Nat × Nat → List Bs
def upd {α : Type} (f : Bool → α) (i : Bool) (v : α) : Bool → α := fun j => if j = i then v else f j
@[simp] theorem upd_same {α : Type} (f : Bool → α) (i : Bool) (v : α) : upd f i v i = v := by simp [upd]
@[simp] theorem upd_not {α : Type} (f : Bool → α) (i : Bool) (v : α) : upd f i v (!i) = f (!i) := by simp [upd]
abbrev En.key (e : En) : Nat × Nat := (e.life, e.peer)
def putKey (f : Nat × Nat → List Bs) (k : Nat × Nat) (m : Bs) : Nat × Nat → List Bs := fun q => if q = k then f k ++ [m] else f q
def Wd.take (w : Wd) (i : Bool) (p : Pk) : Wd × Bool :=
 match (w.e i).take p with
 | (e', none) => ({ w with e := upd w.e i e' }, true)
 | (e', some m) => ({ w with e := upd w.e i e', told := upd w.told i (putKey (w.told i) e'.key m) },
   decide ((w.sent (!i) (e'.peer, e'.life))[(w.told i e'.key).length]? = some m))
structure Stp where
 what : Int
 i : Bool
 which : Nat
 b : Bs
def Wd.step (w : Wd) (x : Stp) : Wd × Bool :=
 let s := w.e x.i
 let at_ := x.which % (w.way x.i).length
 let little (w : Wd) : Wd × Bool := (w, decide ((w.e x.i).win.length ≤ 8))
 if x.what = 0 then
  if s.peer = 0 then little w else little { w with e := upd w.e x.i (s.send x.b), sent := upd w.sent x.i (putKey (w.sent x.i) s.key x.b) }
 else if x.what = 1 then little { w with e := upd w.e x.i s.tick }
 else if x.what = 2 then little { w with e := upd w.e x.i s.out, way := upd w.way (!x.i) (w.way (!x.i) ++ s.outs) }
 else if x.what = 3 ∨ x.what = 4 then
  match (w.way x.i)[at_]? with
  | none => little w
  | some p => Wd.take (if x.what = 3 then { w with way := upd w.way x.i ((w.way x.i).eraseIdx at_) } else w) x.i p
 else if x.what = 5 then little { w with way := upd w.way x.i ((w.way x.i).eraseIdx at_) }
 else if x.what = 6 then little { w with e := upd w.e x.i (En.new (s.life + 1)) }
 else little w
def Wd.fresh : Wd := ⟨fun _ => En.new 1, fun _ => [], fun _ _ => [], fun _ _ => []⟩

/-- the numbers from g + 1 on -/
def winOf (l : List Bs) (g n : Nat) : List (Nat × Bs) := (List.range' (g + 1) n).map fun s => (s, (l[s - 1]?).getD [])

/-- what holds of end i -/
structure EInv (w : Wd) (i : Bool) : Prop where
 born : 1 ≤ (w.e i).life
 peer : (w.e i).peer ≤ (w.e (!i)).life
 next : (w.e i).next = (w.told i ((w.e i).life, (w.e i).peer)).length + 1
 waits : (w.e i).waits = (w.sent i ((w.e i).life, (w.e i).peer)).drop (w.e i).last
 last : (w.e i).last ≤ (w.sent i ((w.e i).life, (w.e i).peer)).length
 win : ∃ g, g ≤ (w.e i).last ∧ (w.e i).last - g ≤ 8 ∧ g ≤ (w.told (!i) ((w.e i).peer, (w.e i).life)).length ∧ (w.e i).win = winOf (w.sent i ((w.e i).life, (w.e i).peer)) g ((w.e i).last - g)
 pre : ∀ L P, w.told i (L, P) <+: w.sent (!i) (P, L)
 far : ∀ L P, (w.e i).life < L → w.sent i (L, P) = [] ∧ w.told i (L, P) = []
 far2 : ∀ P, (w.e i).peer < P → w.sent i ((w.e i).life, P) = [] ∧ w.told i ((w.e i).life, P) = []
 none : ∀ L, w.sent i (L, 0) = [] ∧ w.told i (L, 0) = []
 way : ∀ p ∈ w.way i, 1 ≤ p.src ∧ p.src ≤ (w.e (!i)).life ∧ p.dst ≤ (w.e i).life ∧ (p.src = (w.e (!i)).life → p.dst ≤ (w.e (!i)).peer) ∧
  (p.seq ≠ 0 → (w.sent (!i) (p.src, p.dst))[p.seq - 1]? = some p.data) ∧ p.ack ≤ (w.told (!i) (p.src, p.dst)).length + 1
 heard : (w.e i).heard = true → (w.e i).peer = (w.e (!i)).life → (w.e (!i)).peer = (w.e i).life
/-- which of the two began anew last -/
def Young (w : Wd) (j : Bool) : Prop := (∀ p ∈ w.way j, p.dst = (w.e j).life → p.src = (w.e (!j)).life) ∧ ((w.e j).heard = true → (w.e j).peer = (w.e (!j)).life)
def Inv (w : Wd) (j : Bool) : Prop := (∀ i, EInv w i) ∧ Young w j


@[simp] theorem upd_nots {α : Type} (f : Bool → α) (i : Bool) (v : α) : upd f (!i) v i = f i := by simp [upd]
theorem side (i j : Bool) : j = i ∨ j = !i := by cases i <;> cases j <;> simp
theorem both {p : Bool → Prop} (i : Bool) (h1 : p i) (h2 : p (!i)) : ∀ j, p j := fun j => by rcases side i j with rfl | rfl; exact h1; exact h2

@[simp] theorem putKey_same (f : Nat × Nat → List Bs) (k : Nat × Nat) (m : Bs) : putKey f k m k = f k ++ [m] := by simp [putKey]
theorem putKey_ne {f : Nat × Nat → List Bs} {k q : Nat × Nat} {m : Bs} (h : q ≠ k) : putKey f k m q = f q := by simp [putKey, h]
theorem putKey_pre (f : Nat × Nat → List Bs) (k q : Nat × Nat) (m : Bs) : f q <+: putKey f k m q := by
 unfold putKey
 split
 ·rename_i h; subst h; exact List.prefix_append _ _
 ·exact List.prefix_refl _
theorem pre_get {l m : List Bs} (h : l <+: m) {j : Nat} {x : Bs} (hx : l[j]? = some x) : m[j]? = some x := by
 obtain ⟨t, rfl⟩ := h
 rw [List.getElem?_append_left (List.getElem?_eq_some_iff.1 hx).1]
 exact hx
theorem pre_len {l m : List Bs} (h : l <+: m) : l.length ≤ m.length := by obtain ⟨t, rfl⟩ := h; simp
theorem winOf_pre {l m : List Bs} (h : l <+: m) {g n : Nat} (hn : g + n ≤ l.length) : winOf m g n = winOf l g n := by
 unfold winOf
 apply List.map_congr_left
 intro s hs
 rw [List.mem_range'_1] at hs
 obtain ⟨t, rfl⟩ := h
 rw [List.getElem?_append_left (by omega)]

/-- a packet as it may be on its way to i -/
def Good (w : Wd) (i : Bool) (p : Pk) : Prop := 1 ≤ p.src ∧ p.src ≤ (w.e (!i)).life ∧ p.dst ≤ (w.e i).life ∧ (p.src = (w.e (!i)).life → p.dst ≤ (w.e (!i)).peer) ∧
  (p.seq ≠ 0 → (w.sent (!i) (p.src, p.dst))[p.seq - 1]? = some p.data) ∧ p.ack ≤ (w.told (!i) (p.src, p.dst)).length + 1

theorem Good.mono {w w' : Wd} {i : Bool} {p : Pk} (h : Good w i p) (h1 : (w.e (!i)).life = (w'.e (!i)).life) (h2 : (w.e i).life ≤ (w'.e i).life) (h3 : (w.e (!i)).peer ≤ (w'.e (!i)).peer)
  (h4 : ∀ q, w.sent (!i) q <+: w'.sent (!i) q) (h5 : ∀ q, w.told (!i) q <+: w'.told (!i) q) : Good w' i p :=
 ⟨h.1, by have := h.2.1; omega, by have := h.2.2.1; omega, fun e => Nat.le_trans (h.2.2.2.1 (by omega)) h3, fun e => pre_get (h4 _) (h.2.2.2.2.1 e), Nat.le_trans h.2.2.2.2.2 (by have := pre_len (h5 (p.src, p.dst)); omega)⟩

/-- the packets on their way may become fewer -/
theorem Inv.less {w : Wd} {j : Bool} (h : Inv w j) (i : Bool) (l : List Pk) (hl : ∀ p ∈ l, p ∈ w.way i) : Inv { w with way := upd w.way i l } j := by
 refine ⟨both i ?_ ?_, ?_⟩
 ·have := h.1 i
  exact ⟨this.born, this.peer, this.next, this.waits, this.last, this.win, this.pre, this.far, this.far2, this.none, by simp only [upd_same]; exact fun p hp => this.way p (hl p hp), this.heard⟩
 ·have := h.1 (!i)
  exact ⟨this.born, this.peer, this.next, this.waits, this.last, this.win, this.pre, this.far, this.far2, this.none, by simp only [upd_not]; exact this.way, this.heard⟩
 ·have hj := h.2
  refine ⟨?_, hj.2⟩
  intro p hp
  rcases side i j with rfl | rfl
  ·simp only [upd_same] at hp; exact hj.1 p (hl p hp)
  ·simp only [upd_not] at hp; exact hj.1 p hp

/-- an end's marks alone turn -/
theorem Inv.marks {w : Wd} {j : Bool} (h : Inv w j) (i : Bool) (a o : Bool) : Inv { w with e := upd w.e i { w.e i with again := a, owes := o } } j := by
 refine ⟨both i ?_ ?_, ?_⟩
 ·have k := h.1 i
  constructor <;> simp only [upd_same, upd_not]
  ·exact k.born
  ·exact k.peer
  ·exact k.next
  ·exact k.waits
  ·exact k.last
  ·exact k.win
  ·exact k.pre
  ·exact k.far
  ·exact k.far2
  ·exact k.none
  ·exact k.way
  ·exact k.heard
 ·have k := h.1 (!i)
  constructor <;> simp only [upd_same, upd_not, Bool.not_not]
  ·exact k.born
  ·simpa using k.peer
  ·exact k.next
  ·exact k.waits
  ·exact k.last
  ·simpa using k.win
  ·simpa using k.pre
  ·exact k.far
  ·exact k.far2
  ·exact k.none
  ·simpa using k.way
  ·simpa using k.heard
 ·have hj := h.2
  unfold Young at hj ⊢
  rcases side i j with rfl | rfl <;> simpa using hj
theorem Inv.tick {w : Wd} {j : Bool} (h : Inv w j) (i : Bool) : Inv { w with e := upd w.e i (w.e i).tick } j := h.marks i true _

/-- an end starts anew -/
theorem Inv.born {w : Wd} {j : Bool} (h : Inv w j) (i : Bool) : Inv { w with e := upd w.e i (En.new ((w.e i).life + 1)) } i := by
 have ki := h.1 i
 have ko := h.1 (!i)
 refine ⟨both i ?_ ?_, ?_⟩
 ·constructor <;> simp only [upd_same, upd_not, En.new]
  ·omega
  ·omega
  ·rw [(ki.none _).2]; rfl
  ·rw [(ki.none _).1]; rfl
  ·omega
  ·exact ⟨0, by omega, by omega, by omega, rfl⟩
  ·exact ki.pre
  ·exact fun L P hL => ki.far L P (by omega)
  ·exact fun P _ => ki.far _ P (by omega)
  ·exact ki.none
  ·intro p hp
   have := ki.way p hp
   exact ⟨this.1, this.2.1, by omega, this.2.2.2⟩
  ·intro hh; cases hh
 ·have kop := ko.peer
  have koh := ko.heard
  have kow := ko.win
  have kopre := ko.pre
  have koway := ko.way
  simp only [Bool.not_not] at kop koh kow kopre koway
  constructor <;> simp only [upd_same, upd_not, En.new, Bool.not_not]
  ·exact ko.born
  ·omega
  ·exact ko.next
  ·exact ko.waits
  ·exact ko.last
  ·exact kow
  ·exact kopre
  ·exact ko.far
  ·exact ko.far2
  ·exact ko.none
  ·intro p hp
   have := koway p hp
   exact ⟨this.1, by omega, this.2.2.1, fun e => by omega, this.2.2.2.2⟩
  ·intro _ e; omega
 ·constructor <;> simp only [upd_same, upd_not, En.new]
  ·intro p hp e
   have := (ki.way p hp).2.2.1
   omega
  ·intro hh; cases hh

/-- an end sends -/
theorem Inv.send {w : Wd} {j : Bool} (h : Inv w j) (i : Bool) (m : Bs) (hp : (w.e i).peer ≠ 0) : Inv { w with e := upd w.e i ((w.e i).send m), sent := upd w.sent i (putKey (w.sent i) (w.e i).key m) } j := by
 have ki := h.1 i
 have ko := h.1 (!i)
 have kop := ko.peer
 have koh := ko.heard
 have kow := ko.win
 have kopre := ko.pre
 have koway := ko.way
 simp only [Bool.not_not] at kop koh kow kopre koway
 have hpk := putKey_pre (w.sent i) (w.e i).key
 refine ⟨both i ?_ ?_, ?_⟩
 ·constructor <;> simp only [upd_same, upd_not, En.key, En.send]
  ·exact ki.born
  ·exact ki.peer
  ·exact ki.next
  ·rw [putKey_same, List.drop_append_of_le_length ki.last, ← ki.waits]
  ·rw [putKey_same]; have := ki.last; simp; omega
  ·obtain ⟨g, h1, h2, h3, h4⟩ := ki.win
   exact ⟨g, h1, h2, h3, by rw [h4, ← winOf_pre (hpk _ m) (by have := ki.last; omega)]⟩
  ·exact ki.pre
  ·intro L P hL
   rw [putKey_ne (by intro e; injection e; omega)]
   exact ki.far L P hL
  ·intro P hP
   rw [putKey_ne (by intro e; injection e; omega)]
   exact ki.far2 P hP
  ·intro L
   rw [putKey_ne (by intro e; injection e; omega)]
   exact ki.none L
  ·exact ki.way
  ·exact ki.heard
 ·constructor <;> simp only [upd_same, upd_not, En.key, En.send, Bool.not_not]
  ·exact ko.born
  ·exact kop
  ·exact ko.next
  ·exact ko.waits
  ·exact ko.last
  ·exact kow
  ·exact fun L P => (kopre L P).trans (hpk _ m)
  ·exact ko.far
  ·exact ko.far2
  ·exact ko.none
  ·intro p hp'
   have := koway p hp'
   exact ⟨this.1, this.2.1, this.2.2.1, this.2.2.2.1, fun e => pre_get (hpk _ m) (this.2.2.2.2.1 e), this.2.2.2.2.2⟩
  ·exact koh
 ·have hj := h.2
  unfold Young at hj ⊢
  rcases side i j with rfl | rfl <;> simpa [En.send] using hj

theorem winOf_len (l : List Bs) (g n : Nat) : (winOf l g n).length = n := by simp [winOf]
theorem winOf_add (l : List Bs) (g n k : Nat) : winOf l g (n + k) = winOf l g n ++ (List.range' (g + n + 1) k).map fun s => (s, (l[s - 1]?).getD []) := by
 unfold winOf
 rw [← List.map_append, show g + n + 1 = g + 1 + n by omega, List.range'_append_1]
theorem fresh_eq {e : En} {l : List Bs} (hw : e.waits = l.drop e.last) (hl : e.last ≤ l.length) : e.fresh = (List.range' (e.last + 1) e.room).map fun s => (s, (l[s - 1]?).getD []) := by
 have hr : e.room ≤ l.length - e.last := by
  unfold En.room
  rw [hw, List.length_drop]
  omega
 unfold En.fresh
 generalize e.room = r at hr
 rw [hw]
 apply List.ext_getElem
 ·simp; omega
 ·intro j h1 h2
  simp at h2
  simp
  rw [List.getElem?_eq_getElem (by omega)]
  rfl
theorem mem_winOf {l : List Bs} {g n : Nat} {f : Nat × Bs} (h : f ∈ winOf l g n) (hn : g + n ≤ l.length) : 1 ≤ f.1 ∧ l[f.1 - 1]? = some f.2 := by
 unfold winOf at h
 obtain ⟨s, hs, rfl⟩ := List.mem_map.1 h
 rw [List.mem_range'_1] at hs
 refine ⟨by simp; omega, ?_⟩
 simp only
 rw [List.getElem?_eq_getElem (by omega)]
 rfl
theorem out_win {e : En} {l : List Bs} {g : Nat} (hw : e.waits = l.drop e.last) (hl : e.last ≤ l.length) (hg : g ≤ e.last) (h : e.win = winOf l g (e.last - g)) : e.win ++ e.fresh = winOf l g (e.last + e.room - g) := by
 rw [show e.last + e.room - g = (e.last - g) + e.room by omega, winOf_add, h, fresh_eq hw hl, show g + (e.last - g) + 1 = e.last + 1 by omega]
theorem room_le {e : En} {l : List Bs} (hw : e.waits = l.drop e.last) (hl : e.last ≤ l.length) : e.last + e.room ≤ l.length := by
 unfold En.room
 rw [hw, List.length_drop]
 omega

theorem outs_mem {e : En} {p : Pk} (h : p ∈ e.outs) : p = e.pkt (0, []) ∨ ∃ f ∈ e.win ++ e.fresh, p = e.pkt f := by
 unfold En.outs at h
 dsimp only at h
 have hA : ∀ f ∈ (if e.again = true then e.win else []), f ∈ e.win := by
  intro f hf
  split at hf
  ·exact hf
  ·cases hf
 generalize (if e.again = true then e.win else []) = A at h hA
 split at h
 ·exact .inl (List.mem_singleton.1 h)
 ·obtain ⟨f, hf, rfl⟩ := List.mem_map.1 h
  refine .inr ⟨f, ?_, rfl⟩
  rcases List.mem_append.1 hf with hf | hf
  ·exact List.mem_append_left _ (hA f hf)
  ·exact List.mem_append_right _ hf

/-- what goes out is good -/
theorem Inv.outs {w : Wd} {j : Bool} (h : Inv w j) (i : Bool) : ∀ p ∈ (w.e i).outs, Good w (!i) p ∧ p.src = (w.e i).life ∧ p.dst = (w.e i).peer := by
 have ki := h.1 i
 intro p hp
 obtain ⟨g, h1, h2, h3, h4⟩ := ki.win
 have hw := out_win ki.waits ki.last h1 h4
 have hr := room_le ki.waits ki.last
 have key : ∀ f, p = (w.e i).pkt f → (f.1 ≠ 0 → (w.sent i ((w.e i).life, (w.e i).peer))[f.1 - 1]? = some f.2) → Good w (!i) p ∧ p.src = (w.e i).life ∧ p.dst = (w.e i).peer := by
  intro f hf hs
  subst hf
  unfold Good En.pkt
  dsimp only
  rw [Bool.not_not]
  exact ⟨⟨ki.born, Nat.le_refl _, ki.peer, fun _ => Nat.le_refl _, hs, by rw [ki.next]; exact Nat.le_refl _⟩, rfl, rfl⟩
 rcases outs_mem hp with hp | ⟨f, hf, hp⟩
 ·exact key _ hp (fun e => absurd rfl e)
 ·rw [hw] at hf
  exact key _ hp (fun _ => (mem_winOf hf (by omega)).2)
theorem Inv.outE {w : Wd} {j : Bool} (h : Inv w j) (i : Bool) : Inv { w with e := upd w.e i (w.e i).out } j := by
 have ki := h.1 i
 have ko := h.1 (!i)
 have kop := ko.peer
 have koh := ko.heard
 have kow := ko.win
 have kopre := ko.pre
 have koway := ko.way
 simp only [Bool.not_not] at kop koh kow kopre koway
 refine ⟨both i ?_ ?_, ?_⟩
 ·obtain ⟨g, h1, h2, h3, h4⟩ := ki.win
  have hw := out_win ki.waits ki.last h1 h4
  have hr := room_le ki.waits ki.last
  have hwl : (w.e i).win.length = (w.e i).last - g := by rw [h4, winOf_len]
  constructor <;> simp only [upd_same, upd_not, En.out]
  ·exact ki.born
  ·exact ki.peer
  ·exact ki.next
  ·rw [ki.waits, List.drop_drop]
  ·exact hr
  ·exact ⟨g, by omega, by unfold En.room at hr ⊢; omega, h3, hw⟩
  ·exact ki.pre
  ·exact ki.far
  ·exact ki.far2
  ·exact ki.none
  ·exact ki.way
  ·exact ki.heard
 ·constructor <;> simp only [upd_same, upd_not, En.out, Bool.not_not]
  ·exact ko.born
  ·exact kop
  ·exact ko.next
  ·exact ko.waits
  ·exact ko.last
  ·exact kow
  ·exact kopre
  ·exact ko.far
  ·exact ko.far2
  ·exact ko.none
  ·exact koway
  ·exact koh
 ·have hj := h.2
  unfold Young at hj ⊢
  rcases side i j with rfl | rfl <;> simpa [En.out] using hj
/-- good packets from this life come upon the way -/
theorem Inv.more {w : Wd} {j : Bool} (h : Inv w j) (i : Bool) (l : List Pk) (hl : ∀ p ∈ l, Good w i p ∧ p.src = (w.e (!i)).life) : Inv { w with way := upd w.way i (w.way i ++ l) } j := by
 refine ⟨both i ?_ ?_, ?_⟩
 ·have := h.1 i
  refine ⟨this.born, this.peer, this.next, this.waits, this.last, this.win, this.pre, this.far, this.far2, this.none, ?_, this.heard⟩
  simp only [upd_same]
  intro p hp
  rcases List.mem_append.1 hp with hp | hp
  ·exact this.way p hp
  ·exact (hl p hp).1
 ·have := h.1 (!i)
  exact ⟨this.born, this.peer, this.next, this.waits, this.last, this.win, this.pre, this.far, this.far2, this.none, by simp only [upd_not]; exact this.way, this.heard⟩
 ·have hj := h.2
  refine ⟨?_, hj.2⟩
  intro p hp
  rcases side i j with rfl | rfl
  ·simp only [upd_same] at hp
   rcases List.mem_append.1 hp with hp | hp
   ·exact hj.1 p hp
   ·exact fun _ => (hl p hp).2
  ·simp only [upd_not] at hp; exact hj.1 p hp
theorem Inv.out {w : Wd} {j : Bool} (h : Inv w j) (i : Bool) : Inv { w with e := upd w.e i (w.e i).out, way := upd w.way (!i) (w.way (!i) ++ (w.e i).outs) } j := by
 have hg := h.outs i
 refine (h.outE i).more (!i) _ fun p hp => ?_
 obtain ⟨h1, h2, h3⟩ := hg p hp
 simp only [Bool.not_not, upd_same]
 refine ⟨?_, h2⟩
 refine h1.mono ?_ ?_ ?_ (fun q => List.prefix_refl _) (fun q => List.prefix_refl _) <;> simp [En.out]

theorem upd_self {α : Type} (f : Bool → α) (i : Bool) : upd f i (f i) = f := by funext j; unfold upd; split <;> simp_all
theorem upd_upd {α : Type} (f : Bool → α) (i : Bool) (x y : α) : upd (upd f i x) i y = upd f i y := by funext j; unfold upd; split <;> simp_all
theorem pre_snoc {l m : List Bs} {x : Bs} (h : l <+: m) (hx : m[l.length]? = some x) : l ++ [x] <+: m := by
 obtain ⟨t, rfl⟩ := h
 rw [List.getElem?_append_right (Nat.le_refl _), Nat.sub_self] at hx
 cases t with
 | nil => cases hx
 | cons y t =>
  simp only [List.getElem?_cons_zero, Option.some.injEq] at hx
  subst hx
  exact ⟨t, by simp⟩
theorem winOf_filter (l : List Bs) (g n a : Nat) : ∃ h, g ≤ h ∧ h ≤ g + n ∧ h ≤ max g (a - 1) ∧ (winOf l g n).filter (fun f => decide (a ≤ f.1)) = winOf l h (g + n - h) := by
 refine ⟨min (g + n) (max g (a - 1)), by omega, by omega, by omega, ?_⟩
 unfold winOf
 rw [List.filter_map]
 congr 1
 have hf : ((fun f : Nat × Bs => decide (a ≤ f.1)) ∘ fun s => (s, (l[s - 1]?).getD [])) = fun s => decide (a ≤ s) := rfl
 rw [hf]
 clear hf
 induction n generalizing g with
 | zero =>
  rw [show g + 0 - min (g + 0) (max g (a - 1)) = 0 by omega]
  rfl
 | succ n ih =>
  rw [List.range'_succ, List.filter_cons]
  have := ih (g + 1)
  rw [this]
  by_cases ha : a ≤ g + 1
  ·simp only [ha, decide_true, if_true]
   rw [show min (g + 1 + n) (max (g + 1) (a - 1)) = g + 1 by omega, show min (g + (n + 1)) (max g (a - 1)) = g by omega, show g + 1 + n - (g + 1) = n by omega, show g + (n + 1) - g = n + 1 by omega, List.range'_succ]
  ·simp only [ha, decide_false]
   rw [show min (g + 1 + n) (max (g + 1) (a - 1)) = min (g + (n + 1)) (max g (a - 1)) by omega, show g + 1 + n = g + (n + 1) by omega]
   rfl

/-- a packet of a greater life came -/
theorem Inv.anew {w : Wd} {j : Bool} (h : Inv w j) (i : Bool) (P : Nat) (h1 : (w.e i).peer < P) (h2 : P ≤ (w.e (!i)).life) : Inv { w with e := upd w.e i ((w.e i).anew P) } j := by
 have ki := h.1 i
 have ko := h.1 (!i)
 have kop := ko.peer
 have koh := ko.heard
 have kow := ko.win
 have kopre := ko.pre
 have koway := ko.way
 simp only [Bool.not_not] at kop koh kow kopre koway
 refine ⟨both i ?_ ?_, ?_⟩
 ·constructor <;> simp only [upd_same, upd_not, En.anew]
  ·exact ki.born
  ·exact h2
  ·rw [(ki.far2 P h1).2]; rfl
  ·rw [(ki.far2 P h1).1]; rfl
  ·omega
  ·exact ⟨0, by omega, by omega, by omega, rfl⟩
  ·exact ki.pre
  ·exact ki.far
  ·exact fun Q hQ => ki.far2 Q (by omega)
  ·exact ki.none
  ·exact ki.way
  ·intro hh; cases hh
 ·constructor <;> simp only [upd_same, upd_not, En.anew, Bool.not_not]
  ·exact ko.born
  ·exact kop
  ·exact ko.next
  ·exact ko.waits
  ·exact ko.last
  ·exact kow
  ·exact kopre
  ·exact ko.far
  ·exact ko.far2
  ·exact ko.none
  ·intro p hp
   have := koway p hp
   exact ⟨this.1, this.2.1, this.2.2.1, fun e => Nat.le_of_lt (Nat.lt_of_le_of_lt (this.2.2.2.1 e) h1), this.2.2.2.2⟩
  ·intro hh e
   have := koh hh e
   omega
 ·have hj := h.2
  unfold Young at hj ⊢
  rcases side i j with rfl | rfl
  ·simp only [upd_same, upd_not, En.anew]
   exact ⟨hj.1, fun hh => by cases hh⟩
  ·simpa [En.anew] using hj
/-- a packet of the session came -/
theorem Inv.acked {w : Wd} {j : Bool} (h : Inv w j) (i : Bool) (a : Nat) (h1 : a ≤ (w.told (!i) ((w.e i).peer, (w.e i).life)).length + 1) (h2 : (w.e i).peer = (w.e (!i)).life → (w.e i).life ≤ (w.e (!i)).peer)
  (h3 : Young w j → j = i → (w.e i).peer = (w.e (!i)).life) : Inv { w with e := upd w.e i ((w.e i).acked a) } j := by
 have ki := h.1 i
 have ko := h.1 (!i)
 have kop := ko.peer
 have koh := ko.heard
 have kow := ko.win
 have kopre := ko.pre
 have koway := ko.way
 simp only [Bool.not_not] at kop koh kow kopre koway
 refine ⟨both i ?_ ?_, ?_⟩
 ·obtain ⟨g, g1, g2, g3, g4⟩ := ki.win
  obtain ⟨q, q1, q2, q3, q4⟩ := winOf_filter (w.sent i ((w.e i).life, (w.e i).peer)) g ((w.e i).last - g) (min a ((w.e i).last + 1))
  constructor <;> simp only [upd_same, upd_not, En.acked]
  ·exact ki.born
  ·exact ki.peer
  ·exact ki.next
  ·exact ki.waits
  ·exact ki.last
  ·exact ⟨q, by omega, by omega, by omega, by rw [g4, q4, show g + ((w.e i).last - g) - q = (w.e i).last - q by omega]⟩
  ·exact ki.pre
  ·exact ki.far
  ·exact ki.far2
  ·exact ki.none
  ·exact ki.way
  ·intro _ e
   have := h2 e
   omega
 ·constructor <;> simp only [upd_same, upd_not, En.acked, Bool.not_not]
  ·exact ko.born
  ·exact kop
  ·exact ko.next
  ·exact ko.waits
  ·exact ko.last
  ·exact kow
  ·exact kopre
  ·exact ko.far
  ·exact ko.far2
  ·exact ko.none
  ·exact koway
  ·exact koh
 ·have hj := h.2
  have h3' := h3 hj
  unfold Young at hj ⊢
  rcases side i j with rfl | rfl
  ·simp only [upd_same, upd_not, En.acked]
   exact ⟨hj.1, fun _ => h3' rfl⟩
  ·simpa [En.acked] using hj
/-- a message is told -/
theorem Inv.tell {w : Wd} {j : Bool} (h : Inv w j) (i : Bool) (m : Bs) (hp : 1 ≤ (w.e i).peer) (hm : (w.sent (!i) ((w.e i).peer, (w.e i).life))[(w.told i ((w.e i).life, (w.e i).peer)).length]? = some m) :
  Inv { w with e := upd w.e i { w.e i with owes := true, next := (w.e i).next + 1 }, told := upd w.told i (putKey (w.told i) (w.e i).key m) } j := by
 have ki := h.1 i
 have ko := h.1 (!i)
 have kop := ko.peer
 have koh := ko.heard
 have kow := ko.win
 have kopre := ko.pre
 have koway := ko.way
 simp only [Bool.not_not] at kop koh kow kopre koway
 have hpk := putKey_pre (w.told i) (w.e i).key
 refine ⟨both i ?_ ?_, ?_⟩
 ·constructor <;> simp only [upd_same, upd_not]
  ·exact ki.born
  ·exact ki.peer
  ·rw [putKey_same, ki.next]; simp
  ·exact ki.waits
  ·exact ki.last
  ·exact ki.win
  ·intro L P
   by_cases e : (L, P) = (w.e i).key
   ·injection e with e1 e2
    subst e1 e2
    rw [putKey_same]
    exact pre_snoc (ki.pre _ _) hm
   ·rw [putKey_ne e]
    exact ki.pre L P
  ·intro L P hL
   rw [putKey_ne (by intro e; injection e; omega)]
   exact ki.far L P hL
  ·intro P hP
   rw [putKey_ne (by intro e; injection e; omega)]
   exact ki.far2 P hP
  ·intro L
   rw [putKey_ne (by intro e; injection e; omega)]
   exact ki.none L
  ·exact ki.way
  ·exact ki.heard
 ·constructor <;> simp only [upd_same, upd_not, Bool.not_not]
  ·exact ko.born
  ·exact kop
  ·exact ko.next
  ·exact ko.waits
  ·exact ko.last
  ·obtain ⟨g, g1, g2, g3, g4⟩ := kow
   exact ⟨g, g1, g2, Nat.le_trans g3 (pre_len (hpk _ m)), g4⟩
  ·exact kopre
  ·exact ko.far
  ·exact ko.far2
  ·exact ko.none
  ·intro p hp'
   have := koway p hp'
   exact ⟨this.1, this.2.1, this.2.2.1, this.2.2.2.1, this.2.2.2.2.1, Nat.le_trans this.2.2.2.2.2 (by have := pre_len (hpk (p.src, p.dst) m); omega)⟩
  ·exact koh
 ·have hj := h.2
  unfold Young at hj ⊢
  rcases side i j with rfl | rfl <;> simpa using hj

theorem Good.same {w : Wd} {i : Bool} {p : Pk} {e : En} (h : Good w i p) (hl : e.life = (w.e i).life) : Good { w with e := upd w.e i e } i p := by
 unfold Good at h ⊢
 simpa [hl] using h
/-- an end takes a packet that is on its way, or comes from the other end's life of now -/
theorem Inv.take {w : Wd} {j : Bool} (h : Inv w j) (i : Bool) (p : Pk) (hg : Good w i p) (hy : p ∈ w.way i ∨ p.src = (w.e (!i)).life) : Inv (w.take i p).1 j ∧ (w.take i p).2 = true ∧ (w.take i p).1.way = w.way ∧ (w.take i p).1.sent = w.sent := by
 have hyg : Young w j → j = i → p.dst = (w.e i).life → p.src = (w.e (!i)).life := by
  rintro hj rfl hd
  rcases hy with hy | hy
  ·exact hj.1 p hy hd
  ·exact hy
 unfold Wd.take En.take
 by_cases c1 : p.src = 0 ∨ p.src < (w.e i).peer
 ·rw [if_pos c1]
  dsimp only
  rw [upd_self]
  exact ⟨h, rfl, rfl, rfl⟩
 rw [if_neg c1]
 have hb : Inv { w with e := upd w.e i ((w.e i).begun p) } j ∧ ((w.e i).begun p).peer = p.src ∧ ((w.e i).begun p).life = (w.e i).life ∧ Good { w with e := upd w.e i ((w.e i).begun p) } i p ∧
   (Young { w with e := upd w.e i ((w.e i).begun p) } j → j = i → p.dst = (w.e i).life → p.src = (w.e (!i)).life) := by
  have hyy : ∀ e : En, e.life = (w.e i).life → Young { w with e := upd w.e i e } j → j = i → p.dst = (w.e i).life → p.src = (w.e (!i)).life := by
   rintro e he hj rfl hd
   rcases hy with hy | hy
   ·have := hj.1 p hy
    simp only [upd_same, upd_not] at this
    exact this (by omega)
   ·exact hy
  unfold En.begun
  split
  ·rename_i hlt
   exact ⟨h.anew i p.src hlt hg.2.1, rfl, rfl, hg.same rfl, hyy _ rfl⟩
  ·rw [upd_self]
   refine ⟨h, by omega, rfl, hg, hyg⟩
 generalize (w.e i).begun p = e at hb
 obtain ⟨hI, hpe, hle, hG, hY⟩ := hb
 obtain ⟨w1, hw1⟩ : ∃ w1, ({ w with e := upd w.e i e } : Wd) = w1 := ⟨_, rfl⟩
 rw [hw1] at hI hG hY
 have e1 : w1.e i = e := by rw [← hw1]; simp
 have eo : w1.e (!i) = w.e (!i) := by rw [← hw1]; simp
 have hsent : w1.sent = w.sent := by rw [← hw1]
 have htold : w1.told = w.told := by rw [← hw1]
 have hway : w1.way = w.way := by rw [← hw1]
 have hwe : ∀ e', ({ w with e := upd w.e i e' } : Wd) = { w1 with e := upd w1.e i e' } := fun e' => by rw [← hw1]; simp only [upd_upd]
 by_cases c2 : p.dst ≠ e.life
 ·rw [if_pos c2]
  dsimp only
  rw [hwe]
  refine ⟨?_, rfl, rfl, rfl⟩
  have := hI.marks i e.again true
  rw [e1] at this
  exact this
 rw [if_neg c2]
 have c2' : p.dst = e.life := Classical.not_not.1 c2
 have ho := (hI.1 (!i)).peer
 rw [Bool.not_not, e1, eo] at ho
 have hA : Inv { w1 with e := upd w1.e i (e.acked p.ack) } j := by
  have := hI.acked i p.ack (by have := hG.2.2.2.2.2; rw [e1, hpe, ← c2']; exact this) (by
   rw [e1, hpe, eo]
   intro he
   have := hG.2.2.2.1
   rw [eo] at this
   have := this he
   omega) (by
   rintro hj rfl
   rw [e1, hpe, eo]
   exact hY hj rfl (by omega))
  rw [e1] at this
  exact this
 obtain ⟨e2, he2⟩ : ∃ e2, e.acked p.ack = e2 := ⟨_, rfl⟩
 have f1 : e2.life = e.life := by rw [← he2]; rfl
 have f2 : e2.peer = e.peer := by rw [← he2]; rfl
 have f3 : e2.next = e.next := by rw [← he2]; rfl
 rw [he2] at hA ⊢
 obtain ⟨w2, hw2⟩ : ∃ w2, ({ w1 with e := upd w1.e i e2 } : Wd) = w2 := ⟨_, rfl⟩
 rw [hw2] at hA
 have g1 : w2.e i = e2 := by rw [← hw2]; simp
 have gsent : w2.sent = w.sent := by rw [← hw2]; exact hsent
 have gtold : w2.told = w.told := by rw [← hw2]; exact htold
 have gway : w2.way = w.way := by rw [← hw2]; exact hway
 have gwe : ∀ e', ({ w with e := upd w.e i e' } : Wd) = { w2 with e := upd w2.e i e' } := fun e' => by rw [← hw2, ← hw1]; simp only [upd_upd]
 by_cases c3 : p.seq = 0
 ·rw [if_pos c3]
  dsimp only
  rw [gwe]
  refine ⟨?_, rfl, rfl, rfl⟩
  rw [← g1, upd_self]
  exact hA
 rw [if_neg c3]
 by_cases c4 : p.seq ≠ e.next
 ·rw [if_pos c4]
  dsimp only
  rw [gwe]
  refine ⟨?_, rfl, rfl, rfl⟩
  have := hA.marks i e2.again true
  rw [g1] at this
  exact this
 rw [if_neg c4]
 have c4' : p.seq = e.next := Classical.not_not.1 c4
 dsimp only
 have hn := (hA.1 i).next
 rw [g1] at hn
 have hd := hG.2.2.2.2.1 c3
 have hm : (w2.sent (!i) ((w2.e i).peer, (w2.e i).life))[(w2.told i ((w2.e i).life, (w2.e i).peer)).length]? = some p.data := by
  rw [hsent, ← hpe, c2'] at hd
  rw [f1, f2, f3] at hn
  rw [g1, gsent, f1, f2, ← hd]
  congr 1
  omega
 have hT := hA.tell i p.data (by rw [g1, f2, hpe]; exact hg.1) hm
 rw [g1, f3] at hT
 refine ⟨?_, ?_, rfl, rfl⟩
 ·rw [g1, f1, f2] at hm
  have : ({ w with e := upd w.e i { e2 with owes := true, next := e.next + 1 }, told := upd w.told i (putKey (w.told i) e2.key p.data) } : Wd) = { w2 with e := upd w2.e i { e2 with owes := true, next := e.next + 1 }, told := upd w2.told i (putKey (w2.told i) e2.key p.data) } := by
   rw [← hw2, ← hw1]; simp only [upd_upd]
  rw [← this] at hT
  exact hT
 ·rw [g1, gsent, gtold] at hm
  exact decide_eq_true hm

theorem Inv.little {w : Wd} {j : Bool} (h : Inv w j) (i : Bool) : decide ((w.e i).win.length ≤ 8) = true := by
 obtain ⟨g, _, h2, _, h4⟩ := (h.1 i).win
 rw [h4, winOf_len]
 exact decide_eq_true h2
theorem Inv.fresh : Inv Wd.fresh true := by
 refine ⟨fun i => ?_, ⟨(fun p hp => by cases hp), (fun hh => by cases hh)⟩⟩
 constructor <;> simp [Wd.fresh, En.new, winOf]
theorem take_way (w : Wd) (W : Bool → List Pk) (i : Bool) (p : Pk) : Wd.take { w with way := W } i p = ({ (w.take i p).1 with way := W }, (w.take i p).2) := by
 unfold Wd.take
 dsimp only
 cases (w.e i).take p with
 | mk e r => cases r <;> rfl
theorem Inv.step {w : Wd} {j : Bool} (h : Inv w j) (x : Stp) : ∃ k, Inv (w.step x).1 k ∧ (w.step x).2 = true := by
 unfold Wd.step
 dsimp only
 split
 ·split
  ·exact ⟨_, h, h.little _⟩
  ·rename_i hp; exact ⟨_, h.send x.i x.b hp, (h.send x.i x.b hp).little _⟩
 split
 ·exact ⟨_, h.tick x.i, (h.tick x.i).little _⟩
 split
 ·exact ⟨_, h.out x.i, (h.out x.i).little _⟩
 split
 ·split
  ·exact ⟨_, h, h.little _⟩
  ·rename_i p hp
   have hm := List.mem_of_getElem? hp
   have ht := h.take x.i p ((h.1 x.i).way p hm) (.inl hm)
   split
   ·rw [take_way]
    refine ⟨j, ?_, ht.2.1⟩
    have := ht.1.less x.i ((w.way x.i).eraseIdx (x.which % (w.way x.i).length)) (fun q hq => by rw [ht.2.2.1]; exact List.mem_of_mem_eraseIdx hq)
    rw [ht.2.2.1] at this
    exact this
   ·exact ⟨_, ht.1, ht.2.1⟩
 split
 ·have := h.less x.i ((w.way x.i).eraseIdx (x.which % (w.way x.i).length)) (fun q hq => List.mem_of_mem_eraseIdx hq)
  exact ⟨_, this, this.little _⟩
 split
 ·exact ⟨_, h.born x.i, (h.born x.i).little _⟩
 ·exact ⟨_, h, h.little _⟩

/-- any steps -/
def Wd.runs (w : Wd) : List Stp → Wd
 | [] => w
 | x :: l => Wd.runs (w.step x).1 l
theorem runs_inv (l : List Stp) : ∀ (w : Wd) (j : Bool), Inv w j → ∃ k, Inv (w.runs l) k := by
 induction l with
 | nil => exact fun w j h => ⟨j, h⟩
 | cons x l ih =>
  intro w j h
  obtain ⟨k, hk, _⟩ := h.step x
  exact ih _ k hk

/-! it gets there -/
theorem begun_life (e : En) (p : Pk) : (e.begun p).life = e.life := by unfold En.begun; split <;> rfl
theorem begun_same {e : En} {p : Pk} (h : p.src = e.peer) : e.begun p = e := by unfold En.begun; rw [if_neg (by omega)]
theorem begun_peer {e : En} {p : Pk} (h : ¬ (p.src = 0 ∨ p.src < e.peer)) : (e.begun p).peer = p.src := by
 unfold En.begun
 split
 ·rfl
 ·omega
theorem begun_owes {e : En} {p : Pk} (h : e.owes = true) : (e.begun p).owes = true := by
 unfold En.begun
 split
 ·rfl
 ·exact h
theorem take1 {e : En} {p : Pk} (h : p.src = 0 ∨ p.src < e.peer) : (e.take p).1 = e := by unfold En.take; rw [if_pos h]
theorem take2 {e : En} {p : Pk} (h : ¬ (p.src = 0 ∨ p.src < e.peer)) (hd : p.dst ≠ e.life) : (e.take p).1 = { e.begun p with owes := true } := by unfold En.take; rw [if_neg h, if_pos (by rw [begun_life]; exact hd)]
theorem take3 {e : En} {p : Pk} (h : ¬ (p.src = 0 ∨ p.src < e.peer)) (hd : p.dst = e.life) (hs : p.seq = 0) : (e.take p).1 = (e.begun p).acked p.ack := by unfold En.take; rw [if_neg h, if_neg (by rw [begun_life]; simp [hd]), if_pos hs]
theorem take4 {e : En} {p : Pk} (h : ¬ (p.src = 0 ∨ p.src < e.peer)) (hd : p.dst = e.life) (hs : p.seq ≠ 0) (hn : p.seq ≠ (e.begun p).next) : (e.take p).1 = { (e.begun p).acked p.ack with owes := true } := by unfold En.take; rw [if_neg h, if_neg (by rw [begun_life]; simp [hd]), if_neg hs, if_pos hn]
theorem take5 {e : En} {p : Pk} (h : ¬ (p.src = 0 ∨ p.src < e.peer)) (hd : p.dst = e.life) (hs : p.seq ≠ 0) (hn : p.seq = (e.begun p).next) : (e.take p).1 = { (e.begun p).acked p.ack with owes := true, next := (e.begun p).next + 1 } := by unfold En.take; rw [if_neg h, if_neg (by rw [begun_life]; simp [hd]), if_neg hs, if_neg (by simp [hn])]
theorem take_five (e : En) (p : Pk) : (e.take p).1 = e ∧ (p.src = 0 ∨ p.src < e.peer) ∨ ¬ (p.src = 0 ∨ p.src < e.peer) ∧ (p.dst ≠ e.life ∧ (e.take p).1 = { e.begun p with owes := true } ∨
  p.dst = e.life ∧ (p.seq = 0 ∧ (e.take p).1 = (e.begun p).acked p.ack ∨ p.seq ≠ 0 ∧ (p.seq ≠ (e.begun p).next ∧ (e.take p).1 = { (e.begun p).acked p.ack with owes := true } ∨
  p.seq = (e.begun p).next ∧ (e.take p).1 = { (e.begun p).acked p.ack with owes := true, next := (e.begun p).next + 1 }))) := by
 by_cases h : p.src = 0 ∨ p.src < e.peer
 ·exact .inl ⟨take1 h, h⟩
 refine .inr ⟨h, ?_⟩
 by_cases hd : p.dst = e.life
 ·refine .inr ⟨hd, ?_⟩
  by_cases hs : p.seq = 0
  ·exact .inl ⟨hs, take3 h hd hs⟩
  refine .inr ⟨hs, ?_⟩
  by_cases hn : p.seq = (e.begun p).next
  ·exact .inr ⟨hn, take5 h hd hs hn⟩
  ·exact .inl ⟨hn, take4 h hd hs hn⟩
 ·exact .inl ⟨hd, take2 h hd⟩
theorem take_life (e : En) (p : Pk) : (e.take p).1.life = e.life := by
 have hb := begun_life e p
 rcases take_five e p with ⟨h, _⟩ | ⟨_, ⟨_, h⟩ | ⟨_, ⟨_, h⟩ | ⟨_, ⟨_, h⟩ | ⟨_, h⟩⟩⟩⟩ <;> rw [h]
 all_goals exact hb
theorem take_peer {e : En} {p : Pk} (h0 : p.src ≠ 0) (h1 : e.peer ≤ p.src) : (e.take p).1.peer = p.src := by
 have hc : ¬ (p.src = 0 ∨ p.src < e.peer) := by omega
 have hb := begun_peer hc
 rcases take_five e p with ⟨h, hx⟩ | ⟨_, ⟨_, h⟩ | ⟨_, ⟨_, h⟩ | ⟨_, ⟨_, h⟩ | ⟨_, h⟩⟩⟩⟩
 ·exact absurd hx hc
 all_goals (rw [h]; exact hb)
theorem take_owes {e : En} {p : Pk} (h : e.owes = true) : (e.take p).1.owes = true := by
 have hb := begun_owes (p := p) h
 rcases take_five e p with ⟨h', _⟩ | ⟨_, ⟨_, h'⟩ | ⟨_, ⟨_, h'⟩ | ⟨_, ⟨_, h'⟩ | ⟨_, h'⟩⟩⟩⟩ <;> rw [h']
 ·exact h
 all_goals first | rfl | exact hb
def En.takes (e : En) : List Pk → En
 | [] => e
 | p :: l => ((e.take p).1).takes l
def Wd.takes (w : Wd) (o : Bool) : List Pk → Wd × Bool
 | [] => (w, true)
 | p :: l => if (w.take o p).2 then Wd.takes (w.take o p).1 o l else ((w.take o p).1, false)
theorem take_e (w : Wd) (o : Bool) (p : Pk) : (w.take o p).1.e = upd w.e o ((w.e o).take p).1 := by
 unfold Wd.take
 cases (w.e o).take p with
 | mk e r => cases r <;> rfl
theorem takes_inv (l : List Pk) : ∀ (w : Wd) (j o : Bool), Inv w j → (∀ p ∈ l, Good w o p ∧ p.src = (w.e (!o)).life) →
  Inv (w.takes o l).1 j ∧ (w.takes o l).2 = true ∧ (w.takes o l).1.sent = w.sent ∧ (w.takes o l).1.e = upd w.e o ((w.e o).takes l) := by
 induction l with
 | nil => intro w j o h _; exact ⟨h, rfl, rfl, by simp only [En.takes, upd_self]; rfl⟩
 | cons p l ih =>
  intro w j o h hl
  have h1 := hl p (List.mem_cons_self ..)
  have ht := h.take o p h1.1 (.inr h1.2)
  have he := take_e w o p
  unfold Wd.takes
  rw [if_pos ht.2.1]
  have ho : ((w.take o p).1.e (!o)) = w.e (!o) := by rw [he]; simp
  have hlife := take_life (w.e o) p
  have htold : ∀ q, w.told (!o) q <+: (w.take o p).1.told (!o) q := by
   intro q
   unfold Wd.take
   cases (w.e o).take p with
   | mk e r =>
    cases r
    ·exact List.prefix_refl _
    ·simp
  have := ih (w.take o p).1 j o ht.1 (fun q hq => by
   have hq' := hl q (List.mem_cons_of_mem _ hq)
   refine ⟨hq'.1.mono (by rw [ho]) (by rw [he, upd_same, hlife]; exact Nat.le_refl _) (by rw [ho]; exact Nat.le_refl _) (fun q => by rw [ht.2.2.2]; exact List.prefix_refl _) htold, by rw [ho]; exact hq'.2⟩)
  refine ⟨this.1, this.2.1, by rw [this.2.2.1, ht.2.2.2], ?_⟩
  rw [this.2.2.2, he, upd_upd, upd_same]
  rfl

/-- an end ticks, and all that goes out comes -/
def Wd.turn (w : Wd) (i : Bool) : Wd × Bool := Wd.takes { w with e := upd w.e i (w.e i).tick.out } (!i) (w.e i).tick.outs
theorem Inv.turn {w : Wd} {j : Bool} (h : Inv w j) (i : Bool) : Inv (w.turn i).1 j ∧ (w.turn i).2 = true ∧ (w.turn i).1.sent = w.sent ∧ (w.turn i).1.e i = (w.e i).tick.out ∧ (w.turn i).1.e (!i) = (w.e (!i)).takes (w.e i).tick.outs := by
 have h1 := h.tick i
 have h2 := h1.outE i
 have hg := h1.outs i
 simp only [upd_same, upd_upd] at h2 hg
 have := takes_inv (w.e i).tick.outs { w with e := upd w.e i (w.e i).tick.out } j (!i) h2 (fun p hp => by
  obtain ⟨g1, g2, g3⟩ := hg p hp
  refine ⟨g1.mono ?_ ?_ ?_ (fun q => List.prefix_refl _) (fun q => List.prefix_refl _), ?_⟩ <;> simp [En.out, g2])
 unfold Wd.turn
 refine ⟨this.1, this.2.1, this.2.2.1, ?_, ?_⟩
 ·rw [this.2.2.2]; simp
 ·rw [this.2.2.2]; simp

/-! packets of a life that is not lesser -/
theorem takes_life (l : List Pk) : ∀ e : En, (e.takes l).life = e.life := by
 induction l with
 | nil => exact fun _ => rfl
 | cons p l ih => exact fun e => (ih _).trans (take_life e p)
theorem takes_peer (l : List Pk) (S : Nat) (h0 : S ≠ 0) : ∀ e : En, e.peer ≤ S → (∀ p ∈ l, p.src = S) → (e.takes l).peer = if l = [] then e.peer else S := by
 induction l with
 | nil => exact fun _ _ _ => rfl
 | cons p l ih =>
  intro e h hl
  have hp := hl p (List.mem_cons_self ..)
  have h1 := take_peer (e := e) (p := p) (by omega) (by omega)
  have := ih (e.take p).1 (by omega) (fun q hq => hl q (List.mem_cons_of_mem _ hq))
  rw [if_neg (by simp)]
  unfold En.takes
  rw [this]
  split <;> omega
theorem takes_owes (l : List Pk) : ∀ e : En, e.owes = true → (e.takes l).owes = true := by
 induction l with
 | nil => exact fun _ h => h
 | cons p l ih => exact fun e h => ih _ (take_owes h)
theorem takes_strange (l : List Pk) (hl : l ≠ []) (e : En) (h : ∀ p ∈ l, ¬ (p.src = 0 ∨ p.src < e.peer) ∧ p.dst ≠ e.life) : (e.takes l).owes = true := by
 cases l with
 | nil => exact absurd rfl hl
 | cons p l =>
  have hp := h p (List.mem_cons_self ..)
  exact takes_owes l _ (by rw [take2 hp.1 hp.2])

/-! packets of the session -/
/-- what a packet of the session does -/
theorem take_own {e : En} {p : Pk} (h0 : p.src ≠ 0) (h1 : p.src = e.peer) (h2 : p.dst = e.life) :
  (e.take p).1.life = e.life ∧ (e.take p).1.peer = e.peer ∧ (e.take p).1.waits = e.waits ∧ (e.take p).1.last = e.last ∧ (e.take p).1.win = e.win.filter (fun f => decide (min p.ack (e.last + 1) ≤ f.1)) ∧
   (e.take p).1.next = (if p.seq ≠ 0 ∧ p.seq = e.next then e.next + 1 else e.next) ∧ ((e.take p).1.owes = true ↔ (e.owes = true ∨ p.seq ≠ 0)) := by
 have hb := begun_same h1
 rcases take_five e p with ⟨_, hx⟩ | ⟨_, ⟨hx, _⟩ | ⟨_, ⟨hs, h⟩ | ⟨hs, ⟨hn, h⟩ | ⟨hn, h⟩⟩⟩⟩
 ·omega
 ·exact absurd h2 hx
 ·rw [h, hb]
  exact ⟨rfl, rfl, rfl, rfl, rfl, by rw [if_neg (by simp [hs])]; rfl, by simp [En.acked, hs]⟩
 ·rw [h, hb]
  rw [hb] at hn
  exact ⟨rfl, rfl, rfl, rfl, rfl, by rw [if_neg (by simp [hn])]; rfl, by simp [hs]⟩
 ·rw [h, hb]
  rw [hb] at hn
  exact ⟨rfl, rfl, rfl, rfl, rfl, by rw [if_pos ⟨hs, hn⟩], by simp [hs]⟩
theorem takes_own (l : List Pk) : ∀ e : En, (∀ p ∈ l, p.src ≠ 0 ∧ p.src = e.peer ∧ p.dst = e.life) →
  (e.takes l).life = e.life ∧ (e.takes l).peer = e.peer ∧ (e.takes l).waits = e.waits ∧ (e.takes l).last = e.last ∧ e.next ≤ (e.takes l).next ∧ (e.win = [] → (e.takes l).win = []) ∧
   ((∃ p ∈ l, p.seq ≠ 0) → (e.takes l).owes = true) ∧ ((∀ f ∈ e.win, f.1 ≤ e.last) → l ≠ [] → (∀ p ∈ l, e.last + 1 ≤ p.ack) → (e.takes l).win = []) := by
 induction l with
 | nil => exact fun e _ => ⟨rfl, rfl, rfl, rfl, Nat.le_refl _, id, fun ⟨_, h, _⟩ => by (cases h), fun _ h => absurd rfl h⟩
 | cons p l ih =>
  intro e hl
  obtain ⟨p0, p1, p2⟩ := hl p (List.mem_cons_self ..)
  obtain ⟨a1, a2, a3, a4, a5, a6, a7⟩ := take_own p0 p1 p2
  obtain ⟨b1, b2, b3, b4, b5, b6, b7, _⟩ := ih (e.take p).1 (fun q hq => by
   have := hl q (List.mem_cons_of_mem _ hq)
   rw [a1, a2]
   exact this)
  unfold En.takes
  refine ⟨by omega, by omega, b3.trans a3, by omega, ?_, fun hw => b6 (by rw [a5, hw]; rfl), ?_, ?_⟩
  ·rw [a6] at b5
   split at b5 <;> omega
  ·rintro ⟨q, hq, hs⟩
   rcases List.mem_cons.1 hq with rfl | hq
   ·exact takes_owes l _ (a7.2 (.inr hs))
   ·exact b7 ⟨q, hq, hs⟩
  ·intro hw _ ha
   refine b6 ?_
   rw [a5, List.filter_eq_nil_iff]
   intro f hf
   have := hw f hf
   have := ha p (List.mem_cons_self ..)
   simp
   omega
/-- numbers in order are taken -/
theorem takes_next (l : List Pk) : ∀ (e : En) (g : Nat), (∀ p ∈ l, p.src ≠ 0 ∧ p.src = e.peer ∧ p.dst = e.life) → l.map (·.seq) = List.range' (g + 1) l.length → g + 1 ≤ e.next → g + l.length + 1 ≤ (e.takes l).next := by
 induction l with
 | nil => exact fun e g _ _ h => h
 | cons p l ih =>
  intro e g hl hs hg
  obtain ⟨p0, p1, p2⟩ := hl p (List.mem_cons_self ..)
  obtain ⟨a1, a2, a3, a4, a5, a6, a7⟩ := take_own p0 p1 p2
  rw [List.length_cons, List.range'_succ, List.map_cons] at hs
  injection hs with hs1 hs2
  have := ih (e.take p).1 (g + 1) (fun q hq => by
   have := hl q (List.mem_cons_of_mem _ hq)
   rw [a1, a2]
   exact this) hs2 (by rw [a6]; split <;> omega)
  unfold En.takes
  rw [List.length_cons]
  omega

theorem outs_tick (e : En) : e.tick.outs = if (e.win ++ e.fresh) = [] then (if e.owes = true ∨ e.heard = false then [e.pkt (0, [])] else []) else (e.win ++ e.fresh).map e.pkt := by
 show (if (((if true = true then e.win else []) ++ e.fresh).map e.pkt).isEmpty && (e.owes || !e.heard) then [e.pkt (0, [])] else ((if true = true then e.win else []) ++ e.fresh).map e.pkt) = _
 rw [if_pos rfl]
 by_cases h : e.win ++ e.fresh = []
 ·rw [h]
  cases e.owes <;> cases e.heard <;> rfl
 ·rw [if_neg h, if_neg]
  simp at h ⊢
  intro h1 h2
  exact absurd h2 (h h1)
theorem outs_some {e : En} (h : e.owes = true ∨ e.heard = false) : e.tick.outs ≠ [] := by
 rw [outs_tick, if_pos h]
 split
 ·simp
 ·rename_i h'; simpa using h'
theorem outs_all (e : En) : ∀ p ∈ e.tick.outs, p.src = e.life ∧ p.dst = e.peer ∧ p.ack = e.next := by
 intro p hp
 rcases outs_mem hp with rfl | ⟨f, _, rfl⟩ <;> exact ⟨rfl, rfl, rfl⟩

def Known (w : Wd) : Prop := ∀ i, (w.e i).peer = (w.e (!i)).life

theorem turn_life {w : Wd} {j : Bool} (h : Inv w j) (i : Bool) : ∀ k, ((w.turn i).1.e k).life = (w.e k).life := by
 obtain ⟨_, _, _, h4, h5⟩ := h.turn i
 refine both i ?_ ?_
 ·rw [h4]; rfl
 ·rw [h5, takes_life]
theorem turn_peer {w : Wd} {j : Bool} (h : Inv w j) (i : Bool) : ((w.turn i).1.e i).peer = (w.e i).peer ∧ ((w.turn i).1.e (!i)).peer = if (w.e i).tick.outs = [] then (w.e (!i)).peer else (w.e i).life := by
 obtain ⟨_, _, _, h4, h5⟩ := h.turn i
 refine ⟨by rw [h4]; rfl, ?_⟩
 rw [h5]
 have hb := (h.1 i).born
 have hp := (h.1 (!i)).peer
 rw [Bool.not_not] at hp
 exact takes_peer _ _ (by omega) _ hp (fun p hp => (outs_all _ p hp).1)
theorem turn_known {w : Wd} {j : Bool} (h : Inv w j) (i : Bool) (hk : Known w) : Known (w.turn i).1 := by
 have hl := turn_life h i
 have hp := turn_peer h i
 refine both i ?_ ?_
 ·rw [hp.1, hl]; exact hk i
 ·rw [hp.2, hl]
  have := hk (!i)
  rw [Bool.not_not] at this ⊢
  split
  ·exact this
  ·rfl
/-- who began last tells the other one, who answers -/
theorem turn_young {w : Wd} {j : Bool} (h : Inv w j) : Known (w.turn j).1 ∨ (((w.turn j).1.e (!j)).peer = ((w.turn j).1.e j).life ∧ ((w.turn j).1.e (!j)).owes = true) := by
 by_cases hh : (w.e j).heard = true
 ·have h1 := h.2.2 hh
  have h2 := (h.1 j).heard hh h1
  exact .inl (turn_known h j (both j h1 (by rw [Bool.not_not]; exact h2)))
 ·have ho := outs_some (e := w.e j) (.inr (by simpa using hh))
  have hl := turn_life h j
  have hp := turn_peer h j
  rw [if_neg ho] at hp
  by_cases hq : (w.e j).peer = (w.e (!j)).life
  ·refine .inl (both j ?_ ?_)
   ·rw [hp.1, hl]; exact hq
   ·rw [hp.2, hl, Bool.not_not]
  ·refine .inr ⟨by rw [hp.2, hl], ?_⟩
   obtain ⟨_, _, _, _, h5⟩ := h.turn j
   rw [h5]
   refine takes_strange _ ho _ fun p hp' => ?_
   have := outs_all _ p hp'
   have hb := (h.1 j).born
   have hk := (h.1 (!j)).peer
   rw [Bool.not_not] at hk
   exact ⟨by omega, by rw [this.2.1]; exact hq⟩
theorem turn_answer {w : Wd} {j : Bool} (h : Inv w j) (o : Bool) (h1 : (w.e o).peer = (w.e (!o)).life) (h2 : (w.e o).owes = true) : Known (w.turn o).1 := by
 have ho := outs_some (e := w.e o) (.inl h2)
 have hl := turn_life h o
 have hp := turn_peer h o
 rw [if_neg ho] at hp
 refine both o ?_ ?_
 ·rw [hp.1, hl]; exact h1
 ·rw [hp.2, hl, Bool.not_not]
theorem two_known {w : Wd} {j : Bool} (h : Inv w j) : Known ((w.turn j).1.turn (!j)).1 := by
 have h' := (h.turn j).1
 rcases turn_young h with hk | ⟨h1, h2⟩
 ·exact turn_known h' _ hk
 ·exact turn_answer h' (!j) (by rw [Bool.not_not]; exact h1) h2
theorem three_known {w : Wd} {j : Bool} (h : Inv w j) : Known (((w.turn false).1.turn true).1.turn false).1 := by
 have h1 := (h.turn false).1
 have h2 := (h1.turn true).1
 cases j with
 | false => exact turn_known h2 false (two_known h)
 | true => exact two_known h1

/-- all that is in the window has been told, and it is empty, or the other end owes an answer -/
def Pend (w : Wd) (i : Bool) : Prop := (w.e i).last + 1 ≤ (w.e (!i)).next ∧ ((w.e i).win = [] ∨ (w.e (!i)).owes = true)
theorem own_all {w : Wd} {j : Bool} (h : Inv w j) (hk : Known w) (i : Bool) : ∀ p ∈ (w.e i).tick.outs, p.src ≠ 0 ∧ p.src = (w.e (!i)).peer ∧ p.dst = (w.e (!i)).life := by
 intro p hp
 have := outs_all _ p hp
 have hb := (h.1 i).born
 have h1 := hk i
 have h2 := hk (!i)
 rw [Bool.not_not] at h2
 exact ⟨by omega, by rw [this.1, h2], by rw [this.2.1, h1]⟩
theorem turn_pend {w : Wd} {j : Bool} (h : Inv w j) (i : Bool) (hk : Known w) : Pend (w.turn i).1 i := by
 obtain ⟨_, _, _, h4, h5⟩ := h.turn i
 have hown := own_all h hk i
 have ki := h.1 i
 obtain ⟨g, g1, g2, g3, g4⟩ := ki.win
 have hn := (h.1 (!i)).next
 have hko := hk (!i)
 rw [Bool.not_not] at hko
 rw [hko, ← hk i] at hn
 have hw := out_win ki.waits ki.last g1 g4
 have hT := takes_own _ _ hown
 unfold Pend
 rw [h4, h5]
 show (w.e i).last + (w.e i).room + 1 ≤ _ ∧ ((w.e i).win ++ (w.e i).fresh = [] ∨ _)
 by_cases he : (w.e i).win ++ (w.e i).fresh = []
 ·refine ⟨?_, .inl he⟩
  have := congrArg List.length he
  rw [hw, winOf_len] at this
  simp at this
  have := hT.2.2.2.2.1
  omega
 ·have ho : (w.e i).tick.outs = ((w.e i).win ++ (w.e i).fresh).map (w.e i).pkt := by rw [outs_tick, if_neg he]
  have hlen : ((w.e i).win ++ (w.e i).fresh).length = (w.e i).last + (w.e i).room - g := by rw [hw, winOf_len]
  refine ⟨?_, .inr ?_⟩
  ·have := takes_next _ _ g hown (by
    rw [ho, List.length_map, hlen, hw, List.map_map]
    unfold winOf
    rw [List.map_map]
    exact List.map_id _) (by omega)
   rw [ho, List.length_map, hlen] at this
   rw [ho]
   omega
  ·refine hT.2.2.2.2.2.2.1 ?_
   rw [ho]
   cases hc : (w.e i).win ++ (w.e i).fresh with
   | nil => exact absurd hc he
   | cons f r =>
    refine ⟨_, List.mem_map.2 ⟨f, List.mem_cons_self .., rfl⟩, ?_⟩
    have hf : f ∈ winOf (w.sent i ((w.e i).life, (w.e i).peer)) g ((w.e i).last + (w.e i).room - g) := by rw [← hw, hc]; exact List.mem_cons_self ..
    have := (mem_winOf hf (by have := room_le ki.waits ki.last; omega)).1
    show f.1 ≠ 0
    omega
theorem turn_empties {w : Wd} {j : Bool} (h : Inv w j) (i : Bool) (hk : Known w) (hp : Pend w i) :
  ((w.turn (!i)).1.e i).win = [] ∧ ((w.turn (!i)).1.e i).last + 1 ≤ ((w.turn (!i)).1.e (!i)).next ∧ ((w.turn (!i)).1.e i).waits = (w.e i).waits := by
 obtain ⟨_, _, _, h4, h5⟩ := h.turn (!i)
 have hown := own_all h hk (!i)
 rw [Bool.not_not] at h5 hown
 have hT := takes_own _ _ hown
 rw [h4, h5]
 refine ⟨?_, ?_, hT.2.2.1⟩
 ·by_cases ho : (w.e (!i)).tick.outs = []
  ·rcases hp.2 with hw | hw
   ·exact hT.2.2.2.2.2.1 hw
   ·exact absurd ho (outs_some (.inl hw))
  ·refine hT.2.2.2.2.2.2.2 ?_ ho (fun p hp' => by rw [(outs_all _ p hp').2.2]; exact hp.1)
   obtain ⟨g, g1, g2, g3, g4⟩ := (h.1 i).win
   intro f hf
   rw [g4] at hf
   unfold winOf at hf
   obtain ⟨s, hs, rfl⟩ := List.mem_map.1 hf
   rw [List.mem_range'_1] at hs
   simp only
   omega
 ·rw [hT.2.2.2.1]; exact hp.1
theorem turn_waits {w : Wd} {j : Bool} (h : Inv w j) (i : Bool) (hw : (w.e i).win = []) : ((w.turn i).1.e i).waits.length ≤ (w.e i).waits.length - 1 ∧ ((w.e i).waits = [] → ((w.turn i).1.e i).win = []) := by
 obtain ⟨_, _, _, h4, _⟩ := h.turn i
 rw [h4]
 constructor
 ·show ((w.e i).waits.drop (min (8 - (w.e i).win.length) (w.e i).waits.length)).length ≤ _
  rw [hw, List.length_drop]
  simp only [List.length_nil]
  omega
 ·intro he
  show (w.e i).win ++ (w.e i).fresh = []
  unfold En.fresh
  rw [hw, he]
  simp

def Wd.round (w : Wd) : Wd := ((w.turn false).1.turn true).1
def Wd.rounds (w : Wd) : Nat → Wd
 | 0 => w
 | n + 1 => (w.rounds n).round
theorem Inv.round {w : Wd} {j : Bool} (h : Inv w j) : Inv w.round j := ((h.turn false).1.turn true).1
theorem Inv.rounds {w : Wd} {j : Bool} (h : Inv w j) (n : Nat) : Inv (w.rounds n) j := by
 induction n with
 | zero => exact h
 | succ n ih => exact ih.round
structure Good3 (w : Wd) (n : Nat) : Prop where
 known : Known w
 win : (w.e false).win = []
 next : (w.e false).last + 1 ≤ (w.e true).next
 pend : Pend w true
 waits : ∀ i, (w.e i).waits.length ≤ n
theorem take_waits (e : En) (p : Pk) : (e.take p).1.waits.length ≤ e.waits.length := by
 have hb : (e.begun p).waits.length ≤ e.waits.length := by unfold En.begun En.anew; split <;> simp
 rcases take_five e p with ⟨h, _⟩ | ⟨_, ⟨_, h⟩ | ⟨_, ⟨_, h⟩ | ⟨_, ⟨_, h⟩ | ⟨_, h⟩⟩⟩⟩ <;> rw [h]
 ·exact Nat.le_refl _
 all_goals exact hb
theorem takes_waits (l : List Pk) : ∀ e : En, (e.takes l).waits.length ≤ e.waits.length := by
 induction l with
 | nil => exact fun _ => Nat.le_refl _
 | cons p l ih => exact fun e => Nat.le_trans (ih _) (take_waits e p)
theorem turn_waits_le {w : Wd} {j : Bool} (h : Inv w j) (i : Bool) : ∀ k, ((w.turn i).1.e k).waits.length ≤ (w.e k).waits.length := by
 obtain ⟨_, _, _, h4, h5⟩ := h.turn i
 refine both i ?_ ?_
 ·rw [h4]
  show ((w.e i).waits.drop _).length ≤ _
  rw [List.length_drop]
  omega
 ·rw [h5]; exact takes_waits _ _
theorem good_of {w : Wd} {j : Bool} (h : Inv w j) (n : Nat) (hn : ∀ i, (w.e i).waits.length ≤ n) : Good3 (w.rounds 3) n := by
 have hr : w.rounds 3 = ((((((w.turn false).1.turn true).1.turn false).1.turn true).1.turn false).1.turn true).1 := rfl
 rw [hr]
 have k3 := three_known h
 have h1 := (h.turn false).1
 have t1 := turn_waits_le h false
 generalize (w.turn false).1 = w1 at *
 have h2 := (h1.turn true).1
 have t2 := turn_waits_le h1 true
 generalize (w1.turn true).1 = w2 at *
 have h3 := (h2.turn false).1
 have t3 := turn_waits_le h2 false
 generalize (w2.turn false).1 = w3 at *
 have h4 := (h3.turn true).1
 have t4 := turn_waits_le h3 true
 have k4 := turn_known h3 true k3
 generalize (w3.turn true).1 = w4 at *
 have h5 := (h4.turn false).1
 have t5 := turn_waits_le h4 false
 have k5 := turn_known h4 false k4
 have pf := turn_pend h4 false k4
 generalize (w4.turn false).1 = w5 at *
 have t6 := turn_waits_le h5 true
 have k6 := turn_known h5 true k5
 have pt := turn_pend h5 true k5
 have e := turn_empties h5 false k5 pf
 rw [Bool.not_false] at e
 generalize (w5.turn true).1 = w6 at *
 exact ⟨k6, e.1, e.2.1, pt, fun i => Nat.le_trans (t6 i) (Nat.le_trans (t5 i) (Nat.le_trans (t4 i) (Nat.le_trans (t3 i) (Nat.le_trans (t2 i) (Nat.le_trans (t1 i) (hn i))))))⟩
theorem Good3.round {w : Wd} {j : Bool} {n : Nat} (h : Inv w j) (g : Good3 w n) : Good3 w.round (n - 1) ∧ (n = 0 → (w.round.e true).win = []) := by
 have h1 := (h.turn false).1
 have h2 := (h1.turn true).1
 have k1 := turn_known h false g.known
 have k2 := turn_known h1 true k1
 have pf := turn_pend h false g.known
 have pt := turn_pend h1 true k1
 have e0 := turn_empties h true g.known g.pend
 have e1 := turn_empties h1 false k1 pf
 have wf := turn_waits h false g.win
 have wt := turn_waits h1 true e0.1
 refine ⟨⟨k2, e1.1, e1.2.1, pt, fun i => ?_⟩, ?_⟩
 ·have g0 := g.waits false
  have g1 := g.waits true
  cases i with
  | false =>
   show ((((w.turn false).1.turn true).1.e false).waits.length) ≤ n - 1
   rw [show (((w.turn false).1.turn true).1.e false).waits = ((w.turn false).1.e false).waits from e1.2.2]
   omega
  | true =>
   show ((((w.turn false).1.turn true).1.e true).waits.length) ≤ n - 1
   have : ((w.turn false).1.e true).waits = (w.e true).waits := e0.2.2
   rw [this] at wt
   omega
 ·rintro rfl
  have g1 := g.waits true
  have : ((w.turn false).1.e true).waits = (w.e true).waits := e0.2.2
  exact wt.2 (by rw [this]; exact List.eq_nil_of_length_eq_zero (by omega))
theorem good_rounds {w : Wd} {j : Bool} {n : Nat} (h : Inv w j) (g : Good3 w n) : ∀ m, Good3 (w.rounds m) (n - m) ∧ (n < m → ((w.rounds m).e true).win = []) := by
 intro m
 induction m with
 | zero => exact ⟨g, fun hh => by omega⟩
 | succ m ih =>
  have := Good3.round (h.rounds m) ih.1
  exact ⟨by rw [show n - (m + 1) = n - m - 1 by omega]; exact this.1, fun hh => this.2 (by omega)⟩
theorem rounds_add (w : Wd) (a b : Nat) : w.rounds (a + b) = (w.rounds a).rounds b := by
 induction b with
 | zero => rfl
 | succ b ih => show (w.rounds (a + b)).round = ((w.rounds a).rounds b).round; rw [ih]
/-- it gets there -/
theorem ends {w : Wd} {j : Bool} (h : Inv w j) (n : Nat) (hn : ∀ i, (w.e i).waits.length ≤ n) :
  ∀ i, ((w.rounds (n + 4)).e i).peer = ((w.rounds (n + 4)).e (!i)).life ∧ ((w.rounds (n + 4)).e i).waits = [] ∧ ((w.rounds (n + 4)).e i).win = [] ∧
   ((w.rounds (n + 4)).sent i (((w.rounds (n + 4)).e i).life, ((w.rounds (n + 4)).e (!i)).life)).length = ((w.rounds (n + 4)).told (!i) (((w.rounds (n + 4)).e (!i)).life, ((w.rounds (n + 4)).e i).life)).length := by
 have hg := good_of h n hn
 have hI := h.rounds (n + 4)
 have := good_rounds (h.rounds 3) hg (n + 1)
 rw [← rounds_add, show 3 + (n + 1) = n + 4 by omega] at this
 generalize w.rounds (n + 4) = W at this hI ⊢
 obtain ⟨g, hw⟩ := this
 have hwt := hw (by omega)
 have key : ∀ i, (W.e i).last + 1 ≤ (W.e (!i)).next → (W.e i).win = [] → (W.e i).peer = (W.e (!i)).life ∧ (W.e i).waits = [] ∧ (W.e i).win = [] ∧ (W.sent i ((W.e i).life, (W.e (!i)).life)).length = (W.told (!i) ((W.e (!i)).life, (W.e i).life)).length := by
  intro i h1 h2
  have hk := g.known
  have hz : (W.e i).waits = [] := List.eq_nil_of_length_eq_zero (by have := g.waits i; omega)
  refine ⟨hk i, hz, h2, ?_⟩
  have hs := (hI.1 i).waits
  have hl := (hI.1 i).last
  rw [hz, hk i] at hs
  rw [hk i] at hl
  have hd := congrArg List.length hs
  rw [List.length_drop] at hd
  have hn := (hI.1 (!i)).next
  have hko := hk (!i)
  rw [Bool.not_not] at hko
  rw [hko] at hn
  have hp := pre_len ((hI.1 (!i)).pre (W.e (!i)).life (W.e i).life)
  rw [Bool.not_not] at hp
  simp at hd
  omega
 intro i
 cases i with
 | false => exact key false g.next g.win
 | true => exact key true g.pend.1 hwt

theorem step_waits (w : Wd) (x : Stp) : ∀ k, ((w.step x).1.e k).waits.length ≤ (w.e k).waits.length + if x.what = 0 then 1 else 0 := by
 have hset : ∀ (e : En) (n : Nat), e.waits.length ≤ (w.e x.i).waits.length + n → ∀ k, ((upd w.e x.i e) k).waits.length ≤ (w.e k).waits.length + n := by
  intro e n h k
  unfold upd
  split
  ·rename_i hk; subst hk; exact h
  ·omega
 intro k
 unfold Wd.step
 dsimp only
 split
 ·split
  ·dsimp only; omega
  ·exact hset ((w.e x.i).send x.b) 1 (by simp [En.send]) k
 split
 ·exact hset (w.e x.i).tick 0 (Nat.le_refl _) k
 split
 ·exact hset (w.e x.i).out 0 (by simp [En.out]) k
 split
 ·split
  ·dsimp only; omega
  ·rename_i p _
   have h : ∀ W : Bool → List Pk, ((Wd.take { w with way := W } x.i p).1.e k).waits.length ≤ (w.e k).waits.length + 0 := by
    intro W
    rw [take_e]
    exact hset _ 0 (take_waits _ _) k
   split
   ·exact h _
   ·exact h w.way
 split
 ·dsimp only; omega
 split
 ·exact hset (En.new ((w.e x.i).life + 1)) 0 (by simp [En.new]) k
 ·dsimp only; omega
def sendsOf : List Stp → Nat
 | [] => 0
 | x :: l => (if x.what = 0 then 1 else 0) + sendsOf l
theorem runs_waits (l : List Stp) : ∀ (w : Wd) (k : Bool), ((w.runs l).e k).waits.length ≤ (w.e k).waits.length + sendsOf l := by
 induction l with
 | nil => exact fun _ _ => Nat.le_refl _
 | cons x l ih =>
  intro w k
  have h1 := ih (w.step x).1 k
  have h2 := step_waits w x k
  show (((w.step x).1.runs l).e k).waits.length ≤ _ + ((if x.what = 0 then 1 else 0) + sendsOf l)
  omega
end Go.Proofs.Ytllnlimbfoingaa
