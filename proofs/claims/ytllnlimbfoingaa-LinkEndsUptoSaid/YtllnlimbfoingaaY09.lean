/- DERIVED. Chapter 20: the document's examples. -/
import Derived.Test.YtllnlimbfoingaaY08
namespace Go.Proofs.Ytllnlimbfoingaa
open Go.RowKit Go.Conc

def aw {α : Type} (a b : α) : Bool → α := fun i => cond i b a
theorem aw_a {α : Type} (a b x : α) : upd (aw a b) false x = aw x b := by funext i; cases i <;> rfl
theorem aw_b {α : Type} (a b x : α) : upd (aw a b) true x = aw a x := by funext i; cases i <;> rfl
def noM : Nat → Prop := fun _ => False
theorem duo_aw {M : Nat → Prop} {Ra Rb : Nat → Prop} {w : World} {a b : Nat} {A B : En} (h1 : Lk Ra (fun k => Rb k ∨ M k) w a A) (h2 : Lk Rb (fun k => Ra k ∨ M k) w b B) : Duo M (aw Ra Rb) w (aw a b) (aw A B) := fun i => by
 cases i
 ·exact h1
 ·exact h2
/-- two new ends -/
theorem two_new (w w1 w2 : World) (la lb : Nat) (_hl1 : 1 ≤ la) (h1 : ∀ T : Nat → Prop, (∀ k, T k → k < w.heap.size) → Lk (fun k => k = w.heap.size ∨ k = w.heap.size + 1) T w1 w.heap.size (En.new la))
  (h2 : ∀ T : Nat → Prop, (∀ k, T k → k < w1.heap.size) → Lk (fun k => k = w1.heap.size ∨ k = w1.heap.size + 1) T w2 w1.heap.size (En.new lb)) (o2 : Old w1 w2) :
  Duo noM (aw (fun k => k = w.heap.size ∨ k = w.heap.size + 1) (fun k => k = w1.heap.size ∨ k = w1.heap.size + 1)) w2 (aw w.heap.size w1.heap.size) (aw (En.new la) (En.new lb)) := by
 have a := h1 noM (fun k f => f.elim)
 have b := h2 (fun k => k = w.heap.size ∨ k = w.heap.size + 1) a.facts.2.2.1
 refine duo_aw ?_ ?_
 ·exact a.to (o2.weaken (fun _ _ f => f.elim)) (fun k hk => .inr (by rcases hk with (hk | hk) | hk; omega; omega; exact hk.elim)) (fun k hk => by rcases hk with hk | hk; exact b.facts.2.2.1 k hk; exact hk.elim)
 ·exact b.to (Keeps.refl _ _) (fun k hk => by rcases hk with hk | hk; exact .inl hk; exact hk.elim) (fun k hk => by rcases hk with hk | hk; exact b.facts.2.2.2 k hk; exact hk.elim)
/-- a row that is built in place -/
theorem new_row (w : World) (x : Pv) : SeesR (w.alloc (.cells x.cells.toArray 37)) 5 Pv.cells (.slice (some ⟨w.heap.size, 0, none⟩) 1 1) [x] :=
 SeesR.new (k := 5) (enc := Pv.cells) w _ (0, 0) [x] _ (by simp) (fun _ => rfl) (by unfold maxLen; simp)
attribute [-go_sem] loadVar storeVar
/-- the first packet of some, as it is read -/
theorem outs_at {w : World} {B : Nat} {v : Value} {X : List Pv} (h : Outs w B v X) (i : Nat) (x : Pv) (hx : X[i]? = some x) : ∃ g n c, v = .slice (some ⟨g, 0, none⟩) n c ∧ n = X.length ∧ (loadVar 37 ⟨g, i * 5, none⟩).run Try.prog w = .ok (.agg x.cells.toArray) w ∧ Owns w B x.v x.d ∧ (∀ b, x.v.ownBlock = some b → B ≤ b) := by
 have hl : 0 < X.length := by have := (List.getElem?_eq_some_iff.1 hx).1; omega
 have hs := h.1.1.sees (fun _ => rfl) (by decide)
 obtain ⟨b, o, c, rfl, _, _, hat⟩ := hs.at hl
 have ho : o = 0 := by
  rcases h.1.1.2 with ⟨e, _⟩ | ⟨g, cap, cur, e, _⟩
  ·cases e
  ·simp only [Value.slice.injEq, Option.some.injEq, Addr.mk.injEq] at e; exact e.1.2.1
 subst ho
 refine ⟨b, _, c, rfl, rfl, load_pk (fun j u hu => ?_), (h.1.2 x (List.mem_of_getElem? hx)).1, fun b hb => ((h.1.2 x (List.mem_of_getElem? hx)).2 b hb).1⟩
 have := hat i x hx j u hu
 rwa [Nat.zero_add] at this
def eA1 : En := ⟨1, 0, [], [], 0, 1, false, false, false⟩
def eB1 : En := ⟨1, 1, [], [], 0, 1, false, true, false⟩
def eB2 : En := ⟨1, 1, [], [], 0, 1, false, false, false⟩
def eA2 : En := ⟨1, 1, [], [], 0, 1, false, true, true⟩
def eA3 : En := ⟨1, 1, [[97]], [], 0, 1, false, true, true⟩
def eA4 : En := ⟨1, 1, [], [(1, [97])], 1, 1, false, false, true⟩
def eB3 : En := ⟨1, 1, [], [], 0, 2, false, true, true⟩
def eB4 : En := ⟨1, 1, [], [], 0, 2, false, false, true⟩
def eA5 : En := ⟨1, 2, [], [], 0, 1, false, true, false⟩
theorem ex_a1 : (En.new 1).out = eA1 ∧ (En.new 1).outs = [⟨1, 0, 0, 1, []⟩] := ⟨rfl, rfl⟩
theorem ex_b1 : (En.new 1).take ⟨1, 0, 0, 1, []⟩ = (eB1, none) := rfl
theorem ex_b2 : eB1.out = eB2 ∧ eB1.outs = [⟨1, 1, 0, 1, []⟩] := ⟨rfl, rfl⟩
theorem ex_a2 : eA1.take ⟨1, 1, 0, 1, []⟩ = (eA2, none) := rfl
theorem ex_a3 : eA2.send [97] = eA3 := rfl
theorem ex_a4 : eA3.out = eA4 ∧ eA3.outs = [⟨1, 1, 1, 1, [97]⟩] := ⟨rfl, rfl⟩
theorem ex_b3 : eB2.take ⟨1, 1, 1, 1, [97]⟩ = (eB3, some [97]) := rfl
theorem ex_b4 : eB3.out = eB4 ∧ eB3.outs = [⟨1, 1, 0, 2, []⟩] := ⟨rfl, rfl⟩
theorem ex_a5 : eA4.take ⟨2, 0, 0, 1, []⟩ = (eA5, none) := rfl
theorem map_one {X : List Pv} {p : Pk} (h : X.map Pv.plain = [p]) : ∃ x, X = [x] ∧ x.plain = p := by
 match X, h with
 | [x], h => exact ⟨x, rfl, by simpa using h⟩
theorem Old.oror {M : Nat → Prop} {w w' : World} (h : Old w w') : Keeps M w w' := h.weaken (fun _ _ f => f.elim)
theorem litPk (w : World) (x : Pv) : Old w (w.alloc (.cells x.cells.toArray 37)) := (Keeps.refl _ _).alloc _
theorem same_yes (v v' : Value) (l m : List Pv) (w : World) (h : SeesR w 5 Pv.cells v l) (h' : SeesR w 5 Pv.cells v' m) (hf : ∀ x ∈ l, Sees w x.v x.d) (hf' : ∀ x ∈ m, Sees w x.v x.d) (e : l.map Pv.plain = m.map Pv.plain) :
  Calls Try.prog 33 #[v, v'] w fun e w' => e = .returned (.bool true) ∧ Old w w' := by
 have := same_any v v' l m w h h' hf hf'
 rw [decide_eq_true e] at this
 exact this
/-- Out's packet is the one that is told -/
theorem same_lit {w0 W : World} {B : Nat} {vo : Value} {x y : Pv} (hX : Outs w0 B vo [x]) (hk : Old w0 W) (hx : x.plain = y.plain) (hy : Sees (W.alloc (.cells y.cells.toArray 37)) y.v y.d) :
  Calls Try.prog 33 #[vo, .slice (some ⟨W.heap.size, 0, none⟩) 1 1] (W.alloc (.cells y.cells.toArray 37)) fun e w' => e = .returned (.bool true) ∧ Old (W.alloc (.cells y.cells.toArray 37)) w' :=
 same_yes vo _ [x] [y] _ (((hX.1.1.sees (fun _ => rfl) (by decide)).old hk).old (litPk W y)) (new_row W y) (fun z hz => (((hX.1.2 z hz).1.sees).old hk).old (litPk W _)) (fun z hz => by simp at hz; subst hz; exact hy) (by simp [hx])
/-- two ends of the call's own, no other memory -/
def Du (w0 : World) (R : Bool → Nat → Prop) (w : World) (lb : Bool → Nat) (E : Bool → En) : Prop := Duo noM R w lb E ∧ (∀ i k, R i k → w0.heap.size ≤ k) ∧ Old w0 w
theorem Du.old {w0 : World} {R : Bool → Nat → Prop} {w w' : World} {lb : Bool → Nat} {E : Bool → En} (h : Du w0 R w lb E) (hk : Old w w') : Du w0 R w' lb E := ⟨h.1.old hk, h.2.1, h.2.2.trans hk⟩
theorem Du.go {w0 : World} {R R2 : Bool → Nat → Prop} {w w' : World} {lb : Bool → Nat} {E E2 : Bool → En} (h : Du w0 R w lb E) (i : Bool) (hk : Keeps (R i) w w') (h2 : Duo noM R2 w' lb E2) (hR : ∀ j k, R2 j k → R j k ∨ w.heap.size ≤ k) : Du w0 R2 w' lb E2 :=
 ⟨h2, fun j k r => by rcases hR j k r with r | r; exact h.2.1 j k r; exact Nat.le_trans h.2.2.size r, h.2.2.then hk (fun k hk' r => by have := h.2.1 i k r; omega)⟩
theorem du_send {w0 : World} {R : Bool → Nat → Prop} {w : World} {lb : Bool → Nat} {E : Bool → En} (i : Bool) (v : Value) (d : List UInt8) (h : Du w0 R w lb E) (hl : 1 ≤ (E i).life) (hp : 1 ≤ (E i).peer) (hn : (E i).waits.length ≤ 1000) (hv : Sees w v d) (hd : d.length ≤ 140737488355328) :
  Calls Try.prog 12 #[.pointer (some ⟨lb i, 0, none⟩), v] w fun e w' => e = .returned (.int .i64 0) ∧ Du w0 R w' lb (upd E i ((E i).send d)) := by
 refine (duo_send i v d h.1 hl hp hn hv hd).mono ?_
 rintro e w' ⟨rfl, h1, k⟩
 exact ⟨rfl, h.go i k h1 (fun _ _ r => .inl r)⟩
theorem du_tick {w0 : World} {R : Bool → Nat → Prop} {w : World} {lb : Bool → Nat} {E : Bool → En} (i : Bool) (h : Du w0 R w lb E) (hl : 1 ≤ (E i).life) :
  Calls Try.prog 21 #[.pointer (some ⟨lb i, 0, none⟩)] w fun e w' => e = .returned (.int .i64 0) ∧ Du w0 R w' lb (upd E i (E i).tick) := by
 refine (duo_tick i h.1 hl).mono ?_
 rintro e w' ⟨rfl, h1, k⟩
 exact ⟨rfl, h.go i k h1 (fun _ _ r => .inl r)⟩
theorem du_out {w0 : World} {R : Bool → Nat → Prop} {w : World} {lb : Bool → Nat} {E : Bool → En} (i : Bool) (h : Du w0 R w lb E) (hl : 1 ≤ (E i).life) (hf : (E i).win.length ≤ 8) (hW : (E i).waits.length ≤ 1000) (hla : (E i).last + (E i).waits.length < 18446744073709551615) :
  Calls Try.prog 17 #[.pointer (some ⟨lb i, 0, none⟩)] w fun e w' => ∃ (X : List Pv) (vo : Value), e = .returned vo ∧ Outs w' w.heap.size vo X ∧ X.map Pv.plain = (E i).outs ∧ Du w0 R w' lb (upd E i (E i).out) ∧ Keeps (R i) w w' ∧ (∀ j k, R j k → k < w.heap.size) := by
 refine (duo_out i h.1 hl hf hW hla).mono ?_
 rintro e w' ⟨X, vo, rfl, hX, hp, k, hL⟩
 exact ⟨X, vo, rfl, hX, hp, h.go i k (hL noM (fun _ f => f.elim) (fun _ f => f.elim)) (fun _ _ r => .inl r), k, fun j q r => (h.1.lt j).1 q r⟩
theorem du_take {w0 : World} {R : Bool → Nat → Prop} {w : World} {lb : Bool → Nat} {E : Bool → En} (i : Bool) (p : Pv) (h : Du w0 R w lb E) (hl : 1 ≤ (E i).life) (hf : (E i).win.length ≤ 8) (hla : (E i).last < 18446744073709551615) (hne : (E i).next < 18446744073709551615) (hv : Sees w p.v p.d) (hd : p.d.length ≤ 140737488355328) (hvb : ∀ b, p.v.ownBlock = some b → ¬ R i b) :
  Calls Try.prog 14 #[.pointer (some ⟨lb i, 0, none⟩), .agg p.cells.toArray] w fun e w' => ∃ (R2 : Bool → Nat → Prop) (q : Option Addr) (n c : Nat), e = .returned (.tuple #[.slice q n c, .bool ((E i).take p.plain).2.isSome, .bool (decide ((E i).peer < p.src))]) ∧
   Owns w' w.heap.size (.slice q n c) (((E i).take p.plain).2.getD []) ∧ Du w0 R2 w' lb (upd E i ((E i).take p.plain).1) ∧ Keeps (R i) w w' ∧ (∀ b, (Value.slice q n c).ownBlock = some b → ∀ j, ¬ R2 j b) := by
 refine (duo_take i p h.1 hl hf hla hne hv hd hvb).mono ?_
 rintro e w' ⟨R', q, n, c, rfl, ho, hb, hR, hR0, k, hL⟩
 refine ⟨upd R i R', q, n, c, rfl, ho, h.go i k (hL noM (fun _ f => f.elim) (fun _ f => f.elim)) ?_, k, fun b hb0 => both i ?_ ?_⟩
 rotate_left 1
 ·rw [upd_same]; exact hb b hb0
 ·rw [upd_not]; exact fun r => by have := (h.1.lt (!i)).1 b r; have := (ho.block b hb0).1; omega
 refine both i (fun q r => ?_) (fun q r => ?_)
 ·rw [upd_same] at r; exact hR q r
 ·rw [upd_not] at r; exact .inl r
theorem du_takeX {w0 : World} {R : Bool → Nat → Prop} {w : World} {lb : Bool → Nat} {E : Bool → En} (i : Bool) (p : Pv) {e0 e1 : En} {pk : Pk} {r : Option Bs} {bs bb : Bool} (h : Du w0 R w lb E) (hE : E i = e0) (hp : p.plain = pk) (ht : e0.take pk = (e1, r)) (hs : r.isSome = bs) (hb : decide (e0.peer < pk.src) = bb)
  (hl : 1 ≤ e0.life) (hf : e0.win.length ≤ 8) (hla : e0.last < 18446744073709551615) (hne : e0.next < 18446744073709551615) (hv : Sees w p.v p.d) (hd : pk.data.length ≤ 140737488355328) (hvb : ∀ b, p.v.ownBlock = some b → ¬ R i b) :
  Calls Try.prog 14 #[.pointer (some ⟨lb i, 0, none⟩), .agg p.cells.toArray] w fun e w' => ∃ (R2 : Bool → Nat → Prop) (q : Option Addr) (n c : Nat), e = .returned (.tuple #[.slice q n c, .bool bs, .bool bb]) ∧ Owns w' w.heap.size (.slice q n c) (r.getD []) ∧ Du w0 R2 w' lb (upd E i e1) ∧ Keeps (R i) w w' ∧ (∀ b, (Value.slice q n c).ownBlock = some b → ∀ j, ¬ R2 j b) := by
 subst hE hp hs hb
 have := du_take i p h hl hf hla hne hv hd hvb
 rw [ht] at this
 exact this
theorem du_outX {w0 : World} {R : Bool → Nat → Prop} {w : World} {lb : Bool → Nat} {E : Bool → En} (i : Bool) {e0 e1 : En} {l : List Pk} (h : Du w0 R w lb E) (hE : E i = e0) (ho : e0.out = e1 ∧ e0.outs = l) (hl : 1 ≤ e0.life) (hf : e0.win.length ≤ 8) (hW : e0.waits.length ≤ 1000) (hla : e0.last + e0.waits.length < 18446744073709551615) :
  Calls Try.prog 17 #[.pointer (some ⟨lb i, 0, none⟩)] w fun e w' => ∃ (X : List Pv) (vo : Value), e = .returned vo ∧ Outs w' w.heap.size vo X ∧ X.map Pv.plain = l ∧ Du w0 R w' lb (upd E i e1) ∧ Keeps (R i) w w' ∧ (∀ j k, R j k → k < w.heap.size) := by
 subst hE
 have := du_out i h hl hf hW hla
 rw [ho.1, ho.2] at this
 exact this
theorem du_sendX {w0 : World} {R : Bool → Nat → Prop} {w : World} {lb : Bool → Nat} {E : Bool → En} (i : Bool) (v : Value) (d : List UInt8) {e0 e1 : En} (h : Du w0 R w lb E) (hE : E i = e0) (ht : e0.send d = e1) (hl : 1 ≤ e0.life) (hp : 1 ≤ e0.peer) (hn : e0.waits.length ≤ 1000) (hv : Sees w v d) (hd : d.length ≤ 140737488355328) :
  Calls Try.prog 12 #[.pointer (some ⟨lb i, 0, none⟩), v] w fun e w' => e = .returned (.int .i64 0) ∧ Du w0 R w' lb (upd E i e1) := by
 subst hE
 have := du_send i v d h hl hp hn hv hd
 rw [ht] at this
 exact this
theorem sees_lit (w : World) (b : UInt8) (z : Int) (hz : z = (b.toNat : Int)) : Sees (w.alloc (.cells #[.int .u8 z] 5 (1, 2))) (.slice (some ⟨w.heap.size, 0, none⟩) 1 1) [b] := by
 have h := Sees.new w [b] (1, 2) (by unfold maxLen; simp)
 simpa [u8, hz] using h
set_option maxRecDepth 100000 in
set_option maxHeartbeats 2000000 in
theorem awake20 (w : World) : Calls Try.prog 8 #[] w fun e w' => e = .returned (.bool true) ∧ Old w w' := by
 have hcv := conv_const
 have C1 := Lib.hid (lk_new 1 (by omega) w)
 go_enter Try.func8, Try.ntmps8
 go_wp2_with fail
 refine C1.out.mono ?_
 rintro e w1 ⟨rfl, o1, h1⟩
 have H1 := Lib.hid (And.intro o1 h1)
 clear o1 h1
 go_wp2_with fail
 refine (lk_new 1 (by omega) w1).mono ?_
 rintro e w2 ⟨rfl, o2, h2⟩
 have D2 := two_new w w1 w2 1 1 (by omega) H1.out.2 h2 o2
 have H2 := Lib.hid (And.intro D2 o2)
 clear o2 h2 D2
 go_wp2_with fail
 have d2 : Du w _ w2 _ _ := ⟨H2.out.1, fun i k r => (by have := H1.out.1.size; cases i <;> (simp only [aw, cond] at r; omega)), H1.out.1.trans H2.out.2⟩
 obtain ⟨R0, hR0⟩ : ∃ R0, aw (fun k => k = w.heap.size ∨ k = w.heap.size + 1) (fun k => k = w1.heap.size ∨ k = w1.heap.size + 1) = R0 := ⟨_, rfl⟩
 rw [hR0] at d2
 have d2' := d2.old ((Keeps.refl _ _).alloc (.cells #[.int .u8 120] 5 (1, 2)))
 refine (lk_send0 _ (d2'.1 false) (by decide) rfl).mono ?_
 rintro e w3 ⟨rfl, e3⟩
 have D3 := Lib.hid (e3 ▸ d2')
 clear d2 d2' e3 hR0 H1 H2
 go_wp2_with fail
 refine (du_outX false D3.out rfl ex_a1 (by decide) (by decide) (by decide) (by decide)).mono ?_
 rintro e w4 ⟨X, vo, rfl, hX, hp, D4, z4, lt4⟩
 rw [aw_a] at D4
 obtain ⟨x, rfl, hx⟩ := map_one hp
 have F4 := Lib.hid (And.intro hX (And.intro hx (And.intro D4 (And.intro lt4 z4))))
 have SM := Lib.hid (same_lit (y := ⟨1, 0, 0, 1, .slice none 0 0, []⟩) hX (Keeps.refl _ _) hx (Sees.nil _))
 clear hX hp hx D4 lt4 z4
 go_wp2_with fail
 refine SM.out.mono ?_
 rintro e w5 ⟨rfl, k5⟩
 have D5 := Lib.hid (F4.out.2.2.1.old ((litPk w4 ⟨1, 0, 0, 1, .slice none 0 0, []⟩).trans k5))
 obtain ⟨g, n, c, rfl, _, l5, ho5, hb5⟩ := outs_at ((F4.out.1.old (litPk w4 ⟨1, 0, 0, 1, .slice none 0 0, []⟩)).old k5) 0 x rfl
 rw [Nat.zero_mul] at l5
 have TK := Lib.hid (du_takeX true x D5.out rfl F4.out.2.1 ex_b1 (bs := false) (bb := true) rfl rfl (by decide) (by decide) (by decide) (by decide) ho5.sees (by decide) (fun b hb r => by have := hb5 b hb; have := F4.out.2.2.2.1 true b r; omega))
 clear SM k5 ho5 hb5
 go_wp2_with fail
 refine TK.out.mono ?_
 rintro e w6 ⟨R6, q6, n6, c6, rfl, ho6, D6, _, _⟩
 rw [aw_b] at D6
 have D6 := Lib.hid D6
 clear TK l5 ho6
 go_wp2_with fail
 -- b.Out
 refine (du_outX true D6.out rfl ex_b2 (by decide) (by decide) (by decide) (by decide)).mono ?_
 rintro e w7 ⟨X7, vo7, rfl, hX, hp, D7, z7, lt7⟩
 rw [aw_b] at D7
 obtain ⟨x7, rfl, hx⟩ := map_one hp
 have F7 := Lib.hid (And.intro hX (And.intro hx (And.intro D7 (And.intro lt7 z7))))
 have SM := Lib.hid (same_lit (y := ⟨1, 1, 0, 1, .slice none 0 0, []⟩) hX (Keeps.refl _ _) hx (Sees.nil _))
 clear hX hp hx D7 lt7 z7
 go_wp2_with fail
 refine SM.out.mono ?_
 rintro e w8 ⟨rfl, k8⟩
 have D8 := Lib.hid (F7.out.2.2.1.old ((litPk w7 ⟨1, 1, 0, 1, .slice none 0 0, []⟩).trans k8))
 obtain ⟨g7, n7, c7, rfl, _, l8, ho8, hb8⟩ := outs_at ((F7.out.1.old (litPk w7 ⟨1, 1, 0, 1, .slice none 0 0, []⟩)).old k8) 0 x7 rfl
 rw [Nat.zero_mul] at l8
 have TK := Lib.hid (du_takeX false x7 D8.out rfl F7.out.2.1 ex_a2 (bs := false) (bb := true) rfl rfl (by decide) (by decide) (by decide) (by decide) ho8.sees (by decide) (fun b hb r => by have := hb8 b hb; have := F7.out.2.2.2.1 false b r; omega))
 clear SM k8 ho8 hb8
 go_wp2_with fail
 refine TK.out.mono ?_
 rintro e w9 ⟨R9, q9, n9, c9, rfl, ho9, D9, _, _⟩
 rw [aw_a] at D9
 have D9 := Lib.hid D9
 clear TK l8 ho9
 go_wp2_with fail
 -- a.Send
 refine (du_sendX false _ [97] (D9.out.old ((Keeps.refl _ _).alloc _)) rfl ex_a3 (by decide) (by decide) (by decide) (sees_lit w9 97 97 rfl) (by decide)).mono ?_
 rintro e w10 ⟨rfl, D10⟩
 rw [aw_a] at D10
 have D10 := Lib.hid D10
 go_wp2_with fail
 -- a.Out
 refine (du_outX false D10.out rfl ex_a4 (by decide) (by decide) (by decide) (by decide)).mono ?_
 rintro e w11 ⟨X11, vo11, rfl, hX, hp, D11, z11, lt11⟩
 rw [aw_a] at D11
 obtain ⟨x11, rfl, hx⟩ := map_one hp
 obtain ⟨wl, hwl⟩ : ∃ wl, w11.alloc (.cells #[.int .u8 97] 5 (1, 2)) = wl := ⟨_, rfl⟩
 have ol : Old w11 wl := by rw [← hwl]; exact (Keeps.refl _ _).alloc _
 have sl : Sees wl (.slice (some ⟨w11.heap.size, 0, none⟩) 1 1) [97] := by rw [← hwl]; exact sees_lit w11 97 97 rfl
 have F11 := Lib.hid (And.intro hX (And.intro hx (And.intro D11 (And.intro lt11 (And.intro z11 ol)))))
 have SM := Lib.hid (same_lit (W := wl) (y := ⟨1, 1, 1, 1, .slice (some ⟨w11.heap.size, 0, none⟩) 1 1, [97]⟩) hX ol hx (sl.old (litPk wl _)))
 clear hX hp hx D11 lt11 z11 ol sl
 go_wp2_with fail
 refine SM.out.mono ?_
 rintro e w12 ⟨rfl, k12⟩
 have D12 := Lib.hid (F11.out.2.2.1.old ((F11.out.2.2.2.2.2.trans (litPk wl ⟨1, 1, 1, 1, .slice (some ⟨w11.heap.size, 0, none⟩) 1 1, [97]⟩)).trans k12))
 obtain ⟨g11, n11, c11, rfl, _, l12, ho12, hb12⟩ := outs_at ((F11.out.1.old (F11.out.2.2.2.2.2.trans (litPk wl ⟨1, 1, 1, 1, .slice (some ⟨w11.heap.size, 0, none⟩) 1 1, [97]⟩))).old k12) 0 x11 rfl
 rw [Nat.zero_mul] at l12
 have TK := Lib.hid (du_takeX true x11 D12.out rfl F11.out.2.1 ex_b3 (bs := true) (bb := false) rfl rfl (by decide) (by decide) (by decide) (by decide) ho12.sees (by decide) (fun b hb r => by have := hb12 b hb; have := F11.out.2.2.2.1 true b r; omega))
 clear SM k12 ho12 hb12 hwl
 go_wp2_with fail
 refine TK.out.mono ?_
 rintro e w13 ⟨R13, q13, n13, c13, rfl, ho13, D13, _, hb13⟩
 rw [aw_b] at D13
 have D13 := Lib.hid D13
 have HO13 := Lib.hid (And.intro ho13 hb13)
 clear TK l12 ho13 hb13
 go_wp2_with fail
 refine (du_outX true D13.out rfl ex_b4 (by decide) (by decide) (by decide) (by decide)).mono ?_
 rintro e w14 ⟨X14, vo14, rfl, hX, hp, D14, z14, lt14⟩
 rw [aw_b] at D14
 obtain ⟨x14, rfl, hx⟩ := map_one hp
 have F14 := Lib.hid (And.intro hX (And.intro hx (And.intro D14 (And.intro lt14 z14))))
 clear hX hp hx D14 lt14 z14
 have TK := Lib.hid (du_takeX false ⟨2, 0, 0, 1, .slice none 0 0, []⟩ F14.out.2.2.1 rfl rfl ex_a5 (bs := false) (bb := true) rfl rfl (by decide) (by decide) (by decide) (by decide) (Sees.nil _) (by decide) (fun b hb r => by cases hb))
 go_wp2_with fail
 refine TK.out.mono ?_
 rintro e w15 ⟨R15, q15, n15, c15, rfl, ho15, D15, k15, _⟩
 rw [aw_a] at D15
 have sm : Sees w15 (.slice q13 n13 c13) [97] := (HO13.out.1.sees.keeps F14.out.2.2.2.2 (fun b hb => HO13.out.2 b hb true)).keeps k15 (fun b hb => HO13.out.2 b hb false)
 have hx15 : Outs w15 w13.heap.size vo14 [x14] := F14.out.1.keeps k15 (fun b hb _ r => by have := F14.out.2.2.2.1 false b r; omega)
 have tx := sm.text
 have SM := Lib.hid (same_lit (W := w15) (y := ⟨1, 1, 0, 2, .slice none 0 0, []⟩) hx15 (Keeps.refl _ _) F14.out.2.1 (Sees.nil _))
 have D15 := Lib.hid D15
 clear k15 sm hx15 TK ho15
 go_wp2_with fail
 refine SM.out.mono ?_
 rintro e w16 ⟨rfl, k16⟩
 have D16 := Lib.hid (D15.out.old ((litPk w15 ⟨1, 1, 0, 2, .slice none 0 0, []⟩).trans k16))
 clear SM k16
 have CW := Lib.hid (lk_waiting (D16.out.1 false))
 have CF := Lib.hid (lk_flying (D16.out.1 false))
 go_wp2_with fail
 refine CW.out.mono ?_
 rintro e w17 ⟨rfl, rfl⟩
 go_wp2_with fail
 refine CF.out.mono ?_
 rintro e w18 ⟨rfl, rfl⟩
 go_wp2_with fail
 go_ret
 exact ⟨rfl, D16.out.2.2⟩
end Go.Proofs.Ytllnlimbfoingaa
