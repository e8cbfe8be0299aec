/- DERIVED. Chapter 20: LinkPlays, walked. -/
import Derived.Test.YtllnlimbfoingaaZLinkPlays04
import Derived.Test.YtllnlimbfoingaaZLinkPlays07
import Derived.Deep.CutBlock
namespace Go.Proofs.Ytllnlimbfoingaa
open Go.RowKit Go.Conc

theorem xor255' (b : UInt8) : ∃ b' : UInt8, bits .xor .u8 (b.toNat : Int) 255 = (b'.toNat : Int) := by
 have h : ∀ x : Fin 256, bits .xor .u8 (x.val : Int) 255 = ((255 - x.val : Nat) : Int) := by decide +kernel
 refine ⟨UInt8.ofNat (255 - b.toNat), ?_⟩
 rw [h ⟨b.toNat, b.toNat_lt⟩, UInt8.toNat_ofNat']
 have := b.toNat_lt
 simp
 omega
/-- a call -/
abbrev Ac := Int × Pv
def acL (x : Ac) : List Value := .int .i64 x.1 :: x.2.cells
/-- what the calls read as -/
def AcIn (w : World) (l : List Ac) : Prop := ∀ x ∈ l, Sees w x.2.v x.2.d ∧ x.2.d.length ≤ 140737488355328
/-- both ends, behind i calls -/
def PlS (w0 w : World) (lb db i : Nat) : Prop := ∃ (R M : Nat → Prop) (P : Dp), PlH w0 w lb db R M P.en P ∧ PB P i
theorem PlS.old {w0 w w1 : World} {lb db i : Nat} (h : PlS w0 w lb db i) (hk : Old w w1) : PlS w0 w1 lb db i := by
 obtain ⟨R, M, P, h1, h2⟩ := h
 exact ⟨R, M, P, h1.old' hk, h2⟩
/-- behind the switch: i + 1 calls are done; own still is as it was, its data may be written -/
def MidP (w0 w : World) (lb db b11 i B : Nat) (v : Value) (cs : Array Value) (d : List UInt8) : Prop :=
 ∃ (R M : Nat → Prop) (P : Dp), PlH w0 w lb db R M P.en P ∧ PB P (i + 1) ∧ w.heap[b11]? = some (.cells cs 37 (0, 0)) ∧ ¬ M b11 ∧ Owns w B v d ∧ ∀ bb, v.ownBlock = some bb → M bb
theorem owns_put {w : World} {B : Nat} {p : Option Addr} {n c : Nat} {m : List UInt8} (h : Owns w B (.slice p n c) m) (i : Nat) (hi : i < m.length) :
  ∃ (g : Nat) (x y : UInt8), p = some ⟨g, 0, none⟩ ∧ w.cell? ⟨g, i, none⟩ = some (.int .u8 (x.toNat : Int)) ∧ w.frozen? ⟨g, i, none⟩ = false ∧ bits .xor .u8 (x.toNat : Int) 255 = (y.toNat : Int) ∧
   Owns (w.setCell ⟨g, i, none⟩ (.int .u8 (y.toNat : Int))) B (.slice p n c) (m.set i y) := by
 obtain ⟨p0, c0, he, _, _⟩ := h.sees.len
 simp only [Value.slice.injEq] at he
 obtain ⟨_, rfl, _⟩ := he
 obtain ⟨g, hg⟩ : ∃ g, p = some ⟨g, 0, none⟩ := by
  rcases h.2 with ⟨e, h⟩ | ⟨g, cap, cur, e, _⟩
  ·simp only [Value.slice.injEq] at e; omega
  ·simp only [Value.slice.injEq] at e; exact ⟨g, e.1⟩
 subst hg
 obtain ⟨x, hx⟩ : ∃ x, m[i]? = some x := ⟨_, List.getElem?_eq_getElem hi⟩
 have hm' : w.ownsRow B 5 1 (.slice (some ⟨g, 0, none⟩) m.length c) m.length (m.map u8) := h
 obtain ⟨y, hy⟩ := xor255' x
 refine ⟨g, x, y, rfl, ?_, World.ownsRow.frozenAt hm' i, hy, ?_⟩
 ·rw [World.ownsRow.cellAt hm' i (by omega), List.getElem?_map, hx]; rfl
 ·unfold Owns
  rw [List.length_set, List.map_set]
  exact (World.ownsRow.stored hm' i (.int .u8 (y.toNat : Int))).1
theorem anewB_eq (P : Dp) (p : Pk) : P.anewB p = decide (P.peer < p.src) := by
 unfold Dp.anewB
 by_cases h : P.peer < p.src
 ·rw [decide_eq_true h, decide_eq_false (by omega : ¬ (p.src = 0 ∨ p.src < P.peer))]; rfl
 ·rw [decide_eq_false h, Bool.and_false]
theorem midP_of {w0 w wf : World} {lb db b11 i B : Nat} {R M R' M' : Nat → Prop} {E : En} {P P' : Dp} {v : Value} {cs : Array Value} {d : List UInt8} (h0 : PlH w0 w lb db R M E P) (hb : w.heap[b11]? = some (.cells cs 37 (0, 0))) (nr : ¬ R b11) (nd : b11 ≠ db) (ho : Owns w B v d) (hM : ∀ bb, v.ownBlock = some bb → M bb)
  (hk : Keeps (fun k => R k ∨ k = db) w wf) (h' : PlH w0 wf lb db R' M' P'.en P') (hp : PB P' (i + 1)) (hM' : ∀ k, M k → M' k) (nm : ¬ M' b11) : MidP w0 wf lb db b11 i B v cs d :=
 ⟨R', M', P', h', hp, (hk.block _ (lt_of_block hb) (fun e => e.elim nr nd)).trans hb, nm, ho.keeps hk (fun bb hbb e => by
  have h1 := h0.lt.2.1 bb (hM bb hbb)
  exact e.elim h1.2.1 h1.2.2), fun bb hbb => hM' bb (hM bb hbb)⟩
/-- what holds ahead of the switch -/
structure RdP (w w3 : World) (lb db b10 b11 i B : Nat) (R M : Nat → Prop) (P : Dp) (vq va : Value) (c10 c11 : Array Value) (d : List UInt8) : Prop where
 h : PlH w w3 lb db R M P.en P
 hb : PB P i
 nr11 : ¬ R b11
 nm11 : ¬ M b11
 nd11 : b11 ≠ db
 nr10 : ¬ R b10
 nm10 : ¬ M b10
 nd10 : b10 ≠ db
 hM : ∀ bb, vq.ownBlock = some bb → M bb
 hown : Owns w3 B vq d
 hb10 : w3.heap[b10]? = some (.cells c10 36 (0, 0))
 hb3 : w3.heap[b11]? = some (.cells c11 37 (0, 0))
 hww : Old w w3
 hEl : 1 ≤ P.en.life
 hEw : P.en.win.length ≤ 8
 hEa : P.en.waits.length ≤ 1000
 hEz : P.en.last + P.en.waits.length < 18446744073709551615
 hEn : P.en.next < 18446744073709551615
 hsv : Sees w va d
 hsl : d.length ≤ 140737488355328
 hos : Sees w3 vq d
 all : P.F.length + P.W.length ≤ 1000
theorem blk6 {w : World} {b : Nat} {t : TypeId} {a0 a1 a2 a3 a4 a5 : Value} (h : w.heap[b]? = some (.cells #[a0, a1, a2, a3, a4, a5] t (0, 0))) :
  w.cell? ⟨b, 0, none⟩ = some a0 ∧ w.cell? ⟨b, 1, none⟩ = some a1 ∧ w.cell? ⟨b, 2, none⟩ = some a2 ∧ w.cell? ⟨b, 3, none⟩ = some a3 ∧ w.cell? ⟨b, 4, none⟩ = some a4 ∧ w.cell? ⟨b, 5, none⟩ = some a5 := by simp [World.cell?, h]
set_option maxRecDepth 100000 in
set_option maxHeartbeats 4000000 in
theorem plays_any (life : Nat) (v : Value) (l : List Ac) (w : World) (hv : SeesR w 6 acL v l) (hl : AcIn w l) : Calls Try.prog 3 #[.int .u64 (life : Int), v] w fun e w' => e = .returned (.bool true) ∧ Below w.heap.size w w' := by
 obtain ⟨vp, vc, rfl, hle, hmx⟩ := hv.len
 have hlm : l.length ≤ 9223372036854775807 := by unfold maxLen at hmx; omega
 have HI := Lib.hid (And.intro hv hl)
 have CA := Lib.hid (awake20 w)
 clear hv hl hle hmx
 go_enter Try.func3, Try.ntmps3
 go_wp2_with fail
 refine CA.out.mono ?_
 rintro e w0 ⟨rfl, o0⟩
 have O0 := Lib.hid o0
 clear o0 CA
 by_cases hl0 : life = 0
 ·subst hl0
  go_wp2_with fail
  refine (lnew_no w0).mono ?_
  rintro e w1 ⟨rfl, rfl⟩
  go_wp2_with fail
  refine (dk_new0 w0).mono ?_
  rintro e w1 ⟨rfl, rfl⟩
  go_wp2_with fail
  go_ret
  exact ⟨rfl, O0.out.below⟩
 ·have hl1 : 1 ≤ life := by omega
  clear hl0
  go_wp2_with fail
  refine (lk_new life hl1 w0).mono ?_
  rintro e w1 ⟨rfl, o1, h1⟩
  have F1 := Lib.hid (And.intro o1 h1)
  clear o1 h1
  go_wp2_with fail
  refine (dk_new life hl1 w1).mono ?_
  rintro e w2 ⟨rfl, o2, h2⟩
  obtain ⟨lb, hlb⟩ : ∃ lb, w0.heap.size = lb := ⟨_, rfl⟩
  obtain ⟨db, hdb⟩ : ∃ db, w1.heap.size = db := ⟨_, rfl⟩
  have S0 : Hid (PlS w w2 lb db 0) := Lib.hid (by
   obtain ⟨o1, h1⟩ := F1.out
   have s0 := O0.out.size
   have s1 := o1.size
   have hlt := (h1 (fun k => False) (fun _ f => f.elim)).facts.2.2.1
   have hlb2 := hlt w0.heap.size (.inl rfl)
   have hlb3 := hlt (w0.heap.size + 1) (.inr rfl)
   refine ⟨fun k => k = w0.heap.size ∨ k = w0.heap.size + 1, fun _ => False, Dp.new life, ⟨?_, ?_, fun k r => ?_, by omega, O0.out.trans (o1.trans o2)⟩, PB.new hl1⟩
   ·subst hlb hdb
    have hdk := (h2 (fun k => False) (fun _ f => f.elim)).lt.2.1
    exact (h1 (fun _ => False) (fun _ f => f.elim)).to (o2.weaken (fun _ _ f => f.elim)) (fun k t => by rcases t with t | t; exact t.elim; exact .inr (by omega)) (fun k t => by rcases t with t | t; exact t.elim; rw [t]; exact hdk)
   ·subst hlb hdb
    exact h2 _ (fun k t => by rcases t with t | t | t; exact t.elim; (rw [t]; exact hlb2); (rw [t]; exact hlb3))
   ·rcases r with (r | r) | r
    ·omega
    ·omega
    ·exact r.elim)
  clear o2 h2 F1
  rw [hlb, hdb]
  clear hlb hdb
  go_wp2_with fail
  go_loopg [50] l.length (fun n v50 wm => ∃ i : Nat, i ≤ l.length ∧ i ≤ 200 ∧ n = l.length - i ∧ v50 = .int .i64 (i : Int) ∧ PlS w wm lb db i)
  case atStart => exact ⟨0, Nat.zero_le _, by omega, rfl, rfl, S0.out⟩
  case round =>
   obtain ⟨i, hi, hi2, rfl, rfl, hS⟩ := hrel
   obtain ⟨wo, rfl⟩ : ∃ wo : World, wo = wr := ⟨_, rfl⟩
   by_cases hlt : i < l.length
   ·have q1 : decide ((i : Int) < (l.length : Int)) = true := by simp; omega
    by_cases h200 : i = 200
    ·subst h200
     obtain ⟨b, o, cc, he, _, _, hc⟩ := HI.out.1.at (by omega)
     simp only [Value.slice.injEq, true_and] at he
     obtain ⟨rfl, rfl⟩ := he
     obtain ⟨⟨xw, xp⟩, hx⟩ : ∃ x, l[200]? = some x := ⟨_, List.getElem?_eq_getElem hlt⟩
     obtain ⟨x0, x1, x2, x3, xv, xd⟩ := xp
     have sx := (HI.out.2 _ (List.mem_of_getElem? hx)).1
     simp only at sx
     obtain ⟨pp, pc, rfl, _, _⟩ := sx.len
     have hold : Old w wo := by obtain ⟨R, M, P, h, _⟩ := hS; exact h.old
     have c0 : wo.cell? ⟨b, o + 200 * 6, none⟩ = some (.int .i64 xw) := by have := hold.cell (hc 200 _ hx 0 _ rfl) (fun f => f); simpa using this
     have c1 : wo.cell? ⟨b, o + 200 * 6 + 1, none⟩ = some (.int .u64 (x0 : Int)) := by have := hold.cell (hc 200 _ hx 1 _ rfl) (fun f => f); simpa using this
     have c2 : wo.cell? ⟨b, o + 200 * 6 + 2, none⟩ = some (.int .u64 (x1 : Int)) := by have := hold.cell (hc 200 _ hx 2 _ rfl) (fun f => f); simpa using this
     have c3 : wo.cell? ⟨b, o + 200 * 6 + 3, none⟩ = some (.int .u64 (x2 : Int)) := by have := hold.cell (hc 200 _ hx 3 _ rfl) (fun f => f); simpa using this
     have c4 : wo.cell? ⟨b, o + 200 * 6 + 4, none⟩ = some (.int .u64 (x3 : Int)) := by have := hold.cell (hc 200 _ hx 4 _ rfl) (fun f => f); simpa using this
     have c5 : wo.cell? ⟨b, o + 200 * 6 + 5, none⟩ = some (.slice pp xd.length pc) := by have := hold.cell (hc 200 _ hx 5 _ rfl) (fun f => f); simpa using this
     have hle : (200 : Int) < (l.length : Int) := by omega
     have HO := Lib.hid hold
     clear hold hS hc hx sx
     go_wp2_with fail
     go_ret
     exact ⟨rfl, Old.below (HO.out.trans ((Keeps.refl _ _).alloc _))⟩
    ·obtain ⟨b, o, cc, he, _, _, hc⟩ := HI.out.1.at (by omega)
     simp only [Value.slice.injEq, true_and] at he
     obtain ⟨rfl, rfl⟩ := he
     obtain ⟨⟨xw, xp⟩, hx⟩ : ∃ x, l[i]? = some x := ⟨_, List.getElem?_eq_getElem hlt⟩
     have sx := HI.out.2 _ (List.mem_of_getElem? hx)
     obtain ⟨x0, x1, x2, x3, xv, xd⟩ := xp
     simp only at sx
     obtain ⟨pp, pc, rfl, _, _⟩ := sx.1.len
     have hold : Old w wo := by obtain ⟨R, M, P, h, _⟩ := hS; exact h.old
     have c0 : wo.cell? ⟨b, o + i * 6, none⟩ = some (.int .i64 xw) := by have := hold.cell (hc i _ hx 0 _ rfl) (fun f => f); simpa using this
     have c1 : wo.cell? ⟨b, o + i * 6 + 1, none⟩ = some (.int .u64 (x0 : Int)) := by have := hold.cell (hc i _ hx 1 _ rfl) (fun f => f); simpa using this
     have c2 : wo.cell? ⟨b, o + i * 6 + 2, none⟩ = some (.int .u64 (x1 : Int)) := by have := hold.cell (hc i _ hx 2 _ rfl) (fun f => f); simpa using this
     have c3 : wo.cell? ⟨b, o + i * 6 + 3, none⟩ = some (.int .u64 (x2 : Int)) := by have := hold.cell (hc i _ hx 3 _ rfl) (fun f => f); simpa using this
     have c4 : wo.cell? ⟨b, o + i * 6 + 4, none⟩ = some (.int .u64 (x3 : Int)) := by have := hold.cell (hc i _ hx 4 _ rfl) (fun f => f); simpa using this
     have c5 : wo.cell? ⟨b, o + i * 6 + 5, none⟩ = some (.slice pp xd.length pc) := by have := hold.cell (hc i _ hx 5 _ rfl) (fun f => f); simpa using this
     have q2 : (0 : Int) ≤ (i : Int) := by omega
     have q3 : (i : Int) < (l.length : Int) := by omega
     have q4 : ((i : Int) == 200) = false := by simp; omega
     obtain ⟨w1, hw1⟩ : ∃ w1, wo.alloc (.cells #[.int .i64 xw, .int .u64 (x0 : Int), .int .u64 (x1 : Int), .int .u64 (x2 : Int), .int .u64 (x3 : Int), .slice pp xd.length pc] 36) = w1 := ⟨_, rfl⟩
     have o1 : Old wo w1 := by rw [← hw1]; exact (Keeps.refl _ _).alloc _
     have b1 : w1.heap[wo.heap.size]? = some (.cells #[.int .i64 xw, .int .u64 (x0 : Int), .int .u64 (x1 : Int), .int .u64 (x2 : Int), .int .u64 (x3 : Int), .slice pp xd.length pc] 36 (0, 0)) := by rw [← hw1]; exact heap_alloc_new _ _
     obtain ⟨y0, y1, y2, y3, y4, y5⟩ := blk6 b1
     have CO := Lib.hid (ours_own ⟨x0, x1, x2, x3, .slice pp xd.length pc, xd⟩ w1 ((sx.1.old hold).old o1) sx.2)
     have F1 := Lib.hid (And.intro hS (And.intro o1 (And.intro b1 (And.intro sx (And.intro hold (And.intro hlt (And.intro h200 hi2)))))))
     clear hold hS hc hx sx o1 b1 h200 hi2
     go_wp2_with fail
     refine CO.out.mono ?_
     rintro e w2 ⟨q, rfl, hq, ho2, hk2⟩
     obtain ⟨r0, r1, r2, r3, qv, qd⟩ := q
     simp only [Pv.plain, Pk.mk.injEq] at hq
     obtain ⟨rfl, rfl, rfl, rfl, rfl⟩ := hq
     simp only at ho2
     obtain ⟨qp, qc, rfl, _, _⟩ := ho2.sees.len
     simp only [Pv.cells]
     obtain ⟨w3, hw3⟩ : ∃ w3, w2.alloc (.cells #[.int .u64 (r0 : Int), .int .u64 (r1 : Int), .int .u64 (r2 : Int), .int .u64 (r3 : Int), .slice qp qd.length qc] 37) = w3 := ⟨_, rfl⟩
     have o3 : Old w2 w3 := by rw [← hw3]; exact (Keeps.refl _ _).alloc _
     have b3 : w3.heap[w2.heap.size]? = some (.cells #[.int .u64 (r0 : Int), .int .u64 (r1 : Int), .int .u64 (r2 : Int), .int .u64 (r3 : Int), .slice qp qd.length qc] 37 (0, 0)) := by rw [← hw3]; exact heap_alloc_new _ _
     obtain ⟨b11, hb11⟩ : ∃ b11, w2.heap.size = b11 := ⟨_, rfl⟩
     have b10 := ((hk2.trans o3).block _ (lt_of_block F1.out.2.2.1) (fun f => f)).trans F1.out.2.2.1
     have md : ∃ (R M : Nat → Prop) (P : Dp), PlH w w3 lb db R M P.en P ∧ PB P i ∧ ¬ R b11 ∧ ¬ M b11 ∧ b11 ≠ db ∧ ¬ R wo.heap.size ∧ ¬ M wo.heap.size ∧ wo.heap.size ≠ db ∧ (∀ bb, (Value.slice qp qd.length qc).ownBlock = some bb → M bb) := by
      obtain ⟨R, M, P, h, hb⟩ := F1.out.1
      have h1 := h.old' F1.out.2.1
      have h2 := h1.more hk2
      have h3 := h2.old' o3
      have s1 := F1.out.2.1.size
      have s2 := hk2.size
      have z1 := lt_of_block F1.out.2.2.1
      refine ⟨R, _, P, h3, hb, fun r => ?_, fun m => ?_, ?_, fun r => ?_, fun m => ?_, ?_, fun bb hbb => .inr (ho2.block bb hbb)⟩
      ·have := h.lt.1 _ r; omega
      ·rcases m with m | m
       ·have := (h.lt.2.1 _ m).1; omega
       ·omega
      ·have := h.lt.2.2.1; omega
      ·have := h.lt.1 _ r; omega
      ·rcases m with m | m
       ·have := (h.lt.2.1 _ m).1; omega
       ·omega
      ·have := h.lt.2.2.1; omega
     rw [hb11] at b3
     have F3 := Lib.hid (And.intro md (And.intro (ho2.old o3) (And.intro b10 b3)))
     clear md ho2 o3 hk2 c0 c1 c2 c3 c4 c5 y0 y1 y2 y3 y4 y5
     obtain ⟨y0, y1, y2, y3, y4, y5⟩ := blk6 b10
     obtain ⟨⟨z0, z1, z2, z3, z4⟩, -⟩ := blk5 b3
     clear b10 b3
     go_upto_block 2 with fail
     clear hw3 hb11
     go_cut [] (fun wc => MidP w wc lb db b11 i w1.heap.size (.slice qp qd.length qc) #[.int .u64 (r0 : Int), .int .u64 (r1 : Int), .int .u64 (r2 : Int), .int .u64 (r3 : Int), .slice qp qd.length qc] qd)
     case first =>
      obtain ⟨⟨R, M, P, h, hb, nr11, nm11, nd11, nr10, nm10, nd10, hM⟩, hown, hb10, hb3⟩ := F3.out
      have hsx := F1.out.2.2.2.1
      have X : Hid (RdP w w3 lb db wo.heap.size b11 i w1.heap.size R M P (.slice qp qd.length qc) (.slice pp qd.length pc) #[.int .i64 xw, .int .u64 (r0 : Int), .int .u64 (r1 : Int), .int .u64 (r2 : Int), .int .u64 (r3 : Int), .slice pp qd.length pc] #[.int .u64 (r0 : Int), .int .u64 (r1 : Int), .int .u64 (r2 : Int), .int .u64 (r3 : Int), .slice qp qd.length qc] qd) := Lib.hid (by
       have hi200 : i ≤ 200 := F1.out.2.2.2.2.2.2.2
       have ha := hb.all
       have hn := hb.next
       exact ⟨h, hb, nr11, nm11, nd11, nr10, nm10, nd10, hM, hown, hb10, hb3, h.old, hb.life, by rw [en_win]; exact hb.eight, by show P.W.length ≤ 1000; omega, by show P.F.length + P.W.length < _; omega, by show P.next < _; omega, hsx.1, hsx.2, hown.sees, by omega⟩)
      clear h hb nr11 nm11 nd11 nr10 nm10 nd10 hM hown hb10 hb3 hsx
      by_cases h0 : xw = 0
      ·subst h0
       by_cases hp : P.peer = 0
       ·have L1 := Lib.hid (fun n => (lk_send0 (.slice qp qd.length qc) (X.out.h.old' ((Keeps.refl (fun _ => False) w3).drewN n)).lk X.out.hEl hp).mono (fun _ _ h => And.intro h.1 h.2.symm))
        have L2 := Lib.hid (fun n => (dk_send0 (.slice pp qd.length pc) (X.out.h.old' ((Keeps.refl (fun _ => False) w3).drewN n)).dk hp).mono (fun _ _ h => And.intro h.1 h.2.symm))
        clear hp
        go_upto_region 16 with fail
        go_quiet (first | (go_at_call 12; refine Calls.quiet_of_same (L1.out _)) | (go_at_call 13; refine Calls.quiet_of_same (L2.out _)))
        go_wp2_with fail
        go_meet
        case rel =>
         have x := X.out
         exact midP_of x.h x.hb3 x.nr11 x.nd11 x.hown x.hM ((Keeps.refl _ _).drewN _) (x.h.old' ((Keeps.refl (fun _ => False) w3).drewN _)) (x.hb.le (by omega)) (fun _ m => m) x.nm11
       ·have hpp : 1 ≤ P.peer := by omega
        have hpe : 1 ≤ P.en.peer := hpp
        clear hp y0 y1 y2 y3 y4 y5 z0 z1 z2 z3 z4
        go_upto_region 16 with fail
        refine wp_region_g (S := fun W => W.heap[b11]? = some (.cells #[.int .u64 (r0 : Int), .int .u64 (r1 : Int), .int .u64 (r2 : Int), .int .u64 (r3 : Int), .slice qp qd.length qc] 37 (0, 0)) ∧ W.heap[wo.heap.size]? = some (.cells #[.int .i64 0, .int .u64 (r0 : Int), .int .u64 (r1 : Int), .int .u64 (r2 : Int), .int .u64 (r3 : Int), .slice pp qd.length pc] 36 (0, 0))) (M := List.range 10) (by kernel_rfl) ?_
        obtain ⟨wd, hwd⟩ : ∃ wd, w3.drew = wd := ⟨_, rfl⟩
        have KD : Hid (PlH w wd lb db R M P.en P ∧ Keeps (fun k => R k ∨ k = db) w3 wd ∧ True) := Lib.hid (by rw [← hwd]; exact ⟨X.out.h.old' (Keeps.refl (fun _ => False) w3).drew, (Keeps.refl _ w3).drew, trivial⟩)
        have hS : wd.heap[b11]? = some (.cells #[.int .u64 (r0 : Int), .int .u64 (r1 : Int), .int .u64 (r2 : Int), .int .u64 (r3 : Int), .slice qp qd.length qc] 37 (0, 0)) ∧ wd.heap[wo.heap.size]? = some (.cells #[.int .i64 0, .int .u64 (r0 : Int), .int .u64 (r1 : Int), .int .u64 (r2 : Int), .int .u64 (r3 : Int), .slice pp qd.length pc] 36 (0, 0)) := by rw [← hwd]; exact ⟨X.out.hb3, X.out.hb10⟩
        rw [hwd]
        clear hwd
        refine wpAnyG_takeL (i := 0) (oi := _) (v := ?vt0) rfl (by kernel_rfl) (by kernel_rfl) (by kernel_rfl) (by kernel_rfl) (fun _ _ _ h => h) (Or.inl ⟨by rfl, ?yt0⟩) hS ?rt0
        case yt0 => (intro W hSw; obtain ⟨⟨v0, v1, v2, v3, v4⟩, -⟩ := blk5 hSw.1; obtain ⟨u0', u1', u2', u3', u4', u5'⟩ := blk6 hSw.2; go_simp; try with_reducible rfl)
        try simp only [Act.put, List.setIfInBounds_toArray, List.set_cons_zero, List.set_cons_succ]
        refine wpAnyG_takeL (i := 1) (oi := _) (v := ?vt1) rfl (by kernel_rfl) (by kernel_rfl) (by kernel_rfl) (by kernel_rfl) (fun _ _ _ h => h) (Or.inl ⟨by rfl, ?yt1⟩) hS ?rt1
        case yt1 => (intro W hSw; obtain ⟨⟨v0, v1, v2, v3, v4⟩, -⟩ := blk5 hSw.1; obtain ⟨u0', u1', u2', u3', u4', u5'⟩ := blk6 hSw.2; go_simp; try with_reducible rfl)
        try simp only [Act.put, List.setIfInBounds_toArray, List.set_cons_zero, List.set_cons_succ]
        refine wpAnyG_takeL (i := 2) (oi := _) (v := ?vt2) rfl (by kernel_rfl) (by kernel_rfl) (by kernel_rfl) (by kernel_rfl) (fun _ _ _ h => h) (Or.inl ⟨by rfl, ?yt2⟩) hS ?rt2
        case yt2 => (intro W hSw; obtain ⟨⟨v0, v1, v2, v3, v4⟩, -⟩ := blk5 hSw.1; obtain ⟨u0', u1', u2', u3', u4', u5'⟩ := blk6 hSw.2; go_simp; try with_reducible rfl)
        try simp only [Act.put, List.setIfInBounds_toArray, List.set_cons_zero, List.set_cons_succ]
        refine wpAnyG_takeL (i := 4) (oi := _) (v := ?vt4) rfl (by kernel_rfl) (by kernel_rfl) (by kernel_rfl) (by kernel_rfl) (fun _ _ _ h => h) (Or.inl ⟨by rfl, ?yt4⟩) hS ?rt4
        case yt4 => (intro W hSw; obtain ⟨⟨v0, v1, v2, v3, v4⟩, -⟩ := blk5 hSw.1; obtain ⟨u0', u1', u2', u3', u4', u5'⟩ := blk6 hSw.2; go_simp; try with_reducible rfl)
        try simp only [Act.put, List.setIfInBounds_toArray, List.set_cons_zero, List.set_cons_succ]
        refine wpAnyG_takeL (i := 5) (oi := _) (v := ?vt5) rfl (by kernel_rfl) (by kernel_rfl) (by kernel_rfl) (by kernel_rfl) (fun _ _ _ h => h) (Or.inl ⟨by rfl, ?yt5⟩) hS ?rt5
        case yt5 => (intro W hSw; obtain ⟨⟨v0, v1, v2, v3, v4⟩, -⟩ := blk5 hSw.1; obtain ⟨u0', u1', u2', u3', u4', u5'⟩ := blk6 hSw.2; go_simp; try with_reducible rfl)
        try simp only [Act.put, List.setIfInBounds_toArray, List.set_cons_zero, List.set_cons_succ]
        refine wpAnyG_takeL (i := 6) (oi := _) (v := ?vt6) rfl (by kernel_rfl) (by kernel_rfl) (by kernel_rfl) (by kernel_rfl) (fun _ _ _ h => h) (Or.inl ⟨by rfl, ?yt6⟩) hS ?rt6
        case yt6 => (intro W hSw; obtain ⟨⟨v0, v1, v2, v3, v4⟩, -⟩ := blk5 hSw.1; obtain ⟨u0', u1', u2', u3', u4', u5'⟩ := blk6 hSw.2; go_simp; try with_reducible rfl)
        try simp only [Act.put, List.setIfInBounds_toArray, List.set_cons_zero, List.set_cons_succ]
        refine wpAnyG_takeL (i := 7) (oi := _) (v := ?vt7) rfl (by kernel_rfl) (by kernel_rfl) (by kernel_rfl) (by kernel_rfl) (fun _ _ _ h => h) (Or.inl ⟨by rfl, ?yt7⟩) hS ?rt7
        case yt7 => (intro W hSw; obtain ⟨⟨v0, v1, v2, v3, v4⟩, -⟩ := blk5 hSw.1; obtain ⟨u0', u1', u2', u3', u4', u5'⟩ := blk6 hSw.2; go_simp; try with_reducible rfl)
        try simp only [Act.put, List.setIfInBounds_toArray, List.set_cons_zero, List.set_cons_succ]
        refine wpAnyG_onlyL (i := 3) (o := _) (by kernel_rfl) rfl (fun K hK => ?_)
        go_simp
        refine (h_send (.slice qp qd.length qc) qd KD.out.1 X.out.hEl hpe X.out.hEa (X.out.hos.keeps KD.out.2.1 (fun bb hbb e => by have h1 := X.out.h.lt.2.1 bb (X.out.hM bb hbb); exact e.elim h1.2.1 h1.2.2)) X.out.hsl).mono ?_
        rintro e wep ⟨rfl, h4, k4⟩
        have hSe : wep.heap[b11]? = some (.cells #[.int .u64 (r0 : Int), .int .u64 (r1 : Int), .int .u64 (r2 : Int), .int .u64 (r3 : Int), .slice qp qd.length qc] 37 (0, 0)) ∧ wep.heap[wo.heap.size]? = some (.cells #[.int .i64 0, .int .u64 (r0 : Int), .int .u64 (r1 : Int), .int .u64 (r2 : Int), .int .u64 (r3 : Int), .slice pp qd.length pc] 36 (0, 0)) := ⟨(k4.block _ (lt_of_block hS.1) X.out.nr11).trans hS.1, (k4.block _ (lt_of_block hS.2) X.out.nr10).trans hS.2⟩
        have KEp := Lib.hid (And.intro h4 (And.intro (KD.out.2.1.trans (k4.weaken (fun _ _ r => .inl r))) trivial))
        clear h4 k4
        go_wp2_with fail
        refine hK.out _ _ (fun _ => hSe) ?_
        clear hK K
        try simp only [Act.put, List.setIfInBounds_toArray, List.set_cons_zero, List.set_cons_succ]
        refine wpAnyG_onlyL (i := 8) (o := _) (by kernel_rfl) rfl (fun K hK => ?_)
        go_simp
        refine (h_dsend (.slice pp qd.length pc) qd KEp.out.1 hpp X.out.hEa (X.out.hsv.old KEp.out.1.old) X.out.hsl).mono ?_
        rintro e wgp ⟨rfl, h4, k4⟩
        have hSg : wgp.heap[b11]? = some (.cells #[.int .u64 (r0 : Int), .int .u64 (r1 : Int), .int .u64 (r2 : Int), .int .u64 (r3 : Int), .slice qp qd.length qc] 37 (0, 0)) ∧ wgp.heap[wo.heap.size]? = some (.cells #[.int .i64 0, .int .u64 (r0 : Int), .int .u64 (r1 : Int), .int .u64 (r2 : Int), .int .u64 (r3 : Int), .slice pp qd.length pc] 36 (0, 0)) := ⟨(k4.block _ (lt_of_block hSe.1) X.out.nd11).trans hSe.1, (k4.block _ (lt_of_block hSe.2) X.out.nd10).trans hSe.2⟩
        have KGp := Lib.hid (And.intro h4 (KEp.out.2.1.trans (k4.weaken (fun _ _ e => .inr e))))
        clear h4 k4
        go_wp2_with fail
        refine hK.out _ _ (fun _ => hSg) ?_
        clear hK K
        try simp only [Act.put, List.setIfInBounds_toArray, List.set_cons_zero, List.set_cons_succ]
        refine wpAnyG_onlyL (i := 9) (o := _) (by kernel_rfl) rfl (fun K hK => ?_)
        go_simp
        refine hK.out _ _ (fun _ => hSg) ?_
        clear hK K
        try simp only [Act.put, List.setIfInBounds_toArray, List.set_cons_zero, List.set_cons_succ]
        refine wpAnyG_done (by kernel_rfl) ?_ _
        clear hS hSe hSg
        go_wp2_with fail
        go_meet
        case rel =>
         have x := X.out
         exact midP_of (P' := P.send qd) x.h x.hb3 x.nr11 x.nd11 x.hown x.hM KGp.out.2 KGp.out.1 (x.hb.send qd) (fun _ m => m) x.nm11
      ·have g0 : (xw == 0) = false := by simp [h0]
       clear h0
       by_cases h1 : xw = 1
       ·subst h1
        clear g0
        go_wp2_with fail
        refine (h_take ⟨r0, r1, r2, r3, .slice qp qd.length qc, qd⟩ X.out.h X.out.hEl X.out.hEw (by have := X.out.hEz; omega) X.out.hEn X.out.hos X.out.hsl (fun b hb r => (X.out.h.lt.2.1 b (X.out.hM b hb)).2.1 r)).mono ?_
        rintro e w4 ⟨R', M', tq, tn, tc, rfl, ho4, h4, k4, mm4, mb4, rr4, mn4⟩
        have b104 := (k4.block _ (lt_of_block X.out.hb10) X.out.nr10).trans X.out.hb10
        obtain ⟨v0, v1, v2, v3, v4, v5⟩ := blk6 b104
        have sv4 : ∀ W, Keeps (fun k => k = db) w4 W → Sees W (.slice pp qd.length pc) qd := fun W kW => X.out.hsv.old (h4.old.then kW (fun i hi e => by have := h4.db0; omega))
        obtain ⟨tn', htn⟩ : ∃ n, tn = n := ⟨_, rfl⟩
        have Y := Lib.hid (And.intro ho4 (And.intro h4 (And.intro k4 (And.intro mm4 (And.intro mb4 (And.intro rr4 (And.intro mn4 sv4)))))))
        clear ho4 h4 k4 mm4 mb4 rr4 mn4 b104 sv4 y0 y1 y2 y3 y4 y5 z0 z1 z2 z3 z4 htn
        go_wp2_with fail
        refine (h_dtake ⟨r0, r1, r2, r3, .slice pp qd.length pc, qd⟩ Y.out.2.1 X.out.hb.done X.out.hEn Y.out.2.2.2.2.2.2.2 X.out.hsl).mono ?_
        rintro e w5 ⟨uq, un, uc, rfl, ho5, h5, k5⟩
        have hT := en_take P ⟨r0, r1, r2, r3, qd⟩ X.out.hb.done
        have hT1 : (P.take ⟨r0, r1, r2, r3, qd⟩).1.en = (P.en.take ⟨r0, r1, r2, r3, qd⟩).1 := congrArg Prod.fst hT
        have hT2 : (P.take ⟨r0, r1, r2, r3, qd⟩).2 = (P.en.take ⟨r0, r1, r2, r3, qd⟩).2 := congrArg Prod.snd hT
        simp only [Pv.plain] at h5 ho5
        have hY := Y.out
        simp only [Pv.plain] at hY
        rw [hT2] at ho5
        have own5 : Owns w5 w3.heap.size (.slice tq tn tc) ((P.en.take ⟨r0, r1, r2, r3, qd⟩).2.getD []) := hY.1.keeps k5 (fun b hb e => (hY.2.1.lt.2.1 b (hY.2.2.2.2.1 b hb)).2.2 e)
        have EQ := Lib.hid (equal_any _ _ _ _ w5 own5.sees ho5.sees)
        obtain ⟨ml, hml⟩ : ∃ ml, (P.en.take ⟨r0, r1, r2, r3, qd⟩).2.getD [] = ml := ⟨_, rfl⟩
        rw [hml] at own5 EQ
        rw [beq_self_eq_true] at EQ
        obtain ⟨tp', tc', htv, _, _⟩ := own5.sees.len
        simp only [Value.slice.injEq] at htv
        obtain ⟨rfl, rfl, rfl⟩ := htv
        obtain ⟨ib, hib⟩ : ∃ z, (P.en.take ⟨r0, r1, r2, r3, qd⟩).2.isSome = z := ⟨_, rfl⟩
        have hab := anewB_eq P ⟨r0, r1, r2, r3, qd⟩
        obtain ⟨bb', hbb'⟩ : ∃ z, decide (P.peer < r0) = z := ⟨_, rfl⟩
        rw [← hT1] at hY
        have Z := Lib.hid (And.intro own5 (And.intro (show PlH w w5 lb db R' M' (P.take ⟨r0, r1, r2, r3, qd⟩).1.en (P.take ⟨r0, r1, r2, r3, qd⟩).1 by rw [hT1]; exact h5) (And.intro k5 (And.intro hY.2.2.1 (And.intro hY.2.2.2.1 (And.intro hY.2.2.2.2.1 (And.intro hY.2.2.2.2.2.1 hY.2.2.2.2.2.2.1)))))))
        simp only [Pv.plain, hT2, hib, hab]
        simp only [show P.en.peer = P.peer from rfl, hbb']
        have hml2 : ml.length ≤ 9223372036854775807 := by have := own5.sees.len; obtain ⟨_, _, _, _, h⟩ := this; unfold maxLen at h; omega
        clear ho5 h5 k5 hT hT1 hT2 hY own5 hml hib hab hbb' Y v0 v1 v2 v3 v4 v5
        go_wp2_with fail
        refine EQ.out.mono ?_
        rintro e w6 ⟨rfl, rfl⟩
        go_wp2_with fail
        go_loopg [107] ml.length (fun n v107 wm => ∃ (k : Nat) (m : List UInt8), k ≤ ml.length ∧ n = ml.length - k ∧ v107 = .int .i64 (k : Int) ∧ m.length = ml.length ∧ Owns wm w3.heap.size (.slice tq ml.length tc) m ∧ Keeps (fun j => (Value.slice tq ml.length tc).ownBlock = some j) w5 wm)
        case atStart => exact ⟨0, ml, Nat.zero_le _, rfl, rfl, rfl, Z.out.1, Keeps.refl _ _⟩
        case round =>
         obtain ⟨k, m, hk, rfl, rfl, hm, ho, hkm⟩ := hrel
         by_cases hlt : k < ml.length
         ·obtain ⟨g, x, y, rfl, hc, hf, hxy, hset⟩ := owns_put ho k (by omega)
          have i1 : (0 : Int) ≤ (k : Int) := by omega
          have i2 : (k : Int) < (ml.length : Int) := by omega
          have hx256 := UInt8.toNat_lt x
          have ST := Lib.hid (And.intro hset (And.intro hkm hm))
          clear hset hkm hm ho
          go_wp2_with fail
          go_roundg (ml.length - (k + 1))
          case measure => omega
          case rel => exact ⟨k + 1, m.set k y, by omega, rfl, by go_num, by rw [List.length_set]; exact ST.out.2.2, ST.out.1, ST.out.2.1.setCell (p := ⟨g, k, none⟩) (fun _ => rfl) _⟩
         ·obtain rfl : k = ml.length := by omega
          have V := Lib.hid (And.intro ho hkm)
          clear ho hkm hlt
          go_wp2_with fail
          go_meet
          case rel =>
           have x := X.out
           obtain ⟨_, h5, k5, k4, mm4, mb4, rr4, mn4⟩ := Z.out
           have kM : Keeps M' _ wr := V.out.2.weaken (fun j _ e => mb4 j e)
           have hlt3 := lt_of_block x.hb3
           refine midP_of x.h x.hb3 x.nr11 x.nd11 x.hown x.hM (((k4.weaken (fun _ _ r => .inl r)).trans (k5.weaken (fun _ _ e => .inr e))).then V.out.2 (fun j hj e => ?_)) (h5.work kM) (x.hb.take _) mm4 (fun m => ?_)
           ·have := (Z.out.1.block j e).1; omega
           ·rcases mn4 _ m with m | m
            ·exact x.nm11 m
            ·omega
       ·have g1 : (xw == 1) = false := by simp [h1]
        clear h1
        by_cases h2 : xw = 2
        ·subst h2
         clear g0 g1
         go_wp2_with fail
         refine (h_out X.out.h X.out.hEl X.out.hEw X.out.hEa X.out.hEz).mono ?_
         rintro e w4 ⟨Xs, vo, rfl, hX, hXp, h4, k4⟩
         obtain ⟨op, oc, rfl, hole, homx⟩ := hX.len
         have hol : Xs.length ≤ 2000 := by
          have h1 := congrArg List.length hXp
          have h2 := outs_le P.en
          have h3 := X.out.hEw
          have h4 := X.out.hEa
          rw [List.length_map] at h1
          omega
         have hob : ∀ x ∈ Xs, x.d.length ≤ 140737488355328 := fun x hx => by
          have hbd := X.out.h.lk.bounds
          have := outs_bound hbd.1 hbd.2 x.plain (by rw [← hXp]; exact List.mem_map_of_mem hx)
          exact this
         obtain ⟨M4, hM4⟩ : ∃ M4, (fun k => M k ∨ w3.heap.size ≤ k ∧ k < w4.heap.size) = M4 := ⟨_, rfl⟩
         rw [hM4] at h4
         have m41 : ∀ k, M k → M4 k := by rw [← hM4]; exact fun _ m => .inl m
         have m42 : ∀ k, w3.heap.size ≤ k → k < w4.heap.size → M4 k := by rw [← hM4]; exact fun _ a b => .inr ⟨a, b⟩
         have m43 : ∀ k, M4 k → M k ∨ w3.heap.size ≤ k := by rw [← hM4]; exact fun _ m => by rcases m with m | m; exact .inl m; exact .inr m.1
         have TH := Lib.hid (theirs_any (.slice op Xs.length oc) Xs w4 (hX.1.1.sees (fun _ => rfl) (by decide)) (fun x hx => ⟨(hX.1.2 x hx).1.sees, hob x hx⟩) (by omega))
         have Y := Lib.hid (And.intro hX (And.intro hXp (And.intro h4 (And.intro k4 (And.intro m41 (And.intro m42 m43))))))
         have hol' : Xs.length ≤ 9223372036854775807 := by omega
         clear hX hXp h4 k4 hole homx hol hob hM4 m41 m42 m43 y0 y1 y2 y3 y4 y5 z0 z1 z2 z3 z4
         go_wp2_with fail
         refine TH.out.mono ?_
         rintro e w5 ⟨tp, tn, tc, ms, rfl, hms, hmp, hmf, o5, hmb, hmd⟩
         have T5 := Lib.hid (And.intro hms (And.intro hmp (And.intro hmf (And.intro o5 (And.intro hmb hmd)))))
         clear hms hmp hmf o5 hmb hmd
         go_wp2_with fail
         refine (h_dout (Y.out.2.2.1.old' T5.out.2.2.2.1) X.out.hb.done X.out.all).mono ?_
         rintro e w6 ⟨Xd, dp, dn, dc, rfl, hd1, hd2, hd3, h6, k6⟩
         have hdbw : db < w4.heap.size := Y.out.2.2.1.lt.2.2.1
         have s6 : SeesR w6 5 Pv.cells (.slice tp tn tc) ms := T5.out.1.keeps k6 (fun b hb e => by have := T5.out.2.2.2.2.1 b hb; omega)
         have SM := Lib.hid (rsame_any _ _ ms Xd w6 s6 hd1 (fun x hx => (T5.out.2.2.1 x hx).1.keeps k6 (fun b hb e => by have := T5.out.2.2.2.2.2 x hx b hb; omega)) (fun x hx => (hd2 x hx).1))
         rw [decide_eq_true (by rw [T5.out.2.1, Y.out.2.1, hd3, en_outs])] at SM
         have Z := Lib.hid (And.intro h6 k6)
         clear hd1 hd2 hd3 h6 k6 hdbw s6
         go_wp2_with fail
         refine SM.out.mono ?_
         rintro e w7 ⟨rfl, o7⟩
         have k47 : Keeps (fun k => k = db) w4 w7 := ((T5.out.2.2.2.1.weaken (fun _ _ f => f.elim)).trans Z.out.2).trans (o7.weaken (fun _ _ f => f.elim))
         have h7 : PlH w w7 lb db R M4 P.en.out P.out := Z.out.1.old' o7
         have hX7 : Outs w7 w3.heap.size (.slice op Xs.length oc) Xs := Y.out.1.keeps k47 (fun b hb _ e => by have := X.out.h.lt.2.2.1; omega)
         have V := Lib.hid (And.intro k47 (And.intro h7 hX7))
         clear o7 k47 h7 hX7
         go_wp2_with fail
         go_loopg [129] Xs.length (fun n v129 wm => ∃ j : Nat, j ≤ Xs.length ∧ n = Xs.length - j ∧ v129 = .int .i64 (j : Int) ∧ Keeps (fun k => ∃ x ∈ Xs, x.v.ownBlock = some k) w7 wm ∧ ∀ (k : Nat) (x : Pv), j ≤ k → Xs[k]? = some x → Owns wm w3.heap.size x.v x.d)
         case atStart => exact ⟨0, Nat.zero_le _, rfl, rfl, Keeps.refl _ _, fun k x _ hx => (V.out.2.2.1.2 x (List.mem_of_getElem? hx)).1⟩
         case round =>
          obtain ⟨j, hj, rfl, rfl, hkm, how⟩ := hrel
          by_cases hlt : j < Xs.length
          ·obtain ⟨⟨x0, x1, x2, x3, xv, xd⟩, hx⟩ : ∃ x, Xs[j]? = some x := ⟨_, List.getElem?_eq_getElem hlt⟩
           have hox := how j _ (Nat.le_refl _) hx
           simp only at hox
           obtain ⟨xp, xc, rfl, _, hxmx⟩ := hox.sees.len
           have hsr : SeesR _ 5 Pv.cells (.slice op Xs.length oc) Xs := (V.out.2.2.1.1.sees (fun _ => rfl) (by decide)).keeps hkm (fun b hb e => by
            obtain ⟨x, hx, e⟩ := e
            exact ((V.out.2.2.1.2 x hx).2 b e).2.2 hb)
           obtain ⟨rb, ro, rc, hrv, _, _, hat⟩ := hsr.at (by omega)
           simp only [Value.slice.injEq, true_and] at hrv
           obtain ⟨rfl, rfl⟩ := hrv
           have c0 := hat j _ hx 0 _ rfl
           have c1 := hat j _ hx 1 _ rfl
           have c2 := hat j _ hx 2 _ rfl
           have c3 := hat j _ hx 3 _ rfl
           have c4 := hat j _ hx 4 _ rfl
           simp only [Nat.add_zero] at c0
           have i1 : (0 : Int) ≤ (j : Int) := by omega
           have i2 : (j : Int) < (Xs.length : Int) := by omega
           obtain ⟨wi, rfl⟩ : ∃ wi : World, wi = wr := ⟨_, rfl⟩
           obtain ⟨w8, hw8⟩ : ∃ w8, wi.alloc (.cells #[.int .u64 (x0 : Int), .int .u64 (x1 : Int), .int .u64 (x2 : Int), .int .u64 (x3 : Int), .slice xp xd.length xc] 37) = w8 := ⟨_, rfl⟩
           have o8 : Old wi w8 := by rw [← hw8]; exact (Keeps.refl _ _).alloc _
           have b8 : w8.heap[wi.heap.size]? = some (.cells #[.int .u64 (x0 : Int), .int .u64 (x1 : Int), .int .u64 (x2 : Int), .int .u64 (x3 : Int), .slice xp xd.length xc] 37 (0, 0)) := by rw [← hw8]; exact heap_alloc_new _ _
           obtain ⟨bp, hbp⟩ : ∃ b, wi.heap.size = b := ⟨_, rfl⟩
           have hxb : ∀ bb, (Value.slice xp xd.length xc).ownBlock = some bb → w3.heap.size ≤ bb ∧ bb < bp := by rw [← hbp]; exact hox.block
           rw [hbp] at b8
           obtain ⟨⟨g0, g1, g2, g3, g4⟩, -⟩ := blk5 b8
           have Q := Lib.hid (And.intro hkm (And.intro how (And.intro (hox.old o8) (And.intro o8 (And.intro b8 (And.intro hxb hx))))))
           have hxl : xd.length ≤ 9223372036854775807 := by unfold maxLen at hxmx; omega
           clear hkm how hox o8 b8 hxb hx hsr hat
           go_upto_region 36 with fail
           clear hw8 hbp
           go_loopg [136] xd.length (fun n v136 wm => ∃ (k : Nat) (m : List UInt8), k ≤ xd.length ∧ n = xd.length - k ∧ v136 = .int .i64 (k : Int) ∧ m.length = xd.length ∧ Owns wm w3.heap.size (.slice xp xd.length xc) m ∧ Keeps (fun j => (Value.slice xp xd.length xc).ownBlock = some j) w8 wm)
           case atStart => exact ⟨0, xd, Nat.zero_le _, rfl, rfl, rfl, Q.out.2.2.1, Keeps.refl _ _⟩
           case round =>
            obtain ⟨k, m, hk, rfl, rfl, hm, ho, hkm⟩ := hrel
            have g4r := hkm.cell g4 (fun e => absurd (Q.out.2.2.2.2.2.1 _ e).2 (Nat.lt_irrefl _))
            by_cases hlt2 : k < xd.length
            ·obtain ⟨g, x, y, rfl, hc, hf, hxy, hset⟩ := owns_put ho k (by omega)
             have j1 : (0 : Int) ≤ (k : Int) := by omega
             have j2 : (k : Int) < (xd.length : Int) := by omega
             have hx256 := UInt8.toNat_lt x
             have ST := Lib.hid (And.intro hset (And.intro hkm hm))
             clear hset hkm hm ho
             go_wp2_with fail
             go_roundg (xd.length - (k + 1))
             case measure => omega
             case rel => exact ⟨k + 1, m.set k y, by omega, rfl, by go_num, by rw [List.length_set]; exact ST.out.2.2, ST.out.1, ST.out.2.1.setCell (p := ⟨g, k, none⟩) (fun _ => rfl) _⟩
            ·obtain rfl : k = xd.length := by omega
             have U := Lib.hid hkm
             clear ho hkm hlt2 g4r
             go_wp2_with fail
             go_roundg (Xs.length - (j + 1))
             case measure => omega
             case rel =>
              obtain ⟨hkm, how, hox, o8, b8, hxb, hx⟩ := Q.out
              have hmem := List.mem_of_getElem? hx
              refine ⟨j + 1, by omega, rfl, by go_num, (hkm.trans (o8.weaken (fun _ _ f => f.elim))).trans (U.out.weaken (fun q _ e => ⟨_, hmem, e⟩)), fun k x hk2 hxk => ?_⟩
              refine ((how k x (by omega) hxk).old o8).keeps U.out (fun bb hbb e => ?_)
              have hpw := List.pairwise_iff_getElem.1 V.out.2.2.2
              obtain ⟨hj', ej⟩ := List.getElem?_eq_some_iff.1 hx
              obtain ⟨hk', ek⟩ := List.getElem?_eq_some_iff.1 hxk
              have := hpw j k hj' hk' (by omega) bb (by rw [ej]; exact e)
              rw [ek] at this
              exact this hbb
          ·obtain rfl : j = Xs.length := by omega
           have U := Lib.hid hkm
           clear hkm how hlt
           go_wp2_with fail
           go_meet
           case rel =>
            have x := X.out
            have kM : Keeps M4 w7 _ := U.out.weaken (fun k _ e => by
             obtain ⟨y, hy, e⟩ := e
             have := (V.out.2.2.1.2 y hy).2 k e
             have h1 := (Y.out.1.1.2 y hy).2 k e
             exact Y.out.2.2.2.2.2.1 k h1.1 h1.2.1)
            have hlt3 := lt_of_block x.hb3
            refine midP_of (P' := P.out) x.h x.hb3 x.nr11 x.nd11 x.hown x.hM (((Y.out.2.2.2.1.weaken (fun _ _ r => .inl r)).trans (V.out.1.weaken (fun _ _ e => .inr e))).then U.out (fun k hk e => ?_)) (by rw [en_out _ x.hb.done]; exact V.out.2.1.work kM) (x.hb.out.le (by omega)) Y.out.2.2.2.2.1 (fun m => ?_)
            ·obtain ⟨y, hy, e⟩ := e
             have := ((V.out.2.2.1.2 y hy).2 k e).1
             omega
            ·rcases Y.out.2.2.2.2.2.2 _ m with m | m
             ·exact x.nm11 m
             ·omega
        ·have g2 : (xw == 2) = false := by simp [h2]
         clear h2
         by_cases h3 : xw = 3
         ·subst h3
          clear g0 g1 g2
          go_wp2_with fail
          refine (h_tick X.out.h X.out.hEl).mono ?_
          rintro e w4 ⟨rfl, h4, k4⟩
          have Y := Lib.hid (And.intro h4 k4)
          clear h4 k4
          go_wp2_with fail
          refine (h_dtick Y.out.1).mono ?_
          rintro e w5 ⟨rfl, h5, k5⟩
          have Z := Lib.hid (And.intro h5 k5)
          clear h5 k5
          go_wp2_with fail
          go_meet
          case rel =>
           have x := X.out
           exact midP_of (P' := P.tick) x.h x.hb3 x.nr11 x.nd11 x.hown x.hM ((Y.out.2.weaken (fun _ _ r => .inl r)).trans (Z.out.2.weaken (fun _ _ e => .inr e))) (by rw [en_tick]; exact Z.out.1) (x.hb.tick.le (by omega)) (fun _ m => m) x.nm11
         ·have g3 : (xw == 3) = false := by simp [h3]
          clear h3
          go_wp2_with fail
          go_meet
          case rel =>
           have x := X.out
           exact midP_of x.h x.hb3 x.nr11 x.nd11 x.hown x.hM (Keeps.refl _ _) x.h (x.hb.le (by omega)) (fun _ m => m) x.nm11
     case rest =>
      obtain ⟨R, M, P, h, hb, hb3, nm11, hown, hM⟩ := hcut
      obtain ⟨wq, rfl⟩ : ∃ wq : World, wq = wc := ⟨_, rfl⟩
      obtain ⟨⟨g0, g1, g2, g3, g4⟩, -⟩ := blk5 hb3
      have Q := Lib.hid (And.intro h (And.intro hb (And.intro hb3 (And.intro nm11 (And.intro hown hM)))))
      have hql : qd.length ≤ 9223372036854775807 := by have := F1.out.2.2.2.1.2; omega
      clear h hb hb3 nm11 hown hM y0 y1 y2 y3 y4 y5 z0 z1 z2 z3 z4
      go_upto_block 9 with fail
      go_cut [] (fun wc => PlS w wc lb db (i + 1))
      case first =>
       go_wp2_with fail
       go_loopg [158] qd.length (fun n v158 wm => ∃ (k : Nat) (m : List UInt8), k ≤ qd.length ∧ n = qd.length - k ∧ v158 = .int .i64 (k : Int) ∧ m.length = qd.length ∧ Owns wm w1.heap.size (.slice qp qd.length qc) m ∧ Keeps (fun j => (Value.slice qp qd.length qc).ownBlock = some j) wq wm)
       case atStart => exact ⟨0, qd, Nat.zero_le _, rfl, rfl, rfl, Q.out.2.2.2.2.1, Keeps.refl _ _⟩
       case round =>
        obtain ⟨k, m, hk, rfl, rfl, hm, ho, hkm⟩ := hrel
        have g4r := hkm.cell g4 (fun e => Q.out.2.2.2.1 (Q.out.2.2.2.2.2 _ e))
        by_cases hlt2 : k < qd.length
        ·obtain ⟨g, x, y, rfl, hc, hf, hxy, hset⟩ := owns_put ho k (by omega)
         have j1 : (0 : Int) ≤ (k : Int) := by omega
         have j2 : (k : Int) < (qd.length : Int) := by omega
         have hx256 := UInt8.toNat_lt x
         have ST := Lib.hid (And.intro hset (And.intro hkm hm))
         clear hset hkm hm ho
         go_wp2_with fail
         go_roundg (qd.length - (k + 1))
         case measure => omega
         case rel => exact ⟨k + 1, m.set k y, by omega, rfl, by go_num, by rw [List.length_set]; exact ST.out.2.2, ST.out.1, ST.out.2.1.setCell (p := ⟨g, k, none⟩) (fun _ => rfl) _⟩
        ·obtain rfl : k = qd.length := by omega
         have U := Lib.hid hkm
         clear ho hkm hlt2 g4r
         go_wp2_with fail
         go_meet
         case rel =>
          obtain ⟨h, hb, hb3, nm11, hown, hM⟩ := Q.out
          exact ⟨R, M, P, h.work (U.out.weaken (fun q _ e => hM q e)), hb⟩
      case rest =>
       obtain ⟨R, M, P, h, hb⟩ := hcut
       have L1 := Lib.hid (fun n => (lk_peer (h.old' ((Keeps.refl (fun _ => False) wc).drewN n)).lk).mono (fun _ _ h => And.intro h.1 h.2.symm))
       have L2 := Lib.hid (fun n => (lk_waiting (h.old' ((Keeps.refl (fun _ => False) wc).drewN n)).lk).mono (fun _ _ h => And.intro h.1 h.2.symm))
       have L3 := Lib.hid (fun n => (lk_flying (h.old' ((Keeps.refl (fun _ => False) wc).drewN n)).lk).mono (fun _ _ h => And.intro h.1 h.2.symm))
       obtain ⟨D, hD, d0, _, _, d6⟩ := h.dk
       have dr := d6 wc (Keeps.refl _ _)
       obtain ⟨sp, sc, hsv, _, _⟩ := dr.1.len
       obtain ⟨tp, tc, htv, _, _⟩ := dr.2.1.len
       obtain ⟨⟨x0, x1, x2, x3, x4, x5, x6, x7, x8⟩, -⟩ := blk9 d0
       rw [hsv] at x2
       rw [htv] at x3
       obtain ⟨pn, hpn⟩ : ∃ n, D.peer = n := ⟨_, rfl⟩
       obtain ⟨wn, hwn⟩ : ∃ n, D.W.length = n := ⟨_, rfl⟩
       obtain ⟨fn, hfn⟩ : ∃ n, D.F.length = n := ⟨_, rfl⟩
       obtain ⟨dn, hdn⟩ : ∃ n, D.done = n := ⟨_, rfl⟩
       have e1 : P.en.peer = pn := by rw [← hD]; exact hpn
       have e2 : P.en.waits.length = wn := by rw [← hD, ← hwn]; exact List.length_map _
       have e3 : P.en.win.length = fn - dn := by rw [en_win, ← hD, ← hfn, ← hdn]; simp [Dv.plain]
       have e4 : dn ≤ fn ∧ fn ≤ 1000 := by
        have h1 := hb.done
        have h2 := hb.all
        have h3 := F1.out.2.2.2.2.2.2.2
        rw [← hD] at h1 h2
        simp only [Dv.plain, List.length_map] at h1 h2
        omega
       have e5 : IntKind.i64.wrap ((fn : Int) - (dn : Int)) = ((fn - dn : Nat) : Int) := by rw [IntKind.wrap_i64]; omega
       rw [e1] at L1
       rw [e2] at L2
       rw [e3] at L3
       rw [hpn] at x1
       rw [hwn] at x2
       rw [hfn] at x3
       rw [hdn] at x4
       obtain ⟨fl, hfl⟩ : ∃ n, fn - dn = n := ⟨_, rfl⟩
       rw [hfl] at e5 L3
       have Z := Lib.hid (And.intro h hb)
       clear h hb hD d0 d6 dr hsv htv hpn hwn hfn hdn e1 e2 e3 e4 hfl x0 x5 x6 x7 x8
       go_upto_region 50 with fail
       go_quiet (first | (go_at_call 23; refine Calls.quiet_of_same (L1.out _)) | (go_at_call 24; refine Calls.quiet_of_same (L2.out _)) | (go_at_call 25; refine Calls.quiet_of_same (L3.out _)))
       go_wp2_with fail
       go_roundg (l.length - (i + 1))
       case measure => have := F1.out.2.2.2.2.2.1; omega
       case rel =>
        have h1 := F1.out.2.2.2.2.2
        exact ⟨i + 1, by omega, by omega, rfl, by go_num, R, M, P, Z.out.1.old' ((Keeps.refl (fun _ => False) wc).drewN _), Z.out.2⟩
   ·obtain rfl : i = l.length := by omega
    have hold : Old w wo := by obtain ⟨R, M, P, h, _⟩ := hS; exact h.old
    have HO := Lib.hid hold
    clear hold hS hlt
    go_wp2_with fail
    go_ret
    exact ⟨rfl, HO.out.below⟩
end Go.Proofs.Ytllnlimbfoingaa
