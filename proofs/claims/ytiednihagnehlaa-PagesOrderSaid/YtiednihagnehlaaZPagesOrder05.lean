/- DERIVED. Chapter 25, plain: told once, in order. · DERIVED. Chapter 25: theirs. (gen_ow.py wrote its like for chapter 21) -/
import Derived.Test.YtiednihagnehlaaY24
import Derived.Test.YtiednihagnehlaaY19
namespace Go.Proofs.Ytiednihagnehlaa

/-- the query that PagesOrder makes -/
def ordMs (b : Int) (i : Nat) : Ms := { askMs b 5 (i + 1) with pub := (i : Int), frm := i + 1 }
theorem ord_bare (b : Int) (i : Nat) (hb : 0 ≤ b ∧ b < 4) (hi : i < 60) : BareMs (ordMs b i) :=
 bare_of fun w => fine_nums (zero_fine w) 5 i b 0 5 (i + 1) (i + 1) ⟨by unfold I64; decide, by unfold I64; omega, by unfold I64; omega⟩ ⟨by unfold U64; decide, by unfold U64; decide, by unfold U64; omega, by unfold U64; omega⟩ false
set_option maxRecDepth 100000 in
theorem ord_may (b : Int) (i : Nat) (hb : 0 ≤ b ∧ b < 4) (hi : i < 60) : mayM (ordMs b i).plain = true := by
 have h0 : partsL (ordMs b i).plain.kind = [5, 0, 3, 6] := rfl
 have hp : ∀ p : Int, partOk (ordMs b i).plain p = if p = 5 ∨ p = 0 ∨ p = 3 ∨ p = 6 then rightM (ordMs b i).plain p else bareM (ordMs b i).plain p := by
  intro p
  unfold partOk
  rw [h0]
  simp
 have e5 : rightM (ordMs b i).plain 5 = (decide (0 ≤ b) && (decide (b < 64) && (numOk 5 && numOk (i + 1)))) := rfl
 have e0 : rightM (ordMs b i).plain 0 = decide (0 ≤ homeZ (i : Int)) := rfl
 have e3 : rightM (ordMs b i).plain 3 = true := rfl
 have e6 : rightM (ordMs b i).plain 6 = (decide (1 ≤ i + 1) && decide (i + 1 ≤ 1099511627777)) := rfl
 have f1 : bareM (ordMs b i).plain 1 = true := rfl
 have f2 : bareM (ordMs b i).plain 2 = true := rfl
 have f4 : bareM (ordMs b i).plain 4 = true := (show sameI zeroMs.plain.it noItem = true by decide +kernel)
 have f7 : bareM (ordMs b i).plain 7 = true := (show sameG zeroMs.plain.pg noPage = true by decide +kernel)
 have hz : decide (0 ≤ homeZ (i : Int)) = true := by
  unfold homeZ
  rw [decide_eq_true_iff]
  split <;> omega
 have hn : numOk (i + 1) = true := by unfold numOk; simp; omega
 have hn5 : numOk 5 = true := by decide
 have hb1 : decide (0 ≤ b) = true := by simp; omega
 have hb2 : decide (b < 64) = true := by simp; omega
 have h6 : (decide (1 ≤ i + 1) && decide (i + 1 ≤ 1099511627777)) = true := by simp; omega
 have hr : List.range 8 = [0, 1, 2, 3, 4, 5, 6, 7] := rfl
 unfold mayM
 rw [hr, h0]
 simp only [List.all_cons, List.all_nil, hp]
 simp [e5, e0, e3, e6, f1, f2, f4, f7, hz, hn, hn5, hb1, hb2]
 omega
/-- what was laid up to now: all of life 5, their counts 1, 2, .. -/
def Od (P : List (Int × PMs)) : Prop := ∀ j (x : Int × PMs), P[j]? = some x → ∃ b : Int, (0 ≤ b ∧ b < 4) ∧ x.2 = (ordMs b j).plain
theorem od_add {P : List (Int × PMs)} {k b : Int} (h : Od P) (hb : 0 ≤ b ∧ b < 4) (hi : P.length < 60) : addP 100 P (k, (ordMs b P.length).plain) = (0, P ++ [(k, (ordMs b P.length).plain)]) ∧ Od (P ++ [(k, (ordMs b P.length).plain)]) := by
 have hall : ∀ x ∈ P, x.2.tl = 5 ∧ x.2.tc ≤ P.length := by
  intro x hx
  obtain ⟨j, hj⟩ := List.mem_iff_getElem?.1 hx
  obtain ⟨c, _, e⟩ := h j x hj
  have hjl := (List.getElem?_eq_some_iff.1 hj).1
  rw [e]
  exact ⟨rfl, hjl⟩
 have hs : P.any (staleP b 5 (P.length + 1)) = false := by
  rw [List.any_eq_false]
  intro x hx
  obtain ⟨h1, h2⟩ := hall x hx
  unfold staleP
  simp [h1]
  omega
 have hd : (P.filter fun y => !dropP b 5 y) = P := by
  rw [List.filter_eq_self]
  intro x hx
  obtain ⟨h1, _⟩ := hall x hx
  unfold dropP
  simp [h1]
 have hf : decide (100 ≤ P.length) = false := by simp; omega
 constructor
 ·unfold addP
  rw [if_pos (show ((k, (ordMs b P.length).plain).2.kind == 5) = true from rfl), if_pos (ord_may b P.length hb hi)]
  rw [if_neg (show ¬ P.any (staleP (k, (ordMs b P.length).plain).2.tb (k, (ordMs b P.length).plain).2.tl (k, (ordMs b P.length).plain).2.tc) = true from by show ¬ P.any (staleP b 5 (P.length + 1)) = true; rw [hs]; simp)]
  have hd' : (P.filter fun y => !dropP (k, (ordMs b P.length).plain).2.tb (k, (ordMs b P.length).plain).2.tl y) = P := hd
  rw [hd', if_neg (by rw [hf]; simp)]
 ·intro j x hj
  by_cases hlt : j < P.length
  ·rw [List.getElem?_append_left hlt] at hj
   exact h j x hj
  ·rw [List.getElem?_append_right (by omega)] at hj
   have hz : j - P.length = 0 := by
    have := (List.getElem?_eq_some_iff.1 hj).1
    simp at this
    omega
   rw [hz] at hj
   simp only [List.getElem?_cons_zero, Option.some.injEq] at hj
   subst hj
   exact ⟨b, hb, by rw [show j = P.length by omega]⟩
/-- what stays behind Forget and Drop -/
theorem od_rest (P : List (Int × PMs)) (h : Od P) (link broker : Int) :
  ((P.filter fun y => !linkP link y).filter fun y => !dropP broker 6 y) = P.filter (fun y => !(y.1 == link || y.2.tb == broker)) := by
 rw [List.filter_filter]
 apply List.filter_congr
 intro x hx
 obtain ⟨j, hj⟩ := List.mem_iff_getElem?.1 hx
 obtain ⟨c, _, e⟩ := h j x hj
 have htl : x.2.tl = 5 := by rw [e]; rfl
 unfold linkP dropP
 rw [htl]
 cases (x.1 == link) <;> cases (x.2.tb == broker) <;> rfl
theorem od_none (P : List (Int × PMs)) (h : Od P) (Q : List (Int × PMs)) (hQ : ∀ x ∈ Q, x ∈ P) (broker : Int) : (Q.filter fun y => !dropP broker 5 y) = Q := by
 rw [List.filter_eq_self]
 intro x hx
 obtain ⟨j, hj⟩ := List.mem_iff_getElem?.1 (hQ x hx)
 obtain ⟨c, _, e⟩ := h j x hj
 have htl : x.2.tl = 5 := by rw [e]; rfl
 unfold dropP
 rw [htl]
 simp
end Go.Proofs.Ytiednihagnehlaa

namespace Go.Proofs.Ytiednihagnehlaa
open Go.RowKit
attribute [-go_sem] loadVar storeVar

set_option maxRecDepth 100000 in
set_option maxHeartbeats 1000000 in
theorem ptheirs_any (m : Ms) (w : World) (h : m.fine w) : Calls Try.prog 21 #[.agg m.cells.toArray] w fun e w' => e = .returned (.agg m.cells.toArray) ∧ Old w w' := by
 have hone := h.one
 obtain ⟨kind, pub, ver, there, pv, ps, ⟨n, tm, key, av, es⟩, tb, tl, tc, frm, ⟨fr, en, iv, its, gv, gs, last⟩⟩ := m
 obtain ⟨p1, c1, e1, _, r1⟩ := h.1.1.1.len
 obtain ⟨p2, c2, e2, _, _⟩ := h.2.1.1.len
 obtain ⟨p3, c3, e3, _, _⟩ := h.2.2.1.1.1.len
 obtain ⟨p4, c4, e4, _, _⟩ := h.2.2.1.1.2.2.len
 simp only at e1 e2 e3 e4
 subst e1 e2 e3 e4
 clear h r1
 obtain ⟨m, hm⟩ : ∃ m : Ms, m = ⟨kind, pub, ver, there, .slice p1 ps.length c1, ps, ⟨n, tm, key, .slice p2 es.length c2, es⟩, tb, tl, tc, frm, ⟨fr, en, .slice p3 its.length c3, its, .slice p4 gs.length c4, gs, last⟩⟩ := ⟨_, rfl⟩
 rw [← hm] at hone ⊢
 have hmc : m.cells.toArray = #[.int .i64 kind, .int .i64 pub, .int .u64 ver, .bool there, .slice p1 ps.length c1, .int .u64 n, .int .u64 tm, .string key, .slice p2 es.length c2, .int .i64 tb, .int .u64 tl, .int .u64 tc, .int .u64 frm, .int .u64 fr, .int .u64 en, .slice p3 its.length c3, .slice p4 gs.length c4, .bool last] := by rw [hm]; rfl
 obtain ⟨W0, hW0⟩ : ∃ W0, (w.alloc (.cells m.cells.toArray 43)).alloc (.cells zeroMs.cells.toArray 60) = W0 := ⟨_, rfl⟩
 have k0 : Old w W0 := by rw [← hW0]; exact ((Keeps.refl _ _).alloc _).alloc _
 obtain ⟨b0, b1⟩ := two_blocks w (.cells m.cells.toArray 43) (.cells zeroMs.cells.toArray 60)
 rw [hW0] at b0 b1
 obtain ⟨W1, hst, b2, kb⟩ := store_msgR b1 m hone
 have k1 : Old w W1 := k0.then kb (fun i hi e => by omega)
 have gl := load_whole b2 (by rw [hmc]; rfl) Try.underlying60 (by kernel_rfl)
 rw [hmc] at b0 hW0 hst gl ⊢
 have g0 := blkM b0
 have l5 := load_sub (W := W0) (b := w.heap.size) (o := 5) (cs := #[.int .u64 n, .int .u64 tm, .string key, .slice p2 es.length c2]) (ty := 35) (by
  intro j v hv
  rcases j with _ | _ | _ | _ | _ | j <;> simp at hv
  all_goals (subst hv; first | exact g0.2.2.2.2.2.1 | exact g0.2.2.2.2.2.2.1 | exact g0.2.2.2.2.2.2.2.1 | exact g0.2.2.2.2.2.2.2.2.1)) Try.underlying35 rfl (by kernel_rfl)
 have l9 := load_sub (W := W0) (b := w.heap.size) (o := 9) (cs := #[.int .i64 tb, .int .u64 tl, .int .u64 tc]) (ty := 37) (by
  intro j v hv
  rcases j with _ | _ | _ | _ | _ | j <;> simp at hv
  all_goals (subst hv; first | exact g0.2.2.2.2.2.2.2.2.2.1 | exact g0.2.2.2.2.2.2.2.2.2.2.1 | exact g0.2.2.2.2.2.2.2.2.2.2.2.1)) Try.underlying37 rfl (by kernel_rfl)
 have l13 := load_sub (W := W0) (b := w.heap.size) (o := 13) (cs := #[.int .u64 fr, .int .u64 en, .slice p3 its.length c3, .slice p4 gs.length c4, .bool last]) (ty := 41) (by
  intro j v hv
  rcases j with _ | _ | _ | _ | _ | j <;> simp at hv
  all_goals (subst hv; first | exact g0.2.2.2.2.2.2.2.2.2.2.2.2.2.1 | exact g0.2.2.2.2.2.2.2.2.2.2.2.2.2.2.1 | exact g0.2.2.2.2.2.2.2.2.2.2.2.2.2.2.2.1 | exact g0.2.2.2.2.2.2.2.2.2.2.2.2.2.2.2.2.1 | exact g0.2.2.2.2.2.2.2.2.2.2.2.2.2.2.2.2.2)) Try.underlying41 rfl (by kernel_rfl)
 have q1 : ∀ a W, (loadVar 3 a).run Try.prog W = (load a).run Try.prog W := fun _ _ => by kernel_rfl
 have q2 : ∀ a W, (loadVar 28 a).run Try.prog W = (load a).run Try.prog W := fun _ _ => by kernel_rfl
 have q3 : ∀ a W, (loadVar 4 a).run Try.prog W = (load a).run Try.prog W := fun _ _ => by kernel_rfl
 have q4 : ∀ a W, (loadVar 30 a).run Try.prog W = (load a).run Try.prog W := fun _ _ => by kernel_rfl
 have K := Lib.hid (And.intro k1 gl)
 clear b0 b1 k0 k1 kb gl hm hmc b2 hone
 change (w.alloc (.cells #[.int .i64 kind, .int .i64 pub, .int .u64 ver, .bool there, .slice p1 ps.length c1, .int .u64 n, .int .u64 tm, .string key, .slice p2 es.length c2, .int .i64 tb, .int .u64 tl, .int .u64 tc, .int .u64 frm, .int .u64 fr, .int .u64 en, .slice p3 its.length c3, .slice p4 gs.length c4, .bool last] 43)).alloc (.cells #[.int .i64 0, .int .i64 0, .int .u64 0, .bool false, .slice none 0 0, .int .u64 0, .int .u64 0, .string ⟨#[]⟩, .slice none 0 0, .int .i64 0, .int .u64 0, .int .u64 0, .int .u64 0, .int .u64 0, .int .u64 0, .slice none 0 0, .slice none 0 0, .bool false] 60) = W0 at hW0
 go_enter Try.func21, Try.ntmps21
 go_wp2_with fail
 have gl := K.out.2
 exact bodyPost_ret (by simp [results, Try.results21, go_sem, gl]) rfl ⟨rfl, K.out.1⟩
end Go.Proofs.Ytiednihagnehlaa
