/- DERIVED. The chapter's rows (layer 7). · DERIVED. Bytes appended, as one step of a region that draws. · DERIVED. CodecEvents, walked. · DERIVED. The document's items (layer 7): May, Put, Take. · DERIVED. The document's TakeItem. · DERIVED. The document's TakeItem; the program's, told in full. · DERIVED. What predicates may be (layer 4), the document's answer. · DERIVED. The document's writer of predicates (layer 7). · DERIVED. Both writers of predicates, each with one contract. · DERIVED. The document's TakePred (layer 7). -/
import Derived.Test.YtiednihagnehlaaY13
import Derived.Deep.DeepCutAuto
namespace Go.Proofs.Ytiednihagnehlaa
open Go.RowKit

abbrev wForm : List UInt8 := [1, 107, 3, 1, 97, 1, 1, 1, 98, 2, 1, 120, 1, 99, 3, 1]
theorem small_ok : evOk ⟨#[107]⟩ smallL = true := by decide +kernel
theorem small_form : evForm ⟨#[107]⟩ smallL = wForm := by
 have z : zigN (-1) = 1 := by decide
 simp [evForm, smallL, atForm, valForm, form_lt, ByteArray.size, z]
theorem small_fits : Fits smallL := by
 intro a ha
 simp [smallL] at ha
 rcases ha with rfl | rfl | rfl <;> simp [ByteArray.size]
theorem take_small : takeE wForm = some (⟨#[107]⟩, smallL) := by
 have h := pEvent_fwd [] small_ok small_fits
 rw [small_form, List.append_nil] at h
 unfold takeE
 rw [h]
 simp [small_ok]
theorem take_more : takeE (wForm ++ [0]) = none := by
 have h := pEvent_fwd [0] small_ok small_fits
 rw [small_form] at h
 unfold takeE
 rw [h]
 simp
theorem take_less : takeE [1, 107, 3, 1, 97] = none := Option.isNone_iff_eq_none.1 (by decide +kernel)
theorem take_odd : takeE [129, 0, 107, 0] = none := Option.isNone_iff_eq_none.1 (by decide +kernel)
abbrev hasA (v : Value) : Con := ⟨⟨#[97]⟩, 1, noVal, v, []⟩
theorem hasA_ok (v : Value) : predOk [hasA v] = true := by
 have h1 : conOk (hasA v) = conOk (hasA .nilIface) := rfl
 have h2 : conOk (hasA .nilIface) = true := by decide +kernel
 have h := h1.trans h2
 simp [predOk, h]
theorem hasA_form (v : Value) : predForm ([hasA v].map Con.plain) = [1, 1, 97, 1] := by
 simp [predForm, conForm, Con.plain, form_lt, ByteArray.size]
abbrev pg35 : Pg := ⟨3, 5, .slice none 0 0, [], .slice none 0 0, [], true⟩
theorem pg35_ok : pgOk pg35.plain = true := by decide +kernel
theorem pg35_form : pageForm pg35.plain = [3, 5, 0, 0, 1] := by
 simp [pageForm, Pg.plain, form_lt]
theorem pg35_fine (w : World) : pg35.fine w := ⟨⟨SeesR.nil w, fun _ h => (by cases h), SeesR.nil w⟩, fun _ h => (by cases h), ⟨by decide, by decide⟩, fun h => (by cases h), fun h => (by cases h)⟩
theorem same_small : sameE ⟨#[107]⟩ smallL ⟨#[107]⟩ smallL = true := by decide +kernel
theorem size_small : evSize ⟨#[107]⟩ smallL = 16 := by unfold evSize; rw [small_ok, small_form]; rfl

end Go.Proofs.Ytiednihagnehlaa

namespace Go.Proofs.Ytiednihagnehlaa
open Go.RowKit

theorem flat_u8 (l : List UInt8) : l.flatMap (fun b => [u8 b]) = l.map u8 := by induction l <;> simp_all
theorem ownsR_u8 {w : World} {B : Nat} {v : Value} {l : List UInt8} : OwnsR w B 5 1 (fun b => [u8 b]) v l ↔ Owns w B v l := by unfold OwnsR Owns; rw [flat_u8]
theorem seesR_u8 {w : World} {v : Value} {l : List UInt8} (h : Sees w v l) : SeesR w 1 (fun b => [u8 b]) v l := by
 obtain ⟨p, c, h1, h2, h3, h4, h5⟩ := h
 refine ⟨p, c, h1, h2, h3, h4, fun a ha => ⟨(h5 a ha).1, fun j x hx i u hu => ?_⟩⟩
 cases i with
 | zero => simp only [List.getElem?_cons_zero, Option.some.injEq] at hu; subst hu; simpa using (h5 a ha).2 j x hx
 | succ i => simp at hu
theorem step_append_bytes {w : World} {ops : Array Oper} {o : Oper} {a : Act} {K : Act → World → Prop} {Q : Exit → Act → World → Prop} {G : Prop} (hgd : o.guard = none) (s x : Operand)
  (ho : o.op = .call { callee := .builtin .append, args := #[s, x], argTypes := #[146, 146] })
  (B : Nat) (v : Value) (l : List UInt8) (hs : a.eval s = v) (hown : Owns w B v l) (u : Value) (m : List UInt8) (hx : a.eval x = u) (hu : Sees w u m)
  (hlen : l.length + m.length ≤ 1000000000) (hB : B ≤ w.heap.size)
  (h : ∀ v' w', Owns w' B v' (l ++ m) → w.grownBy w' v.ownBlock → K (a.put o.dst v') w') :
  if Region.wanted o (yielded ops a.tmps) = true then Oper.wp Try.prog o a w K Q else G :=
 step_append_rows (P := Try.prog) hgd s x 146 ho B 5 1 1 (fun b => [u8 b]) _ Try.underlying146 Try.infoU8 rfl (by decide) v l hs (ownsR_u8.2 hown) u m hx (seesR_u8 hu) (fun _ _ => rfl)
  (fun y _ c hc => by simp at hc; subst hc; rfl) (by unfold maxLen; omega) (by omega) hB (fun v' w' h1 h2 _ => h v' w' (ownsR_u8.1 h1) h2)
end Go.Proofs.Ytiednihagnehlaa

namespace Go.Proofs.Ytiednihagnehlaa
open Go.RowKit

end Go.Proofs.Ytiednihagnehlaa

namespace Go.Proofs.Ytiednihagnehlaa
open Go.RowKit
theorem SeesR.keep0 {α : Type} {S : Nat → Prop} {w w' : World} {k : Nat} {enc : α → List Value} {v : Value} {l : List α} (h : SeesR w k enc v l) (hk : Keeps S w w') (hS : 0 < l.length → ∀ b, v.ownBlock = some b → ¬ S b) : SeesR w' k enc v l := by
 cases l with
 | nil =>
  obtain ⟨p, c, e, h1, h2, h3, h4⟩ := h
  exact ⟨p, c, e, h1, h2, h3, fun a ha => ⟨(h4 a ha).1, fun j x hj => by cases hj⟩⟩
 | cons x r => exact h.keeps hk (hS (by simp))

theorem ref_may_item_any (x : It) (w : World) (h : x.fine w) : Calls Try.prog 57 #[.agg x.cells.toArray] w fun e w' => e = .returned (.bool (itOk x.plain)) ∧ Old w w' := by
 have M := fun W (k : Old w W) => ref_ev_may_any x.key x.av x.es W (h.1.old k) (fun a ha => (h.2.2.1 a ha).1)
 obtain ⟨n, t, key, av, es⟩ := x
 obtain ⟨p, c, e9, _, _⟩ := h.1.len
 simp only at e9
 subst e9
 unfold It.cells itOk It.plain
 simp only at M ⊢
 have hn := h.2.2.2.1
 have ht := h.2.2.2.2
 simp only at hn ht
 generalize hW0 : w.alloc (.cells #[.int .u64 n, .int .u64 t, .string key, .slice p es.length c] 35) = W0
 have k0 : Old w W0 := by rw [← hW0]; exact (Keeps.refl _ _).alloc _
 have hb0 : W0.heap[w.heap.size]? = some (.cells #[.int .u64 n, .int .u64 t, .string key, .slice p es.length c] 35 (0, 0)) := by rw [← hW0]; exact heap_alloc_new _ _
 have g := (blk4 hb0).1
 have C := Lib.hid (M W0 k0)
 have H := Lib.hid k0
 clear M k0 hb0 h
 by_cases a : 1 ≤ n
 ·have a1 : decide (1 ≤ n) = true := decide_eq_true a
  have a2 : decide (0 < n) = true := by simp; omega
  have a3 : decide ((n : Int) > 0) = true := by simp; omega
  by_cases b : n ≤ 1099511627776
  ·have b1 : decide (n ≤ 1099511627776) = true := decide_eq_true b
   have b2 : decide ((n : Int) ≤ 1099511627776) = true := by simp; omega
   by_cases d : t ≤ 1099511627776
   ·have d1 : decide (t ≤ 1099511627776) = true := decide_eq_true d
    have d2 : decide ((t : Int) ≤ 1099511627776) = true := by simp; omega
    go_enter Try.func57, Try.ntmps57
    go_wp2_with fail
    refine C.out.mono ?_
    rintro e w1 ⟨rfl, hk⟩
    have K := Lib.hid (H.out.trans hk)
    clear hk
    go_wp2_with fail
    go_ret
    exact ⟨by first | rfl | simp [a, b, d], K.out⟩
   ·have d1 : decide (t ≤ 1099511627776) = false := decide_eq_false d
    have d2 : decide ((t : Int) ≤ 1099511627776) = false := by simp; omega
    go_enter Try.func57, Try.ntmps57
    go_wp2_with fail
    go_ret
    exact ⟨by first | rfl | simp, H.out⟩
  ·have b1 : decide (n ≤ 1099511627776) = false := decide_eq_false b
   have b2 : decide ((n : Int) ≤ 1099511627776) = false := by simp; omega
   go_enter Try.func57, Try.ntmps57
   go_wp2_with fail
   go_ret
   exact ⟨by first | rfl | simp, H.out⟩
 ·have a1 : decide (1 ≤ n) = false := decide_eq_false a
  have a2 : decide (0 < n) = false := by simp; omega
  have a3 : decide ((n : Int) > 0) = false := by simp; omega
  go_enter Try.func57, Try.ntmps57
  go_wp2_with fail
  go_ret
  exact ⟨by first | rfl | simp, H.out⟩


end Go.Proofs.Ytiednihagnehlaa

namespace Go.Proofs.Ytiednihagnehlaa
open Go.RowKit

theorem no_u8_it (n t : Nat) (k : ByteArray) (p : Option Addr) (l c : Nat) : ∀ (i : Nat) (x : UInt8), (#[.int .u64 n, .int .u64 t, .string k, .slice p l c] : Array Value)[i]? ≠ some (u8 x) := by
 intro i x h
 rcases i with _ | _ | _ | _ | i <;> simp [u8] at h

end Go.Proofs.Ytiednihagnehlaa

namespace Go.Proofs.Ytiednihagnehlaa
open Go.RowKit

/-- what is told of bytes as an item, told in full -/
def TakVI (L : List UInt8) (w : World) (e : Ending) (w' : World) : Prop :=
 ∃ (n tm : Nat) (key : ByteArray) (p : Option Addr) (len c : Nat) (es : List At) (z : Int), e = .returned (.tuple #[.agg #[.int .u64 n, .int .u64 tm, .string key, .slice p len c], .int .i64 z]) ∧ Old w w' ∧
  It.fine w' ⟨n, tm, key, .slice p len c, es⟩ ∧ ((takeI L = some ⟨n, tm, key, es⟩ ∧ z = 0) ∨ (takeI L = none ∧ n = 0 ∧ tm = 0 ∧ key = ⟨#[]⟩ ∧ es = [] ∧ z = 5))
theorem TakVI.no {L : List UInt8} {w w' : World} (h : takeI L = none) (k : Old w w') : TakVI L w (.returned (.tuple #[.agg #[.int .u64 0, .int .u64 0, .string ⟨#[]⟩, .slice none 0 0], .int .i64 5])) w' :=
 ⟨0, 0, _, none, 0, 0, [], 5, rfl, k, ⟨SeesR.nil _, fun h => by simp at h, fun _ h => (by cases h), by decide, by decide⟩, Or.inr ⟨h, rfl, rfl, rfl, rfl, rfl⟩⟩
end Go.Proofs.Ytiednihagnehlaa

namespace Go.Proofs.Ytiednihagnehlaa
open Go.RowKit

theorem ref_bare_any (v : Val) (w : World) : Calls Try.prog 87 #[.agg v.cells] w fun e w' => e = .returned (.bool (bare v)) ∧ Old w w' := by
 obtain ⟨k, n, s, b⟩ := v
 unfold Val.cells bare
 by_cases h1 : k = 0
 ·subst h1
  by_cases h2 : n = 0
  ·subst h2
   by_cases hs : s.toList.isEmpty = true
   all_goals go_enter Try.func87, Try.ntmps87
   all_goals go_wp2_with fail
   all_goals go_ret
   all_goals refine ⟨?_, (Keeps.refl _ _).alloc _⟩
   all_goals simp_all
  ·have t2 : ((n : Int) == 0) = false := by simp; omega
   go_enter Try.func87, Try.ntmps87
   go_wp2_with fail
   all_goals go_ret
   all_goals refine ⟨?_, (Keeps.refl _ _).alloc _⟩
   all_goals simp_all
 ·have t1 : ((k : Int) == 0) = false := by simp; omega
  go_enter Try.func87, Try.ntmps87
  go_wp2_with fail
  all_goals go_ret
  all_goals refine ⟨?_, (Keeps.refl _ _).alloc _⟩
  all_goals simp_all

set_option maxRecDepth 100000 in
set_option maxHeartbeats 2000000 in
theorem ref_may_cons_any (x : Con) (w : World) (h : SeesV w x.sv x.set) : Calls Try.prog 74 #[.agg x.cells.toArray] w fun e w' => e = .returned (.bool (conOk x)) ∧ Old w w' := by
 have B := ref_bare_any x.val
 have V := ref_val_any x.val
 obtain ⟨nm, op, ⟨k, n, s, b⟩, sv, set⟩ := x
 obtain ⟨p, c, hsv, hb1, hb2⟩ := h.len
 simp only at hsv hb1 hb2 h
 subst hsv
 have hmm : set.length ≤ 9223372036854775807 := by unfold maxLen at hb2; omega
 clear hb1 hb2
 unfold Con.cells
 unfold Val.cells at B V
 simp only at B V ⊢
 obtain ⟨W0, hW0⟩ : ∃ W0, w.alloc (.cells #[.string nm, .int .i64 op, .int .i64 k, .int .i64 n, .string s, .bool b, .slice p set.length c] 69) = W0 := ⟨_, rfl⟩
 have k0 : Old w W0 := by rw [← hW0]; exact (Keeps.refl _ _).alloc _
 have b0 : W0.heap[w.heap.size]? = some (.cells #[.string nm, .int .i64 op, .int .i64 k, .int .i64 n, .string s, .bool b, .slice p set.length c] 69 (0, 0)) := by rw [← hW0]; exact heap_alloc_new _ _
 have g0 := blk7 b0
 have K0 := Lib.hid (And.intro k0 b0)
 have H := Lib.hid h
 clear k0 b0 h
 by_cases g1 : 1 ≤ nm.size
 case neg =>
  have d1 : ((nm.size : Int) == 0) = true := by rw [beq_iff_eq]; omega
  go_enter Try.func74, Try.ntmps74
  go_wp2_with fail
  go_ret
  exact ⟨ret_bool (by unfold conOk; simp only; rw [decide_eq_false g1]; rfl), K0.out.1⟩
 have d1 : ((nm.size : Int) == 0) = false := by rw [beq_eq_false_iff_ne]; omega
 by_cases g2 : nm.size ≤ 16
 case neg =>
  have d2 : decide ((nm.size : Int) > 16) = true := by simp; omega
  go_enter Try.func74, Try.ntmps74
  go_wp2_with fail
  go_ret
  exact ⟨ret_bool (by unfold conOk; simp only; rw [decide_eq_false g2, Bool.and_false]; rfl), K0.out.1⟩
 have d2 : decide ((nm.size : Int) > 16) = false := by simp; omega
 have hok : conOk ⟨nm, op, ⟨k, n, s, b⟩, .slice p set.length c, set⟩ = (if op = 1 then bare ⟨k, n, s, b⟩ && decide (set.length = 0)
   else if 2 ≤ op ∧ op ≤ 7 then (Val.mk k n s b).ok && decide (set.length = 0)
   else if op = 8 then (Val.mk k n s b).ok && (decide (k = 2) && decide (set.length = 0))
   else if op = 9 then bare ⟨k, n, s, b⟩ && (decide (1 ≤ set.length) && (decide (set.length ≤ 6) && set.all Val.ok))
   else false) := by
  unfold conOk; simp only; rw [decide_eq_true g1, decide_eq_true g2]; rfl
 rw [hok]
 clear hok g1 g2
 generalize bare ⟨k, n, s, b⟩ = br at B ⊢
 generalize (Val.mk k n s b).ok = vo at V ⊢
 have CB := Lib.hid B
 have CV := Lib.hid V
 clear B V
 by_cases h1 : op = 1
 ·subst h1
  rw [if_pos rfl]
  cases br
  ·go_enter Try.func74, Try.ntmps74
   go_wp2_with fail
   refine (CB.out _).mono ?_
   rintro e w1 ⟨rfl, hk1⟩
   have K1 := Lib.hid (K0.out.1.trans hk1)
   clear hk1
   go_wp2_with fail
   go_ret
   exact ⟨ret_bool (by simp), K1.out⟩
  ·by_cases hz : set.length = 0
   ·have dz : ((set.length : Int) == 0) = true := by rw [hz]; rfl
    have HZ := Lib.hid hz
    clear hz
    go_enter Try.func74, Try.ntmps74
    go_wp2_with fail
    refine (CB.out _).mono ?_
    rintro e w1 ⟨rfl, hk1⟩
    have g1 := blk7 ((hk1.block _ (lt_of_heap K0.out.2) (fun f => f)).trans K0.out.2)
    have K1 := Lib.hid (K0.out.1.trans hk1)
    clear hk1 g0
    go_wp2_with fail
    go_ret
    exact ⟨ret_bool (by simp [HZ.out]), K1.out⟩
   ·have dz : ((set.length : Int) == 0) = false := by rw [beq_eq_false_iff_ne]; omega
    have HZ := Lib.hid hz
    clear hz
    go_enter Try.func74, Try.ntmps74
    go_wp2_with fail
    refine (CB.out _).mono ?_
    rintro e w1 ⟨rfl, hk1⟩
    have g1 := blk7 ((hk1.block _ (lt_of_heap K0.out.2) (fun f => f)).trans K0.out.2)
    have K1 := Lib.hid (K0.out.1.trans hk1)
    clear hk1 g0
    go_wp2_with fail
    go_ret
    exact ⟨ret_bool (by simp [HZ.out]), K1.out⟩
 have t1 : ((op : Int) == 1) = false := by rw [beq_eq_false_iff_ne]; exact h1
 rw [if_neg h1]
 by_cases h9 : op = 9
 ·subst h9
  rw [if_neg (by omega), if_neg (by omega), if_pos rfl]
  clear h1
  cases br
  ·go_enter Try.func74, Try.ntmps74
   go_wp2_with fail
   refine (CB.out _).mono ?_
   rintro e w1 ⟨rfl, hk1⟩
   have K1 := Lib.hid (K0.out.1.trans hk1)
   clear hk1
   go_wp2_with fail
   go_ret
   exact ⟨ret_bool (by simp), K1.out⟩
  by_cases hz : 1 ≤ set.length
  case neg =>
   have dz : ((set.length : Int) == 0) = true := by rw [beq_iff_eq]; omega
   have HZ := Lib.hid hz
   clear hz
   go_enter Try.func74, Try.ntmps74
   go_wp2_with fail
   refine (CB.out _).mono ?_
   rintro e w1 ⟨rfl, hk1⟩
   have g1 := blk7 ((hk1.block _ (lt_of_heap K0.out.2) (fun f => f)).trans K0.out.2)
   have K1 := Lib.hid (K0.out.1.trans hk1)
   clear hk1 g0
   go_wp2_with fail
   go_ret
   exact ⟨ret_bool (by rw [decide_eq_false HZ.out]; rfl), K1.out⟩
  have dz : ((set.length : Int) == 0) = false := by rw [beq_eq_false_iff_ne]; omega
  by_cases h6 : set.length ≤ 6
  case neg =>
   have d6 : decide ((set.length : Int) > 6) = true := decide_eq_true (by omega)
   have HZ := Lib.hid h6
   clear h6 hz
   go_enter Try.func74, Try.ntmps74
   go_wp2_with fail
   refine (CB.out _).mono ?_
   rintro e w1 ⟨rfl, hk1⟩
   have g1 := blk7 ((hk1.block _ (lt_of_heap K0.out.2) (fun f => f)).trans K0.out.2)
   have K1 := Lib.hid (K0.out.1.trans hk1)
   clear hk1 g0
   go_wp2_with fail
   go_ret
   exact ⟨ret_bool (by rw [decide_eq_false HZ.out]; simp), K1.out⟩
  have d6 : decide ((set.length : Int) > 6) = false := decide_eq_false (by omega)
  rw [decide_eq_true hz, decide_eq_true h6, Bool.true_and, Bool.true_and, Bool.true_and]
  clear hz h6
  go_enter Try.func74, Try.ntmps74
  go_wp2_with fail
  refine (CB.out _).mono ?_
  rintro e w1 ⟨rfl, hk1⟩
  have b1 := (hk1.block _ (lt_of_heap K0.out.2) (fun f => f)).trans K0.out.2
  have g1 := blk7 b1
  have B1 := Lib.hid b1
  have K1 := Lib.hid (K0.out.1.trans hk1)
  clear hk1 g0 b1
  go_wp2_with fail
  go_loopw [3] (fun v3 wr => ∃ i : Nat, i ≤ set.length ∧ v3 = .int .i64 i ∧ (set.take i).all Val.ok = true ∧ Old w1 wr) (fun v3 _ => set.length - (intOf v3).toNat)
  case atStart => exact ⟨0, by omega, rfl, rfl, Keeps.refl _ _⟩
  case round =>
   obtain ⟨i, hi, rfl, hr, hk⟩ := hrel
   have HR := Lib.hid hr
   have g0 := blk7 ((hk.block _ (lt_of_heap B1.out) (fun f => f)).trans B1.out)
   have KW := Lib.hid hk
   clear hr hk g1
   by_cases hlt : i < set.length
   ·obtain ⟨pb, po, cc, he, _, _, hc⟩ := H.out.at (by omega)
    simp only [Value.slice.injEq, true_and] at he
    obtain ⟨rfl, rfl⟩ := he
    obtain ⟨x, hx⟩ : ∃ x, set[i]? = some x := ⟨_, List.getElem?_eq_getElem hlt⟩
    have cx := fun j u (hu : (valL x)[j]? = some u) => (K1.out.trans KW.out).cell (hc i x hx j u hu) (fun f => f)
    have x0 := cx 0 _ rfl
    have x1 := cx 1 _ rfl
    have x2 := cx 2 _ rfl
    have x3 := cx 3 _ rfl
    simp only [Nat.add_zero] at x0
    have i2 : (i : Int) < (set.length : Int) := by omega
    have hst : (set.take (i + 1)).all Val.ok = x.ok := by
     rw [List.take_add_one, hx, List.all_append, HR.out]; simp
    have hall : x.ok = false → set.all Val.ok = false := fun hf => by
     rw [List.all_eq_false]; exact ⟨x, List.mem_of_getElem? hx, by simp [hf]⟩
    have VX := ref_val_any x
    unfold Val.cells at VX
    generalize x.ok = xo at hst hall VX
    have HS := Lib.hid (And.intro hst hall)
    have HV := Lib.hid VX
    clear hx cx hc hst hall VX
    cases xo
    ·go_wp2_with fail
     refine (HV.out _).mono ?_
     rintro e w2 ⟨rfl, hk2⟩
     have K2 := Lib.hid ((K1.out.trans KW.out).trans hk2)
     clear hk2
     go_wp2_with fail
     go_ret
     exact ⟨ret_bool (by first | rw [HS.out.2 rfl] | rw [HS.out.2 trivial]), K2.out⟩
    ·go_wp2_with fail
     refine (HV.out _).mono ?_
     rintro e w2 ⟨rfl, hk2⟩
     have K2 := Lib.hid (KW.out.trans hk2)
     clear hk2
     go_wp2_with fail
     go_roundw
     case rel => exact ⟨i + 1, by omega, by go_num, HS.out.1, K2.out⟩
     case measure => simp [intOf]; omega
   ·have hat : (set.all Val.ok) = true := by
     have := HR.out
     rw [List.take_of_length_le (by omega)] at this
     exact this
    have HA := Lib.hid hat
    clear hat
    go_wp2_with fail
    go_ret
    exact ⟨ret_bool HA.out.symm, K1.out.trans KW.out⟩
 have t9 : ((op : Int) == 9) = false := by rw [beq_eq_false_iff_ne]; exact h9
 by_cases h2 : 2 ≤ op
 case neg =>
  have d3 : decide (op < 2) = true := decide_eq_true (by omega)
  rw [if_neg (by omega), if_neg (by omega), if_neg h9]
  clear h1 h9 h2
  go_enter Try.func74, Try.ntmps74
  go_wp2_with fail
  go_ret
  exact ⟨rfl, K0.out.1⟩
 have d3 : decide (op < 2) = false := decide_eq_false (by omega)
 by_cases h8 : op ≤ 8
 case neg =>
  have d4 : decide (op > 8) = true := decide_eq_true (by omega)
  rw [if_neg (by omega), if_neg (by omega), if_neg h9]
  clear h1 h9 h2 h8
  go_enter Try.func74, Try.ntmps74
  go_wp2_with fail
  go_ret
  exact ⟨rfl, K0.out.1⟩
 have d4 : decide (op > 8) = false := decide_eq_false (by omega)
 by_cases hz : set.length = 0
 case neg =>
  have d5 : decide ((set.length : Int) > 0) = true := decide_eq_true (by omega)
  have d7 : decide (0 < set.length) = true := decide_eq_true (by omega)
  have e : (if 2 ≤ op ∧ op ≤ 7 then vo && decide (set.length = 0) else if op = 8 then vo && (decide (k = 2) && decide (set.length = 0))
   else if op = 9 then br && (decide (1 ≤ set.length) && (decide (set.length ≤ 6) && set.all Val.ok)) else false) = false := by
   rw [decide_eq_false hz, if_neg h9]; split
   ·simp
   ·split <;> simp
  rw [e]
  clear h1 h9 h2 h8 hz e
  go_enter Try.func74, Try.ntmps74
  go_wp2_with fail
  go_ret
  exact ⟨rfl, K0.out.1⟩
 have d5 : decide ((set.length : Int) > 0) = false := decide_eq_false (by omega)
 have d7 : decide (0 < set.length) = false := decide_eq_false (by omega)
 cases vo
 ·have e : (if 2 ≤ op ∧ op ≤ 7 then false && decide (set.length = 0) else if op = 8 then false && (decide (k = 2) && decide (set.length = 0))
   else if op = 9 then br && (decide (1 ≤ set.length) && (decide (set.length ≤ 6) && set.all Val.ok)) else false) = false := by
   rw [if_neg h9]; split
   ·simp
   ·split <;> simp
  rw [e]
  clear h1 h9 h2 h8 hz e
  go_enter Try.func74, Try.ntmps74
  go_wp2_with fail
  refine (CV.out _).mono ?_
  rintro e w1 ⟨rfl, hk1⟩
  have K1 := Lib.hid (K0.out.1.trans hk1)
  clear hk1
  go_wp2_with fail
  go_ret
  exact ⟨rfl, K1.out⟩
 by_cases he8 : op = 8
 ·subst he8
  rw [if_neg (by omega), if_pos rfl, decide_eq_true hz]
  have HH := Lib.hid hz
  clear h1 h9 h2 h8 hz
  go_enter Try.func74, Try.ntmps74
  go_wp2_with fail
  refine (CV.out _).mono ?_
  rintro e w1 ⟨rfl, hk1⟩
  have g1 := blk7 ((hk1.block _ (lt_of_heap K0.out.2) (fun f => f)).trans K0.out.2)
  have K1 := Lib.hid (K0.out.1.trans hk1)
  clear hk1 g0
  go_wp2_with fail
  go_ret
  refine ⟨?_, K1.out⟩
  exact ret_bool (by by_cases e2 : k = 2 <;> simp [e2])
 ·have t8 : (op != 8) = true := by rw [bne_iff_ne]; exact he8
  rw [if_pos ⟨h2, by omega⟩, decide_eq_true hz]
  clear h1 h9 h2 h8 hz he8
  go_enter Try.func74, Try.ntmps74
  go_wp2_with fail
  refine (CV.out _).mono ?_
  rintro e w1 ⟨rfl, hk1⟩
  have g1 := blk7 ((hk1.block _ (lt_of_heap K0.out.2) (fun f => f)).trans K0.out.2)
  have K1 := Lib.hid (K0.out.1.trans hk1)
  clear hk1 g0
  go_wp2_with fail
  go_ret
  exact ⟨rfl, K1.out⟩

set_option maxRecDepth 100000 in
theorem ref_may_pred_any (v : Value) (l : List Con) (w : World) (h : Cons w v l) : Calls Try.prog 59 #[v] w fun e w' => e = .returned (.bool (predOk l)) ∧ Old w w' := by
 obtain ⟨p, c, hv, hb1, hb2⟩ := h.1.len
 subst hv
 have hmm : l.length ≤ 9223372036854775807 := by unfold maxLen at hb2; omega
 clear hb1 hb2
 have H := Lib.hid h
 clear h
 go_enter Try.func59, Try.ntmps59
 go_wp2_with fail
 go_loopw [3] (fun v3 wr => ∃ i : Nat, i ≤ l.length ∧ v3 = .int .i64 i ∧ (l.take i).all conOk = true ∧ Old w wr) (fun v3 _ => l.length - (intOf v3).toNat)
 case atStart => exact ⟨0, by omega, rfl, rfl, Keeps.refl _ _⟩
 case round =>
  obtain ⟨i, hi, rfl, hr, hk⟩ := hrel
  have HR := Lib.hid hr
  have KW := Lib.hid hk
  clear hr hk
  by_cases hlt : i < l.length
  ·obtain ⟨pb, po, cc, he, _, _, hc⟩ := H.out.1.at (by omega)
   simp only [Value.slice.injEq, true_and] at he
   obtain ⟨rfl, rfl⟩ := he
   obtain ⟨x, hx⟩ : ∃ x, l[i]? = some x := ⟨_, List.getElem?_eq_getElem hlt⟩
   have hst : (l.take (i + 1)).all conOk = conOk x := by
    rw [List.take_add_one, hx, List.all_append, HR.out]; simp
   have hall : conOk x = false → l.all conOk = false := fun hf => by
    rw [List.all_eq_false]; exact ⟨x, List.mem_of_getElem? hx, by simp [hf]⟩
   have VX := fun W (k : Old wr W) => ref_may_cons_any x W ((H.out.2 x (List.mem_of_getElem? hx)).1.old (KW.out.trans k))
   have cx := fun j u (hu : (Con.cells x)[j]? = some u) => KW.out.cell (hc i x hx j u hu) (fun f => f)
   obtain ⟨nm, op, ⟨k, n, s, b⟩, sv, set⟩ := x
   unfold Con.cells at cx VX
   simp only at cx VX
   have x0 := cx 0 _ rfl
   have x1 := cx 1 _ rfl
   have x2 := cx 2 _ rfl
   have x3 := cx 3 _ rfl
   have x4 := cx 4 _ rfl
   have x5 := cx 5 _ rfl
   have x6 := cx 6 _ rfl
   simp only [Nat.add_zero] at x0
   have i2 : (i : Int) < (l.length : Int) := by omega
   generalize conOk ⟨nm, op, ⟨k, n, s, b⟩, sv, set⟩ = xo at hst hall VX
   have HS := Lib.hid (And.intro hst hall)
   have HV := Lib.hid (VX _ (Keeps.refl _ _))
   clear hx cx hc hst hall VX
   cases xo
   ·go_wp2_with fail
    refine HV.out.mono ?_
    rintro e w2 ⟨rfl, hk2⟩
    have K2 := Lib.hid (KW.out.trans hk2)
    clear hk2
    go_wp2_with fail
    go_ret
    exact ⟨ret_bool (by rw [predOk]; first | rw [HS.out.2 rfl, Bool.and_false] | rw [HS.out.2 trivial, Bool.and_false]), K2.out⟩
   ·go_wp2_with fail
    refine HV.out.mono ?_
    rintro e w2 ⟨rfl, hk2⟩
    have K2 := Lib.hid (KW.out.trans hk2)
    clear hk2
    go_wp2_with fail
    go_roundw
    case rel => exact ⟨i + 1, by omega, by go_num, HS.out.1, K2.out⟩
    case measure => simp [intOf]; omega
  ·have hat : l.all conOk = true := by
    have := HR.out
    rw [List.take_of_length_le (by omega)] at this
    exact this
   have HA := Lib.hid hat
   clear hat
   by_cases h6 : l.length ≤ 6
   ·have d6 : decide ((l.length : Int) ≤ 6) = true := decide_eq_true (by omega)
    have HZ := Lib.hid h6
    clear h6
    go_wp2_with fail
    go_ret
    exact ⟨ret_bool (by rw [predOk, HA.out, decide_eq_true HZ.out]; rfl), KW.out⟩
   ·have d6 : decide ((l.length : Int) ≤ 6) = false := decide_eq_false (by omega)
    have HZ := Lib.hid h6
    clear h6
    go_wp2_with fail
    go_ret
    exact ⟨ret_bool (by rw [predOk, HA.out, decide_eq_false HZ.out]; rfl), KW.out⟩
end Go.Proofs.Ytiednihagnehlaa

namespace Go.Proofs.Ytiednihagnehlaa
open Go.RowKit

end Go.Proofs.Ytiednihagnehlaa

namespace Go.Proofs.Ytiednihagnehlaa
open Go.RowKit

end Go.Proofs.Ytiednihagnehlaa

namespace Go.Proofs.Ytiednihagnehlaa
open Go.RowKit

theorem setV7 {w : World} {b : Nat} {t : TypeId} {x0 x1 x2 x3 x4 x5 x6 a2 a3 a4 a5 : Value} (h : w.heap[b]? = some (.cells #[x0, x1, x2, x3, x4, x5, x6] t (0, 0))) :
  ((((w.setCell ⟨b, 2, none⟩ a2).setCell ⟨b, 3, none⟩ a3).setCell ⟨b, 4, none⟩ a4).setCell ⟨b, 5, none⟩ a5).heap[b]? = some (.cells #[x0, x1, a2, a3, a4, a5, x6] t (0, 0)) := by
 have h2 := heap_setCell_same w b 2 _ _ a2 h
 have h3 := heap_setCell_same _ b 3 _ _ a3 h2
 have h4 := heap_setCell_same _ b 4 _ _ a4 h3
 have h5 := heap_setCell_same _ b 5 _ _ a5 h4
 simpa using h5
theorem TakUP.no {L : List UInt8} {w w' : World} (h : takeP L = none) (k : Old w w') : TakUP L w (.returned (.tuple #[.slice none 0 0, .int .i64 5])) w' :=
 ⟨none, 0, 0, [], 5, rfl, k, ⟨SeesR.nil _, fun _ h => (by cases h)⟩, fun h => by simp at h, Or.inr ⟨h, rfl, rfl⟩⟩

end Go.Proofs.Ytiednihagnehlaa
