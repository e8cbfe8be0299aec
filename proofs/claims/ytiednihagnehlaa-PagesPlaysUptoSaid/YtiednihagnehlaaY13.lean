/- DERIVED. The document's reader of forms (layer 7): signed, value. · DERIVED. The document's reader of forms (layer 7): value. · DERIVED. The document's reader of forms (layer 7): event. · DERIVED. codec.PutPage. · DERIVED. Plain: items, constraints, predicates, gaps, pages: what is read, laid, is what went, and back. · DERIVED. codec.TakeItem. · DERIVED. codec.TakePred. · DERIVED. codec.TakePage. · DERIVED. codec.TakeItem, TakePred, TakePage. · DERIVED. What is taken of bytes, put again, is these bytes; with anything behind it is nothing, nor is any beginning. · DERIVED. codec's Put and Take, in one contract each; what was put is taken; forms that begin alike are one. · DERIVED. The document's TakeEvent and TakeItem. · DERIVED. The statements' small event (layer 7). -/
import Derived.Test.YtiednihagnehlaaY12
import Derived.Deep.Cut
import Derived.Deep.DeepCutAuto
import Derived.Test.YtiednihagnehlaaY09
import Derived.Test.YtiednihagnehlaaY10
namespace Go.Proofs.Ytiednihagnehlaa
open Go.RowKit

theorem lead_pre (x : UInt8) (hx : x.toNat < 128) (r : List UInt8) : ∀ pre : List UInt8, (∀ c ∈ pre, 128 ≤ c.toNat) → lead (pre ++ x :: r) = pre.length := by
 intro pre
 induction pre with
 | nil => intro _; simp [lead]; omega
 | cons c p ih =>
  intro h
  have h1 := h c (List.mem_cons_self ..)
  have h2 := ih (fun d hd => h d (List.mem_cons_of_mem _ hd))
  simp only [List.cons_append, List.length_cons]
  rw [lead, if_pos h1, h2]
theorem lead_ge (l' : List UInt8) : ∀ pre : List UInt8, (∀ c ∈ pre, 128 ≤ c.toNat) → pre.length ≤ lead (pre ++ l') := by
 intro pre
 induction pre with
 | nil => intro _; simp
 | cons c p ih =>
  intro h
  have h1 := h c (List.mem_cons_self ..)
  have h2 := ih (fun d hd => h d (List.mem_cons_of_mem _ hd))
  simp only [List.cons_append, List.length_cons]
  rw [lead, if_pos h1]
  omega
theorem pInt_many {pre l' : List UInt8} (h : ∀ c ∈ pre, 128 ≤ c.toNat) (h10 : 10 ≤ pre.length) : pInt (pre ++ l') = none := by
 rw [pInt_eq, read_many (by have := lead_ge l' pre h; omega)]; rfl
theorem pInt_short {pre : List UInt8} (h : ∀ c ∈ pre, 128 ≤ c.toNat) : pInt pre = none := by
 have h1 := lead_ge [] pre h
 rw [List.append_nil] at h1
 have h2 := lead_le pre
 rcases Nat.lt_or_ge pre.length 10 with g | g
 ·rw [pInt_eq, read_short (by omega) (by omega)]; rfl
 ·rw [pInt_eq, read_many (by omega)]; rfl
theorem pInt_last {pre r : List UInt8} {x : UInt8} (h : ∀ c ∈ pre, 128 ≤ c.toNat) (hx : x.toNat < 128) (hk : pre.length ≤ 9) :
  (((pre.length = 9 ∧ 1 < x.toNat) ∨ (0 < pre.length ∧ x.toNat = 0)) → pInt (pre ++ x :: r) = none) ∧
  (¬ ((pre.length = 9 ∧ 1 < x.toNat) ∨ (0 < pre.length ∧ x.toNat = 0)) → pInt (pre ++ x :: r) = some (zagZ (lev (pre ++ [x])), r) ∧ lev (pre ++ [x]) < 18446744073709551616) := by
 have hl := lead_pre x hx r pre h
 have hc : (pre ++ x :: r)[lead (pre ++ x :: r)]? = some x := by rw [hl]; simp
 have ht : (pre ++ x :: r).take (pre.length + 1) = pre ++ [x] := by rw [List.take_append]; simp; exact List.take_of_length_le (by omega)
 have hd : (pre ++ x :: r).drop (pre.length + 1) = r := by rw [List.drop_append]; simp
 constructor
 ·intro hb
  rw [pInt_eq, read_none (by omega) hc (by rw [hl]; exact hb)]; rfl
 ·intro hb
  have hf := lev_fits (pre ++ x :: r) pre.length (by omega) x (by simp) (by omega)
  rw [ht] at hf
  have hg := read_good (most := 18446744073709551615) (l := pre ++ x :: r) (by omega) hc (by rw [hl]; exact hb)
  rw [hl, ht, hd, if_neg (by omega)] at hg
  refine ⟨?_, hf⟩
  rw [pInt_eq, hg]; rfl
theorem zag_odd {n : Nat} (h : n % 2 = 1) : -((n : Int) / 2) - 1 = zagZ n := by unfold zagZ; rw [if_neg (by omega)]; omega
theorem zag_even {n : Nat} (h : n % 2 ≠ 1) : (n : Int) / 2 = zagZ n := by unfold zagZ; rw [if_pos (by omega)]; omega

end Go.Proofs.Ytiednihagnehlaa

namespace Go.Proofs.Ytiednihagnehlaa
open Go.RowKit

theorem no_u8_val (k n : Int) (s : ByteArray) (b : Bool) : ∀ (i : Nat) (x : UInt8), (#[.int .i64 k, .int .i64 n, .string s, .bool b] : Array Value)[i]? ≠ some (u8 x) := by
 intro i x h
 rcases i with _ | _ | _ | _ | i <;> simp [u8] at h
end Go.Proofs.Ytiednihagnehlaa

namespace Go.Proofs.Ytiednihagnehlaa
open Go.RowKit
theorem no_u8_ev (k : ByteArray) (v : Value) (hv : ∀ x, v ≠ u8 x) : ∀ (i : Nat) (x : UInt8), (#[.string k, v] : Array Value)[i]? ≠ some (u8 x) := by
 intro i x h
 rcases i with _ | _ | i
 ·simp [u8] at h
 ·simp at h; exact hv x h
 ·simp at h
theorem slice_no_u8 (p : Option Addr) (n c : Nat) : ∀ x, (.slice p n c : Value) ≠ u8 x := by intro x h; simp [u8] at h
theorem pAt_eq (l : List UInt8) : pAt l = (pText 16 l).bind fun x => (pVal x.2).map fun y => (⟨x.1, y.1⟩, y.2) := rfl

end Go.Proofs.Ytiednihagnehlaa

namespace Go.Proofs.Ytiednihagnehlaa
open Go.RowKit

def gapForm (g : PGap) : List UInt8 := form g.1 ++ form g.2
def pageForm (x : PPg) : List UInt8 := form x.fr ++ form x.en ++ form x.items.length ++ x.items.flatMap itForm ++ form x.gaps.length ++ x.gaps.flatMap gapForm ++ form (if x.last then 1 else 0)
theorem itsOk_mem (en : Nat) : ∀ (l : List PIt) (a : Nat), itsOk en a l = true → ∀ x ∈ l, itOk x = true
 | [], _, _, x, hx => by cases hx
 | y :: r, a, h, x, hx => by
  rw [itsOk] at h
  simp only [Bool.and_eq_true] at h
  rcases List.mem_cons.1 hx with rfl | hx
  ·exact h.1
  ·exact itsOk_mem en r _ h.2.2.2 x hx
theorem its_le {l : List It} (h : ∀ x ∈ l, itOk x.plain = true) (hf : ∀ x ∈ l, Fits x.es) : ((l.map It.plain).flatMap itForm).length ≤ 820 * l.length := by
 induction l with
 | nil => simp
 | cons x r ih =>
  have h1 := itForm_le (h x (by simp)) (hf x (by simp))
  have h2 := ih (fun y hy => h y (by simp [hy])) (fun y hy => hf y (by simp [hy]))
  simp only [List.map_cons, List.flatMap_cons, List.length_append, List.length_cons]
  omega
theorem gaps_le {l : List PGap} (h : ∀ g ∈ l, g.1 < 18446744073709551616 ∧ g.2 < 18446744073709551616) : (l.flatMap gapForm).length ≤ 20 * l.length := by
 induction l with
 | nil => simp
 | cons x r ih =>
  have h1 : (form x.1).length ≤ 10 := form_le10 (h x (by simp)).1
  have h2 : (form x.2).length ≤ 10 := form_le10 (h x (by simp)).2
  have h3 := ih (fun y hy => h y (by simp [hy]))
  simp only [List.flatMap_cons, List.length_append, List.length_cons, gapForm]
  omega

end Go.Proofs.Ytiednihagnehlaa

namespace Go.Proofs.Ytiednihagnehlaa

theorem pItem_inv {l r : List UInt8} {x : PIt} (h : pItem l = some (x, r)) : Fits x.es ∧ x.n ≤ 1099511627776 ∧ x.time ≤ 1099511627776 ∧ (itOk x = true → l = itForm x ++ r) := by
 unfold pItem at h
 cases ha : pNum 1099511627776 l with
 | none => rw [ha] at h; cases h
 | some a =>
  rw [ha] at h
  simp only [Option.bind_some] at h
  cases hb : pNum 1099511627776 a.2 with
  | none => rw [hb] at h; cases h
  | some b =>
   rw [hb] at h
   simp only [Option.bind_some] at h
   cases hc : pEvent b.2 with
   | none => rw [hc] at h; cases h
   | some c =>
    obtain ⟨⟨key, es⟩, r'⟩ := c
    rw [hc] at h
    simp only [Option.map_some, Option.some.injEq, Prod.mk.injEq] at h
    obtain ⟨rfl, rfl⟩ := h
    obtain ⟨e1, l1, _⟩ := pNum_inv ha
    obtain ⟨e2, l2, _⟩ := pNum_inv hb
    obtain ⟨_, _, f, e3⟩ := pEvent_inv hc
    refine ⟨f, l1, l2, fun hok => ?_⟩
    unfold itOk at hok
    simp only [Bool.and_eq_true, decide_eq_true_eq] at hok
    rw [e1, e2, e3 hok.2.2.2]
    simp [itForm]
theorem pItem_fwd {x : PIt} (r : List UInt8) (hok : itOk x = true) (hf : Fits x.es) : pItem (itForm x ++ r) = some (x, r) := by
 unfold itOk at hok
 simp only [Bool.and_eq_true, decide_eq_true_eq] at hok
 unfold pItem itForm
 rw [show form x.n ++ form x.time ++ evForm x.key x.es ++ r = form x.n ++ (form x.time ++ (evForm x.key x.es ++ r)) from by simp, pNum_fwd _ hok.2.1 (by omega)]
 simp only [Option.bind_some]
 rw [pNum_fwd _ hok.2.2.1 (by omega)]
 simp only [Option.bind_some]
 rw [pEvent_fwd r hok.2.2.2 hf]
 rfl

/-- may a constraint be, wherever its set lies -/
def conOkP (c : PCon) : Bool := conOk ⟨c.name, c.op, c.val, .nilIface, c.set⟩
theorem conOk_plain (x : Con) : conOk x = conOkP x.plain := rfl
def okP (l : List PCon) : Bool := decide (l.length ≤ 6) && l.all conOkP
theorem predOk_plain (l : List Con) : predOk l = okP (l.map Con.plain) := by
 unfold predOk okP
 rw [List.length_map, List.all_map]
 rfl
/-- numbers within their kinds, names that fit -/
def ConG (c : PCon) : Prop := c.name.size ≤ 16 ∧ VFits c.val ∧ ∀ v ∈ c.set, VFits v
theorem vfits_none : VFits noVal := ⟨by simp, by simp⟩
theorem bare_eq {v : Val} (h : bare v = true) : v = noVal := by
 obtain ⟨k, n, s, b⟩ := v
 unfold bare at h
 simp only [Bool.and_eq_true, beq_iff_eq, Bool.not_eq_true'] at h
 obtain ⟨rfl, rfl, hs, rfl⟩ := h
 rw [empty_arr hs]
theorem pCon_inv {l r : List UInt8} {c : PCon} (h : pCon l = some (c, r)) : ConG c ∧ (conOkP c = true → l = conForm c ++ r) := by
 unfold pCon at h
 cases ha : pText 16 l with
 | none => rw [ha] at h; cases h
 | some a =>
  rw [ha] at h
  simp only [Option.bind_some] at h
  cases hb : pNum 9 a.2 with
  | none => rw [hb] at h; cases h
  | some b =>
   rw [hb] at h
   simp only [Option.bind_some] at h
   obtain ⟨e1, l1⟩ := pText_inv (by decide) ha
   obtain ⟨e2, l2, _⟩ := pNum_inv hb
   by_cases o1 : b.1 = 1
   ·rw [if_pos o1] at h
    simp only [Option.some.injEq, Prod.mk.injEq] at h
    obtain ⟨rfl, rfl⟩ := h
    refine ⟨⟨l1, vfits_none, fun v hv => by cases hv⟩, fun _ => ?_⟩
    rw [e1, e2, o1]; simp [conForm]
   ·rw [if_neg o1] at h
    by_cases o9 : b.1 = 9
    ·rw [if_pos o9] at h
     cases hc : pList 6 pVal b.2 with
     | none => rw [hc] at h; cases h
     | some c =>
      rw [hc] at h
      simp only [Option.map_some, Option.some.injEq, Prod.mk.injEq] at h
      obtain ⟨rfl, rfl⟩ := h
      obtain ⟨_, g2, g3⟩ := pList_inv (f := valForm) (ok := fun v => v.ok = true) (good := VFits) (fun l x r h => ⟨(pVal_inv h).1, (pVal_inv h).2.2.2.2⟩) hc
      refine ⟨⟨l1, vfits_none, g2⟩, fun hok => ?_⟩
      have hs := (conOk_parts hok).2.2.2.1 rfl
      rw [e1, e2, o9, g3 hs.2]; simp [conForm]
    ·rw [if_neg o9] at h
     cases hc : pVal b.2 with
     | none => rw [hc] at h; cases h
     | some c =>
      rw [hc] at h
      simp only [Option.map_some, Option.some.injEq, Prod.mk.injEq] at h
      obtain ⟨rfl, rfl⟩ := h
      obtain ⟨g1, _, _, _, g5⟩ := pVal_inv hc
      refine ⟨⟨l1, g1, fun v hv => by cases hv⟩, fun hok => ?_⟩
      have hv := (conOk_parts hok).2.2.2.2 (by simp; omega) (by simp; omega)
      have n1 : ¬ ((b.1 : Int) = 1) := by omega
      have n9 : ¬ ((b.1 : Int) = 9) := by omega
      rw [e1, e2, g5 hv]; simp [conForm, n1, n9]
theorem conOk_bare {x : Con} (h : conOk x = true) : ((x.op = 1 ∨ x.op = 9) → x.val = noVal) ∧ (x.op ≠ 9 → x.set = []) := by
 unfold conOk at h
 simp only [Bool.and_eq_true, decide_eq_true_eq] at h
 obtain ⟨_, h3⟩ := h
 by_cases o1 : x.op = 1
 ·rw [if_pos o1] at h3; simp at h3; exact ⟨fun _ => bare_eq h3.1, fun _ => h3.2⟩
 ·rw [if_neg o1] at h3
  by_cases o2 : 2 ≤ x.op ∧ x.op ≤ 7
  ·rw [if_pos o2] at h3; simp at h3; exact ⟨fun h => by omega, fun _ => h3.2⟩
  ·rw [if_neg o2] at h3
   by_cases o3 : x.op = 8
   ·rw [if_pos o3] at h3; simp at h3; exact ⟨fun h => by omega, fun _ => h3.2.2⟩
   ·rw [if_neg o3] at h3
    by_cases o4 : x.op = 9
    ·rw [if_pos o4] at h3; simp at h3; exact ⟨fun _ => bare_eq h3.1, fun h => absurd o4 h⟩
    ·rw [if_neg o4] at h3; cases h3
theorem pCon_fwd {c : PCon} (r : List UInt8) (hok : conOkP c = true) (hg : ConG c) : pCon (conForm c ++ r) = some (c, r) := by
 obtain ⟨nm, op, val, set⟩ := c
 obtain ⟨h1, h2, h3, h4, h5⟩ := conOk_parts hok
 obtain ⟨b1, b2⟩ := conOk_bare hok
 simp only at h1 h2 h3 h4 h5 b1 b2
 obtain ⟨q, rfl⟩ := Int.eq_ofNat_of_zero_le (show 0 ≤ op by omega)
 unfold pCon conForm
 simp only [Int.toNat_natCast]
 have ht := fun t => pText_fwd (most := 16) (s := nm) t h1 (by decide)
 by_cases o1 : q = 1
 ·obtain rfl := b1 (.inl (by omega))
  obtain rfl := b2 (by omega)
  rw [if_pos (by omega), List.append_nil, List.append_assoc, ht]
  simp only [Option.bind_some]
  rw [pNum_fwd _ (by omega) (by omega)]
  simp [o1]
 ·by_cases o9 : q = 9
  ·obtain rfl := b1 (.inr (by omega))
   obtain ⟨g1, g2⟩ := h4 (by omega)
   rw [if_neg (by omega), if_pos (by omega)]
   rw [show form nm.size ++ nm.toList ++ form q ++ (form set.length ++ set.flatMap valForm) ++ r = form nm.size ++ nm.toList ++ (form q ++ (form set.length ++ set.flatMap valForm ++ r)) from by simp, ht]
   simp only [Option.bind_some]
   rw [pNum_fwd _ (by omega) (by omega)]
   simp only [Option.bind_some]
   rw [if_neg o1, if_pos o9, pList_fwd set g1 (by omega) (fun v hv t => pVal_fwd t (g2 v hv) (hg.2.2 v hv))]
   simp [o9]
  ·obtain rfl := b2 (by omega)
   rw [if_neg (by omega), if_neg (by omega)]
   rw [show form nm.size ++ nm.toList ++ form q ++ valForm val ++ r = form nm.size ++ nm.toList ++ (form q ++ (valForm val ++ r)) from by simp, ht]
   simp only [Option.bind_some]
   rw [pNum_fwd _ (by omega) (by omega)]
   simp only [Option.bind_some]
   rw [if_neg o1, if_neg o9, pVal_fwd r (h5 (by omega) (by omega)) hg.2.1]
   rfl
theorem okP_parts {l : List PCon} (h : okP l = true) : l.length ≤ 6 ∧ ∀ c ∈ l, conOkP c = true := by
 unfold okP at h; simp at h; exact h
theorem pPred_inv {l r : List UInt8} {cs : List PCon} (h : pPred l = some (cs, r)) : (∀ c ∈ cs, ConG c) ∧ (okP cs = true → l = predForm cs ++ r) := by
 obtain ⟨_, g2, g3⟩ := pList_inv (f := conForm) (ok := fun c => conOkP c = true) (good := ConG) (fun l x r h => pCon_inv h) h
 exact ⟨g2, fun hok => by rw [g3 (okP_parts hok).2]; simp [predForm]⟩
theorem pPred_fwd {cs : List PCon} (r : List UInt8) (hok : okP cs = true) (hg : ∀ c ∈ cs, ConG c) : pPred (predForm cs ++ r) = some (cs, r) := by
 obtain ⟨h1, h2⟩ := okP_parts hok
 exact pList_fwd cs h1 (by omega) (fun c hc t => pCon_fwd t (h2 c hc) (hg c hc)) r

theorem pGap_inv {l r : List UInt8} {g : PGap} (h : pGap l = some (g, r)) : (g.1 ≤ 1099511627776 ∧ g.2 ≤ 1099511627776) ∧ l = gapForm g ++ r := by
 obtain ⟨l1, q1, q2⟩ := pGap_cases h
 obtain ⟨e1, h1, _⟩ := pNum_inv q1
 obtain ⟨e2, h2, _⟩ := pNum_inv q2
 exact ⟨⟨h1, h2⟩, by rw [e1, e2]; simp [gapForm]⟩
theorem pGap_fwd {g : PGap} (r : List UInt8) (h1 : g.1 ≤ 1099511627776) (h2 : g.2 ≤ 1099511627776) : pGap (gapForm g ++ r) = some (g, r) := by
 unfold pGap gapForm
 rw [List.append_assoc, pNum_fwd _ h1 (by omega)]
 simp only [Option.bind_some]
 rw [pNum_fwd _ h2 (by omega)]
 rfl
theorem pPage_inv {l r : List UInt8} {x : PPg} (h : pPage l = some (x, r)) : (x.fr ≤ 1099511627777 ∧ x.en ≤ 1099511627777) ∧ (∀ y ∈ x.items, Fits y.es ∧ y.n ≤ 1099511627776 ∧ y.time ≤ 1099511627776) ∧ (∀ g ∈ x.gaps, g.1 ≤ 1099511627776 ∧ g.2 ≤ 1099511627776) ∧ (pgOk x = true → l = pageForm x ++ r) := by
 unfold pPage at h
 cases ha : pNum 1099511627777 l with
 | none => rw [ha] at h; cases h
 | some a =>
  rw [ha] at h
  simp only [Option.bind_some] at h
  cases hb : pNum 1099511627777 a.2 with
  | none => rw [hb] at h; cases h
  | some b =>
   rw [hb] at h
   simp only [Option.bind_some] at h
   cases hc : pList 4 pItem b.2 with
   | none => rw [hc] at h; cases h
   | some c =>
    rw [hc] at h
    simp only [Option.bind_some] at h
    cases hd : pList 16 pGap c.2 with
    | none => rw [hd] at h; cases h
    | some d =>
     rw [hd] at h
     simp only [Option.bind_some] at h
     cases he : pNum 1 d.2 with
     | none => rw [he] at h; cases h
     | some e =>
      rw [he] at h
      simp only [Option.map_some, Option.some.injEq, Prod.mk.injEq] at h
      obtain ⟨rfl, rfl⟩ := h
      obtain ⟨e1, l1, _⟩ := pNum_inv ha
      obtain ⟨e2, l2, _⟩ := pNum_inv hb
      obtain ⟨e5, l5, _⟩ := pNum_inv he
      obtain ⟨_, g2, g3⟩ := pList_inv (f := itForm) (ok := fun y => itOk y = true) (good := fun y => Fits y.es ∧ y.n ≤ 1099511627776 ∧ y.time ≤ 1099511627776) (fun l x r h => ⟨⟨(pItem_inv h).1, (pItem_inv h).2.1, (pItem_inv h).2.2.1⟩, (pItem_inv h).2.2.2⟩) hc
      obtain ⟨_, k2, k3⟩ := pList_inv (f := gapForm) (ok := fun _ => True) (good := fun g => g.1 ≤ 1099511627776 ∧ g.2 ≤ 1099511627776) (fun l x r h => ⟨(pGap_inv h).1, fun _ => (pGap_inv h).2⟩) hd
      refine ⟨⟨l1, l2⟩, g2, k2, fun hok => ?_⟩
      unfold pgOk at hok
      simp only [Bool.and_eq_true] at hok
      have hi := itsOk_mem _ _ _ hok.2.1
      rw [e1, e2, g3 hi, k3 (fun _ _ => trivial), e5]
      have : e.1 = 0 ∨ e.1 = 1 := by omega
      rcases this with h0 | h0 <;> simp [pageForm, h0]
theorem pPage_fwd {x : PPg} (r : List UInt8) (hok : pgOk x = true) (hi : ∀ y ∈ x.items, Fits y.es) (hg : ∀ g ∈ x.gaps, g.1 ≤ 1099511627776 ∧ g.2 ≤ 1099511627776) : pPage (pageForm x ++ r) = some (x, r) := by
 have hok' := hok
 unfold pgOk topOk at hok'
 simp only [Bool.and_eq_true, decide_eq_true_eq] at hok'
 obtain ⟨⟨h1, h2, h3, h4, h5⟩, h6, _⟩ := hok'
 have his := itsOk_mem _ _ _ h6
 unfold pPage pageForm
 rw [show form x.fr ++ form x.en ++ form x.items.length ++ x.items.flatMap itForm ++ form x.gaps.length ++ x.gaps.flatMap gapForm ++ form (if x.last then 1 else 0) ++ r = form x.fr ++ (form x.en ++ (form x.items.length ++ x.items.flatMap itForm ++ (form x.gaps.length ++ x.gaps.flatMap gapForm ++ (form (if x.last then 1 else 0) ++ r)))) from by simp]
 rw [pNum_fwd _ (by omega) (by omega)]
 simp only [Option.bind_some]
 rw [pNum_fwd _ (by omega) (by omega)]
 simp only [Option.bind_some]
 rw [pList_fwd x.items h4 (by omega) (fun y hy t => pItem_fwd t (his y hy) (hi y hy))]
 simp only [Option.bind_some]
 rw [pList_fwd x.gaps h5 (by omega) (fun g hg' t => pGap_fwd t (hg g hg').1 (hg g hg').2)]
 simp only [Option.bind_some]
 rw [pNum_fwd _ (by split <;> decide) (by split <;> decide)]
 obtain ⟨fr, en, items, gaps, last⟩ := x
 cases last <;> rfl
end Go.Proofs.Ytiednihagnehlaa

namespace Go.Proofs.Ytiednihagnehlaa
open Go.RowKit

/-- bytes as an item -/
def takeI (l : List UInt8) : Option (PIt) := (pItem l).bind fun x => if itOk x.1 && decide (x.2 = []) then some x.1 else none
/-- what is told of bytes as an item -/
def TkI (w : World) (res : Option (PIt)) (e : Ending) (w' : World) : Prop :=
 Old w w' ∧ match res with
 | some x => ∃ p n c, e = .returned (.tuple #[.agg #[.int .u64 x.n, .int .u64 x.time, .string x.key, .slice p n c], .int .i64 0]) ∧ OwnsA w' w.heap.size (.slice p n c) x.es
 | none => e = .returned (.tuple #[.agg #[.int .u64 0, .int .u64 0, .string ⟨#[]⟩, .slice none 0 0], .int .i64 5])
theorem TkI.no {w w' : World} {res : Option (PIt)} (h : res = none) (k : Old w w') : TkI w res (.returned (.tuple #[.agg #[.int .u64 0, .int .u64 0, .string ⟨#[]⟩, .slice none 0 0], .int .i64 5])) w' := by subst h; exact ⟨k, rfl⟩
theorem TkI.yes {w w' : World} {res : Option (PIt)} {num tm : Nat} {key : ByteArray} {es : List At} {p : Option Addr} {n c : Nat} (h : res = some (⟨num, tm, key, es⟩ : PIt)) (k : Old w w') (ho : OwnsA w' w.heap.size (.slice p n c) es) : TkI w res (.returned (.tuple #[.agg #[.int .u64 num, .int .u64 tm, .string key, .slice p n c], .int .i64 0])) w' := by subst h; exact ⟨k, p, n, c, rfl, ho⟩

end Go.Proofs.Ytiednihagnehlaa

namespace Go.Proofs.Ytiednihagnehlaa
open Go.RowKit

/-- bytes as a predicate -/
def takeP (l : List UInt8) : Option (List PCon) := (pPred l).bind fun x => if okP x.1 && decide (x.2 = []) then some x.1 else none
/-- what is told of bytes as a predicate -/
def TkP (w : World) (res : Option (List PCon)) (e : Ending) (w' : World) : Prop :=
 Old w w' ∧ match res with
 | some x => ∃ p n c s', e = .returned (.tuple #[.slice p n c, .int .i64 0]) ∧ List.map Con.plain s' = x ∧ OwnN w' w.heap.size 69 7 Con.cells Con.sv ConF (.slice p n c) s'
 | none => e = .returned (.tuple #[.slice none 0 0, .int .i64 5])
theorem TkP.no {w w' : World} {res : Option (List PCon)} (h : res = none) (k : Old w w') : TkP w res (.returned (.tuple #[.slice none 0 0, .int .i64 5])) w' := by subst h; exact ⟨k, rfl⟩
theorem TkP.yes {w w' : World} {res : Option (List PCon)} {cs : List PCon} {s' : List Con} {p : Option Addr} {n c : Nat} (h : res = some cs) (k : Old w w') (hs : s'.map Con.plain = cs) (ho : OwnN w' w.heap.size 69 7 Con.cells Con.sv ConF (.slice p n c) s') : TkP w res (.returned (.tuple #[.slice p n c, .int .i64 0])) w' := by subst h; exact ⟨k, p, n, c, s', rfl, hs, ho⟩

end Go.Proofs.Ytiednihagnehlaa

namespace Go.Proofs.Ytiednihagnehlaa
open Go.RowKit
/-- bytes as a page -/
def takeG (l : List UInt8) : Option (PPg) := (pPage l).bind fun x => if pgOk x.1 && decide (x.2 = []) then some x.1 else none
/-- what is told of bytes as a page -/
def TkG (w : World) (res : Option (PPg)) (e : Ending) (w' : World) : Prop :=
 Old w w' ∧ match res with
 | some x => ∃ p n c pg ng cg s', e = .returned (.tuple #[.agg #[.int .u64 x.fr, .int .u64 x.en, .slice p n c, .slice pg ng cg, .bool x.last], .int .i64 0]) ∧ List.map It.plain s' = x.items ∧ OwnN w' w.heap.size 35 4 It.cells It.av ItF (.slice p n c) s' ∧ OwnsR w' w.heap.size 116 2 gapL (.slice pg ng cg) x.gaps
 | none => e = .returned (.tuple #[.agg #[.int .u64 0, .int .u64 0, .slice none 0 0, .slice none 0 0, .bool false], .int .i64 5])
theorem TkG.no {w w' : World} {res : Option (PPg)} (h : res = none) (k : Old w w') : TkG w res (.returned (.tuple #[.agg #[.int .u64 0, .int .u64 0, .slice none 0 0, .slice none 0 0, .bool false], .int .i64 5])) w' := by subst h; exact ⟨k, rfl⟩
theorem TkG.yes {w w' : World} {res : Option (PPg)} {fr en : Nat} {its : List PIt} {gps : List PGap} {last : Bool} {pg : Option Addr} {ng cg : Nat} {s' : List It} {p : Option Addr} {n c : Nat} (h : res = some (⟨fr, en, its, gps, last⟩ : PPg)) (k : Old w w') (hs : s'.map It.plain = its) (ho : OwnN w' w.heap.size 35 4 It.cells It.av ItF (.slice p n c) s' ∧ OwnsR w' w.heap.size 116 2 gapL (.slice pg ng cg) gps) : TkG w res (.returned (.tuple #[.agg #[.int .u64 fr, .int .u64 en, .slice p n c, .slice pg ng cg, .bool last], .int .i64 0])) w' := by subst h; exact ⟨k, p, n, c, pg, ng, cg, s', rfl, hs, ho⟩

end Go.Proofs.Ytiednihagnehlaa

namespace Go.Proofs.Ytiednihagnehlaa
open Go.RowKit

end Go.Proofs.Ytiednihagnehlaa

namespace Go.Proofs.Ytiednihagnehlaa
open Go.RowKit

theorem forms_law {X : Type} {p : List UInt8 → Option (X × List UInt8)} {take : List UInt8 → Option X} {F : X → List UInt8} {ok : X → Bool}
  (ht : ∀ l, take l = (p l).bind fun x => if ok x.1 && decide (x.2 = []) then some x.1 else none)
  (hi : ∀ l x r, p l = some (x, r) → ok x = true → l = F x ++ r ∧ ∀ t, p (F x ++ t) = some (x, t)) {l : List UInt8} {x : X} (h : take l = some x) :
  ok x = true ∧ l = F x ∧ (∃ r, p l = some (x, r)) ∧ (∀ c, take (l ++ [c]) = none) ∧ ∀ l' t, l = l' ++ t → t ≠ [] → take l' = none := by
 have main : ∀ {l : List UInt8} {x : X}, take l = some x → ok x = true ∧ l = F x ∧ (∃ r, p l = some (x, r)) ∧ ∀ t, p (F x ++ t) = some (x, t) := by
  intro l x h
  rw [ht] at h
  cases hp : p l with
  | none => rw [hp] at h; cases h
  | some y =>
   obtain ⟨y, r⟩ := y
   rw [hp] at h
   simp only [Option.bind_some] at h
   split at h
   ·rename_i hc
    simp only [Bool.and_eq_true, decide_eq_true_eq] at hc
    obtain rfl : y = x := by simpa using h
    obtain ⟨e, f⟩ := hi l y r hp hc.1
    exact ⟨hc.1, by rw [e, hc.2, List.append_nil], ⟨r, rfl⟩, f⟩
   ·cases h
 obtain ⟨h1, h2, h3, h4⟩ := main h
 refine ⟨h1, h2, h3, fun c => ?_, fun l' t e ht' => ?_⟩
 ·rw [ht, h2, h4]; simp
 ·cases hq : take l' with
  | none => rfl
  | some y =>
   obtain ⟨_, g2, _, g4⟩ := main hq
   have e1 := g4 t
   rw [← g2, ← e, h2] at e1
   have e2 := h4 []
   rw [List.append_nil, e1] at e2
   simp only [Option.some.injEq, Prod.mk.injEq] at e2
   exact absurd e2.2 ht'

theorem takeE_law {l : List UInt8} {x : ByteArray × List At} (h : takeE l = some x) :
  evOk x.1 x.2 = true ∧ l = evForm x.1 x.2 ∧ (∃ r, pEvent l = some (x, r)) ∧ (∀ c, takeE (l ++ [c]) = none) ∧ ∀ l' t, l = l' ++ t → t ≠ [] → takeE l' = none := forms_law (p := pEvent) (take := takeE) (F := fun x => evForm x.1 x.2) (ok := fun x => evOk x.1 x.2) (fun _ => rfl)
 (fun _l x _r hp hok => ⟨(pEvent_inv (key := x.1) (es := x.2) hp).2.2.2 hok, fun t => pEvent_fwd t hok (pEvent_inv (key := x.1) (es := x.2) hp).2.2.1⟩) h
theorem takeI_law {l : List UInt8} {x : PIt} (h : takeI l = some x) :
  itOk x = true ∧ l = itForm x ∧ (∃ r, pItem l = some (x, r)) ∧ (∀ c, takeI (l ++ [c]) = none) ∧ ∀ l' t, l = l' ++ t → t ≠ [] → takeI l' = none := forms_law (p := pItem) (take := takeI) (F := itForm) (ok := itOk) (fun _ => rfl)
 (fun _l _x _r hp hok => ⟨(pItem_inv hp).2.2.2 hok, fun t => pItem_fwd t hok (pItem_inv hp).1⟩) h
theorem takeP_law {l : List UInt8} {x : List PCon} (h : takeP l = some x) :
  okP x = true ∧ l = predForm x ∧ (∃ r, pPred l = some (x, r)) ∧ (∀ c, takeP (l ++ [c]) = none) ∧ ∀ l' t, l = l' ++ t → t ≠ [] → takeP l' = none := forms_law (p := pPred) (take := takeP) (F := predForm) (ok := okP) (fun _ => rfl)
 (fun _l _x _r hp hok => ⟨(pPred_inv hp).2 hok, fun t => pPred_fwd t hok (pPred_inv hp).1⟩) h
theorem takeG_law {l : List UInt8} {x : PPg} (h : takeG l = some x) :
  pgOk x = true ∧ l = pageForm x ∧ (∃ r, pPage l = some (x, r)) ∧ (∀ c, takeG (l ++ [c]) = none) ∧ ∀ l' t, l = l' ++ t → t ≠ [] → takeG l' = none := forms_law (p := pPage) (take := takeG) (F := pageForm) (ok := pgOk) (fun _ => rfl)
 (fun _l _x _r hp hok => ⟨(pPage_inv hp).2.2.2 hok, fun t => pPage_fwd t hok (fun y hy => ((pPage_inv hp).2.1 y hy).1) (pPage_inv hp).2.2.1⟩) h

end Go.Proofs.Ytiednihagnehlaa

namespace Go.Proofs.Ytiednihagnehlaa
open Go.RowKit

/-- what is told of something that is put -/
def PutU (ok : Bool) (F : List UInt8) (w : World) (e : Ending) (w' : World) : Prop :=
 ∃ (p : Option Addr) (c : Nat) (z : Int) (L : List UInt8), e = .returned (.tuple #[.slice p L.length c, .int .i64 z]) ∧ Old w w' ∧ Sees w' (.slice p L.length c) L ∧ ((ok = true ∧ L = F ∧ z = 0) ∨ (ok = false ∧ L = [] ∧ z = 30))
theorem PutU.yes {F : List UInt8} {w w' : World} {e : Ending} (h : Formed w F e w') : PutU true F w e w' := by
 obtain ⟨p, n, c, rfl, ho, k⟩ := h
 obtain ⟨p', c', e', _, _⟩ := ho.sees.len
 simp only [Value.slice.injEq] at e'
 obtain ⟨rfl, rfl, rfl⟩ := e'
 exact ⟨_, _, _, F, rfl, k, ho.sees, Or.inl ⟨rfl, rfl, rfl⟩⟩
theorem PutU.no {F : List UInt8} {w w' : World} {e : Ending} (h : e = .returned (.tuple #[.slice none 0 0, .int .i64 30]) ∧ Old w w') : PutU false F w e w' := by
 obtain ⟨rfl, k⟩ := h
 exact ⟨none, 0, 30, [], rfl, k, Sees.nil _, Or.inr ⟨rfl, rfl, rfl⟩⟩

/-- what is told of bytes as an event -/
def TakUE (L : List UInt8) (w : World) (e : Ending) (w' : World) : Prop :=
 ∃ (key : ByteArray) (p : Option Addr) (n c : Nat) (z : Int) (es : List At), e = .returned (.tuple #[.agg #[.string key, .slice p n c], .int .i64 z]) ∧ Old w w' ∧ SeesA w' (.slice p n c) es ∧ ((takeE L = some (key, es) ∧ z = 0) ∨ (takeE L = none ∧ z = 5))
/-- what is told of bytes as an item -/
def TakUI (L : List UInt8) (w : World) (e : Ending) (w' : World) : Prop :=
 ∃ (n tm : Nat) (key : ByteArray) (p : Option Addr) (len c : Nat) (es : List At) (z : Int), e = .returned (.tuple #[.agg #[.int .u64 n, .int .u64 tm, .string key, .slice p len c], .int .i64 z]) ∧ Old w w' ∧
  It.fine w' ⟨n, tm, key, .slice p len c, es⟩ ∧ ((takeI L = some ⟨n, tm, key, es⟩ ∧ z = 0) ∨ (takeI L = none ∧ z = 5))
/-- what is told of bytes as a predicate -/
def TakUP (L : List UInt8) (w : World) (e : Ending) (w' : World) : Prop :=
 ∃ (p : Option Addr) (n c : Nat) (cs : List Con) (z : Int), e = .returned (.tuple #[.slice p n c, .int .i64 z]) ∧ Old w w' ∧ Cons w' (.slice p n c) cs ∧ (0 < cs.length → ∀ k, (Value.slice p n c).ownBlock = some k → k < w'.heap.size) ∧ ((takeP L = some (cs.map Con.plain) ∧ z = 0) ∨ (takeP L = none ∧ cs = [] ∧ z = 5))
/-- what is told of bytes as a page -/
def TakUG (L : List UInt8) (w : World) (e : Ending) (w' : World) : Prop :=
 ∃ (fr en : Nat) (p : Option Addr) (n c : Nat) (its : List It) (q : Option Addr) (m d : Nat) (gs : List PGap) (last : Bool) (z : Int),
  e = .returned (.tuple #[.agg #[.int .u64 fr, .int .u64 en, .slice p n c, .slice q m d, .bool last], .int .i64 z]) ∧ Old w w' ∧
  Pg.fine w' ⟨fr, en, .slice p n c, its, .slice q m d, gs, last⟩ ∧ ((takeG L = some ⟨fr, en, its.map It.plain, gs, last⟩ ∧ z = 0) ∨ (takeG L = none ∧ fr = 0 ∧ en = 0 ∧ its = [] ∧ gs = [] ∧ last = false ∧ n = 0 ∧ m = 0 ∧ z = 5))
theorem takeE_form {key : ByteArray} {es : List At} (hok : evOk key es = true) (hf : Fits es) : takeE (evForm key es) = some (key, es) := by
 have h := pEvent_fwd [] hok hf
 rw [List.append_nil] at h
 unfold takeE
 rw [h]
 simp [hok]
theorem takeI_form {x : PIt} (hok : itOk x = true) (hf : Fits x.es) : takeI (itForm x) = some x := by
 have h := pItem_fwd [] hok hf
 rw [List.append_nil] at h
 unfold takeI
 rw [h]
 simp [hok]
theorem takeP_form {cs : List PCon} (hok : okP cs = true) (hg : ∀ c ∈ cs, ConG c) : takeP (predForm cs) = some cs := by
 have h := pPred_fwd [] hok hg
 rw [List.append_nil] at h
 unfold takeP
 rw [h]
 simp [hok]
theorem consG {w : World} {v : Value} {cs : List Con} (h : Cons w v cs) (hok : okP (cs.map Con.plain) = true) : ∀ c ∈ cs.map Con.plain, ConG c := by
 intro c hc
 obtain ⟨x, hx, rfl⟩ := List.mem_map.1 hc
 have hf := h.2 x hx
 have hn := (conOk_parts (x := x) (by have := (okP_parts hok).2 _ hc; rwa [← conOk_plain] at this)).1
 exact ⟨hn, hf.2.1.2, hf.2.2.1⟩
theorem pgOk_gaps {x : PPg} (hok : pgOk x = true) : ∀ g ∈ x.gaps, g.1 ≤ 1099511627776 ∧ g.2 ≤ 1099511627776 := by
 unfold pgOk at hok
 simp only [Bool.and_eq_true] at hok
 obtain ⟨h1, _, h2⟩ := hok
 have hen : x.en ≤ 1099511627777 := by
  unfold topOk at h1
  simp only [Bool.and_eq_true, decide_eq_true_eq] at h1
  omega
 generalize x.fr = a at h2
 generalize x.items = its at h2
 generalize x.gaps = gs at h2
 induction gs generalizing a with
 | nil => intro g hg; cases hg
 | cons b r ih =>
  intro g hg
  unfold gapsOk at h2
  simp only [Bool.and_eq_true, decide_eq_true_eq] at h2
  rcases List.mem_cons.1 hg with rfl | hg
  ·omega
  ·exact ih _ h2.2.2.2.2 g hg
theorem takeG_form {x : PPg} (hok : pgOk x = true) (hi : ∀ y ∈ x.items, Fits y.es) : takeG (pageForm x) = some x := by
 have h := pPage_fwd [] hok hi (pgOk_gaps hok)
 rw [List.append_nil] at h
 unfold takeG
 rw [h]
 simp [hok]

/-- forms that begin alike -/
theorem apart_law {X : Type} {p : List UInt8 → Option (X × List UInt8)} {F : X → List UInt8} {x y : X} (hx : ∀ r, p (F x ++ r) = some (x, r)) (hy : ∀ r, p (F y ++ r) = some (y, r)) {n : Nat} (hn : n = min (F x).length (F y).length) :
  (F x).take n = (F y).take n ↔ x = y := by
 subst hn
 constructor
 ·intro h
  rcases Nat.le_total (F x).length (F y).length with g | g
  ·rw [Nat.min_eq_left g, List.take_length] at h
   have e := hx ((F y).drop (F x).length)
   have e2 := hy []
   rw [List.append_nil] at e2
   have : F x ++ (F y).drop (F x).length = F y := by
    conv => lhs; arg 1; rw [h]
    exact List.take_append_drop _ _
   rw [this, e2] at e
   simp at e
   exact e.1.symm
  ·rw [Nat.min_eq_right g, List.take_length] at h
   have e := hy ((F x).drop (F y).length)
   have e2 := hx []
   rw [List.append_nil] at e2
   have : F y ++ (F x).drop (F y).length = F x := by
    conv => lhs; arg 1; rw [← h]
    exact List.take_append_drop _ _
   rw [this, e2] at e
   simp at e
   exact e.1
 ·rintro rfl; rfl
theorem arr_beq (l m : List UInt8) : ((⟨l.toArray⟩ : ByteArray) == ⟨m.toArray⟩) = decide (l = m) := by
 by_cases h : l = m
 ·subst h; simp [bytes_self]
 ·rw [decide_eq_false h, Bool.eq_false_iff]
  intro g
  have := bytes_eq.1 g
  simp at this
  exact h this
/-- an event's form has at most 512 bytes -/
theorem form_one {n : Nat} (h : n < 128) : (form n).length = 1 := by rw [form_lt h]; rfl
theorem valForm_le34 {v : Val} (hv : v.ok = true) (hz : VFits v) : (valForm v).length ≤ 34 := by
 have f4 := zig_le10 v.num hz
 unfold valForm
 split
 ·simp only [List.length_append, form_one (n := 1) (by omega)]; omega
 ·split
  ·rename_i h1 h2
   have hs : v.str.size ≤ 32 := by unfold Val.ok at hv; simp [h2] at hv; exact hv.1.1
   simp only [List.length_append, size_toList, form_one (n := 2) (by omega), form_one (n := v.str.size) (by omega)]
   omega
  ·simp only [List.length_append, form_one (n := 3) (by omega)]
   split <;> rw [form_one (by omega)] <;> omega
theorem atForm_le51 {a : At} (hn : nameOk a.name.toList = true) (hv : a.val.ok = true) (hz : VFits a.val) : (atForm a).length ≤ 51 := by
 have h1 := valForm_le34 hv hz
 have h2 := nameOk_size hn
 unfold atForm
 simp only [List.length_append, size_toList, form_one (n := a.name.size) (by omega)]
 omega
theorem flat_le51 : ∀ (l : List At), (∀ a ∈ l, (atForm a).length ≤ 51) → (l.flatMap atForm).length ≤ 51 * l.length
 | [], _ => by simp
 | a :: l, h => by
  have h1 := h a (List.mem_cons_self ..)
  have h2 := flat_le51 l (fun b hb => h b (List.mem_cons_of_mem _ hb))
  simp only [List.flatMap_cons, List.length_append, List.length_cons]
  omega
theorem evForm_le512 {key : ByteArray} {l : List At} (h : evOk key l = true) (hf : Fits l) : (evForm key l).length ≤ 512 := by
 obtain ⟨h1, h2, h3⟩ := evOk_parts h
 have h4 := flat_le51 l (fun a ha => atForm_le51 (attrsOk_mem h3 ha).1 (attrsOk_mem h3 ha).2 (hf a ha).2)
 unfold evForm
 simp only [List.length_append, size_toList, form_one (n := key.size) (by omega), form_one (n := l.length) (by omega)]
 omega
end Go.Proofs.Ytiednihagnehlaa

namespace Go.Proofs.Ytiednihagnehlaa
open Go.RowKit

/-- what is told of bytes as an event, told in full -/
def TakVE (L : List UInt8) (w : World) (e : Ending) (w' : World) : Prop :=
 ∃ (key : ByteArray) (p : Option Addr) (n c : Nat) (z : Int) (es : List At), e = .returned (.tuple #[.agg #[.string key, .slice p n c], .int .i64 z]) ∧ Old w w' ∧ SeesA w' (.slice p n c) es ∧ (∀ b, (Value.slice p n c).ownBlock = some b → w.heap.size ≤ b ∧ b < w'.heap.size) ∧ Fits es ∧
  ((takeE L = some (key, es) ∧ z = 0) ∨ (takeE L = none ∧ key = ⟨#[]⟩ ∧ es = [] ∧ z = 5))
theorem TakVE.no {L : List UInt8} {w w' : World} (h : takeE L = none) (k : Old w w') : TakVE L w (.returned (.tuple #[.agg #[.string ⟨#[]⟩, .slice none 0 0], .int .i64 5])) w' :=
 ⟨_, none, 0, 0, 5, [], rfl, k, SeesR.nil _, (fun b h => by cases h), (fun _ h => by cases h), Or.inr ⟨h, rfl, rfl, rfl⟩⟩
/-- what is told of something that is put: new memory -/
def PutV (ok : Bool) (F : List UInt8) (w : World) (e : Ending) (w' : World) : Prop :=
 ∃ (p : Option Addr) (c : Nat) (z : Int) (L : List UInt8), e = .returned (.tuple #[.slice p L.length c, .int .i64 z]) ∧ Old w w' ∧ Owns w' w.heap.size (.slice p L.length c) L ∧ L = (if ok then F else []) ∧ z = (if ok then 0 else 30)
theorem PutV.yes {F : List UInt8} {w w' : World} {e : Ending} (h : Formed w F e w') : PutV true F w e w' := by
 obtain ⟨p, n, c, rfl, ho, k⟩ := h
 obtain ⟨p', c', e', _, _⟩ := ho.sees.len
 simp only [Value.slice.injEq] at e'
 obtain ⟨rfl, rfl, rfl⟩ := e'
 exact ⟨_, _, _, F, rfl, k, ho, rfl, rfl⟩
theorem PutV.no {F : List UInt8} {w w' : World} {e : Ending} (h : e = .returned (.tuple #[.slice none 0 0, .int .i64 30]) ∧ Old w w') : PutV false F w e w' := by
 obtain ⟨rfl, k⟩ := h
 exact ⟨none, 0, 30, [], rfl, k, Owns.nil _ _, rfl, rfl⟩
theorem xor255_u8 {x : Nat} (h : x < 256) : bits .xor .u8 (x : Int) 255 = ((255 - x : Nat) : Int) := by revert x; decide +kernel
theorem xor255 (x : UInt8) : bits .xor .u8 (x.toNat : Int) 255 = ((UInt8.ofNat (255 - x.toNat)).toNat : Int) := by
 have h := UInt8.toNat_lt x
 rw [xor255_u8 h, UInt8.toNat_ofNat']
 omega
end Go.Proofs.Ytiednihagnehlaa

namespace Go.Proofs.Ytiednihagnehlaa
open Go.RowKit

def smallL : List At := [⟨⟨#[97]⟩, ⟨1, -1, ⟨#[]⟩, false⟩⟩, ⟨⟨#[98]⟩, ⟨2, 0, ⟨#[120]⟩, false⟩⟩, ⟨⟨#[99]⟩, ⟨3, 0, ⟨#[]⟩, true⟩⟩]
def smallK : ByteArray := ⟨#[107]⟩
def SmallPost (w : World) (e : Ending) (w' : World) : Prop := ∃ p n c, e = .returned (.agg #[.string ⟨#[107]⟩, .slice p n c]) ∧ SeesA w' (.slice p n c) smallL ∧ (∀ k, (Value.slice p n c).ownBlock = some k → k < w'.heap.size) ∧ Old w w'
end Go.Proofs.Ytiednihagnehlaa
