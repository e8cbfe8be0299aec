/- DERIVED. The document's writer of forms (layer 7): bytes are appended to a row of the call's own. -/
import Derived.Test.YtpehpidlcdfhcaaWe
import Derived.Test.YtpehpidlcdfhcaaRn
import Derived.Lib.AppendStr
import Derived.Deep.RegionWith
namespace Go.Proofs.Ytpehpidlcdfhcaa
open Go.RowKit

/-- block k lies from B on, and holds bytes -/
def U8 (w : World) (B k : Nat) : Prop := B ≤ k ∧ ∃ cs fr, w.heap[k]? = some (.cells cs 5 fr)
/-- only rows of bytes from B on have turned -/
abbrev K8 (B : Nat) (w w' : World) : Prop := Keeps (U8 w B) w w'
theorem K8.trans {B : Nat} {a b c : World} (h : K8 B a b) (k : K8 B b c) : K8 B a c := by
  refine h.then k (fun i hi hu => ?_)
  by_cases hn : U8 a B i
  · exact hn
  · have := h.block i hi hn
    obtain ⟨h1, cs, fr, h2⟩ := hu
    exact ⟨h1, cs, fr, this ▸ h2⟩
theorem K8.old {B : Nat} {a b : World} (h : Old a b) : K8 B a b := h.weaken (fun _ _ f => f.elim)
theorem K8.grown {B : Nat} {a b : World} {v : Value} {l : List UInt8} (ho : Owns a B v l) (hg : a.grownBy b v.ownBlock) : K8 B a b :=
  (Keeps.refl _ _).grown hg (fun k hk hlt => ⟨(ho.block k hk).1, by
    obtain ⟨h1, h2⟩ := ho
    rcases h2 with ⟨rfl, h0⟩ | ⟨g, cap, cur, rfl, hb, hgg, _⟩
    · cases hk
    · simp only [Value.ownBlock, Option.some.injEq] at hk
      subst hk
      exact ⟨_, _, hgg⟩⟩)
theorem K8.block {B : Nat} {a b : World} (h : K8 B a b) {k : Nat} {cs : Array Value} {t : TypeId} {fr : Nat × Nat} (hk : a.heap[k]? = some (.cells cs t fr)) (ht : t ≠ 5) : b.heap[k]? = some (.cells cs t fr) := by
  refine (Keeps.block h k (Array.getElem?_eq_some_iff.1 hk).1 ?_).trans hk
  rintro ⟨_, cs', fr', h'⟩
  rw [hk] at h'
  simp only [Option.some.injEq, Obj.cells.injEq] at h'
  exact ht h'.2.1
theorem K8.below {B : Nat} {a b : World} (h : K8 B a b) (hB : B ≤ a.heap.size) : Below B a b := Keeps.below (h.weaken (fun _ _ u => u.1)) hB
theorem K8.to_old {a b : World} (h : K8 a.heap.size a b) : Old a b := ⟨h.os, h.tape, h.output, h.size, fun k hk _ => Keeps.block h k hk (fun u => by have := u.1; omega)⟩
theorem K8.alloc {B : Nat} {a b : World} (h : K8 B a b) (o : Obj) : K8 B a (b.alloc o) := Keeps.alloc h o

/-- a row of the call's own came back -/
def Gro (w : World) (B : Nat) (l : List UInt8) (e : Ending) (w' : World) : Prop := ∃ p n c, e = .returned (.slice p n c) ∧ Owns w' B (.slice p n c) l ∧ K8 B w w'
theorem gro {w w' : World} {B : Nat} {l : List UInt8} {e : Ending} {v : Value} (he : e = .returned v) (ho : Owns w' B v l) (hk : K8 B w w') : Gro w B l e w' := by
  obtain ⟨p, c, rfl, _, _⟩ := ho.sees.len
  exact ⟨p, _, c, he, ho, hk⟩

/-- append(own.., s...) of a string -/
theorem wpList_append_text {w : World} {ops : Array Oper} {rest : List Oper} {o : Oper} {a : Act} {Q : Exit → Act → World → Prop} (hgd : o.guard = none) (s x : Operand)
    (ho : o.op = .call { callee := .builtin .append, args := #[s, x], argTypes := #[55, 9] })
    (B : Nat) (v : Value) (l : List UInt8) (hs : a.eval s = v) (hown : Owns w B v l) (t : ByteArray) (hx : a.eval x = .string t)
    (hlen : l.length + t.size ≤ 1152921504606) (hB : B ≤ w.heap.size)
    (h : ∀ v' w', Owns w' B v' (l ++ t.toList) → w.grownBy w' v.ownBlock → wpList Try.prog ops Q rest (a.put o.dst v') w') : wpList Try.prog ops Q (o :: rest) a w := by
  obtain ⟨i0, hi, hz0, hz1, hz2⟩ := info_parts Try.infoU8
  refine Lib.wpList_append_own_string w hgd s x 55 9 ho B 5 i0 Try.underlying55 Try.underlying9 hi hz0 hz1 hz2 v l.length (l.map u8) hs hown t hx (by unfold maxLen; omega) (by omega) hB ?_
  intro v' w' ho' hg' _
  refine h v' w' ?_ hg'
  unfold Owns
  have e1 : (l ++ t.toList).length = l.length + t.size := by simp [size_toList]
  have e2 : (l ++ t.toList).map u8 = l.map u8 ++ Lib.strCells t := by
    rw [List.map_append, ByteArray.toList_eq]
    simp [Lib.strCells, u8]
  rw [e1, e2]
  exact ho'

set_option maxRecDepth 100000 in
set_option maxHeartbeats 400000 in
theorem ref7_num_any (v : Value) (l : List UInt8) (n B : Nat) (w : World) (h : Owns w B v l) (hl : l.length ≤ 1000000000) (hn : n < 18446744073709551616) (hB : B ≤ w.heap.size) :
    Calls Try.prog 43 #[v, .int .u64 n] w (Gro w B (l ++ form n)) := by
  have HH := Lib.hid (And.intro h hB)
  clear h hB
  go_enter Try.func43, Try.ntmps43
  go_wp2_with fail
  go_loopw [0, 1] (fun v0 v1 wr => ∃ m l', v1 = .int .u64 (m : Nat) ∧ m < 18446744073709551616 ∧ Owns wr B v0 l' ∧ K8 B w wr ∧ l' ++ form m = l ++ form n) (fun _ v1 _ => (intOf v1).toNat)
  case atStart => exact ⟨n, l, rfl, hn, HH.out.1, Keeps.refl _ _, rfl⟩
  case round =>
    obtain ⟨m, l', rfl, hm, ho', hk', he⟩ := hrel
    have hlen : l'.length ≤ 1000000010 := by
      have := congrArg List.length he
      simp only [List.length_append] at this
      have := form_le10 hn
      omega
    have H := Lib.hid he
    clear he
    have hs := Nat.le_trans HH.out.2 hk'.size
    by_cases h0 : m < 128
    · go_wp2_with (at_builtin; refine wpList_append_sees rfl _ _ rfl B u0 l' rfl (ho'.alloc _) _ [UInt8.ofNat m] rfl (Sees.one _ _ _ ?_) (by simp; omega) (by simp; omega) ?_; rotate_left; intro v' w2 ho2 hg2)
      · go_ret
        refine gro rfl ?_ ((hk'.alloc _).trans (K8.grown (ho'.alloc _) hg2))
        rw [← H.out, form_lt h0]
        exact ho2
      · exact byte_low h0
    · go_wp2_with (at_builtin; refine wpList_append_sees rfl _ _ rfl B u0 l' rfl (ho'.alloc _) _ [UInt8.ofNat (128 + m % 128)] rfl (Sees.one _ _ _ ?_) (by simp; omega) (by simp; omega) ?_; rotate_left; intro v' w2 ho2 hg2)
      · go_roundw
        case rel => exact ⟨m / 128, _, by go_num, by omega, ho2, (hk'.alloc _).trans (K8.grown (ho'.alloc _) hg2), by have h1 := form_ge (n := m) (by omega); rw [← H.out, h1]; simp⟩
        case measure => simp [intOf]; omega
      · exact byte_high m

theorem ref7_text_any (v : Value) (l : List UInt8) (s : ByteArray) (B : Nat) (w : World) (h : Owns w B v l) (hl : l.length ≤ 1000000000) (hs : s.size ≤ 1000000000) (hB : B ≤ w.heap.size) :
    Calls Try.prog 44 #[v, .string s] w (Gro w B (l ++ form s.size ++ s.toList)) := by
  have C := Lib.hid (ref7_num_any v l s.size B w h hl (by omega) hB)
  have h10 : (form s.size).length ≤ 10 := form_le10 (by omega)
  have HB := Lib.hid hB
  clear h hB
  go_enter Try.func44, Try.ntmps44
  go_wp2_with fail
  refine C.out.mono ?_
  rintro e w1 ⟨p1, n1, c1, rfl, ho1, hk1⟩
  go_wp2_with (at_builtin; refine wpList_append_text rfl _ _ rfl B (.slice p1 n1 c1) _ rfl ho1 s rfl (by simp; omega) (Nat.le_trans HB.out hk1.size) ?_; intro v2 w2 ho2 hg2)
  go_ret
  exact gro rfl ho2 (hk1.trans (K8.grown ho1 hg2))
end Go.Proofs.Ytpehpidlcdfhcaa
