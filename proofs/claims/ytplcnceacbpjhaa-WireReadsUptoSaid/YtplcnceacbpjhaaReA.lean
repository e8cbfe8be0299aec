/- DERIVED. WireReads: what holds between the calls. -/
import Derived.Test.YtplcnceacbpjhaaLaA
namespace Go.Proofs.Ytplcnceacbpjhaa
open Go.RowKit

/-- a call of a reader -/
structure RCall where
  what : Int
  lim : Int
  most : Nat
/-- a slice of calls -/
def SeesCalls (W : World) (v : Value) (cs : List RCall) : Prop :=
  ∃ p c, v = .slice p cs.length c ∧ cs.length ≤ c ∧ c ≤ maxLen ∧ (∀ t ∈ cs, t.most < 18446744073709551616 ∧ t.lim ≤ 9223372036854775807) ∧
    (cs ≠ [] → ∃ b o, p = some ⟨b, o, none⟩ ∧ ∀ i t, cs[i]? = some t → W.cell? ⟨b, o + i * 3, none⟩ = some (.int .i64 t.what) ∧ W.cell? ⟨b, o + i * 3 + 1, none⟩ = some (.int .i64 t.lim) ∧ W.cell? ⟨b, o + i * 3 + 2, none⟩ = some (.int .u64 t.most))

theorem Rd.keepsB {w w' : World} {B rb bb : Nat} {l : List UInt8} {S : Nat → Prop} (h : Rd w B rb bb l) (hk : Keeps S w w') (h1 : rb < w.heap.size → ¬ S rb) (h2 : bb < B → ¬ S bb) : Rd w' B rb bb l := by
  obtain ⟨h0, v, g1, g2, g3, g4, g5⟩ := h
  have hrb := lt_of_block g1
  exact ⟨Nat.le_trans h0 hk.size, v, (hk.block rb hrb (h1 hrb)).trans g1, g2.keeps hk (fun k hk' => by obtain ⟨rfl, h⟩ := g4 k hk'; exact h2 h), g3, g4, g5⟩
theorem Qd.keeps {w w' : World} {qb : Nat} {v : Value} {l : List UInt8} {S : Nat → Prop} (h : Qd w qb v l) (hk : Keeps S w w') (h1 : ¬ S qb) (h2 : ∀ k, k < w.heap.size → v.ownBlock = some k → ¬ S k) : Qd w' qb v l := by
  obtain ⟨g1, g2, g3, g4⟩ := h
  have hq := lt_of_block g1
  exact ⟨(hk.block qb hq h1).trans g1, g2.keeps hk (fun k hk' => h2 k (g4 k hk').2 hk'), g3, fun k hk' => ⟨(g4 k hk').1, Nat.lt_of_lt_of_le (g4 k hk').2 hk.size⟩⟩
theorem Rd.rb_lt {w : World} {B rb bb : Nat} {l : List UInt8} (h : Rd w B rb bb l) : rb < w.heap.size := by
  obtain ⟨h0, v, g1, _⟩ := h; exact lt_of_block g1

/-- what holds at each head of the loop over the calls -/
def ReRel (w wr : World) (B rb bb qb : Nat) (v : Value) (l : List UInt8) : Prop :=
  Rd wr B rb bb l ∧ Qd wr qb v l ∧ B ≤ qb ∧ rb < B ∧ (∀ k, v.ownBlock = some k → k ≠ rb) ∧ w.heap.size ≤ rb ∧ Keeps (fun k => w.heap.size ≤ k) w wr
theorem ReRel.qd {w wr wa w1 : World} {B rb bb qb : Nat} {v : Value} {l : List UInt8} (h : ReRel w wr B rb bb qb v l) (ha : Old wr wa) (hk1 : Keeps (fun k => k = rb) wa w1) : Qd w1 qb v l := by
  obtain ⟨h1, h2, h3, h4, h5, h6, h7⟩ := h
  exact (h2.keeps ha (fun f => f) (fun _ _ _ f => f)).keeps hk1 (by omega) (fun k _ hk => h5 k hk)
theorem ReRel.rd {w wr wa : World} {B rb bb qb : Nat} {v : Value} {l : List UInt8} (h : ReRel w wr B rb bb qb v l) (ha : Old wr wa) : Rd wa B rb bb l :=
  h.1.keepsB ha (fun _ f => f) (fun _ f => f)
theorem ReRel.step {w wr wa w1 w2 : World} {B rb bb qb : Nat} {v v2 : Value} {l l' : List UInt8} (h : ReRel w wr B rb bb qb v l) (ha : Old wr wa) (hr1 : Rd w1 B rb bb l') (hk1 : Keeps (fun k => k = rb) wa w1)
    (hq2 : Qd w2 qb v2 l') (hv2 : ∀ k, v2.ownBlock = some k → v.ownBlock = some k ∨ w1.heap.size ≤ k) (hk2 : Keeps (fun k => k = qb) w1 w2) : ReRel w w2 B rb bb qb v2 l' := by
  obtain ⟨h1, h2, h3, h4, h5, h6, h7⟩ := h
  have hs := hr1.rb_lt
  refine ⟨hr1.keepsB hk2 (fun _ => by omega) (fun _ => by omega), hq2, h3, h4, fun k hk => ?_, h6, ?_⟩
  · rcases hv2 k hk with h | h
    · exact h5 k h
    · omega
  · have k1 : Keeps (fun k => w.heap.size ≤ k) w wa := h7.trans (ha.weaken (fun _ _ f => f.elim))
    have k2 : Keeps (fun k => w.heap.size ≤ k) w w1 := k1.trans (hk1.weaken (fun k _ e => by show w.heap.size ≤ k; rw [e]; exact h6))
    exact k2.trans (hk2.weaken (fun k _ e => by show w.heap.size ≤ k; omega))
theorem ReRel.old {w wr w' : World} {B rb bb qb : Nat} {v : Value} {l : List UInt8} (h : ReRel w wr B rb bb qb v l) (ha : Old wr w') : ReRel w w' B rb bb qb v l := by
  obtain ⟨h1, h2, h3, h4, h5, h6, h7⟩ := id h
  exact ⟨h.rd ha, h2.keeps ha (fun f => f) (fun _ _ _ f => f), h3, h4, h5, h6, h7.trans (ha.weaken (fun _ _ f => f.elim))⟩

theorem ReRel.oldw {w wr : World} {B rb bb qb : Nat} {v : Value} {l : List UInt8} (h : ReRel w wr B rb bb qb v l) : Old w wr :=
  ⟨h.2.2.2.2.2.2.os, h.2.2.2.2.2.2.tape, h.2.2.2.2.2.2.output, h.2.2.2.2.2.2.size, fun k hk _ => h.2.2.2.2.2.2.block k hk (by omega)⟩

/-- .. and a slice x of the call's own, apart from both readers -/
def ReIn (w wr : World) (B rb bb qb : Nat) (v : Value) (l : List UInt8) (x : Value) : Prop :=
  ReRel w wr B rb bb qb v l ∧ Bytey wr x ∧ ∀ g, x.ownBlock = some g → w.heap.size ≤ g ∧ g ≠ rb ∧ (bb < B → g ≠ bb) ∧ g ≠ qb ∧ v.ownBlock ≠ some g
theorem ReIn.set {w wr : World} {B rb bb qb : Nat} {v : Value} {l : List UInt8} {x : Value} (h : ReIn w wr B rb bb qb v l x) {g : Nat} (hg : x.ownBlock = some g) (j : Nat) (b : UInt8) : ReIn w (wr.setCell ⟨g, j, none⟩ (u8 b)) B rb bb qb v l x := by
  obtain ⟨⟨h1, h2, h3, h4, h5, h6, h7⟩, hb, hx⟩ := h
  obtain ⟨x1, x2, x3, x4, x5⟩ := hx g hg
  have hk : Keeps (fun k => k = g) wr (wr.setCell ⟨g, j, none⟩ (u8 b)) := Keeps.setCell (p := ⟨g, j, none⟩) (Keeps.refl (fun k => k = g) wr) (fun _ => rfl) _
  exact ⟨⟨h1.keepsB hk (fun _ e => x2 e.symm) (fun h e => x3 h e.symm), h2.keeps hk (fun e => x4 e.symm) (fun k _ hk' e => by subst e; exact x5 hk'), h3, h4, h5, h6, h7.setCell (fun _ => x1) _⟩, hb.set g j b, hx⟩

theorem Rd.drew {w : World} {B rb bb : Nat} {l : List UInt8} (n : Nat) (h : Rd w B rb bb l) : Rd (w.drewN n) B rb bb l := h
theorem ReRel.drew {w wr : World} {B rb bb qb : Nat} {v : Value} {l : List UInt8} (n : Nat) (h : ReRel w wr B rb bb qb v l) : ReRel w (wr.drewN n) B rb bb qb v l := by
  obtain ⟨h1, h2, h3, h4, h5, h6, h7⟩ := h
  exact ⟨h1, h2, h3, h4, h5, h6, h7.os, h7.tape, h7.output, h7.size, h7.block⟩
end Go.Proofs.Ytplcnceacbpjhaa
