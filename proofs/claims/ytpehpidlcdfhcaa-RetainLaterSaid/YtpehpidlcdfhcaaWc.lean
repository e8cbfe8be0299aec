/- DERIVED. The contracts of the writer of package codec. -/
import Derived.Test.YtpehpidlcdfhcaaWn
import Derived.Test.YtpehpidlcdfhcaaEv
import Derived.Deep.RegionWith
namespace Go.Proofs.Ytpehpidlcdfhcaa
open Go.RowKit

/-- the writer at block pw has laid l -/
def Wr (w : World) (B pw : Nat) (l : List UInt8) : Prop := ∃ v, w.heap[pw]? = some (.cells #[v] 82 (0, 0)) ∧ Owns w B v l ∧ (∀ k, v.ownBlock = some k → k ≠ pw) ∧ B ≤ w.heap.size
/-- what a writer's method leaves -/
def Laid (w : World) (B pw : Nat) (l : List UInt8) (e : Ending) (w' : World) : Prop := e = .returned (.tuple #[]) ∧ Wr w' B pw l ∧ Keeps (fun k => k = pw) w w'

theorem lt_of_heap {w : World} {b : Nat} {o : Obj} (h : w.heap[b]? = some o) : b < w.heap.size := (Array.getElem?_eq_some_iff.1 h).1
theorem Wr.lt {w : World} {B pw : Nat} {l : List UInt8} (h : Wr w B pw l) : pw < w.heap.size := by obtain ⟨v, h, _⟩ := h; exact lt_of_heap h
theorem Wr.keeps {S : Nat → Prop} {w w' : World} {B pw : Nat} {l : List UInt8} (h : Wr w B pw l) (hk : Keeps S w w') (hS : ¬ S pw) (hS' : ∀ v, w.heap[pw]? = some (.cells #[v] 82 (0, 0)) → ∀ k, v.ownBlock = some k → ¬ S k) : Wr w' B pw l := by
  obtain ⟨v, h1, h2, h3, h4⟩ := h
  exact ⟨v, (hk.block _ (lt_of_heap h1) hS).trans h1, h2.keeps hk (hS' v h1), h3, Nat.le_trans h4 hk.size⟩
theorem Wr.old {w w' : World} {B pw : Nat} {l : List UInt8} (h : Wr w B pw l) (hk : Old w w') : Wr w' B pw l := h.keeps hk (fun f => f) (fun _ _ _ _ f => f)
/-- a slice of the call's own is stored -/
theorem Wr.stored {w w1 : World} {B pw : Nat} {l : List UInt8} {v u : Value} (hB : B ≤ w.heap.size) (h1 : w.heap[pw]? = some (.cells #[v] 82 (0, 0))) (hk : Old w w1) (ho : Owns w1 w.heap.size u l) :
    Wr (w1.setCell ⟨pw, 0, none⟩ u) B pw l ∧ Keeps (fun k => k = pw) w (w1.setCell ⟨pw, 0, none⟩ u) := by
  have hlt := lt_of_heap h1
  have hb : w1.heap[pw]? = some (.cells #[v] 82 (0, 0)) := (hk.block _ hlt (fun f => f)).trans h1
  have hne : ∀ k, u.ownBlock = some k → k ≠ pw := fun k hk => by have := (ho.block k hk).1; omega
  have hs : Keeps (fun k => k = pw) w1 (w1.setCell ⟨pw, 0, none⟩ u) := (Keeps.refl (fun k => k = pw) _).setCell (fun _ => rfl) _
  refine ⟨⟨u, ?_, (ho.keeps hs hne).mono hB, hne, Nat.le_trans hB (Nat.le_trans hk.size hs.size)⟩, (hk.weaken (fun _ _ f => f.elim)).trans hs⟩
  have h := heap_setCell_same w1 pw 0 _ _ u hb
  simpa using h

theorem wnum_any (B pw : Nat) (l : List UInt8) (n : Nat) (w : World) (h : Wr w B pw l) (hl : l.length ≤ 1000000000) (hn : n < 18446744073709551616) :
    Calls Try.prog 49 #[.pointer (some ⟨pw, 0, none⟩), .int .u64 n] w (Laid w B pw (l ++ form n)) := by
  obtain ⟨v, h1, h2, h3, h4⟩ := h
  have C := Lib.hid (num_any v l n w h2.sees hl hn)
  have q1 : w.cell? ⟨pw, 0, none⟩ = some v := by simp [World.cell?, h1]
  have H := Lib.hid h1
  have HB := Lib.hid h4
  clear h1 h2 h3 h4 hn
  go_enter Try.func49, Try.ntmps49
  go_wp2_with fail
  refine C.out.mono ?_
  rintro e w1 ⟨p1, n1, c1, rfl, ho, hk⟩
  have q2 : w1.cell? ⟨pw, 0, none⟩ = some v := hk.cell q1 (fun f => f)
  have q3 : w1.frozen? ⟨pw, 0, none⟩ = false := by rw [World.frozen?_of_block (w := w) (hk.block pw (lt_of_heap H.out) (fun f => f))]; simp [World.frozen?, H.out]
  have K := Lib.hid (And.intro ho hk)
  clear ho hk q1
  go_wp2_with fail
  go_end0
  have r := Wr.stored HB.out H.out K.out.2 K.out.1
  exact ⟨rfl, r.1, r.2⟩

theorem wtext_any (B pw : Nat) (l : List UInt8) (s : ByteArray) (w : World) (h : Wr w B pw l) (hl : l.length ≤ 1000000000) (hs : s.size ≤ 1000000000) :
    Calls Try.prog 48 #[.pointer (some ⟨pw, 0, none⟩), .string s] w (Laid w B pw (l ++ form s.size ++ s.toList)) := by
  obtain ⟨v, h1, h2, h3, h4⟩ := h
  obtain ⟨p, c, w0, hconv, hsee, hk0, _⟩ := conv_str w s (by unfold maxLen; omega)
  have hsz : s.toList.length = s.size := by rw [ByteArray.toList_eq]; simp
  have C0 := bytes_any v (.slice p s.size c) l s.toList w0 (h2.sees.old hk0) hsee hl (by omega)
  rw [hsz] at C0
  have C := Lib.hid C0
  have q1 : w.cell? ⟨pw, 0, none⟩ = some v := by simp [World.cell?, h1]
  have H := Lib.hid h1
  have HB := Lib.hid h4
  have HK := Lib.hid hk0
  clear h1 h2 h3 h4 hk0 hsee hsz C0
  go_enter Try.func48, Try.ntmps48
  go_wp2_with fail
  refine C.out.mono ?_
  rintro e w1 ⟨p1, n1, c1, rfl, ho, hk⟩
  have hk' := HK.out.trans hk
  have q2 : w1.cell? ⟨pw, 0, none⟩ = some v := hk'.cell q1 (fun f => f)
  have q3 : w1.frozen? ⟨pw, 0, none⟩ = false := by rw [World.frozen?_of_block (w := w) (hk'.block pw (lt_of_heap H.out) (fun f => f))]; simp [World.frozen?, H.out]
  have K := Lib.hid (And.intro (ho.mono HK.out.size) hk')
  clear ho hk hk' q1
  go_wp2_with fail
  go_end0
  have r := Wr.stored HB.out H.out K.out.2 K.out.1
  exact ⟨rfl, r.1, r.2⟩

theorem wflag_any (B pw : Nat) (l : List UInt8) (is : Bool) (w : World) (h : Wr w B pw l) (hl : l.length ≤ 1000000000) :
    Calls Try.prog 60 #[.pointer (some ⟨pw, 0, none⟩), .bool is] w (Laid w B pw (l ++ form (if is then 1 else 0))) := by
  cases is
  · have C := Lib.hid (wnum_any B pw l 0 w h hl (by decide))
    clear h
    go_enter Try.func60, Try.ntmps60
    go_wp2_with fail
    refine C.out.mono ?_
    rintro e w1 ⟨rfl, h1, h2⟩
    have R := Lib.hid (And.intro h1 h2)
    clear h1 h2
    go_wp2_with fail
    go_end0
    exact ⟨rfl, R.out.1, R.out.2⟩
  · have C := Lib.hid (wnum_any B pw l 1 w h hl (by decide))
    clear h
    go_enter Try.func60, Try.ntmps60
    go_wp2_with fail
    refine C.out.mono ?_
    rintro e w1 ⟨rfl, h1, h2⟩
    have R := Lib.hid (And.intro h1 h2)
    clear h1 h2
    go_wp2_with fail
    go_end0
    exact ⟨rfl, R.out.1, R.out.2⟩

/-- a value's form -/
def valForm (v : Val) : List UInt8 :=
  if v.kind = 1 then form 1 ++ form (zigN v.num) else if v.kind = 2 then form 2 ++ form v.str.size ++ v.str.toList else form 3 ++ form (if v.is then 1 else 0)

set_option maxRecDepth 100000 in
theorem wvalue_any (B pw : Nat) (l : List UInt8) (v : Val) (w : World) (h : Wr w B pw l) (hl : l.length ≤ 999999000) (hv : v.ok = true) (hz : -9223372036854775808 ≤ v.num ∧ v.num ≤ 9223372036854775807) :
    Calls Try.prog 50 #[.pointer (some ⟨pw, 0, none⟩), .agg v.cells] w (Laid w B pw (l ++ valForm v)) := by
  obtain ⟨k, n, s, b⟩ := v
  unfold Val.cells
  simp only at hz ⊢
  have hw := h.lt
  have hne : pw ≠ w.heap.size := by omega
  have hd : k = 1 ∨ k = 2 ∨ k = 3 := by
    unfold Val.ok at hv
    simp only at hv
    by_cases h1 : k = 1
    · exact .inl h1
    · by_cases h2 : k = 2
      · exact .inr (.inl h2)
      · simp [h1, h2] at hv; exact .inr (.inr hv.1.1)
  generalize hW0 : w.alloc (.cells #[.int .i64 k, .int .i64 n, .string s, .bool b] 64) = W0
  have k0 : Old w W0 := by rw [← hW0]; exact (Keeps.refl _ _).alloc _
  have hb0 : W0.heap[w.heap.size]? = some (.cells #[.int .i64 k, .int .i64 n, .string s, .bool b] 64 (0, 0)) := by rw [← hW0]; exact heap_alloc_new _ _
  have e0 : W0.cell? ⟨w.heap.size, 0, none⟩ = some (.int .i64 k) := by simp [World.cell?, hb0]
  have hf : (form 1).length ≤ 10 ∧ (form 2).length ≤ 10 ∧ (form 3).length ≤ 10 := ⟨form_le10 (by decide), form_le10 (by decide), form_le10 (by decide)⟩
  rcases hd with rfl | rfl | rfl
  · have C := Lib.hid (wnum_any B pw l 1 W0 (h.old k0) (by omega) (by decide))
    have H := Lib.hid (And.intro k0 hb0)
    clear k0 hb0 h hv
    go_enter Try.func50, Try.ntmps50
    go_wp2_with fail
    refine C.out.mono ?_
    rintro e w1 ⟨rfl, hwr1, hk1⟩
    obtain ⟨u, u1, u2, u3, u4⟩ := hwr1
    have m1 : w1.heap[w.heap.size]? = some (.cells #[.int .i64 1, .int .i64 n, .string s, .bool b] 64 (0, 0)) := (hk1.block _ (lt_of_heap H.out.2) (fun f => hne f.symm)).trans H.out.2
    have q0 : w1.cell? ⟨w.heap.size, 0, none⟩ = some (.int .i64 1) := by simp [World.cell?, m1]
    have q1 : w1.cell? ⟨w.heap.size, 1, none⟩ = some (.int .i64 n) := by simp [World.cell?, m1]
    have q2 : w1.cell? ⟨pw, 0, none⟩ = some u := by simp [World.cell?, u1]
    have C2 := fun W (hW : Old w1 W) => int_any u _ n W (u2.sees.old hW) (by simp; omega) hz
    have R := Lib.hid (And.intro u1 (And.intro hk1 (And.intro m1 u4)))
    clear u1 u2 u3 u4 hk1 m1 e0 C
    go_wp2_with fail
    have C3 := Lib.hid C2
    clear C2
    go_region_with (go_at_call 59; refine (C3.out _ (Keeps.refl _ _).drew).mono ?_; rintro e w2 ⟨p2, n2, c2, rfl, ho2, hk2⟩; have q4 : w2.cell? ⟨pw, 0, none⟩ = some u := hk2.cell (show w1.drew.cell? ⟨pw, 0, none⟩ = some u from q2) (fun f => f); have q5 : w2.frozen? ⟨pw, 0, none⟩ = false := by rw [World.frozen?_of_block (w := w1) (hk2.block pw (lt_of_heap R.out.1) (fun f => f))]; simp [World.frozen?, R.out.1])
    all_goals go_wp2_with fail
    all_goals go_end0
    all_goals have r := Wr.stored R.out.2.2.2 R.out.1 (show Old w1 w2 from ⟨hk2.os, hk2.tape, hk2.output, hk2.size, hk2.block⟩) ho2
    all_goals exact ⟨rfl, by rw [show l ++ valForm ⟨1, n, s, b⟩ = l ++ form 1 ++ form (zigN n) from by simp [valForm]]; exact r.1, ((H.out.1.weaken (fun _ _ f => f.elim)).trans R.out.2.1).trans r.2⟩
  · have hs : s.size ≤ 1000000000 := by
      have : s.size ≤ 32 := by simp [Val.ok] at hv; exact hv.1.1
      omega
    have C := Lib.hid (wnum_any B pw l 2 W0 (h.old k0) (by omega) (by decide))
    have H := Lib.hid (And.intro k0 hb0)
    clear k0 hb0 h hv
    go_enter Try.func50, Try.ntmps50
    go_wp2_with fail
    refine C.out.mono ?_
    rintro e w1 ⟨rfl, hwr1, hk1⟩
    have m1 : w1.heap[w.heap.size]? = some (.cells #[.int .i64 2, .int .i64 n, .string s, .bool b] 64 (0, 0)) := (hk1.block _ (lt_of_heap H.out.2) (fun f => hne f.symm)).trans H.out.2
    have q0 : w1.cell? ⟨w.heap.size, 0, none⟩ = some (.int .i64 2) := by simp [World.cell?, m1]
    have q1 : w1.cell? ⟨w.heap.size, 2, none⟩ = some (.string s) := by simp [World.cell?, m1]
    have C2 := Lib.hid (wtext_any B pw _ s w1 hwr1 (by simp; omega) hs)
    have R := Lib.hid hk1
    clear hwr1 hk1 m1 e0 C
    go_wp2_with fail
    refine C2.out.mono ?_
    rintro e w2 ⟨rfl, hwr2, hk2⟩
    have R2 := Lib.hid (And.intro hwr2 hk2)
    clear hwr2 hk2
    go_wp2_with fail
    go_end0
    exact ⟨rfl, by rw [show l ++ valForm ⟨2, n, s, b⟩ = l ++ form 2 ++ form s.size ++ s.toList from by simp [valForm]]; exact R2.out.1, ((H.out.1.weaken (fun _ _ f => f.elim)).trans R.out).trans R2.out.2⟩
  · have C := Lib.hid (wnum_any B pw l 3 W0 (h.old k0) (by omega) (by decide))
    have H := Lib.hid (And.intro k0 hb0)
    clear k0 hb0 h hv
    go_enter Try.func50, Try.ntmps50
    go_wp2_with fail
    refine C.out.mono ?_
    rintro e w1 ⟨rfl, hwr1, hk1⟩
    have m1 : w1.heap[w.heap.size]? = some (.cells #[.int .i64 3, .int .i64 n, .string s, .bool b] 64 (0, 0)) := (hk1.block _ (lt_of_heap H.out.2) (fun f => hne f.symm)).trans H.out.2
    have q0 : w1.cell? ⟨w.heap.size, 0, none⟩ = some (.int .i64 3) := by simp [World.cell?, m1]
    have q1 : w1.cell? ⟨w.heap.size, 3, none⟩ = some (.bool b) := by simp [World.cell?, m1]
    have C2 := Lib.hid (wflag_any B pw _ b w1 hwr1 (by simp; omega))
    have R := Lib.hid hk1
    clear hwr1 hk1 m1 e0 C
    go_wp2_with fail
    refine C2.out.mono ?_
    rintro e w2 ⟨rfl, hwr2, hk2⟩
    have R2 := Lib.hid (And.intro hwr2 hk2)
    clear hwr2 hk2
    go_wp2_with fail
    go_end0
    exact ⟨rfl, by rw [show l ++ valForm ⟨3, n, s, b⟩ = l ++ form 3 ++ form (if b then 1 else 0) from by simp [valForm]]; exact R2.out.1, ((H.out.1.weaken (fun _ _ f => f.elim)).trans R.out).trans R2.out.2⟩
end Go.Proofs.Ytpehpidlcdfhcaa
