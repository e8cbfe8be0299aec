/- DERIVED. Chapter 21: the parts of a Kind, told as new. · DERIVED. Chapter 21: a message out of bytes (plain); a message's own parts; stores into a message. -/
import Derived.Test.YtpjpimahnnekkaaGreatYpMsgForms02
import Derived.Test.YtpjpimahnnekkaaGreatYpMsgForms33
import Derived.Test.YtpjpimahnnekkaaGreatYpMsgForms34
import Derived.Test.YtpjpimahnnekkaaGreatYpMsgForms25
import Derived.Deep.MidRow
set_option maxRecDepth 100000
set_option maxHeartbeats 2000000
namespace Go.Proofs.YtpjpimahnnekkaaGreat
section
open Go.RowKit Go.Great
theorem parts_own (k : Int) (w : World) : Calls Tryz.prog 29 #[.int .i64 k] w fun e w' => ∃ p n c, e = .returned (.slice p n c) ∧ SeesR w' 1 intL (.slice p n c) (partsL k) ∧ Old w w' ∧ ∀ b, (Value.slice p n c).ownBlock = some b → w.heap.size ≤ b := by
 go_enter Tryz.func29, Tryz.ntmps29
 go_upto_region 1 with fail
 refine wp_region_lit ?_
 obtain ⟨m, hmm⟩ : ∃ m, w.heap.size = m := ⟨_, rfl⟩
 refine wpList_runTo rfl (some 3) rfl (.map (some w.heap.size)) (w.alloc (.map #[] 0)) (by kernel_rfl) ?_
 obtain ⟨I0, hI0⟩ : ∃ W, w.alloc (.map #[] 0) = W := ⟨_, rfl⟩
 have b0 : I0.heap[w.heap.size]? = some (.map #[] 0) := by rw [← hI0]; exact heap_alloc_new _ _
 have o0 : Old w I0 := by rw [← hI0]; exact (Keeps.refl _ _).alloc _
 rw [hI0]
 clear hI0
 have z0 : w.heap.size < I0.heap.size := (Array.getElem?_eq_some_iff.1 b0).1
 refine wpList_runTo rfl (some 4) rfl (.slice (some ⟨I0.heap.size, 0, none⟩) 4 4) (I0.alloc (.cells #[.int .i64 0, .int .i64 1, .int .i64 2, .int .i64 3] 3)) (by kernel_rfl) ?_
 obtain ⟨A1, hA1⟩ : ∃ W, I0.alloc (.cells #[.int .i64 0, .int .i64 1, .int .i64 2, .int .i64 3] 3) = W := ⟨_, rfl⟩
 have oA1 : Old I0 A1 := by rw [← hA1]; exact (Keeps.refl _ _).alloc _
 have s1 : SeesR A1 1 intL (.slice (some ⟨I0.heap.size, 0, none⟩) 4 4) [0, 1, 2, 3] := by rw [← hA1]; exact SeesR.new (k := 1) (enc := intL) I0 _ (0, 0) [0, 1, 2, 3] _ (by rfl) (fun _ => rfl) (by unfold maxLen; simp)
 rw [hA1]
 clear hA1
 have c1 := (oA1.block _ z0 (fun f => f)).trans b0
 obtain ⟨I1, r1, b1, kk1⟩ := map_put (P := Tryz.prog) (k := .int .i64 1) Tryz.underlying125 Tryz.underlying3 rfl c1 (.slice (some ⟨I0.heap.size, 0, none⟩) 4 4) (by rfl)
 refine wpList_skipTo rfl I1 (run_insert_op (x := .tmp 3) (y := .const (.int .i64 1)) (z := .tmp 4) r1 rfl (by kernel_rfl) (by kernel_rfl) (by kernel_rfl)) ?_
 have z1 : w.heap.size < I1.heap.size := (Array.getElem?_eq_some_iff.1 b1).1
 have o1 : Old w I1 := (o0.trans oA1).then kk1 (fun i hi e => by omega)
 have h1 := s1.keeps kk1 (fun b hb e => by simp [Value.ownBlock] at hb; omega)
 have y1 := oA1.size
 clear c1 r1 s1
 refine wpList_runTo rfl (some 5) rfl (.slice (some ⟨I1.heap.size, 0, none⟩) 1 1) (I1.alloc (.cells #[.int .i64 3] 3)) (by kernel_rfl) ?_
 obtain ⟨A2, hA2⟩ : ∃ W, I1.alloc (.cells #[.int .i64 3] 3) = W := ⟨_, rfl⟩
 have oA2 : Old I1 A2 := by rw [← hA2]; exact (Keeps.refl _ _).alloc _
 have s2 : SeesR A2 1 intL (.slice (some ⟨I1.heap.size, 0, none⟩) 1 1) [3] := by rw [← hA2]; exact SeesR.new (k := 1) (enc := intL) I1 _ (0, 0) [3] _ (by rfl) (fun _ => rfl) (by unfold maxLen; simp)
 rw [hA2]
 clear hA2
 have c2 := (oA2.block _ z1 (fun f => f)).trans b1
 obtain ⟨I2, r2, b2, kk2⟩ := map_put (P := Tryz.prog) (k := .int .i64 2) Tryz.underlying125 Tryz.underlying3 rfl c2 (.slice (some ⟨I1.heap.size, 0, none⟩) 1 1) (by rfl)
 refine wpList_skipTo rfl I2 (run_insert_op (x := .tmp 3) (y := .const (.int .i64 2)) (z := .tmp 5) r2 rfl (by kernel_rfl) (by kernel_rfl) (by kernel_rfl)) ?_
 have z2 : w.heap.size < I2.heap.size := (Array.getElem?_eq_some_iff.1 b2).1
 have o2 : Old w I2 := (o1.trans oA2).then kk2 (fun i hi e => by omega)
 have h2 := s2.keeps kk2 (fun b hb e => by simp [Value.ownBlock] at hb; omega)
 have y2 := oA2.size
 have h1 := (h1.old oA2).keeps kk2 (fun b hb e => by simp [Value.ownBlock] at hb; omega)
 clear c2 r2 s2
 refine wpList_runTo rfl (some 6) rfl (.slice (some ⟨I2.heap.size, 0, none⟩) 1 1) (I2.alloc (.cells #[.int .i64 3] 3)) (by kernel_rfl) ?_
 obtain ⟨A3, hA3⟩ : ∃ W, I2.alloc (.cells #[.int .i64 3] 3) = W := ⟨_, rfl⟩
 have oA3 : Old I2 A3 := by rw [← hA3]; exact (Keeps.refl _ _).alloc _
 have s3 : SeesR A3 1 intL (.slice (some ⟨I2.heap.size, 0, none⟩) 1 1) [3] := by rw [← hA3]; exact SeesR.new (k := 1) (enc := intL) I2 _ (0, 0) [3] _ (by rfl) (fun _ => rfl) (by unfold maxLen; simp)
 rw [hA3]
 clear hA3
 have c3 := (oA3.block _ z2 (fun f => f)).trans b2
 obtain ⟨I3, r3, b3, kk3⟩ := map_put (P := Tryz.prog) (k := .int .i64 3) Tryz.underlying125 Tryz.underlying3 rfl c3 (.slice (some ⟨I2.heap.size, 0, none⟩) 1 1) (by rfl)
 refine wpList_skipTo rfl I3 (run_insert_op (x := .tmp 3) (y := .const (.int .i64 3)) (z := .tmp 6) r3 rfl (by kernel_rfl) (by kernel_rfl) (by kernel_rfl)) ?_
 have z3 : w.heap.size < I3.heap.size := (Array.getElem?_eq_some_iff.1 b3).1
 have o3 : Old w I3 := (o2.trans oA3).then kk3 (fun i hi e => by omega)
 have h3 := s3.keeps kk3 (fun b hb e => by simp [Value.ownBlock] at hb; omega)
 have y3 := oA3.size
 have h1 := (h1.old oA3).keeps kk3 (fun b hb e => by simp [Value.ownBlock] at hb; omega)
 have h2 := (h2.old oA3).keeps kk3 (fun b hb e => by simp [Value.ownBlock] at hb; omega)
 clear c3 r3 s3
 refine wpList_runTo rfl (some 7) rfl (.slice (some ⟨I3.heap.size, 0, none⟩) 2 2) (I3.alloc (.cells #[.int .i64 0, .int .i64 4] 3)) (by kernel_rfl) ?_
 obtain ⟨A4, hA4⟩ : ∃ W, I3.alloc (.cells #[.int .i64 0, .int .i64 4] 3) = W := ⟨_, rfl⟩
 have oA4 : Old I3 A4 := by rw [← hA4]; exact (Keeps.refl _ _).alloc _
 have s4 : SeesR A4 1 intL (.slice (some ⟨I3.heap.size, 0, none⟩) 2 2) [0, 4] := by rw [← hA4]; exact SeesR.new (k := 1) (enc := intL) I3 _ (0, 0) [0, 4] _ (by rfl) (fun _ => rfl) (by unfold maxLen; simp)
 rw [hA4]
 clear hA4
 have c4 := (oA4.block _ z3 (fun f => f)).trans b3
 obtain ⟨I4, r4, b4, kk4⟩ := map_put (P := Tryz.prog) (k := .int .i64 4) Tryz.underlying125 Tryz.underlying3 rfl c4 (.slice (some ⟨I3.heap.size, 0, none⟩) 2 2) (by rfl)
 refine wpList_skipTo rfl I4 (run_insert_op (x := .tmp 3) (y := .const (.int .i64 4)) (z := .tmp 7) r4 rfl (by kernel_rfl) (by kernel_rfl) (by kernel_rfl)) ?_
 have z4 : w.heap.size < I4.heap.size := (Array.getElem?_eq_some_iff.1 b4).1
 have o4 : Old w I4 := (o3.trans oA4).then kk4 (fun i hi e => by omega)
 have h4 := s4.keeps kk4 (fun b hb e => by simp [Value.ownBlock] at hb; omega)
 have y4 := oA4.size
 have h1 := (h1.old oA4).keeps kk4 (fun b hb e => by simp [Value.ownBlock] at hb; omega)
 have h2 := (h2.old oA4).keeps kk4 (fun b hb e => by simp [Value.ownBlock] at hb; omega)
 have h3 := (h3.old oA4).keeps kk4 (fun b hb e => by simp [Value.ownBlock] at hb; omega)
 clear c4 r4 s4
 refine wpList_runTo rfl (some 8) rfl (.slice (some ⟨I4.heap.size, 0, none⟩) 4 4) (I4.alloc (.cells #[.int .i64 5, .int .i64 0, .int .i64 3, .int .i64 6] 3)) (by kernel_rfl) ?_
 obtain ⟨A5, hA5⟩ : ∃ W, I4.alloc (.cells #[.int .i64 5, .int .i64 0, .int .i64 3, .int .i64 6] 3) = W := ⟨_, rfl⟩
 have oA5 : Old I4 A5 := by rw [← hA5]; exact (Keeps.refl _ _).alloc _
 have s5 : SeesR A5 1 intL (.slice (some ⟨I4.heap.size, 0, none⟩) 4 4) [5, 0, 3, 6] := by rw [← hA5]; exact SeesR.new (k := 1) (enc := intL) I4 _ (0, 0) [5, 0, 3, 6] _ (by rfl) (fun _ => rfl) (by unfold maxLen; simp)
 rw [hA5]
 clear hA5
 have c5 := (oA5.block _ z4 (fun f => f)).trans b4
 obtain ⟨I5, r5, b5, kk5⟩ := map_put (P := Tryz.prog) (k := .int .i64 5) Tryz.underlying125 Tryz.underlying3 rfl c5 (.slice (some ⟨I4.heap.size, 0, none⟩) 4 4) (by rfl)
 refine wpList_skipTo rfl I5 (run_insert_op (x := .tmp 3) (y := .const (.int .i64 5)) (z := .tmp 8) r5 rfl (by kernel_rfl) (by kernel_rfl) (by kernel_rfl)) ?_
 have z5 : w.heap.size < I5.heap.size := (Array.getElem?_eq_some_iff.1 b5).1
 have o5 : Old w I5 := (o4.trans oA5).then kk5 (fun i hi e => by omega)
 have h5 := s5.keeps kk5 (fun b hb e => by simp [Value.ownBlock] at hb; omega)
 have y5 := oA5.size
 have h1 := (h1.old oA5).keeps kk5 (fun b hb e => by simp [Value.ownBlock] at hb; omega)
 have h2 := (h2.old oA5).keeps kk5 (fun b hb e => by simp [Value.ownBlock] at hb; omega)
 have h3 := (h3.old oA5).keeps kk5 (fun b hb e => by simp [Value.ownBlock] at hb; omega)
 have h4 := (h4.old oA5).keeps kk5 (fun b hb e => by simp [Value.ownBlock] at hb; omega)
 clear c5 r5 s5
 refine wpList_runTo rfl (some 9) rfl (.slice (some ⟨I5.heap.size, 0, none⟩) 3 3) (I5.alloc (.cells #[.int .i64 5, .int .i64 0, .int .i64 7] 3)) (by kernel_rfl) ?_
 obtain ⟨A6, hA6⟩ : ∃ W, I5.alloc (.cells #[.int .i64 5, .int .i64 0, .int .i64 7] 3) = W := ⟨_, rfl⟩
 have oA6 : Old I5 A6 := by rw [← hA6]; exact (Keeps.refl _ _).alloc _
 have s6 : SeesR A6 1 intL (.slice (some ⟨I5.heap.size, 0, none⟩) 3 3) [5, 0, 7] := by rw [← hA6]; exact SeesR.new (k := 1) (enc := intL) I5 _ (0, 0) [5, 0, 7] _ (by rfl) (fun _ => rfl) (by unfold maxLen; simp)
 rw [hA6]
 clear hA6
 have c6 := (oA6.block _ z5 (fun f => f)).trans b5
 obtain ⟨I6, r6, b6, kk6⟩ := map_put (P := Tryz.prog) (k := .int .i64 6) Tryz.underlying125 Tryz.underlying3 rfl c6 (.slice (some ⟨I5.heap.size, 0, none⟩) 3 3) (by rfl)
 refine wpList_skipTo rfl I6 (run_insert_op (x := .tmp 3) (y := .const (.int .i64 6)) (z := .tmp 9) r6 rfl (by kernel_rfl) (by kernel_rfl) (by kernel_rfl)) ?_
 have z6 : w.heap.size < I6.heap.size := (Array.getElem?_eq_some_iff.1 b6).1
 have o6 : Old w I6 := (o5.trans oA6).then kk6 (fun i hi e => by omega)
 have h6 := s6.keeps kk6 (fun b hb e => by simp [Value.ownBlock] at hb; omega)
 have y6 := oA6.size
 have h1 := (h1.old oA6).keeps kk6 (fun b hb e => by simp [Value.ownBlock] at hb; omega)
 have h2 := (h2.old oA6).keeps kk6 (fun b hb e => by simp [Value.ownBlock] at hb; omega)
 have h3 := (h3.old oA6).keeps kk6 (fun b hb e => by simp [Value.ownBlock] at hb; omega)
 have h4 := (h4.old oA6).keeps kk6 (fun b hb e => by simp [Value.ownBlock] at hb; omega)
 have h5 := (h5.old oA6).keeps kk6 (fun b hb e => by simp [Value.ownBlock] at hb; omega)
 clear c6 r6 s6
 obtain ⟨r, V, hr, hV, sV, nV⟩ : ∃ r V, Instr.findNow (.int .i64) (.int .i64 k) ((((((((#[] : Array MapEntry).push ⟨.int .i64 1, .slice (some ⟨I0.heap.size, 0, none⟩) 4 4, 0⟩).push ⟨.int .i64 2, .slice (some ⟨I1.heap.size, 0, none⟩) 1 1, 1⟩).push ⟨.int .i64 3, .slice (some ⟨I2.heap.size, 0, none⟩) 1 1, 2⟩).push ⟨.int .i64 4, .slice (some ⟨I3.heap.size, 0, none⟩) 2 2, 3⟩).push ⟨.int .i64 5, .slice (some ⟨I4.heap.size, 0, none⟩) 4 4, 4⟩).push ⟨.int .i64 6, .slice (some ⟨I5.heap.size, 0, none⟩) 3 3, 5⟩)).toList 0 = some r ∧ r.elim (.slice none 0 0) (·.2) = V ∧ SeesR I6 1 intL V (partsL k) ∧ ∀ b, V.ownBlock = some b → w.heap.size ≤ b := by
  by_cases e1 : k = 1
  ·exact ⟨_, _, by simp [Instr.findNow, Instr.sameNow, e1]; rfl, rfl, by rw [e1]; exact h1, fun b hb => (by simp [Value.ownBlock] at hb; omega)⟩
  by_cases e2 : k = 2
  ·exact ⟨_, _, by simp [Instr.findNow, Instr.sameNow, e2]; rfl, rfl, by rw [e2]; exact h2, fun b hb => (by simp [Value.ownBlock] at hb; omega)⟩
  by_cases e3 : k = 3
  ·exact ⟨_, _, by simp [Instr.findNow, Instr.sameNow, e3]; rfl, rfl, by rw [e3]; exact h3, fun b hb => (by simp [Value.ownBlock] at hb; omega)⟩
  by_cases e4 : k = 4
  ·exact ⟨_, _, by simp [Instr.findNow, Instr.sameNow, e4]; rfl, rfl, by rw [e4]; exact h4, fun b hb => (by simp [Value.ownBlock] at hb; omega)⟩
  by_cases e5 : k = 5
  ·exact ⟨_, _, by simp [Instr.findNow, Instr.sameNow, e5]; rfl, rfl, by rw [e5]; exact h5, fun b hb => (by simp [Value.ownBlock] at hb; omega)⟩
  by_cases e6 : k = 6
  ·exact ⟨_, _, by simp [Instr.findNow, Instr.sameNow, e6]; rfl, rfl, by rw [e6]; exact h6, fun b hb => (by simp [Value.ownBlock] at hb; omega)⟩
  have f1 : (k == 1) = false := by rw [beq_eq_false_iff_ne]; exact e1
  have f2 : (k == 2) = false := by rw [beq_eq_false_iff_ne]; exact e2
  have f3 : (k == 3) = false := by rw [beq_eq_false_iff_ne]; exact e3
  have f4 : (k == 4) = false := by rw [beq_eq_false_iff_ne]; exact e4
  have f5 : (k == 5) = false := by rw [beq_eq_false_iff_ne]; exact e5
  have f6 : (k == 6) = false := by rw [beq_eq_false_iff_ne]; exact e6
  exact ⟨none, .slice none 0 0, by simp [Instr.findNow, Instr.sameNow, f1, f2, f3, f4, f5, f6], rfl, by unfold partsL; rw [if_neg e1, if_neg e2, if_neg e3, if_neg e4, if_neg e5, if_neg e6]; exact SeesR.nil _, fun b hb => (by simp [Value.ownBlock] at hb)⟩
 refine wpList_runTo rfl (some 10) rfl (.map (some w.heap.size)) I6 (by kernel_rfl) ?_
 refine wpList_runTo rfl (some 11) rfl (.int .i64 k) I6 (by kernel_rfl) ?_
 have hg := map_get (P := Tryz.prog) (k := .int .i64 k) Tryz.underlying125 Tryz.underlying3 rfl b6 (z := .slice none 0 0) (by kernel_rfl) hr
 rw [hV] at hg
 refine wpList_runTo rfl (some 12) rfl V I6 (run_lookup_op (x := .tmp 10) (y := .tmp 11) hg rfl (by kernel_rfl) (by kernel_rfl)) ?_
 refine wpList_runTo rfl (some 2) rfl V I6 (by kernel_rfl) ?_
 refine wpList_nil ?_
 try simp only [Act.put, List.setIfInBounds_toArray, List.set_cons_zero, List.set_cons_succ]
 obtain ⟨pv, cv, rfl, _, _⟩ := sV.len
 have HS := Lib.hid (And.intro sV (And.intro o6 nV))
 clear h1 b1 kk1 oA1 o1 h2 b2 kk2 oA2 o2 h3 b3 kk3 oA3 o3 h4 b4 kk4 oA4 o4 h5 b5 kk5 oA5 o5 h6 b6 kk6 oA6 o6 hr hg sV nV b0 o0 hV
 go_wp2_with fail
 go_ret
 exact ⟨_, _, _, rfl, HS.out.1, HS.out.2.1, HS.out.2.2⟩
end
section
open Go.RowKit
def stepM (p : Int) (m : PMs) (l : List UInt8) : Option (PMs × List UInt8) :=
 if p = 0 then (pNum mMost l).map fun x => ({ m with pub := (x.1 : Int) }, x.2)
 else if p = 1 then (pNum mMost l).map fun x => ({ m with ver := x.1 }, x.2)
 else if p = 2 then (pNum mMost l).map fun x => ({ m with there := x.1 == 1 }, x.2)
 else if p = 3 then (if m.kind = 1 ∧ m.there = false then some (m, l) else (pPart takeP l).map fun x => ({ m with ps := x.1 }, x.2))
 else if p = 4 then (pPart takeI l).map fun x => ({ m with it := x.1 }, x.2)
 else if p = 5 then (pNum mMost l).bind fun x => (pNum mMost x.2).bind fun y => (pNum mMost y.2).map fun z => ({ m with tb := (x.1 : Int), tl := y.1, tc := z.1 }, z.2)
 else if p = 6 then (pNum mMost l).map fun x => ({ m with frm := x.1 }, x.2)
 else (pPart takeG l).map fun x => ({ m with pg := x.1 }, x.2)
def partsM : List Int → PMs → List UInt8 → Option (PMs × List UInt8)
 | [], m, l => some (m, l)
 | p :: r, m, l => (stepM p m l).bind fun x => partsM r x.1 x.2
def parseM (l : List UInt8) : Option (PMs × List UInt8) := (pNum mMost l).bind fun x => partsM (partsL (x.1 : Int)) { noMs with kind := (x.1 : Int) } x.2
def takeM (b : List UInt8) : Option PMs := (parseM b).bind fun x => if mayM x.1 && decide (mForm x.1 = b) then some x.1 else none
abbrev numV (st : Option (List UInt8)) : Nat := (st.bind (pNum mMost)).elim 0 (·.1)
abbrev numR (st : Option (List UInt8)) : Option (List UInt8) := (st.bind (pNum mMost)).map (·.2)
theorem numV_le (st : Option (List UInt8)) : numV st ≤ mMost := by
 unfold numV
 cases st with
 | none => exact Nat.zero_le _
 | some l =>
  simp only [Option.bind_some]
  cases h : pNum mMost l with
  | none => exact Nat.zero_le _
  | some x => exact (pNum_inv (n := x.1) (r := x.2) h).2.1
theorem step0 (st : Option (List UInt8)) (m : PMs) (r : List Int) : (st.bind fun l => partsM (0 :: r) m l) = (numR st).bind fun l => partsM r { m with pub := (numV st : Int) } l := by
 cases st with
 | none => rfl
 | some l => simp only [Option.bind_some, partsM, stepM, if_true, numR, numV]; cases pNum mMost l <;> rfl
theorem step1 (st : Option (List UInt8)) (m : PMs) (r : List Int) : (st.bind fun l => partsM (1 :: r) m l) = (numR st).bind fun l => partsM r { m with ver := numV st } l := by
 cases st with
 | none => rfl
 | some l => simp only [Option.bind_some, partsM, stepM, show ¬ ((1 : Int) = 0) by decide, if_false, if_true, numR, numV]; cases pNum mMost l <;> rfl
theorem step2 (st : Option (List UInt8)) (m : PMs) (r : List Int) : (st.bind fun l => partsM (2 :: r) m l) = (numR st).bind fun l => partsM r { m with there := numV st == 1 } l := by
 cases st with
 | none => rfl
 | some l => simp only [Option.bind_some, partsM, stepM, show ¬ ((2 : Int) = 0) by decide, show ¬ ((2 : Int) = 1) by decide, if_false, if_true, numR, numV]; cases pNum mMost l <;> rfl
theorem step3n (st : Option (List UInt8)) (m : PMs) (r : List Int) (h : m.kind = 1 ∧ m.there = false) : (st.bind fun l => partsM (3 :: r) m l) = st.bind fun l => partsM r m l := by
 cases st with
 | none => rfl
 | some l => simp only [Option.bind_some, partsM, stepM, show ¬ ((3 : Int) = 0) by decide, show ¬ ((3 : Int) = 1) by decide, show ¬ ((3 : Int) = 2) by decide, if_false, if_true]; rw [if_pos h]; rfl
theorem step3 (st : Option (List UInt8)) (m : PMs) (r : List Int) (cs : List PCon) (h : ¬ (m.kind = 1 ∧ m.there = false)) (hx : ∀ x, st.bind (pPart takeP) = some x → cs = x.1) : (st.bind fun l => partsM (3 :: r) m l) = ((st.bind (pPart takeP)).map (·.2)).bind fun l => partsM r { m with ps := cs } l := by
 cases st with
 | none => rfl
 | some l =>
  simp only [Option.bind_some, partsM, stepM, show ¬ ((3 : Int) = 0) by decide, show ¬ ((3 : Int) = 1) by decide, show ¬ ((3 : Int) = 2) by decide, if_false, if_true] at hx ⊢
  rw [if_neg h]
  cases hp : pPart takeP l with
  | none => rfl
  | some x => rw [hx x hp]; rfl
theorem step4 (st : Option (List UInt8)) (m : PMs) (r : List Int) (it : PIt) (hx : ∀ x, st.bind (pPart takeI) = some x → it = x.1) : (st.bind fun l => partsM (4 :: r) m l) = ((st.bind (pPart takeI)).map (·.2)).bind fun l => partsM r { m with it := it } l := by
 cases st with
 | none => rfl
 | some l =>
  simp only [Option.bind_some, partsM, stepM, show ¬ ((4 : Int) = 0) by decide, show ¬ ((4 : Int) = 1) by decide, show ¬ ((4 : Int) = 2) by decide, show ¬ ((4 : Int) = 3) by decide, if_false, if_true] at hx ⊢
  cases hp : pPart takeI l with
  | none => rfl
  | some x => rw [hx x hp]; rfl
theorem step5 (st : Option (List UInt8)) (m : PMs) (r : List Int) : (st.bind fun l => partsM (5 :: r) m l) = (numR (numR (numR st))).bind fun l => partsM r { m with tb := (numV st : Int), tl := numV (numR st), tc := numV (numR (numR st)) } l := by
 cases st with
 | none => rfl
 | some l =>
  simp only [Option.bind_some, partsM, stepM, show ¬ ((5 : Int) = 0) by decide, show ¬ ((5 : Int) = 1) by decide, show ¬ ((5 : Int) = 2) by decide, show ¬ ((5 : Int) = 3) by decide, show ¬ ((5 : Int) = 4) by decide, if_false, if_true, numR, numV]
  cases pNum mMost l with
  | none => rfl
  | some x =>
   simp only [Option.bind_some, Option.map_some, Option.elim_some]
   cases pNum mMost x.2 with
   | none => rfl
   | some y =>
    simp only [Option.bind_some, Option.map_some, Option.elim_some]
    cases pNum mMost y.2 <;> rfl
theorem step6 (st : Option (List UInt8)) (m : PMs) (r : List Int) : (st.bind fun l => partsM (6 :: r) m l) = (numR st).bind fun l => partsM r { m with frm := numV st } l := by
 cases st with
 | none => rfl
 | some l => simp only [Option.bind_some, partsM, stepM, show ¬ ((6 : Int) = 0) by decide, show ¬ ((6 : Int) = 1) by decide, show ¬ ((6 : Int) = 2) by decide, show ¬ ((6 : Int) = 3) by decide, show ¬ ((6 : Int) = 4) by decide, show ¬ ((6 : Int) = 5) by decide, if_false, if_true, numR, numV]; cases pNum mMost l <;> rfl
theorem step7 (st : Option (List UInt8)) (m : PMs) (r : List Int) (pg : PPg) (hx : ∀ x, st.bind (pPart takeG) = some x → pg = x.1) : (st.bind fun l => partsM (7 :: r) m l) = ((st.bind (pPart takeG)).map (·.2)).bind fun l => partsM r { m with pg := pg } l := by
 cases st with
 | none => rfl
 | some l =>
  simp only [Option.bind_some, partsM, stepM, show ¬ ((7 : Int) = 0) by decide, show ¬ ((7 : Int) = 1) by decide, show ¬ ((7 : Int) = 2) by decide, show ¬ ((7 : Int) = 3) by decide, show ¬ ((7 : Int) = 4) by decide, show ¬ ((7 : Int) = 5) by decide, show ¬ ((7 : Int) = 6) by decide, if_false] at hx ⊢
  cases hp : pPart takeG l with
  | none => rfl
  | some x => rw [hx x hp]; rfl
def MsO (w : World) (B : Nat) (m : Ms) : Prop :=
 (OwnN w B 72 7 Con.cells Con.sv ConF m.pv m.ps ∧ ∀ c ∈ m.ps.map Con.plain, ConG c) ∧
 (OwnsA w B m.it.av m.it.es ∧ (m.it.n < 18446744073709551616 ∧ m.it.time < 18446744073709551616) ∧ Fits m.it.es) ∧
 ((OwnN w B 29 4 It.cells It.av ItF m.pg.iv m.pg.its ∧ OwnsR w B 121 2 gapL m.pg.gv m.pg.gs) ∧ ((m.pg.fr < 18446744073709551616 ∧ m.pg.en < 18446744073709551616) ∧ (∀ y ∈ m.pg.its, Fits y.es ∧ y.n < 18446744073709551616 ∧ y.time < 18446744073709551616) ∧ ∀ g ∈ m.pg.gs, g.1 < 18446744073709551616 ∧ g.2 < 18446744073709551616)) ∧
 (I64 m.kind ∧ I64 m.pub ∧ I64 m.tb) ∧ (U64 m.ver ∧ U64 m.tl ∧ U64 m.tc ∧ U64 m.frm)
theorem MsO.keeps {S : Nat → Prop} {w w' : World} {B : Nat} {m : Ms} (h : MsO w B m) (hk : Keeps S w w') (hS : ∀ b, B ≤ b → b < w.heap.size → ¬ S b) : MsO w' B m :=
 ⟨⟨h.1.1.keeps conF_k hk hS, h.1.2⟩, ⟨h.2.1.1.keeps hk (fun b hb => hS b (h.2.1.1.block b hb).1 (h.2.1.1.block b hb).2), h.2.1.2⟩,
  ⟨⟨h.2.2.1.1.1.keeps itF_k hk hS, h.2.2.1.1.2.keeps hk (fun b hb => hS b (h.2.2.1.1.2.block b hb).1 (h.2.2.1.1.2.block b hb).2)⟩, h.2.2.1.2⟩, h.2.2.2⟩
theorem MsO.old {w w' : World} {B : Nat} {m : Ms} (h : MsO w B m) (hk : Old w w') : MsO w' B m := h.keeps hk (fun _ _ _ f => f)
theorem MsO.mono {w : World} {B B' : Nat} {m : Ms} (h : MsO w B m) (hb : B' ≤ B) : MsO w B' m :=
 ⟨⟨h.1.1.mono' hb, h.1.2⟩, ⟨h.2.1.1.mono hb, h.2.1.2⟩, ⟨⟨h.2.2.1.1.1.mono' hb, h.2.2.1.1.2.mono hb⟩, h.2.2.1.2⟩, h.2.2.2⟩
theorem MsO.fine {w : World} {B : Nat} {m : Ms} (h : MsO w B m) : m.fine w := by
 obtain ⟨⟨h1, h1'⟩, ⟨h2, h2', h2''⟩, ⟨⟨h3, h4⟩, ⟨h5, h6⟩, h7, h8⟩, h9⟩ := h
 refine ⟨⟨⟨h1.1.sees (fun _ => rfl) (by decide), fun y hy => ?_⟩, fun _ b hb => (h1.1.block b hb).2⟩, ⟨h2.sees (fun _ => rfl) (by decide), fun _ b hb => (h2.block b hb).2, h2'', h2'.1, h2'.2⟩,
  ⟨⟨h3.1.sees (fun _ => rfl) (by decide), fun y hy => ?_, h4.sees (fun _ => rfl) (by decide)⟩, h8, ⟨h5, h6⟩, fun _ b hb => (h3.1.block b hb).2, fun _ b hb => (h4.block b hb).2⟩, h9⟩
 ·have hg := h1' y.plain (List.mem_map_of_mem hy)
  have hb : y.name.size ≤ 16 := hg.1
  exact ⟨(h1.2 y hy).1, ⟨by omega, hg.2.1⟩, hg.2.2, fun _ b hb' => ((h1.2 y hy).2 b hb').2.1⟩
 ·exact ⟨(h3.2 y hy).1, fun _ k hk => ((h3.2 y hy).2 k hk).2.1, (h7 y hy).1, (h7 y hy).2.1, (h7 y hy).2.2⟩
def zeroMs : Ms := ⟨0, 0, 0, false, .slice none 0 0, [], ⟨0, 0, ⟨#[]⟩, .slice none 0 0, []⟩, 0, 0, 0, 0, ⟨0, 0, .slice none 0 0, [], .slice none 0 0, [], false⟩⟩
theorem MsO.zero (w : World) (B : Nat) : MsO w B zeroMs :=
 ⟨⟨OwnN.nil _ _, fun c hc => by cases hc⟩, ⟨OwnsR.nil _ _, ⟨by decide, by decide⟩, fun _ h => (by cases h)⟩, ⟨⟨OwnN.nil _ _, OwnsR.nil _ _⟩, ⟨by decide, by decide⟩, fun _ h => (by cases h), fun _ h => (by cases h)⟩, ⟨⟨by decide, by decide⟩, ⟨by decide, by decide⟩, ⟨by decide, by decide⟩⟩, by unfold U64; decide, by unfold U64; decide, by unfold U64; decide, by unfold U64; decide⟩
def putRange (cs : Array Value) (o : Nat) : List Value → Array Value
 | [] => cs
 | v :: r => putRange (cs.setIfInBounds o v) (o + 1) r
theorem setCells_heap {b : Nat} {t : TypeId} : ∀ (vs : List Value) (o : Nat) (w : World) (cs : Array Value), w.heap[b]? = some (.cells cs t (0, 0)) → (w.setCells b o vs).heap[b]? = some (.cells (putRange cs o vs) t (0, 0))
 | [], _, _, _, h => h
 | v :: r, o, w, _cs, h => setCells_heap r (o + 1) _ _ (heap_setCell_same w b o _ _ v h)
theorem setCells_keeps {b : Nat} : ∀ (vs : List Value) (o : Nat) (w a : World), Keeps (fun k => k = b) a w → Keeps (fun k => k = b) a (w.setCells b o vs)
 | [], _, _, _, h => h
 | v :: r, o, _w, _a, h => setCells_keeps r (o + 1) _ _ (keepS v h)
theorem there_of {w : World} {b : Nat} {cs : Array Value} {t : TypeId} (h : w.heap[b]? = some (.cells cs t (0, 0))) (o n : Nat) (hn : o + n ≤ cs.size) : w.there b o n := by
 intro j hj
 have : o + j < cs.size := by omega
 constructor
 ·simp [World.cell?, h, this]
 ·simp [World.frozen?, h]
theorem store_cells {w : World} {b o : Nat} {cs : Array Value} {t ty : TypeId} (h : w.heap[b]? = some (.cells cs t (0, 0))) (vs : Array Value) (hn : o + vs.size ≤ cs.size) (hi : (Tryz.prog.info? ty).map (·.size) = some vs.size) (h1 : vs.all (·.oneCell') = true) {cs' : Array Value} (hc : putRange cs o vs.toList = cs') :
  ∃ w', (storeVar ty ⟨b, o, none⟩ (.agg vs)).run Tryz.prog w = .ok () w' ∧ w'.heap[b]? = some (.cells cs' t (0, 0)) ∧ Keeps (fun k => k = b) w w' :=
 ⟨_, run_storeVar_mid w b o ty vs (there_of h o _ hn) hi h1, hc ▸ setCells_heap vs.toList o w cs h, setCells_keeps vs.toList o w w (Keeps.refl _ _)⟩
theorem store_cell {w : World} {b o : Nat} {cs : Array Value} {t ty : TypeId} (h : w.heap[b]? = some (.cells cs t (0, 0))) (v : Value) (hv : v.cells = #[v]) (hn : o < cs.size) (hi : (Tryz.prog.info? ty).map (·.size) = some 1) (h1 : v.oneCell' = true) {cs' : Array Value} (hc : cs.setIfInBounds o v = cs') :
  ∃ w', (storeVar ty ⟨b, o, none⟩ v).run Tryz.prog w = .ok () w' ∧ w'.heap[b]? = some (.cells cs' t (0, 0)) ∧ Keeps (fun k => k = b) w w' := by
 refine ⟨w.setCell ⟨b, o, none⟩ v, ?_, hc ▸ heap_setCell_same w b o _ _ v h, keepS _ (Keeps.refl _ _)⟩
 have := run_storeCells_cells (P := Tryz.prog) b o [v] 0 w (fun j hj => by have := (there_of h o 1 (by omega) j (by simpa using hj)).1; simpa using this) (fun j hj => by have := (there_of h o 1 (by omega) j (by simpa using hj)).2; simpa using this) (fun x hx => by simp at hx; subst hx; exact h1)
 cases hq : Tryz.prog.info? ty with
 | none => simp [hq] at hi
 | some i =>
  have hs : i.size = 1 := by simpa [hq] using hi
  simp only [Nat.add_zero] at this
  simp [storeVar, sizeOf, typeInfo, hq, hv, hs, this, World.setCells]
theorem putRange_whole {cs vs : Array Value} (h : cs.size = vs.size) : putRange cs 0 vs.toList = vs := by
 have key : ∀ (l pre : List Value) (rest : List Value), rest.length = l.length → putRange (pre ++ rest).toArray pre.length l = (pre ++ l).toArray := by
  intro l
  induction l with
  | nil => intro pre rest hr; have : rest = [] := List.eq_nil_of_length_eq_zero hr; subst this; rfl
  | cons v r ih =>
   intro pre rest hr
   cases rest with
   | nil => simp at hr
   | cons a t =>
    unfold putRange
    have e : (pre ++ a :: t).toArray.setIfInBounds pre.length v = ((pre ++ [v]) ++ t).toArray := by
     simp
    rw [e]
    have := ih (pre ++ [v]) t (by simpa using hr)
    simpa using this
 have := key vs.toList [] cs.toList (by simpa using h)
 simpa using this
abbrev MAt (w : World) (mb : Nat) (m : Ms) : Prop := w.heap[mb]? = some (.cells m.cells.toArray 44 (0, 0))
theorem store_pub {w : World} {mb : Nat} {m : Ms} (h : MAt w mb m) (n : Int) : ∃ w', (storeVar 3 ⟨mb, 1, none⟩ (.int .i64 n)).run Tryz.prog w = .ok () w' ∧ MAt w' mb { m with pub := n } ∧ Keeps (fun k => k = mb) w w' :=
 store_cell h _ rfl (by simp [Ms.cells]) (by kernel_rfl) (by simp [Value.oneCell']) (by simp [Ms.cells])
theorem store_ver {w : World} {mb : Nat} {m : Ms} (h : MAt w mb m) (n : Nat) : ∃ w', (storeVar 22 ⟨mb, 2, none⟩ (.int .u64 n)).run Tryz.prog w = .ok () w' ∧ MAt w' mb { m with ver := n } ∧ Keeps (fun k => k = mb) w w' :=
 store_cell h _ rfl (by simp [Ms.cells]) (by kernel_rfl) (by simp [Value.oneCell']) (by simp [Ms.cells])
theorem store_there {w : World} {mb : Nat} {m : Ms} (h : MAt w mb m) (n : Bool) : ∃ w', (storeVar 4 ⟨mb, 3, none⟩ (.bool n)).run Tryz.prog w = .ok () w' ∧ MAt w' mb { m with there := n } ∧ Keeps (fun k => k = mb) w w' :=
 store_cell h _ rfl (by simp [Ms.cells]) (by kernel_rfl) (by simp [Value.oneCell']) (by simp [Ms.cells])
theorem store_pred {w : World} {mb : Nat} {m : Ms} (h : MAt w mb m) (p : Option Addr) (n c : Nat) (cs : List Con) : ∃ w', (storeVar 24 ⟨mb, 4, none⟩ (.slice p n c)).run Tryz.prog w = .ok () w' ∧ MAt w' mb { m with pv := .slice p n c, ps := cs } ∧ Keeps (fun k => k = mb) w w' :=
 store_cell h _ rfl (by simp [Ms.cells]) (by kernel_rfl) (by simp [Value.oneCell']) (by simp [Ms.cells])
theorem store_life {w : World} {mb : Nat} {m : Ms} (h : MAt w mb m) (n : Nat) : ∃ w', (storeVar 22 ⟨mb, 10, none⟩ (.int .u64 n)).run Tryz.prog w = .ok () w' ∧ MAt w' mb { m with tl := n } ∧ Keeps (fun k => k = mb) w w' :=
 store_cell h _ rfl (by simp [Ms.cells]) (by kernel_rfl) (by simp [Value.oneCell']) (by simp [Ms.cells])
theorem store_count {w : World} {mb : Nat} {m : Ms} (h : MAt w mb m) (n : Nat) : ∃ w', (storeVar 22 ⟨mb, 11, none⟩ (.int .u64 n)).run Tryz.prog w = .ok () w' ∧ MAt w' mb { m with tc := n } ∧ Keeps (fun k => k = mb) w w' :=
 store_cell h _ rfl (by simp [Ms.cells]) (by kernel_rfl) (by simp [Value.oneCell']) (by simp [Ms.cells])
theorem store_from {w : World} {mb : Nat} {m : Ms} (h : MAt w mb m) (n : Nat) : ∃ w', (storeVar 22 ⟨mb, 12, none⟩ (.int .u64 n)).run Tryz.prog w = .ok () w' ∧ MAt w' mb { m with frm := n } ∧ Keeps (fun k => k = mb) w w' :=
 store_cell h _ rfl (by simp [Ms.cells]) (by kernel_rfl) (by simp [Value.oneCell']) (by simp [Ms.cells])
theorem store_tok {w : World} {mb : Nat} {m : Ms} (h : MAt w mb m) (a : Int) (b c : Nat) : ∃ w', (storeVar 42 ⟨mb, 9, none⟩ (.agg #[.int .i64 a, .int .u64 b, .int .u64 c])).run Tryz.prog w = .ok () w' ∧ MAt w' mb { m with tb := a, tl := b, tc := c } ∧ Keeps (fun k => k = mb) w w' :=
 store_cells h _ (by simp [Ms.cells]) (by kernel_rfl) (by simp [Value.oneCell']) (by simp [Ms.cells, putRange])
theorem store_item {w : World} {mb : Nat} {m : Ms} (h : MAt w mb m) (n tm : Nat) (key : ByteArray) (p : Option Addr) (l c : Nat) (es : List At) : ∃ w', (storeVar 29 ⟨mb, 5, none⟩ (.agg #[.int .u64 n, .int .u64 tm, .string key, .slice p l c])).run Tryz.prog w = .ok () w' ∧ MAt w' mb { m with it := ⟨n, tm, key, .slice p l c, es⟩ } ∧ Keeps (fun k => k = mb) w w' :=
 store_cells h _ (by simp [Ms.cells]) (by kernel_rfl) (by simp [Value.oneCell']) (by simp [Ms.cells, putRange])
theorem store_page {w : World} {mb : Nat} {m : Ms} (h : MAt w mb m) (fr en : Nat) (p : Option Addr) (l c : Nat) (its : List It) (q : Option Addr) (f g : Nat) (gs : List PGap) (last : Bool) : ∃ w', (storeVar 35 ⟨mb, 13, none⟩ (.agg #[.int .u64 fr, .int .u64 en, .slice p l c, .slice q f g, .bool last])).run Tryz.prog w = .ok () w' ∧ MAt w' mb { m with pg := ⟨fr, en, .slice p l c, its, .slice q f g, gs, last⟩ } ∧ Keeps (fun k => k = mb) w w' :=
 store_cells h _ (by simp [Ms.cells]) (by kernel_rfl) (by simp [Value.oneCell']) (by simp [Ms.cells, putRange])
theorem store_msg {w : World} {mb : Nat} {m : Ms} (h : MAt w mb m) (m' : Ms) (h1 : m'.cells.toArray.all (·.oneCell') = true) : ∃ w', (storeVar 44 ⟨mb, 0, none⟩ (.agg m'.cells.toArray)).run Tryz.prog w = .ok () w' ∧ MAt w' mb m' ∧ Keeps (fun k => k = mb) w w' :=
 store_cells h _ (by simp [Ms.cells]) (by simp only [Ms.cells, List.size_toArray]; kernel_rfl) h1 (putRange_whole (by simp [Ms.cells]))
theorem MsO.one {w : World} {B : Nat} {m : Ms} (h : MsO w B m) : m.cells.toArray.all (·.oneCell') = true := by
 obtain ⟨p1, c1, e1, _, _⟩ := (h.1.1.1.sees (fun _ => rfl) (by decide)).len
 obtain ⟨p2, c2, e2, _, _⟩ := (h.2.1.1.sees (fun _ => rfl) (by decide)).len
 obtain ⟨p3, c3, e3, _, _⟩ := (h.2.2.1.1.1.1.sees (fun _ => rfl) (by decide)).len
 obtain ⟨p4, c4, e4, _, _⟩ := (h.2.2.1.1.2.sees (fun _ => rfl) (by decide)).len
 simp [Ms.cells, e1, e2, e3, e4, Value.oneCell']
def TakM (b : List UInt8) (w : World) (e : Ending) (w' : World) : Prop :=
 ∃ (m : Ms) (z : Int), e = .returned (.tuple #[.agg m.cells.toArray, .int .i64 z]) ∧ Old w w' ∧ MsO w' w.heap.size m ∧ ((takeM b = some m.plain ∧ z = 0) ∨ (takeM b = none ∧ m = zeroMs ∧ z = 5))
end
end Go.Proofs.YtpjpimahnnekkaaGreat
