/- DERIVED. What a policy asks for: the closures of retain.Tail. -/
import Derived.Test.YtpehpidlcdfhcaaRt
import Derived.Test.YtpehpidlcdfhcaaRm
import Derived.Deep.RegionWith
namespace Go.Proofs.Ytpehpidlcdfhcaa
open Go.RowKit

def ageN (time now : Nat) : Nat := if now < time then 0 else now - time

theorem age_any (x : It) (now : Nat) (w : World) (ht : x.time < 18446744073709551616) (hn : now < 18446744073709551616) :
    Calls Try.prog 21 #[.agg x.cells.toArray, .int .u64 now] w fun e w' => e = .returned (.int .u64 (ageN x.time now : Nat)) ∧ Old w w' := by
  obtain ⟨n, t, key, av, es⟩ := x
  unfold It.cells
  simp only at ht ⊢
  by_cases h : now < t
  · go_enter Try.func21, Try.ntmps21
    go_wp2_with fail
    go_ret
    exact ⟨ret_int (by unfold ageN; rw [if_pos h]; rfl), (Keeps.refl _ _).alloc _⟩
  · go_enter Try.func21, Try.ntmps21
    go_wp2_with fail
    go_ret
    exact ⟨ret_int (by unfold ageN; rw [if_neg h]; omega), (Keeps.refl _ _).alloc _⟩

/-- older than the policy lets be -/
def bad1 (p : Pol) (now : Nat) (x : It) : Bool := decide (0 < p.age) && decide (p.age < (ageN x.time now : Int))

set_option maxRecDepth 100000 in
theorem tail1_any (x : It) (p : Pol) (now pb nb : Nat) (w : World) (ht : x.time < 18446744073709551616) (hn : now < 18446744073709551616) (hp : p.age ≤ 1099511627776)
    (h1 : w.heap[pb]? = some (.cells p.cells 23 (0, 0))) (h2 : w.heap[nb]? = some (.cells #[.int .u64 now] 24 (0, 0))) :
    Calls Try.prog 20 #[.agg x.cells.toArray, .pointer (some ⟨pb, 0, none⟩), .pointer (some ⟨nb, 0, none⟩)] w fun e w' => e = .returned (.bool (bad1 p now x)) ∧ Old w w' := by
  have A := fun W => age_any x now W ht hn
  obtain ⟨n, t, key, av, es⟩ := x
  obtain ⟨pa, pby, pc⟩ := p
  unfold It.cells at A ⊢
  unfold Pol.cells at h1
  unfold bad1
  simp only at ht A h1 hp ⊢
  generalize hW0 : w.alloc (.cells #[.int .u64 n, .int .u64 t, .string key, av] 40) = W0
  have k0 : Old w W0 := by rw [← hW0]; exact (Keeps.refl _ _).alloc _
  have hb0 : W0.heap[w.heap.size]? = some (.cells #[.int .u64 n, .int .u64 t, .string key, av] 40 (0, 0)) := by rw [← hW0]; exact heap_alloc_new _ _
  have g1 := (k0.block _ (lt_of_heap h1) (fun f => f)).trans h1
  have g2 := (k0.block _ (lt_of_heap h2) (fun f => f)).trans h2
  have n0 := OldOf.cell (show W0.cell? ⟨w.heap.size, 0, none⟩ = some (.int .u64 n) from by simp [World.cell?, hb0])
  have n1 := OldOf.cell (show W0.cell? ⟨w.heap.size, 1, none⟩ = some (.int .u64 t) from by simp [World.cell?, hb0])
  have n2 := OldOf.cell (show W0.cell? ⟨w.heap.size, 2, none⟩ = some (.string key) from by simp [World.cell?, hb0])
  have n3 := OldOf.cell (show W0.cell? ⟨w.heap.size, 3, none⟩ = some av from by simp [World.cell?, hb0])
  have n4 := OldOf.cell (show W0.cell? ⟨pb, 0, none⟩ = some (.int .i64 pa) from by simp [World.cell?, g1])
  have n5 := OldOf.cell (show W0.cell? ⟨nb, 0, none⟩ = some (.int .u64 now) from by simp [World.cell?, g2])
  have H := Lib.hid k0
  have AA := Lib.hid A
  clear k0 hb0 g1 g2 h1 h2 A
  by_cases ha : 0 < pa
  · obtain ⟨m, rfl⟩ : ∃ m : Nat, pa = (m : Int) := ⟨pa.toNat, by omega⟩
    have hu : IntKind.u64.wrap (m : Int) = (m : Int) := by rw [IntKind.wrap_u64]; omega
    have d : decide (0 < m) = true := by simp; omega
    go_enter Try.func20, Try.ntmps20
    go_wp2_with fail
    refine wp_region_quiet_old (by kernel_rfl) (by kernel_rfl) ?_
    repeat (go_big_quiet_step ((first | (go_at_call 21; exact Calls.quiet_of_old (AA.out _)))))
    refine wpQuiet_nil ?_
    intro _ hpq
    obtain ⟨pq, hpq'⟩ := hpq
    subst hpq'
    go_wp2_with fail
    go_ret
    exact ⟨ret_bool (by rw [Bool.eq_iff_iff]; simp; omega), H.out.trans pq.old⟩
  · have d : decide (0 < pa) = false := by simp; omega
    go_enter Try.func20, Try.ntmps20
    go_wp2_with fail
    refine wp_region_quiet_old (by kernel_rfl) (by kernel_rfl) ?_
    repeat (go_big_quiet_step ((first | (go_at_call 21; exact Calls.quiet_of_old (AA.out _)))))
    refine wpQuiet_nil ?_
    intro _ hpq
    obtain ⟨pq, hpq'⟩ := hpq
    subst hpq'
    go_wp2_with fail
    go_ret
    exact ⟨ret_bool (by simp; omega), H.out.trans pq.old⟩

/-- more bytes than the policy lets be -/
def bad2 (p : Pol) (y : Nat) : Bool := decide (0 < p.bytes) && decide (p.bytes < (y : Int))
/-- more items than the policy lets be -/
def bad3 (p : Pol) (c : Nat) : Bool := decide (0 < p.count) && decide (p.count < (c : Int))

theorem set_one {w : World} {b : Nat} {v u : Value} {t : TypeId} (h : w.heap[b]? = some (.cells #[v] t (0, 0))) : (w.setCell ⟨b, 0, none⟩ u).heap[b]? = some (.cells #[u] t (0, 0)) := by
  have h' := heap_setCell_same w b 0 _ _ u h
  simpa using h'

set_option maxRecDepth 100000 in
set_option maxHeartbeats 1000000 in
theorem tail2_any (x : It) (p : Pol) (y yb pb : Nat) (w : World) (hx : x.fine w) (hy : y ≤ 1000000000) (hp : p.bytes ≤ 1099511627776) (hne : pb ≠ yb)
    (h1 : w.heap[pb]? = some (.cells p.cells 23 (0, 0))) (h2 : w.heap[yb]? = some (.cells #[.int .i64 y] 3 (0, 0))) :
    Calls Try.prog 22 #[.agg x.cells.toArray, .pointer (some ⟨yb, 0, none⟩), .pointer (some ⟨pb, 0, none⟩)] w fun e w' => e = .returned (.bool (bad2 p (y + x.size))) ∧ Keeps (fun k => k = yb) w w' ∧ w'.heap[yb]? = some (.cells #[.int .i64 ((y + x.size : Nat) : Int)] 3 (0, 0)) := by
  have hsz : x.size ≤ 1000 := by have := evSize_le (key := x.key) hx.2.2.1; unfold It.size; omega
  have A := fun W (hW : Old w W) => it_size_any x W (hx.old hW)
  generalize hs : x.size = s at *
  obtain ⟨n, t, key, av, es⟩ := x
  obtain ⟨pa, pby, pc⟩ := p
  unfold It.cells at A ⊢
  unfold Pol.cells at h1
  unfold bad2
  simp only at A h1 hp ⊢
  generalize hW0 : w.alloc (.cells #[.int .u64 n, .int .u64 t, .string key, av] 40) = W0
  have k0 : Old w W0 := by rw [← hW0]; exact (Keeps.refl _ _).alloc _
  have hb0 : W0.heap[w.heap.size]? = some (.cells #[.int .u64 n, .int .u64 t, .string key, av] 40 (0, 0)) := by rw [← hW0]; exact heap_alloc_new _ _
  have g1 := (k0.block _ (lt_of_heap h1) (fun f => f)).trans h1
  have g2 := (k0.block _ (lt_of_heap h2) (fun f => f)).trans h2
  have n0 : W0.cell? ⟨w.heap.size, 0, none⟩ = some (.int .u64 n) := by simp [World.cell?, hb0]
  have n1 : W0.cell? ⟨w.heap.size, 1, none⟩ = some (.int .u64 t) := by simp [World.cell?, hb0]
  have n2 : W0.cell? ⟨w.heap.size, 2, none⟩ = some (.string key) := by simp [World.cell?, hb0]
  have n3 : W0.cell? ⟨w.heap.size, 3, none⟩ = some av := by simp [World.cell?, hb0]
  have n5 : W0.cell? ⟨yb, 0, none⟩ = some (.int .i64 y) := by simp [World.cell?, g2]
  have hyw : yb < w.heap.size := lt_of_heap h2
  have H := Lib.hid (And.intro k0 (And.intro hb0 (And.intro g1 g2)))
  have AA := Lib.hid A
  clear k0 hb0 g1 g2 h1 h2 A hx
  have hsum : IntKind.i64.wrap ((y : Int) + (s : Int)) = (y : Int) + (s : Int) := by rw [IntKind.wrap_i64]; omega
  by_cases hb : 0 < pby
  · obtain ⟨m, rfl⟩ : ∃ m : Nat, pby = (m : Int) := ⟨pby.toNat, by omega⟩
    have d : decide (0 < m) = true := by simp; omega
    go_enter Try.func22, Try.ntmps22
    go_wp2_with fail
    go_region_with (first | (go_at_call 13; (with_reducible refine (AA.out _ H.out.1.drew).mono ?_); rintro e w1 ⟨rfl, hk1⟩; have b1 := (hk1.block yb (lt_of_heap H.out.2.2.2) (fun f => f)).trans H.out.2.2.2; have b2 := (hk1.block pb (lt_of_heap H.out.2.2.1) (fun f => f)).trans H.out.2.2.1; have q0 : w1.cell? ⟨yb, 0, none⟩ = some (.int .i64 y) := (by simp [World.cell?, b1]); have q1 : w1.frozen? ⟨yb, 0, none⟩ = false := (by simp [World.frozen?, b1])))
    all_goals have b3 : (w1.setCell ⟨yb, 0, none⟩ (.int .i64 ((y : Int) + (s : Int)))).heap[pb]? = some (.cells #[.int .i64 pa, .int .i64 m, .int .i64 pc] 23 (0, 0)) := (heap_setCell_other _ _ _ _ hne).trans b2
    all_goals have r1 : (w1.setCell ⟨yb, 0, none⟩ (.int .i64 ((y : Int) + (s : Int)))).cell? ⟨pb, 1, none⟩ = some (.int .i64 m) := by simp [World.cell?, b3]
    all_goals have b4 := set_one (u := .int .i64 ((y : Int) + (s : Int))) b1
    all_goals have r2 : (w1.setCell ⟨yb, 0, none⟩ (.int .i64 ((y : Int) + (s : Int)))).cell? ⟨yb, 0, none⟩ = some (.int .i64 ((y : Int) + (s : Int))) := by simp [World.cell?, b4]
    all_goals have K := Lib.hid (((H.out.1.drew.trans hk1).weaken (T := fun k => k = yb) (fun _ _ f => f.elim)).setCell (p := ⟨yb, 0, none⟩) (fun _ => rfl) (.int .i64 ((y : Int) + (s : Int))))
    all_goals have B4 := Lib.hid b4
    all_goals clear b4 b3 b2 b1 hk1 q0 q1
    all_goals go_wp2_with fail
    all_goals go_ret
    all_goals refine ⟨ret_bool ?_, K.out, by rw [B4.out]; simp⟩
    all_goals rw [Bool.eq_iff_iff]
    all_goals simp
    all_goals omega
  · have d : decide (0 < pby) = false := by simp; omega
    go_enter Try.func22, Try.ntmps22
    go_wp2_with fail
    go_region_with (first | (go_at_call 13; (with_reducible refine (AA.out _ H.out.1.drew).mono ?_); rintro e w1 ⟨rfl, hk1⟩; have b1 := (hk1.block yb (lt_of_heap H.out.2.2.2) (fun f => f)).trans H.out.2.2.2; have b2 := (hk1.block pb (lt_of_heap H.out.2.2.1) (fun f => f)).trans H.out.2.2.1; have q0 : w1.cell? ⟨yb, 0, none⟩ = some (.int .i64 y) := (by simp [World.cell?, b1]); have q1 : w1.frozen? ⟨yb, 0, none⟩ = false := (by simp [World.frozen?, b1])))
    all_goals have b3 : (w1.setCell ⟨yb, 0, none⟩ (.int .i64 ((y : Int) + (s : Int)))).heap[pb]? = some (.cells #[.int .i64 pa, .int .i64 pby, .int .i64 pc] 23 (0, 0)) := (heap_setCell_other _ _ _ _ hne).trans b2
    all_goals have r1 : (w1.setCell ⟨yb, 0, none⟩ (.int .i64 ((y : Int) + (s : Int)))).cell? ⟨pb, 1, none⟩ = some (.int .i64 pby) := by simp [World.cell?, b3]
    all_goals have b4 := set_one (u := .int .i64 ((y : Int) + (s : Int))) b1
    all_goals have r2 : (w1.setCell ⟨yb, 0, none⟩ (.int .i64 ((y : Int) + (s : Int)))).cell? ⟨yb, 0, none⟩ = some (.int .i64 ((y : Int) + (s : Int))) := by simp [World.cell?, b4]
    all_goals have K := Lib.hid (((H.out.1.drew.trans hk1).weaken (T := fun k => k = yb) (fun _ _ f => f.elim)).setCell (p := ⟨yb, 0, none⟩) (fun _ => rfl) (.int .i64 ((y : Int) + (s : Int))))
    all_goals have B4 := Lib.hid b4
    all_goals clear b4 b3 b2 b1 hk1 q0 q1
    all_goals go_wp2_with fail
    all_goals go_ret
    all_goals refine ⟨ret_bool ?_, K.out, by rw [B4.out]; simp⟩
    all_goals rw [Bool.eq_iff_iff]
    all_goals simp
    all_goals omega

set_option maxRecDepth 100000 in
theorem tail3_any (x : It) (p : Pol) (c cb pb : Nat) (w : World) (hy : c ≤ 1000000000) (hp : p.count ≤ 1099511627776) (hne : pb ≠ cb)
    (h1 : w.heap[pb]? = some (.cells p.cells 23 (0, 0))) (h2 : w.heap[cb]? = some (.cells #[.int .i64 c] 3 (0, 0))) :
    Calls Try.prog 23 #[.agg x.cells.toArray, .pointer (some ⟨cb, 0, none⟩), .pointer (some ⟨pb, 0, none⟩)] w fun e w' => e = .returned (.bool (bad3 p (c + 1))) ∧ Keeps (fun k => k = cb) w w' ∧ w'.heap[cb]? = some (.cells #[.int .i64 ((c + 1 : Nat) : Int)] 3 (0, 0)) := by
  obtain ⟨n, t, key, av, es⟩ := x
  obtain ⟨pa, pby, pc⟩ := p
  unfold It.cells
  unfold Pol.cells at h1
  unfold bad3
  simp only at h1 hp ⊢
  have hcw : cb < w.heap.size := lt_of_heap h2
  generalize hW0 : w.alloc (.cells #[.int .u64 n, .int .u64 t, .string key, av] 40) = W0
  have k0 : Old w W0 := by rw [← hW0]; exact (Keeps.refl _ _).alloc _
  have g1 := (k0.block _ (lt_of_heap h1) (fun f => f)).trans h1
  have g2 := (k0.block _ (lt_of_heap h2) (fun f => f)).trans h2
  have n5 : W0.cell? ⟨cb, 0, none⟩ = some (.int .i64 c) := by simp [World.cell?, g2]
  have n6 : W0.frozen? ⟨cb, 0, none⟩ = false := by simp [World.frozen?, g2]
  have b3 : (W0.setCell ⟨cb, 0, none⟩ (.int .i64 ((c : Int) + 1))).heap[pb]? = some (.cells #[.int .i64 pa, .int .i64 pby, .int .i64 pc] 23 (0, 0)) := (heap_setCell_other _ _ _ _ hne).trans g1
  have r1 : (W0.setCell ⟨cb, 0, none⟩ (.int .i64 ((c : Int) + 1))).cell? ⟨pb, 2, none⟩ = some (.int .i64 pc) := by simp [World.cell?, b3]
  have b4 := set_one (u := .int .i64 ((c : Int) + 1)) g2
  have r2 : (W0.setCell ⟨cb, 0, none⟩ (.int .i64 ((c : Int) + 1))).cell? ⟨cb, 0, none⟩ = some (.int .i64 ((c : Int) + 1)) := by simp [World.cell?, b4]
  have K := Lib.hid ((k0.weaken (T := fun k => k = cb) (fun _ _ f => f.elim)).setCell (p := ⟨cb, 0, none⟩) (fun _ => rfl) (.int .i64 ((c : Int) + 1)))
  have B4 := Lib.hid b4
  clear b4 b3 g1 g2 h1 h2 k0
  by_cases hb : 0 < pc
  · obtain ⟨m, rfl⟩ : ∃ m : Nat, pc = (m : Int) := ⟨pc.toNat, by omega⟩
    have d : decide (0 < m) = true := by simp; omega
    go_enter Try.func23, Try.ntmps23
    go_wp2_with fail
    go_ret
    refine ⟨ret_bool ?_, K.out, by rw [B4.out]; try simp⟩
    rw [Bool.eq_iff_iff]
    try simp
    try omega
  · have d : decide (0 < pc) = false := by simp; omega
    go_enter Try.func23, Try.ntmps23
    go_wp2_with fail
    go_ret
    refine ⟨ret_bool ?_, K.out, by rw [B4.out]; try simp⟩
    rw [Bool.eq_iff_iff]
    try simp
    try omega

/-- what is asked of an item at its place -/
theorem tail4_any (f : FuncId) (c1 c2 : Value) (R : Ending → World → Prop) (l : List It) (lv : Value) (lb ib j : Nat) (x : It) (w : World)
    (hent : ∀ (args : Array Value) (w : World), (callFunc f args).run Try.prog w = .ok (.enter f args) w) (hR : ∀ e w', R e w' → ∃ b, e = .returned (.bool b))
    (h1 : w.heap[lb]? = some (.cells #[lv] 25 (0, 0))) (h2 : w.heap[ib]? = some (.cells #[.int .i64 j] 3 (0, 0)))
    (hl : SeesR w 4 It.cells lv l) (hx : l[j]? = some x) (hc : Calls Try.prog f #[.agg x.cells.toArray, c1, c2] w R) :
    Calls Try.prog 25 #[.func (.func f) #[] #[c1, c2], .pointer (some ⟨lb, 0, none⟩), .pointer (some ⟨ib, 0, none⟩)] w R := by
  have hjl : j < l.length := (List.getElem?_eq_some_iff.1 hx).1
  obtain ⟨b, o, c, rfl, _, hmx, hcell⟩ := hl.at (by omega)
  have q1 : w.cell? ⟨lb, 0, none⟩ = some (.slice (some ⟨b, o, none⟩) l.length c) := by simp [World.cell?, h1]
  have q2 : w.cell? ⟨ib, 0, none⟩ = some (.int .i64 j) := by simp [World.cell?, h2]
  obtain ⟨n, t, key, av, es⟩ := x
  unfold It.cells at hc
  simp only at hc
  have c0 := hcell j _ hx 0 _ rfl
  have c1' := hcell j _ hx 1 _ rfl
  have c2' := hcell j _ hx 2 _ rfl
  have c3' := hcell j _ hx 3 _ rfl
  simp only [Nat.add_zero] at c0 c1' c2' c3'
  have C := Lib.hid hc
  have HR := Lib.hid hR
  clear hcell hx hc hR h1 h2 hl hmx
  go_enter Try.func25, Try.ntmps25
  go_wp2_with fail
  refine C.out.mono ?_
  intro e w' hr
  obtain ⟨bb, rfl⟩ := HR.out e w' hr
  have X := Lib.hid hr
  clear hr
  go_wp2_with fail
  exact X.out

/-- which of some functions says yes -/
def IxPost (n : Nat) (bad : Nat → Bool) (St : Nat → World → Prop) (Sp : World → Prop) (e : Ending) (w' : World) : Prop :=
  ∃ i : Int, e = .returned (.int .i64 i) ∧ ((i < 0 ∧ St n w' ∧ ∀ k, k < n → bad k = false) ∨ (0 ≤ i ∧ Sp w' ∧ ∃ k, k < n ∧ bad k = true))

theorem index_f_any (rb : Nat) (fs : List Value) (c1 c2 : Value) (bad : Nat → Bool) (St : Nat → World → Prop) (Sp : World → Prop) (w : World) (h0 : St 0 w) (hn : fs.length ≤ 1000)
    (hmem : ∀ k W, St k W → W.heap[rb]? = some (.cells fs.toArray 49 (0, 0)))
    (hcb : ∀ k W f, St k W → fs[k]? = some f → Calls Try.prog 25 #[f, c1, c2] W fun e W' => e = .returned (.bool (bad k)) ∧ (bad k = false → St (k + 1) W') ∧ (bad k = true → Sp W')) :
    Calls Try.prog 32 #[.slice (some ⟨rb, 0, none⟩) fs.length fs.length, .func (.func 25) #[] #[c1, c2]] w (IxPost fs.length bad St Sp) := by
  have HC := Lib.hid hcb
  have HM := Lib.hid hmem
  have H0 := Lib.hid h0
  clear hcb hmem h0
  go_enter Try.func32, Try.ntmps32
  go_wp2_with fail
  go_loopw [8] (fun v8 wr => ∃ k : Nat, k ≤ fs.length ∧ v8 = .int .i64 k ∧ St k wr ∧ ∀ j, j < k → bad j = false) (fun v8 _ => fs.length - (intOf v8).toNat)
  case atStart => exact ⟨0, by omega, rfl, H0.out, fun j hj => by omega⟩
  case round =>
    obtain ⟨k, hk, rfl, hst, hb⟩ := hrel
    have HB := Lib.hid hb
    by_cases hlt : k < fs.length
    · have hf : fs[k]? = some fs[k] := List.getElem?_eq_getElem hlt
      generalize fs[k] = f at hf
      have q : wr.cell? ⟨rb, k, none⟩ = some f := by rw [cell_of_row wr rb k _ _ _ (HM.out k wr hst)]; simpa using hf
      have C := Lib.hid (HC.out k wr f hst hf)
      have HF := Lib.hid hf
      clear hf hst hb
      go_wp2_with fail
      refine C.out.mono ?_
      rintro e w1 ⟨rfl, h1, h2⟩
      have X := Lib.hid (And.intro h1 h2)
      clear h1 h2
      cases hbk : bad k
      · have HK := Lib.hid hbk
        clear hbk
        go_wp2_with fail
        go_roundw
        case rel => exact ⟨k + 1, by omega, by go_num, X.out.1 HK.out, fun j hj => by rcases Nat.lt_or_ge j k with h | h; exact HB.out j h; (obtain rfl : j = k := by omega); exact HK.out⟩
        case measure => simp [intOf]; omega
      · have HK := Lib.hid hbk
        clear hbk
        go_wp2_with fail
        go_ret
        exact ⟨k, rfl, .inr ⟨by omega, X.out.2 HK.out, k, hlt, HK.out⟩⟩
    · have hkn : k = fs.length := by omega
      have X := Lib.hid (And.intro hkn hst)
      clear hst hb hkn
      go_wp2_with fail
      go_ret
      exact ⟨-1, rfl, .inl ⟨by omega, X.out.1 ▸ X.out.2, fun j hj => HB.out j (by have := X.out.1; omega)⟩⟩

/-- does one of some functions say yes? -/
def CfPost (n : Nat) (bad : Nat → Bool) (St : Nat → World → Prop) (Sp : World → Prop) (e : Ending) (w' : World) : Prop :=
  (e = .returned (.bool false) ∧ St n w' ∧ ∀ k, k < n → bad k = false) ∨ (e = .returned (.bool true) ∧ Sp w' ∧ ∃ k, k < n ∧ bad k = true)
theorem contains_f_any (rb : Nat) (fs : List Value) (c1 c2 : Value) (bad : Nat → Bool) (St : Nat → World → Prop) (Sp : World → Prop) (w : World) (h0 : St 0 w) (hn : fs.length ≤ 1000)
    (hmem : ∀ k W, St k W → W.heap[rb]? = some (.cells fs.toArray 49 (0, 0)))
    (hcb : ∀ k W f, St k W → fs[k]? = some f → Calls Try.prog 25 #[f, c1, c2] W fun e W' => e = .returned (.bool (bad k)) ∧ (bad k = false → St (k + 1) W') ∧ (bad k = true → Sp W')) :
    Calls Try.prog 24 #[.slice (some ⟨rb, 0, none⟩) fs.length fs.length, .func (.func 25) #[] #[c1, c2]] w (CfPost fs.length bad St Sp) := by
  have C := Lib.hid (index_f_any rb fs c1 c2 bad St Sp w h0 hn hmem hcb)
  clear hcb hmem h0
  go_enter Try.func24, Try.ntmps24
  go_wp2_with fail
  refine C.out.mono ?_
  rintro e w1 ⟨i, rfl, h | h⟩
  · have X := Lib.hid h.2
    have hi := h.1
    clear h
    have d : decide (i ≥ 0) = false := by simp; omega
    go_wp2_with fail
    go_ret
    exact .inl ⟨rfl, X.out⟩
  · have X := Lib.hid h.2
    have hi := h.1
    clear h
    have d : decide (i ≥ 0) = true := by simp; omega
    go_wp2_with fail
    go_ret
    exact .inr ⟨rfl, X.out⟩
end Go.Proofs.Ytpehpidlcdfhcaa
