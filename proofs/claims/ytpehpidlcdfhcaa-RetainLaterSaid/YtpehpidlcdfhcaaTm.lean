/- DERIVED. retain.Tail. -/
import Derived.Test.YtpehpidlcdfhcaaTl
import Derived.Laws.EntriesVeiled
namespace Go.Proofs.Ytpehpidlcdfhcaa
open Go.RowKit

def sumFrom (l : List It) (i : Nat) : Nat := ((l.drop i).map It.size).sum
/-- is the tail from j on refused, all later ones being let? -/
def badAt (p : Pol) (now : Nat) (l : List It) (j : Nat) : Bool :=
  match l[j]? with
  | none => false
  | some x => bad1 p now x || (bad2 p (sumFrom l j) || bad3 p (l.length - j))
def tailFrom (p : Pol) (now : Nat) (l : List It) : Nat → Nat
  | 0 => 0
  | k + 1 => if badAt p now l k then k + 1 else tailFrom p now l k
/-- the least place from which on the tail is let -/
def tailN (p : Pol) (now : Nat) (l : List It) : Nat := tailFrom p now l l.length
theorem sumFrom_succ {l : List It} {j : Nat} {x : It} (h : l[j]? = some x) : sumFrom l j = sumFrom l (j + 1) + x.size := by
  have hj := (List.getElem?_eq_some_iff.1 h)
  obtain ⟨hl, he⟩ := hj
  unfold sumFrom
  rw [List.drop_eq_getElem_cons hl, he]
  simp; omega
theorem it_size_le {x : It} (h : Fits x.es) : x.size ≤ 1000 := by have := evSize_le (key := x.key) h; unfold It.size; omega
theorem sumFrom_le {l : List It} (h : ∀ x ∈ l, Fits x.es) (j : Nat) : sumFrom l j ≤ 1000 * l.length := by
  unfold sumFrom
  have : ∀ m : List It, (∀ x ∈ m, Fits x.es) → (m.map It.size).sum ≤ 1000 * m.length := by
    intro m
    induction m with
    | nil => intro _; simp
    | cons x r ih =>
      intro hm
      have h1 := it_size_le (hm x (by simp))
      have h2 := ih (fun y hy => hm y (by simp [hy]))
      simp only [List.map_cons, List.sum_cons, List.length_cons]
      omega
  have h1 := this (l.drop j) (fun x hx => h x (List.mem_of_mem_drop hx))
  have h2 : (l.drop j).length ≤ l.length := by simp
  omega

/-- the items l lie at lv -/
def Items (w : World) (lv : Value) (l : List It) : Prop := SeesR w 4 It.cells lv l ∧ ∀ x ∈ l, x.fine w
theorem Items.old {w w' : World} {lv : Value} {l : List It} (h : Items w lv l) (hk : Old w w') : Items w' lv l := ⟨h.1.old hk, fun x hx => (h.2 x hx).old hk⟩

def F1 (pb nb : Nat) : Value := .func (.func 20) #[] #[.pointer (some ⟨pb, 0, none⟩), .pointer (some ⟨nb, 0, none⟩)]
def F2 (yb pb : Nat) : Value := .func (.func 22) #[] #[.pointer (some ⟨yb, 0, none⟩), .pointer (some ⟨pb, 0, none⟩)]
def F3 (cb pb : Nat) : Value := .func (.func 23) #[] #[.pointer (some ⟨cb, 0, none⟩), .pointer (some ⟨pb, 0, none⟩)]

/-- what retain.Tail keeps, at its own blocks -/
def TB (w0 : World) (n0 n1 ib : Nat) (p : Pol) (now : Nat) (lv : Value) (y c : Nat) (iv : Int) (W : World) : Prop :=
  Old w0 W ∧ W.heap[n0]? = some (.cells p.cells 23 (0, 0)) ∧ W.heap[n0 + 1]? = some (.cells #[.int .u64 now] 24 (0, 0)) ∧ W.heap[n0 + 1 + 1]? = some (.cells #[lv] 25 (0, 0)) ∧
  W.heap[n1]? = some (.cells #[.int .i64 y] 3 (0, 0)) ∧ W.heap[n1 + 1]? = some (.cells #[.int .i64 c] 3 (0, 0)) ∧
  W.heap[n1 + 1 + 1]? = some (.cells [F1 n0 (n0 + 1), F2 n1 n0, F3 (n1 + 1) n0].toArray 49 (0, 0)) ∧ W.heap[ib]? = some (.cells #[.int .i64 iv] 3 (0, 0))
theorem TB.old {w0 W W' : World} {n0 n1 ib : Nat} {p : Pol} {now : Nat} {lv : Value} {y c : Nat} {iv : Int} (h : TB w0 n0 n1 ib p now lv y c iv W) (k : Old W W') : TB w0 n0 n1 ib p now lv y c iv W' := by
  obtain ⟨h0, h1, h2, h3, h4, h5, h6, h7⟩ := h
  have g := fun (b : Nat) (o : Obj) (hb : W.heap[b]? = some o) => (k.block b (lt_of_heap hb) (fun f => f)).trans hb
  exact ⟨h0.trans k, g _ _ h1, g _ _ h2, g _ _ h3, g _ _ h4, g _ _ h5, g _ _ h6, g _ _ h7⟩
theorem TB.sety {w0 W W' : World} {n0 n1 ib : Nat} {p : Pol} {now : Nat} {lv : Value} {y c y' : Nat} {iv : Int} (h : TB w0 n0 n1 ib p now lv y c iv W) (k : Keeps (fun b => b = n1) W W')
    (hy : W'.heap[n1]? = some (.cells #[.int .i64 y'] 3 (0, 0))) (d0 : w0.heap.size ≤ n1) (d1 : n0 + 1 + 1 < n1) (d2 : n1 + 1 + 1 < ib) : TB w0 n0 n1 ib p now lv y' c iv W' := by
  obtain ⟨h0, h1, h2, h3, h4, h5, h6, h7⟩ := h
  have g := fun (b : Nat) (o : Obj) (hb : W.heap[b]? = some o) (hn : b ≠ n1) => (k.block b (lt_of_heap hb) hn).trans hb
  exact ⟨h0.then k (fun i hi e => by have e' : i = n1 := e; omega), g _ _ h1 (by omega), g _ _ h2 (by omega), g _ _ h3 (by omega), hy, g _ _ h5 (by omega), g _ _ h6 (by omega), g _ _ h7 (by omega)⟩
theorem TB.setc {w0 W W' : World} {n0 n1 ib : Nat} {p : Pol} {now : Nat} {lv : Value} {y c c' : Nat} {iv : Int} (h : TB w0 n0 n1 ib p now lv y c iv W) (k : Keeps (fun b => b = n1 + 1) W W')
    (hy : W'.heap[n1 + 1]? = some (.cells #[.int .i64 c'] 3 (0, 0))) (d0 : w0.heap.size ≤ n1) (d1 : n0 + 1 + 1 < n1) (d2 : n1 + 1 + 1 < ib) : TB w0 n0 n1 ib p now lv y c' iv W' := by
  obtain ⟨h0, h1, h2, h3, h4, h5, h6, h7⟩ := h
  have g := fun (b : Nat) (o : Obj) (hb : W.heap[b]? = some o) (hn : b ≠ n1 + 1) => (k.block b (lt_of_heap hb) hn).trans hb
  exact ⟨h0.then k (fun i hi e => by have e' : i = n1 + 1 := e; omega), g _ _ h1 (by omega), g _ _ h2 (by omega), g _ _ h3 (by omega), g _ _ h4 (by omega), hy, g _ _ h6 (by omega), g _ _ h7 (by omega)⟩
theorem TB.newi {w0 W : World} {n0 n1 ib : Nat} {p : Pol} {now : Nat} {lv : Value} {y c : Nat} {iv : Int} (h : TB w0 n0 n1 ib p now lv y c iv W) (iv' : Int) :
    TB w0 n0 n1 W.heap.size p now lv y c iv' (W.alloc (.cells #[.int .i64 iv'] 3)) := by
  obtain ⟨h0, h1, h2, h3, h4, h5, h6, h7⟩ := h
  have g := fun (b : Nat) (o : Obj) (hb : W.heap[b]? = some o) => (heap_alloc_old W (.cells #[.int .i64 iv'] 3) (lt_of_heap hb)).trans hb
  exact ⟨h0.alloc _, g _ _ h1, g _ _ h2, g _ _ h3, g _ _ h4, g _ _ h5, g _ _ h6, heap_alloc_new _ _⟩

/-- which of what is asked refuses -/
def badK (p : Pol) (now : Nat) (l : List It) (j : Nat) (x : It) : Nat → Bool
  | 0 => bad1 p now x
  | 1 => bad2 p (sumFrom l j)
  | _ => bad3 p (l.length - j)
def StK (w0 : World) (n0 n1 ib : Nat) (p : Pol) (now : Nat) (lv : Value) (l : List It) (j : Nat) (k : Nat) (W : World) : Prop :=
  TB w0 n0 n1 ib p now lv (if k < 2 then sumFrom l (j + 1) else sumFrom l j) (if k < 3 then l.length - (j + 1) else l.length - j) (j : Int) W
def SpK (w0 : World) (ib j : Nat) (W : World) : Prop := Old w0 W ∧ W.heap[ib]? = some (.cells #[.int .i64 (j : Int)] 3 (0, 0))

theorem asked_any (w0 : World) (n0 n1 ib : Nat) (p : Pol) (now : Nat) (lv : Value) (l : List It) (j : Nat) (x : It) (hi : Items w0 lv l) (hl : l.length ≤ 1000) (hn : now < 18446744073709551616) (hp : p.ok = true)
    (hx : l[j]? = some x) (d0 : w0.heap.size ≤ n1) (d1 : n0 + 1 + 1 < n1) (d2 : n1 + 1 + 1 < ib) :
    ∀ k W f, StK w0 n0 n1 ib p now lv l j k W → [F1 n0 (n0 + 1), F2 n1 n0, F3 (n1 + 1) n0][k]? = some f →
      Calls Try.prog 25 #[f, .pointer (some ⟨n0 + 1 + 1, 0, none⟩), .pointer (some ⟨ib, 0, none⟩)] W fun e W' => e = .returned (.bool (badK p now l j x k)) ∧ (badK p now l j x k = false → StK w0 n0 n1 ib p now lv l j (k + 1) W') ∧ (badK p now l j x k = true → SpK w0 ib j W') := by
  intro k W f hst hf
  have hjl : j < l.length := (List.getElem?_eq_some_iff.1 hx).1
  have hfit := fun y hy => (hi.2 y hy).2.2.1
  have hs1 := sumFrom_le hfit (j + 1)
  have hs2 := sumFrom_succ hx
  have hpo : (p.age ≤ 1099511627776 ∧ p.bytes ≤ 1099511627776 ∧ p.count ≤ 1099511627776) := by
    unfold Pol.ok limOk at hp; simp at hp; omega
  have st := hst
  unfold StK at st
  have hit := hi.old st.1
  have hxf := hit.2 x (List.mem_of_getElem? hx)
  obtain ⟨h0, h1, h2, h3, h4, h5, h6, h7⟩ := id st
  rcases k with _ | _ | _ | k
  · simp only [List.getElem?_cons_zero, Option.some.injEq] at hf
    subst hf
    refine (tail4_any 20 _ _ (fun e W' => e = .returned (.bool (bad1 p now x)) ∧ Old W W') l lv (n0 + 1 + 1) ib j x W (fun args W => by simp [go_sem, callFunc, Try.func20]; rfl) (fun e w' h => ⟨_, h.1⟩) h3 h7 hit.1 hx
      (tail1_any x p now n0 (n0 + 1) W hxf.2.2.2.2 hn hpo.1 h1 h2)).mono ?_
    rintro e W' ⟨he, hk⟩
    exact ⟨he, fun _ => st.old hk, fun _ => ⟨(st.old hk).1, (st.old hk).2.2.2.2.2.2.2⟩⟩
  · simp only [List.getElem?_cons_succ, List.getElem?_cons_zero, Option.some.injEq] at hf
    subst hf
    refine (tail4_any 22 _ _ (fun e W' => e = .returned (.bool (bad2 p (sumFrom l (j + 1) + x.size))) ∧ Keeps (fun b => b = n1) W W' ∧ W'.heap[n1]? = some (.cells #[.int .i64 ((sumFrom l (j + 1) + x.size : Nat) : Int)] 3 (0, 0))) l lv (n0 + 1 + 1) ib j x W (fun args W => by simp [go_sem, callFunc, Try.func22]; rfl) (fun e w' h => ⟨_, h.1⟩) h3 h7 hit.1 hx
      (tail2_any x p (sumFrom l (j + 1)) n1 n0 W hxf (by omega) hpo.2.1 (by omega) h1 (by simpa using h4))).mono ?_
    rintro e W' ⟨he, hk, hy⟩
    rw [← hs2] at he hy
    have st' := st.sety hk hy d0 d1 d2
    exact ⟨he, fun _ => st', fun _ => ⟨st'.1, st'.2.2.2.2.2.2.2⟩⟩
  · simp only [List.getElem?_cons_succ, List.getElem?_cons_zero, Option.some.injEq] at hf
    subst hf
    have hlj : l.length - (j + 1) + 1 = l.length - j := by omega
    refine (tail4_any 23 _ _ (fun e W' => e = .returned (.bool (bad3 p (l.length - (j + 1) + 1))) ∧ Keeps (fun b => b = n1 + 1) W W' ∧ W'.heap[n1 + 1]? = some (.cells #[.int .i64 ((l.length - (j + 1) + 1 : Nat) : Int)] 3 (0, 0))) l lv (n0 + 1 + 1) ib j x W (fun args W => by simp [go_sem, callFunc, Try.func23]; rfl) (fun e w' h => ⟨_, h.1⟩) h3 h7 hit.1 hx
      (tail3_any x p (l.length - (j + 1)) (n1 + 1) n0 W (by omega) hpo.2.2 (by omega) h1 (by simpa using h5))).mono ?_
    rintro e W' ⟨he, hk, hy⟩
    rw [hlj] at he hy
    have st' := st.setc hk hy d0 d1 d2
    exact ⟨he, fun _ => st', fun _ => ⟨st'.1, st'.2.2.2.2.2.2.2⟩⟩
  · simp at hf

theorem three_blocks (w : World) (o1 o2 o3 : Obj) : (((w.alloc o1).alloc o2).alloc o3).heap[w.heap.size]? = some o1 ∧ (((w.alloc o1).alloc o2).alloc o3).heap[w.heap.size + 1]? = some o2 ∧ (((w.alloc o1).alloc o2).alloc o3).heap[w.heap.size + 1 + 1]? = some o3 := by
  have h1 := heap_alloc_new w o1
  have h2 := heap_alloc_new (w.alloc o1) o2
  have h3 := heap_alloc_new ((w.alloc o1).alloc o2) o3
  have s1 : (w.alloc o1).heap.size = w.heap.size + 1 := by simp
  have s2 : ((w.alloc o1).alloc o2).heap.size = w.heap.size + 1 + 1 := by simp
  rw [s1] at h2
  rw [s2] at h3
  exact ⟨(heap_alloc_old _ _ (by rw [s2]; omega)).trans ((heap_alloc_old _ _ (by rw [s1]; omega)).trans h1), (heap_alloc_old _ _ (by rw [s2]; omega)).trans h2, h3⟩

theorem tail_no_any (p : Pol) (now : Nat) (lv : Value) (l : List It) (w : World) (hi : Items w lv l) (hp : p.ok = false) :
    Calls Try.prog 8 #[.agg p.cells, .int .u64 now, lv] w fun e w' => e = .returned (.tuple #[.int .i64 0, .int .i64 1]) ∧ Old w w' := by
  have M := fun W => pol_any p W
  rw [hp] at M
  obtain ⟨a, b, c⟩ := p
  unfold Pol.cells at M ⊢
  simp only at M ⊢
  have MM := Lib.hid M
  obtain ⟨ad, c', rfl, _, _⟩ := hi.1.len
  clear M hi
  go_enter Try.func8, Try.ntmps8
  go_wp2_with fail
  refine (MM.out _).mono ?_
  rintro e w1 ⟨rfl, hk⟩
  have K := Lib.hid ((((Keeps.refl _ _).alloc _).alloc _).alloc _ |>.trans hk)
  clear hk
  go_wp2_with fail
  go_ret2
  exact ⟨rfl, K.out⟩

set_option maxRecDepth 100000 in
theorem tail_any (p : Pol) (now : Nat) (lv : Value) (l : List It) (w : World) (hi : Items w lv l) (hl : l.length ≤ 1000) (hn : now < 18446744073709551616) (hp : p.ok = true) :
    Calls Try.prog 8 #[.agg p.cells, .int .u64 now, lv] w fun e w' => e = .returned (.tuple #[.int .i64 (tailN p now l : Nat), .int .i64 0]) ∧ Old w w' := by
  have hmf : ∀ (fn : Fn) (first cap : Array Value) (w : World), (Instr.makeFunc fn first cap).run Try.prog w = .ok (.func fn first cap) w := fun _ _ _ _ => rfl
  have M := fun W => pol_any p W
  rw [hp] at M
  obtain ⟨a, b, c⟩ := p
  unfold Pol.cells at M ⊢
  simp only at M ⊢
  have MM := Lib.hid M
  obtain ⟨ad, c', rfl, _, _⟩ := hi.1.len
  generalize hW0 : ((w.alloc (.cells #[.int .i64 a, .int .i64 b, .int .i64 c] 23)).alloc (.cells #[.int .u64 now] 24)).alloc (.cells #[.slice ad l.length c'] 25) = W0
  have k0 : Old w W0 := by rw [← hW0]; exact (((Keeps.refl _ _).alloc _).alloc _).alloc _
  obtain ⟨b0, b1, b2⟩ := three_blocks w (.cells #[.int .i64 a, .int .i64 b, .int .i64 c] 23) (.cells #[.int .u64 now] 24) (.cells #[.slice ad l.length c'] 25)
  rw [hW0] at b0 b1 b2
  have q0 : W0.cell? ⟨w.heap.size, 0, none⟩ = some (.int .i64 a) := by simp [World.cell?, b0]
  have q1 : W0.cell? ⟨w.heap.size, 1, none⟩ = some (.int .i64 b) := by simp [World.cell?, b0]
  have q2 : W0.cell? ⟨w.heap.size, 2, none⟩ = some (.int .i64 c) := by simp [World.cell?, b0]
  have H := Lib.hid (And.intro k0 (And.intro b0 (And.intro b1 b2)))
  clear M k0 b0 b1 b2
  go_enter Try.func8, Try.ntmps8
  go_wp2_with fail
  refine (MM.out _).mono ?_
  rintro e w1 ⟨rfl, hk⟩
  have x0 := (hk.block _ (lt_of_heap H.out.2.1) (fun f => f)).trans H.out.2.1
  have x1 := (hk.block _ (lt_of_heap H.out.2.2.1) (fun f => f)).trans H.out.2.2.1
  have x2 := (hk.block _ (lt_of_heap H.out.2.2.2) (fun f => f)).trans H.out.2.2.2
  have hsz : w.heap.size + 1 + 1 < w1.heap.size := lt_of_heap x2
  obtain ⟨W2, hW2⟩ : ∃ W2, (((w1.alloc (.cells #[.int .i64 0] 3)).alloc (.cells #[.int .i64 0] 3)).alloc (.cells #[F1 w.heap.size (w.heap.size + 1), F2 w1.heap.size w.heap.size, F3 (w1.heap.size + 1) w.heap.size] 49)) = W2 := ⟨_, rfl⟩
  have k2 : Old w1 W2 := by rw [← hW2]; exact (((Keeps.refl _ _).alloc _).alloc _).alloc _
  obtain ⟨z0, z1, z2⟩ := three_blocks w1 (.cells #[.int .i64 0] 3) (.cells #[.int .i64 0] 3) (.cells #[F1 w.heap.size (w.heap.size + 1), F2 w1.heap.size w.heap.size, F3 (w1.heap.size + 1) w.heap.size] 49)
  rw [hW2] at z0 z1 z2
  have u0 := (k2.block _ (lt_of_heap x0) (fun f => f)).trans x0
  have u1 := (k2.block _ (lt_of_heap x1) (fun f => f)).trans x1
  have u2 := (k2.block _ (lt_of_heap x2) (fun f => f)).trans x2
  have y2 : W2.cell? ⟨w.heap.size + 1 + 1, 0, none⟩ = some (.slice ad l.length c') := by simp [World.cell?, u2]
  have hwz : W2.heap.size = w1.heap.size + 1 + 1 + 1 := by rw [← hW2]; simp
  have K2 := H.out.1.trans (hk.trans k2)
  have R := Lib.hid (And.intro K2 (And.intro u0 (And.intro u1 (And.intro u2 (And.intro z0 (And.intro z1 (And.intro z2 hwz)))))))
  unfold F1 F2 F3 at hW2
  clear hk x0 x1 x2 k2 z0 z1 z2 u0 u1 u2 hwz K2 H hW0 q0 q1 q2
  go_wp2_with fail
  go_loopw [11] (fun v11 wr => ∃ k ib : Nat, k ≤ l.length ∧ v11 = .pointer (some ⟨ib, 0, none⟩) ∧ tailN ⟨a, b, c⟩ now l = tailFrom ⟨a, b, c⟩ now l k ∧ w1.heap.size + 1 + 1 < ib ∧
      TB w w.heap.size w1.heap.size ib ⟨a, b, c⟩ now (.slice ad l.length c') (sumFrom l k) (l.length - k) ((k : Int) - 1) wr)
    (fun v11 wr => match v11 with | .pointer (some q) => (intOf ((wr.cell? q).getD (.int .i64 0)) + 1).toNat | _ => 0)
  case atStart =>
    obtain ⟨K2, u0, u1, u2, z0, z1, z2, hwz⟩ := R.out
    refine ⟨l.length, W2.heap.size, Nat.le_refl _, rfl, rfl, by omega, ?_⟩
    exact TB.newi (iv := 0) (ib := w1.heap.size) ⟨K2, u0, u1, u2, by simpa [sumFrom] using z0, by simpa using z1, z2, by simpa using z0⟩ _
  case round =>
    obtain ⟨k, ib, hk, rfl, hN, hib, hTB⟩ := hrel
    have HN := Lib.hid hN
    have hb7 := hTB.2.2.2.2.2.2.2
    rcases k with _ | j
    · have q : wr.cell? ⟨ib, 0, none⟩ = some (.int .i64 (-1)) := by simp [World.cell?, hb7]
      have K := Lib.hid hTB.1
      clear hN hTB hb7
      go_wp2_with fail
      go_ret2
      exact ⟨by rw [HN.out]; rfl, K.out⟩
    · have q : wr.cell? ⟨ib, 0, none⟩ = some (.int .i64 (j : Int)) := by simp [World.cell?, hb7]
      have hx : l[j]? = some l[j] := List.getElem?_eq_getElem (by omega)
      generalize l[j] = x at hx
      have hTB' : StK w w.heap.size w1.heap.size ib ⟨a, b, c⟩ now (.slice ad l.length c') l j 0 wr := by
        unfold StK
        simpa using hTB
      have C := Lib.hid (contains_f_any (w1.heap.size + 1 + 1) [F1 w.heap.size (w.heap.size + 1), F2 w1.heap.size w.heap.size, F3 (w1.heap.size + 1) w.heap.size] (.pointer (some ⟨w.heap.size + 1 + 1, 0, none⟩)) (.pointer (some ⟨ib, 0, none⟩))
        (badK ⟨a, b, c⟩ now l j x) (StK w w.heap.size w1.heap.size ib ⟨a, b, c⟩ now (.slice ad l.length c') l j) (SpK w ib j) wr hTB' (by simp) (fun k W h => h.2.2.2.2.2.2.1)
        (asked_any w w.heap.size w1.heap.size ib ⟨a, b, c⟩ now _ l j x hi hl hn hp hx (by omega) (by omega) hib))
      simp only [List.length_cons, List.length_nil, Nat.zero_add, Nat.reduceAdd] at C
      have HX := Lib.hid hx
      have hbad : badAt ⟨a, b, c⟩ now l j = (badK ⟨a, b, c⟩ now l j x 0 || (badK ⟨a, b, c⟩ now l j x 1 || badK ⟨a, b, c⟩ now l j x 2)) := by unfold badAt; rw [hx]; rfl
      have HB := Lib.hid hbad
      have hj0 : decide ((j : Int) ≥ 0) = true := by simp
      clear hN hTB hTB' hx hbad
      have FR := Lib.hid hb7
      clear hb7
      go_wp2_with fail
      refine C.out.mono ?_
      rintro e w3 (⟨rfl, h3, h4⟩ | ⟨rfl, h3, h4⟩)
      · have st : TB w w.heap.size w1.heap.size ib ⟨a, b, c⟩ now (.slice ad l.length c') (sumFrom l j) (l.length - j) (j : Int) w3 := h3
        have g7 := st.2.2.2.2.2.2.2
        have q3 : w3.cell? ⟨ib, 0, none⟩ = some (.int .i64 (j : Int)) := by simp [World.cell?, g7]
        have S := Lib.hid (And.intro st h4)
        clear h3 h4 st g7
        go_wp2_with fail
        go_roundw
        case rel =>
          obtain ⟨st, h4⟩ := S.out
          refine ⟨j, w3.heap.size, by omega, rfl, ?_, ?_, TB.newi st _⟩
          · rw [HN.out, tailFrom, if_neg (by rw [HB.out, h4 0 (by omega), h4 1 (by omega), h4 2 (by omega)]; simp)]
          · have := lt_of_heap st.2.2.2.2.2.2.1; omega
        case measure => 
          have e0 : (w3.alloc (.cells #[.int .i64 ((j : Int) - 1)] 3)).cell? ⟨w3.heap.size, 0, none⟩ = some (.int .i64 ((j : Int) - 1)) := by rw [World.cell?_alloc_mark]; rfl
          simp only [q, e0, Option.getD_some, intOf]
          omega
      · have g7 := h3.2
        have q3 : w3.cell? ⟨ib, 0, none⟩ = some (.int .i64 (j : Int)) := by simp [World.cell?, g7]
        have S := Lib.hid (And.intro h3.1 h4)
        clear h3 h4 g7 q
        have hjl : (j : Int) + 1 ≤ 1000 := by omega
        go_wp2_with fail
        go_ret2
        obtain ⟨h3, kk, hk3, h4⟩ := S.out
        refine ⟨?_, h3⟩
        rw [HN.out, tailFrom, if_pos (by
          rw [HB.out]
          rcases kk with _ | _ | _ | kk
          · rw [h4]; simp
          · rw [h4]; simp
          · rw [h4]; simp
          · omega)]
        rfl
end Go.Proofs.Ytpehpidlcdfhcaa
