/- DERIVED. RetainLater, walked. -/
import Derived.Test.YtpehpidlcdfhcaaEa
import Derived.Test.YtpehpidlcdfhcaaAp
import Derived.Test.YtpehpidlcdfhcaaWk
import Derived.Deep.DeepCutAuto
import Derived.Deep.RegionHeld3
import Derived.Lib.MinMax
namespace Go.Proofs.Ytpehpidlcdfhcaa
open Go.RowKit

/-- is the operation an append onto nothing (k = 0), onto what a slot holds (k = 1)? -/
def isAppend (k : Nat) : Op → Bool
  | .call c => (match c.callee, c.args.toList with
    | .builtin .append, .const _ :: _ => k == 0
    | .builtin .append, .tmp _ :: _ => k == 1
    | _, _ => false)
  | _ => false
theorem step_guard {P : Program} {w : World} {ops : Array Oper} {o : Oper} {a : Act} {K : Act → World → Prop} {Q : Exit → Act → World → Prop} {G : Prop} (k : Nat) (_ : isAppend k o.op = true)
    (h : if Region.wanted o (yielded ops a.tmps) = true then Oper.wp P o a w K Q else G) : if Region.wanted o (yielded ops a.tmps) = true then Oper.wp P o a w K Q else G := h
theorem strictZ_yes {q s : Int} (h : 0 < q ∧ (s = 0 ∨ q < s)) : strictZ q s = q := if_pos h
theorem strictZ_no {q s : Int} (h : ¬ (0 < q ∧ (s = 0 ∨ q < s))) : strictZ q s = s := if_neg h
/-- the blocks of the parameters -/
def PB (w : World) (n : Nat) (p q : Pol) (x : It) : Prop :=
  w.heap[n]? = some (.cells p.cells 23 (0, 0)) ∧ w.heap[n + 1]? = some (.cells q.cells 23 (0, 0)) ∧ w.heap[n + 1 + 1]? = some (.cells x.cells.toArray 40 (0, 0))
theorem PB.old {w w' : World} {n : Nat} {p q : Pol} {x : It} (h : PB w n p q x) (k : Old w w') : PB w' n p q x :=
  ⟨(k.block _ (lt_of_heap h.1) (fun f => f)).trans h.1, (k.block _ (lt_of_heap h.2.1) (fun f => f)).trans h.2.1, (k.block _ (lt_of_heap h.2.2) (fun f => f)).trans h.2.2⟩
theorem PB.p0 {w : World} {n : Nat} {p q : Pol} {x : It} (h : PB w n p q x) : w.cell? ⟨n, 0, none⟩ = some (.int .i64 p.age) := by simp [World.cell?, h.1, Pol.cells]
theorem PB.p1 {w : World} {n : Nat} {p q : Pol} {x : It} (h : PB w n p q x) : w.cell? ⟨n, 1, none⟩ = some (.int .i64 p.bytes) := by simp [World.cell?, h.1, Pol.cells]
theorem PB.p2 {w : World} {n : Nat} {p q : Pol} {x : It} (h : PB w n p q x) : w.cell? ⟨n, 2, none⟩ = some (.int .i64 p.count) := by simp [World.cell?, h.1, Pol.cells]
theorem PB.q0 {w : World} {n : Nat} {p q : Pol} {x : It} (h : PB w n p q x) : w.cell? ⟨n + 1, 0, none⟩ = some (.int .i64 q.age) := by simp [World.cell?, h.2.1, Pol.cells]
theorem PB.q1 {w : World} {n : Nat} {p q : Pol} {x : It} (h : PB w n p q x) : w.cell? ⟨n + 1, 1, none⟩ = some (.int .i64 q.bytes) := by simp [World.cell?, h.2.1, Pol.cells]
theorem PB.q2 {w : World} {n : Nat} {p q : Pol} {x : It} (h : PB w n p q x) : w.cell? ⟨n + 1, 2, none⟩ = some (.int .i64 q.count) := by simp [World.cell?, h.2.1, Pol.cells]
theorem PB.x0 {w : World} {n : Nat} {p q : Pol} {x : It} (h : PB w n p q x) : w.cell? ⟨n + 1 + 1, 0, none⟩ = some (.int .u64 x.n) := by simp [World.cell?, h.2.2, It.cells]
theorem PB.x1 {w : World} {n : Nat} {p q : Pol} {x : It} (h : PB w n p q x) : w.cell? ⟨n + 1 + 1, 1, none⟩ = some (.int .u64 x.time) := by simp [World.cell?, h.2.2, It.cells]
theorem PB.x2 {w : World} {n : Nat} {p q : Pol} {x : It} (h : PB w n p q x) : w.cell? ⟨n + 1 + 1, 2, none⟩ = some (.string x.key) := by simp [World.cell?, h.2.2, It.cells]
theorem PB.x3 {w : World} {n : Nat} {p q : Pol} {x : It} (h : PB w n p q x) : w.cell? ⟨n + 1 + 1, 3, none⟩ = some x.av := by simp [World.cell?, h.2.2, It.cells]
theorem pb_mk (w : World) (p q : Pol) (x : It) : PB (((w.alloc (.cells p.cells 23)).alloc (.cells q.cells 23)).alloc (.cells x.cells.toArray 40)) w.heap.size p q x := three_blocks w _ _ _
theorem items_snoc {w : World} {v : Value} {m : List It} {x : It} {B : Nat} (h : OwnsI w B v (m ++ [x])) (hm : ∀ y ∈ m, y.fine w) (hx : x.fine w) : Items w v (m ++ [x]) :=
  ⟨h.sees (fun _ => rfl) (by decide), fun y hy => by rcases List.mem_append.1 hy with h | h; exact hm y h; (simp at h; subst h; exact hx)⟩
theorem fine_one {w : World} {x : It} (h : x.fine w) : ∀ c ∈ x.cells, c.oneCell' = true := by
  obtain ⟨p, c, he, _⟩ := h.1.len
  intro u hu
  unfold It.cells at hu
  rw [he] at hu
  simp at hu
  rcases hu with rfl | rfl | rfl | rfl <;> rfl

set_option maxRecDepth 100000 in
set_option maxHeartbeats 1000000 in
theorem later_no (p q : Pol) (now later : Nat) (ad : Option Addr) (c' : Nat) (l m : List It) (x : It) (w : World) (N : Nat) (hN : N ≤ 60) (hNl : N ≤ l.length) (hNm : min (l.length : Int) 60 = (N : Int)) (hmx : l.length ≤ 9223372036854775807) (hlc : l.length ≤ c') (hml : m.length = N) (hi : Items w (.slice ad N c') m) (hx : x.fine w) (hn : now < 18446744073709551616) (hl : later < 18446744073709551616) (hp : p.ok = false ∨ (p.ok = true ∧ q.ok = false)) :
    Calls Try.prog 5 #[.agg p.cells, .agg q.cells, .int .u64 now, .int .u64 later, .slice ad l.length c', .agg x.cells.toArray] w fun e w' => e = .returned (.bool true) ∧ Old w w' := by
  obtain ⟨W0, hW0⟩ : ∃ W0, ((w.alloc (.cells p.cells 23)).alloc (.cells q.cells 23)).alloc (.cells x.cells.toArray 40) = W0 := ⟨_, rfl⟩
  have k0 : Old w W0 := by rw [← hW0]; exact (((Keeps.refl _ _).alloc _).alloc _).alloc _
  have B0 := Lib.hid (show PB W0 w.heap.size p q x from by rw [← hW0]; exact pb_mk w p q x)
  have K0 := Lib.hid k0
  have MP := Lib.hid (fun W => pol_any p W)
  have MQ := Lib.hid (fun W => pol_any q W)
  have WK := Lib.hid (wakes_old w)
  clear k0
  have p0 := B0.out.p0
  have p1 := B0.out.p1
  have p2 := B0.out.p2
  clear hi hx
  have hmp := MP.out
  have hmq := MQ.out
  rcases hp with hp | ⟨hp, hq⟩
  · rw [hp] at hmp
    clear hp
    obtain ⟨a, b, c⟩ := p
    obtain ⟨a2, b2, c2⟩ := q
    obtain ⟨xn, xt, xk, xa, xe⟩ := x
    unfold Pol.cells at hmp hW0 ⊢
    unfold It.cells at hW0 ⊢
    simp only at hmp hW0 p0 p1 p2 ⊢
    have HMP := Lib.hid hmp
    clear hmp hmq
    go_enter Try.func5, Try.ntmps5
    go_wp2_with fail
    refine (HMP.out _).mono ?_
    rintro e w1 ⟨rfl, hk1⟩
    have K1 := Lib.hid (K0.out.trans hk1)
    clear hk1 p0 p1 p2
    go_wp2_with fail
    refine (WK.out _ K1.out).mono ?_
    rintro e w2 ⟨rfl, hk2⟩
    have K2 := Lib.hid (K1.out.trans hk2)
    clear hk2
    go_wp2_with fail
    go_ret
    exact ⟨rfl, K2.out⟩
  · rw [hp] at hmp
    rw [hq] at hmq
    clear hp hq
    obtain ⟨a, b, c⟩ := p
    obtain ⟨a2, b2, c2⟩ := q
    obtain ⟨xn, xt, xk, xa, xe⟩ := x
    unfold Pol.cells at hmp hmq hW0 ⊢
    unfold It.cells at hW0 ⊢
    simp only at hmp hmq hW0 p0 p1 p2 ⊢
    have HMP := Lib.hid hmp
    have HMQ := Lib.hid hmq
    clear hmp hmq
    go_enter Try.func5, Try.ntmps5
    go_wp2_with fail
    refine (HMP.out _).mono ?_
    rintro e w1 ⟨rfl, hk1⟩
    have B1 := Lib.hid (B0.out.old hk1)
    have q0 := B1.out.q0
    have q1 := B1.out.q1
    have q2 := B1.out.q2
    simp only at q0 q1 q2
    have K1 := Lib.hid (K0.out.trans hk1)
    clear hk1 p0 p1 p2
    go_wp2_with fail
    refine (HMQ.out _).mono ?_
    rintro e w2 ⟨rfl, hk2⟩
    have K2 := Lib.hid (K1.out.trans hk2)
    clear hk2 q0 q1 q2
    go_wp2_with fail
    refine (WK.out _ K2.out).mono ?_
    rintro e w3 ⟨rfl, hk3⟩
    have K3 := Lib.hid (K2.out.trans hk3)
    clear hk3
    go_wp2_with fail
    go_ret
    exact ⟨rfl, K3.out⟩

set_option maxRecDepth 100000 in
set_option maxHeartbeats 4000000 in
theorem later_yes (p q : Pol) (now later : Nat) (ad : Option Addr) (c' : Nat) (l m : List It) (x : It) (w : World) (N : Nat) (hN : N ≤ 60) (hNl : N ≤ l.length) (hNm : min (l.length : Int) 60 = (N : Int)) (hmx : l.length ≤ 9223372036854775807) (hlc : l.length ≤ c') (hml : m.length = N) (hi : Items w (.slice ad N c') m) (hx : x.fine w) (hn : now < 18446744073709551616) (hl : later < 18446744073709551616) (hp : p.ok = true) (hq : q.ok = true) (lo hi' : Nat) (hlo : min (now : Int) (later : Int) = (lo : Int)) (hhi : max (now : Int) (later : Int) = (hi' : Int)) :
    Calls Try.prog 5 #[.agg p.cells, .agg q.cells, .int .u64 now, .int .u64 later, .slice ad l.length c', .agg x.cells.toArray] w fun e w' => e = .returned (.bool true) ∧ Old w w' := by
  obtain ⟨W0, hW0⟩ : ∃ W0, ((w.alloc (.cells p.cells 23)).alloc (.cells q.cells 23)).alloc (.cells x.cells.toArray 40) = W0 := ⟨_, rfl⟩
  have k0 : Old w W0 := by rw [← hW0]; exact (((Keeps.refl _ _).alloc _).alloc _).alloc _
  have B0 := Lib.hid (show PB W0 w.heap.size p q x from by rw [← hW0]; exact pb_mk w p q x)
  have K0 := Lib.hid k0
  have MP := Lib.hid (fun W => pol_any p W)
  have MQ := Lib.hid (fun W => pol_any q W)
  have WK := Lib.hid (wakes_old w)
  clear k0
  have p0 := B0.out.p0
  have p1 := B0.out.p1
  have p2 := B0.out.p2
  have hmp := MP.out
  have hmq := MQ.out
  rw [hp] at hmp
  rw [hq] at hmq
  have hlb : lo < 18446744073709551616 := by omega
  have hhb : hi' < 18446744073709551616 := by omega
  have T1 := fun W (h : Old w W) => tail_any p lo _ m W (hi.old h) (by omega) hlb hp
  have T2 := fun W (h : Old w W) => tail_any p hi' _ m W (hi.old h) (by omega) hhb hp
  have T3 := fun W (h : Old w W) => tail_any (strictP q p) lo _ m W (hi.old h) (by omega) hlb (strict_ok hp hq)
  have T4 := fun W (h : Old w W) => tail_any q lo _ m W (hi.old h) (by omega) hlb hq
  have T5 := fun v W (h : Items W v (m ++ [x])) => tail_any p lo v (m ++ [x]) W h (by simp; omega) hlb hp
  have z1 := later_time p (show lo ≤ hi' from by omega) m
  have z2 := later_strict hp hq lo m
  have z3 := later_more p lo m x
  rw [z2] at T3
  have hpp := pol_parts hp
  have hqq := pol_parts hq
  clear hp hq z2
  generalize tailN p lo m = t1 at *
  generalize tailN p hi' m = t2 at *
  generalize tailN q lo m = t4 at *
  generalize tailN p lo (m ++ [x]) = t5 at *
  have HI := Lib.hid (And.intro hi (And.intro hx hml))
  have HON := Lib.hid (fun y (hy : y ∈ m) => fine_one (hi.2 y hy))
  have FX := Lib.hid (fine_one hx)
  have hmb : m.length ≤ 60 := by omega
  obtain ⟨a, b, c⟩ := p
  obtain ⟨a2, b2, c2⟩ := q
  unfold strictP at T3
  unfold Pol.cells at hmp hmq hW0 T1 T2 T3 T4 T5 ⊢
  simp only at hmp hmq hW0 T1 T2 T3 T4 T5 p0 p1 p2 hpp hqq ⊢
  have HMP := Lib.hid hmp
  have HMQ := Lib.hid hmq
  have H1 := Lib.hid T1
  have H2 := Lib.hid T2
  have H3 := Lib.hid T3
  have H4 := Lib.hid T4
  have H5 := Lib.hid T5
  have HC := Lib.hid (show x.cells = [.int .u64 x.n, .int .u64 x.time, .string x.key, x.av] from rfl)
  have HW := Lib.hid hW0
  have hag : (Value.agg x.cells.toArray) = .agg #[.int .u64 x.n, .int .u64 x.time, .string x.key, x.av] := rfl
  rw [hag]
  have hW1 : ((w.alloc (.cells #[.int .i64 a, .int .i64 b, .int .i64 c] 23)).alloc (.cells #[.int .i64 a2, .int .i64 b2, .int .i64 c2] 23)).alloc (.cells #[.int .u64 x.n, .int .u64 x.time, .string x.key, x.av] 40) = W0 := hW0
  clear hmp hmq T1 T2 T3 T4 T5 hi hml hag hW0
  go_enter Try.func5, Try.ntmps5
  go_wp2_with fail
  refine (HMP.out _).mono ?_
  rintro e w1 ⟨rfl, hk1⟩
  have B1 := Lib.hid (B0.out.old hk1)
  have q0 := B1.out.q0
  have q1 := B1.out.q1
  have q2 := B1.out.q2
  simp only at q0 q1 q2
  have K1 := Lib.hid (K0.out.trans hk1)
  clear hk1 p0 p1 p2
  go_wp2_with fail
  refine (HMQ.out _).mono ?_
  rintro e w2 ⟨rfl, hk2⟩
  have B2 := Lib.hid (B1.out.old hk2)
  have K2 := Lib.hid (K1.out.trans hk2)
  have p0 := B2.out.p0
  have p1 := B2.out.p1
  have p2 := B2.out.p2
  simp only at p0 p1 p2
  clear hk2 q0 q1 q2 HMP HMQ MP MQ
  go_wp2_with fail
  refine (H1.out _ K2.out).mono ?_
  rintro e w3 ⟨rfl, hk3⟩
  have B3 := Lib.hid (B2.out.old hk3)
  have K3 := Lib.hid (K2.out.trans hk3)
  clear p0 p1 p2 hk3 H1
  have p0 := B3.out.p0
  have p1 := B3.out.p1
  have p2 := B3.out.p2
  simp only at p0 p1 p2
  go_wp2_with fail
  refine (H2.out _ K3.out).mono ?_
  rintro e w4 ⟨rfl, hk4⟩
  have B4 := Lib.hid (B3.out.old hk4)
  have K4 := Lib.hid (K3.out.trans hk4)
  clear p0 p1 p2 hk4 H2
  have p0 := B4.out.p0
  have p1 := B4.out.p1
  have p2 := B4.out.p2
  simp only at p0 p1 p2
  obtain ⟨w5, hw5⟩ : ∃ w5, w4.alloc (.cells #[.int .i64 a, .int .i64 b, .int .i64 c] 23) = w5 := ⟨_, rfl⟩
  have B5 := Lib.hid (B4.out.old (show Old w4 w5 from by rw [← hw5]; exact (Keeps.refl _ _).alloc _))
  have K5 := Lib.hid (K4.out.trans (show Old w4 w5 from by rw [← hw5]; exact (Keeps.refl _ _).alloc _))
  have S5 := Lib.hid (show w5.heap[w4.heap.size]? = some (.cells #[.int .i64 a, .int .i64 b, .int .i64 c] 23 (0, 0)) from by rw [← hw5]; exact heap_alloc_new _ _)
  have hsb := Lib.hid (And.intro K4.out.size (And.intro (lt_of_heap B4.out.2.1) (lt_of_heap B4.out.1)))
  go_upto_region 7 with fail
  obtain ⟨y0, hy0⟩ : ∃ t : Bool, t = decide (0 < a2 ∧ (a = 0 ∨ a2 < a)) := ⟨_, rfl⟩
  have HY0 := Lib.hid hy0
  clear hy0
  go_cut [71] (fun v wx => v = .bool y0 ∧ w5 = wx)
  case first =>
    have q0 := B5.out.q0
    simp only at q0
    have s0 : w5.cell? ⟨w4.heap.size, 0, none⟩ = some (.int .i64 a) := by simp [World.cell?, S5.out]
    by_cases g1 : 0 < a2
    · have d1 : decide (0 < a2) = true := by simp [g1]
      by_cases g2 : a = 0
      · have d2 : (a == 0) = true := by simp [g2]
        have G := Lib.hid (And.intro g1 g2)
        clear g1 g2
        go_wp2_with fail
        go_meet
        exact ⟨by rw [HY0.out, decide_eq_true (by have := G.out; omega)], rfl⟩
      · have d2 : (a == 0) = false := by simp [g2]
        by_cases g3 : a2 < a
        · have d3 : decide (a2 < a) = true := by simp [g3]
          have G := Lib.hid (And.intro g1 g3)
          clear g1 g2 g3
          go_wp2_with fail
          go_meet
          exact ⟨by rw [HY0.out, decide_eq_true (by have := G.out; omega)], rfl⟩
        · have d3 : decide (a2 < a) = false := decide_eq_false g3
          have G := Lib.hid (And.intro g2 g3)
          clear g1 g2 g3
          go_wp2_with fail
          go_meet
          exact ⟨by rw [HY0.out, decide_eq_false (by have := G.out; omega)], rfl⟩
    · have d1 : decide (0 < a2) = false := decide_eq_false g1
      have G := Lib.hid g1
      clear g1
      go_wp2_with fail
      go_meet
      exact ⟨by rw [HY0.out, decide_eq_false (by have := G.out; omega)], rfl⟩
  case rest =>
  obtain ⟨rfl, rfl⟩ := hcut
  go_upto_if 71 with fail
  go_cut [] (fun wx => Old w wx ∧ PB wx w.heap.size ⟨a, b, c⟩ ⟨a2, b2, c2⟩ x ∧ wx.heap[w4.heap.size]? = some (.cells #[.int .i64 (strictZ a2 a), .int .i64 b, .int .i64 c] 23 (0, 0)))
  case first =>
    cases y0
    case true =>
      have hz := Lib.hid (strictZ_yes (of_decide_eq_true HY0.out.symm))
      have q0 := B5.out.q0
      simp only at q0
      have s0 : w5.cell? ⟨w4.heap.size, 0, none⟩ = some (.int .i64 a) := by simp [World.cell?, S5.out]
      have f0 : w5.frozen? ⟨w4.heap.size, 0, none⟩ = false := by simp [World.frozen?, S5.out]
      go_wp2_with fail
      go_meet
      refine ⟨K5.out.setCell (fun h => by have := hsb.out.1; simp only at h; omega) _, ⟨(heap_setCell_other _ _ _ _ (by have := hsb.out.2.2; simp only; omega)).trans B5.out.1, (heap_setCell_other _ _ _ _ (by have := hsb.out.2.1; simp only; omega)).trans B5.out.2.1, (heap_setCell_other _ _ _ _ (by have := lt_of_heap B4.out.2.2; simp only; omega)).trans B5.out.2.2⟩, ?_⟩
      rw [hz.out]
      have hset := heap_setCell_same w5 w4.heap.size 0 _ _ (.int .i64 a2) S5.out
      simpa using hset
    case false =>
      have hz := Lib.hid (strictZ_no (of_decide_eq_false HY0.out.symm))
      go_wp2_with fail
      go_meet
      exact ⟨K5.out, B5.out, by rw [hz.out]; exact S5.out⟩
  case rest =>
  obtain ⟨hka, hkb, hkc⟩ := hcut
  have K6 := Lib.hid hka
  have B6 := Lib.hid hkb
  have S6 := Lib.hid hkc
  clear hka hkb hkc
  rename World => w6
  go_upto_region 9 with fail
  obtain ⟨y1, hy1⟩ : ∃ t : Bool, t = decide (0 < b2 ∧ (b = 0 ∨ b2 < b)) := ⟨_, rfl⟩
  have HY1 := Lib.hid hy1
  clear hy1
  go_cut [89] (fun v wx => v = .bool y1 ∧ w6 = wx)
  case first =>
    have q1 := B6.out.q1
    simp only at q1
    have s1 : w6.cell? ⟨w4.heap.size, 1, none⟩ = some (.int .i64 b) := by simp [World.cell?, S6.out]
    by_cases g1 : 0 < b2
    · have d1 : decide (0 < b2) = true := by simp [g1]
      by_cases g2 : b = 0
      · have d2 : (b == 0) = true := by simp [g2]
        have G := Lib.hid (And.intro g1 g2)
        clear g1 g2
        go_wp2_with fail
        go_meet
        exact ⟨by rw [HY1.out, decide_eq_true (by have := G.out; omega)], rfl⟩
      · have d2 : (b == 0) = false := by simp [g2]
        by_cases g3 : b2 < b
        · have d3 : decide (b2 < b) = true := by simp [g3]
          have G := Lib.hid (And.intro g1 g3)
          clear g1 g2 g3
          go_wp2_with fail
          go_meet
          exact ⟨by rw [HY1.out, decide_eq_true (by have := G.out; omega)], rfl⟩
        · have d3 : decide (b2 < b) = false := decide_eq_false g3
          have G := Lib.hid (And.intro g2 g3)
          clear g1 g2 g3
          go_wp2_with fail
          go_meet
          exact ⟨by rw [HY1.out, decide_eq_false (by have := G.out; omega)], rfl⟩
    · have d1 : decide (0 < b2) = false := decide_eq_false g1
      have G := Lib.hid g1
      clear g1
      go_wp2_with fail
      go_meet
      exact ⟨by rw [HY1.out, decide_eq_false (by have := G.out; omega)], rfl⟩
  case rest =>
  obtain ⟨rfl, rfl⟩ := hcut
  go_upto_if 89 with fail
  go_cut [] (fun wx => Old w wx ∧ PB wx w.heap.size ⟨a, b, c⟩ ⟨a2, b2, c2⟩ x ∧ wx.heap[w4.heap.size]? = some (.cells #[.int .i64 (strictZ a2 a), .int .i64 (strictZ b2 b), .int .i64 c] 23 (0, 0)))
  case first =>
    cases y1
    case true =>
      have hz := Lib.hid (strictZ_yes (of_decide_eq_true HY1.out.symm))
      have q1 := B6.out.q1
      simp only at q1
      have s1 : w6.cell? ⟨w4.heap.size, 1, none⟩ = some (.int .i64 b) := by simp [World.cell?, S6.out]
      have f1 : w6.frozen? ⟨w4.heap.size, 1, none⟩ = false := by simp [World.frozen?, S6.out]
      go_wp2_with fail
      go_meet
      refine ⟨K6.out.setCell (fun h => by have := hsb.out.1; simp only at h; omega) _, ⟨(heap_setCell_other _ _ _ _ (by have := hsb.out.2.2; simp only; omega)).trans B6.out.1, (heap_setCell_other _ _ _ _ (by have := hsb.out.2.1; simp only; omega)).trans B6.out.2.1, (heap_setCell_other _ _ _ _ (by have := lt_of_heap B4.out.2.2; simp only; omega)).trans B6.out.2.2⟩, ?_⟩
      rw [hz.out]
      have hset := heap_setCell_same w6 w4.heap.size 1 _ _ (.int .i64 b2) S6.out
      simpa using hset
    case false =>
      have hz := Lib.hid (strictZ_no (of_decide_eq_false HY1.out.symm))
      go_wp2_with fail
      go_meet
      exact ⟨K6.out, B6.out, by rw [hz.out]; exact S6.out⟩
  case rest =>
  obtain ⟨hka, hkb, hkc⟩ := hcut
  have K7 := Lib.hid hka
  have B7 := Lib.hid hkb
  have S7 := Lib.hid hkc
  clear hka hkb hkc
  rename World => w7
  go_upto_region 11 with fail
  obtain ⟨y2, hy2⟩ : ∃ t : Bool, t = decide (0 < c2 ∧ (c = 0 ∨ c2 < c)) := ⟨_, rfl⟩
  have HY2 := Lib.hid hy2
  clear hy2
  go_cut [107] (fun v wx => v = .bool y2 ∧ w7 = wx)
  case first =>
    have q2 := B7.out.q2
    simp only at q2
    have s2 : w7.cell? ⟨w4.heap.size, 2, none⟩ = some (.int .i64 c) := by simp [World.cell?, S7.out]
    by_cases g1 : 0 < c2
    · have d1 : decide (0 < c2) = true := by simp [g1]
      by_cases g2 : c = 0
      · have d2 : (c == 0) = true := by simp [g2]
        have G := Lib.hid (And.intro g1 g2)
        clear g1 g2
        go_wp2_with fail
        go_meet
        exact ⟨by rw [HY2.out, decide_eq_true (by have := G.out; omega)], rfl⟩
      · have d2 : (c == 0) = false := by simp [g2]
        by_cases g3 : c2 < c
        · have d3 : decide (c2 < c) = true := by simp [g3]
          have G := Lib.hid (And.intro g1 g3)
          clear g1 g2 g3
          go_wp2_with fail
          go_meet
          exact ⟨by rw [HY2.out, decide_eq_true (by have := G.out; omega)], rfl⟩
        · have d3 : decide (c2 < c) = false := decide_eq_false g3
          have G := Lib.hid (And.intro g2 g3)
          clear g1 g2 g3
          go_wp2_with fail
          go_meet
          exact ⟨by rw [HY2.out, decide_eq_false (by have := G.out; omega)], rfl⟩
    · have d1 : decide (0 < c2) = false := decide_eq_false g1
      have G := Lib.hid g1
      clear g1
      go_wp2_with fail
      go_meet
      exact ⟨by rw [HY2.out, decide_eq_false (by have := G.out; omega)], rfl⟩
  case rest =>
  obtain ⟨rfl, rfl⟩ := hcut
  go_upto_if 107 with fail
  go_cut [] (fun wx => Old w wx ∧ PB wx w.heap.size ⟨a, b, c⟩ ⟨a2, b2, c2⟩ x ∧ wx.heap[w4.heap.size]? = some (.cells #[.int .i64 (strictZ a2 a), .int .i64 (strictZ b2 b), .int .i64 (strictZ c2 c)] 23 (0, 0)))
  case first =>
    cases y2
    case true =>
      have hz := Lib.hid (strictZ_yes (of_decide_eq_true HY2.out.symm))
      have q2 := B7.out.q2
      simp only at q2
      have s2 : w7.cell? ⟨w4.heap.size, 2, none⟩ = some (.int .i64 c) := by simp [World.cell?, S7.out]
      have f2 : w7.frozen? ⟨w4.heap.size, 2, none⟩ = false := by simp [World.frozen?, S7.out]
      go_wp2_with fail
      go_meet
      refine ⟨K7.out.setCell (fun h => by have := hsb.out.1; simp only at h; omega) _, ⟨(heap_setCell_other _ _ _ _ (by have := hsb.out.2.2; simp only; omega)).trans B7.out.1, (heap_setCell_other _ _ _ _ (by have := hsb.out.2.1; simp only; omega)).trans B7.out.2.1, (heap_setCell_other _ _ _ _ (by have := lt_of_heap B4.out.2.2; simp only; omega)).trans B7.out.2.2⟩, ?_⟩
      rw [hz.out]
      have hset := heap_setCell_same w7 w4.heap.size 2 _ _ (.int .i64 c2) S7.out
      simpa using hset
    case false =>
      have hz := Lib.hid (strictZ_no (of_decide_eq_false HY2.out.symm))
      go_wp2_with fail
      go_meet
      exact ⟨K7.out, B7.out, by rw [hz.out]; exact S7.out⟩
  case rest =>
  obtain ⟨hka, hkb, hkc⟩ := hcut
  have K8 := Lib.hid hka
  have B8 := Lib.hid hkb
  have S8 := Lib.hid hkc
  clear hka hkb hkc
  rename World => w8
  have s0 : w8.cell? ⟨w4.heap.size, 0, none⟩ = some (.int .i64 (strictZ a2 a)) := by simp [World.cell?, S8.out]
  have s1 : w8.cell? ⟨w4.heap.size, 1, none⟩ = some (.int .i64 (strictZ b2 b)) := by simp [World.cell?, S8.out]
  have s2 : w8.cell? ⟨w4.heap.size, 2, none⟩ = some (.int .i64 (strictZ c2 c)) := by simp [World.cell?, S8.out]
  go_wp2_with fail
  refine (H3.out _ K8.out).mono ?_
  rintro e w9 ⟨rfl, hk9⟩
  have B9 := Lib.hid (B8.out.old hk9)
  have K9 := Lib.hid (K8.out.trans hk9)
  clear s0 s1 s2 hk9 H3
  have q0 := B9.out.q0
  have q1 := B9.out.q1
  have q2 := B9.out.q2
  simp only at q0 q1 q2
  go_wp2_with fail
  refine (H4.out _ K9.out).mono ?_
  rintro e w10 ⟨rfl, hk10⟩
  have B10 := Lib.hid (B9.out.old hk10)
  have K10 := Lib.hid (K9.out.trans hk10)
  clear q0 q1 q2 hk10 H4
  go_upto_region 15 with fail
  go_cut [22] (fun v wx => v = .int .i64 t5 ∧ Old w wx)
  case first =>
    have SO := Lib.hid (HI.out.1.old K10.out)
    have wsz := K10.out.size
    obtain ⟨xn, xt, xk, xa, xe⟩ := x
    have p0 := B10.out.p0
    have p1 := B10.out.p1
    have p2 := B10.out.p2
    have x0 := B10.out.x0
    have x1 := B10.out.x1
    have x2 := B10.out.x2
    have x3 := B10.out.x3
    simp only at p0 p1 p2 x0 x1 x2 x3
    have hcp0 : ∀ {p : Addr} {v : Value} {W : World}, Old w10 W → w10.cell? p = some v → W.cell? p = some v := fun h hv => h.cell hv (fun f => f)
    refine wp_region_held_drew (S := fun W => Old w10 W) (by kernel_rfl) (Keeps.refl _ _).drew (fun hHeld => ?_)
    have HP := Lib.hid (And.intro p0 (And.intro p1 (And.intro p2 (And.intro x0 (And.intro x1 (And.intro x2 x3))))))
    clear p0 p1 p2 x0 x1 x2 x3 hcp0
    refine wpAnyH_take (i := 0) (oi := _) (v := ?v0) rfl (by kernel_rfl) (by kernel_rfl) (by kernel_rfl) (fun _ _ _ h => h) (Or.inl ⟨by rfl, ?y0⟩) hHeld ?r0
    case y0 => (intro W hSw; (try dsimp only at hSw); have y0 := hSw.cell HP.out.1 (fun f => f); have y1 := hSw.cell HP.out.2.1 (fun f => f); have y2 := hSw.cell HP.out.2.2.1 (fun f => f); go_simp; try with_reducible rfl)
    try simp only [Act.put, List.setIfInBounds_toArray, List.set_cons_zero, List.set_cons_succ]
    refine wpAnyH_take (i := 1) (oi := _) (v := ?v1) rfl (by kernel_rfl) (by kernel_rfl) (by kernel_rfl) (fun _ _ _ h => h) (Or.inl ⟨by rfl, ?y1⟩) hHeld ?r1
    case y1 => (intro W hSw; (try dsimp only at hSw); go_simp; try with_reducible rfl)
    try simp only [Act.put, List.setIfInBounds_toArray, List.set_cons_zero, List.set_cons_succ]
    refine wpAnyH_take (i := 2) (oi := _) (v := ?v2) rfl (by kernel_rfl) (by kernel_rfl) (by kernel_rfl) (fun _ _ _ h => h) (Or.inl ⟨by rfl, ?y2⟩) hHeld ?r2
    case y2 => (intro W hSw; (try dsimp only at hSw); go_simp; try with_reducible rfl)
    try simp only [Act.put, List.setIfInBounds_toArray, List.set_cons_zero, List.set_cons_succ]
    refine wpAnyH_take (i := 3) (oi := _) (v := ?v3) rfl (by kernel_rfl) (by kernel_rfl) (by kernel_rfl) (fun _ _ _ h => h) (Or.inl ⟨by rfl, ?y3⟩) hHeld ?r3
    case y3 => (intro W hSw; (try dsimp only at hSw); go_simp; try with_reducible rfl)
    try simp only [Act.put, List.setIfInBounds_toArray, List.set_cons_zero, List.set_cons_succ]
    refine wpAnyH_take (i := 4) (oi := _) (v := ?v4) rfl (by kernel_rfl) (by kernel_rfl) (by kernel_rfl) (fun _ _ _ h => h) (Or.inl ⟨by rfl, ?y4⟩) hHeld ?r4
    case y4 => (intro W hSw; (try dsimp only at hSw); go_simp; try with_reducible rfl)
    try simp only [Act.put, List.setIfInBounds_toArray, List.set_cons_zero, List.set_cons_succ]
    refine wpAnyH_take (i := 6) (oi := _) (v := ?v6) rfl (by kernel_rfl) (by kernel_rfl) (by kernel_rfl) (fun _ _ _ h => h) (Or.inl ⟨by rfl, ?y6⟩) hHeld ?r6
    case y6 => (intro W hSw; (try dsimp only at hSw); have y0 := hSw.cell HP.out.2.2.2.1 (fun f => f); have y1 := hSw.cell HP.out.2.2.2.2.1 (fun f => f); have y2 := hSw.cell HP.out.2.2.2.2.2.1 (fun f => f); have y3 := hSw.cell HP.out.2.2.2.2.2.2 (fun f => f); go_simp; try with_reducible rfl)
    try simp only [Act.put, List.setIfInBounds_toArray, List.set_cons_zero, List.set_cons_succ]
    obtain ⟨xx, hxx⟩ : ∃ y : It, y = ⟨xn, xt, xk, xa, xe⟩ := ⟨_, rfl⟩
    have HX := Lib.hid (show ∀ y ∈ [xx], ∀ c ∈ y.cells, c.oneCell' = true from fun y hy => by (have e : y = xx := (by simpa using hy)); rw [e, hxx]; exact FX.out)
    have HXX := Lib.hid hxx
    have HN := Lib.hid (show ([] : List It).length + m.length ≤ maxLen ∧ (([] : List It).length + m.length) * 56 ≤ 140737488355328 ∧ ([] ++ m).length + [xx].length ≤ maxLen ∧ (([] ++ m).length + [xx].length) * 56 ≤ 140737488355328 from by unfold maxLen; simp; omega)
    have HB := Lib.hid (show ∀ W, Old w10 W → w10.heap.size ≤ W.heap.size from fun W h => h.size)
    clear hxx wsz hmb
    have SEENX := Lib.hid (show ∀ W : World, SeesR (W.alloc (.cells #[.int .u64 (xn : Int), .int .u64 (xt : Int), .string xk, xa] 40)) 4 It.cells (.slice (some ⟨W.heap.size, 0, none⟩) 1 1) [xx] from fun W => SeesR.new W _ (0, 0) [xx] _ (by rw [HXX.out]; rfl) (fun _ => rfl) (by unfold maxLen; simp))
    have HS := Lib.hid (show ∀ W v, Old w10 W → OwnsI W w10.heap.size v ([] ++ m ++ [xx]) → Items W v (m ++ [⟨xn, xt, xk, xa, xe⟩]) from fun W v h ho => by rw [HXX.out] at ho; exact items_snoc (by simpa using ho) (fun y hy => (SO.out.2 y hy).old h) ((HI.out.2.1.old K10.out).old h))
    refine wpAnyH_ready (rs := [5, 7]) (by kernel_rfl) (by simp) ?_
    refine AllReadyH.cons (o := _) rfl (fun K hK => ?_) ?_
    · refine step_append_rows (P := Try.prog) rfl _ _ 25 rfl w10.heap.size 40 4 56 It.cells _ Try.underlying25 Try.infoItem rfl (by decide) (.slice none 0 0) [] (by rfl) (OwnsR.nil _ _) _ m (by rfl) (SO.out.1.old hHeld) (fun _ _ => rfl) HON.out HN.out.1 HN.out.2.1 (HB.out _ hHeld) ?_
      intro v1 w1 ho1 hg1 _
      refine hK.out _ _ (hHeld.grown hg1 (fun k hk => by simp [Value.ownBlock] at hk)) (fun hHeld1 => ?_)
      clear hK K
      try simp only [Act.put, List.setIfInBounds_toArray, List.set_cons_zero, List.set_cons_succ]
      have OB := Lib.hid (show ∀ k, v1.ownBlock = some k → k < w10.heap.size → False from fun k hk hlt => Nat.lt_irrefl _ (Nat.lt_of_lt_of_le hlt (ho1.block k hk).1))
      refine wpAnyH_ready (rs := [7]) (by kernel_rfl) (by simp) ?_
      refine AllReadyH.cons (o := _) rfl (fun K hK => ?_) ?_
      · go_simp
        refine hK.out _ _ (hHeld1.alloc _) (fun hHeld2 => ?_)
        clear hK K
        try simp only [Act.put, List.setIfInBounds_toArray, List.set_cons_zero, List.set_cons_succ]
        refine wpAnyH_ready (rs := [8]) (by kernel_rfl) (by simp) ?_
        refine AllReadyH.cons (o := _) rfl (fun K hK => ?_) ?_
        · refine step_append_rows (P := Try.prog) rfl _ _ 25 rfl w10.heap.size 40 4 56 It.cells _ Try.underlying25 Try.infoItem rfl (by decide) v1 m (by rfl) (ho1.alloc _) _ [xx] (by rfl) (SEENX.out w1) (fun _ _ => rfl) HX.out HN.out.2.2.1 HN.out.2.2.2 (HB.out _ hHeld2) ?_
          intro v2 w2 ho2 hg2 _
          refine hK.out _ _ (hHeld2.grown hg2 (fun k hk hlt => OB.out k hk hlt)) (fun hHeld3 => ?_)
          clear hK K
          try simp only [Act.put, List.setIfInBounds_toArray, List.set_cons_zero, List.set_cons_succ]
          have IT := Lib.hid (HS.out w2 v2 hHeld3 ho2)
          refine wpAnyH_ready (rs := [9]) (by kernel_rfl) (by simp) ?_
          refine AllReadyH.cons (o := _) rfl (fun K hK => ?_) ?_
          · go_simp
            skip
            refine (H5.out _ _ IT.out).mono ?_
            rintro e w3' ⟨rfl, hk3⟩
            have hH4 := Lib.hid (hHeld3.trans hk3)
            clear hk3
            go_wp2_with fail
            refine hK.out _ _ hH4.out (fun hHeld => ?_)
            clear hK K
            try simp only [Act.put, List.setIfInBounds_toArray, List.set_cons_zero, List.set_cons_succ]
            refine wpAnyH_take (i := 10) (oi := _) (v := ?v10) rfl (by kernel_rfl) (by kernel_rfl) (by kernel_rfl) (fun _ _ _ h => h) (Or.inl ⟨by rfl, ?y10⟩) hHeld ?r10
            case y10 => (intro W hSw; go_simp; try with_reducible rfl)
            try simp only [Act.put, List.setIfInBounds_toArray, List.set_cons_zero, List.set_cons_succ]
            refine wpAnyH_take (i := 11) (oi := _) (v := ?v11) rfl (by kernel_rfl) (by kernel_rfl) (by kernel_rfl) (fun _ _ _ h => h) (Or.inl ⟨by rfl, ?y11⟩) hHeld ?r11
            case y11 => (intro W hSw; go_simp; try with_reducible rfl)
            try simp only [Act.put, List.setIfInBounds_toArray, List.set_cons_zero, List.set_cons_succ]
            refine wpAnyH_take (i := 12) (oi := _) (v := ?v12) rfl (by kernel_rfl) (by kernel_rfl) (by kernel_rfl) (fun _ _ _ h => h) (Or.inl ⟨by rfl, ?y12⟩) hHeld ?r12
            case y12 => (intro W hSw; go_simp; try with_reducible rfl)
            try simp only [Act.put, List.setIfInBounds_toArray, List.set_cons_zero, List.set_cons_succ]
            refine wpAnyH_take (i := 13) (oi := _) (v := ?v13) rfl (by kernel_rfl) (by kernel_rfl) (by kernel_rfl) (fun _ _ _ h => h) (Or.inl ⟨by rfl, ?y13⟩) hHeld ?r13
            case y13 => (intro W hSw; go_simp; try with_reducible rfl)
            try simp only [Act.put, List.setIfInBounds_toArray, List.set_cons_zero, List.set_cons_succ]
            refine wpAnyH_take (i := 14) (oi := _) (v := ?v14) rfl (by kernel_rfl) (by kernel_rfl) (by kernel_rfl) (fun _ _ _ h => h) (Or.inl ⟨by rfl, ?y14⟩) hHeld ?r14
            case y14 => (intro W hSw; go_simp; try with_reducible rfl)
            try simp only [Act.put, List.setIfInBounds_toArray, List.set_cons_zero, List.set_cons_succ]
            refine wpAnyH_done (by kernel_rfl) ?_ _
            go_simp
            go_wp2_with fail
            go_meet
            exact ⟨rfl, K10.out.trans hHeld⟩
          · exact AllReadyH.nil
        · exact AllReadyH.nil
      · exact AllReadyH.nil
    · refine AllReadyH.cons (o := _) rfl (fun K hK => ?_) AllReadyH.nil
      go_simp
      refine hK.out _ _ (hHeld.alloc _) (fun hHeld2 => ?_)
      clear hK K
      try simp only [Act.put, List.setIfInBounds_toArray, List.set_cons_zero, List.set_cons_succ]
      refine wpAnyH_ready (rs := [5]) (by kernel_rfl) (by simp) ?_
      refine AllReadyH.cons (o := _) rfl (fun K hK => ?_) ?_
      · refine step_append_rows (P := Try.prog) rfl _ _ 25 rfl w10.heap.size 40 4 56 It.cells _ Try.underlying25 Try.infoItem rfl (by decide) (.slice none 0 0) [] (by rfl) (OwnsR.nil _ _) _ m (by rfl) (SO.out.1.old hHeld2) (fun _ _ => rfl) HON.out HN.out.1 HN.out.2.1 (HB.out _ hHeld2) ?_
        intro v1 w1 ho1 hg1 _
        have hO1 := Lib.hid (show Old _ w1 from (Keeps.refl _ _).grown hg1 (fun k hk => by simp [Value.ownBlock] at hk))
        refine hK.out _ _ (hHeld2.trans hO1.out) (fun hHeld1 => ?_)
        clear hK K
        try simp only [Act.put, List.setIfInBounds_toArray, List.set_cons_zero, List.set_cons_succ]
        have OB := Lib.hid (show ∀ k, v1.ownBlock = some k → k < w10.heap.size → False from fun k hk hlt => Nat.lt_irrefl _ (Nat.lt_of_lt_of_le hlt (ho1.block k hk).1))
        refine wpAnyH_ready (rs := [8]) (by kernel_rfl) (by simp) ?_
        refine AllReadyH.cons (o := _) rfl (fun K hK => ?_) ?_
        · refine step_append_rows (P := Try.prog) rfl _ _ 25 rfl w10.heap.size 40 4 56 It.cells _ Try.underlying25 Try.infoItem rfl (by decide) v1 m (by rfl) ho1 _ [xx] (by rfl) ((SEENX.out w10.drew).old hO1.out) (fun _ _ => rfl) HX.out HN.out.2.2.1 HN.out.2.2.2 (HB.out _ hHeld1) ?_
          intro v2 w2 ho2 hg2 _
          refine hK.out _ _ (hHeld1.grown hg2 (fun k hk hlt => OB.out k hk hlt)) (fun hHeld3 => ?_)
          clear hK K
          try simp only [Act.put, List.setIfInBounds_toArray, List.set_cons_zero, List.set_cons_succ]
          have IT := Lib.hid (HS.out w2 v2 hHeld3 ho2)
          refine wpAnyH_ready (rs := [9]) (by kernel_rfl) (by simp) ?_
          refine AllReadyH.cons (o := _) rfl (fun K hK => ?_) ?_
          · go_simp
            skip
            refine (H5.out _ _ IT.out).mono ?_
            rintro e w3' ⟨rfl, hk3⟩
            have hH4 := Lib.hid (hHeld3.trans hk3)
            clear hk3
            go_wp2_with fail
            refine hK.out _ _ hH4.out (fun hHeld => ?_)
            clear hK K
            try simp only [Act.put, List.setIfInBounds_toArray, List.set_cons_zero, List.set_cons_succ]
            refine wpAnyH_take (i := 10) (oi := _) (v := ?v10b) rfl (by kernel_rfl) (by kernel_rfl) (by kernel_rfl) (fun _ _ _ h => h) (Or.inl ⟨by rfl, ?y10b⟩) hHeld ?r10b
            case y10b => (intro W hSw; go_simp; try with_reducible rfl)
            try simp only [Act.put, List.setIfInBounds_toArray, List.set_cons_zero, List.set_cons_succ]
            refine wpAnyH_take (i := 11) (oi := _) (v := ?v11b) rfl (by kernel_rfl) (by kernel_rfl) (by kernel_rfl) (fun _ _ _ h => h) (Or.inl ⟨by rfl, ?y11b⟩) hHeld ?r11b
            case y11b => (intro W hSw; go_simp; try with_reducible rfl)
            try simp only [Act.put, List.setIfInBounds_toArray, List.set_cons_zero, List.set_cons_succ]
            refine wpAnyH_take (i := 12) (oi := _) (v := ?v12b) rfl (by kernel_rfl) (by kernel_rfl) (by kernel_rfl) (fun _ _ _ h => h) (Or.inl ⟨by rfl, ?y12b⟩) hHeld ?r12b
            case y12b => (intro W hSw; go_simp; try with_reducible rfl)
            try simp only [Act.put, List.setIfInBounds_toArray, List.set_cons_zero, List.set_cons_succ]
            refine wpAnyH_take (i := 13) (oi := _) (v := ?v13b) rfl (by kernel_rfl) (by kernel_rfl) (by kernel_rfl) (fun _ _ _ h => h) (Or.inl ⟨by rfl, ?y13b⟩) hHeld ?r13b
            case y13b => (intro W hSw; go_simp; try with_reducible rfl)
            try simp only [Act.put, List.setIfInBounds_toArray, List.set_cons_zero, List.set_cons_succ]
            refine wpAnyH_take (i := 14) (oi := _) (v := ?v14b) rfl (by kernel_rfl) (by kernel_rfl) (by kernel_rfl) (fun _ _ _ h => h) (Or.inl ⟨by rfl, ?y14b⟩) hHeld ?r14b
            case y14b => (intro W hSw; go_simp; try with_reducible rfl)
            try simp only [Act.put, List.setIfInBounds_toArray, List.set_cons_zero, List.set_cons_succ]
            refine wpAnyH_done (by kernel_rfl) ?_ _
            go_simp
            go_wp2_with fail
            go_meet
            exact ⟨rfl, K10.out.trans hHeld⟩
          · exact AllReadyH.nil
        · exact AllReadyH.nil
      · exact AllReadyH.nil
  case rest =>
  obtain ⟨rfl, hka⟩ := hcut
  have K11 := Lib.hid hka
  clear hka
  have b1 : decide (t1 ≤ t2) = true := decide_eq_true z1
  have b2 : (max (t1 : Int) (t4 : Int) == max (t1 : Int) (t4 : Int)) = true := by simp
  have b3 : decide (t1 ≤ t5) = true := decide_eq_true z3
  go_wp2_with fail
  refine (WK.out _ K11.out).mono ?_
  rintro e w11 ⟨rfl, hk11⟩
  have K12 := Lib.hid (K11.out.trans hk11)
  clear hk11
  go_wp2_with fail
  go_ret
  exact ⟨rfl, K12.out⟩
end Go.Proofs.Ytpehpidlcdfhcaa
