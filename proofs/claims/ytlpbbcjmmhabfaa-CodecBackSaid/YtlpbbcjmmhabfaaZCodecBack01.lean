/- DERIVED. CodecBack, walked. · DERIVED. CodecBack, from how its arguments read. · The statement CodecBack: for every input the law returns true, and the arguments read as they did. -/
import Derived.Test.YtlpbbcjmmhabfaaY25
import Derived.Test.YtlpbbcjmmhabfaaY22
import Derived.Deep.DeepCutAuto
import Derived.Test.YtlpbbcjmmhabfaaY23
import Derived.Test.YtlpbbcjmmhabfaaRows
import Derived.ProofKit
import Derived.OpenShut
import Derived.JoinedCond
import Derived.ChangeOld
namespace Go.Proofs.Ytlpbbcjmmhabfaa
open Go.RowKit

theorem three_blks (w : World) (o1 o2 o3 : Obj) : (((w.alloc o1).alloc o2).alloc o3).heap[w.heap.size]? = some o1 ∧ (((w.alloc o1).alloc o2).alloc o3).heap[w.heap.size + 1]? = some o2 ∧ (((w.alloc o1).alloc o2).alloc o3).heap[w.heap.size + 1 + 1]? = some o3 := by
  obtain ⟨h1, h2⟩ := two_blocks w o1 o2
  have s2 : ((w.alloc o1).alloc o2).heap.size = w.heap.size + 1 + 1 := by simp
  have h3 := heap_alloc_new ((w.alloc o1).alloc o2) o3
  rw [s2] at h3
  exact ⟨(heap_alloc_old _ _ (by rw [s2]; omega)).trans h1, (heap_alloc_old _ _ (by rw [s2]; omega)).trans h2, h3⟩
theorem sameE_self (k : ByteArray) (l : List At) : sameE k l k l = true := (sameE_iff _ _ _ _).2 ⟨rfl, rfl⟩
theorem sameI_self (x : PIt) : sameI x x = true := (sameI_iff _ _).2 rfl
theorem sameP_self (x : List PCon) : sameP x x = true := sameP_iff.2 rfl
theorem sameG_self (x : PPg) : sameG x x = true := (sameG_iff _ _).2 rfl
theorem SeesR.llen {α : Type} {w : World} {k : Nat} {enc : α → List Value} {p : Option Addr} {n c : Nat} {l : List α} (h : SeesR w k enc (.slice p n c) l) : n = l.length := by
  obtain ⟨p', c', e, _⟩ := h.len
  simp only [Value.slice.injEq] at e
  exact e.2.1

theorem predForm_le {w : World} {v : Value} {cs : List Con} (hc : Cons w v cs) (h : okP (cs.map Con.plain) = true) : (predForm (cs.map Con.plain)).length ≤ 1000000000 := by
  obtain ⟨h1, h2⟩ := predOk_parts (l := cs) (by rw [predOk_plain]; exact h)
  have h3 := cons_le h2 (fun y hy => (hc.2 y hy).ranges)
  have h4 : (form (cs.map Con.plain).length).length ≤ 10 := form_le10 (by simp; omega)
  unfold predForm
  simp only [List.length_append]
  omega
theorem pageForm_le {w : World} {g : Pg} (hg : g.fine w) (h : pgOk g.plain = true) : (pageForm g.plain).length ≤ 1000000000 := by
  have hok := h
  unfold pgOk at h
  simp only [Bool.and_eq_true] at h
  obtain ⟨t1, t2, _⟩ := h
  unfold topOk at t1
  simp only [Bool.and_eq_true, decide_eq_true_eq] at t1
  have h1 := its_le (l := g.its) (fun x hx => itsOk_mem _ _ _ t2 _ (List.mem_map_of_mem hx)) (fun x hx => (hg.1.2.1 x hx).2.2.1)
  have h2 := gaps_le (l := g.gs) hg.2.1
  obtain ⟨fr, en, iv, its, gv, gs, last⟩ := g
  unfold Pg.plain at t1
  simp only [List.length_map] at t1 h1 h2
  have f1 : (form fr).length ≤ 10 := form_le10 (by omega)
  have f2 : (form en).length ≤ 10 := form_le10 (by omega)
  have f3 : (form its.length).length ≤ 10 := form_le10 (by omega)
  have f4 : (form gs.length).length ≤ 10 := form_le10 (by omega)
  have f5 : (form (if last = true then 1 else 0)).length ≤ 10 := form_le10 (by split <;> decide)
  unfold pageForm Pg.plain
  simp only [List.length_append, List.length_map]
  omega
set_option maxRecDepth 100000 in
set_option maxHeartbeats 8000000 in
theorem back_any (k : ByteArray) (v : Value) (es : List At) (pv : Value) (cs : List Con) (x : It) (g : Pg) (w : World) (ha : SeesA w v es) (hlt : 0 < es.length → ∀ b, v.ownBlock = some b → b < w.heap.size) (hf : Fits es)
    (hc : Cons w pv cs) (hcl : 0 < cs.length → ∀ b, pv.ownBlock = some b → b < w.heap.size) (hx : x.fine w) (hg : g.fine w) :
    Calls Try.prog 10 #[.agg #[.string k, v], pv, .agg x.cells.toArray, .agg g.cells.toArray] w fun e w' => e = .returned (.bool true) ∧ Old w w' := by
  have P1 := Lib.hid (fun W (o : Old w W) => put_event_u k v es W (ha.old o) (fun h0 b hb => Nat.lt_of_lt_of_le (hlt h0 b hb) o.size) hf)
  have P2 := Lib.hid (fun W (o : Old w W) => put_pred_u pv cs W (hc.old o) (fun h0 b hb => Nat.lt_of_lt_of_le (hcl h0 b hb) o.size))
  have P3 := Lib.hid (fun W (o : Old w W) => put_item_u x W (It.fine.old hx o))
  have P4 := Lib.hid (fun W (o : Old w W) => put_page_u g W (Pg.fine.old hg o))
  have M1 := Lib.hid (fun W (o : Old w W) => ev_may_any k v es W (ha.old o))
  have M2 := Lib.hid (fun W (o : Old w W) => pred_may_any pv cs W (hc.old o))
  have M3 := Lib.hid (fun W (o : Old w W) => may_item_any x W (It.fine.old hx o))
  have M4 := Lib.hid (fun W (o : Old w W) => may_page_any g W (Pg.fine.old hg o))
  have SE := Lib.hid (fun W (o : Old w W) (p : Value) (h : SeesA W p es) => same_ev_any k k p v es es W h (ha.old o))
  have SP := Lib.hid (fun W (o : Old w W) (p : Value) (l : List Con) (h : Cons W p l) => same_pred_any p pv l cs W h.1 (hc.1.old o) (fun x hx => (h.2 x hx).1) (fun x hx => ((hc.2 x hx).1).old o))
  have SI := Lib.hid (fun W (o : Old w W) (y : It) (h : y.fine W) => same_item_any y x W h (It.fine.old hx o))
  have SG := Lib.hid (fun W (o : Old w W) (y : Pg) (h : y.fine W) => same_page_any y g W h (Pg.fine.old hg o))
  have FE := Lib.hid (fun h => takeE_form (key := k) (es := es) h hf)
  have FL := Lib.hid (fun h => evForm_le512 (key := k) (l := es) h hf)
  have FP := Lib.hid (fun h => takeP_form (cs := cs.map Con.plain) h (consG hc h))
  have FPl := Lib.hid (fun (h : okP (cs.map Con.plain) = true) => predForm_le hc h)
  have FI := Lib.hid (fun h => takeI_form (x := x.plain) h hx.2.2.1)
  have FIl := Lib.hid (fun h => itForm_le (x := x.plain) h hx.2.2.1)
  have hgf : ∀ y ∈ g.plain.items, Fits y.es := by
    intro y hy
    obtain ⟨z, hz, rfl⟩ := List.mem_map.1 hy
    exact (hg.1.2.1 z hz).2.2.1
  have FG := Lib.hid (fun h => takeG_form (x := g.plain) h hgf)
  have FGl := Lib.hid (fun h => pageForm_le hg h)
  have LE := Lib.hid (fun (p : Value) (key : ByteArray) (l : List At) => sameE_self k es)
  have PO := Lib.hid (predOk_plain cs)
  obtain ⟨a1, c1, rfl, _, _⟩ := ha.len
  obtain ⟨a2, c2, rfl, _, _⟩ := hc.1.len
  obtain ⟨a3, c3, ex, _, _⟩ := hx.1.len
  obtain ⟨a4, c4, eg1, _, _⟩ := hg.1.1.len
  obtain ⟨a5, c5, eg2, _, _⟩ := hg.1.2.2.len
  obtain ⟨xn, xt, xk, xa, xe⟩ := x
  obtain ⟨fr, en, iv, its, gv, gs, last⟩ := g
  simp only at ex eg1 eg2
  subst ex eg1 eg2
  unfold It.cells at P3 M3 SI ⊢
  unfold Pg.cells at P4 M4 SG ⊢
  simp only at P3 M3 SI P4 M4 SG ⊢
  obtain ⟨W0, hW0⟩ : ∃ W0, ((w.alloc (.cells #[.string k, .slice a1 es.length c1] 24)).alloc (.cells #[.int .u64 xn, .int .u64 xt, .string xk, .slice a3 xe.length c3] 46)).alloc (.cells #[.int .u64 fr, .int .u64 en, .slice a4 its.length c4, .slice a5 gs.length c5, .bool last] 50) = W0 := ⟨_, rfl⟩
  have k0 : Old w W0 := by rw [← hW0]; exact (((Keeps.refl _ _).alloc _).alloc _).alloc _
  obtain ⟨b0, b1, b2⟩ := three_blks w (.cells #[.string k, .slice a1 es.length c1] 24) (.cells #[.int .u64 xn, .int .u64 xt, .string xk, .slice a3 xe.length c3] 46) (.cells #[.int .u64 fr, .int .u64 en, .slice a4 its.length c4, .slice a5 gs.length c5, .bool last] 50)
  rw [hW0] at b0 b1 b2
  have B := Lib.hid (And.intro k0 (And.intro b0 (And.intro b1 b2)))
  have g0 := blk2 b0
  clear k0 b0 b1 b2 ha hlt hf hc hcl hx hg hgf
  go_enter Try.func10, Try.ntmps10
  go_wp2_with fail
  refine (P1.out _ B.out.1).mono ?_
  rintro e w1 ⟨p1, d1, z1, L1, rfl, k1, s1, h1⟩
  have hL1 : L1.length ≤ 1000000000 := by
    rcases h1 with ⟨x1, x2, _⟩ | ⟨_, x2, _⟩
    · rw [x2]; have := FL.out x1; omega
    · rw [x2]; simp
  have R1 := Lib.hid (And.intro k1 (And.intro h1 (take_event_u _ L1 w1 s1 hL1)))
  have hm1 : L1.length ≤ 9223372036854775807 := by omega
  clear g0 k1 s1 h1 hL1
  go_wp2_with fail
  refine R1.out.2.2.mono ?_
  rintro e w2 ⟨key2, p2, n2, d2, z2, es2, rfl, k2, s2, h2⟩
  obtain rfl := s2.llen
  have R2 := Lib.hid (And.intro (R1.out.1.trans k2) (And.intro s2 h2))
  clear k2 s2 h2
  go_upto_region 3 with fail
  go_cut [65] (fun v wc => v = .bool false ∧ Old W0 wc)
  case first =>
    as_aux_lemma =>
      obtain ⟨W3, hW3⟩ : ∃ W3, w2.alloc (.cells #[.string key2, .slice p2 es2.length d2] 24) = W3 := ⟨_, rfl⟩
      have b3 : W3.heap[w2.heap.size]? = some (.cells #[.string key2, .slice p2 es2.length d2] 24 (0, 0)) := by rw [← hW3]; exact heap_alloc_new _ _
      have k3 : Old w2 W3 := by rw [← hW3]; exact (Keeps.refl _ _).alloc _
      have K3 := Lib.hid (And.intro (R2.out.1.trans k3) (And.intro b3 (R2.out.2.1.old k3)))
      have g0 := blk2 (((R2.out.1.trans k3).block _ (lt_of_heap B.out.2.1) (fun f => f)).trans B.out.2.1)
      clear b3 k3
      rw [hW3]
      clear hW3
      rcases R1.out.2.1 with ⟨x1, x2, rfl⟩ | ⟨x1, x2, rfl⟩
      · have hT := FE.out x1
        rw [← x2] at hT
        have hM := M1.out
        have hLL := FL.out x1
        rw [← x2] at hLL
        have hd : decide ((L1.length : Int) > 512) = false := decide_eq_false (by omega)
        rw [x1] at hM
        have HM := Lib.hid hM
        rcases R2.out.2.2 with ⟨y1, rfl⟩ | ⟨y1, rfl⟩
        · rw [hT] at y1
          simp only [Option.some.injEq, Prod.mk.injEq] at y1
          obtain ⟨rfl, rfl⟩ := y1
          clear x1 x2 hT hM hLL
          go_wp2_with fail
          refine (HM.out _ (B.out.1.trans K3.out.1)).mono ?_
          rintro e w4 ⟨rfl, k4⟩
          have K4 := Lib.hid (K3.out.1.trans k4)
          have S4 := Lib.hid (SE.out w4 (B.out.1.trans K4.out) _ (K3.out.2.2.old k4))
          clear g0
          have g0 := blk2 ((K4.out.block _ (lt_of_heap B.out.2.1) (fun f => f)).trans B.out.2.1)
          have g1 := blk2 ((k4.block _ (lt_of_heap K3.out.2.1) (fun f => f)).trans K3.out.2.1)
          clear k4
          go_wp2_with fail
          refine S4.out.mono ?_
          rintro e w5 ⟨he, k5⟩
          rw [sameE_self] at he
          subst he
          have K5 := Lib.hid k5
          clear k5 g0 g1
          go_wp2_with fail
          go_meet
          case rel => exact ⟨rfl, K4.out.trans K5.out⟩
        · rw [hT] at y1; cases y1
      · have hM := M1.out
        rw [x1] at hM
        have HM := Lib.hid hM
        subst x2
        clear x1 hM
        go_wp2_with fail
        refine (HM.out _ (B.out.1.trans K3.out.1)).mono ?_
        rintro e w4 ⟨rfl, k4⟩
        have K4 := Lib.hid (K3.out.1.trans k4)
        clear k4 g0
        go_wp2_with fail
        go_meet
        case rel => exact ⟨rfl, K4.out⟩
  obtain ⟨rfl, hcut⟩ := hcut
  have KE := Lib.hid hcut
  clear hcut R1 R2 P1 M1 SE FE FL hm1
  -- the predicate
  go_wp2_with fail
  refine (P2.out _ (B.out.1.trans KE.out)).mono ?_
  rintro e w1 ⟨p1, d1, z1, L1, rfl, k1, s1, h1⟩
  have hL1 : L1.length ≤ 1000000000 := by
    rcases h1 with ⟨x1, x2, _⟩ | ⟨_, x2, _⟩
    · rw [x2]; exact FPl.out x1
    · rw [x2]; simp
  have R1 := Lib.hid (And.intro (KE.out.trans k1) (And.intro h1 (take_pred_u _ L1 w1 s1 hL1)))
  clear k1 s1 h1 hL1
  go_wp2_with fail
  refine R1.out.2.2.mono ?_
  rintro e w2 ⟨p2, n2, d2, cs2, z2, rfl, k2, s2, _, h2⟩
  obtain rfl := s2.1.llen
  have R2 := Lib.hid (And.intro (R1.out.1.trans k2) (And.intro s2 h2))
  clear k2 s2 h2
  go_upto_region 7 with fail
  go_cut [94] (fun v wc => v = .bool false ∧ Old W0 wc)
  case first =>
    as_aux_lemma =>
      have hM := M2.out
      rw [PO.out] at hM
      rcases R1.out.2.1 with ⟨x1, x2, rfl⟩ | ⟨x1, x2, rfl⟩
      · have hT := FP.out x1
        rw [← x2] at hT
        rw [x1] at hM
        have HM := Lib.hid hM
        rcases R2.out.2.2 with ⟨y1, rfl⟩ | ⟨y1, _, rfl⟩
        · rw [hT] at y1
          simp only [Option.some.injEq] at y1
          have HY := Lib.hid y1
          clear x1 x2 hT hM y1
          go_wp2_with fail
          refine (HM.out _ (B.out.1.trans R2.out.1)).mono ?_
          rintro e w4 ⟨rfl, k4⟩
          have K4 := Lib.hid (R2.out.1.trans k4)
          have S4 := Lib.hid (SP.out w4 (B.out.1.trans K4.out) _ _ (R2.out.2.1.old k4))
          clear k4
          go_wp2_with fail
          refine S4.out.mono ?_
          rintro e w5 ⟨he, k5⟩
          rw [← HY.out, sameP_self] at he
          subst he
          have K5 := Lib.hid k5
          clear k5
          go_wp2_with fail
          go_meet
          case rel => exact ⟨rfl, K4.out.trans K5.out⟩
        · rw [hT] at y1; cases y1
      · rw [x1] at hM
        have HM := Lib.hid hM
        subst x2
        clear x1 hM
        go_wp2_with fail
        refine (HM.out _ (B.out.1.trans R2.out.1)).mono ?_
        rintro e w4 ⟨rfl, k4⟩
        have K4 := Lib.hid (R2.out.1.trans k4)
        clear k4
        go_wp2_with fail
        go_meet
        case rel => exact ⟨rfl, K4.out⟩
  obtain ⟨rfl, hcut⟩ := hcut
  have KP := Lib.hid hcut
  have g0 := blk4 ((hcut.block _ (lt_of_heap B.out.2.2.1) (fun f => f)).trans B.out.2.2.1)
  clear hcut R1 R2 P2 M2 SP FP FPl PO KE
  -- the item
  go_wp2_with fail
  refine (P3.out _ (B.out.1.trans KP.out)).mono ?_
  rintro e w1 ⟨p1, d1, z1, L1, rfl, k1, s1, h1⟩
  have hL1 : L1.length ≤ 1000000000 := by
    rcases h1 with ⟨x1, x2, _⟩ | ⟨_, x2, _⟩
    · rw [x2]; have := FIl.out x1; omega
    · rw [x2]; simp
  have R1 := Lib.hid (And.intro (KP.out.trans k1) (And.intro h1 (take_item_u _ L1 w1 s1 hL1)))
  clear g0 k1 s1 h1 hL1
  go_wp2_with fail
  refine R1.out.2.2.mono ?_
  rintro e w2 ⟨n2, t2, key2, p2, m2, d2, es2, z2, rfl, k2, s2, h2⟩
  obtain rfl : m2 = es2.length := s2.1.llen
  have R2 := Lib.hid (And.intro (R1.out.1.trans k2) (And.intro s2 h2))
  clear k2 s2 h2
  go_upto_region 11 with fail
  go_cut [123] (fun v wc => v = .bool false ∧ Old W0 wc)
  case first =>
    as_aux_lemma =>
      obtain ⟨W3, hW3⟩ : ∃ W3, w2.alloc (.cells #[.int .u64 n2, .int .u64 t2, .string key2, .slice p2 es2.length d2] 46) = W3 := ⟨_, rfl⟩
      have b3 : W3.heap[w2.heap.size]? = some (.cells #[.int .u64 n2, .int .u64 t2, .string key2, .slice p2 es2.length d2] 46 (0, 0)) := by rw [← hW3]; exact heap_alloc_new _ _
      have k3 : Old w2 W3 := by rw [← hW3]; exact (Keeps.refl _ _).alloc _
      have K3 := Lib.hid (And.intro (R2.out.1.trans k3) (And.intro b3 (It.fine.old R2.out.2.1 k3)))
      have g0 := blk4 (((R2.out.1.trans k3).block _ (lt_of_heap B.out.2.2.1) (fun f => f)).trans B.out.2.2.1)
      clear b3 k3
      rw [hW3]
      clear hW3
      have hM := M3.out
      rcases R1.out.2.1 with ⟨x1, x2, rfl⟩ | ⟨x1, x2, rfl⟩
      · have hT := FI.out x1
        rw [← x2] at hT
        rw [x1] at hM
        have HM := Lib.hid hM
        rcases R2.out.2.2 with ⟨y1, rfl⟩ | ⟨y1, rfl⟩
        · rw [hT] at y1
          simp only [Option.some.injEq] at y1
          have HY := Lib.hid y1
          clear x1 x2 hT hM y1
          go_wp2_with fail
          refine (HM.out _ (B.out.1.trans K3.out.1)).mono ?_
          rintro e w4 ⟨rfl, k4⟩
          have K4 := Lib.hid (K3.out.1.trans k4)
          have S4 := Lib.hid (SI.out w4 (B.out.1.trans K4.out) _ (It.fine.old K3.out.2.2 k4))
          clear g0
          have g0 := blk4 ((K4.out.block _ (lt_of_heap B.out.2.2.1) (fun f => f)).trans B.out.2.2.1)
          have g1 := blk4 ((k4.block _ (lt_of_heap K3.out.2.1) (fun f => f)).trans K3.out.2.1)
          clear k4
          go_wp2_with fail
          refine S4.out.mono ?_
          rintro e w5 ⟨he, k5⟩
          have hs : sameI (It.plain ⟨n2, t2, key2, .slice p2 es2.length d2, es2⟩) (It.plain ⟨xn, xt, xk, .slice a3 xe.length c3, xe⟩) = true := (sameI_iff _ _).2 HY.out.symm
          rw [hs] at he
          subst he
          have K5 := Lib.hid k5
          clear k5 g0 g1 hs
          go_wp2_with fail
          go_meet
          case rel => exact ⟨rfl, K4.out.trans K5.out⟩
        · rw [hT] at y1; cases y1
      · rw [x1] at hM
        have HM := Lib.hid hM
        subst x2
        clear x1 hM
        go_wp2_with fail
        refine (HM.out _ (B.out.1.trans K3.out.1)).mono ?_
        rintro e w4 ⟨rfl, k4⟩
        have K4 := Lib.hid (K3.out.1.trans k4)
        clear k4 g0
        go_wp2_with fail
        go_meet
        case rel => exact ⟨rfl, K4.out⟩
  obtain ⟨rfl, hcut⟩ := hcut
  have KI := Lib.hid hcut
  have g0 := blk5 ((hcut.block _ (lt_of_heap B.out.2.2.2) (fun f => f)).trans B.out.2.2.2)
  clear hcut R1 R2 P3 M3 SI FI FIl KP
  -- the page
  go_wp2_with fail
  refine (P4.out _ (B.out.1.trans KI.out)).mono ?_
  rintro e w1 ⟨p1, d1, z1, L1, rfl, k1, s1, h1⟩
  have hL1 : L1.length ≤ 1000000000 := by
    rcases h1 with ⟨x1, x2, _⟩ | ⟨_, x2, _⟩
    · rw [x2]; exact FGl.out x1
    · rw [x2]; simp
  have R1 := Lib.hid (And.intro (KI.out.trans k1) (And.intro h1 (take_page_u _ L1 w1 s1 hL1)))
  clear g0 k1 s1 h1 hL1
  go_wp2_with fail
  refine R1.out.2.2.mono ?_
  rintro e w2 ⟨fr2, en2, p2, n2, d2, its2, q2, m2, f2, gs2, last2, z2, rfl, k2, s2, h2⟩
  obtain rfl : n2 = its2.length := s2.1.1.llen
  obtain rfl : m2 = gs2.length := s2.1.2.2.llen
  have R2 := Lib.hid (And.intro (R1.out.1.trans k2) (And.intro s2 h2))
  clear k2 s2 h2
  go_upto_region 15 with fail
  obtain ⟨W3, hW3⟩ : ∃ W3, w2.alloc (.cells #[.int .u64 fr2, .int .u64 en2, .slice p2 its2.length d2, .slice q2 gs2.length f2, .bool last2] 50) = W3 := ⟨_, rfl⟩
  have b3 : W3.heap[w2.heap.size]? = some (.cells #[.int .u64 fr2, .int .u64 en2, .slice p2 its2.length d2, .slice q2 gs2.length f2, .bool last2] 50 (0, 0)) := by rw [← hW3]; exact heap_alloc_new _ _
  have k3 : Old w2 W3 := by rw [← hW3]; exact (Keeps.refl _ _).alloc _
  have K3 := Lib.hid (And.intro (R2.out.1.trans k3) (And.intro b3 (Pg.fine.old R2.out.2.1 k3)))
  have g0 := blk5 (((R2.out.1.trans k3).block _ (lt_of_heap B.out.2.2.2) (fun f => f)).trans B.out.2.2.2)
  clear b3 k3
  rw [hW3]
  clear hW3
  have hM := M4.out
  rcases R1.out.2.1 with ⟨x1, x2, rfl⟩ | ⟨x1, x2, rfl⟩
  · have hT := FG.out x1
    rw [← x2] at hT
    rw [x1] at hM
    have HM := Lib.hid hM
    rcases R2.out.2.2 with ⟨y1, rfl⟩ | ⟨y1, _, _, _, _, _, _, _, rfl⟩
    · rw [hT] at y1
      simp only [Option.some.injEq] at y1
      have HY := Lib.hid y1
      clear x1 x2 hT hM y1
      go_wp2_with fail
      refine (HM.out _ (B.out.1.trans K3.out.1)).mono ?_
      rintro e w4 ⟨rfl, k4⟩
      have K4 := Lib.hid (K3.out.1.trans k4)
      have S4 := Lib.hid (SG.out w4 (B.out.1.trans K4.out) _ (Pg.fine.old K3.out.2.2 k4))
      clear g0
      have g0 := blk5 ((K4.out.block _ (lt_of_heap B.out.2.2.2) (fun f => f)).trans B.out.2.2.2)
      have g1 := blk5 ((k4.block _ (lt_of_heap K3.out.2.1) (fun f => f)).trans K3.out.2.1)
      clear k4
      go_wp2_with fail
      refine S4.out.mono ?_
      rintro e w5 ⟨he, k5⟩
      have hs : sameG (Pg.plain ⟨fr2, en2, .slice p2 its2.length d2, its2, .slice q2 gs2.length f2, gs2, last2⟩) (Pg.plain ⟨fr, en, .slice a4 its.length c4, its, .slice a5 gs.length c5, gs, last⟩) = true := (sameG_iff _ _).2 HY.out.symm
      rw [hs] at he
      subst he
      have K5 := Lib.hid k5
      clear k5 g0 g1 hs
      go_wp2_with fail
      refine (wakes_any _).mono ?_
      rintro e w9 ⟨rfl, k9⟩
      have K9 := Lib.hid k9
      clear k9
      go_wp2_with fail
      go_ret
      exact ⟨rfl, B.out.1.trans (K4.out.trans (K5.out.trans K9.out))⟩
    · rw [hT] at y1; cases y1
  · rw [x1] at hM
    have HM := Lib.hid hM
    subst x2
    clear x1 hM
    go_wp2_with fail
    refine (HM.out _ (B.out.1.trans K3.out.1)).mono ?_
    rintro e w4 ⟨rfl, k4⟩
    have K4 := Lib.hid (K3.out.1.trans k4)
    clear k4 g0
    go_wp2_with fail
    refine (wakes_any _).mono ?_
    rintro e w9 ⟨rfl, k9⟩
    have K9 := Lib.hid k9
    clear k9
    go_wp2_with fail
    go_ret
    exact ⟨rfl, B.out.1.trans (K4.out.trans K9.out)⟩
end Go.Proofs.Ytlpbbcjmmhabfaa

namespace Go.Proofs.Ytlpbbcjmmhabfaa
open Go.ChangeShapes Go.WideShapes Go.ChangeAt Go.RowKit

set_option maxRecDepth 100000 in
theorem walk_CodecBack {H : Type} (enc : TypeId × Value → H) (W : World) (base : Nat) {v0 v1 v2 v3 : Value} {d0 d1 d2 d3 : DataW H} {p0 p1 p2 p3 : List MemPlace}
    (hv0 : Value.okWide Try.prog W .any base 24 v0) (h0 : DataW.Trod enc Try.prog W 0 (fun _ => true) true 24 v0 d0 p0)
    (hv1 : Value.okWide Try.prog W .any base 40 v1) (h1 : DataW.Trod enc Try.prog W 0 (fun _ => true) true 40 v1 d1 p1)
    (hv2 : Value.okWide Try.prog W .any base 46 v2) (h2 : DataW.Trod enc Try.prog W 0 (fun _ => true) true 46 v2 d2 p2)
    (hv3 : Value.okWide Try.prog W .any base 50 v3) (h3 : DataW.Trod enc Try.prog W 0 (fun _ => true) true 50 v3 d3 p3) :
    Calls Try.prog 10 #[v0, v1, v2, v3] W fun e W' => e = .returned (.bool true) ∧ Below W.heap.size W W' := by
  obtain ⟨k, a, es, rfl, ha, hf, hlt⟩ := read_event hv0 h0
  obtain ⟨cs, hc, hcl⟩ := read_pred hv1 h1
  obtain ⟨x, rfl, hx⟩ := read_item hv2 h2
  obtain ⟨g, rfl, hg, _⟩ := read_page hv3 h3
  exact (back_any k a es v1 cs x g W ha hlt hf hc hcl hx hg).mono fun e W' h => ⟨h.1, Old.below h.2⟩
end Go.Proofs.Ytlpbbcjmmhabfaa

namespace Go.Proofs.Ytlpbbcjmmhabfaa.codecBack
open Go.ChangeShapes Go.WideShapes Go.ChangeAt Go.RowKit
theorem own : ownKnob Try.prog.godebug = none := by kernel_rfl
theorem laidOut : laidOutB Try.prog = true := by kernel_rfl

set_option maxRecDepth 100000 in
theorem lifted (os : Os) (started : os.Started) (H : Type) (enc : TypeId × Value → H) :
    ReturnsInHanded {} Try.checked os 10 .any (Rows.codecBackSpec.pre6 enc Try.prog Try.f10 Rows.codecBackRow.domain false) (Rows.codecBackSpec.post enc Try.prog Try.f10 false true false false) := by
  refine returnsInHanded_of_change (C := Try.checked) own started (by kernel_rfl) Try.func10
    (ChangeSpec.witness6 (enc := enc) (C := Try.checked) false ⟨#[], #[.agg #[.string ⟨#[]⟩, .slice none 0 0], .slice none 0 0, .agg #[.int .u64 0, .int .u64 0, .string ⟨#[]⟩, .slice none 0 0], .agg #[.int .u64 0, .int .u64 0, .slice none 0 0, .slice none 0 0, .bool false]], []⟩ 8 (by kernel_rfl) (by kernel_rfl) (by kernel_rfl) (by kernel_rfl)) ?_
  intro W base args ds gs before hval0 hW _ _
  have hval : ∀ (j : Nat) t v, Try.f10.params[j]? = some t → args[j]? = some v → Value.okWide Try.prog W .any base t v := hval0
  have hW' := hW
  obtain ⟨p, q, hA0, hV, rfl, hfz, hnd⟩ := hW
  have hA : DataW.TrodAll enc Try.prog W 0 (fun _ => true) true Try.f10.params.toList args.toList ds p := hA0
  rw [Try.params10] at hA hval
  obtain ⟨v0, vs0, d0, ds0, p0, q0, hargs, rfl, rfl, h0, r0⟩ := trodAll_cons hA
  obtain ⟨v1, vs1, d1, ds1, p1, q1, rfl, rfl, rfl, h1, r1⟩ := trodAll_cons r0
  obtain ⟨v2, vs2, d2, ds2, p2, q2, rfl, rfl, rfl, h2, r2⟩ := trodAll_cons r1
  obtain ⟨v3, vs3, d3, ds3, p3, q3, rfl, rfl, rfl, h3, r3⟩ := trodAll_cons r2
  obtain ⟨rfl, rfl, rfl⟩ := trodAll_nil r3
  obtain rfl : args = #[v0, v1, v2, v3] := by cases args; simp_all
  obtain ⟨rfl, rfl⟩ := trodVars_none hV
  have lt0 : ∀ x ∈ p0, x.block < W.heap.size := by obtain ⟨m, hm⟩ := h0; exact DataW.trod_lt m _ _ _ hm
  have lt1 : ∀ x ∈ p1, x.block < W.heap.size := by obtain ⟨m, hm⟩ := h1; exact DataW.trod_lt m _ _ _ hm
  have lt2 : ∀ x ∈ p2, x.block < W.heap.size := by obtain ⟨m, hm⟩ := h2; exact DataW.trod_lt m _ _ _ hm
  have lt3 : ∀ x ∈ p3, x.block < W.heap.size := by obtain ⟨m, hm⟩ := h3; exact DataW.trod_lt m _ _ _ hm
  clear hA0 hval0
  refine (walk_CodecBack enc W base (hval 0 24 v0 rfl rfl) h0 (hval 1 40 v1 rfl rfl) h1 (hval 2 46 v2 rfl rfl) h2 (hval 3 50 v3 rfl rfl) h3).mono fun e W' ⟨he, bel⟩ => ?_
  subst he
  exact ⟨_, rfl, _, _, _, [], _, [], hW', trodAll_mk1 (shut_bool Try.underlying4 _), (trodAll_cons_mk (Below.trod laidOut (by kernel_rfl) (of_decide_eq_true (by kernel_rfl)) h0 bel lt0) (trodAll_cons_mk (Below.trod laidOut (by kernel_rfl) (of_decide_eq_true (by kernel_rfl)) h1 bel lt1) (trodAll_cons_mk (Below.trod laidOut (by kernel_rfl) (of_decide_eq_true (by kernel_rfl)) h2 bel lt2) (trodAll_cons_mk (Below.trod laidOut (by kernel_rfl) (of_decide_eq_true (by kernel_rfl)) h3 bel lt3) trodAll_mk0)))), rfl, bel.frame _, fun h => by cases h⟩

theorem proved : Rows.CodecBackSaid :=
  OpenClaim.holds_of_wide 10 Try.f10 rfl rfl rfl rfl rfl rfl rfl ⟨rfl, rfl, rfl, rfl, rfl⟩ rfl rfl rfl rfl rfl (by kernel_rfl) Try.func10 (by kernel_rfl)
    (of_decide_eq_true (by kernel_rfl)) (by unfold Func.isWrapper; first | (rw [if_pos (by decide +kernel)]; kernel_rfl) | (rw [if_neg (by decide +kernel)]; exact ⟨rfl, rfl⟩))
    (fun os started H enc _ => lifted os started H enc)
end Go.Proofs.Ytlpbbcjmmhabfaa.codecBack
