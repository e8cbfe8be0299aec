/- DERIVED. CodecNested, walked. · DERIVED. CodecNested, from how its arguments read. · The statement CodecNested, second form: for every input of bulk at most 1048576 the law returns true, and the arguments read as they did. -/
import Derived.Test.YtlpbbcjmmhabfaaY25
import Derived.Test.YtlpbbcjmmhabfaaY22
import Derived.Deep.DeepCutAuto
import Derived.Test.YtlpbbcjmmhabfaaY23
import Derived.Test.YtlpbbcjmmhabfaaRows
import Derived.ProofKit
import Derived.OpenShut
import Derived.JoinedCond
import Derived.ChangeOld
namespace Go.Proofs.Ytlpbbcjmmhabfaa
open Go.RowKit

theorem itOk_ev {x : PIt} (h : itOk x = true) : evOk x.key x.es = true ∧ x.n ≤ 1099511627776 ∧ x.time ≤ 1099511627776 := by
  unfold itOk at h
  simp only [Bool.and_eq_true, decide_eq_true_eq] at h
  exact ⟨h.2.2.2, h.2.1, h.2.2.1⟩
theorem page_more {fr en : Nat} {its : List PIt} {gs : List PGap} {last : Bool} {x : PIt} (h : its.length + 1 ≤ 4) :
    (pageForm ⟨fr, en, its ++ [x], gs, last⟩).length = (pageForm ⟨fr, en, its, gs, last⟩).length + (itForm x).length := by
  unfold pageForm
  simp only [List.length_append, List.flatMap_append, List.flatMap_cons, List.flatMap_nil, List.append_nil, List.length_cons, List.length_nil, form_one (n := its.length + 1) (by omega), form_one (n := its.length) (by omega)]
  omega
theorem pgOk_len {x : PPg} (h : pgOk x = true) : x.items.length ≤ 4 := by
  unfold pgOk at h
  simp only [Bool.and_eq_true] at h
  obtain ⟨t1, _⟩ := h
  unfold topOk at t1
  simp only [Bool.and_eq_true, decide_eq_true_eq] at t1
  omega

set_option maxRecDepth 100000 in
set_option maxHeartbeats 8000000 in
theorem nested_any (x : It) (g : Pg) (w : World) (hx : x.fine w) (hg : g.fine w) (hgl : g.its.length ≤ 1000000000) :
    Calls Try.prog 5 #[.agg x.cells.toArray, .agg g.cells.toArray] w fun e w' => e = .returned (.bool true) ∧ Old w w' := by
  have P1 := Lib.hid (fun W (o : Old w W) => put_item_u x W (It.fine.old hx o))
  have P2 := Lib.hid (fun W (o : Old w W) => put_event_u x.key x.av x.es W (hx.1.old o) (fun h0 b hb => Nat.lt_of_lt_of_le (hx.2.1 h0 b hb) o.size) hx.2.2.1)
  have P3 := Lib.hid (fun W (o : Old w W) => put_page_u g W (Pg.fine.old hg o))
  have MORE := Lib.hid (fun W (o : Old w W) (v : Value) (B : Nat) (h : OwnsR W B 46 4 It.cells v (g.its ++ [x])) => put_page_u ⟨g.fr, g.en, v, g.its ++ [x], g.gv, g.gs, g.last⟩ W
    ⟨⟨h.sees (fun _ => rfl) (by decide), fun y hy => by
      rcases List.mem_append.1 hy with hy | hy
      · exact It.fine.old (hg.1.2.1 y hy) o
      · obtain rfl : y = x := by simpa using hy
        exact It.fine.old hx o, hg.1.2.2.old o⟩, hg.2.1, hg.2.2.1, fun _ b hb => (h.block b hb).2, fun h0 b hb => Nat.lt_of_lt_of_le (hg.2.2.2.2 h0 b hb) o.size⟩)
  have FL := Lib.hid (fun h => itForm_le (x := x.plain) h hx.2.2.1)
  have FE := Lib.hid (fun h => evForm_le (key := x.key) (l := x.es) h hx.2.2.1)
  have LAW := Lib.hid (fun (h : pgOk (⟨g.fr, g.en, (g.its ++ [x]).map It.plain, g.gs, g.last⟩ : PPg) = true) => page_more (fr := g.fr) (en := g.en) (its := g.its.map It.plain) (gs := g.gs) (last := g.last) (x := x.plain) (by have := pgOk_len h; simpa using this))
  have SX := Lib.hid hg.1.1
  have ONE := Lib.hid (show ∀ c ∈ x.cells, c.oneCell' = true from by
    obtain ⟨p, c, he, _⟩ := hx.1.len
    intro u hu
    unfold It.cells at hu
    rw [he] at hu
    simp at hu
    rcases hu with rfl | rfl | rfl | rfl <;> rfl)
  have ONES := Lib.hid (show ∀ y ∈ g.its, ∀ c ∈ y.cells, c.oneCell' = true from by
    intro y hy
    obtain ⟨p, c, he, _⟩ := (hg.1.2.1 y hy).1.len
    intro u hu
    unfold It.cells at hu
    rw [he] at hu
    simp at hu
    rcases hu with rfl | rfl | rfl | rfl <;> rfl)
  have hxn := hx.2.2.2.1
  have hxt := hx.2.2.2.2
  obtain ⟨a3, c3, ex, _, _⟩ := hx.1.len
  obtain ⟨a4, c4, eg1, _, _⟩ := hg.1.1.len
  obtain ⟨a5, c5, eg2, _, _⟩ := hg.1.2.2.len
  obtain ⟨xn, xt, xk, xa, xe⟩ := x
  obtain ⟨fr, en, iv, its, gv, gs, last⟩ := g
  simp only at ex eg1 eg2 hxn hxt hgl
  subst ex eg1 eg2
  unfold It.cells at P1 ⊢
  unfold Pg.cells at P3 MORE ⊢
  simp only at P1 P2 P3 MORE FE SX ⊢
  obtain ⟨W0, hW0⟩ : ∃ W0, (w.alloc (.cells #[.int .u64 xn, .int .u64 xt, .string xk, .slice a3 xe.length c3] 46)).alloc (.cells #[.int .u64 fr, .int .u64 en, .slice a4 its.length c4, .slice a5 gs.length c5, .bool last] 50) = W0 := ⟨_, rfl⟩
  have k0 : Old w W0 := by rw [← hW0]; exact ((Keeps.refl _ _).alloc _).alloc _
  obtain ⟨b0, b1⟩ := two_blocks w (.cells #[.int .u64 xn, .int .u64 xt, .string xk, .slice a3 xe.length c3] 46) (.cells #[.int .u64 fr, .int .u64 en, .slice a4 its.length c4, .slice a5 gs.length c5, .bool last] 50)
  rw [hW0] at b0 b1
  have B := Lib.hid (And.intro k0 (And.intro b0 b1))
  have g0 := blk4 b0
  have HN := Lib.hid (And.intro hxn (And.intro hxt hgl))
  clear k0 b0 b1 hx hg hxn hxt hgl
  go_enter Try.func5, Try.ntmps5
  go_wp2_with fail
  refine (P1.out _ B.out.1).mono ?_
  rintro e w1 ⟨p1, d1, z1, L1, rfl, k1, s1, h1⟩
  have R1 := Lib.hid (And.intro k1 s1)
  clear g0 k1 s1
  rcases h1 with ⟨x1, x2, rfl⟩ | ⟨x1, x2, rfl⟩
  case inr =>
    clear x1 x2
    go_wp2_with fail
    refine (wakes_any _).mono ?_
    rintro e w9 ⟨rfl, k9⟩
    have K9 := Lib.hid k9
    clear k9
    go_wp2_with fail
    go_ret
    exact ⟨rfl, B.out.1.trans (R1.out.1.trans K9.out)⟩
  have X1 := Lib.hid (And.intro x1 x2)
  have hm1 : L1.length ≤ 9223372036854775807 := by rw [x2]; have := FL.out x1; omega
  have g0 := blk4 ((R1.out.1.block _ (lt_of_heap B.out.2.1) (fun f => f)).trans B.out.2.1)
  clear x1 x2
  go_wp2_with fail
  refine (P2.out _ (B.out.1.trans R1.out.1)).mono ?_
  rintro e w2 ⟨p2, d2, z2, L2, rfl, k2, s2, h2⟩
  have hev := (itOk_ev X1.out.1).1
  have x2 : L2 = evForm xk xe := by
    rcases h2 with ⟨_, y2, _⟩ | ⟨y1, _⟩
    · exact y2
    · have e : evOk xk xe = true := hev
      rw [e] at y1; cases y1
  have hl2 : L2.length ≤ 800 := by rw [x2]; exact FE.out hev
  have X2 := Lib.hid x2
  have R2 := Lib.hid (And.intro (R1.out.1.trans k2) (And.intro s2 (R1.out.2.old k2)))
  clear g0 k2 s2 h2 hev x2
  go_upto_region 5 with fail
  go_cut [39] (fun v wc => ∃ wx : World, wx = wc ∧ v = .bool false ∧ Old w2 wx)
  case first =>
    have b0 := (R2.out.1.block _ (lt_of_heap B.out.2.1) (fun f => f)).trans B.out.2.1
    have HB0 := Lib.hid b0
    clear b0
    refine wp_region_g (S := fun W' => Old w2 W') (M := List.range 12) (by kernel_rfl) ?_
    have hS : Old w2 w2.drew := (Keeps.refl _ _).drew
    refine wpAnyG_takeL (i := 0) (oi := _) (v := ?va0) rfl (by kernel_rfl) (by kernel_rfl) (by kernel_rfl) (by kernel_rfl) (fun _ _ _ h => h) (Or.inl ⟨by rfl, ?ya0⟩) hS ?ra0
    case ya0 => (intro W hSw; go_simp; try with_reducible rfl)
    try simp only [Act.put, List.setIfInBounds_toArray, List.set_cons_zero, List.set_cons_succ]
    refine wpAnyG_takeL (i := 1) (oi := _) (v := ?va1) rfl (by kernel_rfl) (by kernel_rfl) (by kernel_rfl) (by kernel_rfl) (fun _ _ _ h => h) (Or.inl ⟨by rfl, ?ya1⟩) hS ?ra1
    case ya1 => (intro W hSw; have tt := (R2.out.2.2.old hSw).text; go_simp; try with_reducible rfl)
    try simp only [Act.put, List.setIfInBounds_toArray, List.set_cons_zero, List.set_cons_succ]
    refine wpAnyG_takeL (i := 2) (oi := _) (v := ?va2) rfl (by kernel_rfl) (by kernel_rfl) (by kernel_rfl) (by kernel_rfl) (fun _ _ _ h => h) (Or.inl ⟨by rfl, ?ya2⟩) hS ?ra2
    case ya2 => (intro W hSw; go_simp; try with_reducible rfl)
    try simp only [Act.put, List.setIfInBounds_toArray, List.set_cons_zero, List.set_cons_succ]
    refine wpAnyG_takeL (i := 3) (oi := _) (v := ?va3) rfl (by kernel_rfl) (by kernel_rfl) (by kernel_rfl) (by kernel_rfl) (fun _ _ _ h => h) (Or.inl ⟨by rfl, ?ya3⟩) hS ?ra3
    case ya3 => (intro W hSw; have tt := blk4 ((hSw.block _ (lt_of_heap HB0.out) (fun f => f)).trans HB0.out); go_simp; try with_reducible rfl)
    try simp only [Act.put, List.setIfInBounds_toArray, List.set_cons_zero, List.set_cons_succ]
    refine wpAnyG_takeL (i := 5) (oi := _) (v := ?va5) rfl (by kernel_rfl) (by kernel_rfl) (by kernel_rfl) (by kernel_rfl) (fun _ _ _ h => h) (Or.inl ⟨by rfl, ?ya5⟩) hS ?ra5
    case ya5 => (intro W hSw; go_simp; try with_reducible rfl)
    try simp only [Act.put, List.setIfInBounds_toArray, List.set_cons_zero, List.set_cons_succ]
    refine wpAnyG_takeL (i := 6) (oi := _) (v := ?va6) rfl (by kernel_rfl) (by kernel_rfl) (by kernel_rfl) (by kernel_rfl) (fun _ _ _ h => h) (Or.inl ⟨by rfl, ?ya6⟩) hS ?ra6
    case ya6 => (intro W hSw; have tt := blk4 ((hSw.block _ (lt_of_heap HB0.out) (fun f => f)).trans HB0.out); go_simp; try with_reducible rfl)
    try simp only [Act.put, List.setIfInBounds_toArray, List.set_cons_zero, List.set_cons_succ]
    refine wpAnyG_takeL (i := 8) (oi := _) (v := ?va8) rfl (by kernel_rfl) (by kernel_rfl) (by kernel_rfl) (by kernel_rfl) (fun _ _ _ h => h) (Or.inl ⟨by rfl, ?ya8⟩) hS ?ra8
    case ya8 => (intro W hSw; go_simp; try with_reducible rfl)
    try simp only [Act.put, List.setIfInBounds_toArray, List.set_cons_zero, List.set_cons_succ]
    refine wpAnyG_onlyL (i := 4) (o := _) (by kernel_rfl) rfl (fun K hK => ?_)
    go_simp
    refine (num_any (.slice none 0 0) [] xn _ (Sees.nil _) (by simp) HN.out.1).mono ?_
    rintro e y1 ⟨q1, n1, e1, rfl, ho1, kr⟩
    have hS1 : Old w2 y1 := hS.trans kr
    clear kr
    go_wp2_with fail
    refine hK.out _ _ (fun _ => hS1) ?_
    clear hK K
    try simp only [Act.put, List.setIfInBounds_toArray, List.set_cons_zero, List.set_cons_succ]
    refine wpAnyG_onlyL (i := 7) (o := _) (by kernel_rfl) rfl (fun K hK => ?_)
    go_simp
    refine (num_any _ _ xt _ ho1.sees (by have := form_le10 HN.out.1; simp; omega) HN.out.2.1).mono ?_
    rintro e y2 ⟨q2, n2, e2, rfl, ho2, kr⟩
    have hS2 : Old w2 y2 := hS1.trans kr
    have hz2 : y1.heap.size ≤ y2.heap.size := kr.size
    clear kr
    go_wp2_with fail
    refine hK.out _ _ (fun _ => hS2) ?_
    clear hK K
    try simp only [Act.put, List.setIfInBounds_toArray, List.set_cons_zero, List.set_cons_succ]
    refine wpAnyG_onlyL (i := 9) (o := _) (by kernel_rfl) rfl (fun K hK => ?_)
    refine step_append_bytes rfl _ _ rfl y1.heap.size _ _ (by rfl) ho2 _ L2 (by rfl) (R2.out.2.1.old hS2) (by have := form_le10 HN.out.1; have := form_le10 HN.out.2.1; simp; omega) hz2 ?_
    intro v3 y3 ho3 hg3
    have hS3 : Old w2 y3 := hS2.grown hg3 (fun b hb hlt => by have := (ho2.block b hb).1; have := hS1.size; omega)
    refine hK.out _ _ (fun _ => hS3) ?_
    clear hK K
    try simp only [Act.put, List.setIfInBounds_toArray, List.set_cons_zero, List.set_cons_succ]
    have e3 : [] ++ form xn ++ form xt ++ L2 = L1 := by rw [X2.out, X1.out.2]; rfl
    rw [e3] at ho3
    have O3 := Lib.hid ho3
    have bs := bytes_self ⟨L1.toArray⟩
    clear ho1 ho2 ho3 hg3 hz2 e3
    have tt := O3.out.sees.text
    refine wpAnyG_onlyL (i := 10) (o := _) (by kernel_rfl) rfl (fun K hK => ?_)
    go_simp
    go_wp2_with fail
    refine hK.out _ _ (fun _ => hS3) ?_
    clear hK K
    try simp only [Act.put, List.setIfInBounds_toArray, List.set_cons_zero, List.set_cons_succ]
    clear tt
    refine wpAnyG_takeL (i := 11) (oi := _) (v := ?vb11) rfl (by kernel_rfl) (by kernel_rfl) (by kernel_rfl) (by kernel_rfl) (fun _ _ _ h => h) (Or.inl ⟨by rfl, ?yb11⟩) hS3 ?rb11
    case yb11 => (intro W hSw; go_simp; try with_reducible rfl)
    try simp only [Act.put, List.setIfInBounds_toArray, List.set_cons_zero, List.set_cons_succ]
    refine wpAnyG_done (by kernel_rfl) ?_ _
    go_simp
    go_wp2_with fail
    go_meet
    case rel => exact ⟨_, rfl, rfl, hS3⟩
  obtain ⟨wx, rfl, rfl, hcut⟩ := hcut
  have hlx : its.length ≤ 1000000000 := HN.out.2.2
  obtain ⟨X, hX⟩ : ∃ X, wx.alloc (.cells #[.int .u64 fr, .int .u64 en, .slice a4 its.length c4, .slice a5 gs.length c5, .bool last] 50) = X := ⟨_, rfl⟩
  have bX : X.heap[wx.heap.size]? = some (.cells #[.int .u64 fr, .int .u64 en, .slice a4 its.length c4, .slice a5 gs.length c5, .bool last] 50 (0, 0)) := by rw [← hX]; exact heap_alloc_new _ _
  have zX : X.heap.size = wx.heap.size + 1 := by rw [← hX]; simp
  have kX : Old wx X := by rw [← hX]; exact (Keeps.refl _ _).alloc _
  have kx : Old W0 wx := R2.out.1.trans hcut
  have bx1 := (kx.block _ (lt_of_heap B.out.2.2) (fun f => f)).trans B.out.2.2
  have b1 := (kX.block _ (lt_of_heap bx1) (fun f => f)).trans bx1
  have b0 := ((kx.trans kX).block _ (lt_of_heap B.out.2.1) (fun f => f)).trans B.out.2.1
  have g1 := blk5 bx1
  have S5 := Lib.hid (And.intro (R2.out.2.2.old hcut) (And.intro b0 (And.intro b1 (And.intro bX (And.intro zX (And.intro kX kx))))))
  clear hcut R1 R2 P1 P2 FL FE X2 b0 b1 bX zX kX kx bx1
  go_upto_region 8 with fail
  try rw [hX]
  clear hX g1
  obtain ⟨xx, hxx⟩ : ∃ y : It, y = ⟨xn, xt, xk, .slice a3 xe.length c3, xe⟩ := ⟨_, rfl⟩
  have HXX := Lib.hid hxx
  have ONEX := Lib.hid (show ∀ y ∈ [xx], ∀ c ∈ y.cells, c.oneCell' = true from fun y hy => by (have e : y = xx := (by simpa using hy)); rw [e, hxx]; exact ONE.out)
  clear hxx
  go_cut [] (fun wd => ∃ wy : World, wy = wd ∧ Old wx wy ∧ ∃ v, wy.heap[wx.heap.size]? = some (.cells #[.int .u64 fr, .int .u64 en, v, .slice a5 gs.length c5, .bool last] 50 (0, 0)) ∧ OwnsR wy (wx.heap.size + 1) 46 4 It.cells v (its ++ [xx]))
  case first =>
    have HLN := Lib.hid (show ([] : List It).length + its.length ≤ maxLen ∧ (([] : List It).length + its.length) * 56 ≤ 140737488355328 ∧ ([] ++ its).length + [xx].length ≤ maxLen ∧ (([] ++ its).length + [xx].length) * 56 ≤ 140737488355328 from by unfold maxLen; simp; omega)
    have SEEN := Lib.hid (show ∀ W : World, SeesR (W.alloc (.cells #[.int .u64 (xn : Int), .int .u64 (xt : Int), .string xk, .slice a3 xe.length c3] 46)) 4 It.cells (.slice (some ⟨W.heap.size, 0, none⟩) 1 1) [xx] from fun W => SeesR.new W _ (0, 0) [xx] _ (by rw [HXX.out]; rfl) (fun _ => rfl) (by unfold maxLen; simp))
    refine wp_region_g (S := fun W' => Old X W') (M := List.range 7) (by kernel_rfl) ?_
    have hS : Old X X.drew := (Keeps.refl _ _).drew
    refine wpAnyG_takeL (i := 0) (oi := _) (v := ?vc0) rfl (by kernel_rfl) (by kernel_rfl) (by kernel_rfl) (by kernel_rfl) (fun _ _ _ h => h) (Or.inl ⟨by rfl, ?yc0⟩) hS ?rc0
    case yc0 => (intro W hSw; go_simp; try with_reducible rfl)
    try simp only [Act.put, List.setIfInBounds_toArray, List.set_cons_zero, List.set_cons_succ]
    refine wpAnyG_takeL (i := 1) (oi := _) (v := ?vc1) rfl (by kernel_rfl) (by kernel_rfl) (by kernel_rfl) (by kernel_rfl) (fun _ _ _ h => h) (Or.inl ⟨by rfl, ?yc1⟩) hS ?rc1
    case yc1 => (intro W hSw; have tt := blk5 ((hSw.block _ (lt_of_heap S5.out.2.2.1) (fun f => f)).trans S5.out.2.2.1); go_simp; try with_reducible rfl)
    try simp only [Act.put, List.setIfInBounds_toArray, List.set_cons_zero, List.set_cons_succ]
    refine wpAnyG_takeL (i := 3) (oi := _) (v := ?vc3) rfl (by kernel_rfl) (by kernel_rfl) (by kernel_rfl) (by kernel_rfl) (fun _ _ _ h => h) (Or.inl ⟨by rfl, ?yc3⟩) hS ?rc3
    case yc3 => (intro W hSw; have tt := blk4 ((hSw.block _ (lt_of_heap S5.out.2.1) (fun f => f)).trans S5.out.2.1); go_simp; try with_reducible rfl)
    try simp only [Act.put, List.setIfInBounds_toArray, List.set_cons_zero, List.set_cons_succ]
    refine wpAnyG_ready (rs := [2, 4]) (by kernel_rfl) (by simp) ?_
    refine AllReadyG.cons (o := _) rfl (fun K hK => ?_) (AllReadyG.cons (o := _) rfl (fun K hK => ?_) AllReadyG.nil)
    · refine step_append_rows (P := Try.prog) rfl _ _ 47 rfl (wx.heap.size + 1) 46 4 56 It.cells _ Try.underlying47 Try.infoItem rfl (by decide) (.slice none 0 0) [] (by rfl) (OwnsR.nil _ _) _ its (by rfl) (SX.out.old (B.out.1.trans (S5.out.2.2.2.2.2.2.trans (S5.out.2.2.2.2.2.1.trans hS)))) (fun _ _ => rfl) ONES.out HLN.out.1 HLN.out.2.1 (Nat.le_trans (Nat.le_of_eq S5.out.2.2.2.2.1.symm) hS.size) ?_
      intro v1 y1 ho1 hg1 _
      have hS1 : Old X y1 := hS.grown hg1 (fun k hk => by simp [Value.ownBlock] at hk)
      refine hK.out _ _ (fun _ => hS1) ?_
      clear hK K
      try simp only [Act.put, List.setIfInBounds_toArray]
      refine wpAnyG_onlyL (i := 4) (o := _) (by kernel_rfl) rfl (fun K hK => ?_)
      go_simp
      refine hK.out _ _ (fun _ => hS1.alloc _) ?_
      clear hK K
      try simp only [Act.put, List.setIfInBounds_toArray, List.set_cons_zero, List.set_cons_succ]
      refine wpAnyG_onlyL (i := 5) (o := _) (by kernel_rfl) rfl (fun K hK => ?_)
      have hSN : Old X (y1.alloc (.cells #[.int .u64 (xn : Int), .int .u64 (xt : Int), .string xk, .slice a3 xe.length c3] 46)) := hS1.alloc _
      refine step_append_rows (P := Try.prog) rfl _ _ 47 rfl (wx.heap.size + 1) 46 4 56 It.cells _ Try.underlying47 Try.infoItem rfl (by decide) v1 ([] ++ its) (by rfl) (ho1.alloc _) _ [xx] (by rfl) (SEEN.out y1) (fun _ _ => rfl) ONEX.out HLN.out.2.2.1 HLN.out.2.2.2 (Nat.le_trans (Nat.le_of_eq S5.out.2.2.2.2.1.symm) hSN.size) ?_
      intro v2 y2 ho2 hg2 _
      have hS3 : Old X y2 := hSN.grown hg2 (fun b hb hlt => by have := (ho1.block b hb).1; have := S5.out.2.2.2.2.1; omega)
      refine hK.out _ _ (fun _ => hS3) ?_
      clear hK K
      try simp only [Act.put, List.setIfInBounds_toArray, List.set_cons_zero, List.set_cons_succ]
      obtain ⟨pv2, cv2, ev2, _, _⟩ := (ho2.sees (fun _ => rfl) (by decide)).len
      subst ev2
      have bl := blk5 ((hS3.block _ (lt_of_heap S5.out.2.2.2.1) (fun f => f)).trans S5.out.2.2.2.1)
      have O2 := Lib.hid ho2
      clear ho1 hg1 ho2 hg2
      refine wpAnyG_onlyL (i := 6) (o := _) (by kernel_rfl) rfl (fun K hK => ?_)
      go_simp
      refine hK.out _ _ (fun _ => hS3) ?_
      clear hK K
      try simp only [Act.put, List.setIfInBounds_toArray, List.set_cons_zero, List.set_cons_succ]
      refine wpAnyG_onlyL (i := 7) (o := _) (by kernel_rfl) rfl (fun K hK => ?_)
      go_simp
      refine hK.out _ _ (fun h => by simp at h) ?_
      clear hK K
      try simp only [Act.put, List.setIfInBounds_toArray, List.set_cons_zero, List.set_cons_succ]
      refine wpAnyG_done (by kernel_rfl) ?_ _
      go_simp
      go_wp2_with fail
      go_meet
      case rel =>
        refine ⟨_, rfl, S5.out.2.2.2.2.2.1.trans hS3 |>.then (keepS _ (Keeps.refl _ _)) (fun i hi e => by omega), .slice pv2 (its.length + 1) cv2, ?_, ?_⟩
        · have h5 := heap_setCell_same y2 wx.heap.size 2 _ _ (.slice pv2 (its.length + 1) cv2) ((hS3.block _ (lt_of_heap S5.out.2.2.2.1) (fun f => f)).trans S5.out.2.2.2.1)
          simpa using h5
        · have h6 : OwnsR y2 (wx.heap.size + 1) 46 4 It.cells (.slice pv2 (its.length + 1) cv2) (its ++ [xx]) := by simpa using O2.out
          exact h6.keeps (keepS (ep := wx.heap.size) (i := 2) _ (Keeps.refl _ _)) (fun b hb e => by have := (h6.block b hb).1; omega)
    · go_simp
      have hS1 : Old X (X.drew.alloc (.cells #[.int .u64 (xn : Int), .int .u64 (xt : Int), .string xk, .slice a3 xe.length c3] 46)) := hS.alloc _
      have SE1 := SEEN.out X.drew
      refine hK.out _ _ (fun _ => hS1) ?_
      clear hK K
      try simp only [Act.put, List.setIfInBounds_toArray, List.set_cons_zero, List.set_cons_succ]
      refine wpAnyG_onlyL (i := 2) (o := _) (by kernel_rfl) rfl (fun K hK => ?_)
      refine step_append_rows (P := Try.prog) rfl _ _ 47 rfl (wx.heap.size + 1) 46 4 56 It.cells _ Try.underlying47 Try.infoItem rfl (by decide) (.slice none 0 0) [] (by rfl) (OwnsR.nil _ _) _ its (by rfl) (SX.out.old (B.out.1.trans (S5.out.2.2.2.2.2.2.trans (S5.out.2.2.2.2.2.1.trans hS1)))) (fun _ _ => rfl) ONES.out HLN.out.1 HLN.out.2.1 (Nat.le_trans (Nat.le_of_eq S5.out.2.2.2.2.1.symm) hS1.size) ?_
      intro v1 y1 ho1 hg1 _
      have hSN : Old X y1 := hS1.grown hg1 (fun k hk => by simp [Value.ownBlock] at hk)
      have SE2 := SE1.old ((Keeps.refl (fun _ => False) _).grown hg1 (fun k hk => by simp [Value.ownBlock] at hk))
      refine hK.out _ _ (fun _ => hSN) ?_
      clear hK K
      try simp only [Act.put, List.setIfInBounds_toArray, List.set_cons_zero, List.set_cons_succ]
      clear SE1
      refine wpAnyG_onlyL (i := 5) (o := _) (by kernel_rfl) rfl (fun K hK => ?_)
      refine step_append_rows (P := Try.prog) rfl _ _ 47 rfl (wx.heap.size + 1) 46 4 56 It.cells _ Try.underlying47 Try.infoItem rfl (by decide) v1 ([] ++ its) (by rfl) ho1 _ [xx] (by rfl) SE2 (fun _ _ => rfl) ONEX.out HLN.out.2.2.1 HLN.out.2.2.2 (Nat.le_trans (Nat.le_of_eq S5.out.2.2.2.2.1.symm) hSN.size) ?_
      intro v2 y2 ho2 hg2 _
      have hS3 : Old X y2 := hSN.grown hg2 (fun b hb hlt => by have := (ho1.block b hb).1; have := S5.out.2.2.2.2.1; omega)
      refine hK.out _ _ (fun _ => hS3) ?_
      clear hK K
      try simp only [Act.put, List.setIfInBounds_toArray, List.set_cons_zero, List.set_cons_succ]
      obtain ⟨pv2, cv2, ev2, _, _⟩ := (ho2.sees (fun _ => rfl) (by decide)).len
      subst ev2
      have bl := blk5 ((hS3.block _ (lt_of_heap S5.out.2.2.2.1) (fun f => f)).trans S5.out.2.2.2.1)
      have O2 := Lib.hid ho2
      clear ho1 hg1 ho2 hg2 SE2
      refine wpAnyG_onlyL (i := 6) (o := _) (by kernel_rfl) rfl (fun K hK => ?_)
      go_simp
      refine hK.out _ _ (fun _ => hS3) ?_
      clear hK K
      try simp only [Act.put, List.setIfInBounds_toArray, List.set_cons_zero, List.set_cons_succ]
      refine wpAnyG_onlyL (i := 7) (o := _) (by kernel_rfl) rfl (fun K hK => ?_)
      go_simp
      refine hK.out _ _ (fun h => by simp at h) ?_
      clear hK K
      try simp only [Act.put, List.setIfInBounds_toArray, List.set_cons_zero, List.set_cons_succ]
      refine wpAnyG_done (by kernel_rfl) ?_ _
      go_simp
      go_wp2_with fail
      go_meet
      case rel =>
        refine ⟨_, rfl, S5.out.2.2.2.2.2.1.trans hS3 |>.then (keepS _ (Keeps.refl _ _)) (fun i hi e => by omega), .slice pv2 (its.length + 1) cv2, ?_, ?_⟩
        · have h5 := heap_setCell_same y2 wx.heap.size 2 _ _ (.slice pv2 (its.length + 1) cv2) ((hS3.block _ (lt_of_heap S5.out.2.2.2.1) (fun f => f)).trans S5.out.2.2.2.1)
          simpa using h5
        · have h6 : OwnsR y2 (wx.heap.size + 1) 46 4 It.cells (.slice pv2 (its.length + 1) cv2) (its ++ [xx]) := by simpa using O2.out
          exact h6.keeps (keepS (ep := wx.heap.size) (i := 2) _ (Keeps.refl _ _)) (fun b hb e => by have := (h6.block b hb).1; omega)
  obtain ⟨wy, rfl, ky, vy, hb, ho⟩ := hcut
  have k1 : Old W0 wy := S5.out.2.2.2.2.2.2.trans ky
  have L1s := S5.out.1.old ky
  have b1 := (k1.block _ (lt_of_heap B.out.2.2) (fun f => f)).trans B.out.2.2
  have g1 := blk5 b1
  rw [HXX.out] at ho
  obtain ⟨py, cy, ey, _, _⟩ := (ho.sees (fun _ => rfl) (by decide)).len
  subst ey
  simp only [List.length_append, List.length_cons, List.length_nil, Nat.zero_add] at hb ho
  have S6 := Lib.hid (And.intro k1 (And.intro hb ho))
  clear ky hb ho k1 b1 L1s S5 ONE ONES ONEX SX HXX
  go_wp2_with fail
  refine (P3.out _ (B.out.1.trans S6.out.1)).mono ?_
  rintro e w3 ⟨p3, d3, z3, L3, rfl, k3, s3, h3⟩
  have R3 := Lib.hid (And.intro k3 h3)
  have q1 := (k3.block _ (lt_of_heap S6.out.2.1) (fun f => f)).trans S6.out.2.1
  have g2 := blk5 q1
  have OW := Lib.hid (S6.out.2.2.keeps k3 (fun _ _ f => f))
  have hm3 : L3.length ≤ 9223372036854775807 := by obtain ⟨_, _, _, g1, g2⟩ := s3.len; unfold maxLen at g2; omega
  have l3 := s3
  clear g1 k3 s3 h3 q1 l3
  go_wp2_with fail
  refine (MORE.out _ (B.out.1.trans (S6.out.1.trans R3.out.1)) _ _ OW.out).mono ?_
  rintro e w4 ⟨p4, d4, z4, L4, rfl, k4, s4, h4⟩
  have K4 := Lib.hid (S6.out.1.trans (R3.out.1.trans k4))
  have hm4 : L4.length ≤ 9223372036854775807 := by obtain ⟨_, _, _, g1, g2⟩ := s4.len; unfold maxLen at g2; omega
  clear g2 k4 s4
  rcases R3.out.2 with ⟨x3, y3, rfl⟩ | ⟨x3, y3, rfl⟩
  case inr =>
    clear x3 y3 h4
    go_wp2_with fail
    refine (wakes_any _).mono ?_
    rintro e w9 ⟨rfl, k9⟩
    have K9 := Lib.hid k9
    clear k9
    go_wp2_with fail
    go_ret
    exact ⟨rfl, B.out.1.trans (K4.out.trans K9.out)⟩
  rcases h4 with ⟨x4, y4, rfl⟩ | ⟨x4, y4, rfl⟩
  case inr =>
    clear x3 y3 x4 y4
    go_wp2_with fail
    refine (wakes_any _).mono ?_
    rintro e w9 ⟨rfl, k9⟩
    have K9 := Lib.hid k9
    clear k9
    go_wp2_with fail
    go_ret
    exact ⟨rfl, B.out.1.trans (K4.out.trans K9.out)⟩
  have hlen : L4.length = L3.length + L1.length := by
    rw [y3, y4, X1.out.2]
    have h := LAW.out x4
    unfold Pg.plain
    simp only [List.map_append, List.map_cons, List.map_nil]
    exact h
  have hle : L3.length + L1.length ≤ 9223372036854775807 := by omega
  have heq : ((L4.length : Int) == (L3.length : Int) + (L1.length : Int)) = true := by rw [beq_iff_eq]; omega
  clear x3 y3 x4 y4 hlen
  go_wp2_with fail
  refine (wakes_any _).mono ?_
  rintro e w9 ⟨rfl, k9⟩
  have K9 := Lib.hid k9
  clear k9
  go_wp2_with fail
  go_ret
  exact ⟨rfl, B.out.1.trans (K4.out.trans K9.out)⟩
end Go.Proofs.Ytlpbbcjmmhabfaa

namespace Go.Proofs.Ytlpbbcjmmhabfaa
open Go.ChangeShapes Go.WideShapes Go.ChangeAt Go.RowKit

set_option maxRecDepth 100000 in
theorem walk_CodecNested {H : Type} (enc : TypeId × Value → H) (W : World) (base : Nat) {v0 v1 : Value} {d0 d1 : DataW H} {p0 p1 : List MemPlace}
    (hv0 : Value.okWide Try.prog W .any base 46 v0) (h0 : DataW.Trod enc Try.prog W 0 (fun _ => true) true 46 v0 d0 p0)
    (hv1 : Value.okWide Try.prog W .any base 50 v1) (h1 : DataW.Trod enc Try.prog W 0 (fun _ => true) true 50 v1 d1 p1)
    (hk : Rows.uptoBulkAll [d0, d1] ≤ 1048576) :
    Calls Try.prog 5 #[v0, v1] W fun e W' => e = .returned (.bool true) ∧ Below W.heap.size W W' := by
  obtain ⟨x, rfl, hx⟩ := read_item hv0 h0
  obtain ⟨g, rfl, hg, hgl⟩ := read_page hv1 h1
  simp only [Rows.uptoBulkAll] at hk
  exact (nested_any x g W hx hg (by omega)).mono fun e W' h => ⟨h.1, Old.below h.2⟩
end Go.Proofs.Ytlpbbcjmmhabfaa

namespace Go.Proofs.Ytlpbbcjmmhabfaa.codecNested
open Go.ChangeShapes Go.WideShapes Go.ChangeAt Go.RowKit
theorem own : ownKnob Try.prog.godebug = none := by kernel_rfl
theorem laidOut : laidOutB Try.prog = true := by kernel_rfl

set_option maxRecDepth 100000 in
theorem lifted (os : Os) (started : os.Started) (H : Type) (enc : TypeId × Value → H) (F : Stop.Interp) :
    ReturnsInHanded {} Try.checked os 5 .any ((Rows.OpenSpec.upto Rows.codecNestedSpec).pre6 enc Try.prog Try.f5 Rows.codecNestedUptoRow.domain false) (((Rows.OpenSpec.upto Rows.codecNestedSpec).at F).post enc Try.prog Try.f5 false true false false) := by
  refine returnsInHanded_of_cond (C := Try.checked) (s := Rows.OpenSpec.upto Rows.codecNestedSpec) (k := Rows.uptoSmall) rfl own started (by kernel_rfl) Try.func5
    (OpenSpec.witness (enc := enc) (C := Try.checked) (s := Rows.OpenSpec.upto Rows.codecNestedSpec) (k := Rows.uptoSmall) rfl false ⟨#[], #[.agg #[.int .u64 0, .int .u64 0, .string ⟨#[]⟩, .slice none 0 0], .agg #[.int .u64 0, .int .u64 0, .slice none 0 0, .slice none 0 0, .bool false]], []⟩ 8 (by kernel_rfl) (by kernel_rfl) (by kernel_rfl)
      (x := ([.agg [.lit (.int .u64 0), .lit (.int .u64 0), .agg [.lit (.string []), .nil]], .agg [.lit (.int .u64 0), .lit (.int .u64 0), .nil, .nil, .lit (.bool false)]], [], [])) (by kernel_rfl) rfl (by kernel_rfl)) ?_
  intro W base args ds gs before hval0 hW _ hk0 _
  have hval : ∀ (j : Nat) t v, Try.f5.params[j]? = some t → args[j]? = some v → Value.okWide Try.prog W .any base t v := hval0
  have hW' := hW
  obtain ⟨p, q, hA0, hV, rfl, hfz, hnd⟩ := hW
  have hA : DataW.TrodAll enc Try.prog W 0 (fun _ => true) true Try.f5.params.toList args.toList ds p := hA0
  rw [Try.params5] at hA hval
  obtain ⟨v0, vs0, d0, ds0, p0, q0, hargs, rfl, rfl, h0, r0⟩ := trodAll_cons hA
  obtain ⟨v1, vs1, d1, ds1, p1, q1, rfl, rfl, rfl, h1, r1⟩ := trodAll_cons r0
  obtain ⟨rfl, rfl, rfl⟩ := trodAll_nil r1
  obtain rfl : args = #[v0, v1] := by cases args; simp_all
  obtain ⟨rfl, rfl⟩ := trodVars_none hV
  have lt0 : ∀ x ∈ p0, x.block < W.heap.size := by obtain ⟨m, hm⟩ := h0; exact DataW.trod_lt m _ _ _ hm
  have lt1 : ∀ x ∈ p1, x.block < W.heap.size := by obtain ⟨m, hm⟩ := h1; exact DataW.trod_lt m _ _ _ hm
  have hk : Rows.uptoBulkAll [d0, d1] ≤ 1048576 := of_decide_eq_true hk0
  clear hA0 hval0
  refine (walk_CodecNested enc W base (hval 0 46 v0 rfl rfl) h0 (hval 1 50 v1 rfl rfl) h1 hk).mono fun e W' ⟨he, bel⟩ => ?_
  subst he
  exact ⟨_, rfl, _, _, _, [], _, [], hW', trodAll_mk1 (shut_bool Try.underlying4 _), (trodAll_cons_mk (Below.trod laidOut (by kernel_rfl) (of_decide_eq_true (by kernel_rfl)) h0 bel lt0) (trodAll_cons_mk (Below.trod laidOut (by kernel_rfl) (of_decide_eq_true (by kernel_rfl)) h1 bel lt1) trodAll_mk0)), rfl, bel.frame _, fun h => by cases h⟩

theorem proved : Rows.CodecNestedUptoSaid :=
  OpenClaim.holds_of_cond 5 Try.f5 rfl rfl rfl rfl rfl rfl rfl ⟨rfl, rfl, rfl, rfl, rfl⟩ rfl rfl rfl rfl rfl (by kernel_rfl) Try.func5 (by kernel_rfl)
    (of_decide_eq_true (by kernel_rfl)) (by unfold Func.isWrapper; first | (rw [if_pos (by decide +kernel)]; kernel_rfl) | (rw [if_neg (by decide +kernel)]; exact ⟨rfl, rfl⟩))
    (fun os started H enc _ F => lifted os started H enc F)
end Go.Proofs.Ytlpbbcjmmhabfaa.codecNested
