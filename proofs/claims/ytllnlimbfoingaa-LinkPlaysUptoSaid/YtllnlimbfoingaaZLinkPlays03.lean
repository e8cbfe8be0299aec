/- DERIVED. Chapter 20: the document's Out. -/
import Derived.Test.YtllnlimbfoingaaZLinkPlays02
import Derived.Deep.CutBlock
namespace Go.Proofs.Ytllnlimbfoingaa
open Go.RowKit Go.Conc

/-- packets that tell messages of the link's, numbered from k on -/
def Dv.pks (D : Dv) (k : Nat) : List Bv → List Pv
 | [] => []
 | x :: r => ⟨D.life, D.peer, k, D.next, x.1, x.2⟩ :: D.pks (k + 1) r
theorem pks_length (D : Dv) (k : Nat) (L : List Bv) : (D.pks k L).length = L.length := by
 induction L generalizing k with
 | nil => rfl
 | cons x r ih => simp [Dv.pks, ih]
theorem pks_plain (D : Dv) (k : Nat) (L : List Bv) : (D.pks k L).map Pv.plain = (num k (L.map (·.2))).map D.plain.pkt := by
 induction L generalizing k with
 | nil => rfl
 | cons x r ih => simp only [Dv.pks, List.map_cons, num, ih]; rfl
theorem pks_snoc (D : Dv) (k : Nat) (L : List Bv) (x : Bv) : D.pks k (L ++ [x]) = D.pks k L ++ [⟨D.life, D.peer, k + L.length, D.next, x.1, x.2⟩] := by
 induction L generalizing k with
 | nil => rfl
 | cons y r ih =>
  simp only [List.cons_append, Dv.pks, ih, List.length_cons]
  rw [show k + 1 + r.length = k + (r.length + 1) from by omega]
theorem mem_pks {D : Dv} {k : Nat} {L : List Bv} {p : Pv} (h : p ∈ D.pks k L) : ∃ x ∈ L, p.v = x.1 ∧ p.d = x.2 := by
 induction L generalizing k with
 | nil => cases h
 | cons y r ih =>
  rcases List.mem_cons.1 h with rfl | h
  ·exact ⟨y, by simp, rfl, rfl⟩
  ·obtain ⟨x, hx, e⟩ := ih h
   exact ⟨x, by simp [hx], e⟩
theorem bvs_slice {w : World} {W : List Bv} (h : ∀ x ∈ W, Sees w x.1 x.2 ∧ x.2.length ≤ 140737488355328) {x : Bv} (hx : x ∈ W) : ∃ p n c, x.1 = .slice p n c := by
 obtain ⟨p, k, e, _⟩ := (h x hx).1.len
 exact ⟨p, _, k, e⟩
/-- the first that go out: again -/
def Dv.olds (D : Dv) : List Bv := if D.again then D.F.drop D.done else []
/-- behind the first loop -/
def OutDA (w : World) (D : Dv) (v : Value) (wc : World) : Prop := OwnsR wc w.heap.size 34 5 Pv.cells v (D.pks (D.done + 1) D.olds) ∧ Old w wc
def room (D : Dv) : Nat := min (8 - (D.F.length - D.done)) D.W.length
theorem room_plain (D : Dv) : room D = D.plain.room := by
 unfold room Dp.room Dv.plain
 simp
/-- in the second loop: m moved -/
def OutDG (_T : Nat → Prop) (db : Nat) (w : World) (D : Dv) (m : Nat) (v : Value) (wm : World) : Prop :=
 ∃ wv fv : Value, OwnsR wm w.heap.size 34 5 Pv.cells v (D.pks (D.done + 1) D.olds ++ D.pks (D.F.length + 1) (D.W.take m)) ∧
  DkM wm db { D with wv := wv, W := D.W.drop m, fv := fv, F := D.F ++ D.W.take m } ∧ (∀ W, SeesR W 1 bvL D.wv D.W → SeesR W 1 bvL wv (D.W.drop m)) ∧
  (m = 0 ∧ fv = D.fv ∨ OwnsR wm w.heap.size 32 1 bvL fv (D.F ++ D.W.take m) ∧ ∀ b, fv.ownBlock = some b → v.ownBlock ≠ some b) ∧ Keeps (fun k => k = db) w wm
/-- what Out hands back and leaves -/
def OutD (T : Nat → Prop) (db : Nat) (w : World) (P : Dp) (e : Ending) (w' : World) : Prop :=
 ∃ (X : List Pv) (p : Option Addr) (n c : Nat), e = .returned (.slice p n c) ∧ SeesR w' 5 Pv.cells (.slice p n c) X ∧ (∀ x ∈ X, Sees w' x.v x.d ∧ x.d.length ≤ 140737488355328) ∧ X.map Pv.plain = P.outs ∧ Dk T w' db P.out ∧ Keeps (fun k => k = db) w w'
theorem outD_of {T : Nat → Prop} {w wf : World} {db : Nat} {D : Dv} {wv fv vo : Value} (X : List Pv) (h0 : DkM w db D) (h1 : ¬ T db) (h2 : ∀ k, T k → k < w.heap.size) (h6 : ∀ w', Keeps (fun k => k = db ∨ T k) w w' → D.reads w')
  (hdk : DkM wf db { D with wv := wv, W := D.W.drop (room D), fv := fv, F := D.F ++ D.W.take (room D) }) (hwv : ∀ W, SeesR W 1 bvL D.wv D.W → SeesR W 1 bvL wv (D.W.drop (room D)))
  (hfv : room D = 0 ∧ fv = D.fv ∨ OwnsR wf w.heap.size 32 1 bvL fv (D.F ++ D.W.take (room D))) (hk : Keeps (fun k => k = db) w wf) (ho : OwnsR wf w.heap.size 34 5 Pv.cells vo X) (hpl : X.map Pv.plain = D.plain.outs)
  (hd : ∀ p ∈ X, p.v = .slice none 0 0 ∧ p.d = [] ∨ ∃ x ∈ D.F ++ D.W, p.v = x.1 ∧ p.d = x.2) : OutD T db w D.plain (.returned vo) ((wf.setCell ⟨db, 6, none⟩ (.bool false)).setCell ⟨db, 7, none⟩ (.bool false)) := by
 have hlt := lt_of_block h0
 have k2 : Keeps (fun j => j = db) wf ((wf.setCell ⟨db, 6, none⟩ (.bool false)).setCell ⟨db, 7, none⟩ (.bool false)) := setAt (setAt (Keeps.refl _ _) 6 _) 7 _
 obtain ⟨wz, hwz⟩ : ∃ wz, (wf.setCell ⟨db, 6, none⟩ (.bool false)).setCell ⟨db, 7, none⟩ (.bool false) = wz := ⟨_, rfl⟩
 have m2 := (hdk.set 6 (.bool false) { D with wv := wv, W := D.W.drop (room D), fv := fv, F := D.F ++ D.W.take (room D), again := false } rfl).set 7 (.bool false) { D with wv := wv, W := D.W.drop (room D), fv := fv, F := D.F ++ D.W.take (room D), again := false, owes := false } rfl
 rw [hwz] at k2 m2 ⊢
 have kz := hk.trans k2
 have hrz := h6 wz (kz.weaken (fun _ _ e => .inl e))
 have ho2 := ho.keeps k2 (fun b hb e => by have := (ho.block b hb).1; omega)
 obtain ⟨p, c, hv, _, _⟩ := (ho2.sees (fun _ => rfl) (by decide)).len
 subst hv
 refine ⟨X, p, X.length, c, rfl, ho2.sees (fun _ => rfl) (by decide), fun x hx => ?_, hpl, ⟨_, ?_, m2, h1, fun k t => Nat.lt_of_lt_of_le (h2 k t) kz.size, fun w3 k3 => ?_⟩, kz⟩
 ·rcases hd x hx with ⟨e1, e2⟩ | ⟨y, hy, e1, e2⟩
  ·rw [e1, e2]; exact ⟨Sees.nil _, by simp⟩
  ·rw [e1, e2]
   rcases List.mem_append.1 hy with hy | hy
   ·exact hrz.2.2.2 y hy
   ·exact hrz.2.2.1 y hy
 ·unfold Dv.plain Dp.out
  rw [← show (Dv.plain D).room = room D from (room_plain D).symm]
  unfold Dv.plain
  simp only [List.map_append, List.map_drop, List.map_take]
 ·have hr3 := h6 w3 ((kz.weaken (T := fun k => k = db ∨ T k) (fun _ _ e => .inl e)).trans k3)
  refine ⟨hwv w3 hr3.1, ?_, fun x hx => hr3.2.2.1 x (List.mem_of_mem_drop hx), fun x hx => ?_⟩
  ·rcases hfv with ⟨e1, e2⟩ | hf
   ·show SeesR w3 1 bvL fv (D.F ++ D.W.take (room D))
    rw [e1, e2]
    simpa using hr3.2.1
   ·have hb := hf.block
    refine ((hf.keeps k2 (fun b hb' e => by have := (hb b hb').1; omega)).sees (fun _ => rfl) (by decide)).keeps k3 (fun b hb' e => ?_)
    have := (hb b hb').1
    rcases e with e | e
    ·omega
    ·have := h2 b e; omega
  ·rcases List.mem_append.1 hx with hx | hx
   ·exact hr3.2.2.2 x hx
   ·exact hr3.2.2.1 x (List.mem_of_mem_take hx)
theorem outs_list (D : Dv) : (D.pks (D.done + 1) D.olds ++ D.pks (D.F.length + 1) (D.W.take (room D))).map Pv.plain = (D.plain.olds ++ num (D.plain.F.length + 1) (D.plain.W.take D.plain.room)).map D.plain.pkt := by
 rw [List.map_append, pks_plain, pks_plain, List.map_append, ← room_plain]
 congr 1
 ·congr 1
  unfold Dv.olds Dp.olds
  show num (D.done + 1) ((if D.again = true then D.F.drop D.done else []).map (·.2)) = if D.again = true then num (D.done + 1) ((D.F.map (·.2)).drop D.done) else []
  split
  ·rw [List.map_drop]
  ·rfl
 ·show (num (D.F.length + 1) ((D.W.take (room D)).map (·.2))).map _ = (num ((D.F.map (·.2)).length + 1) ((D.W.map (·.2)).take (room D))).map _
  rw [List.length_map, List.map_take]
theorem outs_of (D : Dv) (l : List Pv) (hl : l = D.pks (D.done + 1) D.olds ++ D.pks (D.F.length + 1) (D.W.take (room D))) : D.plain.outs = if (l.isEmpty && D.owes) = true then [D.plain.pkt (0, [])] else l.map Pv.plain := by
 have h := outs_list D
 rw [← hl] at h
 unfold Dp.outs
 rw [← h]
 dsimp only
 have e : (l.map Pv.plain).isEmpty = l.isEmpty := by cases l <;> rfl
 rw [e]
 rfl
theorem mem_out {D : Dv} {p : Pv} (h : p ∈ D.pks (D.done + 1) D.olds ++ D.pks (D.F.length + 1) (D.W.take (room D))) : ∃ x ∈ D.F ++ D.W, p.v = x.1 ∧ p.d = x.2 := by
 rcases List.mem_append.1 h with h | h
 ·obtain ⟨x, hx, e⟩ := mem_pks h
  refine ⟨x, List.mem_append_left _ ?_, e⟩
  unfold Dv.olds at hx
  split at hx
  ·exact List.mem_of_mem_drop hx
  ·cases hx
 ·obtain ⟨x, hx, e⟩ := mem_pks h
  exact ⟨x, List.mem_append_right _ (List.mem_of_mem_take hx), e⟩
set_option maxRecDepth 100000 in
set_option maxHeartbeats 2000000 in
theorem dk_out {T : Nat → Prop} {w : World} {db : Nat} {P : Dp} (h : Dk T w db P) (hdn : P.done ≤ P.F.length) (hn : P.F.length + P.W.length ≤ 1000) :
  Calls Try.prog 20 #[.pointer (some ⟨db, 0, none⟩)] w (OutD T db w P) := by
 obtain ⟨D, rfl, h0, h1, h2, h6⟩ := h
 have hlt := lt_of_block h0
 have hdn : D.done ≤ D.F.length := by simpa [Dv.plain] using hdn
 have hn : D.F.length + D.W.length ≤ 1000 := by simpa [Dv.plain] using hn
 obtain ⟨⟨c0, c1, c2, c3, c4, c5, c6, c7, c8⟩, ⟨f0, f1, f2, f3, f4, f5, f6, f7, f8⟩⟩ := blk9 h0
 have hr := h6 w (Keeps.refl _ _)
 obtain ⟨fp, fc, hfv, _⟩ := hr.2.1.len
 obtain ⟨fn, hfn⟩ : ∃ n, D.F.length = n := ⟨_, rfl⟩
 obtain ⟨ag, hag⟩ : ∃ z, D.again = z := ⟨_, rfl⟩
 have H := Lib.hid (And.intro h0 (And.intro h1 (And.intro h2 (And.intro h6 (And.intro hlt (And.intro hdn (And.intro hn (And.intro hfn (And.intro hag (And.intro hfv (bvs_one hr.2.2.1)))))))))))
 rw [hfv, hfn] at c3
 rw [hag] at c6
 have hfn0 : fn ≤ 1000 := by omega
 clear h0 h1 h2 h6 hlt hdn hn hr hfv hfn hag
 go_enter Try.func20, Try.ntmps20
 go_upto_block 0 with fail
 go_cut [3] (fun v3 wc => OutDA w D v3 wc)
 case first =>
  go_wp2_with fail
  go_loopg [3, 4] (fn - D.done) (fun n v3 v4 wm => ∃ k : Nat, D.done ≤ k ∧ k ≤ fn ∧ n = fn - k ∧ v4 = .int .i64 (k : Int) ∧ (k = D.done ∨ ag = true) ∧ OwnsR wm w.heap.size 34 5 Pv.cells v3 (D.pks (D.done + 1) ((D.F.drop D.done).take (k - D.done))) ∧ Old w wm)
  case atStart => exact ⟨D.done, Nat.le_refl _, by have := H.out; omega, rfl, rfl, .inl rfl, by simpa [Dv.pks] using OwnsR.nil _ _, Keeps.refl _ _⟩
  case round =>
   obtain ⟨k, hk1, hk2, rfl, rfl, hka, ho, hkw⟩ := hrel
   have hw1 := hkw.block db H.out.2.2.2.2.1 (fun f => f)
   obtain ⟨⟨x0, x1, x2, x3, x4, x5, x6, x7, x8⟩, ⟨y0, y1, y2, y3, y4, y5, y6, y7, y8⟩⟩ := blk9 (hw1.trans H.out.1)
   rw [H.out.2.2.2.2.2.2.2.2.2.1, H.out.2.2.2.2.2.2.2.1] at x3
   rw [H.out.2.2.2.2.2.2.2.2.1] at x6
   obtain ⟨q3, e3, rfl, _, _⟩ := (ho.sees (fun _ => rfl) (by decide)).len
   by_cases hlt : k < fn
   ·have g1 : decide ((k : Int) < (fn : Int)) = true := by simp; omega
    have g1' : decide (k < fn) = true := by simp; omega
    cases ag with
    | false =>
     have G := Lib.hid (And.intro ho (And.intro hkw (And.intro hka hk1)))
     clear ho hkw hka hw1
     go_wp2_with fail
     go_meet
     case rel =>
      obtain ⟨ho, hkw, hka, hk1⟩ := G.out
      obtain rfl : k = D.done := by rcases hka with h | h; exact h; cases h
      refine ⟨?_, hkw⟩
      have hag := H.out.2.2.2.2.2.2.2.2.1
      have : D.olds = (D.F.drop D.done).take (D.done - D.done) := by unfold Dv.olds; rw [hag]; simp
      rw [this]
      exact ho
    | true =>
     have hrr := H.out.2.2.2.1 wr (hkw.weaken (fun _ _ f => f.elim))
     obtain ⟨fb, fo, fc', hfa, _, _, hat⟩ := hrr.2.1.at (by rw [H.out.2.2.2.2.2.2.2.1]; omega)
     rw [H.out.2.2.2.2.2.2.2.1, H.out.2.2.2.2.2.2.2.2.2.1, H.out.2.2.2.2.2.2.2.1] at hfa
     simp only [Value.slice.injEq, true_and] at hfa
     obtain ⟨rfl, rfl⟩ := hfa
     obtain ⟨⟨bv, bd⟩, hbx⟩ : ∃ x, D.F[k]? = some x := ⟨_, List.getElem?_eq_getElem (by rw [H.out.2.2.2.2.2.2.2.1]; exact hlt)⟩
     obtain ⟨bp, bn, bc, rfl⟩ := bvs_slice hrr.2.2.2 (List.mem_of_getElem? hbx)
     have rc0 : wr.cell? ⟨fb, fo + k, none⟩ = some (.slice bp bn bc) := by
      have := hat k _ hbx 0 _ rfl
      simpa using this
     have hw1' : IntKind.i64.wrap ((k : Int) + 1) = (k : Int) + 1 := by rw [IntKind.wrap_i64]; omega
     obtain ⟨q, hq⟩ : ∃ q, k + 1 = q := ⟨_, rfl⟩
     have hw2' : IntKind.u64.wrap ((k : Int) + 1) = (q : Int) := by rw [IntKind.wrap_u64]; omega
     have i1 : (0 : Int) ≤ (k : Int) := by omega
     have i2 : (k : Int) < (fn : Int) := by omega
     have hS : wr.drew.heap[db]? = some (.cells D.cells.toArray 55 (0, 0)) ∧ wr.drew.cell? ⟨fb, fo + k, none⟩ = some (.slice bp bn bc) := ⟨hw1.trans H.out.1, rc0⟩
     have hflt : fb < wr.heap.size := World.block_lt_of_cell? wr _ rc0
     have hfw : fb < w.heap.size := by
      obtain ⟨fb', fo', fc2, hfa, _, _, hat⟩ := (H.out.2.2.2.1 w (Keeps.refl _ _)).2.1.at (by rw [H.out.2.2.2.2.2.2.2.1]; omega)
      rw [H.out.2.2.2.2.2.2.2.2.2.1] at hfa
      simp only [Value.slice.injEq, Option.some.injEq, Addr.mk.injEq, true_and, and_true] at hfa
      obtain ⟨⟨rfl, rfl⟩, _⟩ := hfa
      exact World.block_lt_of_cell? w _ (hat k _ hbx 0 _ rfl)
     have G := Lib.hid (And.intro ho (And.intro hkw (And.intro hka (And.intro hk1 (And.intro hk2 (And.intro hbx (And.intro hflt (And.intro hfw hq))))))))
     have hob := ho.block
     have HO := Lib.hid hob
     have hxl : ((D.F.drop D.done).take (k - D.done)).length = k - D.done := by rw [List.length_take, List.length_drop, H.out.2.2.2.2.2.2.2.1]; omega
     have hpl : (D.pks (D.done + 1) ((D.F.drop D.done).take (k - D.done))).length = k - D.done := by rw [pks_length, hxl]
     rw [hpl]
     have HPL := Lib.hid (And.intro hpl hxl)
     clear ho hkw hka hw1 hrr hat hbx hflt hfw hob hxl hpl rc0 hq
     go_upto_region 5 with fail
     refine wp_region_g (S := fun W => W.heap[db]? = some (.cells D.cells.toArray 55 (0, 0)) ∧ W.cell? ⟨fb, fo + k, none⟩ = some (.slice bp bn bc)) (M := (List.range 27)) (by kernel_rfl) ?_
     obtain ⟨wd, hwd⟩ : ∃ wd, wr.drew = wd := ⟨_, rfl⟩
     have KD : Hid (Old wr wd) := Lib.hid (by rw [← hwd]; exact (Keeps.refl (fun _ => False) wr).drew)
     rw [hwd] at hS ⊢
     clear hwd
     refine wpAnyG_takeL (i := 0) (oi := _) (v := ?vt0) rfl (by kernel_rfl) (by kernel_rfl) (by kernel_rfl) (by kernel_rfl) (fun _ _ _ h => h) (Or.inl ⟨by rfl, ?yt0⟩) hS ?rt0
     case yt0 => (intro W hSw; obtain ⟨⟨v0, v1, v2, v3, v4, v5, v6, v7, v8⟩, -⟩ := blk9 hSw.1; rw [H.out.2.2.2.2.2.2.2.2.2.1, H.out.2.2.2.2.2.2.2.1] at v3; have v9 := hSw.2; go_simp; try with_reducible rfl)
     try simp only [Act.put, List.setIfInBounds_toArray, List.set_cons_zero, List.set_cons_succ]
     refine wpAnyG_takeL (i := 1) (oi := _) (v := ?vt1) rfl (by kernel_rfl) (by kernel_rfl) (by kernel_rfl) (by kernel_rfl) (fun _ _ _ h => h) (Or.inl ⟨by rfl, ?yt1⟩) hS ?rt1
     case yt1 => (intro W hSw; obtain ⟨⟨v0, v1, v2, v3, v4, v5, v6, v7, v8⟩, -⟩ := blk9 hSw.1; rw [H.out.2.2.2.2.2.2.2.2.2.1, H.out.2.2.2.2.2.2.2.1] at v3; have v9 := hSw.2; go_simp; try with_reducible rfl)
     try simp only [Act.put, List.setIfInBounds_toArray, List.set_cons_zero, List.set_cons_succ]
     refine wpAnyG_takeL (i := 2) (oi := _) (v := ?vt2) rfl (by kernel_rfl) (by kernel_rfl) (by kernel_rfl) (by kernel_rfl) (fun _ _ _ h => h) (Or.inl ⟨by rfl, ?yt2⟩) hS ?rt2
     case yt2 => (intro W hSw; obtain ⟨⟨v0, v1, v2, v3, v4, v5, v6, v7, v8⟩, -⟩ := blk9 hSw.1; rw [H.out.2.2.2.2.2.2.2.2.2.1, H.out.2.2.2.2.2.2.2.1] at v3; have v9 := hSw.2; go_simp; try with_reducible rfl)
     try simp only [Act.put, List.setIfInBounds_toArray, List.set_cons_zero, List.set_cons_succ]
     refine wpAnyG_takeL (i := 3) (oi := _) (v := ?vt3) rfl (by kernel_rfl) (by kernel_rfl) (by kernel_rfl) (by kernel_rfl) (fun _ _ _ h => h) (Or.inl ⟨by rfl, ?yt3⟩) hS ?rt3
     case yt3 => (intro W hSw; obtain ⟨⟨v0, v1, v2, v3, v4, v5, v6, v7, v8⟩, -⟩ := blk9 hSw.1; rw [H.out.2.2.2.2.2.2.2.2.2.1, H.out.2.2.2.2.2.2.2.1] at v3; have v9 := hSw.2; go_simp; try with_reducible rfl)
     try simp only [Act.put, List.setIfInBounds_toArray, List.set_cons_zero, List.set_cons_succ]
     refine wpAnyG_takeL (i := 4) (oi := _) (v := ?vt4) rfl (by kernel_rfl) (by kernel_rfl) (by kernel_rfl) (by kernel_rfl) (fun _ _ _ h => h) (Or.inl ⟨by rfl, ?yt4⟩) hS ?rt4
     case yt4 => (intro W hSw; obtain ⟨⟨v0, v1, v2, v3, v4, v5, v6, v7, v8⟩, -⟩ := blk9 hSw.1; rw [H.out.2.2.2.2.2.2.2.2.2.1, H.out.2.2.2.2.2.2.2.1] at v3; have v9 := hSw.2; go_simp; try with_reducible rfl)
     try simp only [Act.put, List.setIfInBounds_toArray, List.set_cons_zero, List.set_cons_succ]
     refine wpAnyG_takeL (i := 5) (oi := _) (v := ?vt5) rfl (by kernel_rfl) (by kernel_rfl) (by kernel_rfl) (by kernel_rfl) (fun _ _ _ h => h) (Or.inl ⟨by rfl, ?yt5⟩) hS ?rt5
     case yt5 => (intro W hSw; obtain ⟨⟨v0, v1, v2, v3, v4, v5, v6, v7, v8⟩, -⟩ := blk9 hSw.1; rw [H.out.2.2.2.2.2.2.2.2.2.1, H.out.2.2.2.2.2.2.2.1] at v3; have v9 := hSw.2; go_simp; try with_reducible rfl)
     try simp only [Act.put, List.setIfInBounds_toArray, List.set_cons_zero, List.set_cons_succ]
     refine wpAnyG_takeL (i := 6) (oi := _) (v := ?vt6) rfl (by kernel_rfl) (by kernel_rfl) (by kernel_rfl) (by kernel_rfl) (fun _ _ _ h => h) (Or.inl ⟨by rfl, ?yt6⟩) hS ?rt6
     case yt6 => (intro W hSw; obtain ⟨⟨v0, v1, v2, v3, v4, v5, v6, v7, v8⟩, -⟩ := blk9 hSw.1; rw [H.out.2.2.2.2.2.2.2.2.2.1, H.out.2.2.2.2.2.2.2.1] at v3; have v9 := hSw.2; go_simp; try with_reducible rfl)
     try simp only [Act.put, List.setIfInBounds_toArray, List.set_cons_zero, List.set_cons_succ]
     refine wpAnyG_takeL (i := 7) (oi := _) (v := ?vt7) rfl (by kernel_rfl) (by kernel_rfl) (by kernel_rfl) (by kernel_rfl) (fun _ _ _ h => h) (Or.inl ⟨by rfl, ?yt7⟩) hS ?rt7
     case yt7 => (intro W hSw; obtain ⟨⟨v0, v1, v2, v3, v4, v5, v6, v7, v8⟩, -⟩ := blk9 hSw.1; rw [H.out.2.2.2.2.2.2.2.2.2.1, H.out.2.2.2.2.2.2.2.1] at v3; have v9 := hSw.2; go_simp; try with_reducible rfl)
     try simp only [Act.put, List.setIfInBounds_toArray, List.set_cons_zero, List.set_cons_succ]
     refine wpAnyG_takeL (i := 8) (oi := _) (v := ?vt8) rfl (by kernel_rfl) (by kernel_rfl) (by kernel_rfl) (by kernel_rfl) (fun _ _ _ h => h) (Or.inl ⟨by rfl, ?yt8⟩) hS ?rt8
     case yt8 => (intro W hSw; obtain ⟨⟨v0, v1, v2, v3, v4, v5, v6, v7, v8⟩, -⟩ := blk9 hSw.1; rw [H.out.2.2.2.2.2.2.2.2.2.1, H.out.2.2.2.2.2.2.2.1] at v3; have v9 := hSw.2; go_simp; try with_reducible rfl)
     try simp only [Act.put, List.setIfInBounds_toArray, List.set_cons_zero, List.set_cons_succ]
     refine wpAnyG_takeL (i := 9) (oi := _) (v := ?vt9) rfl (by kernel_rfl) (by kernel_rfl) (by kernel_rfl) (by kernel_rfl) (fun _ _ _ h => h) (Or.inl ⟨by rfl, ?yt9⟩) hS ?rt9
     case yt9 => (intro W hSw; obtain ⟨⟨v0, v1, v2, v3, v4, v5, v6, v7, v8⟩, -⟩ := blk9 hSw.1; rw [H.out.2.2.2.2.2.2.2.2.2.1, H.out.2.2.2.2.2.2.2.1] at v3; have v9 := hSw.2; go_simp; try with_reducible rfl)
     try simp only [Act.put, List.setIfInBounds_toArray, List.set_cons_zero, List.set_cons_succ]
     refine wpAnyG_takeL (i := 10) (oi := _) (v := ?vt10) rfl (by kernel_rfl) (by kernel_rfl) (by kernel_rfl) (by kernel_rfl) (fun _ _ _ h => h) (Or.inl ⟨by rfl, ?yt10⟩) hS ?rt10
     case yt10 => (intro W hSw; obtain ⟨⟨v0, v1, v2, v3, v4, v5, v6, v7, v8⟩, -⟩ := blk9 hSw.1; rw [H.out.2.2.2.2.2.2.2.2.2.1, H.out.2.2.2.2.2.2.2.1] at v3; have v9 := hSw.2; go_simp; try with_reducible rfl)
     try simp only [Act.put, List.setIfInBounds_toArray, List.set_cons_zero, List.set_cons_succ]
     refine wpAnyG_takeL (i := 11) (oi := _) (v := ?vt11) rfl (by kernel_rfl) (by kernel_rfl) (by kernel_rfl) (by kernel_rfl) (fun _ _ _ h => h) (Or.inl ⟨by rfl, ?yt11⟩) hS ?rt11
     case yt11 => (intro W hSw; obtain ⟨⟨v0, v1, v2, v3, v4, v5, v6, v7, v8⟩, -⟩ := blk9 hSw.1; rw [H.out.2.2.2.2.2.2.2.2.2.1, H.out.2.2.2.2.2.2.2.1] at v3; have v9 := hSw.2; go_simp; try with_reducible rfl)
     try simp only [Act.put, List.setIfInBounds_toArray, List.set_cons_zero, List.set_cons_succ]
     refine wpAnyG_takeL (i := 12) (oi := _) (v := ?vt12) rfl (by kernel_rfl) (by kernel_rfl) (by kernel_rfl) (by kernel_rfl) (fun _ _ _ h => h) (Or.inl ⟨by rfl, ?yt12⟩) hS ?rt12
     case yt12 => (intro W hSw; obtain ⟨⟨v0, v1, v2, v3, v4, v5, v6, v7, v8⟩, -⟩ := blk9 hSw.1; rw [H.out.2.2.2.2.2.2.2.2.2.1, H.out.2.2.2.2.2.2.2.1] at v3; have v9 := hSw.2; go_simp; try with_reducible rfl)
     try simp only [Act.put, List.setIfInBounds_toArray, List.set_cons_zero, List.set_cons_succ]
     refine wpAnyG_takeL (i := 13) (oi := _) (v := ?vt13) rfl (by kernel_rfl) (by kernel_rfl) (by kernel_rfl) (by kernel_rfl) (fun _ _ _ h => h) (Or.inl ⟨by rfl, ?yt13⟩) hS ?rt13
     case yt13 => (intro W hSw; obtain ⟨⟨v0, v1, v2, v3, v4, v5, v6, v7, v8⟩, -⟩ := blk9 hSw.1; rw [H.out.2.2.2.2.2.2.2.2.2.1, H.out.2.2.2.2.2.2.2.1] at v3; have v9 := hSw.2; go_simp; try with_reducible rfl)
     try simp only [Act.put, List.setIfInBounds_toArray, List.set_cons_zero, List.set_cons_succ]
     refine wpAnyG_takeL (i := 14) (oi := _) (v := ?vt14) rfl (by kernel_rfl) (by kernel_rfl) (by kernel_rfl) (by kernel_rfl) (fun _ _ _ h => h) (Or.inl ⟨by rfl, ?yt14⟩) hS ?rt14
     case yt14 => (intro W hSw; obtain ⟨⟨v0, v1, v2, v3, v4, v5, v6, v7, v8⟩, -⟩ := blk9 hSw.1; rw [H.out.2.2.2.2.2.2.2.2.2.1, H.out.2.2.2.2.2.2.2.1] at v3; have v9 := hSw.2; go_simp; try with_reducible rfl)
     try simp only [Act.put, List.setIfInBounds_toArray, List.set_cons_zero, List.set_cons_succ]
     refine wpAnyG_takeL (i := 15) (oi := _) (v := ?vt15) rfl (by kernel_rfl) (by kernel_rfl) (by kernel_rfl) (by kernel_rfl) (fun _ _ _ h => h) (Or.inl ⟨by rfl, ?yt15⟩) hS ?rt15
     case yt15 => (intro W hSw; obtain ⟨⟨v0, v1, v2, v3, v4, v5, v6, v7, v8⟩, -⟩ := blk9 hSw.1; rw [H.out.2.2.2.2.2.2.2.2.2.1, H.out.2.2.2.2.2.2.2.1] at v3; have v9 := hSw.2; go_simp; try with_reducible rfl)
     try simp only [Act.put, List.setIfInBounds_toArray, List.set_cons_zero, List.set_cons_succ]
     refine wpAnyG_takeL (i := 16) (oi := _) (v := ?vt16) rfl (by kernel_rfl) (by kernel_rfl) (by kernel_rfl) (by kernel_rfl) (fun _ _ _ h => h) (Or.inl ⟨by rfl, ?yt16⟩) hS ?rt16
     case yt16 => (intro W hSw; obtain ⟨⟨v0, v1, v2, v3, v4, v5, v6, v7, v8⟩, -⟩ := blk9 hSw.1; rw [H.out.2.2.2.2.2.2.2.2.2.1, H.out.2.2.2.2.2.2.2.1] at v3; have v9 := hSw.2; go_simp; try with_reducible rfl)
     try simp only [Act.put, List.setIfInBounds_toArray, List.set_cons_zero, List.set_cons_succ]
     refine wpAnyG_takeL (i := 17) (oi := _) (v := ?vt17) rfl (by kernel_rfl) (by kernel_rfl) (by kernel_rfl) (by kernel_rfl) (fun _ _ _ h => h) (Or.inl ⟨by rfl, ?yt17⟩) hS ?rt17
     case yt17 => (intro W hSw; obtain ⟨⟨v0, v1, v2, v3, v4, v5, v6, v7, v8⟩, -⟩ := blk9 hSw.1; rw [H.out.2.2.2.2.2.2.2.2.2.1, H.out.2.2.2.2.2.2.2.1] at v3; have v9 := hSw.2; go_simp; try with_reducible rfl)
     try simp only [Act.put, List.setIfInBounds_toArray, List.set_cons_zero, List.set_cons_succ]
     refine wpAnyG_takeL (i := 18) (oi := _) (v := ?vt18) rfl (by kernel_rfl) (by kernel_rfl) (by kernel_rfl) (by kernel_rfl) (fun _ _ _ h => h) (Or.inl ⟨by rfl, ?yt18⟩) hS ?rt18
     case yt18 => (intro W hSw; obtain ⟨⟨v0, v1, v2, v3, v4, v5, v6, v7, v8⟩, -⟩ := blk9 hSw.1; rw [H.out.2.2.2.2.2.2.2.2.2.1, H.out.2.2.2.2.2.2.2.1] at v3; have v9 := hSw.2; go_simp; try with_reducible rfl)
     try simp only [Act.put, List.setIfInBounds_toArray, List.set_cons_zero, List.set_cons_succ]
     refine wpAnyG_takeL (i := 19) (oi := _) (v := ?vt19) rfl (by kernel_rfl) (by kernel_rfl) (by kernel_rfl) (by kernel_rfl) (fun _ _ _ h => h) (Or.inl ⟨by rfl, ?yt19⟩) hS ?rt19
     case yt19 => (intro W hSw; obtain ⟨⟨v0, v1, v2, v3, v4, v5, v6, v7, v8⟩, -⟩ := blk9 hSw.1; rw [H.out.2.2.2.2.2.2.2.2.2.1, H.out.2.2.2.2.2.2.2.1] at v3; have v9 := hSw.2; go_simp; try with_reducible rfl)
     try simp only [Act.put, List.setIfInBounds_toArray, List.set_cons_zero, List.set_cons_succ]
     refine wpAnyG_takeL (i := 20) (oi := _) (v := ?vt20) rfl (by kernel_rfl) (by kernel_rfl) (by kernel_rfl) (by kernel_rfl) (fun _ _ _ h => h) (Or.inl ⟨by rfl, ?yt20⟩) hS ?rt20
     case yt20 => (intro W hSw; obtain ⟨⟨v0, v1, v2, v3, v4, v5, v6, v7, v8⟩, -⟩ := blk9 hSw.1; rw [H.out.2.2.2.2.2.2.2.2.2.1, H.out.2.2.2.2.2.2.2.1] at v3; have v9 := hSw.2; go_simp; try with_reducible rfl)
     try simp only [Act.put, List.setIfInBounds_toArray, List.set_cons_zero, List.set_cons_succ]
     refine wpAnyG_takeL (i := 21) (oi := _) (v := ?vt21) rfl (by kernel_rfl) (by kernel_rfl) (by kernel_rfl) (by kernel_rfl) (fun _ _ _ h => h) (Or.inl ⟨by rfl, ?yt21⟩) hS ?rt21
     case yt21 => (intro W hSw; obtain ⟨⟨v0, v1, v2, v3, v4, v5, v6, v7, v8⟩, -⟩ := blk9 hSw.1; rw [H.out.2.2.2.2.2.2.2.2.2.1, H.out.2.2.2.2.2.2.2.1] at v3; have v9 := hSw.2; go_simp; try with_reducible rfl)
     try simp only [Act.put, List.setIfInBounds_toArray, List.set_cons_zero, List.set_cons_succ]
     refine wpAnyG_takeL (i := 22) (oi := _) (v := ?vt22) rfl (by kernel_rfl) (by kernel_rfl) (by kernel_rfl) (by kernel_rfl) (fun _ _ _ h => h) (Or.inl ⟨by rfl, ?yt22⟩) hS ?rt22
     case yt22 => (intro W hSw; obtain ⟨⟨v0, v1, v2, v3, v4, v5, v6, v7, v8⟩, -⟩ := blk9 hSw.1; rw [H.out.2.2.2.2.2.2.2.2.2.1, H.out.2.2.2.2.2.2.2.1] at v3; have v9 := hSw.2; go_simp; try with_reducible rfl)
     try simp only [Act.put, List.setIfInBounds_toArray, List.set_cons_zero, List.set_cons_succ]
     refine wpAnyG_onlyL (i := 23) (o := _) (by kernel_rfl) rfl (fun K hK => ?_)
     go_simp
     refine hK.out _ _ (fun _ => hS) ?_
     clear hK K
     try simp only [Act.put, List.setIfInBounds_toArray, List.set_cons_zero, List.set_cons_succ]
     refine wpAnyG_onlyL (i := 24) (o := _) (by kernel_rfl) rfl (fun K hK => ?_)
     go_simp
     obtain ⟨w3, hw3⟩ : ∃ w3, wd.alloc (.cells #[.int .u64 (D.life : Int), .int .u64 (D.peer : Int), .int .u64 (q : Int), .int .u64 (D.next : Int), .slice bp bn bc] 34) = w3 := ⟨_, rfl⟩
     have k3 : Old wd w3 := by rw [← hw3]; exact (Keeps.refl _ _).alloc _
     have k3' : Old wr w3 := KD.out.trans k3
     have sn : SeesR w3 5 Pv.cells (.slice (some ⟨wd.heap.size, 0, none⟩) 1 1) [(⟨D.life, D.peer, q, D.next, .slice bp bn bc, bd⟩ : Pv)] := by
      rw [← hw3]
      exact SeesR.new (k := 5) (enc := Pv.cells) wd _ (0, 0) [(⟨D.life, D.peer, q, D.next, .slice bp bn bc, bd⟩ : Pv)] _ rfl (fun _ => rfl) (by unfold maxLen; simp)
     have hS3 : w3.heap[db]? = some (.cells D.cells.toArray 55 (0, 0)) ∧ w3.cell? ⟨fb, fo + k, none⟩ = some (.slice bp bn bc) := ⟨(k3.block _ (lt_of_block hS.1) (fun f => f)).trans hS.1, k3.cell hS.2 (fun f => f)⟩
     have HN := Lib.hid (And.intro (show (D.pks (D.done + 1) ((D.F.drop D.done).take (k - D.done))).length + [(⟨D.life, D.peer, q, D.next, .slice bp bn bc, bd⟩ : Pv)].length ≤ maxLen by rw [HPL.out.1]; unfold maxLen; simp; omega) (And.intro (show ((D.pks (D.done + 1) ((D.F.drop D.done).take (k - D.done))).length + [(⟨D.life, D.peer, q, D.next, .slice bp bn bc, bd⟩ : Pv)].length) * 56 ≤ 140737488355328 by rw [HPL.out.1]; simp; omega) (Nat.le_trans G.out.2.1.size k3'.size)))
     have O3 := Lib.hid (And.intro k3' (And.intro sn (G.out.1.old k3')))
     clear k3 k3' sn
     rw [hw3]
     clear hw3
     refine hK.out _ _ (fun _ => hS3) ?_
     clear hK K
     try simp only [Act.put, List.setIfInBounds_toArray, List.set_cons_zero, List.set_cons_succ]
     refine wpAnyG_onlyL (i := 25) (o := _) (by kernel_rfl) rfl (fun K hK => ?_)
     refine step_append_rows (P := Try.prog) rfl _ _ 48 rfl w.heap.size 34 5 56 Pv.cells _ Try.underlying48 Try.infoPk20 rfl (by decide) _ (D.pks (D.done + 1) ((D.F.drop D.done).take (k - D.done))) (by rw [HPL.out.1]; rfl) O3.out.2.2 _ [(⟨D.life, D.peer, q, D.next, .slice bp bn bc, bd⟩ : Pv)] (by rfl) O3.out.2.1 (fun _ _ => rfl) (by simp [Pv.cells, Value.oneCell']) HN.out.1 HN.out.2.1 HN.out.2.2 ?_
     intro v' w4 ho4 hg4 hv4
     have k4 : Keeps (fun b => w.heap.size ≤ b) w3 w4 := (Keeps.refl _ _).grown hg4 (fun b hb _ => (HO.out b hb).1)
     have hS4 : w4.heap[db]? = some (.cells D.cells.toArray 55 (0, 0)) ∧ w4.cell? ⟨fb, fo + k, none⟩ = some (.slice bp bn bc) := ⟨(k4.block _ (lt_of_block hS3.1) (by have := H.out.2.2.2.2.1; omega)).trans hS3.1, k4.cell hS3.2 (by have := G.out.2.2.2.2.2.2.2.1; dsimp only; omega)⟩
     have O4 := Lib.hid (And.intro ho4 k4)
     clear ho4 k4 hg4 hv4 hS hS3
     refine hK.out _ _ (fun _ => hS4) ?_
     clear hK K
     try simp only [Act.put, List.setIfInBounds_toArray, List.set_cons_zero, List.set_cons_succ]
     refine wpAnyG_onlyL (i := 26) (o := _) (by kernel_rfl) rfl (fun K hK => ?_)
     go_simp
     refine hK.out _ _ (fun _ => hS4) ?_
     clear hK K
     try simp only [Act.put, List.setIfInBounds_toArray, List.set_cons_zero, List.set_cons_succ]
     refine wpAnyG_done (by kernel_rfl) ?_ _
     clear hS4
     go_wp2_with fail
     go_roundg (fn - (k + 1))
     case measure => omega
     case rel =>
      obtain ⟨ho, hkw, hka, hk1, hk2, hbx, hflt, hfw, hq⟩ := G.out
      refine ⟨k + 1, by omega, by omega, rfl, by go_num, .inr (by trivial), ?_, (hkw.trans O3.out.1).then O4.out.2 (fun i hi e => by omega)⟩
      have hlen := HPL.out.2
      have e : (D.F.drop D.done).take (k + 1 - D.done) = (D.F.drop D.done).take (k - D.done) ++ [((.slice bp bn bc, bd) : Bv)] := by
       rw [show k + 1 - D.done = (k - D.done) + 1 from by omega, List.take_add_one]
       congr 1
       rw [List.getElem?_drop, show D.done + (k - D.done) = k from by omega, hbx]
       rfl
      rw [e, pks_snoc, hlen, show D.done + 1 + (k - D.done) = q from by omega]
      exact O4.out.1
   ·have g1 : decide ((k : Int) < (fn : Int)) = false := by simp; omega
    have g1' : decide (k < fn) = false := by simp; omega
    have G := Lib.hid (And.intro ho (And.intro hkw (And.intro hka (And.intro hk1 (And.intro hk2 hlt)))))
    clear ho hkw hka hw1 hlt
    go_wp2_with fail
    go_meet
    case rel =>
     obtain ⟨ho, hkw, hka, hk1, hk2, hlt⟩ := G.out
     refine ⟨?_, hkw⟩
     have hfn := H.out.2.2.2.2.2.2.2.1
     have hag := H.out.2.2.2.2.2.2.2.2.1
     have : D.olds = (D.F.drop D.done).take (k - D.done) := by
      unfold Dv.olds
      rw [hag, List.take_of_length_le (by rw [List.length_drop]; omega)]
      rcases hka with h | h
      ·have : D.F.drop D.done = [] := List.drop_eq_nil_of_le (by omega)
       rw [this]; cases ag <;> rfl
      ·rw [h]; rfl
     rw [this]
     exact ho
 case rest =>
  obtain ⟨ho, hk⟩ := hcut
  have R := Lib.hid (And.intro ho hk)
  obtain ⟨o3, e3, rfl, _, _⟩ := (ho.sees (fun _ => rfl) (by decide)).len
  clear ho hk c0 c1 c2 c3 c4 c5 c6 c7 c8 f0 f1 f2 f3 f4 f5 f6 f7 f8
  go_upto_block 2 with fail
  go_cut [3] (fun v3 wc => OutDG T db w D (room D) v3 wc)
  case first =>
   go_wp2_with fail
   go_loopg [3, 5, 6] D.W.length (fun n v3 v5 v6 wm => ∃ m : Nat, m ≤ room D ∧ n = D.W.length - m ∧ OutDG T db w D m v3 wm)
   case atStart =>
    have hr := H.out.2.2.2.1 w (Keeps.refl _ _)
    refine ⟨0, Nat.zero_le _, rfl, D.wv, D.fv, ?_, ?_, ?_, ?_, R.out.2.weaken (fun _ _ f => f.elim)⟩
    ·simpa [Dv.pks] using R.out.1
    ·have := (R.out.2.block db H.out.2.2.2.2.1 (fun f => f)).trans H.out.1
     exact this
    ·exact fun W h => by simpa using h
    ·exact .inl ⟨rfl, rfl⟩
   case round =>
    obtain ⟨m, hm, rfl, wv, fv, ho, hdk, hwv, hfv, hkw⟩ := hrel
    have hrr := H.out.2.2.2.1 wr (hkw.weaken (fun _ _ e => .inl e))
    have hmW : m ≤ D.W.length := by unfold room at hm; omega
    have hsf : SeesR wr 1 bvL fv (D.F ++ D.W.take m) := by
     rcases hfv with ⟨rfl, rfl⟩ | ⟨hf, _⟩
     ·simpa using hrr.2.1
     ·exact hf.sees (fun _ => rfl) (by decide)
    have hsw := hwv _ hrr.1
    obtain ⟨fp, fc, rfl, _, _⟩ := hsf.len
    obtain ⟨wp, wc', rfl, _, _⟩ := hsw.len
    obtain ⟨a, ha⟩ : ∃ a, (D.F ++ D.W.take m).length = a := ⟨_, rfl⟩
    obtain ⟨b, hb⟩ : ∃ b, (D.W.drop m).length = b := ⟨_, rfl⟩
    have ha' : a = fn + m := by rw [← ha, List.length_append, List.length_take, H.out.2.2.2.2.2.2.2.1]; omega
    have hb' : b = D.W.length - m := by rw [← hb, List.length_drop]
    obtain ⟨⟨x0, x1, x2, x3, x4, x5, x6, x7, x8⟩, ⟨y0, y1, y2, y3, y4, y5, y6, y7, y8⟩⟩ := blk9 hdk
    simp only at x2 x3 x4
    rw [hb] at x2
    rw [ha] at x3
    obtain ⟨q3, e3', rfl, _, _⟩ := (ho.sees (fun _ => rfl) (by decide)).len
    obtain ⟨on, hon⟩ : ∃ n, (D.pks (D.done + 1) D.olds ++ D.pks (D.F.length + 1) (D.W.take m)).length = n := ⟨_, rfl⟩
    have hon' : on ≤ 2000 := by
     rw [← hon, List.length_append, pks_length, pks_length, List.length_take]
     have h1 : D.olds.length ≤ D.F.length := by unfold Dv.olds; split; exact (by rw [List.length_drop]; omega); simp
     have := H.out.2.2.2.2.2.2.1
     omega
    rw [hon]
    have hfnd : D.done ≤ fn := by have := H.out; omega
    have hfW : fn + D.W.length ≤ 1000 := by have := H.out.2.2.2.2.2.2; omega
    have hro : room D = min (8 - (fn - D.done)) D.W.length := by unfold room; rw [H.out.2.2.2.2.2.2.2.1]
    have G := Lib.hid (And.intro ho (And.intro hdk (And.intro hwv (And.intro hfv (And.intro hkw (And.intro hsf (And.intro hsw (And.intro ha (And.intro hb (And.intro hm hon))))))))))
    clear ho hdk hwv hfv hkw hsf hsw ha hb hm hon hrr
    go_upto_region 6 with fail
    go_cut [70] (fun v70 wt => ∃ t : Bool, v70 = .bool t ∧ t = decide (m < room D) ∧ Old wr wt)
    case first =>
     by_cases h0 : b = 0
     ·have g1 : decide ((b : Int) > 0) = false := by simp; omega
      have g1' : decide (0 < b) = false := by simp; omega
      have N0 := Lib.hid (show ¬ (m < room D) by omega)
      clear h0 ha' hb' hro hfnd hfW hmW
      go_quiet (fail)
      go_wp2_with fail
      go_meet
      case rel => exact ⟨false, rfl, (decide_eq_false N0.out).symm, (Keeps.refl (fun _ => False) wr).drewN _⟩
     ·have g1 : decide ((b : Int) > 0) = true := by simp; omega
      have g1' : decide (0 < b) = true := by simp; omega
      have hw1 : IntKind.i64.wrap ((a : Int) - (D.done : Int)) = (a : Int) - (D.done : Int) := by rw [IntKind.wrap_i64]; omega
      obtain ⟨t, ht⟩ : ∃ t, decide ((a : Int) - (D.done : Int) < 8) = t := ⟨_, rfl⟩
      have N0 := Lib.hid (show t = decide (m < room D) by rw [← ht]; apply decide_eq_decide.2; omega)
      clear h0 ha' hb' hro hfnd hfW hmW
      go_quiet (fail)
      go_wp2_with fail
      go_meet
      case rel => exact ⟨t, rfl, N0.out, (Keeps.refl (fun _ => False) wr).drewN _⟩
    case rest =>
     obtain ⟨t, rfl, ht, kt⟩ := hcut
     cases t with
     | false =>
      have G2 := Lib.hid (And.intro ht kt)
      clear ht kt
      go_wp2_with fail
      go_meet
      case rel =>
       obtain ⟨ho, hdk, hwv, hfv, hkw, hsf, hsw, ha, hb, hm, hon⟩ := G.out
       obtain ⟨ht, kt⟩ := G2.out
       have hme : m = room D := by have := of_decide_eq_false ht.symm; omega
       rw [← hme]
       rw [hon] at ho
       rw [hb] at hdk hwv
       rw [ha] at hdk
       refine ⟨_, _, by rw [← hon] at ho ⊢; exact ho.old kt, (kt.block db (lt_of_block hdk) (fun f => f)).trans hdk, hwv, ?_, hkw.trans (kt.weaken (fun _ _ f => f.elim))⟩
       rw [ha] at hfv
       rcases hfv with h | ⟨h1, h2⟩
       ·exact .inl h
       ·rw [hon] at h2
        exact .inr ⟨h1.old kt, h2⟩
     | true =>
      have hlt : m < room D := of_decide_eq_true ht.symm
      have hmW' : m < D.W.length := by unfold room at hlt; omega
      clear ht hro hmW
      obtain ⟨ho, hdk, hwv, hfv, hkw, hsf, hsw, ha, hb, hm, hon⟩ := G.out
      have kwt : Keeps (fun k => k = db) w wc := hkw.trans (kt.weaken (fun _ _ f => f.elim))
      have hrt := H.out.2.2.2.1 wc (kwt.weaken (fun _ _ e => .inl e))
      obtain ⟨⟨bv, bd⟩, hbx⟩ : ∃ x, D.W[m]? = some x := ⟨_, List.getElem?_eq_getElem hmW'⟩
      obtain ⟨bp, bn, bc, rfl⟩ := bvs_slice hrt.2.2.1 (List.mem_of_getElem? hbx)
      obtain ⟨rb, ro, rc, hrv, _, _, hat⟩ := (hsw.old kt).at (by rw [hb]; omega)
      rw [hb] at hrv
      simp only [Value.slice.injEq, true_and] at hrv
      obtain ⟨rfl, rfl⟩ := hrv
      have rc0 : wc.cell? ⟨rb, ro, none⟩ = some (.slice bp bn bc) := by
       have := hat 0 (.slice bp bn bc, bd) (by simpa using hbx) 0 _ rfl
       simpa using this
      have dkt := (kt.block db (lt_of_block hdk) (fun f => f)).trans hdk
      obtain ⟨⟨x0, x1, x2, x3, x4, x5, x6, x7, x8⟩, ⟨y0, y1, y2, y3, y4, y5, y6, y7, y8⟩⟩ := blk9 dkt
      simp only at x2 x3 x4
      rw [hb] at x2
      rw [ha] at x3
      obtain ⟨sp, sc, hsl, hsl2⟩ := SeesR.from (T := 53) (E := 32) (n := b) (by rw [← hb]; exact hsw) 1 (by rw [hb]; omega) Try.underlying53 (by kernel_rfl) .i64 1 rfl
      rw [hb] at hsl hsl2
      rw [ha] at hsf
      have hone : ∀ x ∈ D.F ++ D.W.take m, ∀ c ∈ bvL x, c.oneCell' = true := by
       refine bvs_one (w := wc) (fun x hx => ?_)
       rcases List.mem_append.1 hx with hx | hx
       ·exact hrt.2.2.2 x hx
       ·exact hrt.2.2.1 x (List.mem_of_mem_take hx)
      have hal : a + 1 ≤ 1001 := by omega
      have hal2 : a = fn + m ∧ b = D.W.length - m := ⟨ha', hb'⟩
      have HA := Lib.hid (And.intro (hsf.old kt) (And.intro hone (And.intro (show ([] : List Bv).length + (D.F ++ D.W.take m).length ≤ maxLen by rw [ha]; unfold maxLen; simp; omega) (And.intro (show (([] : List Bv).length + (D.F ++ D.W.take m).length) * 24 ≤ 140737488355328 by rw [ha]; simp; omega) kwt.size))))
      have G2 := Lib.hid (And.intro kt (And.intro kwt (And.intro hbx (And.intro hsl2 (And.intro hmW' (And.intro dkt (And.intro hlt (And.intro hal hal2))))))))
      have HA' := Lib.hid ha
      have HB' := Lib.hid hb
      clear ho hdk hwv hfv hkw hsf hsw ha hb hm hon kt kwt hrt hbx hat hsl2 hmW' hone dkt hlt hal hal2 ha' hb'
      go_upto_region 9 with (at_builtin; go_loud (refine wpList_append_rows (P := Try.prog) rfl _ _ 53 rfl w.heap.size 32 1 24 bvL _ Try.underlying53 Try.infoSl rfl (by decide) (.slice none 0 0) [] (by rfl) (OwnsR.nil _ _) _ (D.F ++ D.W.take m) (by rfl) HA.out.1 (fun _ _ => rfl) HA.out.2.1 HA.out.2.2.1 HA.out.2.2.2.1 HA.out.2.2.2.2 ?_; intro v1 w1 ho1 hg1 hv1))
      rw [List.nil_append] at ho1
      have k1 : Old wc w1 := (Keeps.refl _ _).grown hg1 (fun k h => by cases h)
      obtain ⟨q1, e1, hv1', _⟩ := (ho1.sees (fun _ => rfl) (by decide)).len
      rw [HA'.out] at hv1'
      subst hv1'
      have hnb1 : ∀ bb, (Value.slice q1 a e1).ownBlock = some bb → wc.heap.size ≤ bb ∧ bb < w1.heap.size := fun bb hbb => by
       rcases hv1 with e | e
       ·rw [e] at hbb; cases hbb
       ·rw [e] at hbb
        obtain rfl := Option.some.inj hbb
        exact ⟨Nat.le_refl _, (ho1.block _ e).2⟩
      have dk1 := (k1.block db (lt_of_block G2.out.2.2.2.2.2.1) (fun f => f)).trans G2.out.2.2.2.2.2.1
      have rc1 := k1.cell rc0 (fun f => f)
      obtain ⟨w3, hw3⟩ : ∃ w3, w1.alloc (.cells #[.slice bp bn bc] 32) = w3 := ⟨_, rfl⟩
      have k3 : Old w1 w3 := by rw [← hw3]; exact (Keeps.refl _ _).alloc _
      have sn : SeesR w3 1 bvL (.slice (some ⟨w1.heap.size, 0, none⟩) 1 1) [((.slice bp bn bc, bd) : Bv)] := by
       rw [← hw3]
       exact SeesR.new (k := 1) (enc := bvL) w1 _ (0, 0) [(.slice bp bn bc, bd)] _ rfl (fun _ => rfl) (by unfold maxLen; simp)
      have dk3 := (k3.block db (lt_of_block dk1) (fun f => f)).trans dk1
      obtain ⟨⟨z0, z1, z2, z3, z4, z5, z6, z7, z8⟩, ⟨j0, j1, j2, j3, j4, j5, j6, j7, j8⟩⟩ := blk9 dk1
      obtain ⟨⟨i0, i1, i2, i3, i4, i5, i6, i7, i8⟩, ⟨g0, g1, g2, g3, g4, g5, g6, g7, g8⟩⟩ := blk9 dk3
      have HN := Lib.hid (And.intro (show (D.F ++ D.W.take m).length + [((.slice bp bn bc, bd) : Bv)].length ≤ maxLen by rw [HA'.out]; unfold maxLen; have := G2.out.2.2.2.2.2.2.2.1; simp; omega) (And.intro (show ((D.F ++ D.W.take m).length + [((.slice bp bn bc, bd) : Bv)].length) * 24 ≤ 140737488355328 by rw [HA'.out]; have := G2.out.2.2.2.2.2.2.2.1; simp; omega)
       (Nat.le_trans HA.out.2.2.2.2 (Nat.le_trans k1.size k3.size))))
      have O3 := Lib.hid (And.intro (ho1.old k3) (And.intro sn (And.intro k1 (And.intro k3 (And.intro dk3 hnb1)))))
      clear ho1 hg1 hv1 k1 k3 sn dk1 dk3 rc0 x0 x1 x2 x3 x4 x5 x6 x7 x8 y0 y1 y2 y3 y4 y5 y6 y7 y8 hnb1 z0 z1 z3 z4 z5 z6 z7 z8 j0 j1 j2 j3 j4 j5 j6 j7 j8 i0 i1 i4 i5 i6 i7 i8 g0 g1 g4 g5 g6 g7 g8
      simp only at z2 i2 i3
      rw [HB'.out] at i2
      have hpos : 0 < b := by have := G2.out; omega
      obtain ⟨a1, ha1⟩ : ∃ a1, a + 1 = a1 := ⟨_, rfl⟩
      have HA1 := Lib.hid ha1
      clear ha1
      have HDB : Hid (db < wc.heap.size) := Lib.hid (lt_of_block G2.out.2.2.2.2.2.1)
      rw [HB'.out] at z2
      rw [HA'.out] at i3
      go_upto_region 10 with (at_builtin; go_loud (refine wpList_append_rows (P := Try.prog) rfl _ _ 53 rfl w.heap.size 32 1 24 bvL _ Try.underlying53 Try.infoSl rfl (by decide) (.slice q1 a e1) (D.F ++ D.W.take m) (by rfl) O3.out.1 _ [((.slice bp bn bc, bd) : Bv)] (by rfl) O3.out.2.1 (fun _ _ => rfl) (by simp [bvL, Value.oneCell']) HN.out.1 HN.out.2.1 HN.out.2.2 ?_; intro v4 w4 ho4 hg4 hv4; have k4 : Keeps (fun k => wc.heap.size ≤ k ∧ k < w1.heap.size) w3 w4 := (Keeps.refl _ _).grown hg4 (fun k hb _ => O3.out.2.2.2.2.2 k hb); obtain ⟨p4, c4, hv4', _⟩ := (ho4.sees (fun _ => rfl) (by decide)).len; rw [List.length_append, HA'.out] at hv4'; simp only [List.length_singleton] at hv4'; rw [HA1.out] at hv4'; subst hv4'; have i34 := k4.cell i3 (fun e => absurd e.1 (Nat.not_le.2 HDB.out)); have i24 := k4.cell i2 (fun e => absurd e.1 (Nat.not_le.2 HDB.out)); have g34 := (k4.frozen (p := ⟨db, 3, none⟩) (World.block_lt_of_cell? w3 _ i3) (fun e => absurd e.1 (Nat.not_le.2 HDB.out))).trans g3; have g24 := (k4.frozen (p := ⟨db, 2, none⟩) (World.block_lt_of_cell? w3 _ i2) (fun e => absurd e.1 (Nat.not_le.2 HDB.out))).trans g2; have O4 := Lib.hid (And.intro ho4 (And.intro k4 hv4)); clear ho4 k4 hg4 hv4))
      go_upto_region 12 with fail
      obtain ⟨w6, hw6⟩ : ∃ w6, (w4.setCell ⟨db, 3, none⟩ (.slice p4 a1 c4)).setCell ⟨db, 2, none⟩ (.slice sp (b - 1) sc) = w6 := ⟨_, rfl⟩
      have k6 : Keeps (fun k => k = db) w4 w6 := by rw [← hw6]; exact setAt (setAt (Keeps.refl _ _) 3 _) 2 _
      have kw4 : Keeps (fun k => wc.heap.size ≤ k ∧ k < w1.heap.size) w3 w4 := O4.out.2.1
      have hc13 : Old wc w3 := O3.out.2.2.1.trans O3.out.2.2.2.1
      have dk6 : w6.heap[db]? = some (.cells #[.int .u64 (D.life : Int), .int .u64 (D.peer : Int), .slice sp (b - 1) sc, .slice p4 a1 c4, .int .i64 (D.done : Int), .int .u64 (D.next : Int), .bool D.again, .bool D.owes, .bool D.heard] 55 (0, 0)) := by
       have h4 := (kw4.block db (lt_of_block O3.out.2.2.2.2.1) (fun e => by have := HDB.out; omega)).trans O3.out.2.2.2.2.1
       have h5 := heap_setCell_same _ db 3 _ _ (.slice p4 a1 c4) h4
       have h6 := heap_setCell_same _ db 2 _ _ (.slice sp (b - 1) sc) h5
       rw [hw6] at h6
       simp only [Dv.cells, List.setIfInBounds_toArray, List.set_cons_zero, List.set_cons_succ] at h6
       exact h6
      have kwc : Keeps (fun k => k = db) wc w6 := (hc13.then kw4 (fun i hi e => by omega)).weaken (fun _ _ f => f.elim) |>.trans k6
      have kwr : Keeps (fun k => k = db) wr w6 := (G2.out.1.weaken (fun _ _ f => f.elim)).trans kwc
      have hb4 : ∀ bb, (Value.slice p4 a1 c4).ownBlock = some bb → wc.heap.size ≤ bb ∧ bb < w6.heap.size := fun bb hbb => by
       have h1 := (O4.out.1.block bb hbb).2
       have h2 := k6.size
       refine ⟨?_, by omega⟩
       rcases O4.out.2.2 with e | e
       ·rw [e] at hbb; exact (O3.out.2.2.2.2.2 bb hbb).1
       ·rw [e] at hbb
        obtain rfl := Option.some.inj hbb
        exact hc13.size
      have of6 : OwnsR w6 w.heap.size 32 1 bvL (.slice p4 a1 c4) (D.F ++ D.W.take (m + 1)) := by
       have e : D.F ++ D.W.take (m + 1) = D.F ++ D.W.take m ++ [((.slice bp bn bc, bd) : Bv)] := by
        rw [List.take_add_one, G2.out.2.2.1, List.append_assoc]; rfl
       rw [e]
       exact O4.out.1.keeps k6 (fun bb hbb e => by have := (hb4 bb hbb).1; have := HDB.out; omega)
      have hfl : (D.F ++ D.W.take (m + 1)).length = a1 := by
       have h1 := HA'.out
       have h2 := G2.out.2.2.2.2.1
       have h3 := HA1.out
       rw [List.length_append, List.length_take] at h1 ⊢
       omega
      obtain ⟨vb, vo, vc', hva, _, _, hat⟩ := (of6.sees (fun _ => rfl) (by decide)).at (by rw [hfl]; have := HA1.out; omega)
      rw [hfl] at hva
      simp only [Value.slice.injEq, true_and] at hva
      obtain ⟨rfl, rfl⟩ := hva
      have hxm : (D.F ++ D.W.take (m + 1))[a]? = some (.slice bp bn bc, bd) := by
       have h1 := HA'.out
       have h2 := G2.out.2.2.2.2.1
       rw [List.length_append, List.length_take] at h1
       rw [List.getElem?_append_right (by omega), List.getElem?_take, if_pos (by omega)]
       rw [show a - D.F.length = m from by omega]
       exact G2.out.2.2.1
      have rc6 : w6.cell? ⟨vb, vo + a, none⟩ = some (.slice bp bn bc) := by
       have := hat a _ hxm 0 _ rfl
       simpa using this
      have hvb : wc.heap.size ≤ vb ∧ vb < w6.heap.size := hb4 vb rfl
      have hoq : OwnsR w6 w.heap.size 34 5 Pv.cells (.slice q3 on e3') (D.pks (D.done + 1) D.olds ++ D.pks (D.F.length + 1) (D.W.take m)) := by
       have h1 := G.out.1
       rw [G.out.2.2.2.2.2.2.2.2.2.2] at h1
       exact h1.keeps kwr (fun bb hbb e => by have := (h1.block bb hbb).1; have := H.out.2.2.2.2.1; omega)
      have hoqb : ∀ bb, (Value.slice q3 on e3').ownBlock = some bb → w.heap.size ≤ bb ∧ bb < wr.heap.size := by
       have h1 := G.out.1
       rw [G.out.2.2.2.2.2.2.2.2.2.2] at h1
       exact h1.block
      have G6 := Lib.hid (And.intro dk6 (And.intro kwc (And.intro kwr (And.intro of6 (And.intro hfl (And.intro hvb (And.intro hoq (And.intro hoqb hb4))))))))
      rw [hw6]
      clear hw6 k6 kw4 hc13 dk6 kwc kwr hb4 of6 hfl hat hxm hvb hoq hoqb i34 i24 g34 g24 i3 i2 g3 g2 rc1 z2
      have ha1b : a1 ≤ 1001 := by have := G2.out.2.2.2.2.2.2.2.1; have := HA1.out; omega
      have hwu : IntKind.u64.wrap (a1 : Int) = (a1 : Int) := by rw [IntKind.wrap_u64]; omega
      have hws : IntKind.i64.wrap ((a1 : Int) - 1) = (a : Int) := by have := HA1.out; rw [IntKind.wrap_i64]; omega
      have i1 : (0 : Int) ≤ (a : Int) := by omega
      have i2 : (a : Int) < (a1 : Int) := by have := HA1.out; omega
      refine wp_region_g (S := fun W => W.heap[db]? = some (.cells #[.int .u64 (D.life : Int), .int .u64 (D.peer : Int), .slice sp (b - 1) sc, .slice (some ⟨vb, vo, none⟩) a1 c4, .int .i64 (D.done : Int), .int .u64 (D.next : Int), .bool D.again, .bool D.owes, .bool D.heard] 55 (0, 0)) ∧ W.cell? ⟨vb, vo + a, none⟩ = some (.slice bp bn bc)) (M := (List.range 27)) (by kernel_rfl) ?_
      obtain ⟨wd, hwd⟩ : ∃ wd, w6.drew = wd := ⟨_, rfl⟩
      have KD : Hid (Old w6 wd) := Lib.hid (by rw [← hwd]; exact (Keeps.refl (fun _ => False) w6).drew)
      have hS : wd.heap[db]? = some (.cells #[.int .u64 (D.life : Int), .int .u64 (D.peer : Int), .slice sp (b - 1) sc, .slice (some ⟨vb, vo, none⟩) a1 c4, .int .i64 (D.done : Int), .int .u64 (D.next : Int), .bool D.again, .bool D.owes, .bool D.heard] 55 (0, 0)) ∧ wd.cell? ⟨vb, vo + a, none⟩ = some (.slice bp bn bc) := by rw [← hwd]; exact ⟨G6.out.1, rc6⟩
      rw [hwd]
      clear hwd rc6
      refine wpAnyG_takeL (i := 0) (oi := _) (v := ?vs0) rfl (by kernel_rfl) (by kernel_rfl) (by kernel_rfl) (by kernel_rfl) (fun _ _ _ h => h) (Or.inl ⟨by rfl, ?ys0⟩) hS ?rs0
      case ys0 => (intro W hSw; obtain ⟨⟨v0, v1, v2, v3, v4, v5, v6, v7, v8⟩, -⟩ := blk9 hSw.1; have v9 := hSw.2; go_simp; try with_reducible rfl)
      try simp only [Act.put, List.setIfInBounds_toArray, List.set_cons_zero, List.set_cons_succ]
      refine wpAnyG_takeL (i := 1) (oi := _) (v := ?vs1) rfl (by kernel_rfl) (by kernel_rfl) (by kernel_rfl) (by kernel_rfl) (fun _ _ _ h => h) (Or.inl ⟨by rfl, ?ys1⟩) hS ?rs1
      case ys1 => (intro W hSw; obtain ⟨⟨v0, v1, v2, v3, v4, v5, v6, v7, v8⟩, -⟩ := blk9 hSw.1; have v9 := hSw.2; go_simp; try with_reducible rfl)
      try simp only [Act.put, List.setIfInBounds_toArray, List.set_cons_zero, List.set_cons_succ]
      refine wpAnyG_takeL (i := 2) (oi := _) (v := ?vs2) rfl (by kernel_rfl) (by kernel_rfl) (by kernel_rfl) (by kernel_rfl) (fun _ _ _ h => h) (Or.inl ⟨by rfl, ?ys2⟩) hS ?rs2
      case ys2 => (intro W hSw; obtain ⟨⟨v0, v1, v2, v3, v4, v5, v6, v7, v8⟩, -⟩ := blk9 hSw.1; have v9 := hSw.2; go_simp; try with_reducible rfl)
      try simp only [Act.put, List.setIfInBounds_toArray, List.set_cons_zero, List.set_cons_succ]
      refine wpAnyG_takeL (i := 3) (oi := _) (v := ?vs3) rfl (by kernel_rfl) (by kernel_rfl) (by kernel_rfl) (by kernel_rfl) (fun _ _ _ h => h) (Or.inl ⟨by rfl, ?ys3⟩) hS ?rs3
      case ys3 => (intro W hSw; obtain ⟨⟨v0, v1, v2, v3, v4, v5, v6, v7, v8⟩, -⟩ := blk9 hSw.1; have v9 := hSw.2; go_simp; try with_reducible rfl)
      try simp only [Act.put, List.setIfInBounds_toArray, List.set_cons_zero, List.set_cons_succ]
      refine wpAnyG_takeL (i := 4) (oi := _) (v := ?vs4) rfl (by kernel_rfl) (by kernel_rfl) (by kernel_rfl) (by kernel_rfl) (fun _ _ _ h => h) (Or.inl ⟨by rfl, ?ys4⟩) hS ?rs4
      case ys4 => (intro W hSw; obtain ⟨⟨v0, v1, v2, v3, v4, v5, v6, v7, v8⟩, -⟩ := blk9 hSw.1; have v9 := hSw.2; go_simp; try with_reducible rfl)
      try simp only [Act.put, List.setIfInBounds_toArray, List.set_cons_zero, List.set_cons_succ]
      refine wpAnyG_takeL (i := 5) (oi := _) (v := ?vs5) rfl (by kernel_rfl) (by kernel_rfl) (by kernel_rfl) (by kernel_rfl) (fun _ _ _ h => h) (Or.inl ⟨by rfl, ?ys5⟩) hS ?rs5
      case ys5 => (intro W hSw; obtain ⟨⟨v0, v1, v2, v3, v4, v5, v6, v7, v8⟩, -⟩ := blk9 hSw.1; have v9 := hSw.2; go_simp; try with_reducible rfl)
      try simp only [Act.put, List.setIfInBounds_toArray, List.set_cons_zero, List.set_cons_succ]
      refine wpAnyG_takeL (i := 6) (oi := _) (v := ?vs6) rfl (by kernel_rfl) (by kernel_rfl) (by kernel_rfl) (by kernel_rfl) (fun _ _ _ h => h) (Or.inl ⟨by rfl, ?ys6⟩) hS ?rs6
      case ys6 => (intro W hSw; obtain ⟨⟨v0, v1, v2, v3, v4, v5, v6, v7, v8⟩, -⟩ := blk9 hSw.1; have v9 := hSw.2; go_simp; try with_reducible rfl)
      try simp only [Act.put, List.setIfInBounds_toArray, List.set_cons_zero, List.set_cons_succ]
      refine wpAnyG_takeL (i := 7) (oi := _) (v := ?vs7) rfl (by kernel_rfl) (by kernel_rfl) (by kernel_rfl) (by kernel_rfl) (fun _ _ _ h => h) (Or.inl ⟨by rfl, ?ys7⟩) hS ?rs7
      case ys7 => (intro W hSw; obtain ⟨⟨v0, v1, v2, v3, v4, v5, v6, v7, v8⟩, -⟩ := blk9 hSw.1; have v9 := hSw.2; go_simp; try with_reducible rfl)
      try simp only [Act.put, List.setIfInBounds_toArray, List.set_cons_zero, List.set_cons_succ]
      refine wpAnyG_takeL (i := 8) (oi := _) (v := ?vs8) rfl (by kernel_rfl) (by kernel_rfl) (by kernel_rfl) (by kernel_rfl) (fun _ _ _ h => h) (Or.inl ⟨by rfl, ?ys8⟩) hS ?rs8
      case ys8 => (intro W hSw; obtain ⟨⟨v0, v1, v2, v3, v4, v5, v6, v7, v8⟩, -⟩ := blk9 hSw.1; have v9 := hSw.2; go_simp; try with_reducible rfl)
      try simp only [Act.put, List.setIfInBounds_toArray, List.set_cons_zero, List.set_cons_succ]
      refine wpAnyG_takeL (i := 9) (oi := _) (v := ?vs9) rfl (by kernel_rfl) (by kernel_rfl) (by kernel_rfl) (by kernel_rfl) (fun _ _ _ h => h) (Or.inl ⟨by rfl, ?ys9⟩) hS ?rs9
      case ys9 => (intro W hSw; obtain ⟨⟨v0, v1, v2, v3, v4, v5, v6, v7, v8⟩, -⟩ := blk9 hSw.1; have v9 := hSw.2; go_simp; try with_reducible rfl)
      try simp only [Act.put, List.setIfInBounds_toArray, List.set_cons_zero, List.set_cons_succ]
      refine wpAnyG_takeL (i := 10) (oi := _) (v := ?vs10) rfl (by kernel_rfl) (by kernel_rfl) (by kernel_rfl) (by kernel_rfl) (fun _ _ _ h => h) (Or.inl ⟨by rfl, ?ys10⟩) hS ?rs10
      case ys10 => (intro W hSw; obtain ⟨⟨v0, v1, v2, v3, v4, v5, v6, v7, v8⟩, -⟩ := blk9 hSw.1; have v9 := hSw.2; go_simp; try with_reducible rfl)
      try simp only [Act.put, List.setIfInBounds_toArray, List.set_cons_zero, List.set_cons_succ]
      refine wpAnyG_takeL (i := 11) (oi := _) (v := ?vs11) rfl (by kernel_rfl) (by kernel_rfl) (by kernel_rfl) (by kernel_rfl) (fun _ _ _ h => h) (Or.inl ⟨by rfl, ?ys11⟩) hS ?rs11
      case ys11 => (intro W hSw; obtain ⟨⟨v0, v1, v2, v3, v4, v5, v6, v7, v8⟩, -⟩ := blk9 hSw.1; have v9 := hSw.2; go_simp; try with_reducible rfl)
      try simp only [Act.put, List.setIfInBounds_toArray, List.set_cons_zero, List.set_cons_succ]
      refine wpAnyG_takeL (i := 12) (oi := _) (v := ?vs12) rfl (by kernel_rfl) (by kernel_rfl) (by kernel_rfl) (by kernel_rfl) (fun _ _ _ h => h) (Or.inl ⟨by rfl, ?ys12⟩) hS ?rs12
      case ys12 => (intro W hSw; obtain ⟨⟨v0, v1, v2, v3, v4, v5, v6, v7, v8⟩, -⟩ := blk9 hSw.1; have v9 := hSw.2; go_simp; try with_reducible rfl)
      try simp only [Act.put, List.setIfInBounds_toArray, List.set_cons_zero, List.set_cons_succ]
      refine wpAnyG_takeL (i := 13) (oi := _) (v := ?vs13) rfl (by kernel_rfl) (by kernel_rfl) (by kernel_rfl) (by kernel_rfl) (fun _ _ _ h => h) (Or.inl ⟨by rfl, ?ys13⟩) hS ?rs13
      case ys13 => (intro W hSw; obtain ⟨⟨v0, v1, v2, v3, v4, v5, v6, v7, v8⟩, -⟩ := blk9 hSw.1; have v9 := hSw.2; go_simp; try with_reducible rfl)
      try simp only [Act.put, List.setIfInBounds_toArray, List.set_cons_zero, List.set_cons_succ]
      refine wpAnyG_takeL (i := 14) (oi := _) (v := ?vs14) rfl (by kernel_rfl) (by kernel_rfl) (by kernel_rfl) (by kernel_rfl) (fun _ _ _ h => h) (Or.inl ⟨by rfl, ?ys14⟩) hS ?rs14
      case ys14 => (intro W hSw; obtain ⟨⟨v0, v1, v2, v3, v4, v5, v6, v7, v8⟩, -⟩ := blk9 hSw.1; have v9 := hSw.2; go_simp; try with_reducible rfl)
      try simp only [Act.put, List.setIfInBounds_toArray, List.set_cons_zero, List.set_cons_succ]
      refine wpAnyG_takeL (i := 15) (oi := _) (v := ?vs15) rfl (by kernel_rfl) (by kernel_rfl) (by kernel_rfl) (by kernel_rfl) (fun _ _ _ h => h) (Or.inl ⟨by rfl, ?ys15⟩) hS ?rs15
      case ys15 => (intro W hSw; obtain ⟨⟨v0, v1, v2, v3, v4, v5, v6, v7, v8⟩, -⟩ := blk9 hSw.1; have v9 := hSw.2; go_simp; try with_reducible rfl)
      try simp only [Act.put, List.setIfInBounds_toArray, List.set_cons_zero, List.set_cons_succ]
      refine wpAnyG_takeL (i := 16) (oi := _) (v := ?vs16) rfl (by kernel_rfl) (by kernel_rfl) (by kernel_rfl) (by kernel_rfl) (fun _ _ _ h => h) (Or.inl ⟨by rfl, ?ys16⟩) hS ?rs16
      case ys16 => (intro W hSw; obtain ⟨⟨v0, v1, v2, v3, v4, v5, v6, v7, v8⟩, -⟩ := blk9 hSw.1; have v9 := hSw.2; go_simp; try with_reducible rfl)
      try simp only [Act.put, List.setIfInBounds_toArray, List.set_cons_zero, List.set_cons_succ]
      refine wpAnyG_takeL (i := 17) (oi := _) (v := ?vs17) rfl (by kernel_rfl) (by kernel_rfl) (by kernel_rfl) (by kernel_rfl) (fun _ _ _ h => h) (Or.inl ⟨by rfl, ?ys17⟩) hS ?rs17
      case ys17 => (intro W hSw; obtain ⟨⟨v0, v1, v2, v3, v4, v5, v6, v7, v8⟩, -⟩ := blk9 hSw.1; have v9 := hSw.2; go_simp; try with_reducible rfl)
      try simp only [Act.put, List.setIfInBounds_toArray, List.set_cons_zero, List.set_cons_succ]
      refine wpAnyG_takeL (i := 18) (oi := _) (v := ?vs18) rfl (by kernel_rfl) (by kernel_rfl) (by kernel_rfl) (by kernel_rfl) (fun _ _ _ h => h) (Or.inl ⟨by rfl, ?ys18⟩) hS ?rs18
      case ys18 => (intro W hSw; obtain ⟨⟨v0, v1, v2, v3, v4, v5, v6, v7, v8⟩, -⟩ := blk9 hSw.1; have v9 := hSw.2; go_simp; try with_reducible rfl)
      try simp only [Act.put, List.setIfInBounds_toArray, List.set_cons_zero, List.set_cons_succ]
      refine wpAnyG_takeL (i := 19) (oi := _) (v := ?vs19) rfl (by kernel_rfl) (by kernel_rfl) (by kernel_rfl) (by kernel_rfl) (fun _ _ _ h => h) (Or.inl ⟨by rfl, ?ys19⟩) hS ?rs19
      case ys19 => (intro W hSw; obtain ⟨⟨v0, v1, v2, v3, v4, v5, v6, v7, v8⟩, -⟩ := blk9 hSw.1; have v9 := hSw.2; go_simp; try with_reducible rfl)
      try simp only [Act.put, List.setIfInBounds_toArray, List.set_cons_zero, List.set_cons_succ]
      refine wpAnyG_takeL (i := 20) (oi := _) (v := ?vs20) rfl (by kernel_rfl) (by kernel_rfl) (by kernel_rfl) (by kernel_rfl) (fun _ _ _ h => h) (Or.inl ⟨by rfl, ?ys20⟩) hS ?rs20
      case ys20 => (intro W hSw; obtain ⟨⟨v0, v1, v2, v3, v4, v5, v6, v7, v8⟩, -⟩ := blk9 hSw.1; have v9 := hSw.2; go_simp; try with_reducible rfl)
      try simp only [Act.put, List.setIfInBounds_toArray, List.set_cons_zero, List.set_cons_succ]
      refine wpAnyG_takeL (i := 21) (oi := _) (v := ?vs21) rfl (by kernel_rfl) (by kernel_rfl) (by kernel_rfl) (by kernel_rfl) (fun _ _ _ h => h) (Or.inl ⟨by rfl, ?ys21⟩) hS ?rs21
      case ys21 => (intro W hSw; obtain ⟨⟨v0, v1, v2, v3, v4, v5, v6, v7, v8⟩, -⟩ := blk9 hSw.1; have v9 := hSw.2; go_simp; try with_reducible rfl)
      try simp only [Act.put, List.setIfInBounds_toArray, List.set_cons_zero, List.set_cons_succ]
      refine wpAnyG_takeL (i := 22) (oi := _) (v := ?vs22) rfl (by kernel_rfl) (by kernel_rfl) (by kernel_rfl) (by kernel_rfl) (fun _ _ _ h => h) (Or.inl ⟨by rfl, ?ys22⟩) hS ?rs22
      case ys22 => (intro W hSw; obtain ⟨⟨v0, v1, v2, v3, v4, v5, v6, v7, v8⟩, -⟩ := blk9 hSw.1; have v9 := hSw.2; go_simp; try with_reducible rfl)
      try simp only [Act.put, List.setIfInBounds_toArray, List.set_cons_zero, List.set_cons_succ]
      refine wpAnyG_onlyL (i := 23) (o := _) (by kernel_rfl) rfl (fun K hK => ?_)
      go_simp
      refine hK.out _ _ (fun _ => hS) ?_
      clear hK K
      try simp only [Act.put, List.setIfInBounds_toArray, List.set_cons_zero, List.set_cons_succ]
      refine wpAnyG_onlyL (i := 24) (o := _) (by kernel_rfl) rfl (fun K hK => ?_)
      go_simp
      obtain ⟨w7, hw7⟩ : ∃ w7, wd.alloc (.cells #[.int .u64 (D.life : Int), .int .u64 (D.peer : Int), .int .u64 (a1 : Int), .int .u64 (D.next : Int), .slice bp bn bc] 34) = w7 := ⟨_, rfl⟩
      have k7 : Old wd w7 := by rw [← hw7]; exact (Keeps.refl _ _).alloc _
      have k7' : Old w6 w7 := KD.out.trans k7
      have sn : SeesR w7 5 Pv.cells (.slice (some ⟨wd.heap.size, 0, none⟩) 1 1) [(⟨D.life, D.peer, a1, D.next, .slice bp bn bc, bd⟩ : Pv)] := by
       rw [← hw7]
       exact SeesR.new (k := 5) (enc := Pv.cells) wd _ (0, 0) [(⟨D.life, D.peer, a1, D.next, .slice bp bn bc, bd⟩ : Pv)] _ rfl (fun _ => rfl) (by unfold maxLen; simp)
      have hS7 : w7.heap[db]? = some (.cells #[.int .u64 (D.life : Int), .int .u64 (D.peer : Int), .slice sp (b - 1) sc, .slice (some ⟨vb, vo, none⟩) a1 c4, .int .i64 (D.done : Int), .int .u64 (D.next : Int), .bool D.again, .bool D.owes, .bool D.heard] 55 (0, 0)) ∧ w7.cell? ⟨vb, vo + a, none⟩ = some (.slice bp bn bc) := ⟨(k7.block _ (lt_of_block hS.1) (fun f => f)).trans hS.1, k7.cell hS.2 (fun f => f)⟩
      have hon : (D.pks (D.done + 1) D.olds ++ D.pks (D.F.length + 1) (D.W.take m)).length = on := G.out.2.2.2.2.2.2.2.2.2.2
      have HN2 := Lib.hid (And.intro (show (D.pks (D.done + 1) D.olds ++ D.pks (D.F.length + 1) (D.W.take m)).length + [(⟨D.life, D.peer, a1, D.next, .slice bp bn bc, bd⟩ : Pv)].length ≤ maxLen by rw [hon]; unfold maxLen; simp; omega) (And.intro (show ((D.pks (D.done + 1) D.olds ++ D.pks (D.F.length + 1) (D.W.take m)).length + [(⟨D.life, D.peer, a1, D.next, .slice bp bn bc, bd⟩ : Pv)].length) * 56 ≤ 140737488355328 by rw [hon]; simp; omega) (Nat.le_trans G2.out.2.1.size (Nat.le_trans G6.out.2.1.size k7'.size))))
      have O7 := Lib.hid (And.intro k7' (And.intro sn (G6.out.2.2.2.2.2.2.1.old k7')))
      clear k7 k7' sn hon
      rw [hw7]
      clear hw7
      refine hK.out _ _ (fun _ => hS7) ?_
      clear hK K
      try simp only [Act.put, List.setIfInBounds_toArray, List.set_cons_zero, List.set_cons_succ]
      refine wpAnyG_onlyL (i := 25) (o := _) (by kernel_rfl) rfl (fun K hK => ?_)
      refine step_append_rows (P := Try.prog) rfl _ _ 48 rfl w.heap.size 34 5 56 Pv.cells _ Try.underlying48 Try.infoPk20 rfl (by decide) _ (D.pks (D.done + 1) D.olds ++ D.pks (D.F.length + 1) (D.W.take m)) (by rfl) O7.out.2.2 _ [(⟨D.life, D.peer, a1, D.next, .slice bp bn bc, bd⟩ : Pv)] (by rfl) O7.out.2.1 (fun _ _ => rfl) (by simp [Pv.cells, Value.oneCell']) HN2.out.1 HN2.out.2.1 HN2.out.2.2 ?_
      intro v8 w8 ho8 hg8 hv8
      have k8 : Keeps (fun bb => w.heap.size ≤ bb ∧ bb < wr.heap.size) w7 w8 := (Keeps.refl _ _).grown hg8 (fun bb hb _ => G6.out.2.2.2.2.2.2.2.1 bb hb)
      have hcr : wr.heap.size ≤ wc.heap.size := G2.out.1.size
      have hS8 : w8.heap[db]? = some (.cells #[.int .u64 (D.life : Int), .int .u64 (D.peer : Int), .slice sp (b - 1) sc, .slice (some ⟨vb, vo, none⟩) a1 c4, .int .i64 (D.done : Int), .int .u64 (D.next : Int), .bool D.again, .bool D.owes, .bool D.heard] 55 (0, 0)) ∧ w8.cell? ⟨vb, vo + a, none⟩ = some (.slice bp bn bc) := ⟨(k8.block _ (lt_of_block hS7.1) (by have := H.out.2.2.2.2.1; omega)).trans hS7.1, k8.cell hS7.2 (by have := G6.out.2.2.2.2.2.1; dsimp only; omega)⟩
      have O8 := Lib.hid (And.intro ho8 (And.intro k8 (And.intro hv8 hS8.1)))
      clear ho8 k8 hg8 hv8 hS hS7 hcr
      refine hK.out _ _ (fun _ => hS8) ?_
      clear hK K
      try simp only [Act.put, List.setIfInBounds_toArray, List.set_cons_zero, List.set_cons_succ]
      refine wpAnyG_onlyL (i := 26) (o := _) (by kernel_rfl) rfl (fun K hK => ?_)
      go_simp
      refine hK.out _ _ (fun _ => hS8) ?_
      clear hK K
      try simp only [Act.put, List.setIfInBounds_toArray, List.set_cons_zero, List.set_cons_succ]
      refine wpAnyG_done (by kernel_rfl) ?_ _
      clear hS8
      go_wp2_with fail
      go_roundg (D.W.length - (m + 1))
      case measure => have := G2.out.2.2.2.2.1; omega
      case rel =>
       obtain ⟨kt, kwt, hbx, hsl2, hmW', _, hlt, _, _⟩ := G2.out
       obtain ⟨_, kwc, kwr, of6, hfl, hvb, _, hoqb, hb4⟩ := G6.out
       obtain ⟨k7', sn, _⟩ := O7.out
       obtain ⟨ho8, k8, hv8, dk8⟩ := O8.out
       have hcr : wr.heap.size ≤ wc.heap.size := kt.size
       have hs7 := k7'.size
       refine ⟨m + 1, by omega, rfl, _, _, ?_, dk8, fun W h => ?_, .inr ⟨(of6.old k7').keeps k8 (fun bb hb e => by have := (hb4 bb hb).1; omega), fun bb hb e => ?_⟩, ?_⟩
       ·have e : D.pks (D.done + 1) D.olds ++ D.pks (D.F.length + 1) (D.W.take (m + 1)) = D.pks (D.done + 1) D.olds ++ D.pks (D.F.length + 1) (D.W.take m) ++ [(⟨D.life, D.peer, a1, D.next, .slice bp bn bc, bd⟩ : Pv)] := by
         have e1 : D.W.take (m + 1) = D.W.take m ++ [((.slice bp bn bc, bd) : Bv)] := by rw [List.take_add_one, hbx]; rfl
         have e2 : (D.W.take m).length = m := by rw [List.length_take]; omega
         have e3 : D.F.length + 1 + m = a1 := by
          have h1 := HA'.out
          have h2 := HA1.out
          rw [List.length_append, e2] at h1
          omega
         rw [e1, pks_snoc, e2, e3, List.append_assoc]
        rw [e]
        exact ho8
       ·have h1 := hsl2 W (by have := G.out.2.2.1 W h; rw [G.out.2.2.2.2.2.2.2.2.1] at this; exact this)
        rw [List.drop_drop] at h1
        exact h1
       ·rcases hv8 with e2 | e2
        ·rw [e2] at e; have h1 := hoqb bb e; have h2 := hb4 bb hb; omega
        ·rw [e2] at e
         have h1 := Option.some.inj e
         have h2 := hb4 bb hb
         omega
       ·exact ((kwt.trans kwc).trans (k7'.weaken (fun _ _ f => f.elim))).then k8 (fun i hi e => by omega)
  case rest =>
   obtain ⟨wv, fv, ho, hdk, hwv, hfv, hkw⟩ := hcut
   obtain ⟨xp, xc, rfl, _, _⟩ := (ho.sees (fun _ => rfl) (by decide)).len
   obtain ⟨xn, hxn⟩ : ∃ n, (D.pks (D.done + 1) D.olds ++ D.pks (D.F.length + 1) (D.W.take (room D))).length = n := ⟨_, rfl⟩
   rw [hxn]
   rw [hxn] at ho
   have hxn' : xn ≤ 2000 := by
    rw [← hxn, List.length_append, pks_length, pks_length, List.length_take]
    have h1 : D.olds.length ≤ D.F.length := by unfold Dv.olds; split; exact (by rw [List.length_drop]; omega); simp
    have := H.out.2.2.2.2.2.2.1
    omega
   obtain ⟨⟨x0, x1, x2, x3, x4, x5, x6, x7, x8⟩, ⟨y0, y1, y2, y3, y4, y5, y6, y7, y8⟩⟩ := blk9 hdk
   simp only at x0 x1 x5 x7
   obtain ⟨ow, how⟩ : ∃ z, D.owes = z := ⟨_, rfl⟩
   have G := Lib.hid (And.intro ho (And.intro hdk (And.intro hwv (And.intro hfv (And.intro hkw (And.intro hxn how))))))
   rw [how] at x7
   clear ho hdk hwv hfv hkw hxn how x2 x3 x4 x8 y0 y1 y2 y3 y4 y5 y8
   by_cases h0 : xn = 0
   ·subst h0
    cases ow with
    | true =>
     go_upto_region 14 with fail
     refine wp_region_g (S := fun W => W.heap[db]? = some (.cells #[.int .u64 (D.life : Int), .int .u64 (D.peer : Int), wv, fv, .int .i64 (D.done : Int), .int .u64 (D.next : Int), .bool D.again, .bool D.owes, .bool D.heard] 55 (0, 0))) (M := (List.range 17)) (by kernel_rfl) ?_
     obtain ⟨wd, hwd⟩ : ∃ wd, wc.drew = wd := ⟨_, rfl⟩
     have KD : Hid (Old wc wd) := Lib.hid (by rw [← hwd]; exact (Keeps.refl (fun _ => False) wc).drew)
     have hS : wd.heap[db]? = some (.cells #[.int .u64 (D.life : Int), .int .u64 (D.peer : Int), wv, fv, .int .i64 (D.done : Int), .int .u64 (D.next : Int), .bool D.again, .bool D.owes, .bool D.heard] 55 (0, 0)) := by rw [← hwd]; exact G.out.2.1
     rw [hwd]
     clear hwd x0 x1 x5 x6 x7 y6 y7
     refine wpAnyG_takeL (i := 0) (oi := _) (v := ?vr0) rfl (by kernel_rfl) (by kernel_rfl) (by kernel_rfl) (by kernel_rfl) (fun _ _ _ h => h) (Or.inl ⟨by rfl, ?yr0⟩) hS ?rr0
     case yr0 => (intro W hSw; obtain ⟨⟨v0, v1, v2, v3, v4, v5, v6, v7, v8⟩, -⟩ := blk9 hSw; go_simp; try with_reducible rfl)
     try simp only [Act.put, List.setIfInBounds_toArray, List.set_cons_zero, List.set_cons_succ]
     refine wpAnyG_takeL (i := 1) (oi := _) (v := ?vr1) rfl (by kernel_rfl) (by kernel_rfl) (by kernel_rfl) (by kernel_rfl) (fun _ _ _ h => h) (Or.inl ⟨by rfl, ?yr1⟩) hS ?rr1
     case yr1 => (intro W hSw; obtain ⟨⟨v0, v1, v2, v3, v4, v5, v6, v7, v8⟩, -⟩ := blk9 hSw; go_simp; try with_reducible rfl)
     try simp only [Act.put, List.setIfInBounds_toArray, List.set_cons_zero, List.set_cons_succ]
     refine wpAnyG_takeL (i := 2) (oi := _) (v := ?vr2) rfl (by kernel_rfl) (by kernel_rfl) (by kernel_rfl) (by kernel_rfl) (fun _ _ _ h => h) (Or.inl ⟨by rfl, ?yr2⟩) hS ?rr2
     case yr2 => (intro W hSw; obtain ⟨⟨v0, v1, v2, v3, v4, v5, v6, v7, v8⟩, -⟩ := blk9 hSw; go_simp; try with_reducible rfl)
     try simp only [Act.put, List.setIfInBounds_toArray, List.set_cons_zero, List.set_cons_succ]
     refine wpAnyG_takeL (i := 3) (oi := _) (v := ?vr3) rfl (by kernel_rfl) (by kernel_rfl) (by kernel_rfl) (by kernel_rfl) (fun _ _ _ h => h) (Or.inl ⟨by rfl, ?yr3⟩) hS ?rr3
     case yr3 => (intro W hSw; obtain ⟨⟨v0, v1, v2, v3, v4, v5, v6, v7, v8⟩, -⟩ := blk9 hSw; go_simp; try with_reducible rfl)
     try simp only [Act.put, List.setIfInBounds_toArray, List.set_cons_zero, List.set_cons_succ]
     refine wpAnyG_takeL (i := 4) (oi := _) (v := ?vr4) rfl (by kernel_rfl) (by kernel_rfl) (by kernel_rfl) (by kernel_rfl) (fun _ _ _ h => h) (Or.inl ⟨by rfl, ?yr4⟩) hS ?rr4
     case yr4 => (intro W hSw; obtain ⟨⟨v0, v1, v2, v3, v4, v5, v6, v7, v8⟩, -⟩ := blk9 hSw; go_simp; try with_reducible rfl)
     try simp only [Act.put, List.setIfInBounds_toArray, List.set_cons_zero, List.set_cons_succ]
     refine wpAnyG_takeL (i := 5) (oi := _) (v := ?vr5) rfl (by kernel_rfl) (by kernel_rfl) (by kernel_rfl) (by kernel_rfl) (fun _ _ _ h => h) (Or.inl ⟨by rfl, ?yr5⟩) hS ?rr5
     case yr5 => (intro W hSw; obtain ⟨⟨v0, v1, v2, v3, v4, v5, v6, v7, v8⟩, -⟩ := blk9 hSw; go_simp; try with_reducible rfl)
     try simp only [Act.put, List.setIfInBounds_toArray, List.set_cons_zero, List.set_cons_succ]
     refine wpAnyG_takeL (i := 6) (oi := _) (v := ?vr6) rfl (by kernel_rfl) (by kernel_rfl) (by kernel_rfl) (by kernel_rfl) (fun _ _ _ h => h) (Or.inl ⟨by rfl, ?yr6⟩) hS ?rr6
     case yr6 => (intro W hSw; obtain ⟨⟨v0, v1, v2, v3, v4, v5, v6, v7, v8⟩, -⟩ := blk9 hSw; go_simp; try with_reducible rfl)
     try simp only [Act.put, List.setIfInBounds_toArray, List.set_cons_zero, List.set_cons_succ]
     refine wpAnyG_takeL (i := 7) (oi := _) (v := ?vr7) rfl (by kernel_rfl) (by kernel_rfl) (by kernel_rfl) (by kernel_rfl) (fun _ _ _ h => h) (Or.inl ⟨by rfl, ?yr7⟩) hS ?rr7
     case yr7 => (intro W hSw; obtain ⟨⟨v0, v1, v2, v3, v4, v5, v6, v7, v8⟩, -⟩ := blk9 hSw; go_simp; try with_reducible rfl)
     try simp only [Act.put, List.setIfInBounds_toArray, List.set_cons_zero, List.set_cons_succ]
     refine wpAnyG_takeL (i := 8) (oi := _) (v := ?vr8) rfl (by kernel_rfl) (by kernel_rfl) (by kernel_rfl) (by kernel_rfl) (fun _ _ _ h => h) (Or.inl ⟨by rfl, ?yr8⟩) hS ?rr8
     case yr8 => (intro W hSw; obtain ⟨⟨v0, v1, v2, v3, v4, v5, v6, v7, v8⟩, -⟩ := blk9 hSw; go_simp; try with_reducible rfl)
     try simp only [Act.put, List.setIfInBounds_toArray, List.set_cons_zero, List.set_cons_succ]
     refine wpAnyG_takeL (i := 9) (oi := _) (v := ?vr9) rfl (by kernel_rfl) (by kernel_rfl) (by kernel_rfl) (by kernel_rfl) (fun _ _ _ h => h) (Or.inl ⟨by rfl, ?yr9⟩) hS ?rr9
     case yr9 => (intro W hSw; obtain ⟨⟨v0, v1, v2, v3, v4, v5, v6, v7, v8⟩, -⟩ := blk9 hSw; go_simp; try with_reducible rfl)
     try simp only [Act.put, List.setIfInBounds_toArray, List.set_cons_zero, List.set_cons_succ]
     refine wpAnyG_takeL (i := 10) (oi := _) (v := ?vr10) rfl (by kernel_rfl) (by kernel_rfl) (by kernel_rfl) (by kernel_rfl) (fun _ _ _ h => h) (Or.inl ⟨by rfl, ?yr10⟩) hS ?rr10
     case yr10 => (intro W hSw; obtain ⟨⟨v0, v1, v2, v3, v4, v5, v6, v7, v8⟩, -⟩ := blk9 hSw; go_simp; try with_reducible rfl)
     try simp only [Act.put, List.setIfInBounds_toArray, List.set_cons_zero, List.set_cons_succ]
     refine wpAnyG_takeL (i := 11) (oi := _) (v := ?vr11) rfl (by kernel_rfl) (by kernel_rfl) (by kernel_rfl) (by kernel_rfl) (fun _ _ _ h => h) (Or.inl ⟨by rfl, ?yr11⟩) hS ?rr11
     case yr11 => (intro W hSw; obtain ⟨⟨v0, v1, v2, v3, v4, v5, v6, v7, v8⟩, -⟩ := blk9 hSw; go_simp; try with_reducible rfl)
     try simp only [Act.put, List.setIfInBounds_toArray, List.set_cons_zero, List.set_cons_succ]
     refine wpAnyG_takeL (i := 12) (oi := _) (v := ?vr12) rfl (by kernel_rfl) (by kernel_rfl) (by kernel_rfl) (by kernel_rfl) (fun _ _ _ h => h) (Or.inl ⟨by rfl, ?yr12⟩) hS ?rr12
     case yr12 => (intro W hSw; obtain ⟨⟨v0, v1, v2, v3, v4, v5, v6, v7, v8⟩, -⟩ := blk9 hSw; go_simp; try with_reducible rfl)
     try simp only [Act.put, List.setIfInBounds_toArray, List.set_cons_zero, List.set_cons_succ]
     refine wpAnyG_onlyL (i := 13) (o := _) (by kernel_rfl) rfl (fun K hK => ?_)
     go_simp
     refine hK.out _ _ (fun _ => hS) ?_
     clear hK K
     try simp only [Act.put, List.setIfInBounds_toArray, List.set_cons_zero, List.set_cons_succ]
     refine wpAnyG_onlyL (i := 14) (o := _) (by kernel_rfl) rfl (fun K hK => ?_)
     go_simp
     obtain ⟨w7, hw7⟩ : ∃ w7, wd.alloc (.cells #[.int .u64 (D.life : Int), .int .u64 (D.peer : Int), .int .u64 0, .int .u64 (D.next : Int), .slice none 0 0] 34) = w7 := ⟨_, rfl⟩
     have k7 : Old wd w7 := by rw [← hw7]; exact (Keeps.refl _ _).alloc _
     have k7' : Old wc w7 := KD.out.trans k7
     have sn : SeesR w7 5 Pv.cells (.slice (some ⟨wd.heap.size, 0, none⟩) 1 1) [(⟨D.life, D.peer, 0, D.next, .slice none 0 0, []⟩ : Pv)] := by
      rw [← hw7]
      exact SeesR.new (k := 5) (enc := Pv.cells) wd _ (0, 0) [(⟨D.life, D.peer, 0, D.next, .slice none 0 0, []⟩ : Pv)] _ rfl (fun _ => rfl) (by unfold maxLen; simp)
     have hS7 := (k7.block _ (lt_of_block hS) (fun f => f)).trans hS
     have hnil : D.pks (D.done + 1) D.olds ++ D.pks (D.F.length + 1) (D.W.take (room D)) = [] := List.eq_nil_of_length_eq_zero G.out.2.2.2.2.2.1
     have O7 := Lib.hid (And.intro k7' (And.intro sn (show OwnsR w7 w.heap.size 34 5 Pv.cells (.slice xp 0 xc) [] by have h := G.out.1.old k7'; rw [hnil] at h; exact h)))
     have HB : Hid (w.heap.size ≤ w7.heap.size ∧ ∀ bb, (Value.slice xp 0 xc).ownBlock = some bb → w.heap.size ≤ bb ∧ bb < wc.heap.size) := Lib.hid ⟨Nat.le_trans G.out.2.2.2.2.1.size k7'.size, G.out.1.block⟩
     have HNil := Lib.hid hnil
     clear k7 k7' sn hnil
     rw [hw7]
     clear hw7
     refine hK.out _ _ (fun _ => hS7) ?_
     clear hK K
     try simp only [Act.put, List.setIfInBounds_toArray, List.set_cons_zero, List.set_cons_succ]
     refine wpAnyG_onlyL (i := 15) (o := _) (by kernel_rfl) rfl (fun K hK => ?_)
     refine step_append_rows (P := Try.prog) rfl _ _ 48 rfl w.heap.size 34 5 56 Pv.cells _ Try.underlying48 Try.infoPk20 rfl (by decide) _ [] (by rfl) O7.out.2.2 _ [(⟨D.life, D.peer, 0, D.next, .slice none 0 0, []⟩ : Pv)] (by rfl) O7.out.2.1 (fun _ _ => rfl) (by simp [Pv.cells, Value.oneCell']) (by unfold maxLen; simp) (by simp) HB.out.1 ?_
     intro v8 w8 ho8 hg8 hv8
     have k8 : Keeps (fun bb => (Value.slice xp 0 xc).ownBlock = some bb) w7 w8 := (Keeps.refl _ _).grown hg8 (fun bb hb _ => hb)
     have hS8 := (k8.block _ (lt_of_block hS7) (fun e => by have := (HB.out.2 db e).1; have := H.out.2.2.2.2.1; omega)).trans hS7
     have O8 := Lib.hid (And.intro ho8 (And.intro k8 hS8))
     clear ho8 k8 hg8 hv8 hS hS7
     refine hK.out _ _ (fun _ => hS8) ?_
     clear hK K
     try simp only [Act.put, List.setIfInBounds_toArray, List.set_cons_zero, List.set_cons_succ]
     refine wpAnyG_onlyL (i := 16) (o := _) (by kernel_rfl) rfl (fun K hK => ?_)
     go_simp
     refine hK.out _ _ (fun _ => hS8) ?_
     clear hK K
     try simp only [Act.put, List.setIfInBounds_toArray, List.set_cons_zero, List.set_cons_succ]
     refine wpAnyG_done (by kernel_rfl) ?_ _
     obtain ⟨⟨x0, x1, x2, x3, x4, x5, x6, x7, x8⟩, ⟨y0, y1, y2, y3, y4, y5, y6, y7, y8⟩⟩ := blk9 hS8
     clear hS8
     go_wp2_with fail
     go_ret
     obtain ⟨ho, hdk, hwv, hfv, hkw, hxn, how⟩ := G.out
     obtain ⟨h0, h1, h2, h6, _⟩ := H.out
     obtain ⟨ho8, k8, dk8⟩ := O8.out
     refine outD_of [(⟨D.life, D.peer, 0, D.next, .slice none 0 0, []⟩ : Pv)] h0 h1 h2 h6 dk8 hwv ?_ ((hkw.trans (O7.out.1.weaken (fun _ _ f => f.elim))).then k8 (fun i hi e => by have := (HB.out.2 i e).1; omega)) ho8 ?_ (fun p hp => .inl (by rw [List.mem_singleton.1 hp]; exact ⟨rfl, rfl⟩))
     ·rcases hfv with h | ⟨hf, hfb⟩
      ·exact .inl h
      ·exact .inr ((hf.old O7.out.1).keeps k8 (fun bb hb e => hfb bb hb (by rw [hxn]; exact e)))
     ·rw [outs_of D _ rfl, HNil.out, how]
      rfl
    | false =>
     go_wp2_with fail
     go_ret
     obtain ⟨ho, hdk, hwv, hfv, hkw, hxn, how⟩ := G.out
     obtain ⟨h0, h1, h2, h6, _⟩ := H.out
     refine outD_of _ h0 h1 h2 h6 hdk hwv (hfv.imp_right (fun h => h.1)) hkw ho ?_ (fun p hp => .inr (mem_out hp))
     rw [outs_of D _ rfl, how, Bool.and_false]
     rfl
   ·have g1 : ((xn : Int) == 0) = false := by simp; omega
    have XN := Lib.hid h0
    clear h0
    go_wp2_with fail
    go_ret
    obtain ⟨ho, hdk, hwv, hfv, hkw, hxn, how⟩ := G.out
    obtain ⟨h0, h1, h2, h6, _⟩ := H.out
    refine outD_of _ h0 h1 h2 h6 hdk hwv (hfv.imp_right (fun h => h.1)) hkw ho ?_ (fun p hp => .inr (mem_out hp))
    rw [outs_of D _ rfl, if_neg]
    intro h
    rw [Bool.and_eq_true] at h
    have := List.isEmpty_iff.1 h.1
    rw [this] at hxn
    exact XN.out hxn.symm
end Go.Proofs.Ytllnlimbfoingaa
