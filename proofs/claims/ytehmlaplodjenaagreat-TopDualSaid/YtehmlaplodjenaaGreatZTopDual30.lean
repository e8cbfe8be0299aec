/- DERIVED. slices.AppendSeq, Collect of the keys of a map of numbers without sign. · DERIVED. index: Numbers. -/
import Derived.Test.YtehmlaplodjenaaGreatZTopDual29
import Derived.OwnWalkIn
import Derived.TacticsInMore
import Derived.Maps.OwnIn
import Derived.Maps.AppendAt
import Derived.RangeFuncBox
import Derived.RangeFuncSeq
import Derived.Deep.DeepCutAuto
set_option maxRecDepth 100000
set_option maxHeartbeats 4000000
namespace Go.Proofs.YtehmlaplodjenaaGreat
section
open Go.RowKit Go.Maps
attribute [local go_sem] Oper.semAt_some
def StayD (p : Prop) : Prop := p
theorem StayD.go {p : Prop} (h : StayD p) : p := h
theorem enters_keys1 : ∀ args W, (callFunc 107 args).run Tryz.prog W = .ok (.enter 107 args) W := fun args W => by simp [go_sem, callFunc, Tryz.func107]; rfl
theorem OwnsR.cellU {w : World} {B i : Nat} {v : Value} {L : List Nat} (h : OwnsR w B 30 1 (oneL encU) v L) (e : v.ownBlock = some i) : ∃ cs, w.heap[i]? = some (.cells cs 30 (0, 0)) := by
 rcases h.2 with ⟨rfl, _⟩ | ⟨g, cap, cur, rfl, hb, hg, _⟩
 ·simp [Value.ownBlock] at e
 ·simp only [Value.ownBlock, Option.some.injEq] at e
  subst e
  exact ⟨_, hg⟩
theorem Apd.turn {w0 : World} {R : Loop} {L : List Nat} {W : World} (h : Apd w0 R L W) (R' : Loop) : Apd w0 R' L (W.putObj (w0.heap.size + 2) (.loop R')) := by
 obtain ⟨v, h1, h2⟩ := h.box
 have hz := h.size
 have hk : Keeps (fun k => k = w0.heap.size + 2) W (W.putObj (w0.heap.size + 2) (.loop R')) := (Keeps.refl (fun k => k = w0.heap.size + 2) W).putObj (fun _ => rfl) _
 exact ⟨h.old.then hk (fun i hi e => by omega), ⟨v, (hk.block _ (by omega) (by omega)).trans h1, h2.keeps hk (fun b hb e => by have := (h2.block b hb).1; omega)⟩, (hk.block _ (by omega) (by omega)).trans h.d, World.putObj_heap_same (by omega)⟩
theorem Apd.to {w0 : World} {R : Loop} {L : List Nat} {W W' : World} (h : Apd w0 R L W) (k : Old W W') : Apd w0 R L W' := by
 obtain ⟨v, h1, h2⟩ := h.box
 exact ⟨h.old.trans k, ⟨v, (k.block _ (lt_of_heap h1) (fun f => f)).trans h1, h2.old k⟩, (k.block _ (lt_of_heap h.d) (fun f => f)).trans h.d, (k.block _ (lt_of_heap h.r) (fun f => f)).trans h.r⟩
theorem Apd.push {w0 : World} {R : Loop} {L : List Nat} {W W1 : World} {x : Nat} {v v' : Value} (h : Apd w0 R L W) (hl : W.heap[w0.heap.size]? = some (.cells #[v] 41 (0, 0))) (own : OwnsR W (w0.heap.size + 3) 30 1 (oneL encU) v L)
  (ho : OwnsR W1 (w0.heap.size + 3) 30 1 (oneL encU) v' (L ++ [x])) (hg : W.grownBy W1 v.ownBlock) : Apd w0 R (L ++ [x]) (W1.setCell ⟨w0.heap.size, 0, none⟩ v') ∧ KeepsWalks W (W1.setCell ⟨w0.heap.size, 0, none⟩ v') := by
 have hz := h.size
 have k1 : Keeps (fun k => v.ownBlock = some k) W W1 := (Keeps.refl (fun k => v.ownBlock = some k) W).grown hg (fun k e _ => e)
 have hb : ∀ k, k < w0.heap.size + 3 → ¬ v.ownBlock = some k := fun k hk e => by have := (own.block k e).1; omega
 have k2 : Keeps (fun k => k = w0.heap.size) W1 (W1.setCell ⟨w0.heap.size, 0, none⟩ v') := keepV _ _ _ _
 have z1 := k1.size
 have e1 := (k1.block _ (by omega) (hb _ (by omega))).trans hl
 refine ⟨⟨(h.old.then k1 (fun i hi e => (hb i (by omega) e).elim)).then k2 (fun i hi e => by omega), ⟨v', blk1_setD e1 _, ho.keeps k2 (fun b hb2 e => by have := (ho.block b hb2).1; omega)⟩, (k2.block _ (by omega) (by omega)).trans ((k1.block _ (by omega) (hb _ (by omega))).trans h.d), (k2.block _ (by omega) (by omega)).trans ((k1.block _ (by omega) (hb _ (by omega))).trans h.r)⟩, ?_⟩
 exact (KeepsWalks.of_grownBy hg (fun j o e ho' => by
  obtain ⟨cs, hc⟩ := own.cellU e
  rw [hc] at ho'
  simp only [Option.some.injEq] at ho'
  subst ho'
  rfl)).trans (KeepsWalks.setCell _ _ _)
theorem round_ofU {w0 W2 : World} {L : List Nat} {x : Nat} {fn : FuncId} {tmps : Array Value} {ps : Array Tmp} {assign body : Code} {D : Nat} (hA : Apd w0 (lrec fn tmps ps assign body D .ready) L W2) (hs : 1 = ps.size)
  (h : ∀ W3, Apd w0 (lrec fn tmps ps assign body D .busy) L W3 → KeepsWalks W2 W3 → assign.wpIn (Fence.wide.inRound (w0.heap.size + 2)) 0 Tryz.prog (Exit.then (fun a₁ w₁ => w₁ = W2 ∧
   body.wpIn (Fence.wide.inRound (w0.heap.size + 2)) 0 Tryz.prog (fun e _ w₂ => e = .normal ∧ Apd w0 (lrec fn tmps ps assign body D .busy) (L ++ [x]) w₂ ∧ KeepsWalks W3 w₂) a₁ W3) (fun _ _ _ => False))
   { tmps := (ps.zip #[.int .u64 (x : Int)]).foldl (fun t (p, v) => t.setIfInBounds p v) tmps, defers := [] } W2) :
  Round Tryz.prog (w0.heap.size + 2) #[.int .u64 (x : Int)] W2 (fun W' => Apd w0 (lrec fn tmps ps assign body D .ready) (L ++ [x]) W' ∧ KeepsWalks W2 W') := by
 have kw1 : KeepsWalks W2 (W2.putObj (w0.heap.size + 2) (.loop (lrec fn tmps ps assign body D .busy))) := KeepsWalks.putObj _ hA.r rfl
 refine Round.of hA.r (by simpa using hs) (wpIn_mono (h _ (hA.turn (lrec fn tmps ps assign body D .busy)) kw1) ?_)
 intro e a1 w1 hq
 cases e with
 | normal =>
  obtain ⟨rfl, hb⟩ := hq
  refine ⟨hA.r, wpIn_mono hb ?_⟩
  rintro e2 a2 w2 ⟨rfl, hj, kw⟩
  exact ⟨rfl, hj.r, hj.turn _, (kw1.trans kw).trans (KeepsWalks.putObj _ hj.r rfl)⟩
 | ret => exact hq.elim
 | exit id => exact hq.elim
 | goto t => exact hq.elim
 | panic ch => exact hq.elim
 | outgrown => exact hq.elim
theorem put_namedU {Q : Exit → Act → World → Prop} {W2 : World} {n : Nat} {o : Obj} {E : Exit} {A : Act} (h : ∀ W3, W3 = W2.putObj n o → Q E A W3) : Q E A (W2.putObj n o) := h _ rfl
theorem appends_keys (w : World) (Bm mb nn : Nat) (f : Value → Option Value) (hbx : w.heap[Bm]? = some (.cells #[.map (some mb)] 49 (0, 0))) (hm : MapF (.int .u64) w mb nn f) (hf : ∀ z, f (.int .u64 z) ≠ none → 0 ≤ z ∧ z < 40) :
  Calls Tryz.prog 163 #[.slice none 0 0, .func (.func 107) #[] #[.pointer (some ⟨Bm, 0, none⟩)]] w fun e w' => ∃ (v : Value) (L : List Nat), e = .returned v ∧ OwnsR w' w.heap.size 30 1 (oneL encU) v L ∧ L.Nodup ∧ (∀ n : Nat, n ∈ L ↔ f (.int .u64 (n : Int)) ≠ none) ∧ Old w w' := by
 obtain ⟨W0, hW0⟩ : ∃ W0, w.alloc (.cells #[.slice none 0 0] 41) = W0 := ⟨_, rfl⟩
 have z0 : W0.heap.size = w.heap.size + 1 := by rw [← hW0]; simp
 have o0 : Old w W0 := by rw [← hW0]; exact (Keeps.refl _ _).alloc _
 have a1 : W0.heap[w.heap.size]? = some (.cells #[.slice none 0 0] 41 (0, 0)) := by rw [← hW0]; exact heap_alloc_new _ _
 have h0 : ∀ R : Loop, Apd w R [] (loopW W0 R) := by
  intro R
  have k := loopW_old W0 R
  have dd := loopW_def W0 R
  have rr := loopW_rec W0 R
  rw [z0] at dd rr
  exact ⟨o0.trans k, ⟨_, (k.block _ (lt_of_heap a1) (fun f => f)).trans a1, OwnsR.nil _ _⟩, dd, rr⟩
 have H := Lib.hid (And.intro hbx (And.intro hm (And.intro hf (And.intro h0 z0))))
 clear o0 a1 h0 hbx hm hf z0
 refine calls_of_marks Tryz.func163 rfl ?_
 simp only [Tryz.ntmps163, List.size_toArray, List.length_cons, List.length_nil, Nat.reduceAdd, Nat.reduceSub, Array.replicate_succ, Array.replicate_zero, List.push_toArray, List.append_toArray, List.nil_append, List.cons_append]
 go_wp2_with fail
 try rw [hW0]
 clear hW0
 refine wp_rangeFunc (gf := 107) (lb := #[.pointer (some ⟨Bm, 0, none⟩)]) rfl enters_keys1 (fun fn => ?_)
 rw [H.out.2.2.2.2]
 refine (keys1_any w _ _ Bm mb nn f (H.out.2.2.2.1 _) H.out.1 H.out.2.1 H.out.2.2.1 ?_).mono ?_
 ·intro L x W2 hnd hlt hA
  have hlen := nodup_le 40 L hnd hlt
  refine round_ofU hA rfl ?_
  intro W3 h3 kw3
  obtain ⟨v, hl3, own3⟩ := h3.box
  have cl := blk1 hl3
  have H3 := Lib.hid (And.intro h3 (And.intro hl3 (And.intro own3 kw3)))
  have hz3 := h3.size
  clear h3 hl3 own3 kw3 hA hnd hlt
  obtain ⟨i0, hi, hz0, hz1, hz2⟩ := info_parts Tryz.infoU64
  have HI := Lib.hid (And.intro hi (And.intro hz0 (And.intro hz1 hz2)))
  have k0 : Old W3 (W3.alloc (.cells #[.int .u64 (x : Int)] 30)) := (Keeps.refl _ _).alloc _
  have HO := Lib.hid (And.intro k0 (H3.out.2.2.1.old k0))
  clear hi hz0 hz1 hz2 k0
  gi_wp2_with (gi_at_builtin; refine StayD.go ?_)
  unfold StayD
  refine wpListIn_append_own_at _ rfl _ _ 41 rfl (w.heap.size + 3) 30 i0 (.int .u64 0) 1 8 Tryz.underlying41 HI.out.1 HI.out.2.1 HI.out.2.2.1 HI.out.2.2.2 rfl (by decide) v L.length (L.flatMap (oneL encU)) rfl HO.out.2 ⟨W3.heap.size, 0, none⟩ 1 1 [.int .u64 (x : Int)] rfl rfl (cell_one_new _ _ _) (by simp [Value.oneCell']) (by unfold maxLen; omega) (by omega) (by simp; omega) ?_
  intro v' w1 hown' hgrow hnil hat
  obtain ⟨g', cap', rfl⟩ : ∃ g' cap', v' = .slice (some ⟨g', 0, none⟩) (L.length + 1) cap' := by
   rcases hown'.2 with ⟨_, h0⟩ | ⟨g', cap', _, e, _⟩
   ·exact absurd h0 (by omega)
   ·exact ⟨g', cap', e⟩
  have hoR : OwnsR w1 (w.heap.size + 3) 30 1 (oneL encU) (.slice (some ⟨g', 0, none⟩) (L.length + 1) cap') (L ++ [x]) := by
   unfold OwnsR
   simpa [oneL, encU] using hown'
  have HP := Lib.hid ((H3.out.1.to HO.out.1).push ((HO.out.1.block _ (lt_of_heap H3.out.2.1) (fun f => f)).trans H3.out.2.1) HO.out.2 hoR hgrow)
  have hsv : ∀ k, k < w.heap.size + 3 → ¬ v.ownBlock = some k := fun k hk e => by have := (H3.out.2.2.1.block k e).1; omega
  have k1 : Keeps (fun k => v.ownBlock = some k) (W3.alloc (.cells #[.int .u64 (x : Int)] 30)) w1 := (Keeps.refl (fun k => v.ownBlock = some k) _).grown hgrow (fun k e _ => e)
  have b1 := (k1.block _ (by simp; omega) (hsv _ (by omega))).trans ((HO.out.1.block _ (lt_of_heap H3.out.2.1) (fun f => f)).trans H3.out.2.1)
  have KW := Lib.hid (KeepsWalks.alloc W3 (.cells #[.int .u64 (x : Int)] 30))
  clear cl
  have cl := blk1 b1
  clear hown' hgrow hnil hat hoR k1 hsv b1
  gi_wp2
  exact ⟨HP.out.1, KW.out.trans HP.out.2⟩
 ·rintro e W2 ⟨he, L, hA, hnd, hL⟩
  refine ⟨he, hA.r, ?_⟩
  clear he
  refine put_namedU (fun W3 hW3 => ?_)
  have hz := hA.size
  have k3 : Keeps (fun k => k = w.heap.size + 2) W2 W3 := by rw [hW3]; exact (Keeps.refl (fun k => k = w.heap.size + 2) W2).putObj (fun _ => rfl) _
  obtain ⟨v, h1, h2⟩ := hA.box
  have h2' := h2.keeps k3 (fun b hb e => by have := (h2.block b hb).1; omega)
  have cl := blk1 ((k3.block _ (by omega) (by omega)).trans h1)
  have hd := (k3.block _ (by omega) (by omega)).trans hA.d
  have HQ := Lib.hid (And.intro (hA.old.then k3 (fun i hi e => by omega)) (And.intro h2' (And.intro hd (And.intro hnd (And.intro hL (show w.heap.size + 1 < W3.heap.size by have := k3.size; omega))))))
  obtain ⟨ps, ns, cs, hsv⟩ : ∃ p n c, v = .slice p n c := by obtain ⟨p, c, e, _⟩ := (OwnsR.sees (enc := oneL encU) h2 (fun _ => rfl) (by decide)).len; exact ⟨_, _, _, e⟩
  subst hsv
  clear hW3 hA h1 h2 h2' hd k3 hz hnd hL
  go_wp2_with fail
  have kd : Keeps (fun k => k = w.heap.size + 1) W3 (W3.putObj (w.heap.size + 1) (.deferred none)) := (Keeps.refl (fun k => k = w.heap.size + 1) W3).putObj (r := w.heap.size + 1) (fun _ => rfl) _
  have hb7 := HQ.out.2.1.keeps kd (fun b hb e => by have := (HQ.out.2.1.block b hb).1; omega)
  exact post_mark (v := .slice ps ns cs) rfl HQ.out.2.2.1 (by simp [results, Tryz.results163, go_sem]) ⟨_, L, rfl, hb7.mono (by omega), HQ.out.2.2.2.1, HQ.out.2.2.2.2.1, HQ.out.1.then kd (fun i hi e => by omega)⟩
end
section
open Go.RowKit
theorem collect_keys (w : World) (Bm mb nn : Nat) (f : Value → Option Value) (hbx : w.heap[Bm]? = some (.cells #[.map (some mb)] 49 (0, 0))) (hm : MapF (.int .u64) w mb nn f) (hf : ∀ z, f (.int .u64 z) ≠ none → 0 ≤ z ∧ z < 40) :
  Calls Tryz.prog 106 #[.func (.func 107) #[] #[.pointer (some ⟨Bm, 0, none⟩)]] w fun e w' => ∃ (v : Value) (L : List Nat), e = .returned v ∧ OwnsR w' w.heap.size 30 1 (oneL encU) v L ∧ L.Nodup ∧ (∀ n : Nat, n ∈ L ↔ f (.int .u64 (n : Int)) ≠ none) ∧ Old w w' := by
 have A := Lib.hid (appends_keys w Bm mb nn f hbx hm hf)
 clear hbx hm hf
 go_enter Tryz.func106, Tryz.ntmps106
 go_wp2_with fail
 refine A.out.mono ?_
 rintro e w1 ⟨v, L, rfl, h1, h2, h3, h4⟩
 obtain ⟨p, n, c, e9⟩ : ∃ p n c, v = .slice p n c := by obtain ⟨p, c, e, _⟩ := (OwnsR.sees (enc := oneL encU) h1 (fun _ => rfl) (by decide)).len; exact ⟨_, _, _, e⟩
 subst e9
 have Z := Lib.hid (And.intro h1 (And.intro h2 (And.intro h3 h4)))
 clear h1 h2 h3 h4
 go_wp2_with fail
 go_ret
 exact ⟨_, L, rfl, Z.out⟩
theorem sorted_keys (w : World) (Bm mb nn : Nat) (f : Value → Option Value) (hbx : w.heap[Bm]? = some (.cells #[.map (some mb)] 49 (0, 0))) (hm : MapF (.int .u64) w mb nn f) (hf : ∀ z, f (.int .u64 z) ≠ none → 0 ≤ z ∧ z < 40) :
  Calls Tryz.prog 64 #[.func (.func 107) #[] #[.pointer (some ⟨Bm, 0, none⟩)]] w fun e w' => ∃ (v : Value) (L : List Nat), e = .returned v ∧ OwnsR w' w.heap.size 30 1 (oneL encU) v L ∧ (∀ n : Nat, n ∈ L ↔ f (.int .u64 (n : Int)) ≠ none) ∧ Old w w' := by
 have A := Lib.hid (collect_keys w Bm mb nn f hbx hm hf)
 have HF := Lib.hid hf
 clear hbx hm hf
 go_enter Tryz.func64, Tryz.ntmps64
 go_wp2_with fail
 refine A.out.mono ?_
 rintro e w1 ⟨v, L, rfl, h1, h2, h3, h4⟩
 obtain ⟨p, n, c, e9⟩ : ∃ p n c, v = .slice p n c := by obtain ⟨p, c, e, _⟩ := (OwnsR.sees (enc := oneL encU) h1 (fun _ => rfl) (by decide)).len; exact ⟨_, _, _, e⟩
 subst e9
 have hl : L.length ≤ 40 := nodup_le 40 L h2 (fun n hn => by have := HF.out n ((h3 n).1 hn); omega)
 have SU := Lib.hid (sort_u64 _ L _ w1 h1 hl)
 have Z := Lib.hid (And.intro (fun k e => (h1.block k e).1) (And.intro h3 h4))
 clear h1 h2 h3 h4
 go_wp2_with fail
 refine SU.out.mono ?_
 rintro e w2 ⟨rfl, M, hM, hoM, kM⟩
 have Q := Lib.hid (And.intro hM (And.intro hoM (Z.out.2.2.then kM (fun i hi e => by have := Z.out.1 i e; omega))))
 clear hM hoM kM
 go_wp2_with fail
 go_ret
 exact ⟨_, M, rfl, Q.out.2.1, fun n => Q.out.1.mem_iff.trans (Z.out.2.1 n), Q.out.2.2⟩
theorem keys_mapU (mb : Nat) (w : World) : Calls Tryz.prog 65 #[.map (some mb)] w fun e w' => e = .returned (.func (.func 107) #[] #[.pointer (some ⟨w.heap.size, 0, none⟩)]) ∧ w' = w.alloc (.cells #[.map (some mb)] 49) := by
 go_enter Tryz.func65, Tryz.ntmps65
 go_wp2_with fail
 go_ret
 exact ⟨rfl, rfl⟩
theorem numbers_any (w0 W : World) (xb eb nb K : Nat) (ev : Nat → Option EvT) (G : ByteArray → Value × List En) (h : IxS w0 xb eb nb K ev G W) (hb : ∀ k t, ev k = some t → k < 40) :
  Calls Tryz.prog 26 #[.pointer (some ⟨xb, 0, none⟩)] W fun e W' => ∃ (v : Value) (N : List Nat), e = .returned v ∧ OwnsR W' W.heap.size 30 1 (oneL encU) v N ∧ (∀ n, n ∈ N ↔ ∃ t, ev n = some t) ∧ Old W W' := by
 obtain ⟨nn, f, hm, hf, hneg⟩ := h.e
 obtain ⟨W1, hW1⟩ : ∃ W1, W.alloc (.cells #[.map (some eb)] 49) = W1 := ⟨_, rfl⟩
 have o1 : Old W W1 := by rw [← hW1]; exact (Keeps.refl _ _).alloc _
 have b1 : W1.heap[W.heap.size]? = some (.cells #[.map (some eb)] 49 (0, 0)) := by rw [← hW1]; exact heap_alloc_new _ _
 have NN := Lib.hid (inone_any xb eb (.map (some nb)) W h.x)
 have KM := Lib.hid (keys_mapU eb W)
 rw [hW1] at KM
 have hf40 : ∀ z, f (.int .u64 z) ≠ none → 0 ≤ z ∧ z < 40 := by
  intro z hz
  rcases Int.lt_or_le z 0 with h0 | h0
  ·exact absurd (hneg z h0) hz
  ·obtain ⟨k, rfl⟩ := Int.eq_ofNat_of_zero_le h0
   rw [hf k] at hz
   cases hk : ev k with
   | none => rw [hk] at hz; exact absurd rfl hz
   | some t => have := hb k t hk; omega
 have SK := Lib.hid (sorted_keys W1 W.heap.size eb nn f b1 (hm.old o1) hf40)
 have x0 := cell_at0 h.x
 have Q := Lib.hid (And.intro o1 hf)
 clear h hm hf hneg hf40 hb b1 o1
 go_enter Tryz.func26, Tryz.ntmps26
 go_wp2_with fail
 refine NN.out.mono ?_
 rintro e W2 ⟨rfl, e2⟩
 subst e2
 go_wp2_with fail
 refine KM.out.mono ?_
 rintro e W3 ⟨rfl, rfl⟩
 go_wp2_with fail
 refine SK.out.mono ?_
 rintro e W4 ⟨v, L, rfl, h1, h2, h3⟩
 obtain ⟨p, n, c, e9⟩ : ∃ p n c, v = .slice p n c := by obtain ⟨p, c, e, _⟩ := (OwnsR.sees (enc := oneL encU) h1 (fun _ => rfl) (by decide)).len; exact ⟨_, _, _, e⟩
 subst e9
 have Z := Lib.hid (And.intro h1 (And.intro h2 h3))
 clear h1 h2 h3
 go_wp2_with fail
 go_ret
 refine ⟨_, L, rfl, Z.out.1.mono Q.out.1.size, fun n => ?_, Q.out.1.trans Z.out.2.2⟩
 rw [Z.out.2.1 n, Q.out.2 n]
 cases ev n <;> simp
end
end Go.Proofs.YtehmlaplodjenaaGreat
