/- DERIVED. match: Match. · DERIVED. match: the plain law: the counts tell what matches. -/
import Derived.Test.YtehmlaplodjenaaGreatZTopDual37
import Derived.Deep.DeepCutAuto
import Derived.IntWalk
import Derived.Laws.EntriesVeiled
import Derived.Test.YtehmlaplodjenaaGreatZTopDual31
import Derived.Test.YtehmlaplodjenaaGreatZTopDual17
import Derived.Test.YtehmlaplodjenaaGreatZTopDual19
import Derived.Test.YtehmlaplodjenaaGreatZTopDual06
import Derived.Test.YtehmlaplodjenaaGreatZTopDual16
import Derived.Lib.MinMax
set_option maxRecDepth 100000
set_option maxHeartbeats 4000000
namespace Go.Proofs.YtehmlaplodjenaaGreat
section
open Go.RowKit
theorem enters_match2 : ∀ args W, (callFunc 34 args).run Tryz.prog W = .ok (.enter 34 args) W := fun args W => by simp [go_sem, callFunc, Tryz.func34]; rfl
theorem delN_nil (fv : Value) (w : World) : Calls Tryz.prog 32 #[.slice none 0 0, fv] w fun e w' => e = .returned (.slice none 0 0) ∧ Old w w' := by
 have C : Calls Tryz.prog 76 #[.slice none 0 0, fv] w fun e w' => e = .returned (.int .i64 (-1)) ∧ Old w w' := by
  go_enter Tryz.func76, Tryz.ntmps76
  go_wp2_with fail
  go_loopw [8] (fun v8 wr => v8 = .int .i64 0 ∧ Old w wr) (fun _ _ => 0)
  case atStart => exact ⟨rfl, Keeps.refl _ _⟩
  case round =>
   obtain ⟨rfl, hkw⟩ := hrel
   have K1 := Lib.hid hkw
   clear hkw
   go_wp2_with fail
   go_ret
   exact ⟨rfl, K1.out⟩
 have CC := Lib.hid C
 clear C
 go_enter Tryz.func32, Tryz.ntmps32
 go_wp2_with fail
 refine CC.out.mono ?_
 rintro e w1 ⟨rfl, k1⟩
 have K1 := Lib.hid k1
 clear k1
 go_wp2_with fail
 go_ret
 exact ⟨rfl, K1.out⟩
theorem delN_any (pr : Nat → Bool) (g : FuncId) (lb : Array Value) (v : Value) (L : List Nat) (B : Nat) (w : World) (h : OwnsR w B 3 1 (oneL encN) v L) (hl : L.length ≤ 1000000)
  (eg : ∀ args w, (callFunc g args).run Tryz.prog w = .ok (.enter g args) w) (_hB : B ≤ w.heap.size)
  (hc : ∀ (W : World) (x : Nat), Keeps (fun k => B ≤ k ∧ v.ownBlock = some k) w W → Calls Tryz.prog g (#[encN x] ++ lb) W fun e W' => e = .returned (.bool (pr x)) ∧ W' = W.drew) :
  Calls Tryz.prog 32 #[v, .func (.func g) #[] lb] w fun e w' => ∃ p n c, e = .returned (.slice p n c) ∧ OwnsR w' B 3 1 (oneL encN) (.slice p n c) (L.filter fun x => !pr x) ∧ Keeps (fun k => B ≤ k ∧ v.ownBlock = some k) w w' := by
 rcases h.nil_or with ⟨rfl, rfl⟩ | ⟨g0, cap, rfl, hb, hlt, hn, hm⟩
 ·refine (delN_nil _ w).mono ?_
  rintro e w' ⟨rfl, k⟩
  exact ⟨_, _, _, rfl, OwnsR.nil _ _, k.weaken (fun _ _ f => f.elim)⟩
 ·have one : ∀ W q, Calls Tryz.prog g (#[encN q] ++ lb) W (fun e W' => e = .returned (.bool (pr q)) ∧ W' = W.drew) → Go.Proofs.FnGives Tryz.prog g lb #[encN q] (.bool (pr q)) W := fun W q h => h.mono (by
   rintro e W' ⟨rfl, rfl⟩
   exact ⟨rfl, 1, rfl⟩)
  have C := sh_slices_DeleteFunc encN (fun x => rfl) pr g lb eg 0 (fun w => by kernel_rfl) g0 0 cap L.toArray w
   (fun W x hW => one W x (hc W x ((Old.of_below hW (Nat.le_refl _)).weaken (fun _ _ f => f.elim))))
   (fun n os dk x hd => one _ x (hc _ x (by
    have := (h.putRow (w := w) dk.toList (by simpa using hd) n os).2
    exact this.weaken (fun i _ e => by subst e; exact ⟨hb, rfl⟩))))
   h.holds (by simp; omega) (by simpa using hn)
  simp only [List.size_toArray] at C
  refine C.mono ?_
  rintro e w' ⟨rfl, q, rfl⟩
  have hlen : (L.filter fun x => !pr x).length ≤ L.length := List.length_filter_le _ _
  obtain ⟨M, hM⟩ : ∃ M, (L.filter fun x => !pr x) ++ List.replicate (L.length - (L.filter fun x => !pr x).length) 0 = M := ⟨_, rfl⟩
  have hML : M.length = L.length := by rw [← hM]; simp; omega
  have hMt : M.take (L.filter fun x => !pr x).length = L.filter fun x => !pr x := by rw [← hM, List.take_left]
  rw [hM]
  have hpr := h.putRow M hML q #[]
  rw [Sort.grow_empty] at hpr
  have h2 := hpr.1
  rw [← hML] at h2
  have hcut := OwnsR.cut (enc := oneL encN) (k := 1) (fun _ => rfl) h2 (L.filter fun x => !pr x).length (by omega) (by simp)
  rw [hMt] at hcut
  exact ⟨_, _, _, rfl, hcut, hpr.2.weaken (fun i _ e => by subst e; exact ⟨hb, rfl⟩)⟩
def lenV : Option Value → Nat
 | some (.slice _ n _) => n
 | _ => 0
def MatP (_w0 : World) (pr : Nat → Option Value) (G : ByteArray → Value × List Pt) (l : List At) (W : World) (e : Ending) (W' : World) : Prop :=
 ∃ v L, e = .returned v ∧ SeesR W' 1 (oneL encN) v L ∧ L.Pairwise (fun x y => x < y) ∧ Old W W' ∧ ∀ k, k ∈ L ↔ ∃ p n c, pr k = some (.slice p n c) ∧ n ≤ cntI G l l.length k
theorem match_any (w0 Wa : World) (xb pb qb Kn Kc : Nat) (pr : Nat → Option Value) (G : ByteArray → Value × List Pt) (key : ByteArray) (av : Value) (l : List At) (h : MxS w0 xb pb qb Kn Kc pr G Wa) (hKn : Kn ≤ 1000) (hKc : Kc ≤ 200) (hl : l.length ≤ 1000) (ha : SeesA w0 av l)
  (hid : ∀ s, ∀ y ∈ (G s).2, y.id ≤ 1000000) (hpr : ∀ k v, pr k = some v → k ≤ 1000000 ∧ ∃ p n c, v = .slice p n c) :
  Calls Tryz.prog 11 #[.pointer (some ⟨xb, 0, none⟩), .agg #[.string key, av]] Wa (MatP w0 pr G l Wa) := by
 obtain ⟨pa, ca, rfl, _, _⟩ := ha.len
 have mk := fun W => (show (Instr.makeMap 87 none).run Tryz.prog W = .ok (.map (some W.heap.size)) (W.alloc (.map #[] 0)) from by kernel_rfl)
 obtain ⟨W3, hW3⟩ : ∃ W3, ((Wa.alloc (.cells #[.pointer (some ⟨xb, 0, none⟩)] 26)).alloc (.cells #[.string key, .slice pa l.length ca] 33)).alloc (.map #[] 0) = W3 := ⟨_, rfl⟩
 obtain ⟨b1, b2, b3, _⟩ := three_blocks Wa (.cells #[.pointer (some ⟨xb, 0, none⟩)] 26) (.cells #[.string key, .slice pa l.length ca] 33) (.map #[] 0)
 rw [hW3] at b1 b2 b3
 have o3 : Old Wa W3 := by rw [← hW3]; exact (((Keeps.refl _ _).alloc _).alloc _).alloc _
 have s3 : W3.heap.size = Wa.heap.size + 1 + 1 + 1 := by rw [← hW3]; simp
 obtain ⟨W4, hW4⟩ : ∃ W4, W3.alloc (.cells #[.map (some (Wa.heap.size + 1 + 1))] 87) = W4 := ⟨_, rfl⟩
 have b4 : W4.heap[Wa.heap.size + 1 + 1 + 1]? = some (.cells #[.map (some (Wa.heap.size + 1 + 1))] 87 (0, 0)) := by rw [← hW4, ← s3]; exact heap_alloc_new _ _
 have o34 : Old W3 W4 := by rw [← hW4]; exact (Keeps.refl _ _).alloc _
 have d1 := (o34.block _ (lt_of_heap b1) (fun f => f)).trans b1
 have d2 := (o34.block _ (lt_of_heap b2) (fun f => f)).trans b2
 have d3 := (o34.block _ (lt_of_heap b3) (fun f => f)).trans b3
 have h0 : HeldS W4 (Wa.heap.size + 1 + 1) (fun _ => 0) := ⟨0, fun _ => none, ⟨#[], 0, d3, MapKept.stamped_empty 0, by simp, by simp, fun k v _ => by simp⟩, fun k => by simp⟩
 have AS := Lib.hid (asked_m w0 Wa W4 xb pb qb Kn Kc (Wa.heap.size + 1 + 1 + 1) (Wa.heap.size + 1 + 1) pr G key (.slice pa l.length ca) l h (o3.trans o34) (by omega) b4 h0 ha hKc hl hid)
 have q1 : W4.cell? ⟨Wa.heap.size, 0, none⟩ = some (.pointer (some ⟨xb, 0, none⟩)) := by simp [World.cell?, d1]
 have q2 := blk2 d2
 have H := Lib.hid (And.intro h (And.intro (o3.trans o34) (And.intro d1 (And.intro b4 hpr))))
 have HW := Lib.hid (And.intro hW3 hW4)
 clear hW3 hW4 b1 b2 b3 o3 s3 b4 o34 d1 d2 d3 h0 h ha hpr hid
 go_enter Tryz.func11, Tryz.ntmps11
 go_upto_region 2 with fail
 rw [HW.out.1, HW.out.2]
 clear mk HW
 go_wp2_with fail
 refine AS.out.mono ?_
 rintro e W5 ⟨rfl, hh5, k5⟩
 have d1 := (k5.block _ (lt_of_heap H.out.2.2.1) (fun e => absurd (show Wa.heap.size = Wa.heap.size + 1 + 1 from e) (by omega))).trans H.out.2.2.1
 have d4 := (k5.block _ (lt_of_heap H.out.2.2.2.1) (fun e => absurd (show Wa.heap.size + 1 + 1 + 1 = Wa.heap.size + 1 + 1 from e) (by omega))).trans H.out.2.2.2.1
 have o5 : Old Wa W5 := H.out.2.1.then k5 (fun i hi e => by have : i = Wa.heap.size + 1 + 1 := e; omega)
 have m5 := H.out.1.to o5
 have ID := Lib.hid (ids_any w0 W5 xb pb qb Kn Kc pr G m5 hKn (fun k hk => by
  cases h : pr k with
  | none => exact absurd h hk
  | some v => exact (H.out.2.2.2.2 k v h).1))
 have Q := Lib.hid (And.intro m5 (And.intro hh5 (And.intro d1 (And.intro d4 o5))))
 have q3 : W5.cell? ⟨Wa.heap.size, 0, none⟩ = some (.pointer (some ⟨xb, 0, none⟩)) := by simp [World.cell?, d1]
 clear q1 q2 k5 d1 d4 o5 m5 hh5 AS
 go_wp2_with fail
 refine ID.out.mono ?_
 rintro e W6 ⟨v, L, rfl, hpw, hmem, hlen, ho, k6⟩
 have DF := Lib.hid (delN_any (fun x => decide (cntI G l l.length x < lenV (pr x))) 34 #[.pointer (some ⟨Wa.heap.size + 1 + 1 + 1, 0, none⟩), .pointer (some ⟨Wa.heap.size, 0, none⟩)] v L W5.heap.size W6 ho (by omega) enters_match2 k6.size (fun W x hW => by
  have oW : Old W5 W := k6.then hW (fun i hi e => by have := e.1; omega)
  obtain ⟨p, n, c, hp, hn⟩ : ∃ p n c, (pr x).getD (.slice none 0 0) = .slice p n c ∧ lenV (pr x) = n := by
   cases h : pr x with
   | none => exact ⟨none, 0, 0, rfl, rfl⟩
   | some v =>
    obtain ⟨_, p, n, c, rfl⟩ := H.out.2.2.2.2 x v h
    exact ⟨p, n, c, rfl, rfl⟩
  rw [hn]
  exact match2_any w0 W xb pb qb Kn Kc _ _ _ pr G _ x n p c (Q.out.1.to oW) (Q.out.2.1.old oW) ((oW.block _ (lt_of_heap Q.out.2.2.2.1) (fun f => f)).trans Q.out.2.2.2.1) ((oW.block _ (lt_of_heap Q.out.2.2.1) (fun f => f)).trans Q.out.2.2.1) hp))
 have Z := Lib.hid (And.intro hpw (And.intro hmem k6))
 obtain ⟨p, n, c, e9⟩ : ∃ p n c, v = .slice p n c := by
  obtain ⟨p, c, e, _⟩ := (OwnsR.sees (enc := oneL encN) ho (fun _ => rfl) (by decide)).len
  exact ⟨_, _, _, e⟩
 clear hpw hmem k6 hlen ho q3 ID
 subst e9
 go_wp2_with fail
 refine DF.out.mono ?_
 rintro e W7 ⟨p7, n7, c7, rfl, ho7, k7⟩
 have Y := Lib.hid (And.intro (OwnsR.sees (enc := oneL encN) ho7 (fun _ => rfl) (by decide)) (Z.out.2.2.then k7 (fun i hi e => by have := e.1; omega)))
 clear ho7 k7
 go_wp2_with fail
 go_ret
 refine ⟨_, _, rfl, Y.out.1, Z.out.1.sublist List.filter_sublist, Q.out.2.2.2.2.trans Y.out.2, fun k => ?_⟩
 rw [List.mem_filter, Z.out.2.1 k]
 constructor
 ·rintro ⟨h1, h2⟩
  cases h : pr k with
  | none => exact absurd h h1
  | some v =>
   obtain ⟨_, p, n, c, rfl⟩ := H.out.2.2.2.2 k v h
   refine ⟨p, n, c, rfl, ?_⟩
   rw [h, show lenV (some (Value.slice p n c)) = n from rfl] at h2
   simpa using h2
 ·rintro ⟨p, n, c, h, hle⟩
  rw [h]
  refine ⟨by simp, ?_⟩
  rw [show lenV (some (Value.slice p n c)) = n from rfl]
  simpa using hle
end
section
def Lnk (G : ByteArray → Value × List Pt) (N : Nat → List Con) : Prop :=
 ∀ (s : ByteArray) (k : Nat), ((G s).2.filter (fun y => y.id == k)).map (·.c) = (N k).filter (fun c => c.name.toList == s.toList)
theorem Lnk.nil : Lnk (fun _ => (.slice none 0 0, [])) (fun _ => []) := fun _ _ => rfl
theorem Lnk.add {G G' : ByteArray → Value × List Pt} {Nf : Nat → List Con} {n : Nat} {N : List Con} (h : Lnk G Nf) (hn : Nf n = []) (hG : ∀ s, (G' s).2 = (G s).2 ++ (N.filter (fun y => y.name.toList == s.toList)).map (fun y => ⟨n, y⟩)) : Lnk G' (fun k => if k = n then N else Nf k) := by
 intro s k
 rw [hG s, List.filter_append, List.map_append, h s k]
 by_cases hk : k = n
 ·subst hk
  simp only [if_true]
  rw [hn]
  simp only [List.filter_nil, List.nil_append]
  rw [List.filter_eq_self.2 (by
   intro y hy
   obtain ⟨c, _, rfl⟩ := List.mem_map.1 hy
   simp), List.map_map]
  exact List.map_id' _
 ·simp only [if_neg hk]
  have : (List.map (fun y => (⟨n, y⟩ : Pt)) (List.filter (fun y => y.name.toList == s.toList) N)).filter (fun y => y.id == k) = [] := by
   rw [List.filter_eq_nil_iff]
   intro y hy
   obtain ⟨c, _, rfl⟩ := List.mem_map.1 hy
   simp only [beq_iff_eq]
   exact fun e => hk e.symm
  rw [this]
  simp
theorem countP_sum {α : Type} {P Q R : α → Bool} (h : ∀ c, (if P c then 1 else 0) = (if Q c then 1 else 0) + (if R c then (1 : Nat) else 0)) : ∀ l : List α, l.countP P = l.countP Q + l.countP R
 | [] => rfl
 | x :: l => by
  have h1 := h x
  have h2 := countP_sum h l
  rw [List.countP_cons, List.countP_cons, List.countP_cons, h1, h2]
  omega
theorem getV_first {l : List At} {i : Nat} {a : At} (ha : l[i]? = some a) (hs : (l.take i).any (fun b => b.name.toList == a.name.toList) = false) : getV l a.name = some a.val := by
 unfold getV
 have : l.find? (fun b => b.name.toList == a.name.toList) = some a := by
  rw [List.find?_eq_some_iff_getElem]
  obtain ⟨hi, e⟩ := List.getElem?_eq_some_iff.1 ha
  refine ⟨by simp, i, hi, e, fun j hj => ?_⟩
  have := List.any_eq_false.1 hs (l[j]'(by omega)) (by rw [List.mem_take_iff_getElem]; exact ⟨j, by omega, rfl⟩)
  simpa using this
 rw [this]
 rfl
theorem cnt_law {G : ByteArray → Value × List Pt} {N : Nat → List Con} (h : Lnk G N) (l : List At) (k : Nat) :
  ∀ i, i ≤ l.length → cntI G l i k = (N k).countP (fun c => (l.take i).any (fun b => b.name.toList == c.name.toList) && metC l c.plain)
 | 0, _ => by
  show 0 = _
  simp
 | i + 1, hi => by
  have ih := cnt_law h l k i (by omega)
  show cntI G l i k + cntT G l k i = _
  obtain ⟨a, ha⟩ : ∃ a, l[i]? = some a := ⟨_, List.getElem?_eq_getElem (by omega)⟩
  have ht : l.take (i + 1) = l.take i ++ [a] := by rw [List.take_add_one, ha]; rfl
  unfold cntT
  rw [ha, ih, ht]
  simp only [List.any_append, List.any_cons, List.any_nil, Bool.or_false]
  cases hs : (l.take i).any (fun b => b.name.toList == a.name.toList)
  ·rw [if_neg (by decide)]
   have e1 : (G a.name).2.countP (fun y => y.id == k && asksV y.c.plain a.val) = (N k).countP (fun c => (c.name.toList == a.name.toList) && asksV c.plain a.val) := by
    have e2 : (N k).countP (fun c => (c.name.toList == a.name.toList) && asksV c.plain a.val) = ((N k).filter (fun c => c.name.toList == a.name.toList)).countP (fun c => asksV c.plain a.val) := by
     rw [List.countP_filter]
     congr 1
     funext c
     rw [Bool.and_comm]
    rw [e2, ← h a.name k, List.countP_map, List.countP_filter]
    congr 1
    funext y
    simp only [Function.comp]
    rw [Bool.and_comm]
   rw [e1]
   symm
   refine countP_sum (fun c => ?_) _
   by_cases hc : c.name.toList = a.name.toList
   ·have hcn : c.name = a.name := toList_inj hc
    have hm : metC l c.plain = asksV c.plain a.val := by
     unfold metC
     show (getV l c.name).elim false _ = _
     rw [hcn, getV_first ha hs]
     rfl
    rw [hm, hcn, hs]
    simp
   ·have h1 : (a.name.toList == c.name.toList) = false := by rw [beq_eq_false_iff_ne]; exact fun e => hc e.symm
    have h2 : (c.name.toList == a.name.toList) = false := by rw [beq_eq_false_iff_ne]; exact hc
    simp only [h1, h2, Bool.or_false, Bool.false_and]
    simp
  ·rw [if_pos rfl, Nat.add_zero]
   congr 1
   funext c
   by_cases hc : a.name.toList = c.name.toList
   ·rw [← hc, hs]
    simp
   ·have h1 : (a.name.toList == c.name.toList) = false := by rw [beq_eq_false_iff_ne]; exact hc
    rw [h1, Bool.or_false]
theorem getV_any {l : List At} {name : ByteArray} {v : Val} (h : getV l name = some v) : l.any (fun b => b.name.toList == name.toList) = true := by
 unfold getV at h
 cases hf : l.find? (fun a => a.name.toList == name.toList) with
 | none => rw [hf] at h; cases h
 | some a =>
  rw [List.any_eq_true]
  exact ⟨a, List.mem_of_find?_eq_some hf, (List.find?_some (p := fun (b : At) => b.name.toList == name.toList) hf :)⟩
theorem found_law {G : ByteArray → Value × List Pt} {N : Nat → List Con} (h : Lnk G N) (l : List At) (k : Nat) : (N k).length ≤ cntI G l l.length k ↔ matchesV ((N k).map Con.plain) l = true := by
 rw [cnt_law h l k l.length (Nat.le_refl _), List.take_of_length_le (Nat.le_refl _)]
 have e : (N k).countP (fun c => l.any (fun b => b.name.toList == c.name.toList) && metC l c.plain) = (N k).countP (fun c => metC l c.plain) := by
  congr 1
  funext c
  cases hm : metC l c.plain
  ·simp
  ·rw [Bool.and_true]
   unfold metC at hm
   cases hg : getV l c.plain.name with
   | none => rw [hg] at hm; cases hm
   | some v => exact getV_any hg
 rw [e]
 unfold matchesV
 rw [List.all_map, List.all_eq_true]
 have hle : (N k).countP (fun c => metC l c.plain) ≤ (N k).length := List.countP_le_length
 constructor
 ·intro h1
  have h2 : (N k).countP (fun c => metC l c.plain) = (N k).length := Nat.le_antisymm hle h1
  rw [List.countP_eq_length] at h2
  exact h2
 ·intro h1
  have h2 : (N k).countP (fun c => metC l c.plain) = (N k).length := List.countP_eq_length.2 h1
  omega
end
section
open Go.RowKit
theorem own_isT {α : Type} {W : World} {B k i : Nat} {t : TypeId} {enc : α → List Value} {v : Value} {l : List α} (h : OwnsR W B t k enc v l) (e : v.ownBlock = some i) : IsT W t i := by
 rcases h.2 with ⟨rfl, _⟩ | ⟨g, cap, cur, rfl, _, hg, _⟩
 ·simp [Value.ownBlock] at e
 ·simp only [Value.ownBlock, Option.some.injEq] at e
  subst e
  exact ⟨_, _, hg⟩
theorem IxS.frame {w0 W W' : World} {xb eb nb K : Nat} {ev : Nat → Option EvT} {G : ByteArray → Value × List En} {S : Nat → Prop} (h : IxS w0 xb eb nb K ev G W) (k : Keeps S W W') (hlo : ∀ i, i < w0.heap.size → ¬ S i) (hx : ¬ S xb) (he : ¬ S eb) (hn : ¬ S nb) (hr : ∀ i, IsT W 66 i → ¬ S i) (ha : ∀ i, IsT W 63 i → ¬ S i) : IxS w0 xb eb nb K ev G W' := by
 obtain ⟨n1, f1, m1, e1⟩ := h.e
 obtain ⟨n2, f2, m2, e2⟩ := h.n
 exact ⟨h.old.then k (fun i hi e => hlo i hi e), (k.block _ (lt_of_heap h.x) hx).trans h.x, h.xlo, h.elo, h.nlo, h.ne, ⟨n1, f1, m1.keeps k he, e1⟩, ⟨n2, f2, m2.keeps k hn, e2⟩, fun s => (h.rows s).keeps k (fun b hb => hr b (own_isT (h.rows s) hb)), h.len, h.apart, fun k' t ht => (h.evs k' t ht).keeps k (fun b hb => ha b (own_isT (h.evs k' t ht) hb))⟩
theorem MxS.frame {w0 W W' : World} {xb pb qb Kn K : Nat} {pr : Nat → Option Value} {G : ByteArray → Value × List Pt} {S : Nat → Prop} (h : MxS w0 xb pb qb Kn K pr G W) (k : Keeps S W W') (hlo : ∀ i, i < w0.heap.size → ¬ S i) (hx : ¬ S xb) (hp : ¬ S pb) (hq : ¬ S qb) (hr : ∀ i, IsT W 81 i → ¬ S i) (ha : ∀ i, IsT W 61 i → ¬ S i) : MxS w0 xb pb qb Kn K pr G W' := by
 obtain ⟨f1, m1, e1⟩ := h.p
 obtain ⟨n2, f2, m2, e2⟩ := h.q
 exact ⟨h.old.then k (fun i hi e => hlo i hi e), (k.block _ (lt_of_heap h.x) hx).trans h.x, h.xlo, h.plo, h.qlo, h.ne, ⟨f1, m1.keeps k hp, e1⟩, ⟨n2, f2, m2.keeps k hq, e2⟩, fun s => (h.rows s).keeps k (fun b hb => hr b (own_isT (h.rows s) hb)), h.len, h.apart, fun s y hy => (h.sets s y hy).keeps k (fun b hb => ha b (own_isT (h.sets s y hy) hb))⟩
theorem MxS.base {w w1 W : World} {xb pb qb Kn K : Nat} {pr : Nat → Option Value} {G : ByteArray → Value × List Pt} (h : MxS w1 xb pb qb Kn K pr G W) (k : Old w w1) : MxS w xb pb qb Kn K pr G W :=
 ⟨k.trans h.old, h.x, Nat.le_trans k.size h.xlo, Nat.le_trans k.size h.plo, Nat.le_trans k.size h.qlo, h.ne, h.p, h.q, fun s => (h.rows s).mono k.size, h.len, h.apart, fun s y hy => (h.sets s y hy).mono k.size⟩
theorem isT_one {W : World} {i : Nat} {t t' : TypeId} {cs : Array Value} {fr : Nat × Nat} (h : IsT W t i) (hb : W.heap[i]? = some (.cells cs t' fr)) : t = t' := by
 obtain ⟨cs', fr', e⟩ := h
 rw [hb] at e
 simp only [Option.some.injEq, Obj.cells.injEq] at e
 exact e.2.1.symm
theorem isT_map {W : World} {i : Nat} {t : TypeId} {es : Array MapEntry} {ck : Nat} (h : IsT W t i) (hb : W.heap[i]? = some (.map es ck)) : False := by
 obtain ⟨cs', fr', e⟩ := h
 rw [hb] at e
 cases e
theorem isT_two {W : World} {i : Nat} {t t' : TypeId} (h : IsT W t i) (h' : IsT W t' i) : t = t' := by
 obtain ⟨cs, fr, e⟩ := h'
 exact isT_one h e
theorem Keeps.above {S : Nat → Prop} {w W W' : World} (k : Keeps S W W') (h : Old w W) (h' : Old w W') : Keeps (fun i => w.heap.size ≤ i ∧ S i) W W' := by
 refine ⟨k.os, k.tape, k.output, k.size, fun i hi hS => ?_⟩
 by_cases hlt : i < w.heap.size
 ·rw [h'.block i hlt (fun f => f), h.block i hlt (fun f => f)]
 ·exact k.block i hi (fun e => hS ⟨by omega, e⟩)
structure Both (w : World) (xb eb nb K : Nat) (ev : Nat → Option EvT) (G : ByteArray → Value × List En) (xm pb qb Kn Km : Nat) (pr : Nat → Option Value) (Gm : ByteArray → Value × List Pt) (W : World) : Prop where
 ix : IxS w xb eb nb K ev G W
 mx : MxS w xm pb qb Kn Km pr Gm W
 ep : eb ≠ pb
 eq : eb ≠ qb
 np : nb ≠ pb
 nq : nb ≠ qb
section
variable {w W W' : World} {xb eb nb K : Nat} {ev : Nat → Option EvT} {G : ByteArray → Value × List En} {xm pb qb Kn Km : Nat} {pr : Nat → Option Value} {Gm : ByteArray → Value × List Pt}
theorem Both.to (h : Both w xb eb nb K ev G xm pb qb Kn Km pr Gm W) (k : Old W W') : Both w xb eb nb K ev G xm pb qb Kn Km pr Gm W' := ⟨h.ix.to k, h.mx.to k, h.ep, h.eq, h.np, h.nq⟩
theorem Both.addE {K' : Nat} {ev' : Nat → Option EvT} {G' : ByteArray → Value × List En} (h : Both w xb eb nb K ev G xm pb qb Kn Km pr Gm W) (h' : IxS w xb eb nb K' ev' G' W') (k : Frm eb nb 66 W W') : Both w xb eb nb K' ev' G' xm pb qb Kn Km pr Gm W' := by
 obtain ⟨_, m1, _⟩ := h.mx.p
 obtain ⟨_, _, m2, _⟩ := h.mx.q
 obtain ⟨_, _, b1⟩ := m1.heap
 obtain ⟨_, _, b2⟩ := m2.heap
 obtain ⟨_, _, m3, _⟩ := h.ix.e
 obtain ⟨_, _, m4, _⟩ := h.ix.n
 obtain ⟨_, _, b3⟩ := m3.heap
 obtain ⟨_, _, b4⟩ := m4.heap
 refine ⟨h', h.mx.frame (k.above h.ix.old h'.old) (fun i hi e => by omega) ?_ ?_ ?_ ?_ ?_, h.ep, h.eq, h.np, h.nq⟩
 ·rintro ⟨_, e | e | hT⟩
  ·have := h.mx.x; rw [e, b3] at this; cases this
  ·have := h.mx.x; rw [e, b4] at this; cases this
  ·exact absurd (isT_one hT h.mx.x) (by decide)
 ·rintro ⟨_, e | e | hT⟩
  ·exact h.ep e.symm
  ·exact h.np e.symm
  ·exact isT_map hT b1
 ·rintro ⟨_, e | e | hT⟩
  ·exact h.eq e.symm
  ·exact h.nq e.symm
  ·exact isT_map hT b2
 ·rintro i hi ⟨_, rfl | rfl | hT⟩
  ·exact isT_map hi b3
  ·exact isT_map hi b4
  ·exact absurd (isT_two hi hT) (by decide)
 ·rintro i hi ⟨_, rfl | rfl | hT⟩
  ·exact isT_map hi b3
  ·exact isT_map hi b4
  ·exact absurd (isT_two hi hT) (by decide)
theorem Both.addM {Kn' Km' : Nat} {pr' : Nat → Option Value} {Gm' : ByteArray → Value × List Pt} (h : Both w xb eb nb K ev G xm pb qb Kn Km pr Gm W) (h' : MxS w xm pb qb Kn' Km' pr' Gm' W') (k : Frm pb qb 81 W W') : Both w xb eb nb K ev G xm pb qb Kn' Km' pr' Gm' W' := by
 obtain ⟨_, m1, _⟩ := h.mx.p
 obtain ⟨_, _, m2, _⟩ := h.mx.q
 obtain ⟨_, _, b1⟩ := m1.heap
 obtain ⟨_, _, b2⟩ := m2.heap
 obtain ⟨_, _, m3, _⟩ := h.ix.e
 obtain ⟨_, _, m4, _⟩ := h.ix.n
 obtain ⟨_, _, b3⟩ := m3.heap
 obtain ⟨_, _, b4⟩ := m4.heap
 refine ⟨h.ix.frame (k.above h.mx.old h'.old) (fun i hi e => by omega) ?_ ?_ ?_ ?_ ?_, h', h.ep, h.eq, h.np, h.nq⟩
 ·rintro ⟨_, e | e | hT⟩
  ·have := h.ix.x; rw [e, b1] at this; cases this
  ·have := h.ix.x; rw [e, b2] at this; cases this
  ·exact absurd (isT_one hT h.ix.x) (by decide)
 ·rintro ⟨_, e | e | hT⟩
  ·exact h.ep e
  ·exact h.eq e
  ·exact isT_map hT b3
 ·rintro ⟨_, e | e | hT⟩
  ·exact h.np e
  ·exact h.nq e
  ·exact isT_map hT b4
 ·rintro i hi ⟨_, rfl | rfl | hT⟩
  ·exact isT_map hi b1
  ·exact isT_map hi b2
  ·exact absurd (isT_two hi hT) (by decide)
 ·rintro i hi ⟨_, rfl | rfl | hT⟩
  ·exact isT_map hi b1
  ·exact isT_map hi b2
  ·exact absurd (isT_two hi hT) (by decide)
theorem Both.table {fb : Nat} {cs : Array Value} {fr : Nat × Nat} (h : Both w xb eb nb K ev G xm pb qb Kn Km pr Gm W) (hb : W.heap[fb]? = some (.cells cs 36 fr)) (hlo : w.heap.size ≤ fb) (k : Keeps (fun i => i = fb) W W') : Both w xb eb nb K ev G xm pb qb Kn Km pr Gm W' := by
 obtain ⟨_, m1, _⟩ := h.mx.p
 obtain ⟨_, _, m2, _⟩ := h.mx.q
 obtain ⟨_, _, b1⟩ := m1.heap
 obtain ⟨_, _, b2⟩ := m2.heap
 obtain ⟨_, _, m3, _⟩ := h.ix.e
 obtain ⟨_, _, m4, _⟩ := h.ix.n
 obtain ⟨_, _, b3⟩ := m3.heap
 obtain ⟨_, _, b4⟩ := m4.heap
 refine ⟨h.ix.frame k (fun i hi e => by omega) ?_ ?_ ?_ ?_ ?_, h.mx.frame k (fun i hi e => by omega) ?_ ?_ ?_ ?_ ?_, h.ep, h.eq, h.np, h.nq⟩
 ·intro e
  have h1 := h.ix.x
  rw [e, hb] at h1
  simp only [Option.some.injEq, Obj.cells.injEq] at h1
  exact absurd h1.2.1 (by decide)
 ·intro e; rw [e, hb] at b3; cases b3
 ·intro e; rw [e, hb] at b4; cases b4
 ·intro i hi e; subst e; exact absurd (isT_one hi hb) (by decide)
 ·intro i hi e; subst e; exact absurd (isT_one hi hb) (by decide)
 ·intro e
  have h1 := h.mx.x
  rw [e, hb] at h1
  simp only [Option.some.injEq, Obj.cells.injEq] at h1
  exact absurd h1.2.1 (by decide)
 ·intro e; rw [e, hb] at b1; cases b1
 ·intro e; rw [e, hb] at b2; cases b2
 ·intro i hi e; subst e; exact absurd (isT_one hi hb) (by decide)
 ·intro i hi e; subst e; exact absurd (isT_one hi hb) (by decide)
end
def evAt (Es : List EvT) (n : Nat) : Option (List At) := (Es[n]?).bind fun t => if evOk t.1 t.2.2 then some t.2.2 else none
def fnd (Es : List EvT) (Ps : List (Value × List Con)) (a b : Nat) : Bool :=
 match Ps[a]?, evAt Es b with
 | some t, some l => predOk t.2 && matchesV (t.2.map Con.plain) l
 | _, _ => false
def EvIs (Es : List EvT) (i : Nat) (ev : Nat → Option EvT) : Prop := ∀ n, (ev n).map (fun t => t.2.2) = if n < i then evAt Es n else none
theorem Told.nil : Told 0 (fun _ => none) (fun _ => (.slice none 0 0, [])) := ⟨fun _ => List.Pairwise.nil, fun s x => by simp, fun k t h => (by cases h), fun s => Nat.le_refl _⟩
theorem Told.more {m m' : Nat} {ev : Nat → Option EvT} {G : ByteArray → Value × List En} (T : Told m ev G) (h : m ≤ m') : Told m' ev G := ⟨T.sorted, T.mem, fun k t e => Nat.lt_of_lt_of_le (T.low k t e) h, fun s => Nat.le_trans (T.few s) h⟩
theorem Told.add {ev : Nat → Option EvT} {G G' : ByteArray → Value × List En} {n : Nat} {t : EvT} {l : List At} (T : Told n ev G) (hev : ev n = none) (ht : t.2.2 = l) (hs : ∀ s, SortedO (G' s).2)
  (hm : ∀ s x, x ∈ (G' s).2 ↔ x ∈ (G s).2 ∨ (x.n = n ∧ ∃ a ∈ l, a.name.toList = s.toList ∧ a.val = x.v)) (hc : ∀ s, (G' s).2.length ≤ (G s).2.length + nmC l s) (hq : ∀ s, nmC l s ≤ 1) : Told (n + 1) (fun k => if k = n then some t else ev k) G' := by
 refine ⟨hs, fun s x => ?_, fun k u hk => ?_, fun s => by have := T.few s; have := hc s; have := hq s; omega⟩
 ·rw [hm s x, T.mem s x]
  by_cases hx : x.n = n
  ·simp only [hx, if_true, hev]
   constructor
   ·rintro (⟨u, hu, _⟩ | ⟨_, a, ha, h1⟩)
    ·cases hu
    ·exact ⟨t, rfl, a, by rw [ht]; exact ha, h1⟩
   ·rintro ⟨u, hu, a, ha, h1⟩
    simp only [Option.some.injEq] at hu
    subst hu
    exact .inr ⟨trivial, a, by rw [← ht]; exact ha, h1⟩
  ·simp only [if_neg hx]
   constructor
   ·rintro (h | ⟨h, _⟩)
    ·exact h
    ·exact absurd h hx
   ·exact fun h => .inl h
 ·by_cases hkn : k = n
  ·subst hkn; exact Nat.lt_succ_self _
  ·simp only [if_neg hkn] at hk
   exact Nat.lt_succ_of_lt (T.low k u hk)
theorem EvIs.zero (Es : List EvT) : EvIs Es 0 (fun _ => none) := fun n => by simp
theorem EvIs.none' {Es : List EvT} {i : Nat} {ev : Nat → Option EvT} (h : EvIs Es i ev) {n : Nat} (hn : i ≤ n) : ev n = none := by
 have := h n
 rw [if_neg (by omega)] at this
 simpa using this
theorem EvIs.yes {Es : List EvT} {i : Nat} {ev : Nat → Option EvT} (h : EvIs Es i ev) {x t : EvT} (hx : Es[i]? = some x) (hok : evOk x.1 x.2.2 = true) (ht : t.2.2 = x.2.2) : EvIs Es (i + 1) (fun k => if k = i then some t else ev k) := fun n => by
 by_cases hn : n = i
 ·subst hn
  simp [evAt, hx, hok, ht]
 ·simp only [if_neg hn]
  rw [h n]
  by_cases h1 : n < i
  ·rw [if_pos h1, if_pos (by omega)]
  ·rw [if_neg h1, if_neg (by omega)]
theorem EvIs.no {Es : List EvT} {i : Nat} {ev : Nat → Option EvT} (h : EvIs Es i ev) {x : EvT} (hx : Es[i]? = some x) (hok : evOk x.1 x.2.2 = false) : EvIs Es (i + 1) ev := fun n => by
 rw [h n]
 by_cases hn : n = i
 ·subst hn
  simp [evAt, hx, hok]
 ·by_cases h1 : n < i
  ·rw [if_pos h1, if_pos (by omega)]
  ·rw [if_neg h1, if_neg (by omega)]
theorem EvIs.found {Es : List EvT} {Ps : List (Value × List Con)} {ev : Nat → Option EvT} (h : EvIs Es Es.length ev) {k : Nat} {t : Value × List Con} (ht : Ps[k]? = some t) (hok : predOk t.2 = true) (n : Nat) : Found2 ev t.2 n ↔ fnd Es Ps k n = true := by
 have h1 := h n
 have h2 : (if n < Es.length then evAt Es n else none) = evAt Es n := by
  by_cases hn : n < Es.length
  ·rw [if_pos hn]
  ·rw [if_neg hn]
   unfold evAt
   rw [List.getElem?_eq_none (by omega)]
   rfl
 rw [h2] at h1
 unfold Found2 fnd
 rw [ht]
 cases he : ev n with
 | none =>
  rw [he] at h1
  simp only [Option.map_none] at h1
  rw [← h1]
  simp
 | some u =>
  rw [he] at h1
  simp only [Option.map_some] at h1
  rw [← h1]
  simp [hok]
theorem fnd_lt {Es : List EvT} {Ps : List (Value × List Con)} {a b : Nat} (h : fnd Es Ps a b = true) : a < Ps.length ∧ b < Es.length := by
 unfold fnd evAt at h
 constructor
 ·rcases Nat.lt_or_ge a Ps.length with h1 | h1
  ·exact h1
  ·rw [List.getElem?_eq_none h1] at h; simp at h
 ·rcases Nat.lt_or_ge b Es.length with h1 | h1
  ·exact h1
  ·rw [List.getElem?_eq_none h1] at h
   cases Ps[a]? <;> simp at h
end
end Go.Proofs.YtehmlaplodjenaaGreat
