/- DERIVED. cover: Names; sorted rows of one cell an element. · DERIVED. cover: none, Covers. -/
import Derived.Test.YtehmlaplodjenaaGreatZTopDual02
import Derived.Test.YtehmlaplodjenaaGreatZTopDual16
import Derived.Test.YtehmlaplodjenaaGreatZTopDual06
import Derived.Test.YtehmlaplodjenaaGreatYpTopDual04
import Derived.Test.YtehmlaplodjenaaGreatZTopDual03
import Derived.Deep.DeepCutAuto
import Derived.Test.YtehmlaplodjenaaGreatZTopDual14
set_option maxRecDepth 100000
set_option maxHeartbeats 4000000
namespace Go.Proofs.YtehmlaplodjenaaGreat
section
open Go.RowKit
def oneL {α : Type} (enc : α → Value) (x : α) : List Value := [enc x]
theorem oneL_flat {α : Type} (enc : α → Value) : ∀ l : List α, l.flatMap (oneL enc) = l.map enc
 | [] => rfl
 | x :: l => by rw [List.flatMap_cons, oneL_flat enc l]; rfl
theorem keeps_drewN (S : Nat → Prop) (w : World) (n : Nat) : Keeps S w (w.drewN n) := ⟨rfl, rfl, rfl, Nat.le_refl _, fun _ _ _ => rfl⟩
theorem keeps_grow (S : Nat → Prop) (w : World) (os : Array Obj) : Keeps S w (Go.Sort.grow w os) := ⟨rfl, rfl, rfl, by simp [Go.Sort.grow], fun k hk _ => by simp only [Go.Sort.grow]; rw [Array.getElem?_append_left hk]⟩
section
variable {α : Type} [Inhabited α] {enc : α → Value} {w : World} {B : Nat} {E : TypeId} {L : List α} {g cap : Nat} {v : Value}
theorem OwnsR.holds (h : OwnsR w B E 1 (oneL enc) (.slice (some ⟨g, 0, none⟩) L.length cap) L) : Go.Sort.Holds enc w g 0 L.toArray := by
 obtain ⟨g', cap', cur, he, hb, hg, hn', hm, hs, ht⟩ := h.row (by simp [Value.ownBlock])
 simp only [Value.slice.injEq, Option.some.injEq, Addr.mk.injEq, and_true, true_and] at he
 obtain ⟨rfl, rfl⟩ := he
 rw [oneL_flat] at ht
 intro j hj
 have hj' : j < L.length := by simpa using hj
 refine ⟨?_, by simp [World.frozen?, hg]⟩
 have h1 : cur[0 + j]? = some (enc L[j]) := by
  have : (cur.toList.take (L.length * 1))[j]? = (L.map enc)[j]? := by rw [ht]
  rw [List.getElem?_take, if_pos (by omega), List.getElem?_map, List.getElem?_eq_getElem hj'] at this
  simpa using this
 rw [getElem!_pos _ j hj]
 simp only [World.cell?, hg]
 simpa using h1
theorem OwnsR.putRow (h : OwnsR w B E 1 (oneL enc) (.slice (some ⟨g, 0, none⟩) L.length cap) L) (M : List α) (hM : M.length = L.length) (n : Nat) (os : Array Obj) :
  OwnsR (Go.Sort.grow (Go.Sort.putRow enc (Go.Sort.ahead w n) g 0 M.toArray) os) B E 1 (oneL enc) (.slice (some ⟨g, 0, none⟩) L.length cap) M ∧ Keeps (fun k => k = g) w (Go.Sort.grow (Go.Sort.putRow enc (Go.Sort.ahead w n) g 0 M.toArray) os) := by
 have e := Lib.putRow_eq_setCells enc w g 0 L.toArray M n h.holds (by simpa using hM)
 rw [e]
 have h1 := h.old (keeps_drewN _ w n)
 have h2 := h1.put (enc := oneL enc) (fun _ => rfl) 0 M (by omega)
 rw [oneL_flat, Nat.zero_mul] at h2
 have e2 : L.take 0 ++ M ++ L.drop (0 + M.length) = M := by
  rw [List.drop_of_length_le (by omega)]; simp
 rw [e2] at h2
 have k := putAt_keeps (M.map enc) 0 (w.drewN n) w (keeps_drewN (fun k => k = g) w n)
 exact ⟨h2.old (keeps_grow _ _ _), k.trans (keeps_grow _ _ _)⟩
omit [Inhabited α] in
theorem OwnsR.nil_or (h : OwnsR w B E 1 (oneL enc) v L) : (v = .slice none 0 0 ∧ L = []) ∨ ∃ g cap, v = .slice (some ⟨g, 0, none⟩) L.length cap ∧ B ≤ g ∧ g < w.heap.size ∧ L.length ≤ cap ∧ cap ≤ maxLen := by
 rcases h.2 with ⟨rfl, h0⟩ | ⟨g, cap, cur, rfl, hb, hg, hn, hm, hs, ht⟩
 ·exact .inl ⟨rfl, List.length_eq_zero_iff.1 h0⟩
 ·exact .inr ⟨g, cap, rfl, hb, lt_of_heap hg, hn, hm⟩
end
theorem sort_strs (v : Value) (L : List (List UInt8)) (B : Nat) (w : World) (h : OwnsR w B 9 1 (oneL encStr) v L) (hl : L.length ≤ 1000000) :
  Calls Tryz.prog 81 #[v] w fun e w' => e = .returned (.tuple #[]) ∧ ∃ M : List (List UInt8), M.Perm L ∧ OwnsR w' B 9 1 (oneL encStr) v M ∧ Keeps (fun k => v.ownBlock = some k) w w' := by
 rcases h.nil_or with ⟨rfl, rfl⟩ | ⟨g, cap, rfl, hb, hg, hn, hm⟩
 ·refine (sh_slices_Sort_string_none none 0 w).mono ?_
  rintro e w' ⟨rfl, rfl⟩
  exact ⟨rfl, [], List.Perm.refl _, h, Keeps.refl _ _⟩
 ·refine (sh_slices_Sort_string g 0 cap L w h.holds hg (by omega)).mono ?_
  rintro e w' ⟨rfl, n, os, rfl⟩
  have hp := List.mergeSort_perm L (fun x y => decide (x ≤ y))
  obtain ⟨h1, h2⟩ := h.putRow (L.mergeSort fun x y => decide (x ≤ y)) hp.length_eq n os
  refine ⟨rfl, _, hp, h1, h2.weaken (fun i _ e => ?_)⟩
  rw [show i = g from e]; rfl
theorem mem_compact {x : List UInt8} (L : List (List UInt8)) : x ∈ Lib.compact L ↔ x ∈ L := by
 unfold Lib.compact
 have key : ∀ m, m ≤ L.length → ∀ j, j < m → L.toArray[j]! ∈ Lib.compactUpTo L.toArray m := by
  intro m
  induction m with
  | zero => intro _ j hj; omega
  | succ m ih =>
   intro hm j hj
   rw [Lib.compactUpTo_succ, List.mem_append]
   by_cases hj' : j < m
   ·exact .inl (ih (by omega) j hj')
   ·have : j = m := by omega
    subst this
    by_cases hk : Lib.keeps L.toArray j = true
    ·right; rw [if_pos hk]; simp
    ·left
     unfold Lib.keeps at hk
     simp only [decide_eq_true_eq, not_or, Classical.not_not] at hk
     rw [hk.2]
     exact ih (by omega) (j - 1) (by omega)
 constructor
 ·intro h
  unfold Lib.compactUpTo at h
  obtain ⟨j, hj, rfl⟩ := List.mem_map.1 h
  have hj' : j < L.length := by simpa using (List.mem_filter.1 hj).1
  rw [getElem!_pos _ j (by simpa using hj')]
  simp
 ·intro h
  obtain ⟨j, hj, rfl⟩ := List.mem_iff_getElem.1 h
  have := key L.length (Nat.le_refl _) j hj
  rw [getElem!_pos _ j (by simpa using hj)] at this
  simpa using this
theorem compact_strs (v : Value) (L : List (List UInt8)) (B : Nat) (w : World) (h : OwnsR w B 9 1 (oneL encStr) v L) (hl : L.length ≤ 1000000) :
  Calls Tryz.prog 82 #[v] w fun e w' => ∃ v', e = .returned v' ∧ ∃ M : List (List UInt8), (∀ s, s ∈ M ↔ s ∈ L) ∧ M.length ≤ L.length ∧ OwnsR w' B 9 1 (oneL encStr) v' M ∧ v'.ownBlock = v.ownBlock ∧ Keeps (fun k => v.ownBlock = some k) w w' := by
 rcases h.nil_or with ⟨rfl, rfl⟩ | ⟨g, cap, rfl, hb, hg, hn, hm⟩
 ·refine (sh_slices_Compact_string_empty none 0 w).mono ?_
  rintro e w' ⟨rfl, rfl⟩
  exact ⟨_, rfl, [], fun _ => Iff.rfl, Nat.le_refl _, h, rfl, Keeps.refl _ _⟩
 ·refine (sh_slices_Compact_string g 0 cap L w h.holds (by omega) hn).mono ?_
  rintro e w' ⟨rfl, q, hw'⟩
  have hc := Lib.compact_length_le L
  obtain ⟨h1, h2⟩ := h.putRow (Lib.compact L ++ List.replicate (L.length - (Lib.compact L).length) []) (by rw [List.length_append, List.length_replicate]; omega) q #[]
  rw [Go.Sort.grow_empty] at h1 h2
  obtain ⟨W, hW⟩ : ∃ W, Go.Sort.putRow encStr (Go.Sort.ahead w q) g 0 (Lib.compact L ++ List.replicate (L.length - (Lib.compact L).length) []).toArray = W := ⟨_, rfl⟩
  rw [hW] at h1 h2 hw'
  subst hw'
  clear hW
  have h3 : OwnsR w' B 9 1 (oneL encStr) (.slice (some ⟨g, 0, none⟩) (Lib.compact L ++ List.replicate (L.length - (Lib.compact L).length) []).length cap) (Lib.compact L ++ List.replicate (L.length - (Lib.compact L).length) []) := by
   rw [List.length_append, List.length_replicate, show (Lib.compact L).length + (L.length - (Lib.compact L).length) = L.length by omega]
   exact h1
  have h4 := h3.cut (enc := oneL encStr) (fun _ => rfl) (Lib.compact L).length (by rw [List.length_append]; omega) (by simp)
  rw [List.take_left] at h4
  refine ⟨_, rfl, Lib.compact L, fun s => mem_compact L, hc, h4, rfl, h2.weaken (fun i _ e => ?_)⟩
  rw [show i = g from e]; rfl
theorem Tryz.infoStrD : (Tryz.prog.info? 9).map (fun i => (i.zero, i.size, i.bytes)) = some (some (.string ⟨#[]⟩), 1, 16) := by kernel_rfl
def nameL (c : Con) : List UInt8 := c.name.toList
theorem enc_name (s : ByteArray) : encStr s.toList = .string s := by
 show Value.string ⟨s.toList.toArray⟩ = _
 rw [ByteArray.toList_eq]
theorem Names_any (v : Value) (l : List Con) (w : World) (h : Cons w v l) (hl : l.length ≤ 1000) :
  Calls Tryz.prog 37 #[v] w fun e w' => ∃ v', e = .returned v' ∧ ∃ M : List (List UInt8), (∀ s, s ∈ M ↔ s ∈ l.map nameL) ∧ M.length ≤ l.length ∧ OwnsR w' w.heap.size 9 1 (oneL encStr) v' M ∧ Old w w' := by
 obtain ⟨p, cc, rfl, _, _⟩ := h.1.len
 have H := Lib.hid h
 clear h
 have hl9 : l.length ≤ 9223372036854775807 := by omega
 go_enter Tryz.func37, Tryz.ntmps37
 go_wp2_with fail
 go_loopw [3, 8] (fun v3 v8 wr => ∃ i : Nat, i ≤ l.length ∧ v8 = .int .i64 i ∧ OwnsR wr w.heap.size 9 1 (oneL encStr) v3 ((l.take i).map nameL) ∧ Old w wr) (fun _ v8 _ => l.length - (intOf v8).toNat)
 case atStart => exact ⟨0, Nat.zero_le _, rfl, OwnsR.nil _ _, Keeps.refl _ _⟩
 case round =>
  obtain ⟨wq, hwq⟩ : ∃ wq : World, wq = wr := ⟨_, rfl⟩
  subst hwq
  obtain ⟨i, hi, rfl, ho, hk⟩ := hrel
  by_cases hlt : i < l.length
  ·obtain ⟨b, o, cp, he, _, _, hc⟩ := H.out.1.at (by omega)
   simp only [Value.slice.injEq, true_and] at he
   obtain ⟨rfl, rfl⟩ := he
   obtain ⟨c, hcx⟩ : ∃ c, l[i]? = some c := ⟨_, List.getElem?_eq_getElem hlt⟩
   have hnx : (l.take (i + 1)).map nameL = (l.take i).map nameL ++ [nameL c] := by rw [List.take_add_one, hcx, List.map_append]; rfl
   have cell : ∀ k u, (Con.cells c)[k]? = some u → wq.cell? ⟨b, o + i * 7 + k, none⟩ = some u := fun k u hu => hk.cell (hc i c hcx k u hu) (fun f => f)
   have c0 := cell 0 _ rfl
   have c1 := cell 1 _ rfl
   have c2 := cell 2 _ rfl
   have c3 := cell 3 _ rfl
   have c4 := cell 4 _ rfl
   have c5 := cell 5 _ rfl
   have c6 := cell 6 _ rfl
   simp only [Nat.add_zero] at c0
   obtain ⟨ps, cs2, e9, _, _⟩ := (H.out.2 c (List.mem_of_getElem? hcx)).1.len
   obtain ⟨nm, op, ⟨ck, cn, cs, cb⟩, sv, set⟩ := c
   simp only at e9
   subst e9
   obtain ⟨W5, hW5⟩ : ∃ W5, wq.alloc (.cells #[.string nm, .int .i64 op, .int .i64 ck, .int .i64 cn, .string cs, .bool cb, .slice ps set.length cs2] 78) = W5 := ⟨_, rfl⟩
   have o5 : Old wq W5 := by rw [← hW5]; exact (Keeps.refl _ _).alloc _
   have b5 : W5.heap[wq.heap.size]? = some (.cells #[.string nm, .int .i64 op, .int .i64 ck, .int .i64 cn, .string cs, .bool cb, .slice ps set.length cs2] 78 (0, 0)) := by rw [← hW5]; exact heap_alloc_new _ _
   have q5 := blk7 b5
   have HO := Lib.hid (And.intro (ho.old o5) (And.intro (hk.trans o5) hnx))
   have SN := Lib.hid (SeesR.new (k := 1) (enc := oneL encStr) W5 9 (0, 0) [nm.toList] #[.string nm] (by rw [oneL_flat]; simp [enc_name]) (fun _ => rfl) (by unfold maxLen; simp))
   have hwz : w.heap.size ≤ W5.heap.size := (hk.trans o5).size
   have HN := Lib.hid (show ((l.take i).map nameL).length + 1 ≤ maxLen ∧ (((l.take i).map nameL).length + 1) * 16 ≤ 140737488355328 ∧ w.heap.size ≤ (W5.alloc (.cells #[.string nm] 9)).heap.size from ⟨by unfold maxLen; rw [List.length_map, List.length_take]; omega, by rw [List.length_map, List.length_take]; omega, by simp; omega⟩)
   clear hk ho hc hcx hnx cell o5 b5 hwz
   go_upto_region 5 with fail
   clear c0 c1 c2 c3 c4 c5 c6 hW5
   go_wp2_with (at_builtin; go_loud (refine wpList_append_rows (P := Tryz.prog) rfl _ _ 96 rfl w.heap.size 9 1 16 (oneL encStr) _ Tryz.underlying96 Tryz.infoStrD rfl (by decide) u3 ((l.take i).map nameL) rfl (HO.out.1.alloc _) _ [nm.toList] rfl SN.out (by simp [oneL]) (by simp [oneL, Value.oneCell']) HN.out.1 HN.out.2.1 HN.out.2.2 ?_; intro v7 w7 ho7 hg7 _))
   have R := Lib.hid (And.intro ho7 ((HO.out.2.1.alloc _).grown hg7 (fun k e hlt => by have := HO.out.1.block k e; omega)))
   clear ho7 hg7
   go_roundw
   case rel => exact ⟨i + 1, by omega, by go_num, by rw [HO.out.2.2]; exact R.out.1, R.out.2⟩
   case measure => simp [intOf]; omega
  ·have hil : i = l.length := by omega
   rw [List.take_of_length_le (by omega)] at ho
   have E := Lib.hid (And.intro ho hk)
   have hnl : ¬ i < l.length := hlt
   have hown : ∀ k, u3.ownBlock = some k → w.heap.size ≤ k := fun k e => (ho.block k e).1
   clear ho hk
   go_wp2_with fail
   refine (sort_strs _ _ w.heap.size _ E.out.1 (by rw [List.length_map]; omega)).mono ?_
   rintro e w4 ⟨rfl, M, hM, ho4, k4⟩
   have F := Lib.hid (And.intro ho4 (And.intro hM (E.out.2.then k4 (fun i hi e => absurd (hown i e) (by omega)))))
   clear ho4 k4 hM
   go_wp2_with fail
   refine (compact_strs _ _ w.heap.size _ F.out.1 (by rw [F.out.2.1.length_eq, List.length_map]; omega)).mono ?_
   rintro e w5 ⟨v5, rfl, N, hN, hn, ho5, hb5, k5⟩
   have G := Lib.hid (And.intro ho5 (And.intro hN (And.intro hn (F.out.2.2.then k5 (fun i hi e => absurd (hown i e) (by omega))))))
   clear ho5 k5 hN hn
   go_wp2_with fail
   go_ret
   exact ⟨_, rfl, N, fun s => (G.out.2.1 s).trans F.out.2.1.mem_iff, by have := G.out.2.2.1; rw [F.out.2.1.length_eq, List.length_map] at this; exact this, G.out.1, G.out.2.2.2⟩
end
section
open Go.RowKit
theorem mk_toList (s : ByteArray) : (⟨s.toList.toArray⟩ : ByteArray) = s := by rw [ByteArray.toList_eq]
theorem SeesR.bytes {w : World} {v : Value} {M : List (List UInt8)} (h : SeesR w 1 (oneL encStr) v M) : SeesR w 1 strL v (M.map fun s => (⟨s.toArray⟩ : ByteArray)) := by
 obtain ⟨p, c, rfl, h1, h2, h3, h4⟩ := h
 refine ⟨p, c, by rw [List.length_map], by rw [List.length_map]; exact h1, h2, h3, fun a ha => ⟨(h4 a ha).1, fun j x hj i u hu => ?_⟩⟩
 rw [List.getElem?_map] at hj
 obtain ⟨s, hs, rfl⟩ := Option.map_eq_some_iff.1 hj
 exact (h4 a ha).2 j s hs i u hu
theorem contains_strs (v : Value) (M : List (List UInt8)) (B : Nat) (x : ByteArray) (w : World) (h : OwnsR w B 9 1 (oneL encStr) v M) :
  Calls Tryz.prog 42 #[v, .string x] w fun e w' => e = .returned (.bool (M.any fun s => s == x.toList)) ∧ w' = w := by
 have hs := (OwnsR.sees (enc := oneL encStr) h (fun _ => rfl) (by decide)).bytes
 by_cases hl : 0 < M.length
 ·obtain ⟨b, o, c, rfl, h1, h2, hc⟩ := hs.at (by rw [List.length_map]; exact hl)
  have hbig : (M.map fun s => (⟨s.toArray⟩ : ByteArray)).length ≤ 9223372036854775807 := by unfold maxLen at h2; omega
  have hM : Lib.containsS (M.map fun s => (⟨s.toArray⟩ : ByteArray)) x = M.any fun s => s == x.toList := by
   apply Bool.eq_iff_iff.2
   rw [Lib.containsS_iff, List.any_eq_true, List.mem_map]
   constructor
   ·rintro ⟨s, hs, rfl⟩
    exact ⟨s, hs, by rw [toList_mk]; simp⟩
   ·rintro ⟨s, hs, he⟩
    refine ⟨s, hs, ?_⟩
    rw [beq_iff_eq] at he
    rw [he, mk_toList]
  rw [← hM]
  clear hM hl hs h
  generalize (M.map fun s => (⟨s.toArray⟩ : ByteArray)) = zs at h1 hc hbig ⊢
  have key := sh_slices_Contains_string b o zs.length c zs x w (Nat.le_refl _) hbig (fun j hj => by
   have := hc j _ (List.getElem?_eq_getElem hj) 0 _ rfl
   simpa [List.getD_eq_getElem?_getD, List.getElem?_eq_getElem hj] using this)
  rw [List.take_length] at key
  exact key
 ·obtain ⟨e0, p, c, rfl⟩ := hs.at0 (by rw [List.length_map]; omega)
  have : M = [] := by simpa using e0
  subst this
  refine (sh_slices_Contains_string_empty p c x w).mono ?_
  rintro e w' ⟨rfl, rfl⟩
  exact ⟨rfl, rfl⟩
theorem none1_any (pb : Nat) (v : Value) (l : List Con) (nm : ByteArray) (w : World) (hb : w.heap[pb]? = some (.cells #[v] 39 (0, 0))) (h : Cons w v l) (hok : predOk l = true) :
  Calls Tryz.prog 83 #[.string nm, .pointer (some ⟨pb, 0, none⟩)] w fun e w' => e = .returned (.bool (emptyR (AskedR (l.map Con.plain) nm))) ∧ Old w w' := by
 have A := Lib.hid (Asked_any v l nm w h hok)
 obtain ⟨p, c, rfl, _, _⟩ := h.1.len
 have q := (blk1 hb).1
 clear h hb hok
 go_enter Tryz.func83, Tryz.ntmps83
 go_wp2_with fail
 refine A.out.mono ?_
 rintro e w2 ⟨v2, rfl, g2, k2⟩
 obtain ⟨x1, x2, x3, x4, x5, x6, x7, x8, x9, rfl, SS⟩ := g2
 obtain ⟨r, hr⟩ : ∃ r, AskedR (l.map Con.plain) nm = r := ⟨_, rfl⟩
 obtain ⟨W3, hW3⟩ : ∃ W3, w2.alloc (.cells #[.slice x1 x2 x3, .slice x4 x5 x6, .slice x7 x8 x9, .bool r.odd] 102) = W3 := ⟨_, rfl⟩
 have o3 : Old w2 W3 := by rw [← hW3]; exact (Keeps.refl _ _).alloc _
 have b3 : W3.heap[w2.heap.size]? = some (.cells #[.slice x1 x2 x3, .slice x4 x5 x6, .slice x7 x8 x9, .bool r.odd] 102 (0, 0)) := by rw [← hW3]; exact heap_alloc_new _ _
 rw [hr] at SS ⊢
 have G := Lib.hid (And.intro (show SeesG W3 (.agg #[.slice x1 x2 x3, .slice x4 x5 x6, .slice x7 x8 x9, .bool r.odd]) r from ⟨_, _, _, _, _, _, _, _, _, rfl, SS.1.old o3, SS.2.1.old o3, SS.2.2.old o3⟩) (k2.trans o3))
 have q3 := blk4 b3
 have HR := Lib.hid hr
 clear k2 SS o3 b3 q hr
 go_upto_region 2 with fail
 clear hW3
 go_wp2_with fail
 refine (empty_any _ _ _ G.out.1).mono ?_
 rintro e w4 ⟨rfl, k4⟩
 have K := Lib.hid (G.out.2.trans k4)
 clear k4
 go_wp2_with fail
 go_ret
 exact ⟨by rw [HR.out]; rfl, K.out⟩
theorem any_names {f : ByteArray → Bool} {l : List Con} {M : List (List UInt8)} (h : ∀ s, s ∈ M ↔ s ∈ l.map nameL) : (M.map fun s => (⟨s.toArray⟩ : ByteArray)).any f = l.any fun c => f c.name := by
 apply Bool.eq_iff_iff.2
 rw [List.any_eq_true, List.any_eq_true]
 constructor
 ·rintro ⟨x, hx, hf⟩
  obtain ⟨s, hs, rfl⟩ := List.mem_map.1 hx
  obtain ⟨c, hc, rfl⟩ := List.mem_map.1 ((h s).1 hs)
  exact ⟨c, hc, by unfold nameL at hf; rwa [mk_toList] at hf⟩
 ·rintro ⟨c, hc, hf⟩
  exact ⟨c.name, List.mem_map.2 ⟨nameL c, (h _).2 (List.mem_map_of_mem hc), mk_toList _⟩, hf⟩
theorem none_any (v : Value) (l : List Con) (w : World) (h : Cons w v l) (hok : predOk l = true) :
  Calls Tryz.prog 38 #[v] w fun e w' => e = .returned (.bool (noneR (l.map Con.plain))) ∧ Old w w' := by
 have hl := (predOk_con hok).1
 obtain ⟨p, c, rfl, _, _⟩ := h.1.len
 obtain ⟨W0, hW0⟩ : ∃ W0, w.alloc (.cells #[.slice p l.length c] 39) = W0 := ⟨_, rfl⟩
 have o0 : Old w W0 := by rw [← hW0]; exact (Keeps.refl _ _).alloc _
 have b0 : W0.heap[w.heap.size]? = some (.cells #[.slice p l.length c] 39 (0, 0)) := by rw [← hW0]; exact heap_alloc_new _ _
 have NA := Lib.hid (Names_any _ l W0 (h.old o0) (by omega))
 have H := Lib.hid (And.intro (h.old o0) (And.intro hok (And.intro o0 b0)))
 have q := (blk1 b0).1
 clear h hok o0 b0
 go_enter Tryz.func38, Tryz.ntmps38
 go_upto_region 1 with fail
 clear hW0
 go_wp2_with fail
 refine NA.out.mono ?_
 rintro e w1 ⟨v1, rfl, M, hM, hml, ho, k1⟩
 have hb1 := (k1.block _ (lt_of_heap H.out.2.2.2) (fun f => f)).trans H.out.2.2.2
 have C0 := (cff_str (fun nm => emptyR (AskedR (l.map Con.plain) nm)) (.func (.func 83) #[] #[.pointer (some ⟨w.heap.size, 0, none⟩)]) v1 _ w1 (OwnsR.sees (enc := oneL encStr) ho (fun _ => rfl) (by decide)).bytes
  ⟨_, _, _, rfl, fun args W => by simp [go_sem, callFunc, Tryz.func83]; rfl, fun x hx W hW => none1_any _ _ l x W ((hW.block _ (lt_of_heap hb1) (fun f => f)).trans hb1) ((H.out.1.old k1).old hW) H.out.2.1⟩)
 have hn : (l.any fun c => emptyR (AskedR (l.map Con.plain) c.name)) = noneR (l.map Con.plain) := by unfold noneR; rw [List.any_map]; rfl
 rw [any_names (f := fun nm => emptyR (AskedR (l.map Con.plain) nm)) hM, hn] at C0
 have C := Lib.hid C0
 have E := Lib.hid (H.out.2.2.1.trans k1)
 clear hM hml ho k1 hb1 q C0 hn
 go_wp2_with fail
 refine C.out.mono ?_
 rintro e w2 ⟨rfl, k2⟩
 have K := Lib.hid (E.out.trans k2)
 clear k2
 go_wp2_with fail
 go_ret
 exact ⟨rfl, K.out⟩
end
section
open Go.RowKit
theorem covers1_any (pb qb ob : Nat) (v1 v2 ov : Value) (lp lq : List Con) (M : List (List UInt8)) (B : Nat) (nm : ByteArray) (w : World)
  (b1 : w.heap[pb]? = some (.cells #[v1] 39 (0, 0))) (b2 : w.heap[qb]? = some (.cells #[v2] 39 (0, 0))) (b3 : w.heap[ob]? = some (.cells #[ov] 96 (0, 0)))
  (h1 : Cons w v1 lp) (h2 : Cons w v2 lq) (k1 : predOk lp = true) (k2 : predOk lq = true) (ho : OwnsR w B 9 1 (oneL encStr) ov M) :
  Calls Tryz.prog 40 #[.string nm, .pointer (some ⟨pb, 0, none⟩), .pointer (some ⟨qb, 0, none⟩), .pointer (some ⟨ob, 0, none⟩)] w fun e w' =>
   e = .returned (.bool (!(M.any fun s => s == nm.toList) || !emptyR (minusR (AskedR (lq.map Con.plain) nm) (AskedR (lp.map Con.plain) nm)))) ∧ Old w w' := by
 have A1 := Lib.hid (fun W (hW : Old w W) => Asked_any v1 lp nm W (h1.old hW) k1)
 have A2 := Lib.hid (fun W (hW : Old w W) => Asked_any v2 lq nm W (h2.old hW) k2)
 have CS := Lib.hid (fun W (hW : Old w W) => contains_strs ov M B nm W (ho.old hW))
 have okP := AskedR_ok nm (h1.conP k1) (by rw [List.length_map]; exact (predOk_con k1).1)
 have okQ := AskedR_ok nm (h2.conP k2) (by rw [List.length_map]; exact (predOk_con k2).1)
 obtain ⟨p1, c1, rfl, _, _⟩ := h1.1.len
 obtain ⟨p2, c2, rfl, _, _⟩ := h2.1.len
 obtain ⟨p3, c3, rfl, _, _⟩ := (OwnsR.sees (enc := oneL encStr) ho (fun _ => rfl) (by decide)).len
 obtain ⟨P, hP⟩ : ∃ P, AskedR (lp.map Con.plain) nm = P := ⟨_, rfl⟩
 obtain ⟨Q, hQ⟩ : ∃ Q, AskedR (lq.map Con.plain) nm = Q := ⟨_, rfl⟩
 obtain ⟨z, hz⟩ : ∃ z, (M.any fun s => s == nm.toList) = z := ⟨_, rfl⟩
 rw [hP] at A1 okP ⊢
 rw [hQ] at A2 okQ ⊢
 rw [hz] at CS ⊢
 have q1 := (blk1 b1).1
 have Bs := Lib.hid (And.intro b1 (And.intro b2 (And.intro b3 (And.intro okP okQ))))
 clear h1 h2 k1 k2 ho hP hQ hz b1 b2 b3 okP okQ
 go_enter Tryz.func40, Tryz.ntmps40
 go_wp2_with fail
 refine (A1.out w (Keeps.refl _ _)).mono ?_
 rintro e w2 ⟨v2, rfl, g2, k2⟩
 obtain ⟨x1, x2, x3, x4, x5, x6, x7, x8, x9, rfl, SS⟩ := g2
 obtain ⟨W3, hW3⟩ : ∃ W3, w2.alloc (.cells #[.slice x1 x2 x3, .slice x4 x5 x6, .slice x7 x8 x9, .bool P.odd] 102) = W3 := ⟨_, rfl⟩
 have o3 : Old w2 W3 := by rw [← hW3]; exact (Keeps.refl _ _).alloc _
 have b3 : W3.heap[w2.heap.size]? = some (.cells #[.slice x1 x2 x3, .slice x4 x5 x6, .slice x7 x8 x9, .bool P.odd] 102 (0, 0)) := by rw [← hW3]; exact heap_alloc_new _ _
 have k3 := k2.trans o3
 have G := Lib.hid (And.intro (show SeesG W3 (.agg #[.slice x1 x2 x3, .slice x4 x5 x6, .slice x7 x8 x9, .bool P.odd]) P from ⟨_, _, _, _, _, _, _, _, _, rfl, SS.1.old o3, SS.2.1.old o3, SS.2.2.old o3⟩) (And.intro k3 b3))
 have q2 := (blk1 ((k3.block _ (lt_of_heap Bs.out.2.1) (fun f => f)).trans Bs.out.2.1)).1
 clear k2 SS o3 b3 q1 k3
 go_upto_region 2 with fail
 clear hW3
 go_wp2_with fail
 refine (A2.out W3 G.out.2.1).mono ?_
 rintro e w4 ⟨v4, rfl, g4, k4⟩
 obtain ⟨y1, y2, y3, y4, y5, y6, y7, y8, y9, rfl, TT⟩ := g4
 obtain ⟨W5, hW5⟩ : ∃ W5, w4.alloc (.cells #[.slice y1 y2 y3, .slice y4 y5 y6, .slice y7 y8 y9, .bool Q.odd] 102) = W5 := ⟨_, rfl⟩
 have o5 : Old w4 W5 := by rw [← hW5]; exact (Keeps.refl _ _).alloc _
 have b5 : W5.heap[w4.heap.size]? = some (.cells #[.slice y1 y2 y3, .slice y4 y5 y6, .slice y7 y8 y9, .bool Q.odd] 102 (0, 0)) := by rw [← hW5]; exact heap_alloc_new _ _
 have k5 := k4.trans o5
 have k6 := G.out.2.1.trans k5
 have F := Lib.hid (And.intro (G.out.1.old k5) (And.intro (show SeesG W5 (.agg #[.slice y1 y2 y3, .slice y4 y5 y6, .slice y7 y8 y9, .bool Q.odd]) Q from ⟨_, _, _, _, _, _, _, _, _, rfl, TT.1.old o5, TT.2.1.old o5, TT.2.2.old o5⟩) k6))
 have q3 := (blk1 ((k6.block _ (lt_of_heap Bs.out.2.2.1) (fun f => f)).trans Bs.out.2.2.1)).1
 have r1 := blk4 ((k5.block _ (lt_of_heap G.out.2.2) (fun f => f)).trans G.out.2.2)
 have r2 := blk4 b5
 clear k4 TT o5 b5 q2 k5 k6
 go_upto_region 3 with fail
 clear hW5
 have C5 := Lib.hid (CS.out W5 F.out.2.2)
 have WI := Lib.hid (Within_any _ _ Q P 2000 2000 W5 F.out.2.1 F.out.1 Bs.out.2.2.2.2 Bs.out.2.2.2.1 (by omega))
 rcases (Bool.eq_false_or_eq_true z).symm with hz | hz
 ·subst hz
  go_wp2_with fail
  refine C5.out.mono ?_
  rintro e w6 ⟨rfl, e6⟩
  subst e6
  go_wp2_with fail
  go_ret
  exact ⟨rfl, F.out.2.2⟩
 ·subst hz
  go_wp2_with fail
  refine C5.out.mono ?_
  rintro e w6 ⟨rfl, e6⟩
  subst e6
  go_wp2_with fail
  refine WI.out.mono ?_
  rintro e w7 ⟨rfl, k7⟩
  have K := Lib.hid (F.out.2.2.trans k7)
  clear k7
  go_wp2_with fail
  go_ret
  exact ⟨by cases emptyR (minusR Q P) <;> rfl, K.out⟩
theorem Covers_any (v1 v2 : Value) (lp lq : List Con) (w : World) (h1 : Cons w v1 lp) (h2 : Cons w v2 lq) :
  Calls Tryz.prog 13 #[v1, v2] w fun e w' => e = .returned (.bool (predOk lp && predOk lq && coversR (lp.map Con.plain) (lq.map Con.plain))) ∧ Old w w' := by
 obtain ⟨p1, c1, e1, _, _⟩ := h1.1.len
 obtain ⟨p2, c2, e2, _, _⟩ := h2.1.len
 obtain ⟨W0, hW0⟩ : ∃ W0, (w.alloc (.cells #[v1] 39)).alloc (.cells #[v2] 39) = W0 := ⟨_, rfl⟩
 have o0 : Old w W0 := by rw [← hW0]; exact ((Keeps.refl _ _).alloc _).alloc _
 obtain ⟨b1, b2⟩ := two_blocks w (.cells #[v1] 39) (.cells #[v2] 39)
 rw [hW0] at b1 b2
 have M1 := Lib.hid (fun W (hW : Old W0 W) => pred_may_any v1 lp W ((h1.old o0).old hW))
 have M2 := Lib.hid (fun W (hW : Old W0 W) => pred_may_any v2 lq W ((h2.old o0).old hW))
 have H := Lib.hid (And.intro (h1.old o0) (And.intro (h2.old o0) (And.intro o0 (And.intro b1 b2))))
 have q1 := (blk1 b1).1
 have q2 := (blk1 b2).1
 clear h1 h2 o0 b1 b2
 subst e1 e2
 go_enter Tryz.func13, Tryz.ntmps13
 go_upto_region 1 with fail
 clear hW0
 rcases (Bool.eq_false_or_eq_true (predOk lp)).symm with hp | hp
 ·rw [hp] at M1
  have HP := Lib.hid hp
  go_wp2_with fail
  refine (M1.out W0 (Keeps.refl _ _)).mono ?_
  rintro e w1 ⟨rfl, k1⟩
  have K := Lib.hid (H.out.2.2.1.trans k1)
  clear k1 q1 q2
  go_wp2_with fail
  go_ret
  exact ⟨by rw [HP.out]; rfl, K.out⟩
 rw [hp] at M1
 have HP := Lib.hid hp
 go_wp2_with fail
 refine (M1.out W0 (Keeps.refl _ _)).mono ?_
 rintro e w1 ⟨rfl, k1⟩
 have K1 := Lib.hid k1
 have q3 := (blk1 ((k1.block _ (lt_of_heap H.out.2.2.2.2) (fun f => f)).trans H.out.2.2.2.2)).1
 clear k1 q1 q2
 rcases (Bool.eq_false_or_eq_true (predOk lq)).symm with hq | hq
 ·rw [hq] at M2
  have HQ := Lib.hid hq
  go_wp2_with fail
  refine (M2.out w1 K1.out).mono ?_
  rintro e w2 ⟨rfl, k2⟩
  have K := Lib.hid (H.out.2.2.1.trans (K1.out.trans k2))
  clear k2 q3
  go_wp2_with fail
  go_ret
  exact ⟨by rw [HP.out, HQ.out]; rfl, K.out⟩
 rw [hq] at M2
 have HQ := Lib.hid hq
 go_wp2_with fail
 refine (M2.out w1 K1.out).mono ?_
 rintro e w2 ⟨rfl, k2⟩
 have K2 := Lib.hid (K1.out.trans k2)
 have q4 := (blk1 (((K1.out.trans k2).block _ (lt_of_heap H.out.2.2.2.2) (fun f => f)).trans H.out.2.2.2.2)).1
 have NQ := Lib.hid (Names_any _ lq w2 (H.out.2.1.old (K1.out.trans k2)) (by have := (predOk_con hq).1; omega))
 clear k2 q3
 go_wp2_with fail
 refine NQ.out.mono ?_
 rintro e w3 ⟨v3, rfl, M, hM, hml, ho, k3⟩
 obtain ⟨p3, c3, e3, _, _⟩ := (OwnsR.sees (enc := oneL encStr) ho (fun _ => rfl) (by decide)).len
 obtain ⟨W4, hW4⟩ : ∃ W4, w3.alloc (.cells #[v3] 96) = W4 := ⟨_, rfl⟩
 have o4 : Old w3 W4 := by rw [← hW4]; exact (Keeps.refl _ _).alloc _
 have b4 : W4.heap[w3.heap.size]? = some (.cells #[v3] 96 (0, 0)) := by rw [← hW4]; exact heap_alloc_new _ _
 have k4 := K2.out.trans (k3.trans o4)
 have G := Lib.hid (And.intro (ho.old o4) (And.intro hM (And.intro b4 k4)))
 have q5 := (blk1 ((k4.block _ (lt_of_heap H.out.2.2.2.2) (fun f => f)).trans H.out.2.2.2.2)).1
 subst e3
 clear hM hml ho k3 o4 b4 k4 q4
 go_upto_region 4 with fail
 clear hW4
 have NN := Lib.hid (none_any _ lq W4 (H.out.2.1.old G.out.2.2.2) hq)
 rcases (Bool.eq_false_or_eq_true (noneR (lq.map Con.plain))).symm with hn | hn
 ·have hcov : coversR (lp.map Con.plain) (lq.map Con.plain) = ((lp.map Con.plain).all fun c => ((lq.map Con.plain).any fun d => d.name.toList == c.name.toList) && emptyR (minusR (AskedR (lq.map Con.plain) c.name) (AskedR (lp.map Con.plain) c.name))) := by unfold coversR; rw [hn]; rfl
  rw [hn] at NN
  go_wp2_with fail
  refine NN.out.mono ?_
  rintro e w5 ⟨rfl, k5⟩
  have k6 := G.out.2.2.2.trans k5
  have q6 := (blk1 ((k6.block _ (lt_of_heap H.out.2.2.2.1) (fun f => f)).trans H.out.2.2.2.1)).1
  have NP := Lib.hid (Names_any _ lp w5 (H.out.1.old k6) (by have := (predOk_con hp).1; omega))
  have K6 := Lib.hid (And.intro k6 k5)
  clear k5 k6 q5
  go_wp2_with fail
  refine NP.out.mono ?_
  rintro e w6 ⟨v6, rfl, N, hN, hnl, ho6, k6⟩
  have k7 := K6.out.1.trans k6
  have hb1 := (k7.block _ (lt_of_heap H.out.2.2.2.1) (fun f => f)).trans H.out.2.2.2.1
  have hb2 := (k7.block _ (lt_of_heap H.out.2.2.2.2) (fun f => f)).trans H.out.2.2.2.2
  have k8 := K6.out.2.trans k6
  have hb3 := (k8.block _ (lt_of_heap G.out.2.2.1) (fun f => f)).trans G.out.2.2.1
  have C0 := cff_str (fun nm => !(M.any fun s => s == nm.toList) || !emptyR (minusR (AskedR (lq.map Con.plain) nm) (AskedR (lp.map Con.plain) nm))) (.func (.func 40) #[] #[.pointer (some ⟨w.heap.size, 0, none⟩), .pointer (some ⟨w.heap.size + 1, 0, none⟩), .pointer (some ⟨w3.heap.size, 0, none⟩)]) v6 _ w6 (OwnsR.sees (enc := oneL encStr) ho6 (fun _ => rfl) (by decide)).bytes
   ⟨_, _, _, rfl, fun args W => by simp [go_sem, callFunc, Tryz.func40]; rfl, fun x hx W hW => covers1_any _ _ _ _ _ _ lp lq M w2.heap.size x W ((hW.block _ (lt_of_heap hb1) (fun f => f)).trans hb1) ((hW.block _ (lt_of_heap hb2) (fun f => f)).trans hb2) ((hW.block _ (lt_of_heap hb3) (fun f => f)).trans hb3) ((H.out.1.old k7).old hW) ((H.out.2.1.old k7).old hW) hp hq ((G.out.1.old k8).old hW)⟩
  have hfin : (lp.any fun c => !(M.any fun s => s == c.name.toList) || !emptyR (minusR (AskedR (lq.map Con.plain) c.name) (AskedR (lp.map Con.plain) c.name))) = !coversR (lp.map Con.plain) (lq.map Con.plain) := by
   rw [hcov, List.all_map, List.not_all_eq_any_not]
   congr 1
   funext c
   have e1 : (M.any fun s => s == c.name.toList) = ((lq.map Con.plain).any fun d => d.name.toList == c.name.toList) := by
    apply Bool.eq_iff_iff.2
    rw [List.any_eq_true, List.any_eq_true]
    constructor
    ·rintro ⟨s, hs, he⟩
     obtain ⟨d, hd, rfl⟩ := List.mem_map.1 ((G.out.2.1 s).1 hs)
     exact ⟨d.plain, List.mem_map_of_mem hd, he⟩
    ·rintro ⟨d, hd, he⟩
     obtain ⟨d', hd', rfl⟩ := List.mem_map.1 hd
     exact ⟨nameL d', (G.out.2.1 _).2 (List.mem_map_of_mem hd'), he⟩
   rw [e1]
   simp only [Function.comp, Con.plain, Bool.not_and]
  rw [any_names (f := fun nm => !(M.any fun s => s == nm.toList) || !emptyR (minusR (AskedR (lq.map Con.plain) nm) (AskedR (lp.map Con.plain) nm))) hN, hfin] at C0
  have C := Lib.hid C0
  have E := Lib.hid (H.out.2.2.1.trans k7)
  clear hN hnl ho6 k6 k7 hb1 hb2 hb3 k8 C0 hfin q6 hcov
  obtain ⟨z, hz⟩ : ∃ z, coversR (lp.map Con.plain) (lq.map Con.plain) = z := ⟨_, rfl⟩
  have HZ := Lib.hid hz
  rw [hz] at C
  clear hz
  go_wp2_with fail
  refine C.out.mono ?_
  rintro e w8 ⟨rfl, k8⟩
  have K := Lib.hid (E.out.trans k8)
  clear k8
  go_wp2_with fail
  go_ret
  refine ⟨?_, K.out⟩
  rw [HP.out, HQ.out, HZ.out]
  cases z <;> rfl
 ·have hcov : coversR (lp.map Con.plain) (lq.map Con.plain) = true := by unfold coversR; rw [hn]; rfl
  rw [hn] at NN
  have HC := Lib.hid hcov
  clear hcov
  go_wp2_with fail
  refine NN.out.mono ?_
  rintro e w5 ⟨rfl, k5⟩
  have K := Lib.hid (H.out.2.2.1.trans (G.out.2.2.2.trans k5))
  clear k5 q5
  go_wp2_with fail
  go_ret
  exact ⟨by rw [HP.out, HQ.out, HC.out]; rfl, K.out⟩
end
end Go.Proofs.YtehmlaplodjenaaGreat
