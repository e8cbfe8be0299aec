/- DERIVED. cover: Asked. · DERIVED. The library's contracts at this program, laid by the kit's shelf in plain words: Sort, Compact, Contains, ContainsFunc of strings; Sort and DeleteFunc of ints; bits.Len. -/
import Derived.Test.YtehmlaplodjenaaGreatZTopDual06
import Derived.Test.YtehmlaplodjenaaGreatZTopDual14
import Derived.Test.YtehmlaplodjenaaGreatZTopDual15
import Derived.Deep.DeepCutAuto
import Derived.Shelf.Small.Bits
import Derived.Shelf.Sort.Plain
import Derived.Shelf.Slices.Turned
import Derived.Shelf.Slices.CompactS
import Derived.Shelf.Slices.Cells
import Derived.Shelf.Slices.In.SortNone
import Derived.Ground.SlgnProg
import Derived.Shelf.SlicesE.Compact
import Derived.Ground.SlgfProg
import Derived.Shelf.SlicesE.IndexFunc
import Derived.Shelf.SlicesE.DeleteFunc
import Derived.Test.YtehmlaplodjenaaGreatProg
set_option maxRecDepth 100000
set_option maxHeartbeats 4000000
namespace Go.Proofs.YtehmlaplodjenaaGreat
section
open Go.RowKit
theorem conP_of {w : World} {x : Con} (f : x.fine w) (h : conOk x = true) : ConP x.plain := by
 obtain ⟨nm, op, val, sv, set⟩ := x
 obtain ⟨_, ⟨_, i1, i2⟩, iset, _⟩ := f
 unfold conOk at h
 simp only at h i1 i2 iset
 rw [Bool.and_eq_true] at h
 replace h := h.2
 split at h
 ·next e => subst e; exact ⟨by simp [Con.plain], by simp [Con.plain], fun h2 => by simp [Con.plain] at h2, fun h9 => by simp [Con.plain] at h9⟩
 ·split at h
  ·next e =>
   simp only [Bool.and_eq_true] at h
   exact ⟨by simp only [Con.plain]; omega, by simp only [Con.plain]; omega, fun _ _ => ⟨h.1, ⟨i1, i2⟩, fun h8 => by simp only [Con.plain] at h8; omega⟩, fun h9 => by simp only [Con.plain] at h9; omega⟩
  ·split at h
   ·next e =>
    simp only [Bool.and_eq_true, decide_eq_true_eq] at h
    exact ⟨by simp only [Con.plain]; omega, by simp only [Con.plain]; omega, fun _ _ => ⟨h.1, ⟨i1, i2⟩, fun _ => h.2.1⟩, fun h9 => by simp only [Con.plain] at h9; omega⟩
   ·split at h
    ·next e =>
     simp only [Bool.and_eq_true, decide_eq_true_eq, List.all_eq_true] at h
     exact ⟨by simp only [Con.plain]; omega, by simp only [Con.plain]; omega, fun _ h8 => by simp only [Con.plain] at h8; omega, fun _ => ⟨by simp only [Con.plain]; omega, fun y hy => ⟨h.2.2.2 y hy, iset y hy⟩⟩⟩
    ·cases h
theorem predOk_con {l : List Con} (h : predOk l = true) : l.length ≤ 6 ∧ ∀ c ∈ l, conOk c = true := by
 unfold predOk at h
 simpa using h
theorem Cons.conP {w : World} {v : Value} {l : List Con} (h : Cons w v l) (hok : predOk l = true) : ∀ c ∈ l.map Con.plain, ConP c := by
 intro c hc
 obtain ⟨x, hx, rfl⟩ := List.mem_map.1 hc
 exact conP_of (h.2 x hx) ((predOk_con hok).2 x hx)
theorem askedFrom_take {p : List PCon} {name : ByteArray} {i : Nat} {c : PCon} (h : p[i]? = some c) : askedFrom allR (p.take (i + 1)) name = if (c.name.toList == name.toList) = true then andR (askedFrom allR (p.take i) name) (OfR c) else askedFrom allR (p.take i) name := by
 unfold askedFrom
 rw [List.take_add_one, h, List.foldl_append]
 rfl
theorem Asked_any (v : Value) (l : List Con) (name : ByteArray) (w : World) (h : Cons w v l) (hok : predOk l = true) :
  Calls Tryz.prog 41 #[v, .string name] w fun e w' => ∃ g, e = .returned (.tuple #[g, .int .i64 0]) ∧ SeesG w' g (AskedR (l.map Con.plain) name) ∧ Old w w' := by
 have PM := Lib.hid (fun W hW => pred_may_any v l W (h.old (w := w) hW))
 have hl6 := (predOk_con hok).1
 obtain ⟨p, cc, rfl, _, _⟩ := h.1.len
 have H := Lib.hid (And.intro h hok)
 clear h
 obtain ⟨W1, hW1⟩ : ∃ W1, w.alloc (.cells #[.slice none 0 0, .slice none 0 0, .slice none 0 0, .bool false] 102) = W1 := ⟨_, rfl⟩
 have o1 : Old w W1 := by rw [← hW1]; exact (Keeps.refl _ _).alloc _
 have b1 : W1.heap[w.heap.size]? = some (.cells #[.slice none 0 0, .slice none 0 0, .slice none 0 0, .bool false] 102 (0, 0)) := by rw [← hW1]; exact heap_alloc_new _ _
 have O1 := Lib.hid (And.intro o1 b1)
 clear o1 b1
 go_enter Tryz.func41, Tryz.ntmps41
 go_wp2_with fail
 clear hW1
 refine (PM.out W1 O1.out.1).mono ?_
 rintro e W2 ⟨rfl, k2⟩
 rw [hok]
 have O2 := Lib.hid (And.intro (O1.out.1.trans k2) ((k2.block _ (lt_of_heap O1.out.2) (fun f => f)).trans O1.out.2))
 clear k2 hok
 go_wp2_with fail
 refine (All_any _).mono ?_
 rintro e W3 ⟨v3, rfl, g3, k3⟩
 have O3 := Lib.hid (And.intro (O2.out.1.trans k3) ((k3.block _ (lt_of_heap O2.out.2) (fun f => f)).trans O2.out.2))
 obtain ⟨x1, x2, x3, x4, x5, x6, x7, x8, x9, rfl, SS⟩ := g3
 clear k3
 obtain ⟨W4, hW4⟩ : ∃ W4, W3.alloc (.cells #[.slice x1 x2 x3, .slice x4 x5 x6, .slice x7 x8 x9, .bool allR.odd] 102) = W4 := ⟨_, rfl⟩
 have o4 : Old W3 W4 := by rw [← hW4]; exact (Keeps.refl _ _).alloc _
 have b4 : W4.heap[W3.heap.size]? = some (.cells #[.slice x1 x2 x3, .slice x4 x5 x6, .slice x7 x8 x9, .bool allR.odd] 102 (0, 0)) := by rw [← hW4]; exact heap_alloc_new _ _
 obtain ⟨b6, hb6⟩ : ∃ b6, W3.heap.size = b6 := ⟨_, rfl⟩
 rw [hb6] at b4
 have hlt6 : w.heap.size < b6 := by have := lt_of_heap O3.out.2; omega
 have O4 := Lib.hid (And.intro (O3.out.1.trans o4) (And.intro ((o4.block _ (lt_of_heap O3.out.2) (fun f => f)).trans O3.out.2) (And.intro (show GB b6 allR W4 from ⟨_, _, _, _, _, _, _, _, _, b4, SS.1.old o4, SS.2.1.old o4, SS.2.2.old o4⟩) hlt6)))
 have HB6 := Lib.hid hb6
 go_upto_region 5 with fail
 clear hW4 o4 b4 SS hlt6
 try simp only [HB6.out]
 clear hb6 HB6
 go_loopw [18] (fun v18 wr => ∃ i : Nat, i ≤ l.length ∧ v18 = .int .i64 i ∧ GB b6 (askedFrom allR ((l.map Con.plain).take i) name) wr ∧ Keeps (fun k => k = b6) W4 wr) (fun v18 _ => l.length - (intOf v18).toNat)
 case atStart => exact ⟨0, Nat.zero_le _, rfl, O4.out.2.2.1, Keeps.refl _ _⟩
 case round =>
  obtain ⟨wq, hwq⟩ : ∃ wq : World, wq = wr := ⟨_, rfl⟩
  subst hwq
  obtain ⟨i, hi, rfl, hg, hk⟩ := hrel
  have ow : Old w wq := O4.out.1.then hk (fun j hj e => absurd (show j = b6 from e) (by have := O4.out.2.2.2; omega))
  by_cases hlt : i < l.length
  ·obtain ⟨b, o, cp, he, _, _, hc⟩ := H.out.1.1.at (by omega)
   simp only [Value.slice.injEq, true_and] at he
   obtain ⟨rfl, rfl⟩ := he
   obtain ⟨c, hcx⟩ : ∃ c, l[i]? = some c := ⟨_, List.getElem?_eq_getElem hlt⟩
   have hmem := List.mem_of_getElem? hcx
   have hcp : (l.map Con.plain)[i]? = some c.plain := by rw [List.getElem?_map, hcx]; rfl
   have hfin := (H.out.1.2 c hmem).old ow
   have hcP := conP_of hfin ((predOk_con H.out.2).2 c hmem)
   have hnx := askedFrom_take (name := name) hcp
   have OFc := Lib.hid (fun W (hW : Old wq W) => Of_any c W (hfin.old hW).1 ((predOk_con H.out.2).2 c hmem) hcP)
   have hok20 := OfR_ok hcP
   have hokA : (askedFrom allR ((l.map Con.plain).take i) name).ok 2000 := AskedR_ok (p := (l.map Con.plain).take i) name (fun x hx => H.out.1.conP H.out.2 x (List.mem_of_mem_take hx)) (by rw [List.length_take, List.length_map]; omega)
   obtain ⟨ps, cs2, e9, _, _⟩ := hfin.1.len
   have hnm : c.plain.name = c.name := rfl
   rw [hnm] at hnx
   clear hnm
   obtain ⟨X, hX⟩ : ∃ X, OfR c.plain = X := ⟨_, rfl⟩
   rw [hX] at OFc hok20 hnx
   obtain ⟨cur, hcur⟩ : ∃ cur, askedFrom allR ((l.map Con.plain).take i) name = cur := ⟨_, rfl⟩
   rw [hcur] at hg hokA hnx
   clear hX hcur
   have cell : ∀ k u, (Con.cells c)[k]? = some u → wq.cell? ⟨b, o + i * 7 + k, none⟩ = some u := fun k u hu => ow.cell (hc i c hcx k u hu) (fun f => f)
   have c0 := cell 0 _ rfl
   have c1 := cell 1 _ rfl
   have c2 := cell 2 _ rfl
   have c3 := cell 3 _ rfl
   have c4 := cell 4 _ rfl
   have c5 := cell 5 _ rfl
   have c6 := cell 6 _ rfl
   simp only [Nat.add_zero] at c0
   obtain ⟨nm, op, ⟨ck, cn, cs, cb⟩, sv, set⟩ := c
   simp only at e9
   subst e9
   simp only [Con.cells] at OFc
   obtain ⟨W5, hW5⟩ : ∃ W5, wq.alloc (.cells #[.string nm, .int .i64 op, .int .i64 ck, .int .i64 cn, .string cs, .bool cb, .slice ps set.length cs2] 78) = W5 := ⟨_, rfl⟩
   have o5 : Old wq W5 := by rw [← hW5]; exact (Keeps.refl _ _).alloc _
   have b5 : W5.heap[wq.heap.size]? = some (.cells #[.string nm, .int .i64 op, .int .i64 ck, .int .i64 cn, .string cs, .bool cb, .slice ps set.length cs2] 78 (0, 0)) := by rw [← hW5]; exact heap_alloc_new _ _
   have q5 := blk7 b5
   have G := Lib.hid (And.intro (hg.to o5) (And.intro (hk.then o5 (fun _ _ f => f.elim)) (And.intro o5 (And.intro b5 (And.intro hok20 (And.intro hokA hnx))))))
   clear hg hk ow hc hcx hmem hcp hfin hcP hok20 hokA hnx cell o5 b5
   simp only at G
   rcases (Bool.eq_false_or_eq_true (nm.toList == name.toList)).symm with hn | hn
   ·go_wp2_with fail
    go_roundw
    case rel => exact ⟨i + 1, by omega, by go_num, by rw [G.out.2.2.2.2.2.2, hn]; exact G.out.1, G.out.2.1⟩
    case measure => simp [intOf]; omega
   ·go_upto_region 8 with fail
    clear c0 c1 c2 c3 c4 c5 c6 hW5
    go_wp2_with fail
    refine (OFc.out W5 G.out.2.2.1).mono ?_
    rintro e W6 ⟨v6, rfl, g6, k6⟩
    obtain ⟨y1, y2, y3, y4, y5, y6, y7, y8, y9, rfl, SS⟩ := g6
    obtain ⟨W7, hW7⟩ : ∃ W7, W6.alloc (.cells #[.slice y1 y2 y3, .slice y4 y5 y6, .slice y7 y8 y9, .bool X.odd] 102) = W7 := ⟨_, rfl⟩
    have o7 : Old W6 W7 := by rw [← hW7]; exact (Keeps.refl _ _).alloc _
    have b7 : W7.heap[W6.heap.size]? = some (.cells #[.slice y1 y2 y3, .slice y4 y5 y6, .slice y7 y8 y9, .bool X.odd] 102 (0, 0)) := by rw [← hW7]; exact heap_alloc_new _ _
    have g7 := (G.out.1.to k6).to o7
    have T := Lib.hid (And.intro g7 (And.intro (show SeesG W7 (.agg #[.slice y1 y2 y3, .slice y4 y5 y6, .slice y7 y8 y9, .bool X.odd]) X from ⟨_, _, _, _, _, _, _, _, _, rfl, SS.1.old o7, SS.2.1.old o7, SS.2.2.old o7⟩) ((G.out.2.1.then k6 (fun _ _ f => f.elim)).then o7 (fun _ _ f => f.elim))))
    obtain ⟨z1, z2, z3, z4, z5, z6, z7, z8, z9, e7, ZZ⟩ := g7
    have ZS := Lib.hid (show SeesG W7 (.agg #[.slice z1 z2 z3, .slice z4 z5 z6, .slice z7 z8 z9, .bool cur.odd]) cur from ⟨_, _, _, _, _, _, _, _, _, rfl, ZZ⟩)
    have q7 := blk4 b7
    have q8 := blk4 e7
    clear k6 o7 b7 e7 ZZ SS
    go_upto_region 9 with fail
    clear hW7 q5
    go_wp2_with fail
    refine (And_any _ _ cur X 2000 20 _ ZS.out T.out.2.1 G.out.2.2.2.2.2.1 G.out.2.2.2.2.1 (by omega)).mono ?_
    rintro e W8 ⟨v8, rfl, g8, k8⟩
    obtain ⟨t1, t2, t3, t4, t5, t6, t7, t8, t9, rfl, TS⟩ := g8
    have g9 := T.out.1.to k8
    obtain ⟨P, KP⟩ := g9.put TS
    have U := Lib.hid (And.intro P ((T.out.2.2.then k8 (fun _ _ f => f.elim)).then KP (fun i hi e => e)))
    obtain ⟨_, _, _, _, _, _, _, _, _, e8, _⟩ := g9
    have q9 := blk4 e8
    clear k8 e8 P KP q7 q8
    go_wp2_with fail
    go_roundw
    case rel => exact ⟨i + 1, by omega, by go_num, by rw [G.out.2.2.2.2.2.2, hn]; exact U.out.1, U.out.2⟩
    case measure => simp [intOf]; omega
  ·have hil : i = l.length := by omega
   have rb := (hk.block _ (lt_of_heap O4.out.2.1) (by have := O4.out.2.2.2; omega)).trans O4.out.2.1
   have hgl : GB b6 (AskedR (l.map Con.plain) name) wq := by
    rw [List.take_of_length_le (by rw [List.length_map]; omega)] at hg
    exact hg
   have E := Lib.hid (And.intro ow rb)
   obtain ⟨z1, z2, z3, z4, z5, z6, z7, z8, z9, e7, ZZ⟩ := hgl
   have q7 := blk4 e7
   have q8 := blk4 rb
   obtain ⟨odd, hodd⟩ : ∃ odd, (AskedR (l.map Con.plain) name).odd = odd := ⟨_, rfl⟩
   obtain ⟨F, gF, kF⟩ := putG rb ZZ
   rw [hodd] at F gF kF q7
   have K := Lib.hid (And.intro gF kF)
   have hnl : ¬ i < l.length := hlt
   clear hk hg rb ow e7 gF kF ZZ
   go_wp2_with fail
   obtain ⟨W9, hW9⟩ : ∃ W9, (((wq.setCell ⟨w.heap.size, 0, none⟩ (.slice z1 z2 z3)).setCell ⟨w.heap.size, 1, none⟩ (.slice z4 z5 z6)).setCell ⟨w.heap.size, 2, none⟩ (.slice z7 z8 z9)).setCell ⟨w.heap.size, 3, none⟩ (.bool odd) = W9 := ⟨_, rfl⟩
   have K9 := K.out
   clear K
   rw [hW9] at F K9 ⊢
   have F4 := blk4 F
   exact bodyPost_ret (v := .tuple #[.agg #[.slice z1 z2 z3, .slice z4 z5 z6, .slice z7 z8 z9, .bool odd], .int .i64 0]) (by simp [results, Tryz.results41, go_sem, F4]) rfl ⟨_, rfl, K9.1, E.out.1.then K9.2 (fun i hi e => absurd (show i = w.heap.size from e) (by omega))⟩
end
section
open Go.Shelf Go.RowKit Go.Lib Go.Sort
def sh_lays125_ren : Go.Shelf.Ren := ⟨fun | 125 => 74 | 128 => 120 | 129 => 121 | n => n, fun | 46 => 109 | 3 => 3 | 51 => 179 | 53 => 30 | 4 => 4 | 5 => 5 | 9 => 9 | n => n, fun | n => n⟩
theorem sh_lays125 : Go.Proofs.Lays.n125 Tryz.prog sh_lays125_ren := {
 mixed := by kernel_rfl
 f125 := Tryz.func74.trans (congrArg some (by kernel_rfl))
 f128 := Tryz.func120.trans (congrArg some (by kernel_rfl))
 f129 := Tryz.func121.trans (congrArg some (by kernel_rfl))
 t3 := Tryz.underlying3
 a3 := Tryz.isAgg3
 z3 := Tryz.sizeOf3
 v3 := Tryz.zeroValue3
 t4 := Tryz.underlying4
 a4 := Tryz.isAgg4
 z4 := Tryz.sizeOf4
 v4 := Tryz.zeroValue4
 t5 := Tryz.underlying5
 a5 := Tryz.isAgg5
 z5 := Tryz.sizeOf5
 v5 := Tryz.zeroValue5
 t9 := Tryz.underlying9
 a9 := Tryz.isAgg9
 z9 := Tryz.sizeOf9
 v9 := Tryz.zeroValue9
 t46 := Tryz.underlying109
 a46 := Tryz.isAgg109
 z46 := Tryz.sizeOf109
 v46 := Tryz.zeroValue109
 t51 := Tryz.underlying179
 a51 := Tryz.isAgg179
 z51 := Tryz.sizeOf179
 v51 := Tryz.zeroValue179
 t53 := Tryz.underlying30
 a53 := Tryz.isAgg30
 z53 := Tryz.sizeOf30
 v53 := Tryz.zeroValue30 }
theorem sh_bits_Len (x : Int) (w : World) (h0 : 0 ≤ x) (h1 : x ≤ 18446744073709551615) :
  Calls Tryz.prog 74 #[.int .u64 x] w fun e w' => e = .returned (.int .i64 (Lib.bitLen x.toNat)) ∧ w' = w := Any.bits_Len sh_lays125 x w h0 h1
def sh_lays189_ren : Go.Shelf.Ren := ⟨fun | 189 => 136 | 125 => 74 | 257 => 170 | 128 => 120 | 129 => 121 | 294 => 200 | 295 => 201 | 296 => 202 | 297 => 203 | 298 => 204 | 299 => 205 | 216 => 206 | 300 => 207 | 301 => 208 | 328 => 219 | 329 => 165 | 330 => 166 | 331 => 220 | 332 => 221 | 215 => 147 | 343 => 224 | n => n, fun | 28 => 44 | 3 => 3 | 46 => 109 | 0 => 0 | 51 => 179 | 53 => 30 | 4 => 4 | 183 => 172 | 182 => 171 | 131 => 67 | 5 => 5 | 9 => 9 | 218 => 208 | 222 => 212 | 228 => 236 | 229 => 237 | n => n, fun | n => n⟩
theorem sh_lays189 : Go.Proofs.Lays.n189 Tryz.prog sh_lays189_ren := {
 mixed := by kernel_rfl
 f125 := Tryz.func74.trans (congrArg some (by kernel_rfl))
 f128 := Tryz.func120.trans (congrArg some (by kernel_rfl))
 f129 := Tryz.func121.trans (congrArg some (by kernel_rfl))
 f189 := Tryz.func136.trans (congrArg some (by kernel_rfl))
 f215 := Tryz.func147.trans (congrArg some (by kernel_rfl))
 f216 := Tryz.func206.trans (congrArg some (by kernel_rfl))
 f257 := Tryz.func170.trans (congrArg some (by kernel_rfl))
 f294 := Tryz.func200.trans (congrArg some (by kernel_rfl))
 f295 := Tryz.func201.trans (congrArg some (by kernel_rfl))
 f296 := Tryz.func202.trans (congrArg some (by kernel_rfl))
 f297 := Tryz.func203.trans (congrArg some (by kernel_rfl))
 f298 := Tryz.func204.trans (congrArg some (by kernel_rfl))
 f299 := Tryz.func205.trans (congrArg some (by kernel_rfl))
 f300 := Tryz.func207.trans (congrArg some (by kernel_rfl))
 f301 := Tryz.func208.trans (congrArg some (by kernel_rfl))
 f328 := Tryz.func219.trans (congrArg some (by kernel_rfl))
 f329 := Tryz.func165.trans (congrArg some (by kernel_rfl))
 f330 := Tryz.func166.trans (congrArg some (by kernel_rfl))
 f331 := Tryz.func220.trans (congrArg some (by kernel_rfl))
 f332 := Tryz.func221.trans (congrArg some (by kernel_rfl))
 f343 := Tryz.func224.trans (congrArg some (by kernel_rfl))
 t0 := Tryz.underlying0
 a0 := Tryz.isAgg0
 z0 := Tryz.sizeOf0
 v0 := Tryz.zeroValue0
 t3 := Tryz.underlying3
 a3 := Tryz.isAgg3
 z3 := Tryz.sizeOf3
 v3 := Tryz.zeroValue3
 t4 := Tryz.underlying4
 a4 := Tryz.isAgg4
 z4 := Tryz.sizeOf4
 v4 := Tryz.zeroValue4
 t5 := Tryz.underlying5
 a5 := Tryz.isAgg5
 z5 := Tryz.sizeOf5
 v5 := Tryz.zeroValue5
 t9 := Tryz.underlying9
 a9 := Tryz.isAgg9
 z9 := Tryz.sizeOf9
 v9 := Tryz.zeroValue9
 t28 := Tryz.underlying44
 a28 := Tryz.isAgg44
 z28 := Tryz.sizeOf44
 v28 := Tryz.zeroValue44
 t46 := Tryz.underlying109
 a46 := Tryz.isAgg109
 z46 := Tryz.sizeOf109
 v46 := Tryz.zeroValue109
 t51 := Tryz.underlying179
 a51 := Tryz.isAgg179
 z51 := Tryz.sizeOf179
 v51 := Tryz.zeroValue179
 t53 := Tryz.underlying30
 a53 := Tryz.isAgg30
 z53 := Tryz.sizeOf30
 v53 := Tryz.zeroValue30
 t131 := Tryz.underlying67
 a131 := Tryz.isAgg67
 z131 := Tryz.sizeOf67
 v131 := Tryz.zeroValue67
 t182 := Tryz.underlying171
 a182 := Tryz.isAgg171
 z182 := Tryz.sizeOf171
 v182 := Tryz.zeroValue171
 t183 := Tryz.underlying172
 a183 := Tryz.isAgg172
 z183 := Tryz.sizeOf172
 v183 := Tryz.zeroValue172
 t218 := Tryz.underlying208
 a218 := Tryz.isAgg208
 z218 := Tryz.sizeOf208
 v218 := Tryz.zeroValue208
 t222 := Tryz.underlying212
 a222 := Tryz.isAgg212
 z222 := Tryz.sizeOf212
 v222 := Tryz.zeroValue212
 t228 := Tryz.underlying236
 a228 := Tryz.isAgg236
 z228 := Tryz.sizeOf236
 v228 := Tryz.zeroValue236
 t229 := Tryz.underlying237
 a229 := Tryz.isAgg237
 z229 := Tryz.sizeOf237
 v229 := Tryz.zeroValue237 }
theorem sh_slices_Sort_int (blk off cap : Nat) (zs : List Int) (w : World) (hH : Holds (Value.int .i64) w blk off zs.toArray) (hblk : blk < w.heap.size) (hsz : zs.length < 4611686018427387904) :
  Calls Tryz.prog 136 #[.slice (some ⟨blk, off, none⟩) zs.length cap] w fun e w' =>
   e = .returned (.tuple #[]) ∧ ∃ n os, w' = grow (putRow (Value.int .i64) (Sort.ahead w n) blk off (zs.mergeSort fun x y => decide (x ≤ y)).toArray) os := Any.slices_Sort_int sh_lays189 blk off cap zs w hH hblk hsz
def sh_lays190_ren : Go.Shelf.Ren := ⟨fun | 190 => 81 | 125 => 74 | 258 => 138 | 128 => 120 | 129 => 121 | 302 => 171 | 303 => 172 | 304 => 173 | 305 => 174 | 306 => 175 | 307 => 176 | 308 => 177 | 309 => 178 | 310 => 179 | 333 => 209 | 329 => 165 | 330 => 166 | 334 => 210 | 335 => 211 | 336 => 212 | 344 => 222 | n => n, fun | 31 => 96 | 9 => 9 | 3 => 3 | 46 => 109 | 0 => 0 | 51 => 179 | 53 => 30 | 4 => 4 | 183 => 172 | 182 => 171 | 131 => 67 | 5 => 5 | 218 => 208 | 222 => 212 | 228 => 236 | 229 => 237 | n => n, fun | n => n⟩
theorem sh_lays190 : Go.Proofs.Lays.n190 Tryz.prog sh_lays190_ren := {
 mixed := by kernel_rfl
 f125 := Tryz.func74.trans (congrArg some (by kernel_rfl))
 f128 := Tryz.func120.trans (congrArg some (by kernel_rfl))
 f129 := Tryz.func121.trans (congrArg some (by kernel_rfl))
 f190 := Tryz.func81.trans (congrArg some (by kernel_rfl))
 f258 := Tryz.func138.trans (congrArg some (by kernel_rfl))
 f302 := Tryz.func171.trans (congrArg some (by kernel_rfl))
 f303 := Tryz.func172.trans (congrArg some (by kernel_rfl))
 f304 := Tryz.func173.trans (congrArg some (by kernel_rfl))
 f305 := Tryz.func174.trans (congrArg some (by kernel_rfl))
 f306 := Tryz.func175.trans (congrArg some (by kernel_rfl))
 f307 := Tryz.func176.trans (congrArg some (by kernel_rfl))
 f308 := Tryz.func177.trans (congrArg some (by kernel_rfl))
 f309 := Tryz.func178.trans (congrArg some (by kernel_rfl))
 f310 := Tryz.func179.trans (congrArg some (by kernel_rfl))
 f329 := Tryz.func165.trans (congrArg some (by kernel_rfl))
 f330 := Tryz.func166.trans (congrArg some (by kernel_rfl))
 f333 := Tryz.func209.trans (congrArg some (by kernel_rfl))
 f334 := Tryz.func210.trans (congrArg some (by kernel_rfl))
 f335 := Tryz.func211.trans (congrArg some (by kernel_rfl))
 f336 := Tryz.func212.trans (congrArg some (by kernel_rfl))
 f344 := Tryz.func222.trans (congrArg some (by kernel_rfl))
 t0 := Tryz.underlying0
 a0 := Tryz.isAgg0
 z0 := Tryz.sizeOf0
 v0 := Tryz.zeroValue0
 t3 := Tryz.underlying3
 a3 := Tryz.isAgg3
 z3 := Tryz.sizeOf3
 v3 := Tryz.zeroValue3
 t4 := Tryz.underlying4
 a4 := Tryz.isAgg4
 z4 := Tryz.sizeOf4
 v4 := Tryz.zeroValue4
 t5 := Tryz.underlying5
 a5 := Tryz.isAgg5
 z5 := Tryz.sizeOf5
 v5 := Tryz.zeroValue5
 t9 := Tryz.underlying9
 a9 := Tryz.isAgg9
 z9 := Tryz.sizeOf9
 v9 := Tryz.zeroValue9
 t31 := Tryz.underlying96
 a31 := Tryz.isAgg96
 z31 := Tryz.sizeOf96
 v31 := Tryz.zeroValue96
 t46 := Tryz.underlying109
 a46 := Tryz.isAgg109
 z46 := Tryz.sizeOf109
 v46 := Tryz.zeroValue109
 t51 := Tryz.underlying179
 a51 := Tryz.isAgg179
 z51 := Tryz.sizeOf179
 v51 := Tryz.zeroValue179
 t53 := Tryz.underlying30
 a53 := Tryz.isAgg30
 z53 := Tryz.sizeOf30
 v53 := Tryz.zeroValue30
 t131 := Tryz.underlying67
 a131 := Tryz.isAgg67
 z131 := Tryz.sizeOf67
 v131 := Tryz.zeroValue67
 t182 := Tryz.underlying171
 a182 := Tryz.isAgg171
 z182 := Tryz.sizeOf171
 v182 := Tryz.zeroValue171
 t183 := Tryz.underlying172
 a183 := Tryz.isAgg172
 z183 := Tryz.sizeOf172
 v183 := Tryz.zeroValue172
 t218 := Tryz.underlying208
 a218 := Tryz.isAgg208
 z218 := Tryz.sizeOf208
 v218 := Tryz.zeroValue208
 t222 := Tryz.underlying212
 a222 := Tryz.isAgg212
 z222 := Tryz.sizeOf212
 v222 := Tryz.zeroValue212
 t228 := Tryz.underlying236
 a228 := Tryz.isAgg236
 z228 := Tryz.sizeOf236
 v228 := Tryz.zeroValue236
 t229 := Tryz.underlying237
 a229 := Tryz.isAgg237
 z229 := Tryz.sizeOf237
 v229 := Tryz.zeroValue237 }
theorem sh_slices_Sort_string (blk off cap : Nat) (ss : List (List UInt8)) (w : World) (hH : Holds encStr w blk off ss.toArray) (hblk : blk < w.heap.size) (hsz : ss.length < 4611686018427387904) :
  Calls Tryz.prog 81 #[.slice (some ⟨blk, off, none⟩) ss.length cap] w fun e w' =>
   e = .returned (.tuple #[]) ∧ ∃ n os, w' = grow (putRow encStr (Sort.ahead w n) blk off (ss.mergeSort fun x y => decide (x ≤ y)).toArray) os := Any.slices_Sort_string sh_lays190 blk off cap ss w hH hblk hsz
def sh_lays110_ren : Go.Shelf.Ren := ⟨fun | 110 => 42 | 109 => 89 | n => n, fun | 31 => 96 | 9 => 9 | 4 => 4 | 3 => 3 | 0 => 0 | n => n, fun | n => n⟩
theorem sh_lays110 : Go.Proofs.Lays.n110 Tryz.prog sh_lays110_ren := {
 mixed := by kernel_rfl
 f109 := Tryz.func89.trans (congrArg some (by kernel_rfl))
 f110 := Tryz.func42.trans (congrArg some (by kernel_rfl))
 t0 := Tryz.underlying0
 a0 := Tryz.isAgg0
 z0 := Tryz.sizeOf0
 v0 := Tryz.zeroValue0
 t3 := Tryz.underlying3
 a3 := Tryz.isAgg3
 z3 := Tryz.sizeOf3
 v3 := Tryz.zeroValue3
 t4 := Tryz.underlying4
 a4 := Tryz.isAgg4
 z4 := Tryz.sizeOf4
 v4 := Tryz.zeroValue4
 t9 := Tryz.underlying9
 a9 := Tryz.isAgg9
 z9 := Tryz.sizeOf9
 v9 := Tryz.zeroValue9
 t31 := Tryz.underlying96
 a31 := Tryz.isAgg96
 z31 := Tryz.sizeOf96
 v31 := Tryz.zeroValue96 }
theorem sh_slices_Contains_string (b off n c : Nat) (zs : List ByteArray) (x : ByteArray) (w : World) (hz : n ≤ zs.length) (hbig : n ≤ 9223372036854775807) (hc : ∀ j, j < zs.length → w.cell? ⟨b, off + j, none⟩ = some (.string (zs.getD j ByteArray.empty))) :
  Calls Tryz.prog 42 #[.slice (some ⟨b, off, none⟩) n c, .string x] w fun e w' => e = .returned (.bool (Lib.containsS (zs.take n) x)) ∧ w' = w := Any.slices_Contains_string sh_lays110 b off n c zs x w hz hbig hc
theorem sh_slices_Contains_string_empty (a : Option Addr) (c : Nat) (x : ByteArray) (w : World) :
  Calls Tryz.prog 42 #[.slice a 0 c, .string x] w fun e w' => e = .returned (.bool false) ∧ w' = w := Any.slices_Contains_string_empty sh_lays110 a c x w
def sh_lays194_ren : Go.Shelf.Ren := ⟨fun | 194 => 82 | n => n, fun | 31 => 96 | 9 => 9 | 3 => 3 | 4 => 4 | 0 => 0 | n => n, fun | n => n⟩
theorem sh_lays194 : Go.Proofs.Lays.n194 Tryz.prog sh_lays194_ren := {
 mixed := by kernel_rfl
 f194 := Tryz.func82.trans (congrArg some (by kernel_rfl))
 t0 := Tryz.underlying0
 a0 := Tryz.isAgg0
 z0 := Tryz.sizeOf0
 v0 := Tryz.zeroValue0
 t3 := Tryz.underlying3
 a3 := Tryz.isAgg3
 z3 := Tryz.sizeOf3
 v3 := Tryz.zeroValue3
 t4 := Tryz.underlying4
 a4 := Tryz.isAgg4
 z4 := Tryz.sizeOf4
 v4 := Tryz.zeroValue4
 t9 := Tryz.underlying9
 a9 := Tryz.isAgg9
 z9 := Tryz.sizeOf9
 v9 := Tryz.zeroValue9
 t31 := Tryz.underlying96
 a31 := Tryz.isAgg96
 z31 := Tryz.sizeOf96
 v31 := Tryz.zeroValue96 }
theorem sh_slices_Compact_string (blk off cap : Nat) (zs : List (List UInt8)) (w : World) (hH : Holds encStr w blk off zs.toArray) (hsz : zs.length ≤ 9223372036854775807) (hcap : zs.length ≤ cap) :
  Calls Tryz.prog 82 #[.slice (some ⟨blk, off, none⟩) zs.length cap] w fun e w' => e = .returned (.slice (some ⟨blk, off, none⟩) (Lib.compact zs).length cap) ∧ ∃ q, w' = putRow encStr (Sort.ahead w q) blk off (Lib.compact zs ++ List.replicate (zs.length - (Lib.compact zs).length) []).toArray := Any.slices_Compact_string sh_lays194 blk off cap zs w hH hsz hcap
theorem sh_slices_Compact_string_empty (a : Option Addr) (cap : Nat) (w : World) :
  Calls Tryz.prog 82 #[.slice a 0 cap] w fun e w' => e = .returned (.slice a 0 cap) ∧ w' = w := Any.slices_Compact_string_empty sh_lays194 a cap w
theorem sh_slices_Sort_string_none (p : Option Addr) (cap : Nat) (w : World) :
  Calls Tryz.prog 81 #[.slice p 0 cap] w fun e w' => e = .returned (.tuple #[]) ∧ w' = w := Any.slices_Sort_string_none sh_lays190 p cap w
theorem sh_slices_Sort_int_none (p : Option Addr) (cap : Nat) (w : World) :
  Calls Tryz.prog 136 #[.slice p 0 cap] w fun e w' => e = .returned (.tuple #[]) ∧ w' = w := Any.slices_Sort_int_none sh_lays189 p cap w
def sh_laysSlH10_f32_ren : Go.Shelf.Ren := ⟨fun | 10 => 32 | 6 => 76 | n => n, fun | 22 => 44 | 23 => 3 | 25 => 93 | 3 => 3 | 4 => 4 | 0 => 0 | n => n, fun | n => n⟩
theorem sh_laysSlH10_f32 : Go.Proofs.SlLaysH.n10 Tryz.prog sh_laysSlH10_f32_ren := {
 mixed := by kernel_rfl
 f6 := ⟨Tryz.f76.name, by decide, Tryz.func76.trans (congrArg some (by kernel_rfl))⟩
 f10 := ⟨Tryz.f32.name, by decide, Tryz.func32.trans (congrArg some (by kernel_rfl))⟩
 t0 := Tryz.underlying0
 a0 := Tryz.isAgg0
 z0 := Tryz.sizeOf0
 v0 := Tryz.zeroValue0
 t3 := Tryz.underlying3
 a3 := Tryz.isAgg3
 z3 := Tryz.sizeOf3
 v3 := Tryz.zeroValue3
 t4 := Tryz.underlying4
 a4 := Tryz.isAgg4
 z4 := Tryz.sizeOf4
 v4 := Tryz.zeroValue4
 t22 := Tryz.underlying44
 a22 := Tryz.isAgg44
 z22 := Tryz.sizeOf44
 v22 := Tryz.zeroValue44
 a23 := Tryz.isAgg3
 z23 := Tryz.sizeOf3
 t25 := Tryz.underlying93
 a25 := Tryz.isAgg93
 z25 := Tryz.sizeOf93
 v25 := Tryz.zeroValue93 }
theorem sh_slices_DeleteFunc {α : Type} [Inhabited α] (enc : α → Value) (hO : OneCell enc) (p : α → Bool) (g : Nat) (lb : Array Value) (eg : ∀ args w, (callFunc g args).run Tryz.prog w = .ok (.enter g args) w) (zr : α) (v23 : ∀ w, (zeroValue 3).run Tryz.prog w = .ok (enc zr) w) (blk off cap : Nat) (d : Array α) (w : World) (hp : PredAt Tryz.prog g lb enc p w) (hpo : PredOver Tryz.prog g lb enc p blk off d.size w) (hH : Holds enc w blk off d) (hsz : d.size ≤ 9223372036854775807) (hcap : d.size ≤ cap) :
  Calls Tryz.prog 32 #[.slice (some ⟨blk, off, none⟩) d.size cap, .func (.func g) #[] lb] w fun e w' => e = .returned (.slice (some ⟨blk, off, none⟩) (d.toList.filter fun x => !p x).length cap) ∧ ∃ q, w' = putRow enc (Sort.ahead w q) blk off ((d.toList.filter fun x => !p x) ++ List.replicate (d.size - (d.toList.filter fun x => !p x).length) zr).toArray := AnyE.slices_DeleteFunc sh_laysSlH10_f32 enc hO p g lb eg zr v23 blk off cap d w hp hpo hH hsz hcap
end
end Go.Proofs.YtehmlaplodjenaaGreat
