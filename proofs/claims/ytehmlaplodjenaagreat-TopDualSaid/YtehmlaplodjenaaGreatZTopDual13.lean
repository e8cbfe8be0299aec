/- DERIVED. index: slices.Insert of one entry: what the runs of its built-ins are. · DERIVED. index: slices.Insert of one entry. -/
import Derived.Test.YtehmlaplodjenaaGreatZTopDual12
import Derived.Test.YtehmlaplodjenaaGreatZTopDual06
import Derived.Lib.AppendZeros
import Derived.Lib.Overlaps
import Derived.Laws.IdiomCopy
import Derived.Laws.Externs
import Derived.Shelf.Spec.SlicesInsert
import Derived.Deep.DeepCutAuto
import Derived.IntWalk
set_option maxRecDepth 100000
set_option maxHeartbeats 8000000
namespace Go.Proofs.YtehmlaplodjenaaGreat
section
open Go.RowKit
theorem run_copyK {P : Program} (w : World) (dT sT ty elem : TypeId) (k b o dLen dCap : Nat) (a : Addr) (sLen sCap : Nat) (cs : List Value)
  (hu : P.underlying dT = some (.slice elem)) (hs : (P.info? elem).map (·.size) = some k) (hn : cs.length = Nat.min sLen dLen * k)
  (hsrc : ∀ j v, cs[j]? = some v → w.cell? (a.add j) = some v) (hc : ∀ j, j < cs.length → (w.cell? ⟨b, o + j, none⟩).isSome = true) (hf : ∀ j, j < cs.length → w.frozen? ⟨b, o + j, none⟩ = false) (h1 : ∀ v ∈ cs, v.oneCell' = true) :
  (Builtin.copy_ #[dT, sT] ty #[.slice (some ⟨b, o, none⟩) dLen dCap, .slice (some a) sLen sCap]).run P w = .ok (goInt (Nat.min sLen dLen)) (w.setCells b o cs) := by
 have hl := run_firstCells_some (P := P) w k (Nat.min sLen dLen) a sLen sCap cs hn hsrc
 have hst := run_storeCells_cells (P := P) b o cs 0 w (by simpa using hc) (by simpa using hf) h1
 cases hq : P.info? elem with
 | none => simp [hq] at hs
 | some i =>
  have hi : i.size = k := by simpa [hq] using hs
  simp [Builtin.copy_, run_underlying hu, Builtin.lenOf, sizeOf, typeInfo, hq, hi, hl, hst]
theorem run_append_some_zeros {P : Program} (w : World) (t tn ty e : TypeId) (i : TypeInfo) (z : Value) (kn : IntKind) (ht : P.underlying t = some (.slice e)) (htn : P.underlying tn = some (.int kn)) (hi : P.info? e = some i) (hz : i.zero = some z)
  (b : Addr) (sLen sCap : Nat) (olds : List Value) (hold : (Builtin.firstCells i.size sLen (.slice (some b) sLen sCap)).run P w.drew = .ok olds.toArray w.drew) (n : Nat) (h0 : 0 < n) (hs : 0 < i.size) (hg : sCap < sLen + n) (h63 : ((sLen + n : Nat) : Int) ≤ 9223372036854775807) (h48 : n * i.bytes ≤ 281474976710656)
  (hfit : Builtin.nextslicecap (sLen + n) sCap * i.bytes ≤ 281474976710656) :
  (Builtin.append_ #[t, tn] ty #[.slice (some b) sLen sCap, .int .i64 n]).run P w =
   .ok (.slice (some ⟨w.heap.size, 0, none⟩) (sLen + n) (grownCap w (sLen + n) sCap e)) (w.drew.alloc (.cells (olds.toArray ++ Builtin.zeroCells z.cells n ++ Builtin.zeroCells z.cells (grownCap w (sLen + n) sCap e - (sLen + n))) e)) := by
 have hn : ¬ (sLen + n ≤ sCap) := by omega
 have hw : IntKind.i64.wrap (n : Int) = n := by rw [IntKind.wrap_i64]; omega
 have h63' : ¬ (9223372036854775807 < ((sLen : Int) + (n : Int))) := by omega
 have h48' : ¬ (281474976710656 < Builtin.nextslicecap (sLen + n) sCap * i.bytes) := by omega
 have h48i : ¬ (281474976710656 < (n : Int) * (i.bytes : Int)) := by
  rw [← Int.natCast_mul]
  omega
 have hneg : ¬ ((n : Int) < 0) := by omega
 have hns : ¬ (n * i.size = 0) := Nat.mul_ne_zero (by omega) (by omega)
 simp [Builtin.append_, run_underlying ht, run_underlying htn, sizeOf, typeInfo, zeroValue, hi, hz, asInt, asIntOf, hw, hn, hneg, hns, h63', h48', h48i, Question.forced, hold, newRow, grownCap]
def zeroEn : En := ⟨⟨0, 0, ⟨#[]⟩, false⟩, 0⟩
theorem En.len (x : En) : (En.cells x).length = 5 := rfl
theorem En.one (x : En) : ∀ c ∈ En.cells x, c.oneCell' = true := by simp [En.cells, Value.oneCell']
theorem En.ones {L : List En} : ∀ c ∈ L.flatMap En.cells, c.oneCell' = true := by
 intro c hc
 obtain ⟨x, _, h⟩ := List.mem_flatMap.1 hc
 exact x.one c h
theorem En.flat (L : List En) : (L.flatMap En.cells).length = L.length * 5 := flat_len (fun x _ => x.len)
theorem Tryz.infoEn : (Tryz.prog.info? 66).map (fun i => (i.zero, i.size, i.bytes)) = some (some (.agg #[.int .i64 0, .int .i64 0, .string ⟨#[]⟩, .bool false, .int .u64 0]), 5, 48) := by kernel_rfl
section
variable {w : World} {B g cap : Nat} {L : List En}
theorem OwnsR.spare (h : OwnsR w B 66 5 En.cells (.slice (some ⟨g, 0, none⟩) L.length cap) L) : ∃ cur, B ≤ g ∧ w.heap[g]? = some (.cells cur 66 (0, 0)) ∧ L.length ≤ cap ∧ cap ≤ maxLen ∧ cur.size = cap * 5 ∧ cur.toList.take (L.length * 5) = L.flatMap En.cells := by
 obtain ⟨g', cap', cur, he, hb, hg, hn, hm, hs, ht⟩ := h.row (by simp [Value.ownBlock])
 simp only [Value.slice.injEq, Option.some.injEq, Addr.mk.injEq, and_true, true_and] at he
 obtain ⟨rfl, rfl⟩ := he
 exact ⟨cur, hb, hg, hn, hm, hs, ht⟩
theorem there_of {b o n : Nat} {cur : Array Value} {t : TypeId} (hg : w.heap[b]? = some (.cells cur t (0, 0))) (h : o + n ≤ cur.size) : (∀ j, j < n → (w.cell? ⟨b, o + j, none⟩).isSome = true) ∧ ∀ j, j < n → w.frozen? ⟨b, o + j, none⟩ = false := by
 refine ⟨fun j hj => ?_, fun j hj => by simp [World.frozen?, hg]⟩
 have : o + j < cur.size := by omega
 simp [World.cell?, hg, this]
theorem OwnsR.reads (h : OwnsR w B 66 5 En.cells (.slice (some ⟨g, 0, none⟩) L.length cap) L) (i : Nat) : ∀ j v, ((L.drop i).flatMap En.cells)[j]? = some v → w.cell? ⟨g, i * 5 + j, none⟩ = some v := by
 obtain ⟨cur, _, hg, _, _, _, ht⟩ := h.spare
 intro j v hj
 rw [flat_drop (fun x => x.len), ← ht, List.getElem?_drop, List.getElem?_take] at hj
 split at hj
 ·simp only [World.cell?, hg]
  simpa using hj
 ·cases hj
theorem OwnsR.shift (h : OwnsR w B 66 5 En.cells (.slice (some ⟨g, 0, none⟩) L.length cap) L) (i : Nat) (hi : i < L.length) (hc : L.length + 1 ≤ cap) :
  OwnsR (w.setCells g ((i + 1) * 5) ((L.drop i).flatMap En.cells)) B 66 5 En.cells (.slice (some ⟨g, 0, none⟩) (L.length + 1) cap) (L.take (i + 1) ++ L.drop i) := by
 obtain ⟨cur, hb, hg, hn, hm, hs, ht⟩ := h.spare
 have hd : ((L.drop i).flatMap En.cells).length = (L.length - i) * 5 := by rw [En.flat, List.length_drop]
 have hlen : (L.take (i + 1) ++ L.drop i).length = L.length + 1 := by rw [List.length_append, List.length_take, List.length_drop]; omega
 have hfit : (i + 1) * 5 + ((L.drop i).flatMap En.cells).length ≤ cur.size := by rw [hd, hs]; omega
 refine ⟨En.flat _, .inr ⟨g, cap, _, by rw [hlen], hb, putAt_heap _ _ _ _ hg, by omega, hm, by rw [putAt_size]; exact hs, ?_⟩⟩
 rw [hlen, putAt_list _ _ _ hfit, List.flatMap_append, flat_take (fun x => x.len) L (i + 1), ← ht, List.take_take, show min ((i + 1) * 5) (L.length * 5) = (i + 1) * 5 by omega]
 have h1 : (cur.toList.take ((i + 1) * 5)).length = (i + 1) * 5 := by rw [List.length_take, Array.length_toList]; omega
 have h2 : (cur.toList.take ((i + 1) * 5) ++ (L.drop i).flatMap En.cells).length = (L.length + 1) * 5 := by rw [List.length_append, h1, hd]; omega
 rw [List.take_left' h2]
theorem insert_at {x : En} {i : Nat} (hi : i < L.length) : (L.take (i + 1) ++ L.drop i).take i ++ [x] ++ (L.take (i + 1) ++ L.drop i).drop (i + 1) = L.take i ++ [x] ++ L.drop i := by
 rw [List.take_append, List.drop_append, List.length_take, List.take_take, show min i (i + 1) = i by omega, show i - min (i + 1) L.length = 0 by omega, show i + 1 - min (i + 1) L.length = 0 by omega, List.take_zero, List.append_nil, List.drop_zero]
 rw [List.drop_of_length_le (l := L.take (i + 1)) (by rw [List.length_take]; omega), List.nil_append]
end
end
section
open Go.RowKit
theorem slice_from (g n cap i : Nat) (x : Int) (hx : x = (i : Int)) (h1 : i ≤ n) (_h2 : n ≤ cap) (h3 : i < cap) (W : World) :
  (Instr.slice 64 (.slice (some ⟨g, 0, none⟩) n cap) (some (.int .i64 x)) none none).run Tryz.prog W = .ok (.slice (some ⟨g, i * 5, none⟩) (n - i) (cap - i)) W := by
 subst hx
 have e : Go.sliced (some ⟨g, 0, none⟩) i n cap 5 = .slice (some ⟨g, i * 5, none⟩) (n - i) (cap - i) := by
  unfold Go.sliced
  rw [if_neg (by omega)]
  simp [Addr.add]
  intro h
  omega
 have hlo : (i : Int) ≤ (n : Int) := by omega
 have ht := Tryz.underlying64
 cases hi : Tryz.prog.info? 66 with
 | none =>
  have := Tryz.infoEn
  rw [hi] at this
  cases this
 | some f =>
  have hsz : f.size = 5 := by
   have := Tryz.infoEn
   rw [hi] at this
   simp only [Option.map_some, Option.some.injEq, Prod.mk.injEq] at this
   exact this.2.1
  rw [← e]
  simp [go_sem, ht, hi, hsz, hlo, sizeOf, typeInfo]
theorem slice_upto (g n cap i : Nat) (x : Int) (hx : x = (i : Int)) (h2 : i ≤ cap) (h3 : 0 < cap) (W : World) :
  (Instr.slice 64 (.slice (some ⟨g, 0, none⟩) n cap) none (some (.int .i64 x)) none).run Tryz.prog W = .ok (.slice (some ⟨g, 0, none⟩) i cap) W := by
 subst hx
 have e : Go.sliced (some ⟨g, 0, none⟩) 0 i cap 5 = .slice (some ⟨g, 0, none⟩) i cap := by
  unfold Go.sliced
  rw [if_neg (by omega)]
  simp [Addr.add]
 have hlo : (i : Int) ≤ (cap : Int) := by omega
 have ht := Tryz.underlying64
 cases hi : Tryz.prog.info? 66 with
 | none =>
  have := Tryz.infoEn
  rw [hi] at this
  cases this
 | some f =>
  have hsz : f.size = 5 := by
   have := Tryz.infoEn
   rw [hi] at this
   simp only [Option.map_some, Option.some.injEq, Prod.mk.injEq] at this
   exact this.2.1
  rw [← e]
  simp [go_sem, ht, hi, hsz, hlo, sizeOf, typeInfo]
def InsP (B : Nat) (v : Value) (L : List En) (i : Nat) (x : En) (w : World) (e : Ending) (w' : World) : Prop :=
 ∃ v', e = .returned v' ∧ OwnsR w' B 66 5 En.cells v' (L.take i ++ [x] ++ L.drop i) ∧ (v'.ownBlock = v.ownBlock ∨ ∃ b, v'.ownBlock = some b ∧ w.heap.size ≤ b) ∧ Keeps (fun k => v.ownBlock = some k) w w'
section
variable (v : Value) (L : List En) (B i vb : Nat) (x : En) (w : World)
theorem insert_end (h : OwnsR w B 66 5 En.cells v L) (hi : i = L.length) (hl : L.length ≤ 10000) (hx : SeesR w 5 En.cells (.slice (some ⟨vb, 0, none⟩) 1 1) [x]) (hB : B ≤ w.heap.size) :
  Calls Tryz.prog 19 #[v, .int .i64 i, .slice (some ⟨vb, 0, none⟩) 1 1] w (InsP B v L i x w) := by
 subst hi
 have hs := h.sees (fun x => x.len) (by decide)
 obtain ⟨p, c, rfl, hc, hm⟩ := hs.len
 obtain ⟨sp, sc, hsl, _⟩ : ∃ p' c', (∀ W, (Instr.slice 64 (.slice p L.length c) (some (.int .i64 (L.length : Int))) none none).run Tryz.prog W = .ok (.slice p' (L.length - L.length) c') W) ∧ True := by
  obtain ⟨p', c', e⟩ : ∃ p' c', Go.sliced p L.length L.length c 5 = .slice p' (L.length - L.length) c' := ⟨_, _, rfl⟩
  refine ⟨p', c', fun W => ?_, trivial⟩
  have ht := Tryz.underlying64
  cases hi : Tryz.prog.info? 66 with
  | none =>
   have := Tryz.infoEn
   rw [hi] at this
   cases this
  | some f =>
   have hsz : f.size = 5 := by
    have := Tryz.infoEn
    rw [hi] at this
    simp only [Option.map_some, Option.some.injEq, Prod.mk.injEq] at this
    exact this.2.1
   rw [← e]
   simp [go_sem, ht, hi, hsz, sizeOf, typeInfo]
 have H := Lib.hid (And.intro h (And.intro hx hB))
 have HN := Lib.hid (show L.length + 1 ≤ maxLen ∧ (L.length + 1) * 48 ≤ 140737488355328 from ⟨by unfold maxLen; omega, by omega⟩)
 clear h hs hx hB hm
 go_enter Tryz.func19, Tryz.ntmps19
 go_wp2_with (at_builtin; go_loud (refine wpList_append_rows (P := Tryz.prog) rfl _ _ 64 rfl B 66 5 48 En.cells _ Tryz.underlying64 Tryz.infoEn rfl (by decide) (.slice p L.length c) L rfl H.out.1 _ [x] rfl H.out.2.1 (fun x _ => x.len) (fun x _ => x.one) HN.out.1 HN.out.2 H.out.2.2 ?_; intro v7 w7 ho7 hg7 hat7))
 have K := Lib.hid (And.intro ho7 (And.intro hat7 ((Keeps.refl (fun k => (Value.slice p L.length c).ownBlock = some k) w).grown hg7 (fun k e _ => e))))
 clear ho7 hg7 hat7
 go_wp2_with fail
 go_ret
 refine ⟨_, rfl, ?_, ?_, K.out.2.2⟩
 ·rw [List.take_of_length_le (Nat.le_refl _), List.drop_of_length_le (Nat.le_refl _), List.append_nil]
  exact K.out.1
 ·rcases K.out.2.1 with e | e
  ·exact .inl e
  ·exact .inr ⟨_, e, Nat.le_refl _⟩
theorem insert_room (g cap : Nat) (h : OwnsR w B 66 5 En.cells (.slice (some ⟨g, 0, none⟩) L.length cap) L) (hi : i < L.length) (hl : L.length ≤ 10000) (hx : w.heap[vb]? = some (.cells x.cells.toArray 66 (0, 0))) (hne : vb ≠ g) (hroom : L.length + 1 ≤ cap) :
  Calls Tryz.prog 19 #[.slice (some ⟨g, 0, none⟩) L.length cap, .int .i64 i, .slice (some ⟨vb, 0, none⟩) 1 1] w (InsP B (.slice (some ⟨g, 0, none⟩) L.length cap) L i x w) := by
 obtain ⟨cur, hb, hg, hn, hm, hs, ht⟩ := h.spare
 have h63 : cap ≤ 9223372036854775807 := by unfold maxLen at hm; omega
 have xl : x.cells.toArray.size = 5 := rfl
 have hz1 : ¬ ((i : Int) = (L.length : Int)) := by omega
 have w1 : IntKind.i64.wrap ((L.length : Int) + 1) = (L.length : Int) + 1 := IntWalk.i64_in _ (by omega)
 have w2 : IntKind.i64.wrap ((i : Int) + 1) = (i : Int) + 1 := IntWalk.i64_in _ (by omega)
 have c1 : ¬ ((cap : Int) < (L.length : Int) + 1) := by omega
 have s1 := slice_from g L.length cap i i rfl (by omega) hn (by omega)
 have s13 := slice_upto g L.length cap (L.length + 1) ((L.length : Int) + 1) (by omega) hroom (by omega)
 have e14 : L.length + 1 - (i + 1) = L.length - i := by omega
 have s14 := slice_from g (L.length + 1) cap (i + 1) ((i : Int) + 1) (by omega) (by omega) hroom (by omega)
 rw [e14] at s14
 have s15 := slice_from g (L.length + 1) cap i i rfl (by omega) hroom (by omega)
 have hov : (callFunc 48 #[.slice (some ⟨vb, 0, none⟩) 1 1, .slice (some ⟨g, (i + 1) * 5, none⟩) (L.length - i) (cap - (i + 1))]).run Tryz.prog w = .ok (.value (.bool false)) w := by
  rw [run_callFunc_extern Tryz.func48 (by kernel_rfl) (by kernel_rfl) (by kernel_rfl) (e := Extern.SlicesOverlaps.overlaps #[64, 64] #[4]) (by kernel_rfl),
   Lib.run_overlaps_apart w 64 4 66 Tryz.underlying64 5 (fun W => by kernel_rfl) ⟨vb, 0, none⟩ ⟨g, (i + 1) * 5, none⟩ 1 1 _ _ hne 66 66 5 cur.size (by simp [World.shape?, hx, xl]) (by simp [World.shape?, hg]) (by omega) (by simp [World.frozen?, hx]) (by simp [World.frozen?, hx])]
  rfl
 have hdl : ((L.drop i).flatMap En.cells).length = (L.length - i) * 5 := by rw [En.flat, List.length_drop]
 have th1 := there_of (w := w.drew) (b := g) (o := (i + 1) * 5) (n := ((L.drop i).flatMap En.cells).length) (show w.drew.heap[g]? = _ from hg) (by rw [hdl, hs]; omega)
 have cp1 : ∀ ty, (Builtin.copy_ #[64, 64] ty #[.slice (some ⟨g, (i + 1) * 5, none⟩) (L.length - i) (cap - (i + 1)), .slice (some ⟨g, i * 5, none⟩) (L.length + 1 - i) (cap - i)]).run Tryz.prog w.drew = .ok (goInt (Nat.min (L.length + 1 - i) (L.length - i))) (w.drew.setCells g ((i + 1) * 5) ((L.drop i).flatMap En.cells)) := fun ty =>
  run_copyK w.drew _ _ ty 66 5 g ((i + 1) * 5) _ _ ⟨g, i * 5, none⟩ _ _ _ Tryz.underlying64 (by kernel_rfl) (by rw [hdl, show Nat.min (L.length + 1 - i) (L.length - i) = L.length - i from Nat.min_eq_right (Nat.sub_le_sub_right (Nat.le_succ _) _)])
   (fun j u hj => by rw [Addr.add_lit]; exact (h.old (Keeps.refl _ _).drew).reads i j u hj) th1.1 th1.2 En.ones
 have sh := (h.old (Keeps.refl _ _).drew).shift i hi hroom
 obtain ⟨W1, hW1⟩ : ∃ W1, w.drew.setCells g ((i + 1) * 5) ((L.drop i).flatMap En.cells) = W1 := ⟨_, rfl⟩
 have k1 : Keeps (fun k => k = g) w W1 := by rw [← hW1]; exact putAt_keeps _ _ w.drew w (Keeps.refl _ _).drew
 have hg1 : W1.heap[g]? = some (.cells (putAt cur ((i + 1) * 5) ((L.drop i).flatMap En.cells)) 66 (0, 0)) := by rw [← hW1]; exact putAt_heap _ _ _ _ hg
 rw [hW1] at cp1 sh
 have hx1 := (k1.block _ (lt_of_heap hx) hne).trans hx
 have th2 := there_of (w := W1) (b := g) (o := i * 5) (n := x.cells.length) hg1 (by rw [putAt_size, hs]; show i * 5 + 5 ≤ _; omega)
 have cp2 : ∀ ty, (Builtin.copy_ #[64, 64] ty #[.slice (some ⟨g, i * 5, none⟩) (L.length + 1 - i) (cap - i), .slice (some ⟨vb, 0, none⟩) 1 1]).run Tryz.prog W1 = .ok (goInt (Nat.min 1 (L.length + 1 - i))) (W1.setCells g (i * 5) x.cells) := fun ty =>
  run_copyK W1 _ _ ty 66 5 g (i * 5) _ _ ⟨vb, 0, none⟩ _ _ _ Tryz.underlying64 (by kernel_rfl) (by rw [show Nat.min 1 (L.length + 1 - i) = 1 from Nat.min_eq_left (show 1 ≤ L.length + 1 - i by omega)]; rfl)
   (fun j u hj => by rw [Addr.add_lit]; simp only [World.cell?, hx1, Nat.zero_add]; simpa using hj) th2.1 th2.2 (x.one)
 have hlen : (L.take (i + 1) ++ L.drop i).length = L.length + 1 := by rw [List.length_append, List.length_take, List.length_drop]; omega
 rw [← hlen] at sh
 have pt := sh.put (fun x => x.len) i [x] (by rw [hlen]; simp; omega)
 rw [show [x].flatMap En.cells = x.cells by simp, show i + [x].length = i + 1 from rfl, insert_at hi] at pt
 have k2 : Keeps (fun k => k = g) W1 (W1.setCells g (i * 5) x.cells) := putAt_keeps _ _ W1 W1 (Keeps.refl _ _)
 have Z := Lib.hid (And.intro pt (k1.trans k2))
 rw [hlen] at Z
 have C1 := Lib.hid cp1
 have C2 := Lib.hid cp2
 have HOV := Lib.hid hov
 clear th1 th2 sh pt k1 k2 hg1 hx1 hlen hdl hb hg hn hs ht h hx xl hm cp1 cp2 hW1
 go_enter Tryz.func19, Tryz.ntmps19
 go_upto_region 15 with (simp only [hov])
 clear hov
 refine wp_region_g (S := fun _ => True) (M := [0, 1, 2, 3, 4, 5, 6, 7, 8]) (by kernel_rfl) ?_
 have rd : True := trivial
 refine tkG (i := 0) (v := ?vi0) ?yi0 rd ?ri0
 case yi0 => (intro W hSw; go_simp; try with_reducible rfl)
 try simp only [Act.put, List.setIfInBounds_toArray, List.set_cons_zero, List.set_cons_succ]
 refine tkG (i := 1) (v := ?vi1) ?yi1 rd ?ri1
 case yi1 => (intro W hSw; go_simp; try with_reducible rfl)
 try simp only [Act.put, List.setIfInBounds_toArray, List.set_cons_zero, List.set_cons_succ]
 refine tkG (i := 2) (v := ?vi2) ?yi2 rd ?ri2
 case yi2 => (intro W hSw; go_simp; try with_reducible rfl)
 try simp only [Act.put, List.setIfInBounds_toArray, List.set_cons_zero, List.set_cons_succ]
 refine tkG (i := 3) (v := ?vi3) ?yi3 rd ?ri3
 case yi3 => (intro W hSw; go_simp; try with_reducible rfl)
 try simp only [Act.put, List.setIfInBounds_toArray, List.set_cons_zero, List.set_cons_succ]
 refine tkG (i := 4) (v := ?vi4) ?yi4 rd ?ri4
 case yi4 => (intro W hSw; go_simp; try with_reducible rfl)
 try simp only [Act.put, List.setIfInBounds_toArray, List.set_cons_zero, List.set_cons_succ]
 refine tkG (i := 5) (v := ?vi5) ?yi5 rd ?ri5
 case yi5 => (intro W hSw; go_simp; try with_reducible rfl)
 try simp only [Act.put, List.setIfInBounds_toArray, List.set_cons_zero, List.set_cons_succ]
 refine tkG (i := 6) (v := ?vi6) ?yi6 rd ?ri6
 case yi6 => (intro W hSw; go_simp; try with_reducible rfl)
 try simp only [Act.put, List.setIfInBounds_toArray, List.set_cons_zero, List.set_cons_succ]
 refine tkG (i := 7) (v := ?vi7) ?yi7 rd ?ri7
 case yi7 => (intro W hSw; go_simp; try with_reducible rfl)
 try simp only [Act.put, List.setIfInBounds_toArray, List.set_cons_zero, List.set_cons_succ]
 refine wpAnyG_onlyL (i := 8) (o := _) (by kernel_rfl) rfl (fun K hK => ?_)
 refine step_copy_runI rfl _ _ 64 64 rfl _ _ (by rfl) (by rfl) (C1.out _) ?_
 refine hK.out _ _ (fun _ => trivial) ?_
 clear hK K
 try simp only [Act.put, List.setIfInBounds_toArray, List.set_cons_zero, List.set_cons_succ]
 refine wpAnyG_done (by kernel_rfl) ?_ _
 go_simp
 go_wp2_with fail
 rw [C2.out]
 simp only [Result.andThen]
 rw [Oper.upon_value]
 go_wp2_with fail
 go_ret
 exact ⟨_, rfl, Z.out.1, .inl rfl, Z.out.2.weaken (fun k _ e => by rw [show k = g from e]; rfl)⟩
theorem insert_grow (g cap : Nat) (h : OwnsR w B 66 5 En.cells (.slice (some ⟨g, 0, none⟩) L.length cap) L) (hi : i < L.length) (hl : L.length ≤ 10000) (hx : w.heap[vb]? = some (.cells x.cells.toArray 66 (0, 0))) (hB : B ≤ w.heap.size) (hroom : cap < L.length + 1) :
  Calls Tryz.prog 19 #[.slice (some ⟨g, 0, none⟩) L.length cap, .int .i64 i, .slice (some ⟨vb, 0, none⟩) 1 1] w (InsP B (.slice (some ⟨g, 0, none⟩) L.length cap) L i x w) := by
 obtain ⟨cur, hb, hg, hn, hm, hs, ht⟩ := h.spare
 have hz1 : ¬ ((i : Int) = (L.length : Int)) := by omega
 have w1 : IntKind.i64.wrap ((L.length : Int) + 1) = (L.length : Int) + 1 := IntWalk.i64_in _ (by omega)
 have w2 : IntKind.i64.wrap ((i : Int) + 1) = (i : Int) + 1 := IntWalk.i64_in _ (by omega)
 have w3 : IntKind.i64.wrap ((L.length : Int) + 1 - (i : Int)) = ((L.length + 1 - i : Nat) : Int) := by rw [IntWalk.i64_in _ (by omega)]; omega
 have c1 : (cap : Int) < (L.length : Int) + 1 := by omega
 have s1 := slice_from g L.length cap i i rfl (by omega) hn (by omega)
 have s34 := slice_upto g L.length cap i i rfl (by omega) (by omega)
 obtain ⟨f, hf, hz0, hzs, hzb⟩ := info_parts Tryz.infoEn
 have hol : ((L.take i).flatMap En.cells).length = i * 5 := by rw [En.flat, List.length_take]; congr 1; omega
 have hold : (Builtin.firstCells f.size i (.slice (some ⟨g, 0, none⟩) i cap)).run Tryz.prog w.drew = .ok ((L.take i).flatMap En.cells).toArray w.drew := by
  rw [hzs]
  refine run_firstCells_some w.drew 5 i ⟨g, 0, none⟩ i cap _ hol (fun j u hj => ?_)
  rw [Addr.add_lit, Nat.zero_add]
  rw [flat_take (fun x => x.len), ← ht, List.getElem?_take] at hj
  split at hj
  ·rw [List.getElem?_take] at hj
   split at hj
   ·show w.cell? _ = _
    simp only [World.cell?, hg]
    simpa using hj
   ·cases hj
  ·cases hj
 have eN : i + (L.length + 1 - i) = L.length + 1 := by omega
 have AP0 := fun ty => run_append_some_zeros (P := Tryz.prog) w 64 3 ty 66 f _ .i64 Tryz.underlying64 (by kernel_rfl) hf hz0 ⟨g, 0, none⟩ i cap _ hold (L.length + 1 - i) (by omega) (by rw [hzs]; decide) (by omega) (by omega) (by rw [hzb]; omega) (by rw [hzb, eN]; exact growslice_fits (by omega) (by omega))
 rw [eN] at AP0
 have hge := grownCap_ge w (L.length + 1) cap 66
 have hle := grownCap_le_maxLen w (L.length + 1) cap 66 (by unfold maxLen; omega)
 obtain ⟨gc, hgc⟩ : ∃ gc, grownCap w (L.length + 1) cap 66 = gc := ⟨_, rfl⟩
 rw [hgc] at AP0 hge hle
 have zc : (Value.agg #[.int .i64 0, .int .i64 0, .string ⟨#[]⟩, .bool false, .int .u64 0]).cells = zeroEn.cells.toArray := rfl
 rw [zc] at AP0
 have zl : ∀ m, (Builtin.zeroCells zeroEn.cells.toArray m).toList = (List.replicate m zeroEn).flatMap En.cells := fun m => zeroCells_flat (fun x => x.len) (by decide) zeroEn _ rfl m
 have zs : ∀ m, (Builtin.zeroCells zeroEn.cells.toArray m).size = m * 5 := fun m => by rw [← Array.length_toList, zl, En.flat, List.length_replicate]
 obtain ⟨cur2, hcur2⟩ : ∃ c, ((L.take i).flatMap En.cells).toArray ++ Builtin.zeroCells zeroEn.cells.toArray (L.length + 1 - i) ++ Builtin.zeroCells zeroEn.cells.toArray (gc - (L.length + 1)) = c := ⟨_, rfl⟩
 have sz2 : cur2.size = gc * 5 := by rw [← hcur2, Array.size_append, Array.size_append, zs, zs, List.size_toArray, hol]; omega
 have tk2 : cur2.toList.take ((L.length + 1) * 5) = (L.take i ++ List.replicate (L.length + 1 - i) zeroEn).flatMap En.cells := by
  rw [← hcur2, Array.toList_append, Array.toList_append, zl, zl, List.flatMap_append]
  have e : (((L.take i).flatMap En.cells).toArray.toList ++ (List.replicate (L.length + 1 - i) zeroEn).flatMap En.cells).length = (L.length + 1) * 5 := by rw [List.length_append, List.toList_toArray, hol, En.flat, List.length_replicate]; omega
  rw [List.take_left' e]
 rw [hcur2] at AP0
 obtain ⟨W2, hW2⟩ : ∃ W2, w.drew.alloc (.cells cur2 66) = W2 := ⟨_, rfl⟩
 have o2 : Old w W2 := by rw [← hW2]; exact (Keeps.refl _ _).drew.alloc _
 have b2 : W2.heap[w.heap.size]? = some (.cells cur2 66 (0, 0)) := by rw [← hW2]; exact heap_alloc_new w.drew _
 rw [hW2] at AP0
 have l2 : (L.take i ++ List.replicate (L.length + 1 - i) zeroEn).length = L.length + 1 := by rw [List.length_append, List.length_take, List.length_replicate]; omega
 have own2 : OwnsR W2 B 66 5 En.cells (.slice (some ⟨w.heap.size, 0, none⟩) (L.take i ++ List.replicate (L.length + 1 - i) zeroEn).length gc) (L.take i ++ List.replicate (L.length + 1 - i) zeroEn) :=
  ⟨En.flat _, .inr ⟨w.heap.size, gc, cur2, rfl, hB, b2, by rw [l2]; exact hge, hle, sz2, by rw [l2]; exact tk2⟩⟩
 have s43 := slice_from w.heap.size (L.length + 1) gc i i rfl (by omega) hge (by omega)
 have e14 : L.length + 1 - (i + 1) = L.length - i := by omega
 have s50 := slice_from w.heap.size (L.length + 1) gc (i + 1) ((i : Int) + 1) (by omega) (by omega) hge (by omega)
 rw [e14] at s50
 have hx2 := (o2.block _ (lt_of_heap hx) (fun f => f)).trans hx
 have th1 := there_of (w := W2) (b := w.heap.size) (o := i * 5) (n := x.cells.length) b2 (by rw [sz2]; show i * 5 + 5 ≤ _; omega)
 have cp1 : ∀ ty, (Builtin.copy_ #[64, 64] ty #[.slice (some ⟨w.heap.size, i * 5, none⟩) (L.length + 1 - i) (gc - i), .slice (some ⟨vb, 0, none⟩) 1 1]).run Tryz.prog W2 = .ok (goInt (Nat.min 1 (L.length + 1 - i))) (W2.setCells w.heap.size (i * 5) x.cells) := fun ty =>
  run_copyK W2 _ _ ty 66 5 w.heap.size (i * 5) _ _ ⟨vb, 0, none⟩ _ _ _ Tryz.underlying64 (by kernel_rfl) (by rw [show Nat.min 1 (L.length + 1 - i) = 1 from Nat.min_eq_left (show 1 ≤ L.length + 1 - i by omega)]; rfl)
   (fun j u hj => by rw [Addr.add_lit]; simp only [World.cell?, hx2, Nat.zero_add]; simpa using hj) th1.1 th1.2 (x.one)
 have pt1 := own2.put (fun x => x.len) i [x] (by rw [l2]; simp; omega)
 rw [show [x].flatMap En.cells = x.cells by simp] at pt1
 have k3 : Keeps (fun k => k = w.heap.size) W2 (W2.setCells w.heap.size (i * 5) x.cells) := putAt_keeps _ _ W2 W2 (Keeps.refl _ _)
 have b3 := putAt_heap x.cells (i * 5) W2 cur2 b2
 obtain ⟨W3, hW3⟩ : ∃ W3, W2.setCells w.heap.size (i * 5) x.cells = W3 := ⟨_, rfl⟩
 rw [hW3] at cp1 pt1 k3 b3
 have l3 : ((L.take i ++ List.replicate (L.length + 1 - i) zeroEn).take i ++ [x] ++ (L.take i ++ List.replicate (L.length + 1 - i) zeroEn).drop (i + [x].length)).length = L.length + 1 := by
  rw [List.length_append, List.length_append, List.length_take, List.length_drop, l2]
  simp only [List.length_cons, List.length_nil]
  omega
 have e3 : (L.take i ++ List.replicate (L.length + 1 - i) zeroEn).take i ++ [x] ++ (L.take i ++ List.replicate (L.length + 1 - i) zeroEn).drop (i + [x].length) = (L.take i ++ [x]) ++ List.replicate (L.length - i) zeroEn := by
  have li : (L.take i).length = i := by rw [List.length_take]; omega
  rw [List.take_left' li, show i + [x].length = (L.take i).length + 1 by rw [li]; rfl, ← List.drop_drop, List.drop_left, List.drop_replicate, show L.length + 1 - i - 1 = L.length - i by omega]
 have hol3 := (h.old o2).keeps k3 (fun b hb e => by simp only [Value.ownBlock, Option.some.injEq] at hb; have := lt_of_heap hg; omega)
 have hdl : ((L.drop i).flatMap En.cells).length = (L.length - i) * 5 := by rw [En.flat, List.length_drop]
 have th2 := there_of (w := W3.drew) (b := w.heap.size) (o := (i + 1) * 5) (n := ((L.drop i).flatMap En.cells).length) (show W3.drew.heap[w.heap.size]? = _ from b3) (by rw [hdl, putAt_size, sz2]; omega)
 have cp2 : ∀ ty, (Builtin.copy_ #[64, 64] ty #[.slice (some ⟨w.heap.size, (i + 1) * 5, none⟩) (L.length - i) (gc - (i + 1)), .slice (some ⟨g, i * 5, none⟩) (L.length - i) (cap - i)]).run Tryz.prog W3.drew = .ok (goInt (Nat.min (L.length - i) (L.length - i))) (W3.drew.setCells w.heap.size ((i + 1) * 5) ((L.drop i).flatMap En.cells)) := fun ty =>
  run_copyK W3.drew _ _ ty 66 5 w.heap.size ((i + 1) * 5) _ _ ⟨g, i * 5, none⟩ _ _ _ Tryz.underlying64 (by kernel_rfl) (by rw [hdl, show Nat.min (L.length - i) (L.length - i) = L.length - i from Nat.min_self _])
   (fun j u hj => by rw [Addr.add_lit]; exact (hol3.old (Keeps.refl _ _).drew).reads i j u hj) th2.1 th2.2 En.ones
 have li1 : (L.take i ++ [x]).length = i + 1 := by rw [List.length_append, List.length_take]; simp; omega
 rw [e3] at pt1 l3
 have lp : (L.take i ++ List.replicate (L.length + 1 - i) zeroEn).length = ((L.take i ++ [x]) ++ List.replicate (L.length - i) zeroEn).length := by rw [l2, l3]
 rw [lp] at pt1
 have pt2 := (pt1.old (Keeps.refl _ _).drew).put (fun x => x.len) (i + 1) (L.drop i) (by rw [l3, List.length_drop]; omega)
 have e4 : ((L.take i ++ [x]) ++ List.replicate (L.length - i) zeroEn).take (i + 1) ++ L.drop i ++ ((L.take i ++ [x]) ++ List.replicate (L.length - i) zeroEn).drop (i + 1 + (L.drop i).length) = L.take i ++ [x] ++ L.drop i := by
  rw [List.take_left' li1, List.drop_of_length_le (l := (L.take i ++ [x]) ++ List.replicate (L.length - i) zeroEn) (by rw [l3, List.length_drop]; omega), List.append_nil]
 rw [e4] at pt2
 have k4 : Keeps (fun k => k = w.heap.size) W3 (W3.drew.setCells w.heap.size ((i + 1) * 5) ((L.drop i).flatMap En.cells)) := putAt_keeps _ _ W3.drew W3 (Keeps.refl _ _).drew
 rw [l3] at pt2
 have Z := Lib.hid (And.intro pt2 ((o2.then k3 (fun i hi e => by omega)).then k4 (fun i hi e => by omega)))
 have AP := Lib.hid AP0
 have C1 := Lib.hid cp1
 have C2 := Lib.hid cp2
 clear th1 th2 pt1 pt2 k3 k4 b2 b3 hx2 l2 l3 lp e3 e4 li1 hol3 hdl own2 tk2 sz2 zl zs hold hol hf hz0 hzs hzb hb hg hn hs ht h hx hm cp1 cp2 AP0 hW2 hW3 hcur2 zc o2 eN hge hle hgc
 go_enter Tryz.func19, Tryz.ntmps19
 go_wp2_with (at_builtin; refine Lib.wpList_append_run _ rfl _ _ _ _ rfl _ _ rfl rfl _ _ (AP.out _) ?_)
 rw [C1.out]
 simp only [Result.andThen]
 rw [Oper.upon_value]
 go_upto_region 11 with fail
 refine wp_region_g (S := fun _ => True) (M := [0, 1, 2, 3, 4, 5, 6, 7, 8]) (by kernel_rfl) ?_
 have rd : True := trivial
 refine tkG (i := 0) (v := ?vj0) ?yj0 rd ?rj0
 case yj0 => (intro W hSw; go_simp; try with_reducible rfl)
 try simp only [Act.put, List.setIfInBounds_toArray, List.set_cons_zero, List.set_cons_succ]
 refine tkG (i := 1) (v := ?vj1) ?yj1 rd ?rj1
 case yj1 => (intro W hSw; go_simp; try with_reducible rfl)
 try simp only [Act.put, List.setIfInBounds_toArray, List.set_cons_zero, List.set_cons_succ]
 refine tkG (i := 2) (v := ?vj2) ?yj2 rd ?rj2
 case yj2 => (intro W hSw; go_simp; try with_reducible rfl)
 try simp only [Act.put, List.setIfInBounds_toArray, List.set_cons_zero, List.set_cons_succ]
 refine tkG (i := 3) (v := ?vj3) ?yj3 rd ?rj3
 case yj3 => (intro W hSw; go_simp; try with_reducible rfl)
 try simp only [Act.put, List.setIfInBounds_toArray, List.set_cons_zero, List.set_cons_succ]
 refine tkG (i := 4) (v := ?vj4) ?yj4 rd ?rj4
 case yj4 => (intro W hSw; go_simp; try with_reducible rfl)
 try simp only [Act.put, List.setIfInBounds_toArray, List.set_cons_zero, List.set_cons_succ]
 refine tkG (i := 5) (v := ?vj5) ?yj5 rd ?rj5
 case yj5 => (intro W hSw; go_simp; try with_reducible rfl)
 try simp only [Act.put, List.setIfInBounds_toArray, List.set_cons_zero, List.set_cons_succ]
 refine tkG (i := 6) (v := ?vj6) ?yj6 rd ?rj6
 case yj6 => (intro W hSw; go_simp; try with_reducible rfl)
 try simp only [Act.put, List.setIfInBounds_toArray, List.set_cons_zero, List.set_cons_succ]
 refine tkG (i := 7) (v := ?vj7) ?yj7 rd ?rj7
 case yj7 => (intro W hSw; go_simp; try with_reducible rfl)
 try simp only [Act.put, List.setIfInBounds_toArray, List.set_cons_zero, List.set_cons_succ]
 refine wpAnyG_onlyL (i := 8) (o := _) (by kernel_rfl) rfl (fun K hK => ?_)
 refine step_copy_runI rfl _ _ 64 64 rfl _ _ (by rfl) (by rfl) (C2.out _) ?_
 refine hK.out _ _ (fun _ => trivial) ?_
 clear hK K
 try simp only [Act.put, List.setIfInBounds_toArray, List.set_cons_zero, List.set_cons_succ]
 refine wpAnyG_done (by kernel_rfl) ?_ _
 go_simp
 go_wp2_with fail
 go_ret
 exact ⟨_, rfl, Z.out.1, .inr ⟨_, rfl, Nat.le_refl _⟩, Z.out.2.weaken (fun k _ f => f.elim)⟩
theorem insert_any (h : OwnsR w B 66 5 En.cells v L) (hi : i ≤ L.length) (hl : L.length ≤ 10000) (hx : w.heap[vb]? = some (.cells x.cells.toArray 66 (0, 0))) (hne : ¬ v.ownBlock = some vb) (hB : B ≤ w.heap.size) :
  Calls Tryz.prog 19 #[v, .int .i64 i, .slice (some ⟨vb, 0, none⟩) 1 1] w (InsP B v L i x w) := by
 have hs : SeesR w 5 En.cells (.slice (some ⟨vb, 0, none⟩) 1 1) [x] := by
  refine ⟨some ⟨vb, 0, none⟩, 1, rfl, by simp, by unfold maxLen; simp, by simp, fun a ha => ?_⟩
  simp only [Option.some.injEq] at ha
  subst ha
  refine ⟨fun _ => rfl, fun j y hj k u hu => ?_⟩
  match j with
  | 0 =>
   simp at hj
   subst hj
   rw [Addr.add_lit]
   simp only [World.cell?, hx]
   simpa using hu
  | j + 1 => simp at hj
 by_cases he : i = L.length
 ·exact insert_end v L B i vb x w h he hl hs hB
 ·rcases h.2 with ⟨rfl, h0⟩ | ⟨g, cap, cur, rfl, hb, hg, hn, hm, hs2, ht⟩
  ·omega
  ·by_cases hroom : L.length + 1 ≤ cap
   ·exact insert_room L B i vb x w g cap h (by omega) hl hx (fun e => hne (by rw [e]; rfl)) hroom
   ·exact insert_grow L B i vb x w g cap h (by omega) hl hx hB (by omega)
end
end
end Go.Proofs.YtehmlaplodjenaaGreat
