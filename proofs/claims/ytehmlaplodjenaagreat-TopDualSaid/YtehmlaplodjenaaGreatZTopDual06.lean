/- DERIVED. cover, overlap, plain: what covers finds as much; what is apart finds nothing in common. · DERIVED. cover: past. -/
import Derived.Test.YtehmlaplodjenaaGreatZTopDual05
import Derived.Deep.DeepCutAuto
import Derived.IntWalk
import Derived.Lib.ConvBytes
import Derived.Test.YtehmlaplodjenaaGreatYpTopDual03
import Derived.Deep.MidRow
set_option maxRecDepth 100000
set_option maxHeartbeats 1000000
namespace Go.Proofs.YtehmlaplodjenaaGreat
section
open Go.RowKit
def askedFrom (r : Rg) (p : List PCon) (name : ByteArray) : Rg := p.foldl (fun r c => if (c.name.toList == name.toList) = true then andR r (OfR c) else r) r
def AskedR (p : List PCon) (name : ByteArray) : Rg := askedFrom allR p name
def growN (n : Nat) (k : Nat) : Nat := match k with
 | 0 => n
 | k + 1 => growN (2 * n + 20) k
theorem askedFrom_ok : ∀ (p : List PCon) (name : ByteArray) (r : Rg) (n : Nat), (∀ c ∈ p, ConP c) → r.ok n → (askedFrom r p name).ok (growN n p.length)
 | [], _, _, _, _, hr => hr
 | c :: p, name, r, n, h, hr => by
  have hc := h c (List.mem_cons_self ..)
  have hp := fun x hx => h x (List.mem_cons_of_mem c hx)
  unfold askedFrom
  rw [List.foldl_cons]
  split
  ·exact askedFrom_ok p name _ (2 * n + 20) hp ((andR_ok hr (OfR_ok hc)).le (by omega))
  ·exact askedFrom_ok p name _ (2 * n + 20) hp (hr.le (by omega))
theorem grow_six (k : Nat) (h : k ≤ 6) : growN 1 k ≤ 2000 := by
 have : k = 0 ∨ k = 1 ∨ k = 2 ∨ k = 3 ∨ k = 4 ∨ k = 5 ∨ k = 6 := by omega
 rcases this with rfl | rfl | rfl | rfl | rfl | rfl | rfl <;> decide
theorem AskedR_ok {p : List PCon} (name : ByteArray) (h : ∀ c ∈ p, ConP c) (hl : p.length ≤ 6) : (AskedR p name).ok 2000 := (askedFrom_ok p name allR 1 h allR_ok).le (grow_six _ hl)
theorem askedFrom_law {v : Val} (hv : v.ok = true) (iv : I64V v) (name : ByteArray) : ∀ (p : List PCon) (r : Rg), (∀ c ∈ p, ConP c) → inR (askedFrom r p name) (kix v) (place v) = (inR r (kix v) (place v) && p.all fun c => !(c.name.toList == name.toList) || asksV c v)
 | [], r, _ => by simp [askedFrom]
 | c :: p, r, h => by
  have hc := h c (List.mem_cons_self ..)
  have ih := fun r => askedFrom_law hv iv name p r (fun x hx => h x (List.mem_cons_of_mem c hx))
  unfold askedFrom at ih ⊢
  rw [List.foldl_cons, List.all_cons]
  by_cases hn : (c.name.toList == name.toList) = true
  ·rw [if_pos hn, ih, andR_law, OfR_law hc hv iv, hn]
   cases inR r (kix v) (place v) <;> simp
  ·have hn' : (c.name.toList == name.toList) = false := by simpa using hn
   rw [if_neg hn, ih, hn']
   simp
theorem AskedR_law {v : Val} (hv : v.ok = true) (iv : I64V v) (p : List PCon) (name : ByteArray) (h : ∀ c ∈ p, ConP c) : inR (AskedR p name) (kix v) (place v) = p.all fun c => !(c.name.toList == name.toList) || asksV c v := by
 unfold AskedR
 rw [askedFrom_law hv iv name p allR h, all_in hv iv, Bool.true_and]
def EvF (l : List At) : Prop := ∀ a ∈ l, a.val.ok = true ∧ I64V a.val
theorem getV_mem {l : List At} {name : ByteArray} {v : Val} (h : getV l name = some v) : ∃ a ∈ l, a.val = v := by
 unfold getV at h
 cases hf : l.find? (fun a => a.name.toList == name.toList) with
 | none => rw [hf] at h; cases h
 | some a =>
  rw [hf] at h
  exact ⟨a, List.mem_of_find?_eq_some hf, by simpa using h⟩
theorem getV_same {l : List At} {a b : ByteArray} (h : a.toList = b.toList) : getV l a = getV l b := by unfold getV; rw [h]
theorem met_in {p : List PCon} {l : List At} (hp : ∀ c ∈ p, ConP c) (hl : EvF l) (hm : matchesV p l = true) {name : ByteArray} {v : Val} (hg : getV l name = some v) : inR (AskedR p name) (kix v) (place v) = true := by
 obtain ⟨a, ha, rfl⟩ := getV_mem hg
 rw [AskedR_law (hl a ha).1 (hl a ha).2 p name hp, List.all_eq_true]
 intro c hc
 by_cases hn : c.name.toList = name.toList
 ·have h1 := List.all_eq_true.1 hm c hc
  unfold metC at h1
  rw [getV_same hn, hg] at h1
  simpa [hn] using h1
 ·have : (c.name.toList == name.toList) = false := by simpa using hn
  simp [this]
theorem met_get {p : List PCon} {l : List At} (hm : matchesV p l = true) {c : PCon} (hc : c ∈ p) : ∃ v, getV l c.name = some v := by
 have h1 := List.all_eq_true.1 hm c hc
 unfold metC at h1
 cases h : getV l c.name with
 | none => rw [h] at h1; cases h1
 | some v => exact ⟨v, rfl⟩
def noneR (p : List PCon) : Bool := p.any fun c => emptyR (AskedR p c.name)
def coversR (p q : List PCon) : Bool := noneR q || p.all fun c => (q.any fun d => d.name.toList == c.name.toList) && emptyR (minusR (AskedR q c.name) (AskedR p c.name))
def apartR (p q : List PCon) : Bool := (p ++ q).any fun c => emptyR (andR (AskedR p c.name) (AskedR q c.name))
theorem none_law {q : List PCon} {l : List At} (hq : ∀ c ∈ q, ConP c) (hl : EvF l) (h : noneR q = true) : matchesV q l = false := by
 cases hm : matchesV q l
 ·rfl
 ·obtain ⟨c, hc, he⟩ := List.any_eq_true.1 h
  obtain ⟨v, hv⟩ := met_get hm hc
  have h1 := met_in hq hl hm hv
  rw [emptyR_law he] at h1
  cases h1
theorem covers_law {p q : List PCon} {l : List At} (hp : ∀ c ∈ p, ConP c) (hq : ∀ c ∈ q, ConP c) (hl : EvF l) (h : coversR p q = true) (hm : matchesV q l = true) : matchesV p l = true := by
 unfold coversR at h
 rcases Bool.or_eq_true _ _ |>.mp h with h | h
 ·rw [none_law hq hl h] at hm; cases hm
 ·unfold matchesV
  rw [List.all_eq_true]
  intro c hc
  have h1 := List.all_eq_true.1 h c hc
  simp only [Bool.and_eq_true] at h1
  obtain ⟨d, hd, hn⟩ := List.any_eq_true.1 h1.1
  have hn : d.name.toList = c.name.toList := by simpa using hn
  obtain ⟨v, hv⟩ := met_get hm hd
  rw [getV_same hn] at hv
  have h2 := met_in hq hl hm hv
  have h3 := emptyR_law h1.2 (kix v) (place v)
  rw [minusR_law, h2] at h3
  have h4 : inR (AskedR p c.name) (kix v) (place v) = true := by simpa using h3
  obtain ⟨a, ha, rfl⟩ := getV_mem hv
  rw [AskedR_law (hl a ha).1 (hl a ha).2 p c.name hp, List.all_eq_true] at h4
  have h5 := h4 c hc
  unfold metC
  rw [hv]
  simpa using h5
theorem apart_law' {p q : List PCon} {l : List At} (hp : ∀ c ∈ p, ConP c) (hq : ∀ c ∈ q, ConP c) (hl : EvF l) (h : apartR p q = true) : (matchesV p l && matchesV q l) = false := by
 cases h1 : matchesV p l
 ·rfl
 ·cases h2 : matchesV q l
  ·rfl
  ·obtain ⟨c, hc, he⟩ := List.any_eq_true.1 h
   have hg : ∃ v, getV l c.name = some v := by
    rcases List.mem_append.1 hc with hc | hc
    ·exact met_get h1 hc
    ·exact met_get h2 hc
   obtain ⟨v, hv⟩ := hg
   have g1 := met_in hp hl h1 hv
   have g2 := met_in hq hl h2 hv
   have g3 := emptyR_law he (kix v) (place v)
   rw [andR_law, g1, g2] at g3
   cases g3
end
section
open Go.RowKit
theorem conv_own (w : World) (s : ByteArray) (hs : s.size ≤ 1000) : ∃ c w1, (convert 9 116 (.string s)).run Tryz.prog w = .ok (.slice (some ⟨w.heap.size, 0, none⟩) s.size c) w1 ∧ s.size ≤ c ∧ c ≤ maxLen ∧
  (∀ j b, s.toList[j]? = some b → w1.cell? ⟨w.heap.size, j, none⟩ = some (.int .u8 (b.toNat : Int)) ∧ w1.frozen? ⟨w.heap.size, j, none⟩ = false) ∧ Old w w1 := by
 have hsz : s.toList.length = s.size := by rw [ByteArray.toList_eq]; simp
 have hc : s.size ≤ grownCap w s.size 0 5 := grownCap_ge _ _ _ _
 refine ⟨_, _, Lib.run_convert_string_bytes w 9 116 5 s Tryz.underlying9 Tryz.underlying116 Tryz.underlying5, hc, grownCap_le_maxLen w _ _ _ (by unfold maxLen; omega), fun j b hj => ?_, ⟨rfl, rfl, rfl, ?_, fun k hk _ => Lib.bytesWorld_at_old w _ s k hk⟩⟩
 ·have hjl : j < s.size := by rw [← hsz]; exact (List.getElem?_eq_some_iff.1 hj).1
  constructor
  ·rw [Lib.bytesWorld_cell w _ s j hjl]
   have : s.data.toList.getD j 0 = b := by
    rw [ByteArray.toList_eq] at hj
    simp [List.getD, hj]
   rw [this]
  ·have h := Lib.bytesWorld_at_new w 5 s
   have hn : j < (Lib.bytesCells w 5 s).size := by
    unfold Lib.bytesCells
    simp only [Array.size_append, Array.size_map]
    have : s.data.size = s.size := rfl
    omega
   simp only [World.frozen?, h]
   simp
   omega
 ·rw [Lib.bytesWorld_size]; omega
def lenOf : Value → Int
 | .slice _ n _ => n
 | _ => 0
theorem pastR_strip : ∀ l : List UInt8, pastR (l ++ [255]) = pastR l
 | [] => by simp [pastR]
 | b :: l => by
  have ih := pastR_strip l
  simp only [List.cons_append, pastR, ih]
theorem pastR_last : ∀ (l : List UInt8) (b : UInt8), b ≠ 255 → pastR (l ++ [b]) = some (l ++ [b + 1])
 | [], b, h => by simp [pastR, h]
 | x :: l, b, h => by
  have ih := pastR_last l b h
  simp only [List.cons_append, pastR, ih]
theorem past_any (s : ByteArray) (w : World) (hs : s.size ≤ 1000) : Calls Tryz.prog 183 #[.string s] w fun e w' => e = .returned (.agg (pastC s).cells.toArray) ∧ Old w w' := by
 obtain ⟨W0, hW0⟩ : ∃ W0, w.alloc (.cells #[.string ⟨#[]⟩, .bool false] 188) = W0 := ⟨_, rfl⟩
 have o0 : Old w W0 := by rw [← hW0]; exact (Keeps.refl _ _).alloc _
 have b0 : W0.heap[w.heap.size]? = some (.cells #[.string ⟨#[]⟩, .bool false] 188 (0, 0)) := by rw [← hW0]; exact heap_alloc_new _ _
 have z0 : W0.heap.size = w.heap.size + 1 := by rw [← hW0]; simp
 obtain ⟨c, w1, hconv, hc1, hc2, hat, o1⟩ := conv_own W0 s hs
 have hsz : s.toList.length = s.size := by rw [ByteArray.toList_eq]; simp
 obtain ⟨g, hg⟩ : ∃ g, W0.heap.size = g := ⟨_, rfl⟩
 rw [hg] at hconv hat z0
 have b1 := (o1.block _ (lt_of_heap b0) (fun f => f)).trans b0
 have A := Lib.hid (And.intro (o0.trans o1) (And.intro b1 (And.intro hat hsz)))
 have Z := Lib.hid z0
 have HW := Lib.hid hW0
 have hc9 : c ≤ 9223372036854775807 := by unfold maxLen at hc2; omega
 clear o0 b0 o1 b1 hat hsz hW0 hg z0 hc2
 go_enter Tryz.func183, Tryz.ntmps183
 go_upto_region 1 with fail
 rw [HW.out]
 go_wp2_with fail
 go_loopw [3] (fun v3 wr => ∃ n : Nat, n ≤ s.size ∧ v3 = .slice (some ⟨g, 0, none⟩) n c ∧ wr = w1 ∧ pastR s.toList = pastR (s.toList.take n)) (fun v3 _ => (lenOf v3).toNat)
 case atStart => exact ⟨s.size, Nat.le_refl _, rfl, rfl, by rw [List.take_of_length_le (by rw [A.out.2.2.2]; exact Nat.le_refl _)]⟩
 case round =>
  obtain ⟨n, hn, rfl, rfl, hp⟩ := hrel
  have HP := Lib.hid hp
  clear hp
  by_cases h0 : n = 0
  ·subst h0
   have e : pastC s = ⟨⟨#[]⟩, true⟩ := by
    have h := HP.out
    rw [List.take_zero] at h
    unfold pastC
    rw [h]; rfl
   have f0 := blk2 A.out.2.1
   have E := Lib.hid e
   clear e
   go_wp2_with fail
   refine (end_any wr).mono ?_
   rintro e w2 ⟨rfl, k2⟩
   have f1 := blk2 ((k2.block _ (lt_of_heap A.out.2.1) (fun f => f)).trans A.out.2.1)
   have O2 := Lib.hid (A.out.1.trans k2)
   clear k2 f0
   go_wp2_with fail
   exact bodyPost_ret (v := .agg #[.string ⟨#[]⟩, .bool true]) (by simp [results, Tryz.results183, go_sem, f1]) rfl ⟨by rw [E.out]; rfl, O2.out.then ((keepV _ _ _ _).trans (keepV _ _ _ _)) (fun i hi e => by omega)⟩
  ·obtain ⟨i, hi⟩ : ∃ i, n = i + 1 := ⟨n - 1, by omega⟩
   have hil : i < s.toList.length := by rw [A.out.2.2.2]; omega
   obtain ⟨b, hb⟩ : ∃ b, s.toList[i]? = some b := ⟨_, List.getElem?_eq_getElem hil⟩
   obtain ⟨q1, q2⟩ := A.out.2.2.1 i b hb
   have ht : s.toList.take n = s.toList.take i ++ [b] := by rw [hi, List.take_add_one, hb]; rfl
   have hw1 : IntKind.i64.wrap ((n : Int) - 1) = (i : Int) := by rw [IntWalk.i64_in _ (by omega)]; omega
   have hin : (i : Int) < (n : Int) := by omega
   have hn0 : ¬ (n : Int) = 0 := by omega
   have hnc : n ≤ c := by omega
   have hic : (i : Int) ≤ (c : Int) := by omega
   have HT := Lib.hid (And.intro ht (And.intro hi (And.intro hil hb)))
   clear ht hi hil hb
   by_cases h5 : b = 255
   ·subst h5
    go_wp2_with fail
    refine ⟨⟨i, by omega, rfl, trivial, ?_⟩, ?_⟩
    ·rw [HP.out, HT.out.1, pastR_strip]
    ·have := HT.out.2.1
     simp only [lenOf]
     omega
   ·have h6 : ¬ (b.toNat : Int) = 255 := fun e => h5 (UInt8.toNat_inj.1 (by have : (255 : UInt8).toNat = 255 := rfl; omega))
    have t5 : ((b.toNat : Int) == 255) = false := by simpa using h6
    have hlen : (s.toList.take i ++ [b + 1]).length = n := by rw [List.length_append, List.length_take, List.length_singleton]; have := HT.out.2.1; have := HT.out.2.2.1; omega
    have hbt : (b + 1).toNat = b.toNat + 1 := by
     rw [UInt8.toNat_add]
     have := b.toNat_lt
     have h7 : b.toNat ≠ 255 := fun e => h6 (by omega)
     show (b.toNat + 1) % 256 = _
     omega
    have hcv : (convert 116 9 (.slice (some ⟨g, 0, none⟩) n c)).run Tryz.prog (wr.setCell ⟨g, i, none⟩ (.int .u8 (((b.toNat : Int) + 1) % 256))) = .ok (.string ⟨(s.toList.take i ++ [b + 1]).toArray⟩) (wr.setCell ⟨g, i, none⟩ (.int .u8 (((b.toNat : Int) + 1) % 256))) := by
     have h := run_convert_bytes_back (P := Tryz.prog) (wr.setCell ⟨g, i, none⟩ (.int .u8 (((b.toNat : Int) + 1) % 256))) 116 9 5 ⟨g, 0, none⟩ c (s.toList.take i ++ [b + 1]) Tryz.underlying116 Tryz.underlying5 Tryz.underlying9 (fun j hj => by
      rw [show (⟨g, 0, none⟩ : Addr).add j = ⟨g, j, none⟩ from by unfold Addr.add; split <;> simp_all]
      have hj' : j ≤ i := by rw [hlen] at hj; have := HT.out.2.1; omega
      by_cases hji : j = i
      ·subst hji
       rw [World.cell?_setCell_same _ _ _ q1]
       have hg : (s.toList.take j ++ [b + 1])[j] = b + 1 := by
        have hl : (s.toList.take j).length = j := by rw [List.length_take]; have := HT.out.2.2.1; omega
        rw [List.getElem_append_right (by omega)]
        simp
       rw [hg, hbt]
       congr 2
       have := b.toNat_lt
       have h7 : b.toNat ≠ 255 := fun e => h6 (by omega)
       omega
      ·have hjl : j < i := by omega
       rw [World.cell?_setCell_other _ _ _ _ (by intro e; simp only [Addr.mk.injEq] at e; exact hji e.2.1.symm)]
       have hl : (s.toList.take i).length = i := by rw [List.length_take]; have := HT.out.2.2.1; omega
       have hx : s.toList[j]? = some (s.toList.take i ++ [b + 1])[j] := by
        rw [List.getElem_append_left (by omega), List.getElem_take, List.getElem?_eq_getElem]
       exact (A.out.2.2.1 j _ hx).1)
     rw [hlen] at h
     exact h
    have f0 := blk2 A.out.2.1
    have hgw : w.heap.size ≠ g := by have := Z.out; omega
    have hgw' : g ≠ w.heap.size := by have := Z.out; omega
    go_wp2_with fail
    have e : pastC s = ⟨⟨(s.toList.take i ++ [b + 1]).toArray⟩, false⟩ := by
     unfold pastC
     rw [HP.out, HT.out.1, pastR_last _ _ h5]
    exact bodyPost_ret (v := .agg #[.string ⟨(s.toList.take i ++ [b + 1]).toArray⟩, .bool false]) (by simp [results, Tryz.results183, go_sem, f0]) rfl ⟨by rw [e]; rfl, (A.out.1.then (keepV _ _ _ _) (fun k hk e => by have := Z.out; omega)).then ((keepV _ _ _ _).trans (keepV _ _ _ _)) (fun i hi e => by omega)⟩
end
section
open Go.RowKit
def putAt (cs : Array Value) (o : Nat) : List Value → Array Value
 | [] => cs
 | v :: r => putAt (cs.setIfInBounds o v) (o + 1) r
theorem putAt_heap {b : Nat} {t : TypeId} : ∀ (vs : List Value) (o : Nat) (w : World) (cs : Array Value), w.heap[b]? = some (.cells cs t (0, 0)) → (w.setCells b o vs).heap[b]? = some (.cells (putAt cs o vs) t (0, 0))
 | [], _, _, _, h => h
 | v :: r, o, w, _cs, h => putAt_heap r (o + 1) _ _ (heap_setCell_same w b o _ _ v h)
theorem putAt_keeps {b : Nat} : ∀ (vs : List Value) (o : Nat) (w a : World), Keeps (fun k => k = b) a w → Keeps (fun k => k = b) a (w.setCells b o vs)
 | [], _, _, _, h => h
 | v :: r, o, _w, _a, h => putAt_keeps r (o + 1) _ _ (h.setCell (fun _ => rfl) v)
theorem putAt_size : ∀ (vs : List Value) (o : Nat) (cs : Array Value), (putAt cs o vs).size = cs.size
 | [], _, _ => rfl
 | _ :: r, o, cs => by unfold putAt; rw [putAt_size r]; simp
theorem putAt_list (vs : List Value) : ∀ (o : Nat) (cs : Array Value), o + vs.length ≤ cs.size → (putAt cs o vs).toList = cs.toList.take o ++ vs ++ cs.toList.drop (o + vs.length) := by
 induction vs with
 | nil => intro o cs _; unfold putAt; simp
 | cons v r ih =>
  intro o cs h
  simp only [List.length_cons] at h
  unfold putAt
  rw [ih (o + 1) _ (by simp; omega)]
  simp only [Array.toList_setIfInBounds, List.length_cons]
  have h1 : (cs.toList.set o v).take (o + 1) = cs.toList.take o ++ [v] := by
   rw [List.take_succ_eq_append_getElem (by simp; omega), List.take_set_of_le (by omega)]
   simp
  have h2 : (cs.toList.set o v).drop (o + 1 + r.length) = cs.toList.drop (o + (r.length + 1)) := by
   rw [List.drop_set_of_lt (by omega)]
   congr 1
   omega
  rw [h1, h2]
  simp
section
variable {α : Type} {w w' : World} {B : Nat} {E : TypeId} {k : Nat} {enc : α → List Value} {v : Value} {L : List α}
theorem flat_take (hk : ∀ x, (enc x).length = k) : ∀ (L : List α) (i : Nat), (L.take i).flatMap enc = (L.flatMap enc).take (i * k)
 | [], i => by simp
 | x :: r, 0 => by simp
 | x :: r, i + 1 => by
  rw [List.take_succ_cons, List.flatMap_cons, List.flatMap_cons, flat_take hk r i, Nat.succ_mul, List.take_append, hk x]
  rw [List.take_of_length_le (l := enc x) (by rw [hk x]; omega), show i * k + k - k = i * k by omega]
theorem flat_drop (hk : ∀ x, (enc x).length = k) : ∀ (L : List α) (i : Nat), (L.drop i).flatMap enc = (L.flatMap enc).drop (i * k)
 | [], i => by simp
 | x :: r, 0 => by simp
 | x :: r, i + 1 => by
  rw [List.drop_succ_cons, List.flatMap_cons, flat_drop hk r i, Nat.succ_mul, List.drop_append, hk x]
  rw [List.drop_of_length_le (l := enc x) (by rw [hk x]; omega), show i * k + k - k = i * k by omega]
  rfl
theorem OwnsR.row (h : OwnsR w B E k enc v L) (hv : v.ownBlock ≠ none) : ∃ g cap cur, v = .slice (some ⟨g, 0, none⟩) L.length cap ∧ B ≤ g ∧ w.heap[g]? = some (.cells cur E (0, 0)) ∧ L.length ≤ cap ∧ cap ≤ maxLen ∧ cur.size = cap * k ∧ cur.toList.take (L.length * k) = L.flatMap enc := by
 rcases h.2 with ⟨rfl, _⟩ | h
 ·exact absurd rfl hv
 ·exact h
theorem OwnsR.put {g cap : Nat} (hk : ∀ x, (enc x).length = k) (h : OwnsR w B E k enc (.slice (some ⟨g, 0, none⟩) L.length cap) L) (i : Nat) (M : List α) (hi : i + M.length ≤ L.length) :
  OwnsR (w.setCells g (i * k) (M.flatMap enc)) B E k enc (.slice (some ⟨g, 0, none⟩) L.length cap) (L.take i ++ M ++ L.drop (i + M.length)) := by
 obtain ⟨g', cap', cur, he, hb, hg, hn, hm, hs, ht⟩ := h.row (by simp [Value.ownBlock])
 simp only [Value.slice.injEq, Option.some.injEq, Addr.mk.injEq, and_true, true_and] at he
 obtain ⟨rfl, rfl⟩ := he
 have hlen : (L.take i ++ M ++ L.drop (i + M.length)).length = L.length := by simp; omega
 have hML : (M.flatMap enc).length = M.length * k := flat_len (fun x _ => hk x)
 have hle : i * k + M.length * k ≤ L.length * k := by rw [← Nat.add_mul]; exact Nat.mul_le_mul_right _ hi
 have hcap : L.length * k ≤ cap * k := Nat.mul_le_mul_right _ hn
 refine ⟨flat_len (fun x _ => hk x), .inr ⟨g, cap, _, by rw [hlen], hb, putAt_heap _ _ _ _ hg, by omega, hm, by rw [putAt_size]; exact hs, ?_⟩⟩
 rw [hlen, putAt_list _ _ _ (by rw [hML, hs]; omega), hML]
 rw [List.flatMap_append, List.flatMap_append, flat_take hk, flat_drop hk, ← ht]
 rw [List.take_append, List.take_append, List.take_take, List.drop_take]
 simp only [List.length_append, List.length_take, Array.length_toList, hs, hML]
 rw [show min (L.length * k) (i * k) = min (i * k) (L.length * k) by omega]
 rw [List.take_of_length_le (l := M.flatMap enc) (by rw [hML]; omega)]
 rw [List.take_take]
 rw [show min (i * k) (cap * k) = i * k by omega, ← Nat.add_mul]
theorem OwnsR.set {g cap : Nat} (hk : ∀ x, (enc x).length = k) (h : OwnsR w B E k enc (.slice (some ⟨g, 0, none⟩) L.length cap) L) (i : Nat) (x : α) (hi : i < L.length) :
  OwnsR (w.setCells g (i * k) (enc x)) B E k enc (.slice (some ⟨g, 0, none⟩) L.length cap) (L.set i x) := by
 have := h.put hk i [x] (by simp; omega)
 simp only [List.flatMap_cons, List.flatMap_nil, List.append_nil, List.length_cons, List.length_nil, Nat.zero_add] at this
 rw [show L.set i x = L.take i ++ [x] ++ L.drop (i + 1) by rw [List.set_eq_take_append_cons_drop, if_pos hi]; simp]
 exact this
theorem OwnsR.cut {p : Option Addr} {n cap : Nat} (hk : ∀ x, (enc x).length = k) (h : OwnsR w B E k enc (.slice p n cap) L) (i : Nat) (hi : i ≤ L.length) (hp : p ≠ none) : OwnsR w B E k enc (.slice p i cap) (L.take i) := by
 obtain ⟨g, cap', cur, he, hb, hg, hn, hm, hs, ht⟩ := h.row (by cases p <;> simp_all [Value.ownBlock])
 simp only [Value.slice.injEq] at he
 obtain ⟨rfl, rfl, rfl⟩ := he
 have hlen : (L.take i).length = i := by simp; omega
 have hle : i * k ≤ L.length * k := Nat.mul_le_mul_right _ hi
 refine ⟨flat_len (fun x _ => hk x), .inr ⟨g, cap, cur, by rw [hlen], hb, hg, by omega, hm, hs, ?_⟩⟩
 rw [hlen, flat_take hk, ← ht, List.take_take, show min (i * k) (L.length * k) = i * k by omega]
theorem OwnsR.there {g cap : Nat} (h : OwnsR w B E k enc (.slice (some ⟨g, 0, none⟩) L.length cap) L) (o n : Nat) (hn : o + n ≤ L.length * k) : w.there g o n := by
 obtain ⟨g', cap', cur, he, hb, hg, hn', hm, hs, ht⟩ := h.row (by simp [Value.ownBlock])
 simp only [Value.slice.injEq, Option.some.injEq, Addr.mk.injEq, and_true, true_and] at he
 obtain ⟨rfl, rfl⟩ := he
 have hcap : L.length * k ≤ cap * k := Nat.mul_le_mul_right _ hn'
 intro j hj
 have : o + j < cur.size := by omega
 constructor
 ·simp [World.cell?, hg, this]
 ·simp [World.frozen?, hg]
theorem OwnsR.store {P : Program} {g cap : Nat} (h : OwnsR w B E k enc (.slice (some ⟨g, 0, none⟩) L.length cap) L) (i : Nat) (cells : Array Value) (hc : cells.size = k) (hi : i < L.length) (hz : (P.info? E).map (·.size) = some k) (h1 : cells.all (·.oneCell') = true) :
  (storeVar E ⟨g, i * k, none⟩ (.agg cells)).run P w = .ok () (w.setCells g (i * k) cells.toList) :=
 run_storeVar_mid w g (i * k) E cells (h.there _ _ (by rw [hc]; have := Nat.mul_le_mul_right k (show i + 1 ≤ L.length by omega); rw [Nat.succ_mul] at this; exact this)) (by rw [hc]; exact hz) h1
theorem zeroCells_flat (hk : ∀ x, (enc x).length = k) (hpos : 0 < k) (z : α) (zc : Array Value) (hz : zc.toList = enc z) (n : Nat) : (Builtin.zeroCells zc n).toList = (List.replicate n z).flatMap enc := by
 have hs : zc.size = k := by rw [← Array.length_toList, hz, hk]
 have hlen : ((List.replicate n z).flatMap enc).length = n * k := by rw [flat_len (fun x _ => hk x), List.length_replicate]
 apply List.ext_getElem?
 intro m
 by_cases hm : m < n * k
 ·have hq : m / k < n := (Nat.div_lt_iff_lt_mul hpos).2 hm
  have hr := Nat.mod_lt m hpos
  have := flat_at hk (List.replicate n z) (m / k) z (by simp [hq]) (m % k) hr
  rw [Nat.mul_comm, Nat.div_add_mod] at this
  rw [this, ← hz]
  have hr' : m % k < zc.size := by omega
  simp [Builtin.zeroCells, hs, hm]
  rw [getElem!_pos zc _ hr', Array.getElem?_eq_getElem hr']
 ·rw [List.getElem?_eq_none (l := (Builtin.zeroCells zc n).toList) (by simp [Builtin.zeroCells, hs]; omega), List.getElem?_eq_none (by rw [hlen]; omega)]
theorem OwnsR.clear {P : Program} {g cap : Nat} {T ty : TypeId} {zv : Value} (hk : ∀ x, (enc x).length = k) (hpos : 0 < k) (h : OwnsR w B E k enc (.slice (some ⟨g, 0, none⟩) L.length cap) L) (i : Nat) (hi : i < L.length) (c : Nat)
  (ht : P.underlying T = some (.slice E)) (hv : ∀ w, (zeroValue E).run P w = .ok zv w) (z : α) (hz : zv.cells.toList = enc z) (h1 : ∀ v ∈ enc z, v.oneCell' = true) :
  (Builtin.clear_ #[T] ty #[.slice (some ⟨g, i * k, none⟩) (L.length - i) c]).run P w = .ok (.tuple #[]) (w.setCells g (i * k) ((List.replicate (L.length - i) z).flatMap enc)) := by
 have hzc := zeroCells_flat (k := k) hk hpos z zv.cells hz (L.length - i)
 have hlen : ((List.replicate (L.length - i) z).flatMap enc).length = (L.length - i) * k := by rw [flat_len (fun x _ => hk x), List.length_replicate]
 have hth := h.there (i * k) ((L.length - i) * k) (by rw [← Nat.add_mul]; exact Nat.mul_le_mul_right _ (by omega))
 have hst := run_storeCells_cells (P := P) g (i * k) ((List.replicate (L.length - i) z).flatMap enc) 0 w (fun j hj => by simpa using (hth j (by omega)).1) (fun j hj => by simpa using (hth j (by omega)).2)
  (by intro u hu; obtain ⟨y, hy, hu⟩ := List.mem_flatMap.1 hu; rw [List.eq_of_mem_replicate hy] at hu; exact h1 u hu)
 simp only [Nat.add_zero] at hst
 obtain ⟨m, hm⟩ : ∃ m, L.length - i = m + 1 := ⟨L.length - i - 1, by omega⟩
 rw [hm] at hzc hst ⊢
 simp [Builtin.clear_, run_underlying ht, hv, hzc, hst]
end
end
end Go.Proofs.YtehmlaplodjenaaGreat
