/- DERIVED. slices.IndexFunc, ContainsFunc at whatever function value that only reads. · DERIVED. event.Get. -/
import Derived.Test.YtehmlaplodjenaaGreatZTopDual02
import Derived.Deep.DeepCutAuto
import Derived.Test.YtehmlaplodjenaaGreatYpTopDual02
import Derived.Test.YtehmlaplodjenaaGreatYpTopDual03
import Derived.Test.YtehmlaplodjenaaGreatYpTopDual05
set_option maxRecDepth 100000
set_option maxHeartbeats 2000000
namespace Go.Proofs.YtehmlaplodjenaaGreat
section
open Go.RowKit
abbrev strL (s : ByteArray) : List Value := [.string s]
abbrev encV1 (x : Value) : List Value := [x]
theorem ixf_str (p : ByteArray → Bool) (fv v : Value) (l : List ByteArray) (w : World) (h : SeesR w 1 strL v l) (hf : AskF w fv (fun x => .string x) p l) :
  Calls Tryz.prog 85 #[v, fv] w fun e w' => e = .returned (.int .i64 (fIdx p l)) ∧ Old w w' := by
 obtain ⟨g, bd, lb, rfl, hent, hcall⟩ := hf
 by_cases hl : 0 < l.length
 ·obtain ⟨b, o, c, rfl, h1, h2, hcell⟩ := h.at hl
  have hm : l.length ≤ 9223372036854775807 := by unfold maxLen at h2; omega
  have HC := Lib.hid hcell
  have HK := Lib.hid hcall
  clear h1 h2 h hcell hl hcall
  go_enter Tryz.func85, Tryz.ntmps85
  go_wp2_with fail
  go_loopw [8] (fun v8 wr => ∃ k : Nat, k ≤ l.length ∧ v8 = .int .i64 k ∧ (l.take k).any p = false ∧ Old w wr) (fun v8 _ => l.length - (intOf v8).toNat)
  case atStart => exact ⟨0, by omega, rfl, by simp, Keeps.refl _ _⟩
  case round =>
   obtain ⟨k, hk, rfl, hr, hkw⟩ := hrel
   have HR := Lib.hid (And.intro hr hkw)
   clear hr
   by_cases hlt : k < l.length
   ·have hx : l[k]? = some l[k] := List.getElem?_eq_getElem hlt
    have hmem : l[k] ∈ l := List.getElem_mem hlt
    generalize l[k] = x at hx hmem
    have cell : ∀ i u, (strL x)[i]? = some u → wr.cell? ⟨b, o + k * 1 + i, none⟩ = some u := fun i u hu => hkw.cell (HC.out k x hx i u hu) (fun f => f)
    have c0 := cell 0 _ rfl
    simp only [Nat.add_zero, Nat.mul_one] at c0
    have N := HK.out x hmem wr hkw
    have HX := Lib.hid hx
    clear cell hx hkw hmem
    cases hg : p x
    ·rw [hg] at N
     have HN := Lib.hid N
     have HG := Lib.hid hg
     clear N hg
     go_wp2_with fail
     refine HN.out.mono ?_
     rintro e w1 ⟨rfl, hk1⟩
     have K1 := Lib.hid (HR.out.2.trans hk1)
     clear hk1
     go_wp2_with fail
     go_roundw
     case rel => exact ⟨k + 1, by omega, by go_num, any_take HX.out HG.out HR.out.1, K1.out⟩
     case measure => simp [intOf]; omega
    ·rw [hg] at N
     have HN := Lib.hid N
     have HG := Lib.hid hg
     clear N hg
     go_wp2_with fail
     refine HN.out.mono ?_
     rintro e w1 ⟨rfl, hk1⟩
     have K1 := Lib.hid (HR.out.2.trans hk1)
     clear hk1
     go_wp2_with fail
     go_ret
     exact ⟨by rw [fIdx_hit HX.out HG.out HR.out.1]; rfl, K1.out⟩
   ·clear hkw
    go_wp2_with fail
    go_ret
    refine ⟨?_, HR.out.2⟩
    have h0 := HR.out.1
    rw [List.take_of_length_le (by omega)] at h0
    rw [fIdx_none h0]; rfl
 ·obtain ⟨rfl, q, c, rfl⟩ := h.at0 (by omega)
  clear h hl hcall
  go_enter Tryz.func85, Tryz.ntmps85
  go_wp2_with fail
  go_loopw [8] (fun v8 wr => v8 = .int .i64 0 ∧ Old w wr) (fun _ _ => 0)
  case atStart => exact ⟨rfl, Keeps.refl _ _⟩
  case round =>
   obtain ⟨rfl, hkw⟩ := hrel
   have K1 := Lib.hid hkw
   clear hkw
   go_wp2_with fail
   go_ret
   exact ⟨rfl, K1.out⟩
theorem cff_str (p : ByteArray → Bool) (fv v : Value) (l : List ByteArray) (w : World) (h : SeesR w 1 strL v l) (hf : AskF w fv (fun x => .string x) p l) :
  Calls Tryz.prog 39 #[v, fv] w fun e w' => e = .returned (.bool (l.any p)) ∧ Old w w' := by
 have C := Lib.hid (ixf_str p fv v l w h hf)
 obtain ⟨q, c, rfl, h1, h2⟩ := h.len
 obtain ⟨g, bd, lb, rfl, hent, hcall⟩ := hf
 clear h h1 h2 hcall
 go_enter Tryz.func39, Tryz.ntmps39
 go_wp2_with fail
 refine C.out.mono ?_
 rintro e w' ⟨rfl, hk⟩
 have HI := Lib.hid (And.intro (fIdx_any p l) hk)
 clear hk
 go_wp2_with fail
 go_ret
 exact ⟨ret_bool HI.out.1, HI.out.2⟩
theorem ixf_spans (p : Value → Bool) (fv v : Value) (l : List Value) (w : World) (h : SeesR w 1 encV1 v l) (hf : AskF w fv (fun x => x) p l) :
  Calls Tryz.prog 180 #[v, fv] w fun e w' => e = .returned (.int .i64 (fIdx p l)) ∧ Old w w' := by
 obtain ⟨g, bd, lb, rfl, hent, hcall⟩ := hf
 by_cases hl : 0 < l.length
 ·obtain ⟨b, o, c, rfl, h1, h2, hcell⟩ := h.at hl
  have hm : l.length ≤ 9223372036854775807 := by unfold maxLen at h2; omega
  have HC := Lib.hid hcell
  have HK := Lib.hid hcall
  clear h1 h2 h hcell hl hcall
  go_enter Tryz.func180, Tryz.ntmps180
  go_wp2_with fail
  go_loopw [8] (fun v8 wr => ∃ k : Nat, k ≤ l.length ∧ v8 = .int .i64 k ∧ (l.take k).any p = false ∧ Old w wr) (fun v8 _ => l.length - (intOf v8).toNat)
  case atStart => exact ⟨0, by omega, rfl, by simp, Keeps.refl _ _⟩
  case round =>
   obtain ⟨k, hk, rfl, hr, hkw⟩ := hrel
   have HR := Lib.hid (And.intro hr hkw)
   clear hr
   by_cases hlt : k < l.length
   ·have hx : l[k]? = some l[k] := List.getElem?_eq_getElem hlt
    have hmem : l[k] ∈ l := List.getElem_mem hlt
    generalize l[k] = x at hx hmem
    have cell : ∀ i u, (encV1 x)[i]? = some u → wr.cell? ⟨b, o + k * 1 + i, none⟩ = some u := fun i u hu => hkw.cell (HC.out k x hx i u hu) (fun f => f)
    have c0 := cell 0 _ rfl
    simp only [Nat.add_zero, Nat.mul_one] at c0
    have N := HK.out x hmem wr hkw
    have HX := Lib.hid hx
    clear cell hx hkw hmem
    cases hg : p x
    ·rw [hg] at N
     have HN := Lib.hid N
     have HG := Lib.hid hg
     clear N hg
     go_wp2_with fail
     refine HN.out.mono ?_
     rintro e w1 ⟨rfl, hk1⟩
     have K1 := Lib.hid (HR.out.2.trans hk1)
     clear hk1
     go_wp2_with fail
     go_roundw
     case rel => exact ⟨k + 1, by omega, by go_num, any_take HX.out HG.out HR.out.1, K1.out⟩
     case measure => simp [intOf]; omega
    ·rw [hg] at N
     have HN := Lib.hid N
     have HG := Lib.hid hg
     clear N hg
     go_wp2_with fail
     refine HN.out.mono ?_
     rintro e w1 ⟨rfl, hk1⟩
     have K1 := Lib.hid (HR.out.2.trans hk1)
     clear hk1
     go_wp2_with fail
     go_ret
     exact ⟨by rw [fIdx_hit HX.out HG.out HR.out.1]; rfl, K1.out⟩
   ·clear hkw
    go_wp2_with fail
    go_ret
    refine ⟨?_, HR.out.2⟩
    have h0 := HR.out.1
    rw [List.take_of_length_le (by omega)] at h0
    rw [fIdx_none h0]; rfl
 ·obtain ⟨rfl, q, c, rfl⟩ := h.at0 (by omega)
  clear h hl hcall
  go_enter Tryz.func180, Tryz.ntmps180
  go_wp2_with fail
  go_loopw [8] (fun v8 wr => v8 = .int .i64 0 ∧ Old w wr) (fun _ _ => 0)
  case atStart => exact ⟨rfl, Keeps.refl _ _⟩
  case round =>
   obtain ⟨rfl, hkw⟩ := hrel
   have K1 := Lib.hid hkw
   clear hkw
   go_wp2_with fail
   go_ret
   exact ⟨rfl, K1.out⟩
theorem cff_spans (p : Value → Bool) (fv v : Value) (l : List Value) (w : World) (h : SeesR w 1 encV1 v l) (hf : AskF w fv (fun x => x) p l) :
  Calls Tryz.prog 139 #[v, fv] w fun e w' => e = .returned (.bool (l.any p)) ∧ Old w w' := by
 have C := Lib.hid (ixf_spans p fv v l w h hf)
 obtain ⟨q, c, rfl, h1, h2⟩ := h.len
 obtain ⟨g, bd, lb, rfl, hent, hcall⟩ := hf
 clear h h1 h2 hcall
 go_enter Tryz.func139, Tryz.ntmps139
 go_wp2_with fail
 refine C.out.mono ?_
 rintro e w' ⟨rfl, hk⟩
 have HI := Lib.hid (And.intro (fIdx_any p l) hk)
 clear hk
 go_wp2_with fail
 go_ret
 exact ⟨ret_bool HI.out.1, HI.out.2⟩
end
section
open Go.RowKit
def getV (l : List At) (name : ByteArray) : Option Val := (l.find? fun a => a.name.toList == name.toList).map (·.val)
def zeroVal : Val := ⟨0, 0, ⟨#[]⟩, false⟩
theorem fIdx_get {l : List At} {name : ByteArray} : (fIdx (fun a => a.name.toList == name.toList) l = -1 ∧ getV l name = none) ∨ ∃ (k : Nat) (x : At), l[k]? = some x ∧ fIdx (fun a => a.name.toList == name.toList) l = (k : Int) ∧ getV l name = some x.val := by
 unfold fIdx getV
 cases h : l.findIdx? (fun a => a.name.toList == name.toList) with
 | none =>
  left
  rw [List.findIdx?_eq_none_iff] at h
  refine ⟨rfl, ?_⟩
  have : l.find? (fun a => a.name.toList == name.toList) = none := by rw [List.find?_eq_none]; simpa using h
  rw [this]; rfl
 | some k =>
  right
  obtain ⟨hk, hp, hn⟩ := List.findIdx?_eq_some_iff_getElem.1 h
  refine ⟨k, l[k], List.getElem?_eq_getElem hk, rfl, ?_⟩
  have : l.find? (fun a => a.name.toList == name.toList) = some l[k] := by
   rw [List.find?_eq_some_iff_getElem]
   exact ⟨hp, k, hk, rfl, fun j hj => by have := hn j hj; simpa using this⟩
  rw [this]; rfl
theorem get1_any (nb : Nat) (name : ByteArray) (a : At) (w : World) (h : w.heap[nb]? = some (.cells #[.string name] 9 (0, 0))) :
  Calls Tryz.prog 80 #[.agg a.cells.toArray, .pointer (some ⟨nb, 0, none⟩)] w fun e w' => e = .returned (.bool (a.name.toList == name.toList)) ∧ Old w w' := by
 unfold At.cells
 have hn := (((Keeps.refl (fun _ => False) w).alloc (.cells #[.string a.name, .int .i64 a.val.kind, .int .i64 a.val.num, .string a.val.str, .bool a.val.is] 63)).block nb (lt_of_heap h) (fun f => f)).trans h
 have c := (blk1 hn).1
 have O := Lib.hid ((Keeps.refl (fun _ => False) w).alloc (.cells #[.string a.name, .int .i64 a.val.kind, .int .i64 a.val.num, .string a.val.str, .bool a.val.is] 63))
 clear h hn
 go_enter Tryz.func80, Tryz.ntmps80
 go_wp2_with fail
 go_ret
 exact ⟨rfl, O.out⟩
theorem keepV (w : World) (b o : Nat) (v : Value) : Keeps (fun k => k = b) w (w.setCell ⟨b, o, none⟩ v) := (Keeps.refl (fun k => k = b) w).setCell (p := ⟨b, o, none⟩) (fun _ => rfl) v
theorem keepV4 {a0 a1 a2 a3 : Value} (w : World) (b : Nat) : Keeps (fun k => k = b) w ((((w.setCell ⟨b, 0, none⟩ a0).setCell ⟨b, 1, none⟩ a1).setCell ⟨b, 2, none⟩ a2).setCell ⟨b, 3, none⟩ a3) := (((keepV _ _ _ _).trans (keepV _ _ _ _)).trans (keepV _ _ _ _)).trans (keepV _ _ _ _)
theorem blocks3 (w : World) (o1 o2 o3 : Obj) : (((w.alloc o1).alloc o2).alloc o3).heap[w.heap.size]? = some o1 ∧ (((w.alloc o1).alloc o2).alloc o3).heap[w.heap.size + 1]? = some o2 ∧ (((w.alloc o1).alloc o2).alloc o3).heap[w.heap.size + 1 + 1]? = some o3 := by
 refine ⟨?_, ?_, ?_⟩
 ·rw [Below.heap_alloc _ _ _ (by simp; omega), Below.heap_alloc _ _ _ (by simp)]; exact heap_alloc_new _ _
 ·rw [Below.heap_alloc _ _ _ (by simp)]; have := heap_alloc_new (w.alloc o1) o2; rwa [World.size_alloc] at this
 ·have := heap_alloc_new ((w.alloc o1).alloc o2) o3; rwa [World.size_alloc, World.size_alloc] at this
theorem get_any (key name : ByteArray) (v : Value) (l : List At) (w : World) (h : SeesA w v l) :
  Calls Tryz.prog 36 #[.agg #[.string key, v], .string name] w fun e w' => e = .returned (.tuple #[.agg ((getV l name).getD zeroVal).cells, .bool (getV l name).isSome]) ∧ Old w w' := by
 obtain ⟨p, c, rfl, h1, h2⟩ := h.len
 have hm : l.length ≤ 9223372036854775807 := by unfold maxLen at h2; omega
 obtain ⟨W0, hW0⟩ : ∃ W0, ((w.alloc (.cells #[.string key, .slice p l.length c] 33)).alloc (.cells #[.string name] 9)).alloc (.cells #[.int .i64 0, .int .i64 0, .string ⟨#[]⟩, .bool false] 61) = W0 := ⟨_, rfl⟩
 have o0 : Old w W0 := by rw [← hW0]; exact (((Keeps.refl _ _).alloc _).alloc _).alloc _
 obtain ⟨b1, b2, b3⟩ := blocks3 w (.cells #[.string key, .slice p l.length c] 33) (.cells #[.string name] 9) (.cells #[.int .i64 0, .int .i64 0, .string ⟨#[]⟩, .bool false] 61)
 rw [hW0] at b1 b2 b3
 have hs := h.old o0
 have C := Lib.hid (ixf_at (fun a => a.name.toList == name.toList) (.func (.func 80) #[] #[.pointer (some ⟨w.heap.size + 1, 0, none⟩)]) _ l W0 hs
  ⟨_, _, _, rfl, fun args W => by simp [go_sem, callFunc, Tryz.func80]; rfl, fun x _ W hW => get1_any _ name x W ((hW.block _ (lt_of_heap b2) (fun f => f)).trans b2)⟩)
 have A := Lib.hid (And.intro o0 (And.intro hs (And.intro b1 b3)))
 have g1 := (blk2 b1).1
 have HW := Lib.hid hW0
 clear o0 hs b1 b2 b3 h h1 h2 hW0
 go_enter Tryz.func36, Tryz.ntmps36
 go_upto_region 1 with fail
 rw [HW.out]
 go_wp2_with fail
 refine C.out.mono ?_
 rintro e w1 ⟨rfl, o1⟩
 have B := Lib.hid (And.intro o1 (And.intro (A.out.2.1.old o1) (And.intro ((o1.block _ (lt_of_heap A.out.2.2.1) (fun f => f)).trans A.out.2.2.1) ((o1.block _ (lt_of_heap A.out.2.2.2) (fun f => f)).trans A.out.2.2.2))))
 have f1 := (blk2 B.out.2.2.1).1
 have f3 := blk4 B.out.2.2.2
 clear o1 g1
 rcases fIdx_get (l := l) (name := name) with ⟨h1, h2⟩ | ⟨k, x, hx, h1, h2⟩
 ·rw [h1]
  have H2 := Lib.hid h2
  clear h1 h2
  go_wp2_with fail
  refine bodyPost_ret (v := .tuple #[.agg #[.int .i64 0, .int .i64 0, .string ⟨#[]⟩, .bool false], .bool false]) (by simp [results, Tryz.results36, go_sem, f3]) rfl ⟨by rw [H2.out]; rfl, (A.out.1.trans B.out.1).then (keepV4 _ _) (fun i hi e => by omega)⟩
 ·rw [h1]
  have H2 := Lib.hid h2
  clear h1 h2
  have hk := (List.getElem?_eq_some_iff.1 hx).1
  obtain ⟨b, o, c', he, _, _, hc⟩ := B.out.2.1.at (by omega)
  simp only [Value.slice.injEq, true_and] at he
  obtain ⟨rfl, rfl⟩ := he
  have x1 := hc k x hx 1 _ rfl
  have x2 := hc k x hx 2 _ rfl
  have x3 := hc k x hx 3 _ rfl
  have x4 := hc k x hx 4 _ rfl
  clear hc hx
  go_wp2_with fail
  refine bodyPost_ret (v := .tuple #[.agg #[.int .i64 x.val.kind, .int .i64 x.val.num, .string x.val.str, .bool x.val.is], .bool true]) (by simp [results, Tryz.results36, go_sem, f3]) rfl ⟨by rw [H2.out]; rfl, (A.out.1.trans B.out.1).then (keepV4 _ _) (fun i hi e => by omega)⟩
end
section
open Go.RowKit
def hasPre (s p : ByteArray) : Bool := decide (p.size ≤ s.size) && ((s.extract 0 p.size).toList == p.toList)
theorem hasprefix_any (s p : ByteArray) (w : World) : Calls Tryz.prog 71 #[.string s, .string p] w fun e w' => e = .returned (.bool (hasPre s p)) ∧ Old w w' := by
 unfold hasPre
 by_cases h : p.size ≤ s.size
 ·have d : decide ((s.size : Int) ≥ (p.size : Int)) = true := by simp; omega
  have d2 : decide (p.size ≤ s.size) = true := decide_eq_true h
  have hz : (p.size : Int) ≤ (s.size : Int) := by omega
  have D2 := Lib.hid d2
  clear d2
  go_enter Tryz.func71, Tryz.ntmps71
  go_wp2_with go_in
  go_ret
  exact ⟨by rw [D2.out]; rfl, Keeps.refl _ _⟩
 ·have d : decide ((s.size : Int) ≥ (p.size : Int)) = false := by simp; omega
  have d2 : decide (p.size ≤ s.size) = false := decide_eq_false h
  have D2 := Lib.hid d2
  clear d2
  go_enter Tryz.func71, Tryz.ntmps71
  go_wp2_with go_in
  go_ret
  exact ⟨by rw [D2.out]; rfl, Keeps.refl _ _⟩
def asksV (c : PCon) (v : Val) : Bool :=
 if c.op = 1 then true
 else if c.op = 2 then (v.kind == c.val.kind) && (valCmp v c.val == 0)
 else if c.op = 3 then (v.kind == c.val.kind) && (valCmp v c.val != 0)
 else if c.op = 4 then (v.kind == c.val.kind) && decide (valCmp v c.val < 0)
 else if c.op = 5 then (v.kind == c.val.kind) && decide (valCmp v c.val ≤ 0)
 else if c.op = 6 then (v.kind == c.val.kind) && decide (0 < valCmp v c.val)
 else if c.op = 7 then (v.kind == c.val.kind) && decide (0 ≤ valCmp v c.val)
 else if c.op = 8 then (v.kind == 2) && ((c.val.kind == 2) && hasPre v.str c.val.str)
 else if c.op = 9 then c.set.any (fun x => valCmp v x == 0)
 else false
theorem is3_any (z : Int) (w : World) : Calls Tryz.prog 125 #[.int .i64 z] w fun e w' => e = .returned (.bool (z == 0)) ∧ Old w w' := by
 go_enter Tryz.func125, Tryz.ntmps125
 go_wp2_with fail
 go_ret
 exact ⟨rfl, Keeps.refl _ _⟩
theorem is4_any (z : Int) (w : World) : Calls Tryz.prog 126 #[.int .i64 z] w fun e w' => e = .returned (.bool (z != 0)) ∧ Old w w' := by
 go_enter Tryz.func126, Tryz.ntmps126
 go_wp2_with fail
 go_ret
 exact ⟨rfl, Keeps.refl _ _⟩
theorem is5_any (z : Int) (w : World) : Calls Tryz.prog 127 #[.int .i64 z] w fun e w' => e = .returned (.bool (decide (z < 0))) ∧ Old w w' := by
 go_enter Tryz.func127, Tryz.ntmps127
 go_wp2_with fail
 go_ret
 exact ⟨rfl, Keeps.refl _ _⟩
theorem is6_any (z : Int) (w : World) : Calls Tryz.prog 128 #[.int .i64 z] w fun e w' => e = .returned (.bool (decide (z ≤ 0))) ∧ Old w w' := by
 go_enter Tryz.func128, Tryz.ntmps128
 go_wp2_with fail
 go_ret
 exact ⟨rfl, Keeps.refl _ _⟩
theorem is7_any (z : Int) (w : World) : Calls Tryz.prog 129 #[.int .i64 z] w fun e w' => e = .returned (.bool (decide (0 < z))) ∧ Old w w' := by
 go_enter Tryz.func129, Tryz.ntmps129
 go_wp2_with fail
 go_ret
 exact ⟨rfl, Keeps.refl _ _⟩
theorem is8_any (z : Int) (w : World) : Calls Tryz.prog 130 #[.int .i64 z] w fun e w' => e = .returned (.bool (decide (0 ≤ z))) ∧ Old w w' := by
 go_enter Tryz.func130, Tryz.ntmps130
 go_wp2_with fail
 go_ret
 exact ⟨rfl, Keeps.refl _ _⟩
theorem asks11_any (F : FuncId) (f : Int → Bool) (hent : ∀ args W, (callFunc F args).run Tryz.prog W = .ok (.enter F args) W) (hcall : ∀ z W, Calls Tryz.prog F #[.int .i64 z] W fun e w' => e = .returned (.bool (f z)) ∧ Old W w') (cb ib : Nat) (c : Con) (v : Val) (w : World)
  (hc : w.heap[cb]? = some (.cells c.cells.toArray 78 (0, 0))) (hi : w.heap[ib]? = some (.cells #[.func (.func F) #[] #[]] 93 (0, 0))) :
  Calls Tryz.prog 123 #[.agg v.cells, .pointer (some ⟨cb, 0, none⟩), .pointer (some ⟨ib, 0, none⟩)] w fun e w' => e = .returned (.bool ((v.kind == c.val.kind) && f (valCmp v c.val))) ∧ Old w w' := by
 have CV := Lib.hid (fun W => val_cmp_any v c.val W)
 obtain ⟨k, n, s, b⟩ := v
 obtain ⟨nm, op, ⟨ck, cn, cs, cb'⟩, sv, set⟩ := c
 unfold Val.cells at CV ⊢
 simp only [Con.cells] at hc
 simp only at CV ⊢
 obtain ⟨z, hz⟩ : ∃ z, valCmp ⟨k, n, s, b⟩ ⟨ck, cn, cs, cb'⟩ = z := ⟨_, rfl⟩
 rw [hz] at CV ⊢
 obtain ⟨W0, hW0⟩ : ∃ W0, w.alloc (.cells #[.int .i64 k, .int .i64 n, .string s, .bool b] 61) = W0 := ⟨_, rfl⟩
 have o0 : Old w W0 := by rw [← hW0]; exact (Keeps.refl _ _).alloc _
 have b0 : W0.heap[w.heap.size]? = some (.cells #[.int .i64 k, .int .i64 n, .string s, .bool b] 61 (0, 0)) := by rw [← hW0]; exact heap_alloc_new _ _
 have hc0 := (o0.block _ (lt_of_heap hc) (fun f => f)).trans hc
 have hi0 := (o0.block _ (lt_of_heap hi) (fun f => f)).trans hi
 have v0 := blk4 b0
 have i0 := blk1 hi0
 have x2 : W0.cell? ⟨cb, 2, none⟩ = some (.int .i64 ck) := by simp [World.cell?, hc0]
 have x3 : W0.cell? ⟨cb, 3, none⟩ = some (.int .i64 cn) := by simp [World.cell?, hc0]
 have x4 : W0.cell? ⟨cb, 4, none⟩ = some (.string cs) := by simp [World.cell?, hc0]
 have x5 : W0.cell? ⟨cb, 5, none⟩ = some (.bool cb') := by simp [World.cell?, hc0]
 have x2 := OldOf.cell x2
 have x3 := OldOf.cell x3
 have x4 := OldOf.cell x4
 have x5 := OldOf.cell x5
 have v1 := OldOf.cell v0.1.1
 have v2 := OldOf.cell v0.1.2.1
 have v3 := OldOf.cell v0.1.2.2.1
 have v4 := OldOf.cell v0.1.2.2.2
 have i1 := OldOf.cell i0.1
 have O := Lib.hid o0
 have HW := Lib.hid hW0
 have HC := Lib.hid hcall
 clear o0 b0 hc0 hi0 hc hi hW0 hz hcall v0 i0
 cases t1 : (k == ck)
 ·go_enter Tryz.func123, Tryz.ntmps123
  go_upto_region 1 with fail
  rw [HW.out]
  refine wp_region_quiet_old (by kernel_rfl) (by kernel_rfl) ?_
  repeat (go_big_quiet_step ((fail)))
  refine wpQuiet_nil ?_
  intro _ hpq
  obtain ⟨pq, hpq'⟩ := hpq
  subst hpq'
  go_wp2_with fail
  go_ret
  exact ⟨rfl, O.out.trans pq.old⟩
 ·go_enter Tryz.func123, Tryz.ntmps123
  go_upto_region 1 with fail
  rw [HW.out]
  refine wp_region_quiet_old (by kernel_rfl) (by kernel_rfl) ?_
  repeat (go_big_quiet_step (((first | (go_at_call 46; exact Calls.quiet_of_old (CV.out _)) | exact Calls.quiet_of_old (HC.out _ _)))))
  refine wpQuiet_nil ?_
  intro _ hpq
  obtain ⟨pq, hpq'⟩ := hpq
  subst hpq'
  go_wp2_with fail
  go_ret
  exact ⟨rfl, O.out.trans pq.old⟩
theorem asks1_any (cb : Nat) (F : FuncId) (w : World) : Calls Tryz.prog 122 #[.func (.func F) #[] #[], .pointer (some ⟨cb, 0, none⟩)] w fun e w' => e = .returned (.func (.func 123) #[] #[.pointer (some ⟨cb, 0, none⟩), .pointer (some ⟨w.heap.size, 0, none⟩)]) ∧ w'.heap[w.heap.size]? = some (.cells #[.func (.func F) #[] #[]] 93 (0, 0)) ∧ Old w w' := by
 have O := Lib.hid (And.intro (heap_alloc_new w (.cells #[.func (.func F) #[] #[]] 93)) ((Keeps.refl (fun _ => False) w).alloc (.cells #[.func (.func F) #[] #[]] 93)))
 go_enter Tryz.func122, Tryz.ntmps122
 go_wp2_with fail
 go_ret
 exact ⟨rfl, O.out⟩
theorem asks2_any (v : Val) (w : World) : Calls Tryz.prog 124 #[.agg v.cells] w fun e w' => e = .returned (.bool true) ∧ Old w w' := by
 unfold Val.cells
 go_enter Tryz.func124, Tryz.ntmps124
 go_wp2_with fail
 go_ret
 exact ⟨rfl, (Keeps.refl _ _).alloc _⟩
theorem asks0_any (v : Val) (w : World) : Calls Tryz.prog 134 #[.agg v.cells] w fun e w' => e = .returned (.bool false) ∧ Old w w' := by
 unfold Val.cells
 go_enter Tryz.func134, Tryz.ntmps134
 go_wp2_with fail
 go_ret
 exact ⟨rfl, (Keeps.refl _ _).alloc _⟩
theorem asks9_any (cb : Nat) (c : Con) (v : Val) (w : World) (hc : w.heap[cb]? = some (.cells c.cells.toArray 78 (0, 0))) :
  Calls Tryz.prog 131 #[.agg v.cells, .pointer (some ⟨cb, 0, none⟩)] w fun e w' => e = .returned (.bool ((v.kind == 2) && ((c.val.kind == 2) && hasPre v.str c.val.str))) ∧ Old w w' := by
 have CP := Lib.hid (fun W => hasprefix_any v.str c.val.str W)
 obtain ⟨k, n, s, b⟩ := v
 obtain ⟨nm, op, ⟨ck, cn, cs, cb'⟩, sv, set⟩ := c
 unfold Val.cells
 simp only [Con.cells] at hc
 simp only at CP ⊢
 obtain ⟨z, hz⟩ : ∃ z, hasPre s cs = z := ⟨_, rfl⟩
 rw [hz] at CP ⊢
 obtain ⟨W0, hW0⟩ : ∃ W0, w.alloc (.cells #[.int .i64 k, .int .i64 n, .string s, .bool b] 61) = W0 := ⟨_, rfl⟩
 have o0 : Old w W0 := by rw [← hW0]; exact (Keeps.refl _ _).alloc _
 have b0 : W0.heap[w.heap.size]? = some (.cells #[.int .i64 k, .int .i64 n, .string s, .bool b] 61 (0, 0)) := by rw [← hW0]; exact heap_alloc_new _ _
 have hc0 := (o0.block _ (lt_of_heap hc) (fun f => f)).trans hc
 have v0 := blk4 b0
 have x2 : W0.cell? ⟨cb, 2, none⟩ = some (.int .i64 ck) := by simp [World.cell?, hc0]
 have x4 : W0.cell? ⟨cb, 4, none⟩ = some (.string cs) := by simp [World.cell?, hc0]
 have O := Lib.hid o0
 have HW := Lib.hid hW0
 clear o0 b0 hc0 hc hW0 hz
 cases t1 : (k == 2)
 ·go_enter Tryz.func131, Tryz.ntmps131
  go_upto_region 1 with fail
  rw [HW.out]
  go_wp2_with fail
  go_ret
  exact ⟨rfl, O.out⟩
 ·cases t2 : (ck == 2)
  ·go_enter Tryz.func131, Tryz.ntmps131
   go_upto_region 1 with fail
   rw [HW.out]
   go_wp2_with fail
   go_ret
   exact ⟨rfl, O.out⟩
  ·go_enter Tryz.func131, Tryz.ntmps131
   go_upto_region 1 with fail
   rw [HW.out]
   go_wp2_with fail
   refine (CP.out _).mono ?_
   rintro e w1 ⟨rfl, o1⟩
   have O1 := Lib.hid (O.out.trans o1)
   clear o1
   go_wp2_with fail
   go_ret
   exact ⟨rfl, O1.out⟩
theorem asks101_any (vb : Nat) (v x : Val) (w : World) (hv : w.heap[vb]? = some (.cells v.cells 61 (0, 0))) :
  Calls Tryz.prog 133 #[.agg x.cells, .pointer (some ⟨vb, 0, none⟩)] w fun e w' => e = .returned (.bool (valCmp v x == 0)) ∧ Old w w' := by
 have CV := Lib.hid (fun W => val_cmp_any v x W)
 obtain ⟨k, n, s, b⟩ := x
 obtain ⟨ck, cn, cs, cb'⟩ := v
 unfold Val.cells at CV hv ⊢
 simp only at CV hv ⊢
 obtain ⟨z, hz⟩ : ∃ z, valCmp ⟨ck, cn, cs, cb'⟩ ⟨k, n, s, b⟩ = z := ⟨_, rfl⟩
 rw [hz] at CV ⊢
 obtain ⟨W0, hW0⟩ : ∃ W0, w.alloc (.cells #[.int .i64 k, .int .i64 n, .string s, .bool b] 61) = W0 := ⟨_, rfl⟩
 have o0 : Old w W0 := by rw [← hW0]; exact (Keeps.refl _ _).alloc _
 have b0 : W0.heap[w.heap.size]? = some (.cells #[.int .i64 k, .int .i64 n, .string s, .bool b] 61 (0, 0)) := by rw [← hW0]; exact heap_alloc_new _ _
 have hc0 := (o0.block _ (lt_of_heap hv) (fun f => f)).trans hv
 have v0 := blk4 b0
 have c0 := blk4 hc0
 have O := Lib.hid o0
 have HW := Lib.hid hW0
 clear o0 b0 hc0 hv hW0 hz
 go_enter Tryz.func133, Tryz.ntmps133
 go_upto_region 1 with fail
 rw [HW.out]
 go_wp2_with fail
 refine (CV.out _).mono ?_
 rintro e w1 ⟨rfl, o1⟩
 have O1 := Lib.hid (O.out.trans o1)
 clear o1
 go_wp2_with fail
 go_ret
 exact ⟨rfl, O1.out⟩
theorem asks10_any (cb : Nat) (c : Con) (v : Val) (w : World) (hc : w.heap[cb]? = some (.cells c.cells.toArray 78 (0, 0))) (hs : SeesV w c.sv c.set) :
  Calls Tryz.prog 132 #[.agg v.cells, .pointer (some ⟨cb, 0, none⟩)] w fun e w' => e = .returned (.bool (c.set.any (fun x => valCmp v x == 0))) ∧ Old w w' := by
 obtain ⟨k, n, s, b⟩ := v
 obtain ⟨nm, op, ⟨ck, cn, cs, cb'⟩, sv, set⟩ := c
 obtain ⟨p, cc, e9, _, _⟩ := hs.len
 simp only at e9 hs ⊢
 subst e9
 simp only [Con.cells] at hc
 obtain ⟨W0, hW0⟩ : ∃ W0, w.alloc (.cells #[.int .i64 k, .int .i64 n, .string s, .bool b] 61) = W0 := ⟨_, rfl⟩
 have o0 : Old w W0 := by rw [← hW0]; exact (Keeps.refl _ _).alloc _
 have b0 : W0.heap[w.heap.size]? = some (.cells (⟨k, n, s, b⟩ : Val).cells 61 (0, 0)) := by rw [← hW0]; exact heap_alloc_new _ _
 have hc0 := (o0.block _ (lt_of_heap hc) (fun f => f)).trans hc
 have x6 : W0.cell? ⟨cb, 6, none⟩ = some (.slice p set.length cc) := by simp [World.cell?, hc0]
 have C := Lib.hid (cff_val (fun x => valCmp ⟨k, n, s, b⟩ x == 0) (.func (.func 133) #[] #[.pointer (some ⟨w.heap.size, 0, none⟩)]) _ set W0 (hs.old o0)
  ⟨_, _, _, rfl, fun args W => by simp [go_sem, callFunc, Tryz.func133]; rfl, fun x _ W hW => asks101_any _ _ x W ((hW.block _ (lt_of_heap b0) (fun f => f)).trans b0)⟩)
 have O := Lib.hid o0
 have HW := Lib.hid hW0
 unfold Val.cells
 simp only
 clear o0 b0 hc0 hc hW0 hs
 go_enter Tryz.func132, Tryz.ntmps132
 go_upto_region 1 with fail
 rw [HW.out]
 go_wp2_with fail
 refine C.out.mono ?_
 rintro e w1 ⟨rfl, o1⟩
 have O1 := Lib.hid (O.out.trans o1)
 clear o1
 go_wp2_with fail
 go_ret
 exact ⟨rfl, O1.out⟩
end
section
open Go.RowKit
abbrev valArg (v : Val) : Value := .agg (valL v).toArray
theorem asks_any (c : Con) (w : World) (hs : SeesV w c.sv c.set) :
  Calls Tryz.prog 75 #[.agg c.cells.toArray] w fun e w' => ∃ fv, e = .returned fv ∧ (∀ v : Val, AskF w' fv valArg (asksV c.plain) [v]) ∧ Old w w' := by
 have S := Lib.hid hs
 obtain ⟨nm, op, ⟨ck, cn, cs, cb'⟩, sv, set⟩ := c
 obtain ⟨p, cc, e9, _, _⟩ := hs.len
 simp only at e9 hs S ⊢
 subst e9
 obtain ⟨W0, hW0⟩ : ∃ W0, w.alloc (.cells #[.string nm, .int .i64 op, .int .i64 ck, .int .i64 cn, .string cs, .bool cb', .slice p set.length cc] 78) = W0 := ⟨_, rfl⟩
 have o0 : Old w W0 := by rw [← hW0]; exact (Keeps.refl _ _).alloc _
 have b0 : W0.heap[w.heap.size]? = some (.cells (Con.cells ⟨nm, op, ⟨ck, cn, cs, cb'⟩, .slice p set.length cc, set⟩).toArray 78 (0, 0)) := by rw [← hW0]; exact heap_alloc_new _ _
 have x1 : W0.cell? ⟨w.heap.size, 1, none⟩ = some (.int .i64 op) := by simp [World.cell?, b0, Con.cells]
 have A := Lib.hid (And.intro o0 b0)
 have HW := Lib.hid hW0
 clear o0 b0 hW0 hs
 unfold Con.cells
 simp only
 have hop : ∀ v, asksV (Con.plain ⟨nm, op, ⟨ck, cn, cs, cb'⟩, .slice p set.length cc, set⟩) v = asksV ⟨nm, op, ⟨ck, cn, cs, cb'⟩, set⟩ v := fun _ => rfl
 clear hop
 by_cases h1 : op = 1
 ·subst h1
  go_enter Tryz.func75, Tryz.ntmps75
  go_upto_region 1 with fail
  rw [HW.out]
  go_wp2_with fail
  go_ret
  exact ⟨_, rfl, fun v => ⟨_, #[], #[], rfl, fun args W => by simp [go_sem, callFunc, Tryz.func124]; rfl, fun y _ W _ => asks2_any y W⟩, A.out.1⟩
 have t1 : (op == 1) = false := by simp; omega
 by_cases h2 : op = 2
 ·subst h2
  go_enter Tryz.func75, Tryz.ntmps75
  go_upto_region 1 with fail
  rw [HW.out]
  go_wp2_with fail
  refine (asks1_any _ _ _).mono ?_
  rintro e w1 ⟨rfl, hb1, o1⟩
  have B := Lib.hid (And.intro hb1 o1)
  clear hb1 o1
  go_wp2_with fail
  go_ret
  exact ⟨_, rfl, fun v => ⟨_, #[], _, rfl, fun args W => by simp [go_sem, callFunc, Tryz.func123]; rfl, fun y _ W hW => asks11_any 125 _ (fun args W => by simp [go_sem, callFunc, Tryz.func125]; rfl) is3_any _ _ _ y W ((hW.block _ (Nat.lt_of_lt_of_le (lt_of_heap A.out.2) B.out.2.size) (fun f => f)).trans ((B.out.2.block _ (lt_of_heap A.out.2) (fun f => f)).trans A.out.2)) ((hW.block _ (lt_of_heap B.out.1) (fun f => f)).trans B.out.1)⟩, A.out.1.trans B.out.2⟩
 have t2 : (op == 2) = false := by simp; omega
 by_cases h3 : op = 3
 ·subst h3
  go_enter Tryz.func75, Tryz.ntmps75
  go_upto_region 1 with fail
  rw [HW.out]
  go_wp2_with fail
  refine (asks1_any _ _ _).mono ?_
  rintro e w1 ⟨rfl, hb1, o1⟩
  have B := Lib.hid (And.intro hb1 o1)
  clear hb1 o1
  go_wp2_with fail
  go_ret
  exact ⟨_, rfl, fun v => ⟨_, #[], _, rfl, fun args W => by simp [go_sem, callFunc, Tryz.func123]; rfl, fun y _ W hW => asks11_any 126 _ (fun args W => by simp [go_sem, callFunc, Tryz.func126]; rfl) is4_any _ _ _ y W ((hW.block _ (Nat.lt_of_lt_of_le (lt_of_heap A.out.2) B.out.2.size) (fun f => f)).trans ((B.out.2.block _ (lt_of_heap A.out.2) (fun f => f)).trans A.out.2)) ((hW.block _ (lt_of_heap B.out.1) (fun f => f)).trans B.out.1)⟩, A.out.1.trans B.out.2⟩
 have t3 : (op == 3) = false := by simp; omega
 by_cases h4 : op = 4
 ·subst h4
  go_enter Tryz.func75, Tryz.ntmps75
  go_upto_region 1 with fail
  rw [HW.out]
  go_wp2_with fail
  refine (asks1_any _ _ _).mono ?_
  rintro e w1 ⟨rfl, hb1, o1⟩
  have B := Lib.hid (And.intro hb1 o1)
  clear hb1 o1
  go_wp2_with fail
  go_ret
  exact ⟨_, rfl, fun v => ⟨_, #[], _, rfl, fun args W => by simp [go_sem, callFunc, Tryz.func123]; rfl, fun y _ W hW => asks11_any 127 _ (fun args W => by simp [go_sem, callFunc, Tryz.func127]; rfl) is5_any _ _ _ y W ((hW.block _ (Nat.lt_of_lt_of_le (lt_of_heap A.out.2) B.out.2.size) (fun f => f)).trans ((B.out.2.block _ (lt_of_heap A.out.2) (fun f => f)).trans A.out.2)) ((hW.block _ (lt_of_heap B.out.1) (fun f => f)).trans B.out.1)⟩, A.out.1.trans B.out.2⟩
 have t4 : (op == 4) = false := by simp; omega
 by_cases h5 : op = 5
 ·subst h5
  go_enter Tryz.func75, Tryz.ntmps75
  go_upto_region 1 with fail
  rw [HW.out]
  go_wp2_with fail
  refine (asks1_any _ _ _).mono ?_
  rintro e w1 ⟨rfl, hb1, o1⟩
  have B := Lib.hid (And.intro hb1 o1)
  clear hb1 o1
  go_wp2_with fail
  go_ret
  exact ⟨_, rfl, fun v => ⟨_, #[], _, rfl, fun args W => by simp [go_sem, callFunc, Tryz.func123]; rfl, fun y _ W hW => asks11_any 128 _ (fun args W => by simp [go_sem, callFunc, Tryz.func128]; rfl) is6_any _ _ _ y W ((hW.block _ (Nat.lt_of_lt_of_le (lt_of_heap A.out.2) B.out.2.size) (fun f => f)).trans ((B.out.2.block _ (lt_of_heap A.out.2) (fun f => f)).trans A.out.2)) ((hW.block _ (lt_of_heap B.out.1) (fun f => f)).trans B.out.1)⟩, A.out.1.trans B.out.2⟩
 have t5 : (op == 5) = false := by simp; omega
 by_cases h6 : op = 6
 ·subst h6
  go_enter Tryz.func75, Tryz.ntmps75
  go_upto_region 1 with fail
  rw [HW.out]
  go_wp2_with fail
  refine (asks1_any _ _ _).mono ?_
  rintro e w1 ⟨rfl, hb1, o1⟩
  have B := Lib.hid (And.intro hb1 o1)
  clear hb1 o1
  go_wp2_with fail
  go_ret
  exact ⟨_, rfl, fun v => ⟨_, #[], _, rfl, fun args W => by simp [go_sem, callFunc, Tryz.func123]; rfl, fun y _ W hW => asks11_any 129 _ (fun args W => by simp [go_sem, callFunc, Tryz.func129]; rfl) is7_any _ _ _ y W ((hW.block _ (Nat.lt_of_lt_of_le (lt_of_heap A.out.2) B.out.2.size) (fun f => f)).trans ((B.out.2.block _ (lt_of_heap A.out.2) (fun f => f)).trans A.out.2)) ((hW.block _ (lt_of_heap B.out.1) (fun f => f)).trans B.out.1)⟩, A.out.1.trans B.out.2⟩
 have t6 : (op == 6) = false := by simp; omega
 by_cases h7 : op = 7
 ·subst h7
  go_enter Tryz.func75, Tryz.ntmps75
  go_upto_region 1 with fail
  rw [HW.out]
  go_wp2_with fail
  refine (asks1_any _ _ _).mono ?_
  rintro e w1 ⟨rfl, hb1, o1⟩
  have B := Lib.hid (And.intro hb1 o1)
  clear hb1 o1
  go_wp2_with fail
  go_ret
  exact ⟨_, rfl, fun v => ⟨_, #[], _, rfl, fun args W => by simp [go_sem, callFunc, Tryz.func123]; rfl, fun y _ W hW => asks11_any 130 _ (fun args W => by simp [go_sem, callFunc, Tryz.func130]; rfl) is8_any _ _ _ y W ((hW.block _ (Nat.lt_of_lt_of_le (lt_of_heap A.out.2) B.out.2.size) (fun f => f)).trans ((B.out.2.block _ (lt_of_heap A.out.2) (fun f => f)).trans A.out.2)) ((hW.block _ (lt_of_heap B.out.1) (fun f => f)).trans B.out.1)⟩, A.out.1.trans B.out.2⟩
 have t7 : (op == 7) = false := by simp; omega
 by_cases h8 : op = 8
 ·subst h8
  go_enter Tryz.func75, Tryz.ntmps75
  go_upto_region 1 with fail
  rw [HW.out]
  go_wp2_with fail
  go_ret
  exact ⟨_, rfl, fun v => ⟨_, #[], _, rfl, fun args W => by simp [go_sem, callFunc, Tryz.func131]; rfl, fun y _ W hW => asks9_any _ _ y W ((hW.block _ (lt_of_heap A.out.2) (fun f => f)).trans A.out.2)⟩, A.out.1⟩
 have t8 : (op == 8) = false := by simp; omega
 by_cases h9 : op = 9
 ·subst h9
  go_enter Tryz.func75, Tryz.ntmps75
  go_upto_region 1 with fail
  rw [HW.out]
  go_wp2_with fail
  go_ret
  exact ⟨_, rfl, fun v => ⟨_, #[], _, rfl, fun args W => by simp [go_sem, callFunc, Tryz.func132]; rfl, fun y _ W hW => asks10_any _ _ y W ((hW.block _ (lt_of_heap A.out.2) (fun f => f)).trans A.out.2) (S.out.old (A.out.1.trans hW))⟩, A.out.1⟩
 have t9 : (op == 9) = false := by simp; omega
 go_enter Tryz.func75, Tryz.ntmps75
 go_upto_region 1 with fail
 rw [HW.out]
 go_wp2_with fail
 go_ret
 refine ⟨_, rfl, fun v => ⟨_, #[], #[], rfl, fun args W => by simp [go_sem, callFunc, Tryz.func134]; rfl, fun y _ W _ => ?_⟩, A.out.1⟩
 have e0 : asksV (Con.plain ⟨nm, op, ⟨ck, cn, cs, cb'⟩, .slice p set.length cc, set⟩) y = false := by simp [asksV, Con.plain, h1, h2, h3, h4, h5, h6, h7, h8, h9]
 rw [e0]
 exact asks0_any y W
end
end Go.Proofs.YtehmlaplodjenaaGreat
