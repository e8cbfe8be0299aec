/- DERIVED. Chapter 21, the document's Take. (gen_dt.py wrote it) -/
import Derived.Test.YtpjpimahnnekkaaGreatZMsgForms04
import Derived.Test.YtpjpimahnnekkaaGreatZMsgForms02
import Derived.Test.YtpjpimahnnekkaaGreatZMsgForms05
import Derived.Test.YtpjpimahnnekkaaGreatZMsgForms06
import Derived.Test.YtpjpimahnnekkaaGreatZMsgForms07
import Derived.Test.YtpjpimahnnekkaaGreatYpMsgForms36
set_option maxRecDepth 100000
set_option maxHeartbeats 8000000
namespace Go.Proofs.YtpjpimahnnekkaaGreat
section
open Go.RowKit Go.Great
attribute [-go_sem] loadVar storeVar
theorem store_pubR {w : World} {mb : Nat} {m : Ms} (h : RAt w mb m) (n : Int) : ∃ w', (storeVar 3 ⟨mb, 1, none⟩ (.int .i64 n)).run Tryz.prog w = .ok () w' ∧ RAt w' mb { m with pub := n } ∧ Keeps (fun k => k = mb) w w' :=
 store_cell h _ rfl (by simp [Ms.cells]) (by kernel_rfl) (by simp [Value.oneCell']) (by simp [Ms.cells])
theorem store_verR {w : World} {mb : Nat} {m : Ms} (h : RAt w mb m) (n : Nat) : ∃ w', (storeVar 22 ⟨mb, 2, none⟩ (.int .u64 n)).run Tryz.prog w = .ok () w' ∧ RAt w' mb { m with ver := n } ∧ Keeps (fun k => k = mb) w w' :=
 store_cell h _ rfl (by simp [Ms.cells]) (by kernel_rfl) (by simp [Value.oneCell']) (by simp [Ms.cells])
theorem store_thereR {w : World} {mb : Nat} {m : Ms} (h : RAt w mb m) (n : Bool) : ∃ w', (storeVar 4 ⟨mb, 3, none⟩ (.bool n)).run Tryz.prog w = .ok () w' ∧ RAt w' mb { m with there := n } ∧ Keeps (fun k => k = mb) w w' :=
 store_cell h _ rfl (by simp [Ms.cells]) (by kernel_rfl) (by simp [Value.oneCell']) (by simp [Ms.cells])
theorem store_predR {w : World} {mb : Nat} {m : Ms} (h : RAt w mb m) (p : Option Addr) (n c : Nat) (cs : List Con) : ∃ w', (storeVar 24 ⟨mb, 4, none⟩ (.slice p n c)).run Tryz.prog w = .ok () w' ∧ RAt w' mb { m with pv := .slice p n c, ps := cs } ∧ Keeps (fun k => k = mb) w w' :=
 store_cell h _ rfl (by simp [Ms.cells]) (by kernel_rfl) (by simp [Value.oneCell']) (by simp [Ms.cells])
theorem store_lifeR {w : World} {mb : Nat} {m : Ms} (h : RAt w mb m) (n : Nat) : ∃ w', (storeVar 22 ⟨mb, 10, none⟩ (.int .u64 n)).run Tryz.prog w = .ok () w' ∧ RAt w' mb { m with tl := n } ∧ Keeps (fun k => k = mb) w w' :=
 store_cell h _ rfl (by simp [Ms.cells]) (by kernel_rfl) (by simp [Value.oneCell']) (by simp [Ms.cells])
theorem store_countR {w : World} {mb : Nat} {m : Ms} (h : RAt w mb m) (n : Nat) : ∃ w', (storeVar 22 ⟨mb, 11, none⟩ (.int .u64 n)).run Tryz.prog w = .ok () w' ∧ RAt w' mb { m with tc := n } ∧ Keeps (fun k => k = mb) w w' :=
 store_cell h _ rfl (by simp [Ms.cells]) (by kernel_rfl) (by simp [Value.oneCell']) (by simp [Ms.cells])
theorem store_fromR {w : World} {mb : Nat} {m : Ms} (h : RAt w mb m) (n : Nat) : ∃ w', (storeVar 22 ⟨mb, 12, none⟩ (.int .u64 n)).run Tryz.prog w = .ok () w' ∧ RAt w' mb { m with frm := n } ∧ Keeps (fun k => k = mb) w w' :=
 store_cell h _ rfl (by simp [Ms.cells]) (by kernel_rfl) (by simp [Value.oneCell']) (by simp [Ms.cells])
theorem store_itemR {w : World} {mb : Nat} {m : Ms} (h : RAt w mb m) (n tm : Nat) (key : ByteArray) (p : Option Addr) (l c : Nat) (es : List At) : ∃ w', (storeVar 29 ⟨mb, 5, none⟩ (.agg #[.int .u64 n, .int .u64 tm, .string key, .slice p l c])).run Tryz.prog w = .ok () w' ∧ RAt w' mb { m with it := ⟨n, tm, key, .slice p l c, es⟩ } ∧ Keeps (fun k => k = mb) w w' :=
 store_cells h _ (by simp [Ms.cells]) (by kernel_rfl) (by simp [Value.oneCell']) (by simp [Ms.cells, putRange])
theorem store_pageR {w : World} {mb : Nat} {m : Ms} (h : RAt w mb m) (fr en : Nat) (p : Option Addr) (l c : Nat) (its : List It) (q : Option Addr) (f g : Nat) (gs : List PGap) (last : Bool) : ∃ w', (storeVar 35 ⟨mb, 13, none⟩ (.agg #[.int .u64 fr, .int .u64 en, .slice p l c, .slice q f g, .bool last])).run Tryz.prog w = .ok () w' ∧ RAt w' mb { m with pg := ⟨fr, en, .slice p l c, its, .slice q f g, gs, last⟩ } ∧ Keeps (fun k => k = mb) w w' :=
 store_cells h _ (by simp [Ms.cells]) (by kernel_rfl) (by simp [Value.oneCell']) (by simp [Ms.cells, putRange])
theorem store_tbR {w : World} {mb : Nat} {m : Ms} (h : RAt w mb m) (n : Int) : ∃ w', (storeVar 3 ⟨mb, 9, none⟩ (.int .i64 n)).run Tryz.prog w = .ok () w' ∧ RAt w' mb { m with tb := n } ∧ Keeps (fun k => k = mb) w w' :=
 store_cell h _ rfl (by simp [Ms.cells]) (by kernel_rfl) (by simp [Value.oneCell']) (by simp [Ms.cells])
theorem Rx.lt {w : World} {rp : Nat} {st : Option (List UInt8)} (h : Rx w rp st) : rp < w.heap.size := by
 cases st with
 | none => obtain ⟨_, _, _, hb⟩ := h; exact lt_of_heap hb
 | some l => obtain ⟨_, hb, _⟩ := h; exact lt_of_heap hb
theorem Rx.keep {S : Nat → Prop} {w w' : World} {rp : Nat} {st : Option (List UInt8)} (h : Rx w rp st) (hk : Keeps S w w') (hS : ∀ k, k ≤ rp → ¬ S k) : Rx w' rp st := by
 have hlt := h.lt
 cases st with
 | none =>
  obtain ⟨p, n, c, hb⟩ := h
  exact ⟨p, n, c, (hk.block rp hlt (hS rp (Nat.le_refl _))).trans hb⟩
 | some l =>
  obtain ⟨v, hb, hs, hne⟩ := h
  refine ⟨v, (hk.block rp hlt (hS rp (Nat.le_refl _))).trans hb, ?_, hne⟩
  cases l with
  | nil => exact hs.empty
  | cons x r => exact hs.keeps hk (fun b hb' => hS b (Nat.le_of_lt (hne (by simp) b hb')))
theorem Rx.new {w : World} {v : Value} {l : List UInt8} (h : Sees w v l) : Rx (w.alloc (.cells #[v, .bool false] 103)) w.heap.size (some l) := by
 refine ⟨v, heap_alloc_new _ _, h.alloc _, fun h0 k hk => ?_⟩
 obtain ⟨b, o, c, rfl, _, _, hc⟩ := h.at h0
 simp only [Value.ownBlock, Option.some.injEq] at hk
 subst hk
 obtain ⟨x, hx⟩ : ∃ x, l[0]? = some x := ⟨_, List.getElem?_eq_getElem h0⟩
 exact World.block_lt_of_cell? _ _ (hc 0 x hx)
def TkS (w : World) (mb : Nat) (st : Option (List UInt8)) (m : Ms) (W : World) : Prop :=
 Rx W (w.heap.size + 1) st ∧ RAt W mb m ∧ RAt W w.heap.size zeroMs ∧ Old w W ∧ MsO W (mb + 1) m ∧ w.heap.size + 1 < mb
theorem TkS.num {w W W' : World} {mb : Nat} {st st' : Option (List UInt8)} {m : Ms} (h : TkS w mb st m W) (hr : Rx W' (w.heap.size + 1) st') (hk : Keeps (fun k => k = w.heap.size + 1) W W') : TkS w mb st' m W' :=
 have hz := h.2.2.2.2.2
 ⟨hr, (hk.block mb (lt_of_heap h.2.1) (by omega)).trans h.2.1, (hk.block _ (lt_of_heap h.2.2.1) (by omega)).trans h.2.2.1, h.2.2.2.1.then hk (fun i hi e => by omega), h.2.2.2.2.1.keeps hk (fun b hb _ e => by omega), hz⟩
theorem TkS.put {w W W' : World} {mb : Nat} {st : Option (List UInt8)} {m m' : Ms} (h : TkS w mb st m W) (hb : RAt W' mb m') (hk : Keeps (fun k => k = mb) W W') (hm : MsO W (mb + 1) m') : TkS w mb st m' W' :=
 have hz := h.2.2.2.2.2
 ⟨h.1.keep hk (fun k hk' e => by omega), hb, (hk.block _ (lt_of_heap h.2.2.1) (by omega)).trans h.2.2.1, h.2.2.2.1.then hk (fun i hi e => by omega), hm.keeps hk (fun b hb _ e => by omega), hz⟩
theorem TkS.old {w W W' : World} {mb : Nat} {st : Option (List UInt8)} {m : Ms} (h : TkS w mb st m W) (hk : Old W W') : TkS w mb st m W' :=
 ⟨h.1.keep hk (fun _ _ f => f), (hk.block mb (lt_of_heap h.2.1) (fun f => f)).trans h.2.1, (hk.block _ (lt_of_heap h.2.2.1) (fun f => f)).trans h.2.2.1, h.2.2.2.1.trans hk, h.2.2.2.2.1.old hk, h.2.2.2.2.2⟩
theorem TkS.no {w W : World} {mb : Nat} {st : Option (List UInt8)} {m : Ms} {b : List UInt8} (h : TkS w mb st m W) (hno : takeM b = none) : ∃ W', (storeVar 37 ⟨w.heap.size, 0, none⟩ (.agg #[.int .i64 0, .int .i64 0, .int .u64 0, .bool false, .slice none 0 0, .int .u64 0, .int .u64 0, .string ⟨#[]⟩, .slice none 0 0, .int .i64 0, .int .u64 0, .int .u64 0, .int .u64 0, .int .u64 0, .int .u64 0, .slice none 0 0, .slice none 0 0, .bool false])).run Tryz.prog W = .ok () W' ∧ (loadVar 37 ⟨w.heap.size, 0, none⟩).run Tryz.prog W' = .ok (.agg #[.int .i64 0, .int .i64 0, .int .u64 0, .bool false, .slice none 0 0, .int .u64 0, .int .u64 0, .string ⟨#[]⟩, .slice none 0 0, .int .i64 0, .int .u64 0, .int .u64 0, .int .u64 0, .int .u64 0, .int .u64 0, .slice none 0 0, .slice none 0 0, .bool false]) W' ∧ Hid (TakM b w (.returned (.tuple #[.agg #[.int .i64 0, .int .i64 0, .int .u64 0, .bool false, .slice none 0 0, .int .u64 0, .int .u64 0, .string ⟨#[]⟩, .slice none 0 0, .int .i64 0, .int .u64 0, .int .u64 0, .int .u64 0, .int .u64 0, .int .u64 0, .slice none 0 0, .slice none 0 0, .bool false], .int .i64 5])) W') := by
 obtain ⟨W', hst, hb, hk⟩ := store_msgR h.2.2.1 zeroMs (by simp [Ms.cells, zeroMs, Value.oneCell'])
 refine ⟨W', hst, load_whole hb (by simp) Tryz.underlying37 (by kernel_rfl), Lib.hid ?_⟩
 exact ⟨zeroMs, 5, rfl, h.2.2.2.1.then hk (fun i hi e => by omega), MsO.zero _ _, Or.inr ⟨hno, rfl, rfl⟩⟩
theorem TkS.yes {w W : World} {mb : Nat} {st : Option (List UInt8)} {m : Ms} {b : List UInt8} (h : TkS w mb st m W) (hy : takeM b = some m.plain) : ∃ W', (storeVar 37 ⟨w.heap.size, 0, none⟩ (.agg m.cells.toArray)).run Tryz.prog W = .ok () W' ∧ (loadVar 37 ⟨w.heap.size, 0, none⟩).run Tryz.prog W' = .ok (.agg m.cells.toArray) W' ∧ TakM b w (.returned (.tuple #[.agg m.cells.toArray, .int .i64 0])) W' := by
 obtain ⟨W', hst, hb, hk⟩ := store_msgR h.2.2.1 m h.2.2.2.2.1.one
 have hz := h.2.2.2.2.2
 exact ⟨W', hst, load_whole hb (by simp [Ms.cells]) Tryz.underlying37 (by kernel_rfl), m, 0, rfl, h.2.2.2.1.then hk (fun i hi e => by omega), (h.2.2.2.2.1.keeps hk (fun b hb _ e => by omega)).mono (by omega), Or.inl ⟨hy, rfl⟩⟩
theorem TkS.law {w W : World} {mb : Nat} {st : Option (List UInt8)} {m : Ms} {b : List UInt8} {z : Int} (_h : TkS w mb st m W) (L : Law b st m.plain z) : Law b st m.plain z := L
theorem TkS.may {w W : World} {mb : Nat} {st : Option (List UInt8)} {m : Ms} (h : TkS w mb st m W) : ∃ my, mayM m.plain = my ∧ Calls Tryz.prog 16 #[.agg m.cells.toArray] W fun e w' => e = .returned (.bool my) ∧ Old W w' := ⟨_, rfl, ref21_may_any m W h.2.2.2.2.1.fine⟩
theorem i64_wrap (n : Int) : I64 (IntKind.i64.wrap n) := by
 unfold I64
 rw [IntKind.wrap_i64]
 omega
theorem ref21_take_any (v : Value) (b : List UInt8) (w : World) (h : Sees w v b) : Calls Tryz.prog 12 #[v] w (TakM b w) := by
 obtain ⟨pv, cv, rfl, _, _⟩ := h.len
 obtain ⟨W0, hW0⟩ : ∃ W0, w.alloc (.cells zeroMs.cells.toArray 37) = W0 := ⟨_, rfl⟩
 have k0 : Old w W0 := by rw [← hW0]; exact (Keeps.refl _ _).alloc _
 have b0 : RAt W0 w.heap.size zeroMs := by rw [← hW0]; exact heap_alloc_new _ _
 have z0 : W0.heap.size = w.heap.size + 1 := by rw [← hW0]; simp
 obtain ⟨W1, hW1⟩ : ∃ W1, W0.alloc (.cells #[.slice pv b.length cv, .bool false] 103) = W1 := ⟨_, rfl⟩
 have k1 : Old W0 W1 := by rw [← hW1]; exact (Keeps.refl _ _).alloc _
 have hR : Rx W1 (w.heap.size + 1) (some b) := by rw [← hW1, ← z0]; exact Rx.new (h.old k0)
 have CN := Lib.hid (rxnum_any (w.heap.size + 1) (some b) W1 hR)
 have zW1 : W1.heap.size = w.heap.size + 1 + 1 := by rw [← hW1]; simp [z0]
 have H := Lib.hid (And.intro (k0.trans k1) ((k1.block _ (lt_of_heap b0) (fun f => f)).trans b0))
 change w.alloc (.cells #[.int .i64 0, .int .i64 0, .int .u64 0, .bool false, .slice none 0 0, .int .u64 0, .int .u64 0, .string ⟨#[]⟩, .slice none 0 0, .int .i64 0, .int .u64 0, .int .u64 0, .int .u64 0, .int .u64 0, .int .u64 0, .slice none 0 0, .slice none 0 0, .bool false] 37) = W0 at hW0
 clear k0 b0 k1 hR h
 go_enter Tryz.func12, Tryz.ntmps12
 go_wp2_with fail
 refine CN.out.mono ?_
 rintro e w1 ⟨n1, rfl, hn64, hnk, hr, k1⟩
 obtain ⟨kd, hkd⟩ : ∃ k, IntKind.i64.wrap (n1 : Int) = k := ⟨_, rfl⟩
 have hkI : I64 kd := hkd ▸ i64_wrap _
 obtain ⟨mb, hmb⟩ : ∃ m, w1.heap.size = m := ⟨_, rfl⟩
 obtain ⟨Wa, hWa⟩ : ∃ W, w1.alloc (.cells zeroMs.cells.toArray 37) = W := ⟨_, rfl⟩
 have ba : RAt Wa mb zeroMs := by rw [← hWa, ← hmb]; exact heap_alloc_new _ _
 have oa : Old w1 Wa := by rw [← hWa]; exact (Keeps.refl _ _).alloc _
 have hzm : w.heap.size + 1 < mb := by rw [← hmb]; exact Nat.lt_of_lt_of_le (by omega) k1.size
 have S0 : TkS w mb ((some b).bind (pNum 1099511627777) |>.map (·.2)) zeroMs Wa := ⟨hr.keep oa (fun _ _ f => f), ba, (oa.block _ (Nat.lt_of_lt_of_le (lt_of_heap H.out.2) k1.size) (fun f => f)).trans ((k1.block _ (lt_of_heap H.out.2) (by omega)).trans H.out.2), (H.out.1.then k1 (fun i hi e => by omega)).trans oa, MsO.zero _ _, hzm⟩
 obtain ⟨W2, hst, b2, kb⟩ := store_msgR ba { zeroMs with kind := kd } (by simp [Ms.cells, zeroMs, Value.oneCell'])
 have S2 := Lib.hid (S0.put b2 kb (by have hz := MsO.zero Wa (mb + 1); exact ⟨hz.1, hz.2.1, hz.2.2.1, ⟨hkI, hz.2.2.2.1.2⟩, hz.2.2.2.2⟩))
 change (storeVar 37 ⟨mb, 0, none⟩ (.agg #[.int .i64 kd, .int .i64 0, .int .u64 0, .bool false, .slice none 0 0, .int .u64 0, .int .u64 0, .string ⟨#[]⟩, .slice none 0 0, .int .i64 0, .int .u64 0, .int .u64 0, .int .u64 0, .int .u64 0, .int .u64 0, .slice none 0 0, .slice none 0 0, .bool false])).run Tryz.prog Wa = .ok () W2 at hst
 change w1.alloc (.cells #[.int .i64 0, .int .i64 0, .int .u64 0, .bool false, .slice none 0 0, .int .u64 0, .int .u64 0, .string ⟨#[]⟩, .slice none 0 0, .int .i64 0, .int .u64 0, .int .u64 0, .int .u64 0, .int .u64 0, .int .u64 0, .slice none 0 0, .slice none 0 0, .bool false] 37) = Wa at hWa
 have HN := Lib.hid hnk
 have lB : ∀ a W, (loadVar 4 a).run Tryz.prog W = (load a).run Tryz.prog W := fun _ _ => by kernel_rfl
 have lS : ∀ a W, (loadVar 38 a).run Tryz.prog W = (load a).run Tryz.prog W := fun _ _ => by kernel_rfl
 have hres : ∀ l1, pNum 1099511627777 b = some (n1, l1) → n1 ≤ 1099511627777 := fun l1 h => (pNum_inv h).2.1
 have HRS := Lib.hid hres
 clear hr k1 ba oa S0 b2 kb hkI hnk CN hres
 go_upto_region 3 with fail
 clear hst hWa
 have RD := S2.out.1
 have PW := partsR S2.out.2.1
 have pk := PW.kind
 clear PW
 cases hp : pNum 1099511627777 b with
 | none =>
  simp only [Option.bind_some, hp, Option.map_none] at RD
  obtain ⟨p9, n9, c9, hb9⟩ := Rx.bad RD
  have g9 := blk2 hb9
  obtain ⟨W3, hs3, hl3, ht3⟩ := S2.out.no (b := b) (doc_none (by unfold parseM; rw [show mMost = 1099511627777 from rfl, hp]; rfl))
  have HT := ht3
  clear hb9 RD ht3
  go_wp2_with fail
  refine bodyPost_ret ?_ rfl HT.out; simp [results, Tryz.results12, go_sem, hl3]
 | some x =>
  obtain ⟨k, l1⟩ := x
  obtain rfl : n1 = k := HN.out k l1 (by simp only [Option.bind_some]; exact hp)
  have hkm := HRS.out l1 hp
  obtain rfl : kd = (n1 : Int) := by rw [← hkd, IntKind.wrap_i64]; omega
  have S3 : Hid (TkS w mb (some l1) { zeroMs with kind := (n1 : Int) } W2) := Lib.hid (by have h := S2.out; simp only [Option.bind_some, hp, Option.map_some] at h; exact h)
  obtain ⟨p9, c9, hb9, _, _⟩ := Rx.cells S3.out.1
  have g9 := blk2 hb9
  clear hb9 RD S2 HN HRS
  by_cases hk16 : 1 ≤ n1 ∧ n1 ≤ 6
  case neg =>
   have hno := parse0 hp hk16
   obtain ⟨W3, hs3, hl3, ht3⟩ := S3.out.no (b := b) hno
   have HT := ht3
   by_cases h0 : n1 = 0
   ·subst h0
    clear ht3 hno hk16 hp
    go_wp2_with fail
    refine bodyPost_ret ?_ rfl HT.out; simp [results, Tryz.results12, go_sem, hl3]
   ·have d1 : decide ((n1 : Int) < 1) = false := by simp; omega
    have d2 : decide ((6 : Int) < (n1 : Int)) = true := by simp; omega
    have d1n : decide (n1 = 0) = false := by simp [h0]
    have d2n : decide (6 < n1) = true := by simp; omega
    have d4n : 6 < n1 := by omega
    clear ht3 hno hk16 hp
    go_wp2_with fail
    refine bodyPost_ret ?_ rfl HT.out; simp [results, Tryz.results12, go_sem, hl3]
  rcases (by omega : n1 = 1 ∨ n1 = 2 ∨ n1 = 3 ∨ n1 = 4 ∨ n1 = 5 ∨ n1 = 6) with rfl | rfl | rfl | rfl | rfl | rfl
  ·have S3 : Hid (TkS w mb (some l1) { zeroMs with kind := 1 } W2) := S3
   have PW := partsR S3.out.2.1
   have pk : (loadVar 3 ⟨mb, 0, none⟩).run Tryz.prog _ = .ok (.int .i64 1) _ := PW.kind
   have pth := (blkM S3.out.2.1).2.2.2.1
   try simp only at pth
   clear PW
   go_wp2_with fail
   refine (rxnum_any (w.heap.size + 1) _ _ S3.out.1).mono ?_
   rintro e X1 ⟨m1, rfl, h64, hn, hr, hk⟩
   have T1 := Lib.hid (S3.out.num hr hk)
   have N1 := Lib.hid (And.intro h64 hn)
   clear h64 hn hr hk pk pth
   obtain ⟨zz1, hzz1⟩ : ∃ z, IntKind.i64.wrap (m1 : Int) = z := ⟨_, rfl⟩
   have hI1 : I64 zz1 := hzz1 ▸ i64_wrap _
   have hW1 := Lib.hid (show m1 ≤ mMost → zz1 = m1 from fun h => by have h2 : m1 ≤ 1099511627777 := h; rw [← hzz1, IntKind.wrap_i64]; omega)
   obtain ⟨Y1, hs1, bj, kj⟩ := store_pubR T1.out.2.1 zz1
   have S11 := Lib.hid (T1.out.put bj kj (by have h := T1.out.2.2.2.2.1; exact ⟨h.1, h.2.1, h.2.2.1, ⟨h.2.2.2.1.1, hI1, h.2.2.2.1.2.2⟩, h.2.2.2.2⟩))
   clear bj kj
   have PW := partsR S11.out.2.1
   have pk : (loadVar 3 ⟨mb, 0, none⟩).run Tryz.prog _ = .ok (.int .i64 1) _ := PW.kind
   have pth := (blkM S11.out.2.1).2.2.2.1
   try simp only at pth
   clear PW
   go_wp2_with fail
   refine (rxnum_any (w.heap.size + 1) _ _ S11.out.1).mono ?_
   rintro e X2 ⟨m2, rfl, h64, hn, hr, hk⟩
   have T2 := Lib.hid (S11.out.num hr hk)
   have N2 := Lib.hid (And.intro h64 hn)
   clear h64 hn hr hk pk pth
   obtain ⟨Y2, hs2, bj, kj⟩ := store_verR T2.out.2.1 m2
   have S12 := Lib.hid (T2.out.put bj kj (by have h := T2.out.2.2.2.2.1; exact ⟨h.1, h.2.1, h.2.2.1, h.2.2.2.1, N2.out.1, h.2.2.2.2.2⟩))
   clear bj kj
   have PW := partsR S12.out.2.1
   have pk : (loadVar 3 ⟨mb, 0, none⟩).run Tryz.prog _ = .ok (.int .i64 1) _ := PW.kind
   have pth := (blkM S12.out.2.1).2.2.2.1
   try simp only at pth
   clear PW
   go_wp2_with fail
   refine (rxnum_any (w.heap.size + 1) _ _ S12.out.1).mono ?_
   rintro e X3 ⟨m3, rfl, h64, hn, hr, hk⟩
   have T3 := Lib.hid (S12.out.num hr hk)
   have N3 := Lib.hid (And.intro h64 hn)
   clear h64 hn hr hk pk pth
   have PW := partsR T3.out.2.1
   have pk : (loadVar 3 ⟨mb, 0, none⟩).run Tryz.prog _ = .ok (.int .i64 1) _ := PW.kind
   have pth := (blkM T3.out.2.1).2.2.2.1
   try simp only at pth
   clear PW
   by_cases hf2 : 1 < m3
   case pos =>
    have hno := law1x hp N1.out.2 N2.out.2 N3.out.2 hf2
    obtain ⟨V9, hs9, hl9, HT9⟩ := T3.out.no (b := b) (hno)
    clear hno
    go_wp2_with fail
    refine bodyPost_ret ?_ rfl HT9.out; simp [results, Tryz.results12, go_sem, hl9]
   rcases (by omega : m3 = 0 ∨ m3 = 1) with hf | hf
   ·have N3f := Lib.hid hf
    subst hf
    obtain ⟨Y4, hs4, bj, kj⟩ := store_thereR T3.out.2.1 false
    have S14 := Lib.hid (T3.out.put bj kj (by have h := T3.out.2.2.2.2.1; exact h))
    clear bj kj
    clear pk pth
    have PW := partsR S14.out.2.1
    have pk : (loadVar 3 ⟨mb, 0, none⟩).run Tryz.prog _ = .ok (.int .i64 1) _ := PW.kind
    have pth := (blkM S14.out.2.1).2.2.2.1
    try simp only at pth
    clear PW
    have LW := Lib.hid (S14.out.law (law1f hp N1.out.2 hW1.out N2.out.2 N3.out.2 rfl))
    have RD := S14.out.1
    obtain ⟨stN, hstN⟩ : ∃ s, s = (nxt (nxt (nxt (some l1)))) := ⟨_, rfl⟩
    have LW2 := LW.out
    change Law b (nxt (nxt (nxt (some l1)))) _ _ at LW2
    rw [← hstN] at LW2
    change Rx _ _ (nxt (nxt (nxt (some l1)))) at RD
    rw [← hstN] at RD
    have L := Lib.hid LW2
    clear LW LW2 hstN
    cases stN with
    | none =>
     obtain ⟨p9, n9, c9, hb9⟩ := Rx.bad RD
     have g9 := blk2 hb9
     clear hb9 RD
     obtain ⟨V9, hs9, hl9, HT9⟩ := S14.out.no (b := b) (L.out.1 rfl)
     go_wp2_with fail
     refine bodyPost_ret ?_ rfl HT9.out; simp [results, Tryz.results12, go_sem, hl9]
    | some r =>
     obtain ⟨p9, c9, hb9, hs9', _⟩ := Rx.cells RD
     have g9 := blk2 hb9
     have hr63 : r.length ≤ 9223372036854775807 := by obtain ⟨_, _, _, y1, y2⟩ := hs9'.len; unfold maxLen at y2; omega
     clear hb9 RD hs9'
     have L1 := L.out.2 r rfl
     by_cases hr0 : r = []
     case neg =>
      have hpos : 0 < r.length := List.length_pos_iff.2 hr0
      have hno : takeM b = none := by rcases (Or.inl rfl : (0 : Int) = 0 ∨ (0 : Int) = 5) with hz0 | hz5; exact (L1.2 hz0).1 hr0; exact absurd hz5 (by decide)
      obtain ⟨V9, hs9, hl9, HT9⟩ := S14.out.no (b := b) (hno)
      clear L1 hno hr0 L
      go_wp2_with fail
      refine bodyPost_ret ?_ rfl HT9.out; simp [results, Tryz.results12, go_sem, hl9]
     subst hr0
     rcases (Or.inl rfl : (0 : Int) = 0 ∨ (0 : Int) = 5) with hz0 | hz5
     case inr => cases hz5
     have hY := (L1.2 rfl).2 rfl
     have gW := load_whole S14.out.2.1 (by simp [Ms.cells]) Tryz.underlying37 (by kernel_rfl)
     obtain ⟨my, hmy, CM⟩ := S14.out.may
     rw [hmy] at hY
     have C9 := Lib.hid CM
     have HY := Lib.hid hY
     clear CM hY hmy L1 L
     go_wp2_with fail
     refine C9.out.mono ?_
     rintro e X9 ⟨rfl, k9⟩
     have S9 := Lib.hid (S14.out.old k9)
     clear k9 gW C9
     cases my
     ·have hno : takeM b = none := HY.out
      obtain ⟨V9, hs9, hl9, HT9⟩ := S9.out.no (b := b) (hno)
      clear hno
      go_wp2_with fail
      refine bodyPost_ret ?_ rfl HT9.out; simp [results, Tryz.results12, go_sem, hl9]
     have gW := load_whole S9.out.2.1 (by simp [Ms.cells]) Tryz.underlying37 (by kernel_rfl)
     obtain ⟨V9, hs9, hl9, ht9⟩ := S9.out.yes (b := b) HY.out
     have HT9 := Lib.hid ht9
     clear ht9
     go_wp2_with fail
     refine bodyPost_ret ?_ rfl HT9.out; simp [results, Tryz.results12, go_sem, hl9]
   ·have N3f := Lib.hid hf
    subst hf
    obtain ⟨Y4, hs4, bj, kj⟩ := store_thereR T3.out.2.1 true
    have S14 := Lib.hid (T3.out.put bj kj (by have h := T3.out.2.2.2.2.1; exact h))
    clear bj kj
    clear pk pth
    have PW := partsR S14.out.2.1
    have pk : (loadVar 3 ⟨mb, 0, none⟩).run Tryz.prog _ = .ok (.int .i64 1) _ := PW.kind
    have pth := (blkM S14.out.2.1).2.2.2.1
    try simp only at pth
    clear PW
    go_wp2_with fail
    refine (rxtext_any (w.heap.size + 1) _ _ S14.out.1).mono ?_
    rintro e X5 ⟨p5, c5, F, rfl, hs, hne, hlen, hF, hr, hk⟩
    have T5 := Lib.hid (S14.out.num hr hk)
    have NF := Lib.hid (show isX _ F from hF)
    have SF := Lib.hid hs
    clear hs hne hlen hF hr hk pk pth
    go_wp2_with fail
    refine (ref_take_pred_o _ F _ SF.out).mono ?_
    rintro e X6 ⟨p6, nn, c6, cs, z, rfl, k3, ho, hg, hz⟩
    have hmX : mb < _ := lt_of_heap T5.out.2.1
    have Q6 := Lib.hid (T5.out.old k3)
    have OO := Lib.hid (And.intro (ho.mono' hmX) hg)
    have ZZ := Lib.hid hz
    clear k3 ho hg hz hmX
    obtain ⟨Y6, hs6, bj, kj⟩ := store_predR Q6.out.2.1 p6 nn c6 cs
    have S16 := Lib.hid (Q6.out.put bj kj (by have h := Q6.out.2.2.2.2.1; exact ⟨OO.out, h.2⟩))
    clear bj kj
    have TP := Lib.hid (show TakP F (cs.map Con.plain) z by rcases ZZ.out with ⟨ht, hz⟩ | ⟨ht, _, hz⟩; exact Or.inl ⟨ht, hz, by rw [(takeP_law ht).2.1]; exact Nat.le_trans (predForm_le (S16.out.2.2.2.2.1.fine).1.1 (takeP_law ht).1) (by decide)⟩; exact Or.inr ⟨ht, hz⟩)
    have ZC : z = 0 ∨ z = 5 := by rcases ZZ.out with ⟨_, hz⟩ | ⟨_, _, hz⟩; exact Or.inl hz; exact Or.inr hz
    have ZC := Lib.hid ZC
    have PW := partsR S16.out.2.1
    have pk : (loadVar 3 ⟨mb, 0, none⟩).run Tryz.prog _ = .ok (.int .i64 1) _ := PW.kind
    have pth := (blkM S16.out.2.1).2.2.2.1
    try simp only at pth
    clear PW
    have LW := Lib.hid (S16.out.law (law1t hp N1.out.2 hW1.out N2.out.2 N3.out.2 rfl NF.out TP.out))
    have RD := S16.out.1
    obtain ⟨stN, hstN⟩ : ∃ s, s = (nxX (nxt (nxt (nxt (some l1))))) := ⟨_, rfl⟩
    have LW2 := LW.out
    change Law b (nxX (nxt (nxt (nxt (some l1))))) _ _ at LW2
    rw [← hstN] at LW2
    change Rx _ _ (nxX (nxt (nxt (nxt (some l1))))) at RD
    rw [← hstN] at RD
    have L := Lib.hid LW2
    clear LW LW2 hstN
    cases stN with
    | none =>
     obtain ⟨p9, n9, c9, hb9⟩ := Rx.bad RD
     have g9 := blk2 hb9
     clear hb9 RD
     obtain ⟨V9, hs9, hl9, HT9⟩ := S16.out.no (b := b) (L.out.1 rfl)
     go_wp2_with fail
     refine bodyPost_ret ?_ rfl HT9.out; simp [results, Tryz.results12, go_sem, hl9]
    | some r =>
     obtain ⟨p9, c9, hb9, hs9', _⟩ := Rx.cells RD
     have g9 := blk2 hb9
     have hr63 : r.length ≤ 9223372036854775807 := by obtain ⟨_, _, _, y1, y2⟩ := hs9'.len; unfold maxLen at y2; omega
     clear hb9 RD hs9'
     have L1 := L.out.2 r rfl
     by_cases hr0 : r = []
     case neg =>
      have hpos : 0 < r.length := List.length_pos_iff.2 hr0
      have hno : takeM b = none := by rcases ZC.out with hz0 | hz5; exact (L1.2 hz0).1 hr0; exact L1.1 (by rw [hz5]; decide)
      obtain ⟨V9, hs9, hl9, HT9⟩ := S16.out.no (b := b) (hno)
      clear L1 hno hr0 L
      go_wp2_with fail
      refine bodyPost_ret ?_ rfl HT9.out; simp [results, Tryz.results12, go_sem, hl9]
     subst hr0
     rcases ZC.out with hz0 | hz5
     case inr =>
      have hno := L1.1 (by rw [hz5]; decide)
      subst hz5
      obtain ⟨V9, hs9, hl9, HT9⟩ := S16.out.no (b := b) (hno)
      clear L1 hno L
      go_wp2_with fail
      refine bodyPost_ret ?_ rfl HT9.out; simp [results, Tryz.results12, go_sem, hl9]
     subst hz0
     have hY := (L1.2 rfl).2 rfl
     have gW := load_whole S16.out.2.1 (by simp [Ms.cells]) Tryz.underlying37 (by kernel_rfl)
     obtain ⟨my, hmy, CM⟩ := S16.out.may
     rw [hmy] at hY
     have C9 := Lib.hid CM
     have HY := Lib.hid hY
     clear CM hY hmy L1 L
     go_wp2_with fail
     refine C9.out.mono ?_
     rintro e X9 ⟨rfl, k9⟩
     have S9 := Lib.hid (S16.out.old k9)
     clear k9 gW C9
     cases my
     ·have hno : takeM b = none := HY.out
      obtain ⟨V9, hs9, hl9, HT9⟩ := S9.out.no (b := b) (hno)
      clear hno
      go_wp2_with fail
      refine bodyPost_ret ?_ rfl HT9.out; simp [results, Tryz.results12, go_sem, hl9]
     have gW := load_whole S9.out.2.1 (by simp [Ms.cells]) Tryz.underlying37 (by kernel_rfl)
     obtain ⟨V9, hs9, hl9, ht9⟩ := S9.out.yes (b := b) HY.out
     have HT9 := Lib.hid ht9
     clear ht9
     go_wp2_with fail
     refine bodyPost_ret ?_ rfl HT9.out; simp [results, Tryz.results12, go_sem, hl9]
  ·have S3 : Hid (TkS w mb (some l1) { zeroMs with kind := 2 } W2) := S3
   have PW := partsR S3.out.2.1
   have pk : (loadVar 3 ⟨mb, 0, none⟩).run Tryz.prog _ = .ok (.int .i64 2) _ := PW.kind
   have pth := True.intro
   clear PW
   go_wp2_with fail
   refine (rxtext_any (w.heap.size + 1) _ _ S3.out.1).mono ?_
   rintro e X1 ⟨p1, c1, F, rfl, hs, hne, hlen, hF, hr, hk⟩
   have T1 := Lib.hid (S3.out.num hr hk)
   have NF := Lib.hid (show isX _ F from hF)
   have SF := Lib.hid hs
   clear hs hne hlen hF hr hk pk pth
   go_wp2_with fail
   refine (ref_take_pred_o _ F _ SF.out).mono ?_
   rintro e X2 ⟨p2, nn, c2, cs, z, rfl, k3, ho, hg, hz⟩
   have hmX : mb < _ := lt_of_heap T1.out.2.1
   have Q2 := Lib.hid (T1.out.old k3)
   have OO := Lib.hid (And.intro (ho.mono' hmX) hg)
   have ZZ := Lib.hid hz
   clear k3 ho hg hz hmX
   obtain ⟨Y2, hs2, bj, kj⟩ := store_predR Q2.out.2.1 p2 nn c2 cs
   have S12 := Lib.hid (Q2.out.put bj kj (by have h := Q2.out.2.2.2.2.1; exact ⟨OO.out, h.2⟩))
   clear bj kj
   have TP := Lib.hid (show TakP F (cs.map Con.plain) z by rcases ZZ.out with ⟨ht, hz⟩ | ⟨ht, _, hz⟩; exact Or.inl ⟨ht, hz, by rw [(takeP_law ht).2.1]; exact Nat.le_trans (predForm_le (S12.out.2.2.2.2.1.fine).1.1 (takeP_law ht).1) (by decide)⟩; exact Or.inr ⟨ht, hz⟩)
   have ZC : z = 0 ∨ z = 5 := by rcases ZZ.out with ⟨_, hz⟩ | ⟨_, _, hz⟩; exact Or.inl hz; exact Or.inr hz
   have ZC := Lib.hid ZC
   have PW := partsR S12.out.2.1
   have pk : (loadVar 3 ⟨mb, 0, none⟩).run Tryz.prog _ = .ok (.int .i64 2) _ := PW.kind
   have pth := True.intro
   clear PW
   have LW := Lib.hid (S12.out.law (law23 (K := 2) (by omega) hp NF.out TP.out))
   have RD := S12.out.1
   obtain ⟨stN, hstN⟩ : ∃ s, s = (nxX (some l1)) := ⟨_, rfl⟩
   have LW2 := LW.out
   change Law b (nxX (some l1)) _ _ at LW2
   rw [← hstN] at LW2
   change Rx _ _ (nxX (some l1)) at RD
   rw [← hstN] at RD
   have L := Lib.hid LW2
   clear LW LW2 hstN
   cases stN with
   | none =>
    obtain ⟨p9, n9, c9, hb9⟩ := Rx.bad RD
    have g9 := blk2 hb9
    clear hb9 RD
    obtain ⟨V9, hs9, hl9, HT9⟩ := S12.out.no (b := b) (L.out.1 rfl)
    go_wp2_with fail
    refine bodyPost_ret ?_ rfl HT9.out; simp [results, Tryz.results12, go_sem, hl9]
   | some r =>
    obtain ⟨p9, c9, hb9, hs9', _⟩ := Rx.cells RD
    have g9 := blk2 hb9
    have hr63 : r.length ≤ 9223372036854775807 := by obtain ⟨_, _, _, y1, y2⟩ := hs9'.len; unfold maxLen at y2; omega
    clear hb9 RD hs9'
    have L1 := L.out.2 r rfl
    by_cases hr0 : r = []
    case neg =>
     have hpos : 0 < r.length := List.length_pos_iff.2 hr0
     have hno : takeM b = none := by rcases ZC.out with hz0 | hz5; exact (L1.2 hz0).1 hr0; exact L1.1 (by rw [hz5]; decide)
     obtain ⟨V9, hs9, hl9, HT9⟩ := S12.out.no (b := b) (hno)
     clear L1 hno hr0 L
     go_wp2_with fail
     refine bodyPost_ret ?_ rfl HT9.out; simp [results, Tryz.results12, go_sem, hl9]
    subst hr0
    rcases ZC.out with hz0 | hz5
    case inr =>
     have hno := L1.1 (by rw [hz5]; decide)
     subst hz5
     obtain ⟨V9, hs9, hl9, HT9⟩ := S12.out.no (b := b) (hno)
     clear L1 hno L
     go_wp2_with fail
     refine bodyPost_ret ?_ rfl HT9.out; simp [results, Tryz.results12, go_sem, hl9]
    subst hz0
    have hY := (L1.2 rfl).2 rfl
    have gW := load_whole S12.out.2.1 (by simp [Ms.cells]) Tryz.underlying37 (by kernel_rfl)
    obtain ⟨my, hmy, CM⟩ := S12.out.may
    rw [hmy] at hY
    have C9 := Lib.hid CM
    have HY := Lib.hid hY
    clear CM hY hmy L1 L
    go_wp2_with fail
    refine C9.out.mono ?_
    rintro e X9 ⟨rfl, k9⟩
    have S9 := Lib.hid (S12.out.old k9)
    clear k9 gW C9
    cases my
    ·have hno : takeM b = none := HY.out
     obtain ⟨V9, hs9, hl9, HT9⟩ := S9.out.no (b := b) (hno)
     clear hno
     go_wp2_with fail
     refine bodyPost_ret ?_ rfl HT9.out; simp [results, Tryz.results12, go_sem, hl9]
    have gW := load_whole S9.out.2.1 (by simp [Ms.cells]) Tryz.underlying37 (by kernel_rfl)
    obtain ⟨V9, hs9, hl9, ht9⟩ := S9.out.yes (b := b) HY.out
    have HT9 := Lib.hid ht9
    clear ht9
    go_wp2_with fail
    refine bodyPost_ret ?_ rfl HT9.out; simp [results, Tryz.results12, go_sem, hl9]
  ·have S3 : Hid (TkS w mb (some l1) { zeroMs with kind := 3 } W2) := S3
   have PW := partsR S3.out.2.1
   have pk : (loadVar 3 ⟨mb, 0, none⟩).run Tryz.prog _ = .ok (.int .i64 3) _ := PW.kind
   have pth := True.intro
   clear PW
   go_wp2_with fail
   refine (rxtext_any (w.heap.size + 1) _ _ S3.out.1).mono ?_
   rintro e X1 ⟨p1, c1, F, rfl, hs, hne, hlen, hF, hr, hk⟩
   have T1 := Lib.hid (S3.out.num hr hk)
   have NF := Lib.hid (show isX _ F from hF)
   have SF := Lib.hid hs
   clear hs hne hlen hF hr hk pk pth
   go_wp2_with fail
   refine (ref_take_pred_o _ F _ SF.out).mono ?_
   rintro e X2 ⟨p2, nn, c2, cs, z, rfl, k3, ho, hg, hz⟩
   have hmX : mb < _ := lt_of_heap T1.out.2.1
   have Q2 := Lib.hid (T1.out.old k3)
   have OO := Lib.hid (And.intro (ho.mono' hmX) hg)
   have ZZ := Lib.hid hz
   clear k3 ho hg hz hmX
   obtain ⟨Y2, hs2, bj, kj⟩ := store_predR Q2.out.2.1 p2 nn c2 cs
   have S12 := Lib.hid (Q2.out.put bj kj (by have h := Q2.out.2.2.2.2.1; exact ⟨OO.out, h.2⟩))
   clear bj kj
   have TP := Lib.hid (show TakP F (cs.map Con.plain) z by rcases ZZ.out with ⟨ht, hz⟩ | ⟨ht, _, hz⟩; exact Or.inl ⟨ht, hz, by rw [(takeP_law ht).2.1]; exact Nat.le_trans (predForm_le (S12.out.2.2.2.2.1.fine).1.1 (takeP_law ht).1) (by decide)⟩; exact Or.inr ⟨ht, hz⟩)
   have ZC : z = 0 ∨ z = 5 := by rcases ZZ.out with ⟨_, hz⟩ | ⟨_, _, hz⟩; exact Or.inl hz; exact Or.inr hz
   have ZC := Lib.hid ZC
   have PW := partsR S12.out.2.1
   have pk : (loadVar 3 ⟨mb, 0, none⟩).run Tryz.prog _ = .ok (.int .i64 3) _ := PW.kind
   have pth := True.intro
   clear PW
   have LW := Lib.hid (S12.out.law (law23 (K := 3) (by omega) hp NF.out TP.out))
   have RD := S12.out.1
   obtain ⟨stN, hstN⟩ : ∃ s, s = (nxX (some l1)) := ⟨_, rfl⟩
   have LW2 := LW.out
   change Law b (nxX (some l1)) _ _ at LW2
   rw [← hstN] at LW2
   change Rx _ _ (nxX (some l1)) at RD
   rw [← hstN] at RD
   have L := Lib.hid LW2
   clear LW LW2 hstN
   cases stN with
   | none =>
    obtain ⟨p9, n9, c9, hb9⟩ := Rx.bad RD
    have g9 := blk2 hb9
    clear hb9 RD
    obtain ⟨V9, hs9, hl9, HT9⟩ := S12.out.no (b := b) (L.out.1 rfl)
    go_wp2_with fail
    refine bodyPost_ret ?_ rfl HT9.out; simp [results, Tryz.results12, go_sem, hl9]
   | some r =>
    obtain ⟨p9, c9, hb9, hs9', _⟩ := Rx.cells RD
    have g9 := blk2 hb9
    have hr63 : r.length ≤ 9223372036854775807 := by obtain ⟨_, _, _, y1, y2⟩ := hs9'.len; unfold maxLen at y2; omega
    clear hb9 RD hs9'
    have L1 := L.out.2 r rfl
    by_cases hr0 : r = []
    case neg =>
     have hpos : 0 < r.length := List.length_pos_iff.2 hr0
     have hno : takeM b = none := by rcases ZC.out with hz0 | hz5; exact (L1.2 hz0).1 hr0; exact L1.1 (by rw [hz5]; decide)
     obtain ⟨V9, hs9, hl9, HT9⟩ := S12.out.no (b := b) (hno)
     clear L1 hno hr0 L
     go_wp2_with fail
     refine bodyPost_ret ?_ rfl HT9.out; simp [results, Tryz.results12, go_sem, hl9]
    subst hr0
    rcases ZC.out with hz0 | hz5
    case inr =>
     have hno := L1.1 (by rw [hz5]; decide)
     subst hz5
     obtain ⟨V9, hs9, hl9, HT9⟩ := S12.out.no (b := b) (hno)
     clear L1 hno L
     go_wp2_with fail
     refine bodyPost_ret ?_ rfl HT9.out; simp [results, Tryz.results12, go_sem, hl9]
    subst hz0
    have hY := (L1.2 rfl).2 rfl
    have gW := load_whole S12.out.2.1 (by simp [Ms.cells]) Tryz.underlying37 (by kernel_rfl)
    obtain ⟨my, hmy, CM⟩ := S12.out.may
    rw [hmy] at hY
    have C9 := Lib.hid CM
    have HY := Lib.hid hY
    clear CM hY hmy L1 L
    go_wp2_with fail
    refine C9.out.mono ?_
    rintro e X9 ⟨rfl, k9⟩
    have S9 := Lib.hid (S12.out.old k9)
    clear k9 gW C9
    cases my
    ·have hno : takeM b = none := HY.out
     obtain ⟨V9, hs9, hl9, HT9⟩ := S9.out.no (b := b) (hno)
     clear hno
     go_wp2_with fail
     refine bodyPost_ret ?_ rfl HT9.out; simp [results, Tryz.results12, go_sem, hl9]
    have gW := load_whole S9.out.2.1 (by simp [Ms.cells]) Tryz.underlying37 (by kernel_rfl)
    obtain ⟨V9, hs9, hl9, ht9⟩ := S9.out.yes (b := b) HY.out
    have HT9 := Lib.hid ht9
    clear ht9
    go_wp2_with fail
    refine bodyPost_ret ?_ rfl HT9.out; simp [results, Tryz.results12, go_sem, hl9]
  ·have S3 : Hid (TkS w mb (some l1) { zeroMs with kind := 4 } W2) := S3
   have PW := partsR S3.out.2.1
   have pk : (loadVar 3 ⟨mb, 0, none⟩).run Tryz.prog _ = .ok (.int .i64 4) _ := PW.kind
   have pth := True.intro
   clear PW
   go_wp2_with fail
   refine (rxnum_any (w.heap.size + 1) _ _ S3.out.1).mono ?_
   rintro e X1 ⟨m1, rfl, h64, hn, hr, hk⟩
   have T1 := Lib.hid (S3.out.num hr hk)
   have N1 := Lib.hid (And.intro h64 hn)
   clear h64 hn hr hk pk pth
   obtain ⟨zz1, hzz1⟩ : ∃ z, IntKind.i64.wrap (m1 : Int) = z := ⟨_, rfl⟩
   have hI1 : I64 zz1 := hzz1 ▸ i64_wrap _
   have hW1 := Lib.hid (show m1 ≤ mMost → zz1 = m1 from fun h => by have h2 : m1 ≤ 1099511627777 := h; rw [← hzz1, IntKind.wrap_i64]; omega)
   obtain ⟨Y1, hs1, bj, kj⟩ := store_pubR T1.out.2.1 zz1
   have S11 := Lib.hid (T1.out.put bj kj (by have h := T1.out.2.2.2.2.1; exact ⟨h.1, h.2.1, h.2.2.1, ⟨h.2.2.2.1.1, hI1, h.2.2.2.1.2.2⟩, h.2.2.2.2⟩))
   clear bj kj
   have PW := partsR S11.out.2.1
   have pk : (loadVar 3 ⟨mb, 0, none⟩).run Tryz.prog _ = .ok (.int .i64 4) _ := PW.kind
   have pth := True.intro
   clear PW
   go_wp2_with fail
   refine (rxtext_any (w.heap.size + 1) _ _ S11.out.1).mono ?_
   rintro e X2 ⟨p2, c2, F, rfl, hs, hne, hlen, hF, hr, hk⟩
   have T2 := Lib.hid (S11.out.num hr hk)
   have NF := Lib.hid (show isX _ F from hF)
   have SF := Lib.hid hs
   clear hs hne hlen hF hr hk pk pth
   go_wp2_with fail
   refine (ref_take_item_o _ F _ SF.out).mono ?_
   rintro e X3 ⟨in_, tm, key, p3, len, c3, es, z, rfl, k3, ho, hnn, hfit, hz⟩
   have hmX : mb < _ := lt_of_heap T2.out.2.1
   have Q3 := Lib.hid (T2.out.old k3)
   have OO := Lib.hid (And.intro (ho.mono hmX) (And.intro hnn hfit))
   have ZZ := Lib.hid hz
   clear k3 ho hnn hfit hz hmX
   obtain ⟨Y3, hs3, bj, kj⟩ := store_itemR Q3.out.2.1 in_ tm key p3 len c3 es
   have S13 := Lib.hid (Q3.out.put bj kj (by have h := Q3.out.2.2.2.2.1; exact ⟨h.1, ⟨OO.out.1, OO.out.2.1, OO.out.2.2⟩, h.2.2⟩))
   clear bj kj
   have TP := Lib.hid (show (takeI F = some ⟨in_, tm, key, es⟩ ∧ z = 0 ∧ F.length ≤ 1048576) ∨ (takeI F = none ∧ z = 5) by rcases ZZ.out with ⟨ht, hz⟩ | ⟨ht, _, _, _, _, hz⟩; exact Or.inl ⟨ht, hz, by rw [(takeI_law ht).2.1]; exact Nat.le_trans (itForm_le (takeI_law ht).1 OO.out.2.2) (by decide)⟩; exact Or.inr ⟨ht, hz⟩)
   have ZC : z = 0 ∨ z = 5 := by rcases ZZ.out with ⟨_, hz⟩ | ⟨_, _, _, _, _, hz⟩; exact Or.inl hz; exact Or.inr hz
   have ZC := Lib.hid ZC
   have PW := partsR S13.out.2.1
   have pk : (loadVar 3 ⟨mb, 0, none⟩).run Tryz.prog _ = .ok (.int .i64 4) _ := PW.kind
   have pth := True.intro
   clear PW
   have LW := Lib.hid (S13.out.law (law4 hp N1.out.2 hW1.out NF.out TP.out))
   have RD := S13.out.1
   obtain ⟨stN, hstN⟩ : ∃ s, s = (nxX (nxt (some l1))) := ⟨_, rfl⟩
   have LW2 := LW.out
   change Law b (nxX (nxt (some l1))) _ _ at LW2
   rw [← hstN] at LW2
   change Rx _ _ (nxX (nxt (some l1))) at RD
   rw [← hstN] at RD
   have L := Lib.hid LW2
   clear LW LW2 hstN
   cases stN with
   | none =>
    obtain ⟨p9, n9, c9, hb9⟩ := Rx.bad RD
    have g9 := blk2 hb9
    clear hb9 RD
    obtain ⟨V9, hs9, hl9, HT9⟩ := S13.out.no (b := b) (L.out.1 rfl)
    go_wp2_with fail
    refine bodyPost_ret ?_ rfl HT9.out; simp [results, Tryz.results12, go_sem, hl9]
   | some r =>
    obtain ⟨p9, c9, hb9, hs9', _⟩ := Rx.cells RD
    have g9 := blk2 hb9
    have hr63 : r.length ≤ 9223372036854775807 := by obtain ⟨_, _, _, y1, y2⟩ := hs9'.len; unfold maxLen at y2; omega
    clear hb9 RD hs9'
    have L1 := L.out.2 r rfl
    by_cases hr0 : r = []
    case neg =>
     have hpos : 0 < r.length := List.length_pos_iff.2 hr0
     have hno : takeM b = none := by rcases ZC.out with hz0 | hz5; exact (L1.2 hz0).1 hr0; exact L1.1 (by rw [hz5]; decide)
     obtain ⟨V9, hs9, hl9, HT9⟩ := S13.out.no (b := b) (hno)
     clear L1 hno hr0 L
     go_wp2_with fail
     refine bodyPost_ret ?_ rfl HT9.out; simp [results, Tryz.results12, go_sem, hl9]
    subst hr0
    rcases ZC.out with hz0 | hz5
    case inr =>
     have hno := L1.1 (by rw [hz5]; decide)
     subst hz5
     obtain ⟨V9, hs9, hl9, HT9⟩ := S13.out.no (b := b) (hno)
     clear L1 hno L
     go_wp2_with fail
     refine bodyPost_ret ?_ rfl HT9.out; simp [results, Tryz.results12, go_sem, hl9]
    subst hz0
    have hY := (L1.2 rfl).2 rfl
    have gW := load_whole S13.out.2.1 (by simp [Ms.cells]) Tryz.underlying37 (by kernel_rfl)
    obtain ⟨my, hmy, CM⟩ := S13.out.may
    rw [hmy] at hY
    have C9 := Lib.hid CM
    have HY := Lib.hid hY
    clear CM hY hmy L1 L
    go_wp2_with fail
    refine C9.out.mono ?_
    rintro e X9 ⟨rfl, k9⟩
    have S9 := Lib.hid (S13.out.old k9)
    clear k9 gW C9
    cases my
    ·have hno : takeM b = none := HY.out
     obtain ⟨V9, hs9, hl9, HT9⟩ := S9.out.no (b := b) (hno)
     clear hno
     go_wp2_with fail
     refine bodyPost_ret ?_ rfl HT9.out; simp [results, Tryz.results12, go_sem, hl9]
    have gW := load_whole S9.out.2.1 (by simp [Ms.cells]) Tryz.underlying37 (by kernel_rfl)
    obtain ⟨V9, hs9, hl9, ht9⟩ := S9.out.yes (b := b) HY.out
    have HT9 := Lib.hid ht9
    clear ht9
    go_wp2_with fail
    refine bodyPost_ret ?_ rfl HT9.out; simp [results, Tryz.results12, go_sem, hl9]
  ·have S3 : Hid (TkS w mb (some l1) { zeroMs with kind := 5 } W2) := S3
   have PW := partsR S3.out.2.1
   have pk : (loadVar 3 ⟨mb, 0, none⟩).run Tryz.prog _ = .ok (.int .i64 5) _ := PW.kind
   have pth := True.intro
   clear PW
   go_wp2_with fail
   refine (rxnum_any (w.heap.size + 1) _ _ S3.out.1).mono ?_
   rintro e X1 ⟨m1, rfl, h64, hn, hr, hk⟩
   have T1 := Lib.hid (S3.out.num hr hk)
   have N1 := Lib.hid (And.intro h64 hn)
   clear h64 hn hr hk pk pth
   obtain ⟨zz1, hzz1⟩ : ∃ z, IntKind.i64.wrap (m1 : Int) = z := ⟨_, rfl⟩
   have hI1 : I64 zz1 := hzz1 ▸ i64_wrap _
   have hW1 := Lib.hid (show m1 ≤ mMost → zz1 = m1 from fun h => by have h2 : m1 ≤ 1099511627777 := h; rw [← hzz1, IntKind.wrap_i64]; omega)
   obtain ⟨Y1, hs1, bj, kj⟩ := store_tbR T1.out.2.1 zz1
   have S11 := Lib.hid (T1.out.put bj kj (by have h := T1.out.2.2.2.2.1; exact ⟨h.1, h.2.1, h.2.2.1, ⟨h.2.2.2.1.1, h.2.2.2.1.2.1, hI1⟩, h.2.2.2.2⟩))
   clear bj kj
   have PW := partsR S11.out.2.1
   have pk : (loadVar 3 ⟨mb, 0, none⟩).run Tryz.prog _ = .ok (.int .i64 5) _ := PW.kind
   have pth := True.intro
   clear PW
   go_wp2_with fail
   refine (rxnum_any (w.heap.size + 1) _ _ S11.out.1).mono ?_
   rintro e X2 ⟨m2, rfl, h64, hn, hr, hk⟩
   have T2 := Lib.hid (S11.out.num hr hk)
   have N2 := Lib.hid (And.intro h64 hn)
   clear h64 hn hr hk pk pth
   obtain ⟨Y2, hs2, bj, kj⟩ := store_lifeR T2.out.2.1 m2
   have S12 := Lib.hid (T2.out.put bj kj (by have h := T2.out.2.2.2.2.1; exact ⟨h.1, h.2.1, h.2.2.1, h.2.2.2.1, h.2.2.2.2.1, N2.out.1, h.2.2.2.2.2.2⟩))
   clear bj kj
   have PW := partsR S12.out.2.1
   have pk : (loadVar 3 ⟨mb, 0, none⟩).run Tryz.prog _ = .ok (.int .i64 5) _ := PW.kind
   have pth := True.intro
   clear PW
   go_wp2_with fail
   refine (rxnum_any (w.heap.size + 1) _ _ S12.out.1).mono ?_
   rintro e X3 ⟨m3, rfl, h64, hn, hr, hk⟩
   have T3 := Lib.hid (S12.out.num hr hk)
   have N3 := Lib.hid (And.intro h64 hn)
   clear h64 hn hr hk pk pth
   obtain ⟨Y3, hs3, bj, kj⟩ := store_countR T3.out.2.1 m3
   have S13 := Lib.hid (T3.out.put bj kj (by have h := T3.out.2.2.2.2.1; exact ⟨h.1, h.2.1, h.2.2.1, h.2.2.2.1, h.2.2.2.2.1, h.2.2.2.2.2.1, N3.out.1, h.2.2.2.2.2.2.2⟩))
   clear bj kj
   have PW := partsR S13.out.2.1
   have pk : (loadVar 3 ⟨mb, 0, none⟩).run Tryz.prog _ = .ok (.int .i64 5) _ := PW.kind
   have pth := True.intro
   clear PW
   go_wp2_with fail
   refine (rxnum_any (w.heap.size + 1) _ _ S13.out.1).mono ?_
   rintro e X4 ⟨m4, rfl, h64, hn, hr, hk⟩
   have T4 := Lib.hid (S13.out.num hr hk)
   have N4 := Lib.hid (And.intro h64 hn)
   clear h64 hn hr hk pk pth
   obtain ⟨zz4, hzz4⟩ : ∃ z, IntKind.i64.wrap (m4 : Int) = z := ⟨_, rfl⟩
   have hI4 : I64 zz4 := hzz4 ▸ i64_wrap _
   have hW4 := Lib.hid (show m4 ≤ mMost → zz4 = m4 from fun h => by have h2 : m4 ≤ 1099511627777 := h; rw [← hzz4, IntKind.wrap_i64]; omega)
   obtain ⟨Y4, hs4, bj, kj⟩ := store_pubR T4.out.2.1 zz4
   have S14 := Lib.hid (T4.out.put bj kj (by have h := T4.out.2.2.2.2.1; exact ⟨h.1, h.2.1, h.2.2.1, ⟨h.2.2.2.1.1, hI4, h.2.2.2.1.2.2⟩, h.2.2.2.2⟩))
   clear bj kj
   have PW := partsR S14.out.2.1
   have pk : (loadVar 3 ⟨mb, 0, none⟩).run Tryz.prog _ = .ok (.int .i64 5) _ := PW.kind
   have pth := True.intro
   clear PW
   go_wp2_with fail
   refine (rxtext_any (w.heap.size + 1) _ _ S14.out.1).mono ?_
   rintro e X5 ⟨p5, c5, F, rfl, hs, hne, hlen, hF, hr, hk⟩
   have T5 := Lib.hid (S14.out.num hr hk)
   have NF := Lib.hid (show isX _ F from hF)
   have SF := Lib.hid hs
   clear hs hne hlen hF hr hk pk pth
   go_wp2_with fail
   refine (ref_take_pred_o _ F _ SF.out).mono ?_
   rintro e X6 ⟨p6, nn, c6, cs, z, rfl, k3, ho, hg, hz⟩
   have hmX : mb < _ := lt_of_heap T5.out.2.1
   have Q6 := Lib.hid (T5.out.old k3)
   have OO := Lib.hid (And.intro (ho.mono' hmX) hg)
   have ZZ := Lib.hid hz
   clear k3 ho hg hz hmX
   obtain ⟨Y6, hs6, bj, kj⟩ := store_predR Q6.out.2.1 p6 nn c6 cs
   have S16 := Lib.hid (Q6.out.put bj kj (by have h := Q6.out.2.2.2.2.1; exact ⟨OO.out, h.2⟩))
   clear bj kj
   have TP := Lib.hid (show TakP F (cs.map Con.plain) z by rcases ZZ.out with ⟨ht, hz⟩ | ⟨ht, _, hz⟩; exact Or.inl ⟨ht, hz, by rw [(takeP_law ht).2.1]; exact Nat.le_trans (predForm_le (S16.out.2.2.2.2.1.fine).1.1 (takeP_law ht).1) (by decide)⟩; exact Or.inr ⟨ht, hz⟩)
   have ZC : z = 0 ∨ z = 5 := by rcases ZZ.out with ⟨_, hz⟩ | ⟨_, _, hz⟩; exact Or.inl hz; exact Or.inr hz
   have ZC := Lib.hid ZC
   have PW := partsR S16.out.2.1
   have pk : (loadVar 3 ⟨mb, 0, none⟩).run Tryz.prog _ = .ok (.int .i64 5) _ := PW.kind
   have pth := True.intro
   clear PW
   go_wp2_with fail
   refine (rxnum_any (w.heap.size + 1) _ _ S16.out.1).mono ?_
   rintro e X7 ⟨m7, rfl, h64, hn, hr, hk⟩
   have T7 := Lib.hid (S16.out.num hr hk)
   have N7 := Lib.hid (And.intro h64 hn)
   clear h64 hn hr hk pk pth
   obtain ⟨Y7, hs7, bj, kj⟩ := store_fromR T7.out.2.1 m7
   have S17 := Lib.hid (T7.out.put bj kj (by have h := T7.out.2.2.2.2.1; exact ⟨h.1, h.2.1, h.2.2.1, h.2.2.2.1, h.2.2.2.2.1, h.2.2.2.2.2.1, h.2.2.2.2.2.2.1, N7.out.1⟩))
   clear bj kj
   have PW := partsR S17.out.2.1
   have pk : (loadVar 3 ⟨mb, 0, none⟩).run Tryz.prog _ = .ok (.int .i64 5) _ := PW.kind
   have pth := True.intro
   clear PW
   have LW := Lib.hid (S17.out.law (law5 hp N1.out.2 hW1.out N2.out.2 N3.out.2 N4.out.2 hW4.out NF.out TP.out N7.out.2))
   have RD := S17.out.1
   obtain ⟨stN, hstN⟩ : ∃ s, s = (nxt (nxX (nxt (nxt (nxt (nxt (some l1))))))) := ⟨_, rfl⟩
   have LW2 := LW.out
   change Law b (nxt (nxX (nxt (nxt (nxt (nxt (some l1))))))) _ _ at LW2
   rw [← hstN] at LW2
   change Rx _ _ (nxt (nxX (nxt (nxt (nxt (nxt (some l1))))))) at RD
   rw [← hstN] at RD
   have L := Lib.hid LW2
   clear LW LW2 hstN
   cases stN with
   | none =>
    obtain ⟨p9, n9, c9, hb9⟩ := Rx.bad RD
    have g9 := blk2 hb9
    clear hb9 RD
    obtain ⟨V9, hs9, hl9, HT9⟩ := S17.out.no (b := b) (L.out.1 rfl)
    go_wp2_with fail
    refine bodyPost_ret ?_ rfl HT9.out; simp [results, Tryz.results12, go_sem, hl9]
   | some r =>
    obtain ⟨p9, c9, hb9, hs9', _⟩ := Rx.cells RD
    have g9 := blk2 hb9
    have hr63 : r.length ≤ 9223372036854775807 := by obtain ⟨_, _, _, y1, y2⟩ := hs9'.len; unfold maxLen at y2; omega
    clear hb9 RD hs9'
    have L1 := L.out.2 r rfl
    by_cases hr0 : r = []
    case neg =>
     have hpos : 0 < r.length := List.length_pos_iff.2 hr0
     have hno : takeM b = none := by rcases ZC.out with hz0 | hz5; exact (L1.2 hz0).1 hr0; exact L1.1 (by rw [hz5]; decide)
     obtain ⟨V9, hs9, hl9, HT9⟩ := S17.out.no (b := b) (hno)
     clear L1 hno hr0 L
     go_wp2_with fail
     refine bodyPost_ret ?_ rfl HT9.out; simp [results, Tryz.results12, go_sem, hl9]
    subst hr0
    rcases ZC.out with hz0 | hz5
    case inr =>
     have hno := L1.1 (by rw [hz5]; decide)
     subst hz5
     obtain ⟨V9, hs9, hl9, HT9⟩ := S17.out.no (b := b) (hno)
     clear L1 hno L
     go_wp2_with fail
     refine bodyPost_ret ?_ rfl HT9.out; simp [results, Tryz.results12, go_sem, hl9]
    subst hz0
    have hY := (L1.2 rfl).2 rfl
    have gW := load_whole S17.out.2.1 (by simp [Ms.cells]) Tryz.underlying37 (by kernel_rfl)
    obtain ⟨my, hmy, CM⟩ := S17.out.may
    rw [hmy] at hY
    have C9 := Lib.hid CM
    have HY := Lib.hid hY
    clear CM hY hmy L1 L
    go_wp2_with fail
    refine C9.out.mono ?_
    rintro e X9 ⟨rfl, k9⟩
    have S9 := Lib.hid (S17.out.old k9)
    clear k9 gW C9
    cases my
    ·have hno : takeM b = none := HY.out
     obtain ⟨V9, hs9, hl9, HT9⟩ := S9.out.no (b := b) (hno)
     clear hno
     go_wp2_with fail
     refine bodyPost_ret ?_ rfl HT9.out; simp [results, Tryz.results12, go_sem, hl9]
    have gW := load_whole S9.out.2.1 (by simp [Ms.cells]) Tryz.underlying37 (by kernel_rfl)
    obtain ⟨V9, hs9, hl9, ht9⟩ := S9.out.yes (b := b) HY.out
    have HT9 := Lib.hid ht9
    clear ht9
    go_wp2_with fail
    refine bodyPost_ret ?_ rfl HT9.out; simp [results, Tryz.results12, go_sem, hl9]
  ·have S3 : Hid (TkS w mb (some l1) { zeroMs with kind := 6 } W2) := S3
   have PW := partsR S3.out.2.1
   have pk : (loadVar 3 ⟨mb, 0, none⟩).run Tryz.prog _ = .ok (.int .i64 6) _ := PW.kind
   have pth := True.intro
   clear PW
   go_wp2_with fail
   refine (rxnum_any (w.heap.size + 1) _ _ S3.out.1).mono ?_
   rintro e X1 ⟨m1, rfl, h64, hn, hr, hk⟩
   have T1 := Lib.hid (S3.out.num hr hk)
   have N1 := Lib.hid (And.intro h64 hn)
   clear h64 hn hr hk pk pth
   obtain ⟨zz1, hzz1⟩ : ∃ z, IntKind.i64.wrap (m1 : Int) = z := ⟨_, rfl⟩
   have hI1 : I64 zz1 := hzz1 ▸ i64_wrap _
   have hW1 := Lib.hid (show m1 ≤ mMost → zz1 = m1 from fun h => by have h2 : m1 ≤ 1099511627777 := h; rw [← hzz1, IntKind.wrap_i64]; omega)
   obtain ⟨Y1, hs1, bj, kj⟩ := store_tbR T1.out.2.1 zz1
   have S11 := Lib.hid (T1.out.put bj kj (by have h := T1.out.2.2.2.2.1; exact ⟨h.1, h.2.1, h.2.2.1, ⟨h.2.2.2.1.1, h.2.2.2.1.2.1, hI1⟩, h.2.2.2.2⟩))
   clear bj kj
   have PW := partsR S11.out.2.1
   have pk : (loadVar 3 ⟨mb, 0, none⟩).run Tryz.prog _ = .ok (.int .i64 6) _ := PW.kind
   have pth := True.intro
   clear PW
   go_wp2_with fail
   refine (rxnum_any (w.heap.size + 1) _ _ S11.out.1).mono ?_
   rintro e X2 ⟨m2, rfl, h64, hn, hr, hk⟩
   have T2 := Lib.hid (S11.out.num hr hk)
   have N2 := Lib.hid (And.intro h64 hn)
   clear h64 hn hr hk pk pth
   obtain ⟨Y2, hs2, bj, kj⟩ := store_lifeR T2.out.2.1 m2
   have S12 := Lib.hid (T2.out.put bj kj (by have h := T2.out.2.2.2.2.1; exact ⟨h.1, h.2.1, h.2.2.1, h.2.2.2.1, h.2.2.2.2.1, N2.out.1, h.2.2.2.2.2.2⟩))
   clear bj kj
   have PW := partsR S12.out.2.1
   have pk : (loadVar 3 ⟨mb, 0, none⟩).run Tryz.prog _ = .ok (.int .i64 6) _ := PW.kind
   have pth := True.intro
   clear PW
   go_wp2_with fail
   refine (rxnum_any (w.heap.size + 1) _ _ S12.out.1).mono ?_
   rintro e X3 ⟨m3, rfl, h64, hn, hr, hk⟩
   have T3 := Lib.hid (S12.out.num hr hk)
   have N3 := Lib.hid (And.intro h64 hn)
   clear h64 hn hr hk pk pth
   obtain ⟨Y3, hs3, bj, kj⟩ := store_countR T3.out.2.1 m3
   have S13 := Lib.hid (T3.out.put bj kj (by have h := T3.out.2.2.2.2.1; exact ⟨h.1, h.2.1, h.2.2.1, h.2.2.2.1, h.2.2.2.2.1, h.2.2.2.2.2.1, N3.out.1, h.2.2.2.2.2.2.2⟩))
   clear bj kj
   have PW := partsR S13.out.2.1
   have pk : (loadVar 3 ⟨mb, 0, none⟩).run Tryz.prog _ = .ok (.int .i64 6) _ := PW.kind
   have pth := True.intro
   clear PW
   go_wp2_with fail
   refine (rxnum_any (w.heap.size + 1) _ _ S13.out.1).mono ?_
   rintro e X4 ⟨m4, rfl, h64, hn, hr, hk⟩
   have T4 := Lib.hid (S13.out.num hr hk)
   have N4 := Lib.hid (And.intro h64 hn)
   clear h64 hn hr hk pk pth
   obtain ⟨zz4, hzz4⟩ : ∃ z, IntKind.i64.wrap (m4 : Int) = z := ⟨_, rfl⟩
   have hI4 : I64 zz4 := hzz4 ▸ i64_wrap _
   have hW4 := Lib.hid (show m4 ≤ mMost → zz4 = m4 from fun h => by have h2 : m4 ≤ 1099511627777 := h; rw [← hzz4, IntKind.wrap_i64]; omega)
   obtain ⟨Y4, hs4, bj, kj⟩ := store_pubR T4.out.2.1 zz4
   have S14 := Lib.hid (T4.out.put bj kj (by have h := T4.out.2.2.2.2.1; exact ⟨h.1, h.2.1, h.2.2.1, ⟨h.2.2.2.1.1, hI4, h.2.2.2.1.2.2⟩, h.2.2.2.2⟩))
   clear bj kj
   have PW := partsR S14.out.2.1
   have pk : (loadVar 3 ⟨mb, 0, none⟩).run Tryz.prog _ = .ok (.int .i64 6) _ := PW.kind
   have pth := True.intro
   clear PW
   go_wp2_with fail
   refine (rxtext_any (w.heap.size + 1) _ _ S14.out.1).mono ?_
   rintro e X5 ⟨p5, c5, F, rfl, hs, hne, hlen, hF, hr, hk⟩
   have T5 := Lib.hid (S14.out.num hr hk)
   have NF := Lib.hid (show isX _ F from hF)
   have SF := Lib.hid hs
   clear hs hne hlen hF hr hk pk pth
   go_wp2_with fail
   refine (ref_take_page_o _ F _ SF.out).mono ?_
   rintro e X6 ⟨fr, en, p6, n6, c6, its, q6, g6, d6, gs, last, z, rfl, k3, ho, hog, hnn, hz⟩
   have hmX : mb < _ := lt_of_heap T5.out.2.1
   have Q6 := Lib.hid (T5.out.old k3)
   have OO := Lib.hid (And.intro (And.intro (ho.mono' hmX) (hog.mono hmX)) hnn)
   have ZZ := Lib.hid hz
   clear k3 ho hog hnn hz hmX
   obtain ⟨Y6, hs6, bj, kj⟩ := store_pageR Q6.out.2.1 fr en p6 n6 c6 its q6 g6 d6 gs last
   have S16 := Lib.hid (Q6.out.put bj kj (by have h := Q6.out.2.2.2.2.1; exact ⟨h.1, h.2.1, OO.out, h.2.2.2⟩))
   clear bj kj
   have TP := Lib.hid (show (takeG F = some ⟨fr, en, its.map It.plain, gs, last⟩ ∧ z = 0 ∧ F.length ≤ 1048576) ∨ (takeG F = none ∧ z = 5) by rcases ZZ.out with ⟨ht, hz⟩ | ⟨ht, _, _, _, _, _, _, _, hz⟩; exact Or.inl ⟨ht, hz, by rw [(takeG_law ht).2.1]; exact Nat.le_trans (pageForm_le (S16.out.2.2.2.2.1.fine).2.2.1 (takeG_law ht).1) (by decide)⟩; exact Or.inr ⟨ht, hz⟩)
   have ZC : z = 0 ∨ z = 5 := by rcases ZZ.out with ⟨_, hz⟩ | ⟨_, _, _, _, _, _, _, _, hz⟩; exact Or.inl hz; exact Or.inr hz
   have ZC := Lib.hid ZC
   have PW := partsR S16.out.2.1
   have pk : (loadVar 3 ⟨mb, 0, none⟩).run Tryz.prog _ = .ok (.int .i64 6) _ := PW.kind
   have pth := True.intro
   clear PW
   have LW := Lib.hid (S16.out.law (law6 hp N1.out.2 hW1.out N2.out.2 N3.out.2 N4.out.2 hW4.out NF.out TP.out))
   have RD := S16.out.1
   obtain ⟨stN, hstN⟩ : ∃ s, s = (nxX (nxt (nxt (nxt (nxt (some l1)))))) := ⟨_, rfl⟩
   have LW2 := LW.out
   change Law b (nxX (nxt (nxt (nxt (nxt (some l1)))))) _ _ at LW2
   rw [← hstN] at LW2
   change Rx _ _ (nxX (nxt (nxt (nxt (nxt (some l1)))))) at RD
   rw [← hstN] at RD
   have L := Lib.hid LW2
   clear LW LW2 hstN
   cases stN with
   | none =>
    obtain ⟨p9, n9, c9, hb9⟩ := Rx.bad RD
    have g9 := blk2 hb9
    clear hb9 RD
    obtain ⟨V9, hs9, hl9, HT9⟩ := S16.out.no (b := b) (L.out.1 rfl)
    go_wp2_with fail
    refine bodyPost_ret ?_ rfl HT9.out; simp [results, Tryz.results12, go_sem, hl9]
   | some r =>
    obtain ⟨p9, c9, hb9, hs9', _⟩ := Rx.cells RD
    have g9 := blk2 hb9
    have hr63 : r.length ≤ 9223372036854775807 := by obtain ⟨_, _, _, y1, y2⟩ := hs9'.len; unfold maxLen at y2; omega
    clear hb9 RD hs9'
    have L1 := L.out.2 r rfl
    by_cases hr0 : r = []
    case neg =>
     have hpos : 0 < r.length := List.length_pos_iff.2 hr0
     have hno : takeM b = none := by rcases ZC.out with hz0 | hz5; exact (L1.2 hz0).1 hr0; exact L1.1 (by rw [hz5]; decide)
     obtain ⟨V9, hs9, hl9, HT9⟩ := S16.out.no (b := b) (hno)
     clear L1 hno hr0 L
     go_wp2_with fail
     refine bodyPost_ret ?_ rfl HT9.out; simp [results, Tryz.results12, go_sem, hl9]
    subst hr0
    rcases ZC.out with hz0 | hz5
    case inr =>
     have hno := L1.1 (by rw [hz5]; decide)
     subst hz5
     obtain ⟨V9, hs9, hl9, HT9⟩ := S16.out.no (b := b) (hno)
     clear L1 hno L
     go_wp2_with fail
     refine bodyPost_ret ?_ rfl HT9.out; simp [results, Tryz.results12, go_sem, hl9]
    subst hz0
    have hY := (L1.2 rfl).2 rfl
    have gW := load_whole S16.out.2.1 (by simp [Ms.cells]) Tryz.underlying37 (by kernel_rfl)
    obtain ⟨my, hmy, CM⟩ := S16.out.may
    rw [hmy] at hY
    have C9 := Lib.hid CM
    have HY := Lib.hid hY
    clear CM hY hmy L1 L
    go_wp2_with fail
    refine C9.out.mono ?_
    rintro e X9 ⟨rfl, k9⟩
    have S9 := Lib.hid (S16.out.old k9)
    clear k9 gW C9
    cases my
    ·have hno : takeM b = none := HY.out
     obtain ⟨V9, hs9, hl9, HT9⟩ := S9.out.no (b := b) (hno)
     clear hno
     go_wp2_with fail
     refine bodyPost_ret ?_ rfl HT9.out; simp [results, Tryz.results12, go_sem, hl9]
    have gW := load_whole S9.out.2.1 (by simp [Ms.cells]) Tryz.underlying37 (by kernel_rfl)
    obtain ⟨V9, hs9, hl9, ht9⟩ := S9.out.yes (b := b) HY.out
    have HT9 := Lib.hid ht9
    clear ht9
    go_wp2_with fail
    refine bodyPost_ret ?_ rfl HT9.out; simp [results, Tryz.results12, go_sem, hl9]
end
end Go.Proofs.YtpjpimahnnekkaaGreat
