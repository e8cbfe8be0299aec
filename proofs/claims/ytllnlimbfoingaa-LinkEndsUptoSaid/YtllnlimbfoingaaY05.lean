/- DERIVED. Chapter 20: New, acked, packet; clones of any length. -/
import Derived.Test.YtllnlimbfoingaaY04
import Derived.Deep.LoopGhost
import Derived.Deep.DeepCutAuto
import Derived.Deep.QuietTactic
import Derived.BigQuiet
import Derived.Deep.RegionHeld3
namespace Go.Proofs.Ytllnlimbfoingaa
open Go.RowKit Go.Conc

/-- a call hands back a slice of its own that reads as l; nothing that was there has turned -/
def Gives20 (w : World) (l : List UInt8) (e : Ending) (w' : World) : Prop := ∃ p n c, e = .returned (.slice p n c) ∧ Owns w' w.heap.size (.slice p n c) l ∧ Old w w'
theorem gives20 {w w' : World} {l : List UInt8} {e : Ending} {v : Value} (he : e = .returned v) (ho : Owns w' w.heap.size v l) (hk : Old w w') : Gives20 w l e w' := by
 obtain ⟨p, c, rfl, _, _⟩ := ho.sees.len
 exact ⟨p, _, c, he, ho, hk⟩
/-- append(own.., seen..), of any length -/
theorem wpList_append_big {w : World} {ops : Array Oper} {rest : List Oper} {o : Oper} {a : Act} {Q : Exit → Act → World → Prop} (hgd : o.guard = none) (s x : Operand)
  (ho : o.op = .call { callee := .builtin .append, args := #[s, x], argTypes := #[32, 32] })
  (B : Nat) (v : Value) (l : List UInt8) (hs : a.eval s = v) (hown : Owns w B v l) (u : Value) (m : List UInt8) (hx : a.eval x = u) (hu : Sees w u m)
  (hlen : l.length + m.length ≤ 140737488355328) (hB : B ≤ w.heap.size)
  (h : ∀ v' w', Owns w' B v' (l ++ m) → w.grownBy w' v.ownBlock → wpList Try.prog ops Q rest (a.put o.dst v') w') : wpList Try.prog ops Q (o :: rest) a w := by
 obtain ⟨p, c, rfl, h1, h2, h3, h4⟩ := hu
 obtain ⟨i0, hi, hz0, hz1, hz2⟩ := info_parts Try.infoU8
 cases p with
 | none =>
  obtain rfl := h3 rfl
  obtain rfl : m = [] := List.eq_nil_of_length_eq_zero (by omega)
  exact wpList_append_own_none hgd s x 32 ho B 5 i0 1 Try.underlying32 hi v l.length (l.map u8) hs hown hx (h v w (by simpa using hown) (World.grownBy.refl _ _))
 | some ad =>
  refine wpList_append_own w hgd s x 32 ho B 5 i0 (.int .u8 0) 1 1 Try.underlying32 hi hz0 hz1 hz2 rfl (by decide) v l.length (l.map u8) hs hown
   ad m.length c (m.map u8) hx (by simp) ?_ (oneCell_u8 m) (by unfold maxLen; omega) (by omega) hB ?_
  ·intro j z hz
   rw [List.getElem?_map, Option.map_eq_some_iff] at hz
   obtain ⟨b, hb, rfl⟩ := hz
   exact (h4 ad rfl).2 j b hb
  ·intro v' w' ho' hg' _
   exact h v' w' (by unfold Owns; simpa using ho') hg'
theorem bclone20 (v : Value) (l : List UInt8) (w : World) (h : Sees w v l) (hl : l.length ≤ 140737488355328) : Calls Try.prog 37 #[v] w (Gives20 w l) := by
 obtain ⟨p, c, rfl, h1, h2, h3, h4⟩ := id h
 have hnil := eql_nil
 cases p with
 | none =>
  obtain rfl := h3 rfl
  obtain rfl : l = [] := List.eq_nil_of_length_eq_zero (by omega)
  go_enter Try.func37, Try.ntmps37
  go_wp2_with fail
  go_ret
  exact gives20 rfl (Owns.nil _ _) (Keeps.refl _ _)
 | some ad =>
  clear h3 h4
  go_enter Try.func37, Try.ntmps37
  go_wp2_with (at_builtin; refine wpList_append_big rfl _ _ rfl w.heap.size (.slice (some ⟨w.heap.size, 0, none⟩) 0 0) [] rfl (Owns.lit w w.heap.size [] (Nat.le_refl _) (Nat.zero_le _)) _ l rfl (h.alloc _) (by simp; omega) (by simp) ?_; intro v' w1 ho hg)
  go_ret
  exact gives20 rfl ho (((Keeps.refl _ _).alloc _).grown hg (fun k hk => by simp [Value.ownBlock] at hk; omega))
theorem own20 (v : Value) (l : List UInt8) (w : World) (h : Sees w v l) (hl : l.length ≤ 140737488355328) : Calls Try.prog 35 #[v] w (Gives20 w l) := by
 go_enter Try.func35, Try.ntmps35
 go_wp2_with (at_builtin; refine wpList_append_big rfl _ _ rfl w.heap.size (.slice none 0 0) [] rfl (Owns.nil _ _) _ l rfl h (by simp; omega) (Nat.le_refl _) ?_; intro v' w1 ho hg)
 go_ret
 exact gives20 rfl ho ((Keeps.refl _ _).grown hg (fun k hk => by simp [Value.ownBlock] at hk))

/-- New of life 0 -/
theorem lnew_no (w : World) : Calls Try.prog 9 #[.int .u64 0] w fun e w' => e = .returned (.tuple #[.pointer none, .int .i64 1]) ∧ w = w' := by
 go_enter Try.func9, Try.ntmps9
 go_wp2_with fail
 go_ret2
 exact ⟨rfl, rfl⟩
def Lv.new (life c : Nat) : Lv := ⟨life, 0, .slice none 0 0, [], c, [], 0, 1, false, true, false⟩
theorem Lv.new_reads (life c : Nat) (w : World) : (Lv.new life c).reads w := ⟨SeesR.nil w, (fun x hx => by cases hx), (fun x hx => by cases hx)⟩
theorem lnew_yes (life : Nat) (hl : 1 ≤ life) (w : World) : Calls Try.prog 9 #[.int .u64 (life : Int)] w fun e w' => e = .returned (.tuple #[.pointer (some ⟨w.heap.size, 0, none⟩), .int .i64 0]) ∧ LkM w' w.heap.size (Lv.new life (w.heap.size + 1)) ∧ Old w w' ∧ w.heap.size + 2 ≤ w'.heap.size := by
 have d : (((life : Nat) : Int) == 0) = false := by simp; omega
 obtain ⟨w1, hw1⟩ : ∃ w1, w.alloc (.cells #[.int .u64 (life : Int), .int .u64 0, .slice none 0 0, .chan none, .int .u64 0, .int .u64 0, .bool false, .bool false, .bool false] 85) = w1 := ⟨_, rfl⟩
 have b1 : w1.heap[w.heap.size]? = some (.cells #[.int .u64 (life : Int), .int .u64 0, .slice none 0 0, .chan none, .int .u64 0, .int .u64 0, .bool false, .bool false, .bool false] 85 (0, 0)) := by rw [← hw1]; exact heap_alloc_new _ _
 have s1 : w1.heap.size = w.heap.size + 1 := by rw [← hw1]; simp
 have o1 : Old w w1 := by rw [← hw1]; exact (Keeps.refl _ _).alloc _
 have C := Lib.hid (anew_any w.heap.size _ _ _ _ _ _ _ _ _ 0 w1 b1)
 have H := Lib.hid (And.intro s1 o1)
 clear s1 o1 b1 hl
 go_enter Try.func9, Try.ntmps9
 go_wp2_with fail
 refine C.out.mono ?_
 rintro e w2 ⟨rfl, h1, h2, h3⟩
 have F := Lib.hid (And.intro h1 (And.intro h2 h3))
 clear h1 h2 h3
 go_wp2_with fail
 go_ret2
 obtain ⟨h1, h2, h3⟩ := F.out
 obtain ⟨s1, o1⟩ := H.out
 rw [s1] at h1 h2
 refine ⟨rfl, ⟨h1, h2, by show w.heap.size ≠ w.heap.size + 1; omega⟩, o1.then h3 (fun i hi e => by omega), ?_⟩
 have := h2.lt
 omega

theorem Lv.reads_sl {L : Lv} {w : World} (h : L.reads w) : ∀ f ∈ L.F, ∃ p n c, f.v = .slice p n c := fun f hf => by
 obtain ⟨p, c, hv, _⟩ := (h.2.2 f hf).1.len
 exact ⟨p, _, c, hv⟩
/-- those that a packet lets stay -/
def ackB (ack : Nat) (f : Fl) : Bool := decide (ack ≤ f.seq)
set_option maxRecDepth 100000 in
theorem acked_any (lb : Nat) (L : Lv) (ack : Nat) (w : World) (h : LkM w lb L) (hs : ∀ f ∈ L.F, ∃ p n c, f.v = .slice p n c) (hl : L.F.length ≤ 8) :
  Calls Try.prog 38 #[.pointer (some ⟨lb, 0, none⟩), .int .u64 (ack : Int)] w fun e w' => e = .returned (.tuple #[]) ∧ LkM w' lb { L with F := L.F.filter (ackB ack) } ∧ Keeps (fun k => k = L.c) w w' := by
 have C := Lib.hid (all_any lb L.c L.F w h.2.1 hl (blk9 h.1).1.2.2.2.1 h.2.2 hs)
 have H := Lib.hid (And.intro h (And.intro hs hl))
 clear h hs hl
 go_enter Try.func38, Try.ntmps38
 go_wp2_with fail
 refine C.out.mono ?_
 rintro e w1 ⟨v, rfl, ho, hw, hk⟩
 have hse := ho.sees (fun _ => rfl) (by decide)
 obtain ⟨p, c, hv, hle, hmx⟩ := hse.len
 subst hv
 have h1 := H.out.1.win [] hk hw
 have lt1 : L.c < w1.heap.size := hw.lt
 have hob : ∀ b, (Value.slice p L.F.length c).ownBlock = some b → b ≠ L.c := fun b hb e => by have := (ho.block b hb).1; have := H.out.1.2.1.lt; omega
 have hlm : L.F.length ≤ 9223372036854775807 := by have := H.out.2.2; omega
 have K := Lib.hid (And.intro hk (And.intro h1 (And.intro hse (And.intro hob hw))))
 clear hk h1 ho hw lt1 hob hle hmx hse
 go_wp2_with fail
 go_loopg [9] L.F.length (fun n i wm => ∃ k : Nat, k ≤ L.F.length ∧ n = L.F.length - k ∧ i = .int .i64 (k : Int) ∧ Win wm L.c ((L.F.take k).filter (ackB ack)) ∧ Keeps (fun j => j = L.c) w1 wm)
 case atStart => exact ⟨0, Nat.zero_le _, rfl, rfl, K.out.2.2.2.2, Keeps.refl _ _⟩
 case round =>
  obtain ⟨k, hk, rfl, rfl, hw, hkm⟩ := hrel
  by_cases hlt : k < L.F.length
  ·have hsm := K.out.2.2.1.keeps hkm K.out.2.2.2.1
   obtain ⟨b, o, c', hv, _, _, hat⟩ := hsm.at (by omega)
   simp only [Value.slice.injEq] at hv
   obtain ⟨rfl, _, rfl⟩ := hv
   obtain ⟨⟨q, fv, fd⟩, hf⟩ : ∃ f, L.F[k]? = some f := ⟨_, List.getElem?_eq_getElem hlt⟩
   obtain ⟨fp, fn, fc, rfl⟩ : ∃ p n c, fv = .slice p n c := H.out.2.1 ⟨q, fv, fd⟩ (List.mem_of_getElem? hf)
   have a0 : wr.cell? ⟨b, o + k * 2, none⟩ = some (.int .u64 (q : Int)) := hat k _ hf 0 _ rfl
   have a1 : wr.cell? ⟨b, o + k * 2 + 1, none⟩ = some (.slice fp fn fc) := hat k _ hf 1 _ rfl
   obtain ⟨w2, hw2⟩ : ∃ w2, wr.alloc (.cells #[.int .u64 (q : Int), .slice fp fn fc] 92) = w2 := ⟨_, rfl⟩
   have c20 : w2.cell? ⟨wr.heap.size, 0, none⟩ = some (.int .u64 (q : Int)) := by rw [← hw2]; simp
   have c21 : w2.cell? ⟨wr.heap.size, 1, none⟩ = some (.slice fp fn fc) := by rw [← hw2]; simp
   have o2 : Old wr w2 := by rw [← hw2]; exact (Keeps.refl _ _).alloc _
   have hk2 : Keeps (fun j => j = L.c) w1 w2 := hkm.trans (o2.weaken (fun _ _ f => f.elim))
   have hwin2 := hw.keeps o2 (fun f => f)
   have hlen : ((L.F.take k).filter (ackB ack)).length < 8 := by
    have h1 := List.length_filter_le (ackB ack) (L.F.take k)
    have h2 := H.out.2.2
    simp at h1
    omega
   have htk : L.F.take (k + 1) = L.F.take k ++ [⟨q, .slice fp fn fc, fd⟩] := by
    rw [List.take_succ_eq_append_getElem hlt]
    congr 2
    rw [List.getElem?_eq_getElem hlt] at hf
    exact Option.some.inj hf
   have HT := Lib.hid (And.intro htk (And.intro hk2 hwin2))
   have HLY := Lib.hid (fun h3 => lay_room lb L.c _ w2 q fp fn fc fd hwin2 hlen h3)
   have h3 : w2.cell? ⟨lb, 3, none⟩ = some (.chan (some L.c)) := hk2.cell (blk9 K.out.2.1.1).1.2.2.2.1 H.out.1.2.2
   clear hw hkm hsm hat hf o2 hk2 hwin2 hlen htk
   by_cases hq : ack ≤ q
   ·have d : decide ((q : Int) ≥ (ack : Int)) = true := by simp; omega
    go_wp2_with fail
    refine (HLY.out h3).mono ?_
    rintro e w3 ⟨rfl, hw3, hk3⟩
    have H3 := Lib.hid (And.intro hw3 hk3)
    clear hw3 hk3
    go_wp2_with fail
    go_roundg (L.F.length - (k + 1))
    case measure => omega
    case rel =>
     refine ⟨k + 1, by omega, rfl, by go_num, ?_, HT.out.2.1.trans H3.out.2⟩
     have hp : ackB ack ⟨q, .slice fp fn fc, fd⟩ = true := by unfold ackB; exact decide_eq_true hq
     rw [HT.out.1, List.filter_append, List.filter_cons, if_pos hp]
     exact H3.out.1
   ·have d : decide ((q : Int) ≥ (ack : Int)) = false := by simp; omega
    go_wp2_with fail
    go_roundg (L.F.length - (k + 1))
    case measure => omega
    case rel =>
     refine ⟨k + 1, by omega, rfl, by go_num, ?_, HT.out.2.1⟩
     have hp : ackB ack ⟨q, .slice fp fn fc, fd⟩ = false := by unfold ackB; exact decide_eq_false hq
     rw [HT.out.1, List.filter_append, List.filter_cons, if_neg (by rw [hp]; decide)]
     simpa using HT.out.2.2
  ·obtain rfl : k = L.F.length := by omega
   have HW := Lib.hid (And.intro hw hkm)
   clear hw hkm hlt
   go_wp2_with fail
   go_end0
   obtain ⟨hw, hkm⟩ := HW.out
   rw [List.take_length] at hw
   exact ⟨rfl, K.out.2.1.win _ hkm hw, K.out.1.trans hkm⟩

/-- a packet: where its data lie, what it is -/
structure Pv where
 src : Nat
 dst : Nat
 seq : Nat
 ack : Nat
 v : Value
 d : List UInt8
def Pv.cells (p : Pv) : List Value := [.int .u64 (p.src : Int), .int .u64 (p.dst : Int), .int .u64 (p.seq : Int), .int .u64 (p.ack : Int), p.v]
def Pv.plain (p : Pv) : Pk := ⟨p.src, p.dst, p.seq, p.ack, p.d⟩
theorem blk5 {w : World} {b : Nat} {t : TypeId} {a0 a1 a2 a3 a4 : Value} (h : w.heap[b]? = some (.cells #[a0, a1, a2, a3, a4] t (0, 0))) :
  (w.cell? ⟨b, 0, none⟩ = some a0 ∧ w.cell? ⟨b, 1, none⟩ = some a1 ∧ w.cell? ⟨b, 2, none⟩ = some a2 ∧ w.cell? ⟨b, 3, none⟩ = some a3 ∧ w.cell? ⟨b, 4, none⟩ = some a4) ∧
  (w.frozen? ⟨b, 0, none⟩ = false ∧ w.frozen? ⟨b, 1, none⟩ = false ∧ w.frozen? ⟨b, 2, none⟩ = false ∧ w.frozen? ⟨b, 3, none⟩ = false ∧ w.frozen? ⟨b, 4, none⟩ = false) := by simp [World.cell?, World.frozen?, h]
set_option maxRecDepth 100000 in
theorem packet_any (lb : Nat) (L : Lv) (seq : Nat) (v : Value) (d : List UInt8) (w : World) (h : LkM w lb L) (hv : Sees w v d) (hd : d.length ≤ 140737488355328) :
  Calls Try.prog 40 #[.pointer (some ⟨lb, 0, none⟩), .int .u64 (seq : Int), v] w fun e w' => ∃ p n c, e = .returned (.agg #[.int .u64 (L.life : Int), .int .u64 (L.peer : Int), .int .u64 (seq : Int), .int .u64 (L.next : Int), .slice p n c]) ∧
   Owns w' w.heap.size (.slice p n c) d ∧ Old w w' := by
 obtain ⟨vp, vc, rfl, _, _⟩ := hv.len
 have hlt : lb < w.heap.size := (Array.getElem?_eq_some_iff.1 h.1).1
 obtain ⟨w1, hw1⟩ : ∃ w1, w.alloc (.cells #[.int .u64 0, .int .u64 0, .int .u64 0, .int .u64 0, .slice none 0 0] 37) = w1 := ⟨_, rfl⟩
 have o1 : Old w w1 := by rw [← hw1]; exact (Keeps.refl _ _).alloc _
 have b1 : w1.heap[w.heap.size]? = some (.cells #[.int .u64 0, .int .u64 0, .int .u64 0, .int .u64 0, .slice none 0 0] 37 (0, 0)) := by rw [← hw1]; exact heap_alloc_new _ _
 obtain ⟨⟨c0, c1, c2, c3, c4, c5, c6, c7, c8⟩, _⟩ := blk9 (h.old o1).1
 have hS : w1.drew.cell? ⟨lb, 0, none⟩ = some (.int .u64 (L.life : Int)) ∧ w1.drew.cell? ⟨lb, 1, none⟩ = some (.int .u64 (L.peer : Int)) ∧ w1.drew.cell? ⟨lb, 5, none⟩ = some (.int .u64 (L.next : Int)) := ⟨c0, c1, c5⟩
 have C := Lib.hid (bclone20 (.slice vp d.length vc) d w1.drew (hv.old o1.drew) hd)
 have H := Lib.hid (And.intro o1 b1)
 clear h hv o1 b1 c0 c1 c2 c3 c4 c5 c6 c7 c8
 go_enter Try.func40, Try.ntmps40
 go_wp2_with fail
 refine wp_region_g (S := fun w' => w'.cell? ⟨lb, 0, none⟩ = some (.int .u64 (L.life : Int)) ∧ w'.cell? ⟨lb, 1, none⟩ = some (.int .u64 (L.peer : Int)) ∧ w'.cell? ⟨lb, 5, none⟩ = some (.int .u64 (L.next : Int))) (M := [0, 1, 2, 3, 4, 5, 6, 7, 8, 9, 10, 11, 12, 13, 14, 15]) (by kernel_rfl) ?_
 refine wpAnyG_takeL (i := 0) (oi := _) (v := ?vt0) rfl (by kernel_rfl) (by kernel_rfl) (by kernel_rfl) (by kernel_rfl) (fun _ _ _ h => h) (Or.inl ⟨by rfl, ?yt0⟩) hS ?rt0
 case yt0 => (intro W hSw; obtain ⟨y1, y2, y3⟩ := hSw; go_simp; try with_reducible rfl)
 try simp only [Act.put, List.setIfInBounds_toArray, List.set_cons_zero, List.set_cons_succ]
 refine wpAnyG_takeL (i := 1) (oi := _) (v := ?vt1) rfl (by kernel_rfl) (by kernel_rfl) (by kernel_rfl) (by kernel_rfl) (fun _ _ _ h => h) (Or.inl ⟨by rfl, ?yt1⟩) hS ?rt1
 case yt1 => (intro W hSw; obtain ⟨y1, y2, y3⟩ := hSw; go_simp; try with_reducible rfl)
 try simp only [Act.put, List.setIfInBounds_toArray, List.set_cons_zero, List.set_cons_succ]
 refine wpAnyG_takeL (i := 2) (oi := _) (v := ?vt2) rfl (by kernel_rfl) (by kernel_rfl) (by kernel_rfl) (by kernel_rfl) (fun _ _ _ h => h) (Or.inl ⟨by rfl, ?yt2⟩) hS ?rt2
 case yt2 => (intro W hSw; obtain ⟨y1, y2, y3⟩ := hSw; go_simp; try with_reducible rfl)
 try simp only [Act.put, List.setIfInBounds_toArray, List.set_cons_zero, List.set_cons_succ]
 refine wpAnyG_takeL (i := 3) (oi := _) (v := ?vt3) rfl (by kernel_rfl) (by kernel_rfl) (by kernel_rfl) (by kernel_rfl) (fun _ _ _ h => h) (Or.inl ⟨by rfl, ?yt3⟩) hS ?rt3
 case yt3 => (intro W hSw; obtain ⟨y1, y2, y3⟩ := hSw; go_simp; try with_reducible rfl)
 try simp only [Act.put, List.setIfInBounds_toArray, List.set_cons_zero, List.set_cons_succ]
 refine wpAnyG_takeL (i := 4) (oi := _) (v := ?vt4) rfl (by kernel_rfl) (by kernel_rfl) (by kernel_rfl) (by kernel_rfl) (fun _ _ _ h => h) (Or.inl ⟨by rfl, ?yt4⟩) hS ?rt4
 case yt4 => (intro W hSw; obtain ⟨y1, y2, y3⟩ := hSw; go_simp; try with_reducible rfl)
 try simp only [Act.put, List.setIfInBounds_toArray, List.set_cons_zero, List.set_cons_succ]
 refine wpAnyG_takeL (i := 5) (oi := _) (v := ?vt5) rfl (by kernel_rfl) (by kernel_rfl) (by kernel_rfl) (by kernel_rfl) (fun _ _ _ h => h) (Or.inl ⟨by rfl, ?yt5⟩) hS ?rt5
 case yt5 => (intro W hSw; obtain ⟨y1, y2, y3⟩ := hSw; go_simp; try with_reducible rfl)
 try simp only [Act.put, List.setIfInBounds_toArray, List.set_cons_zero, List.set_cons_succ]
 refine wpAnyG_takeL (i := 6) (oi := _) (v := ?vt6) rfl (by kernel_rfl) (by kernel_rfl) (by kernel_rfl) (by kernel_rfl) (fun _ _ _ h => h) (Or.inl ⟨by rfl, ?yt6⟩) hS ?rt6
 case yt6 => (intro W hSw; obtain ⟨y1, y2, y3⟩ := hSw; go_simp; try with_reducible rfl)
 try simp only [Act.put, List.setIfInBounds_toArray, List.set_cons_zero, List.set_cons_succ]
 refine wpAnyG_takeL (i := 7) (oi := _) (v := ?vt7) rfl (by kernel_rfl) (by kernel_rfl) (by kernel_rfl) (by kernel_rfl) (fun _ _ _ h => h) (Or.inl ⟨by rfl, ?yt7⟩) hS ?rt7
 case yt7 => (intro W hSw; obtain ⟨y1, y2, y3⟩ := hSw; go_simp; try with_reducible rfl)
 try simp only [Act.put, List.setIfInBounds_toArray, List.set_cons_zero, List.set_cons_succ]
 refine wpAnyG_takeL (i := 8) (oi := _) (v := ?vt8) rfl (by kernel_rfl) (by kernel_rfl) (by kernel_rfl) (by kernel_rfl) (fun _ _ _ h => h) (Or.inl ⟨by rfl, ?yt8⟩) hS ?rt8
 case yt8 => (intro W hSw; obtain ⟨y1, y2, y3⟩ := hSw; go_simp; try with_reducible rfl)
 try simp only [Act.put, List.setIfInBounds_toArray, List.set_cons_zero, List.set_cons_succ]
 refine wpAnyG_takeL (i := 9) (oi := _) (v := ?vt9) rfl (by kernel_rfl) (by kernel_rfl) (by kernel_rfl) (by kernel_rfl) (fun _ _ _ h => h) (Or.inl ⟨by rfl, ?yt9⟩) hS ?rt9
 case yt9 => (intro W hSw; obtain ⟨y1, y2, y3⟩ := hSw; go_simp; try with_reducible rfl)
 try simp only [Act.put, List.setIfInBounds_toArray, List.set_cons_zero, List.set_cons_succ]
 refine wpAnyG_takeL (i := 10) (oi := _) (v := ?vt10) rfl (by kernel_rfl) (by kernel_rfl) (by kernel_rfl) (by kernel_rfl) (fun _ _ _ h => h) (Or.inl ⟨by rfl, ?yt10⟩) hS ?rt10
 case yt10 => (intro W hSw; obtain ⟨y1, y2, y3⟩ := hSw; go_simp; try with_reducible rfl)
 try simp only [Act.put, List.setIfInBounds_toArray, List.set_cons_zero, List.set_cons_succ]
 refine wpAnyG_takeL (i := 11) (oi := _) (v := ?vt11) rfl (by kernel_rfl) (by kernel_rfl) (by kernel_rfl) (by kernel_rfl) (fun _ _ _ h => h) (Or.inl ⟨by rfl, ?yt11⟩) hS ?rt11
 case yt11 => (intro W hSw; obtain ⟨y1, y2, y3⟩ := hSw; go_simp; try with_reducible rfl)
 try simp only [Act.put, List.setIfInBounds_toArray, List.set_cons_zero, List.set_cons_succ]
 refine wpAnyG_takeL (i := 12) (oi := _) (v := ?vt12) rfl (by kernel_rfl) (by kernel_rfl) (by kernel_rfl) (by kernel_rfl) (fun _ _ _ h => h) (Or.inl ⟨by rfl, ?yt12⟩) hS ?rt12
 case yt12 => (intro W hSw; obtain ⟨y1, y2, y3⟩ := hSw; go_simp; try with_reducible rfl)
 try simp only [Act.put, List.setIfInBounds_toArray, List.set_cons_zero, List.set_cons_succ]
 refine wpAnyG_takeL (i := 13) (oi := _) (v := ?vt13) rfl (by kernel_rfl) (by kernel_rfl) (by kernel_rfl) (by kernel_rfl) (fun _ _ _ h => h) (Or.inl ⟨by rfl, ?yt13⟩) hS ?rt13
 case yt13 => (intro W hSw; obtain ⟨y1, y2, y3⟩ := hSw; go_simp; try with_reducible rfl)
 try simp only [Act.put, List.setIfInBounds_toArray, List.set_cons_zero, List.set_cons_succ]
 refine wpAnyG_onlyL (i := 14) (o := _) (by kernel_rfl) rfl (fun K hK => ?_)
 go_simp
 refine C.out.mono ?_
 rintro e w2 ⟨p2, n2, c2, rfl, ho2, hk2⟩
 have hS2 : w2.cell? ⟨lb, 0, none⟩ = some (.int .u64 (L.life : Int)) ∧ w2.cell? ⟨lb, 1, none⟩ = some (.int .u64 (L.peer : Int)) ∧ w2.cell? ⟨lb, 5, none⟩ = some (.int .u64 (L.next : Int)) := ⟨hk2.cell hS.1 (fun f => f), hk2.cell hS.2.1 (fun f => f), hk2.cell hS.2.2 (fun f => f)⟩
 have b2 : w2.heap[w.heap.size]? = _ := (hk2.block w.heap.size (by have := (Array.getElem?_eq_some_iff.1 H.out.2).1; exact this) (fun f => f)).trans (show w1.drew.heap[w.heap.size]? = _ from H.out.2)
 obtain ⟨⟨z0, z1, z2, z3, z4⟩, ⟨y0, y1, y2, y3, y4⟩⟩ := blk5 b2
 have F := Lib.hid (And.intro ho2 (And.intro hk2 b2))
 clear ho2 hk2 b2
 go_wp2_with fail
 refine hK.out _ _ (fun _ => hS2) ?_
 clear hK K
 try simp only [Act.put, List.setIfInBounds_toArray, List.set_cons_zero, List.set_cons_succ]
 refine wpAnyG_onlyL (i := 15) (o := _) (by kernel_rfl) rfl (fun K hK => ?_)
 go_simp
 refine hK.out _ _ (fun _ => hS2) ?_
 clear hK K
 try simp only [Act.put, List.setIfInBounds_toArray, List.set_cons_zero, List.set_cons_succ]
 refine wpAnyG_onlyL (i := 16) (o := _) (by kernel_rfl) rfl (fun K hK => ?_)
 go_simp
 refine hK.out _ _ (fun h => absurd h (by decide)) ?_
 clear hK K
 try simp only [Act.put, List.setIfInBounds_toArray, List.set_cons_zero, List.set_cons_succ]
 refine wpAnyG_done (by kernel_rfl) ?_ _
 have k3 : Keeps (fun k => k = w.heap.size) w2 (((((w2.setCell ⟨w.heap.size, 0, none⟩ (.int .u64 (L.life : Int))).setCell ⟨w.heap.size, 1, none⟩ (.int .u64 (L.peer : Int))).setCell ⟨w.heap.size, 2, none⟩ (.int .u64 (seq : Int))).setCell ⟨w.heap.size, 3, none⟩ (.int .u64 (L.next : Int))).setCell ⟨w.heap.size, 4, none⟩ (.slice p2 n2 c2)) := setAt (setAt (setAt (setAt (setAt (Keeps.refl _ _) 0 _) 1 _) 2 _) 3 _) 4 _
 have K3 := Lib.hid k3
 clear k3
 go_wp2_with fail
 refine bodyPost_ret (v := .agg #[.int .u64 (L.life : Int), .int .u64 (L.peer : Int), .int .u64 (seq : Int), .int .u64 (L.next : Int), .slice p2 n2 c2]) (by simp [results, Try.results40, go_sem, z0, z1, z2, z3, z4]) rfl ?_
 have hz : w.heap.size < w1.drew.heap.size := (Array.getElem?_eq_some_iff.1 H.out.2).1
 refine ⟨p2, n2, c2, rfl, (F.out.1.mono (B' := w.heap.size) (by omega)).keeps K3.out (fun b hb e => ?_), ((H.out.1.drew).trans F.out.2.1).then K3.out (fun i hi e => by omega)⟩
 have := (F.out.1.block b hb).1
 omega
end Go.Proofs.Ytllnlimbfoingaa
