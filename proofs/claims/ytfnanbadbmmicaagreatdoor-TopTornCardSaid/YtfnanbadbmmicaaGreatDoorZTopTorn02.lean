/- DERIVED. crc: half a byte. · DERIVED. TopTorn, plain: frames; what is read of a torn beginning of them. S is the sum: any function of the bytes. · DERIVED. crc: four bytes and their number; what is put, what is taken. · DERIVED. crc: what is put, what is taken. · DERIVED. Chapter 21: maps that a call makes, at constant keys; msg.parts. · DERIVED. disk: names, answers, what is asked first. -/
import Derived.Test.YtfnanbadbmmicaaGreatDoorZTopTorn01
import Derived.Test.YtfnanbadbmmicaaGreatDoorY07
import Derived.RegionTactic
import Derived.BigRegion
import Derived.Deep.WholeRow
import Derived.Test.YtfnanbadbmmicaaGreatDoorY01
import Derived.BigQuiet
import Derived.Deep.QuietTactic
import Derived.Test.YtfnanbadbmmicaaGreatDoorY02
import Derived.Deep.DeepCutAuto
import Derived.Test.YtfnanbadbmmicaaGreatDoorY03
import Derived.Great.Walk
import Derived.MapKept
import Derived.Lib.SlTrimSet
namespace Go.Proofs.YtfnanbadbmmicaaGreatDoor
open Go.RowKit
attribute [-go_sem] loadVar storeVar

/-- half a byte is taken in -/
def hlf (z : Nat) : Nat := (z / 16) ^^^ tab (z % 16)
theorem hlf_lt {z : Nat} (h : z < 4294967296) : hlf z < 4294967296 := by
 unfold hlf
 exact Nat.xor_lt_two_pow (n := 32) (by omega) (tab_lt (by omega))
theorem and15 {z : Nat} (h : z < 4294967296) : bits .and .u32 (z : Int) 15 = ((z % 16 : Nat) : Int) := by
 have h1 := u32_and_nat z 15 h (by omega)
 rw [show ((15 : Nat) : Int) = 15 from rfl] at h1
 rw [h1, show (15 : Nat) = 2 ^ 4 - 1 from rfl, Nat.and_two_pow_sub_one_eq_mod]
theorem hlf_eq {z : Nat} (h : z < 4294967296) : bits .xor .u32 ((z : Int) / 16) ((tab (z % 16) : Nat) : Int) = (hlf z : Int) := by
 rw [show (16 : Int) = ((16 : Nat) : Int) from rfl, ← Int.natCast_ediv]
 exact u32_xor_nat _ _ (by omega) (tab_lt (by omega))

set_option maxRecDepth 100000 in
set_option maxHeartbeats 2000000 in
theorem half_any (sb lb z : Nat) (cs : Array Value) (w : World) (hz : z < 4294967296) (hs : w.heap[sb]? = some (.cells #[.int .u32 z] 64 (0, 0))) (hl : w.heap[lb]? = some (.cells cs 137 (0, 0))) (ht : TabTo 16 cs) :
  Calls Tryz.prog 90 #[.pointer (some ⟨sb, 0, none⟩), .pointer (some ⟨lb, 0, none⟩)] w fun e w' => e = .returned (.tuple #[]) ∧ w'.heap[sb]? = some (.cells #[.int .u32 (hlf z : Int)] 64 (0, 0)) ∧ Keeps (fun k => k = sb) w w' := by
 obtain ⟨n, hn⟩ : ∃ n, n = z % 16 := ⟨_, rfl⟩
 have c1 : w.cell? ⟨sb, 0, none⟩ = some (.int .u32 z) := by simp [World.cell?, hs]
 have f1 : w.frozen? ⟨sb, 0, none⟩ = false := by simp [World.frozen?, hs]
 have c2 : w.cell? ⟨lb, n, none⟩ = some (.int .u32 (tab n : Nat)) := by
  rw [cell_of_row w lb n cs _ _ hl, ht.2 n (by omega), if_pos (by omega)]
 have ha : bits .and .u32 (z : Int) 15 = (n : Int) := by rw [and15 hz, hn]
 have hx : bits .xor .u32 ((z : Int) / 16) ((tab n : Nat) : Int) = (hlf z : Int) := by rw [hn]; exact hlf_eq hz
 have ld : ∀ a W, (loadVar 64 a).run Tryz.prog W = (load a).run Tryz.prog W := fun _ _ => by kernel_rfl
 have sd : ∀ a k z W, (storeVar 64 a (.int k z)).run Tryz.prog W = (store a (.int k z)).run Tryz.prog W := fun _ _ _ _ => by kernel_rfl
 have h0 : (0 : Int) ≤ (n : Int) := by omega
 have h1 : (n : Int) < 16 := by omega
 have HS := Lib.hid hs
 clear hs hl ht hn
 go_enter Tryz.func90, Tryz.ntmps90
 go_region
 go_end0
 exact ⟨rfl, heap_setCell_same w sb 0 _ _ (.int .u32 (hlf z : Int)) HS.out, ((Keeps.refl (fun k => k = sb) w).setCell (p := ⟨sb, 0, none⟩) (fun _ => rfl) _).drew⟩

/-- a byte is taken in -/
def byt (s : Nat) (c : UInt8) : Nat := hlf (hlf (s ^^^ c.toNat))
theorem byt_lt {s : Nat} (h : s < 4294967296) (c : UInt8) : byt s c < 4294967296 := hlf_lt (hlf_lt (Nat.xor_lt_two_pow (n := 32) (by omega) (by have := c.toNat_lt; omega)))
def bytes (s : Nat) (l : List UInt8) : Nat := l.foldl byt s
theorem bytes_lt {s : Nat} (h : s < 4294967296) : ∀ l, bytes s l < 4294967296
 | [] => h
 | c :: r => bytes_lt (byt_lt h c) r
theorem bytes_snoc (s : Nat) (l : List UInt8) (c : UInt8) : bytes s (l ++ [c]) = byt (bytes s l) c := by unfold bytes; simp
/-- the sum of bytes -/
def crcS (l : List UInt8) : Nat := 4294967295 ^^^ bytes 4294967295 l
theorem crcS_lt (l : List UInt8) : crcS l < 4294967296 := Nat.xor_lt_two_pow (n := 32) (by omega) (bytes_lt (by omega) l)
theorem nott_eq {z : Nat} (h : z < 4294967296) : bits .xor .u32 IntKind.u32.max (z : Int) = ((4294967295 ^^^ z : Nat) : Int) := u32_xor_nat 4294967295 z (by omega) h
theorem nott_zero : bits .xor .u32 IntKind.u32.max 0 = 4294967295 := by decide +kernel
theorem byt_eq {z : Nat} (h : z < 4294967296) (c : UInt8) : bits .xor .u32 (z : Int) ((c.toNat : Int) % 4294967296) = ((z ^^^ c.toNat : Nat) : Int) := by
 have hc := c.toNat_lt
 rw [Int.emod_eq_of_lt (by omega) (by omega)]
 exact u32_xor_nat _ _ h (by omega)
theorem hp_lt {w : World} {b : Nat} {o : Obj} (h : w.heap[b]? = some o) : b < w.heap.size := (Array.getElem?_eq_some_iff.1 h).1
theorem keepC (w : World) (b o : Nat) (v : Value) : Keeps (fun k => k = b) w (w.setCell ⟨b, o, none⟩ v) := (Keeps.refl (fun k => k = b) w).setCell (p := ⟨b, o, none⟩) (fun _ => rfl) v
theorem blk1_set {w : World} {b : Nat} {t : TypeId} {a0 : Value} (h : w.heap[b]? = some (.cells #[a0] t (0, 0))) (v : Value) : (w.setCell ⟨b, 0, none⟩ v).heap[b]? = some (.cells #[v] t (0, 0)) := heap_setCell_same w b 0 _ _ v h

set_option maxRecDepth 100000 in
set_option maxHeartbeats 2000000 in
theorem extend_any (v : Value) (l : List UInt8) (w : World) (h : Sees w v l) : Calls Tryz.prog 61 #[.int .u32 0, v] w fun e w' => e = .returned (.int .u32 (crcS l : Int)) ∧ Old w w' := by
 obtain ⟨p, c, rfl, h1, h2⟩ := h.len
 have hm : l.length ≤ 9223372036854775807 := by unfold maxLen at h2; omega
 have HH := Lib.hid h
 have HC := Lib.hid (And.intro h1 h2)
 clear h h1 h2
 go_enter Tryz.func61, Tryz.ntmps61
 go_wp2_with fail
 refine (steps_any w).mono ?_
 rintro e w1 ⟨⟨cs, rfl, ht⟩, ho⟩
 have hi : (Tryz.prog.info? 137).map (·.size) = some cs.size := by rw [ht.1]; kernel_rfl
 have st := run_storeVar_new (P := Tryz.prog) w1 137 (Array.replicate 16 (.int .u32 0)) cs hi (by rw [ht.1]; simp) ht.one
 simp only [Array.replicate_succ, Array.replicate_zero, List.push_toArray, List.nil_append, List.cons_append] at st
 have ld : ∀ a W, (loadVar 64 a).run Tryz.prog W = (load a).run Tryz.prog W := fun _ _ => by kernel_rfl
 have ld5 : ∀ a W, (loadVar 5 a).run Tryz.prog W = (load a).run Tryz.prog W := fun _ _ => by kernel_rfl
 have sd : ∀ a k z W, (storeVar 64 a (.int k z)).run Tryz.prog W = (store a (.int k z)).run Tryz.prog W := fun _ _ _ _ => by kernel_rfl
 have hn0 := nott_zero
 obtain ⟨W0, hW0⟩ : ∃ W0, (w1.alloc (.cells cs 137)).alloc (.cells #[.int .u32 4294967295] 64) = W0 := ⟨_, rfl⟩
 have k0 : Old w W0 := by rw [← hW0]; exact (ho.alloc _).alloc _
 have b0 : W0.heap[w1.heap.size]? = some (.cells cs 137 (0, 0)) := by rw [← hW0, Below.heap_alloc _ _ _ (by simp)]; exact heap_alloc_new _ _
 have b1 : W0.heap[w1.heap.size + 1]? = some (.cells #[.int .u32 4294967295] 64 (0, 0)) := by rw [← hW0]; have := heap_alloc_new (w1.alloc (.cells cs 137)) (.cells #[.int .u32 4294967295] 64); rwa [World.size_alloc] at this
 have G := Lib.hid (And.intro k0 (And.intro b0 (And.intro b1 (And.intro ht ho.size))))
 clear ht ho hi k0 b0 b1
 go_wp2_with fail
 try rw [hW0]
 clear hW0 st
 go_loopw [16] (fun i wr => ∃ k : Nat, k ≤ l.length ∧ i = .int .i64 k ∧ ∃ z : Nat, z < 4294967296 ∧ Hid (z = bytes 4294967295 (l.take k)) ∧ wr.heap[w1.heap.size]? = some (.cells cs 137 (0, 0)) ∧ wr.heap[w1.heap.size + 1]? = some (.cells #[.int .u32 z] 64 (0, 0)) ∧ Old w wr) (fun i _ => l.length - (intOf i).toNat)
 case atStart => exact ⟨0, by omega, rfl, 4294967295, by omega, Lib.hid rfl, G.out.2.1, G.out.2.2.1, G.out.1⟩
 case round =>
  obtain ⟨k, hk, rfl, z, hz, HZ, hb, hs, hO⟩ := hrel
  have cf := blk1 hs
  by_cases hlt : k < l.length
  ·obtain ⟨b, o, c', e, _, _, hat⟩ := HH.out.at (by omega)
   simp only [Value.slice.injEq] at e
   obtain ⟨rfl, _, rfl⟩ := e
   have hx : l[k]? = some l[k] := List.getElem?_eq_getElem hlt
   have hcell := (HH.out.old hO).at (by omega)
   obtain ⟨b', o', c', e, _, _, hat'⟩ := hcell
   simp only [Value.slice.injEq, Option.some.injEq, Addr.mk.injEq, and_true] at e
   obtain ⟨⟨rfl, rfl⟩, _, rfl⟩ := e
   have hcell := hat' k _ hx
   unfold u8 at hcell
   have hbx := byt_eq hz l[k]
   obtain ⟨z1, hz1⟩ : ∃ z1, z ^^^ l[k].toNat = z1 := ⟨_, rfl⟩
   have hl1 : z1 < 4294967296 := by rw [← hz1]; exact Nat.xor_lt_two_pow (n := 32) (by omega) (by have := l[k].toNat_lt; omega)
   rw [hz1] at hbx
   have HH1 := Lib.hid (half_any (w1.heap.size + 1) w1.heap.size z1 cs (wr.setCell ⟨w1.heap.size + 1, 0, none⟩ (.int .u32 (z1 : Int))) hl1 (blk1_set hs _) ((Below.heap_setCell _ _ _ _ (by simp)).trans hb) G.out.2.2.2.1)
   have HB := Lib.hid (And.intro hx (And.intro hz1 (And.intro hb (And.intro hs (And.intro hO (hO.setCell (p := ⟨w1.heap.size + 1, 0, none⟩) (fun h => by have := G.out.2.2.2.2; simp at h; omega) (.int .u32 (z1 : Int))))))))
   clear hx hz1 hb hs hO hat hat'
   go_wp2_with fail
   refine HH1.out.mono ?_
   rintro e w2 ⟨rfl, hs2, k2⟩
   have hb2 : w2.heap[w1.heap.size]? = some (.cells cs 137 (0, 0)) := (k2.block _ (by have := HB.out.2.2.1; have := hp_lt this; simpa [World.setCell] using this) (by omega)).trans ((Below.heap_setCell _ _ _ _ (by simp)).trans HB.out.2.2.1)
   have HH2 := Lib.hid (half_any (w1.heap.size + 1) w1.heap.size (hlf z1) cs w2 (hlf_lt hl1) hs2 hb2 G.out.2.2.2.1)
   have HB2 := Lib.hid (And.intro hb2 (HB.out.2.2.2.2.2.then k2 (fun i hi e => by have := G.out.2.2.2.2; omega)))
   clear hb2 hs2 k2
   go_wp2_with fail
   refine HH2.out.mono ?_
   rintro e w3 ⟨rfl, hs3, k3⟩
   have HB3 := Lib.hid (And.intro hs3 (And.intro ((k3.block _ (hp_lt HB2.out.1) (by omega)).trans HB2.out.1) (HB2.out.2.then k3 (fun i hi e => by have := G.out.2.2.2.2; omega))))
   clear hs3 k3
   go_wp2_with fail
   go_roundw
   case rel =>
    refine ⟨k + 1, by omega, by go_num, hlf (hlf z1), hlf_lt (hlf_lt hl1), Lib.hid ?_, HB3.out.2.1, HB3.out.1, HB3.out.2.2⟩
    rw [List.take_succ_eq_append_getElem hlt, bytes_snoc, ← HZ.out, ← HB.out.2.1]
    rfl
   case measure => simp [intOf]; omega
  ·obtain rfl : k = l.length := by omega
   have hf := nott_eq hz
   have HF : Hid (4294967295 ^^^ z = crcS l) := Lib.hid (by rw [HZ.out, List.take_of_length_le (Nat.le_refl _)]; rfl)
   have HO := Lib.hid hO
   clear hb hs hO
   go_wp2_with fail
   go_ret
   refine ⟨?_, HO.out⟩
   simp only [Array.getD_eq_getD_getElem?, List.getElem?_toArray, List.getElem?_cons_succ, List.getElem?_cons_zero, Option.getD_some]
   rw [HF.out]

theorem sum_any (v : Value) (l : List UInt8) (w : World) (h : Sees w v l) : Calls Tryz.prog 42 #[v] w fun e w' => e = .returned (.int .u32 (crcS l : Int)) ∧ Old w w' := by
 obtain ⟨p, c, rfl, h1, h2⟩ := h.len
 have HX := Lib.hid (extend_any _ l w h)
 clear h h1 h2
 go_enter Tryz.func42, Tryz.ntmps42
 go_wp2_with fail
 refine HX.out.mono ?_
 rintro e w1 ⟨rfl, ho⟩
 have HO := Lib.hid ho
 clear ho
 go_wp2_with fail
 go_ret
 exact ⟨rfl, HO.out⟩
end Go.Proofs.YtfnanbadbmmicaaGreatDoor

namespace Go.Proofs.YtfnanbadbmmicaaGreatDoor
namespace Torn
abbrev Bs := List UInt8
def four (n : Nat) : Bs := [UInt8.ofNat n, UInt8.ofNat (n / 256), UInt8.ofNat (n / 65536), UInt8.ofNat (n / 16777216)]
/-- the number of the first four bytes -/
def numb : Bs → Nat
 | a :: b :: c :: d :: _ => a.toNat + 256 * b.toNat + 65536 * c.toNat + 16777216 * d.toNat
 | _ => 0
theorem numb_four (n : Nat) (h : n < 4294967296) (r : Bs) : numb (four n ++ r) = n := by
 simp only [four, List.cons_append, List.nil_append, numb, UInt8.toNat_ofNat']
 omega
theorem four_len (n : Nat) : (four n).length = 4 := rfl
theorem numb_take (b c : Bs) (h : b.take 4 = c.take 4) (hb : 4 ≤ b.length) : numb b = numb c := by
 match b, hb with
 | a0 :: a1 :: a2 :: a3 :: r, _ =>
  match c with
  | [] => simp at h
  | [_] => simp at h
  | [_, _] => simp at h
  | [_, _, _] => simp at h
  | c0 :: c1 :: c2 :: c3 :: q => simp at h; obtain ⟨rfl, rfl, rfl, rfl⟩ := h; rfl
section
variable (S : Bs → Nat)
def body (r : Bs) : Bs := four r.length ++ r
def frame (r : Bs) : Bs := body r ++ four (S (body r))
theorem frame_len (r : Bs) : (frame S r).length = r.length + 8 := by simp [frame, body, four]
/-- the first whole record -/
def first (b : Bs) : Option Bs :=
 if b.length < 4 then none
 else if numb b < 1 ∨ 2048 < numb b ∨ b.length < 4 + numb b + 4 then none
 else if numb (b.drop (4 + numb b)) = S (b.take (4 + numb b)) then some ((b.take (4 + numb b)).drop 4) else none
def split : Nat → Bs → List Bs
 | 0, _ => []
 | k + 1, b => match first S b with
  | none => []
  | some r => r :: split k (b.drop (r.length + 8))
def flat (l : List Bs) : Bs := l.flatMap (frame S)
variable {S} (hS : ∀ b, S b < 4294967296)
theorem frame_numb {r : Bs} (h : r.length ≤ 2048) (rest : Bs) : numb (frame S r ++ rest) = r.length := by
 unfold frame body
 rw [List.append_assoc, List.append_assoc]
 exact numb_four _ (by omega) _
include hS in
theorem first_frame {r : Bs} (h1 : 1 ≤ r.length) (h2 : r.length ≤ 2048) (rest : Bs) : first S (frame S r ++ rest) = some r := by
 have hn := frame_numb (S := S) h2 rest
 have hl : (frame S r ++ rest).length = r.length + 8 + rest.length := by rw [List.length_append, frame_len]
 have hbl : (body r).length = 4 + r.length := by simp [body, four]; omega
 unfold first
 rw [if_neg (by omega), hn, if_neg (by omega)]
 have ht : (frame S r ++ rest).take (4 + r.length) = body r := by
  unfold frame
  rw [List.append_assoc, ← hbl, List.take_left]
 have hd : (frame S r ++ rest).drop (4 + r.length) = four (S (body r)) ++ rest := by
  unfold frame
  rw [List.append_assoc, ← hbl, List.drop_left]
 rw [ht, hd, numb_four _ (hS _), if_pos rfl]
 unfold body
 rw [show (4 : Nat) = (four r.length).length from rfl, List.drop_left]
include hS in
theorem split_frame {r : Bs} (h1 : 1 ≤ r.length) (h2 : r.length ≤ 2048) (rest : Bs) (k : Nat) : split S (k + 1) (frame S r ++ rest) = r :: split S k rest := by
 show (match first S (frame S r ++ rest) with | none => [] | some r' => r' :: split S k ((frame S r ++ rest).drop (r'.length + 8))) = _
 rw [first_frame hS h1 h2 rest]
 simp only
 rw [← frame_len S r, List.drop_left]
/-- the last byte turned -/
def turn (t : UInt8) (c : Bs) : Bs := c.set (c.length - 1) (c.getD (c.length - 1) 0 ^^^ t)
theorem turn_len (t : UInt8) (c : Bs) : (turn t c).length = c.length := by simp [turn]
theorem turn_take (t : UInt8) (c : Bs) (n : Nat) (h : n < c.length) : (turn t c).take n = c.take n := by
 unfold turn
 rw [List.take_set_of_le (by omega)]
theorem turn_append (t : UInt8) (a c : Bs) (h : 0 < c.length) : turn t (a ++ c) = a ++ turn t c := by
 unfold turn
 rw [List.length_append, List.set_append_right _ _ (by omega), show a.length + c.length - 1 - a.length = c.length - 1 by omega]
 congr 2
 simp [List.getD, List.getElem?_append_right (show a.length ≤ a.length + c.length - 1 by omega), show a.length + c.length - 1 - a.length = c.length - 1 by omega]
/-- what is left of the frames, torn: a beginning of the records -/
def torn (t : UInt8) (s : Nat) (b : Bs) : Bs := if s = 0 then [] else turn t (b.take s)
theorem split_none {b : Bs} (h : first S b = none) (k : Nat) : split S k b = [] := by
 cases k with
 | zero => rfl
 | succ k => show (match first S b with | none => [] | some r => r :: split S k (b.drop (r.length + 8))) = []; rw [h]
include hS in
theorem torn_split (t : UInt8) : ∀ (l : List Bs) (s k : Nat), (∀ r ∈ l, 1 ≤ r.length ∧ r.length ≤ 2048) → s ≤ (flat S l).length → l.length ≤ k → ∃ j, j ≤ l.length ∧ split S k (torn t s (flat S l)) = l.take j := by
 intro l
 induction l with
 | nil =>
  intro s k _ hs _
  obtain rfl : s = 0 := by simpa [flat] using hs
  exact ⟨0, Nat.le_refl _, split_none (by simp [torn, first]) k⟩
 | cons r l ih =>
  intro s k hl hs hk
  obtain ⟨h1, h2⟩ := hl r (List.mem_cons_self ..)
  have hf : flat S (r :: l) = frame S r ++ flat S l := by simp [flat]
  have hfl := frame_len S r
  by_cases h0 : s = 0
  ·subst h0
   exact ⟨0, Nat.zero_le _, split_none (by simp [torn, first]) k⟩
  rw [hf] at hs ⊢
  rw [List.length_append] at hs
  unfold torn
  rw [if_neg h0]
  by_cases hlt : s ≤ r.length + 8
  ·have htk : (frame S r ++ flat S l).take s = (frame S r).take s := List.take_append_of_le_length (by omega)
   rw [htk]
   have hcl : (turn t ((frame S r).take s)).length = s := by rw [turn_len, List.length_take]; omega
   have hn : 4 < s → numb (turn t ((frame S r).take s)) = r.length := fun h4 => by
    rw [numb_take _ (frame S r ++ []) ?_ (by omega), frame_numb h2]
    rw [turn_take _ _ _ (by rw [List.length_take]; omega), List.append_nil, List.take_take]
    congr 1
    omega
   obtain ⟨k, rfl⟩ : ∃ k', k = k' + 1 := ⟨k - 1, by simp at hk; omega⟩
   have key : first S (turn t ((frame S r).take s)) = none ∨ (first S (turn t ((frame S r).take s)) = some r ∧ s = r.length + 8) := by
    unfold first
    rw [hcl]
    by_cases h4 : s < 4
    ·rw [if_pos h4]; exact .inl rfl
    rw [if_neg h4]
    by_cases he : s = 4
    ·rw [if_pos (by omega)]; exact .inl rfl
    rw [hn (by omega)]
    by_cases hw : s < 4 + r.length + 4
    ·rw [if_pos (by omega)]; exact .inl rfl
    rw [if_neg (by omega)]
    split
    ·refine .inr ⟨?_, by omega⟩
     rw [turn_take _ _ _ (by rw [List.length_take]; omega), List.take_take, Nat.min_eq_left (by omega)]
     unfold frame
     rw [List.take_append_of_le_length (by simp [body, four]; omega), List.take_of_length_le (by simp [body, four]; omega)]
     unfold body
     rw [show (4 : Nat) = (four r.length).length from rfl, List.drop_left]
    ·exact .inl rfl
   rcases key with h | ⟨h, hs8⟩
   ·exact ⟨0, Nat.zero_le _, split_none h _⟩
   ·refine ⟨1, by simp, ?_⟩
    show (match first S (turn t ((frame S r).take s)) with | none => [] | some r' => r' :: split S k ((turn t ((frame S r).take s)).drop (r'.length + 8))) = _
    rw [h]
    simp only
    rw [List.drop_of_length_le (by omega), split_none (by simp [first])]
    simp
  ·have hts : (frame S r ++ flat S l).take s = frame S r ++ (flat S l).take (s - (r.length + 8)) := by
    rw [List.take_append, hfl, List.take_of_length_le (by omega)]
   rw [hts, turn_append _ _ _ (by rw [List.length_take]; omega)]
   obtain ⟨k, rfl⟩ : ∃ k', k = k' + 1 := ⟨k - 1, by simp at hk; omega⟩
   rw [split_frame hS h1 h2]
   obtain ⟨j, hj, e⟩ := ih (s - (r.length + 8)) k (fun x hx => hl x (List.mem_cons_of_mem _ hx)) (by omega) (by simp at hk; omega)
   unfold torn at e
   rw [if_neg (by omega)] at e
   exact ⟨j + 1, by simp; omega, by rw [e]; rfl⟩
/-- what a crash leaves: the first m records are synced, s bytes behind them stay, the last one of these turned -/
def left (t : UInt8) (s fast : Nat) (b : Bs) : Bs := if s = 0 then b.take fast else turn t (b.take (fast + s))
include hS in
theorem left_split (t : UInt8) : ∀ (l : List Bs) (m s k : Nat), (∀ r ∈ l, 1 ≤ r.length ∧ r.length ≤ 2048) → m ≤ l.length → (flat S (l.take m)).length + s ≤ (flat S l).length → l.length ≤ k →
  ∃ j, m ≤ j ∧ j ≤ l.length ∧ split S k (left t s (flat S (l.take m)).length (flat S l)) = l.take j := by
 intro l m
 induction m generalizing l with
 | zero =>
  intro s k hl _ hs hk
  obtain ⟨j, h1, h2⟩ := torn_split hS t l s k hl (by simpa [flat] using hs) hk
  refine ⟨j, Nat.zero_le _, h1, ?_⟩
  rw [← h2]
  unfold left torn
  by_cases h0 : s = 0
  ·rw [if_pos h0, if_pos h0]; simp [flat]
  ·rw [if_neg h0, if_neg h0]; simp [flat]
 | succ m ih =>
  intro s k hl hm hs hk
  cases l with
  | nil => simp at hm
  | cons r l =>
   obtain ⟨h1, h2⟩ := hl r (List.mem_cons_self ..)
   have hf : ∀ q, flat S (r :: q) = frame S r ++ flat S q := fun q => by simp [flat]
   have ht : (r :: l).take (m + 1) = r :: l.take m := rfl
   rw [ht, hf, hf, List.length_append, List.length_append] at hs
   obtain ⟨k, rfl⟩ : ∃ k', k = k' + 1 := ⟨k - 1, by simp at hk; omega⟩
   obtain ⟨j, j1, j2, e⟩ := ih l s k (fun x hx => hl x (List.mem_cons_of_mem _ hx)) (by simpa using hm) (by omega) (by simpa using hk)
   have hlf : left t s (flat S ((r :: l).take (m + 1))).length (flat S (r :: l)) = frame S r ++ left t s (flat S (l.take m)).length (flat S l) := by
    rw [ht, hf, hf, List.length_append]
    unfold left
    by_cases h0 : s = 0
    ·rw [if_pos h0, if_pos h0, List.take_append, List.take_of_length_le (by omega), Nat.add_sub_cancel_left]
    ·rw [if_neg h0, if_neg h0, List.take_append, List.take_of_length_le (by omega), turn_append _ _ _ (by rw [List.length_take]; omega)]
     congr 3
     omega
   rw [hlf, split_frame hS h1 h2, e]
   exact ⟨j + 1, by omega, by simp; omega, rfl⟩
end
end Torn
end Go.Proofs.YtfnanbadbmmicaaGreatDoor

namespace Go.Proofs.YtfnanbadbmmicaaGreatDoor
open Go.RowKit Torn

theorem u8_nat (n : Nat) : u8 (UInt8.ofNat n) = Value.int .u8 ((n : Int) % 256) := by
 unfold u8
 rw [UInt8.toNat_ofNat']
 rfl
theorem four_cells (n : Nat) (hn : n < 4294967296) : (four n).map u8 = [.int .u8 ((n : Int) % 256), .int .u8 ((n : Int) / 256 % 256), .int .u8 ((n : Int) / 65536 % 256), .int .u8 ((n : Int) / 16777216)] := by
 simp only [four, List.map_cons, List.map_nil, u8_nat]
 rw [show ((n / 16777216 : Nat) : Int) % 256 = (n : Int) / 16777216 by omega]
 rfl
theorem own_four (n : Nat) (w : World) (hn : n < 4294967296) : Owns (w.alloc (.cells #[.int .u8 ((n : Int) % 256), .int .u8 ((n : Int) / 256 % 256), .int .u8 ((n : Int) / 65536 % 256), .int .u8 ((n : Int) / 16777216)] 5)) w.heap.size (.slice (some ⟨w.heap.size, 0, none⟩) 4 4) (four n) := by
 have h := Owns.lit w w.heap.size (four n) (Nat.le_refl _) (by rw [four_len]; decide)
 rw [four_cells n hn] at h
 exact h
theorem or_sum {a y i : Nat} (hy : y % 2 ^ i = 0) (ha : a < 2 ^ i) (h1 : a < 4294967296) (h2 : y < 4294967296) : bits .or .u32 (a : Int) (y : Int) = ((a + y : Nat) : Int) := by
 rw [u32_or_nat a y h1 h2, Nat.or_comm, nat_join i y a hy ha, Nat.add_comm]
theorem num_eq {a b c d : Nat} (ha : a < 256) (hb : b < 256) (hc : c < 256) (hd : d < 256) :
  bits .or .u32 (bits .or .u32 (bits .or .u32 ((a : Int) % 4294967296) ((b : Int) % 4294967296 * 256 % 4294967296)) ((c : Int) % 4294967296 * 65536 % 4294967296)) ((d : Int) % 4294967296 * 16777216 % 4294967296) = ((a + 256 * b + 65536 * c + 16777216 * d : Nat) : Int) := by
 rw [show (a : Int) % 4294967296 = (a : Int) by omega, show (b : Int) % 4294967296 * 256 % 4294967296 = ((256 * b : Nat) : Int) by omega, show (c : Int) % 4294967296 * 65536 % 4294967296 = ((65536 * c : Nat) : Int) by omega,
  show (d : Int) % 4294967296 * 16777216 % 4294967296 = ((16777216 * d : Nat) : Int) by omega]
 rw [or_sum (i := 8) (by omega) (by omega) (by omega) (by omega), or_sum (i := 16) (by omega) (by omega) (by omega) (by omega), or_sum (i := 24) (by omega) (by omega) (by omega) (by omega)]
theorem numb_at (l : List UInt8) (h : 4 ≤ l.length) : numb l = l[0].toNat + 256 * l[1].toNat + 65536 * l[2].toNat + 16777216 * l[3].toNat := by
 match l, h with
 | a :: b :: c :: d :: r, _ => rfl
set_option maxRecDepth 100000 in
theorem crc_four_any (n : Nat) (w : World) (hn : n < 4294967296) : Calls Tryz.prog 41 #[.int .u32 n] w fun e w' => ∃ v, e = .returned v ∧ Owns w' w.heap.size v (four n) ∧ Old w w' := by
 have H := Lib.hid (And.intro (own_four n w hn) ((Keeps.refl _ w : Old w w).alloc (.cells #[.int .u8 ((n : Int) % 256), .int .u8 ((n : Int) / 256 % 256), .int .u8 ((n : Int) / 65536 % 256), .int .u8 ((n : Int) / 16777216)] 5)))
 go_enter Tryz.func41, Tryz.ntmps41
 go_wp2_with fail
 go_ret
 exact ⟨_, rfl, H.out.1, H.out.2⟩
set_option maxRecDepth 100000 in
theorem frame_four_any (n : Nat) (w : World) (hn : n < 4294967296) : Calls Tryz.prog 26 #[.int .u32 n] w fun e w' => ∃ v, e = .returned v ∧ Owns w' w.heap.size v (four n) ∧ Old w w' := by
 have H := Lib.hid (And.intro (own_four n w hn) ((Keeps.refl _ w : Old w w).alloc (.cells #[.int .u8 ((n : Int) % 256), .int .u8 ((n : Int) / 256 % 256), .int .u8 ((n : Int) / 65536 % 256), .int .u8 ((n : Int) / 16777216)] 5)))
 go_enter Tryz.func26, Tryz.ntmps26
 go_wp2_with fail
 go_ret
 exact ⟨_, rfl, H.out.1, H.out.2⟩
theorem crc_number_any (v : Value) (l : List UInt8) (w : World) (h : Sees w v l) (h4 : 4 ≤ l.length) : Calls Tryz.prog 94 #[v] w fun e w' => e = .returned (.int .u32 (numb l : Int)) ∧ ∃ n, w' = w.drewN n := by
 obtain ⟨b, o, c, rfl, h1, h2, hat⟩ := h.at (by omega)
 have c0 := hat 0 l[0] (by simp)
 have c1 := hat 1 l[1] (by simp)
 have c2 := hat 2 l[2] (by simp)
 have c3 := hat 3 l[3] (by simp)
 unfold u8 at c0 c1 c2 c3
 rw [Nat.add_zero] at c0
 clear hat h h2
 have i0 : (0 : Int) < (l.length : Int) := by omega
 have i1 : (1 : Int) < (l.length : Int) := by omega
 have i2 : (2 : Int) < (l.length : Int) := by omega
 have i3 : (3 : Int) < (l.length : Int) := by omega
 have hq := num_eq l[0].toNat_lt l[1].toNat_lt l[2].toNat_lt l[3].toNat_lt
 rw [← numb_at l h4] at hq
 go_enter Tryz.func94, Tryz.ntmps94
 go_wp2_with fail
 go_quiet (fail)
 go_wp2_with fail
 go_ret
 exact ⟨rfl, _, rfl⟩
theorem frame_number_any (v : Value) (l : List UInt8) (w : World) (h : Sees w v l) (h4 : 4 ≤ l.length) : Calls Tryz.prog 66 #[v] w fun e w' => e = .returned (.int .u32 (numb l : Int)) ∧ ∃ n, w' = w.drewN n := by
 obtain ⟨b, o, c, rfl, h1, h2, hat⟩ := h.at (by omega)
 have c0 := hat 0 l[0] (by simp)
 have c1 := hat 1 l[1] (by simp)
 have c2 := hat 2 l[2] (by simp)
 have c3 := hat 3 l[3] (by simp)
 unfold u8 at c0 c1 c2 c3
 rw [Nat.add_zero] at c0
 clear hat h h2
 have i0 : (0 : Int) < (l.length : Int) := by omega
 have i1 : (1 : Int) < (l.length : Int) := by omega
 have i2 : (2 : Int) < (l.length : Int) := by omega
 have i3 : (3 : Int) < (l.length : Int) := by omega
 have hq := num_eq l[0].toNat_lt l[1].toNat_lt l[2].toNat_lt l[3].toNat_lt
 rw [← numb_at l h4] at hq
 go_enter Tryz.func66, Tryz.ntmps66
 go_wp2_with fail
 go_quiet (fail)
 go_wp2_with fail
 go_ret
 exact ⟨rfl, _, rfl⟩
end Go.Proofs.YtfnanbadbmmicaaGreatDoor

namespace Go.Proofs.YtfnanbadbmmicaaGreatDoor
open Go.RowKit Torn

theorem Old.drewN {a w : World} (h : Old a w) (n : Nat) : Old a (w.drewN n) := ⟨h.os, h.tape, h.output, h.size, h.block⟩

set_option maxRecDepth 100000 in
set_option maxHeartbeats 1000000 in
theorem crc_put_any (v : Value) (l : List UInt8) (w : World) (h : Sees w v l) (hl : l.length ≤ 1000000000) : Calls Tryz.prog 25 #[v] w fun e w' => ∃ v', e = .returned v' ∧ Owns w' w.heap.size v' (l ++ four (crcS l)) ∧ Old w w' := by
 obtain ⟨p, c, rfl, h1, h2⟩ := h.len
 have HH := Lib.hid h
 clear h h1 h2
 go_enter Tryz.func25, Tryz.ntmps25
 go_wp2_with (at_builtin; refine wpList_append_sees rfl _ _ rfl w.heap.size (.slice none 0 0) [] rfl (Owns.nil w _) _ l rfl HH.out (by simp; omega) (Nat.le_refl _) ?_; intro v1 w1 hown hgr)
 have o1 : Old w w1 := (Keeps.refl _ w).grown hgr (fun k e _ => by simp [Value.ownBlock] at e)
 rw [List.nil_append] at hown
 have S1 := Lib.hid (sum_any _ l w1 (HH.out.old o1))
 have H1 := Lib.hid (And.intro o1 hown)
 clear o1 hown hgr
 go_wp2_with fail
 refine S1.out.mono ?_
 rintro e w2 ⟨rfl, o2⟩
 have F2 := Lib.hid (crc_four_any (crcS l) w2 (crcS_lt l))
 have H2 := Lib.hid (And.intro (H1.out.1.trans o2) (H1.out.2.old o2))
 clear o2
 go_wp2_with fail
 refine F2.out.mono ?_
 rintro e w3 ⟨v3, rfl, own3, o3⟩
 obtain ⟨p3, c3, rfl, _, _⟩ := own3.sees.len
 have H3 := Lib.hid (And.intro (H2.out.1.trans o3) (And.intro (H2.out.2.old o3) own3.sees))
 clear own3 o3
 go_wp2_with (at_builtin; refine wpList_append_sees rfl _ _ rfl w.heap.size v1 l rfl H3.out.2.1 _ (four (crcS l)) rfl H3.out.2.2 (by rw [four_len]; omega) H3.out.1.size ?_; intro v4 w4 own4 hgr4)
 have H4 := Lib.hid (And.intro own4 ((H3.out.1.then ((Keeps.refl (fun k => v1.ownBlock = some k) w3).grown hgr4 (fun k e _ => e)) (fun i hi e => by have := (H3.out.2.1.block i e).1; omega))))
 clear own4 hgr4
 go_wp2_with fail
 go_ret
 exact ⟨_, rfl, H4.out.1, H4.out.2⟩

/-- what is told of bytes with a sum behind them -/
def takeC (l : List UInt8) : Option (List UInt8) := if 4 ≤ l.length ∧ numb (l.drop (l.length - 4)) = crcS (l.take (l.length - 4)) then some (l.take (l.length - 4)) else none
def TakC (l : List UInt8) (w : World) (e : Ending) (w' : World) : Prop := Old w w' ∧ match takeC l with
 | some r => ∃ v, e = .returned (.tuple #[v, .int .i64 0]) ∧ Owns w' w.heap.size v r
 | none => ∃ z, e = .returned (.tuple #[.slice none 0 0, .int .i64 z]) ∧ z ≠ 0
set_option maxRecDepth 100000 in
set_option maxHeartbeats 1000000 in
theorem crc_take_any (v : Value) (l : List UInt8) (w : World) (h : Sees w v l) (h4 : 4 ≤ l.length) (hl : l.length ≤ 1000000000) : Calls Tryz.prog 67 #[v] w (TakC l w) := by
 obtain ⟨p, c, rfl, h1, h2⟩ := h.len
 obtain ⟨p1, c1, r1, s1, _⟩ := h.from (l.length - 4) (by omega) .i64 ((l.length : Int) - 4) (by omega)
 obtain ⟨p2, c2, r2, s2, _⟩ := h.upto (l.length - 4) (by omega) .i64 ((l.length : Int) - 4) (by omega)
 have hd : (l.drop (l.length - 4)).length = 4 := by rw [List.length_drop]; omega
 have hk : (l.take (l.length - 4)).length = l.length - 4 := by rw [List.length_take]; omega
 rw [show l.length - (l.length - 4) = 4 by omega] at r1 s1
 obtain ⟨a, ha⟩ : ∃ a, numb (l.drop (l.length - 4)) = a := ⟨_, rfl⟩
 obtain ⟨b, hb⟩ : ∃ b, crcS (l.take (l.length - 4)) = b := ⟨_, rfl⟩
 have HN : Hid (∀ q : OldOf w, Calls Tryz.prog 94 #[.slice p1 4 c1] q.to fun e w' => e = .returned (.int .u32 (a : Int)) ∧ Old q.to w') := Lib.hid fun q => by
  refine (crc_number_any _ _ q.to (s1.old q.old) (by omega)).mono ?_
  rintro e w' ⟨rfl, n, rfl⟩
  exact ⟨by rw [ha], Old.drewN (Keeps.refl _ _) n⟩
 have HS : Hid (∀ q : OldOf w, Calls Tryz.prog 42 #[.slice p2 (l.length - 4) c2] q.to fun e w' => e = .returned (.int .u32 (b : Int)) ∧ Old q.to w') := Lib.hid fun q => by
  refine (sum_any _ _ q.to (s2.old q.old)).mono ?_
  rintro e w' ⟨rfl, o⟩
  exact ⟨by rw [hb], o⟩
 have HT : Hid (takeC l = if a = b then some (l.take (l.length - 4)) else none) := Lib.hid (by
  unfold takeC
  rw [ha, hb]
  by_cases e : a = b
  ·rw [if_pos ⟨h4, e⟩, if_pos e]
  ·rw [if_neg (fun h => e h.2), if_neg e])
 have HH := Lib.hid (And.intro h (And.intro s2 hk))
 have hlt : l.length ≤ 9223372036854775807 := by omega
 have b1 : (4 : Int) ≤ (l.length : Int) := by omega
 have b2 : decide ((l.length : Int) - 4 < 0) = false := by simp; omega
 clear h s1 s2 h1 h2 ha hb hd hk h4
 go_enter Tryz.func67, Tryz.ntmps67
 go_wp2_with fail
 refine wp_region_quiet_old (by kernel_rfl) (by kernel_rfl) ?_
 repeat (go_big_quiet_step (((first | (go_at_call 94; exact Calls.quiet_of_old (HN.out _)) | (go_at_call 42; exact Calls.quiet_of_old (HS.out _))))))
 refine wpQuiet_nil ?_
 intro _ hpq
 obtain ⟨pq, hpq'⟩ := hpq
 subst hpq'
 have H1 := Lib.hid pq.old
 obtain ⟨w1, hw1⟩ : ∃ w1, pq.to = w1 := ⟨_, rfl⟩
 rw [hw1] at H1 ⊢
 clear hw1 pq
 by_cases e : a = b
 ·have e1 : ((a : Int) != (b : Int)) = false := by simp [e]
  have HE := Lib.hid e
  clear e
  go_wp2_with (at_builtin; refine wpList_append_sees rfl _ _ rfl w.heap.size (.slice none 0 0) [] rfl (Owns.nil _ _) (.slice p2 (l.length - 4) c2) (l.take (l.length - 4)) rfl (HH.out.2.1.old H1.out) (by rw [HH.out.2.2]; simp; omega) H1.out.size ?_; intro v1 w2 hown hgr)
  go_ret2
  refine ⟨H1.out.trans ((Keeps.refl _ _).grown hgr (fun k e _ => by simp [Value.ownBlock] at e)), ?_⟩
  rw [HT.out, if_pos HE.out]
  rw [List.nil_append] at hown
  exact ⟨_, rfl, hown⟩
 ·have e1 : ((a : Int) != (b : Int)) = true := by simp; omega
  have HE := Lib.hid e
  clear e
  go_wp2_with fail
  go_ret2
  refine ⟨H1.out, ?_⟩
  rw [HT.out, if_neg HE.out]
  exact ⟨_, rfl, by decide⟩
end Go.Proofs.YtfnanbadbmmicaaGreatDoor

namespace Go.Proofs.YtfnanbadbmmicaaGreatDoor
open Go.RowKit Go.Great

theorem map_put {P : Program} {w : World} {m : Nat} {es : Array MapEntry} {cl : Nat} {T kt et : TypeId} {d : TypeDesc} {k : Value} (hu : P.underlying T = some (.map kt et)) (hk : P.underlying kt = some d) (hkey : MapKept.IsKey d k) (hm : w.heap[m]? = some (.map es cl)) (v : Value)
  (hf : Instr.findNow d k es.toList 0 = some none) :
  ∃ w', (Instr.mapUpdate T (.map (some m)) k v).run P w = .ok () w' ∧ w'.heap[m]? = some (.map (es.push ⟨k, v, cl⟩) (cl + 1)) ∧ Keeps (fun i => i = m) w w' := by
 have hlt : m < w.heap.size := (Array.getElem?_eq_some_iff.1 hm).1
 refine ⟨{ w with heap := w.heap.setIfInBounds m (.map (es.push ⟨k, v, cl⟩) (cl + 1)) }, ?_, ?_, ?_⟩
 ·simp [Instr.mapUpdate, run_underlying hu, MapKept.run_getObj_map hm, MapKept.run_checkKey hk hkey, MapKept.run_findKey hk hf, MapKept.run_setObj_map _ hm, Result.andThen]
 ·simp [hlt]
 ·exact ⟨rfl, rfl, rfl, by simp, fun i _ hi => by simp [Ne.symm hi]⟩
theorem map_get {P : Program} {w : World} {m : Nat} {es : Array MapEntry} {cl : Nat} {T kt et : TypeId} {d : TypeDesc} {k : Value} (hu : P.underlying T = some (.map kt et)) (hk : P.underlying kt = some d) (hkey : MapKept.IsKey d k) (hm : w.heap[m]? = some (.map es cl)) {z : Value} (hz : (zeroValue et).run P w = .ok z w)
  {r : Option (Nat × Value)} (hf : Instr.findNow d k es.toList 0 = some r) :
  (Instr.lookup T (.map (some m)) k false).run P w = .ok (r.elim z (·.2)) w := by
 cases r with
 | none => simp [Instr.lookup, run_underlying hu, MapKept.run_getObj_map hm, MapKept.run_checkKey hk hkey, MapKept.run_findKey hk hf, hz, Result.andThen]
 | some x => simp [Instr.lookup, run_underlying hu, MapKept.run_getObj_map hm, MapKept.run_checkKey hk hkey, MapKept.run_findKey hk hf, Result.andThen]
theorem wpList_skipTo {P : Program} {ops : Array Oper} {rest : List Oper} {o : Oper} {a : Act} {w : World} {Q : Exit → Act → World → Prop} (hg : o.guard = none) (w' : World) (hrun : (execOp a.eval o).run P w = .ok .skip w')
  (h : wpList P ops Q rest (a.put o.dst undef) w') : wpList P ops Q (o :: rest) a w := by
 refine wpList_plain hg fun K hK => ?_
 unfold Oper.wp
 rw [hrun, Oper.upon_skip]
 exact hK _ _ h
theorem run_insert_op {P : Program} {T : TypeId} {p k v : Value} {w w' : World} (h : (Instr.mapUpdate T p k v).run P w = .ok () w') {ρ : Operand → Value} {o : Oper} {x y z : Operand} (ho : o.op = .insert T x y z) (hx : ρ x = p) (hy : ρ y = k) (hz : ρ z = v) : (execOp ρ o).run P w = .ok .skip w' := by
 subst hx hy hz
 unfold execOp
 rw [ho]
 simp only [Sem.run_bind, Sem.run_pure, h, Result.andThen]
theorem run_lookup_op {P : Program} {T : TypeId} {p k v : Value} {w w' : World} (h : (Instr.lookup T p k false).run P w = .ok v w') {ρ : Operand → Value} {o : Oper} {x y : Operand} (ho : o.op = .lookup T x y false) (hx : ρ x = p) (hy : ρ y = k) : (execOp ρ o).run P w = .ok (.value v) w' := by
 subst hx hy
 unfold execOp
 rw [ho]
 simp only [Sem.run_bind, Sem.run_pure, h, Result.andThen]

def intL (z : Int) : List Value := [.int .i64 z]
/-- the parts that a Kind tells -/
def partsL (k : Int) : List Int := if k = 1 then [0, 1, 2, 3] else if k = 2 then [3] else if k = 3 then [3] else if k = 4 then [0, 4] else if k = 5 then [5, 0, 3, 6] else if k = 6 then [5, 0, 7] else []
end Go.Proofs.YtfnanbadbmmicaaGreatDoor

namespace Go.Proofs.YtfnanbadbmmicaaGreatDoor
open Go.RowKit

abbrev logS : ByteArray := ⟨#[108, 111, 103]⟩
abbrev cutS : ByteArray := ⟨#[97, 98, 99, 100, 101, 102, 103, 104, 105, 106, 107, 108, 109, 110, 111, 112, 113, 114, 115, 116, 117, 118, 119, 120, 121, 122, 48, 49, 50, 51, 52, 53, 54, 55, 56, 57, 45, 46]⟩
theorem trim_log (w : World) : Calls Tryz.prog 37 #[.string logS, .string cutS] w fun e w' => e = .returned (.string ⟨#[]⟩) ∧ Old w w' := by
 have h : Calls Tryz.prog 37 #[.string logS, .string cutS] w fun e w' => e = .returned (.string ⟨(Lib.trimS logS.data.toList cutS.data.toList).toArray⟩) ∧ Below w.heap.size w w' :=
  Go.Proofs.Any.strings_Trim_laid shTrim (by kernel_rfl) logS cutS w (by decide) (by decide) (Go.Proofs.ascii_of_all (by decide))
 refine h.mono ?_
 rintro e w' ⟨rfl, hb⟩
 exact ⟨by rw [show Lib.trimS logS.data.toList cutS.data.toList = [] by decide], Old.of_below hb (Nat.le_refl _)⟩
theorem may_log (w : World) : Calls Tryz.prog 17 #[.string logS] w fun e w' => e = .returned (.bool true) ∧ Old w w' := by
 have T := Lib.hid (trim_log w)
 go_enter Tryz.func17, Tryz.ntmps17
 go_wp2_with fail
 refine T.out.mono ?_
 rintro e w1 ⟨rfl, o1⟩
 have H := Lib.hid o1
 clear o1
 go_wp2_with fail
 go_ret
 exact ⟨rfl, H.out⟩
theorem wrong1_no (ib eb : Nat) (_z : Int) (w : World) (h : w.heap[ib]? = some (.cells #[.bool false] 4 (0, 0))) : Calls Tryz.prog 36 #[.pointer (some ⟨ib, 0, none⟩), .pointer (some ⟨eb, 0, none⟩)] w fun e w' => e = .returned (.int .i64 0) ∧ w = w' := by
 have c := blk1 h
 clear h
 go_enter Tryz.func36, Tryz.ntmps36
 go_wp2_with fail
 go_ret
 exact ⟨rfl, rfl⟩
theorem wrong_no (z : Int) (w : World) : Calls Tryz.prog 16 #[.bool false, .int .i64 z] w fun e w' =>
  e = .returned (.func (.func 36) #[] #[.pointer (some ⟨w.heap.size, 0, none⟩), .pointer (some ⟨w.heap.size + 1, 0, none⟩)]) ∧ w'.heap[w.heap.size]? = some (.cells #[.bool false] 4 (0, 0)) ∧ Old w w' := by
 have H := Lib.hid (And.intro ((Below.heap_alloc (w.alloc (.cells #[.bool false] 4)) (.cells #[.int .i64 z] 27) w.heap.size (by simp)).trans (heap_alloc_new w _)) (((Keeps.refl (fun _ => False) w).alloc (.cells #[.bool false] 4)).alloc (.cells #[.int .i64 z] 27)))
 go_enter Tryz.func16, Tryz.ntmps16
 go_wp2_with fail
 go_ret
 exact ⟨rfl, H.out.1, H.out.2⟩
end Go.Proofs.YtfnanbadbmmicaaGreatDoor
