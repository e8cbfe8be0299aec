/- DERIVED. The chapter's rows (layer 15): the law's own test that the program is awake. -/
import Derived.Test.YtpehpidlcdfhcaaLo
import Derived.Test.YtpehpidlcdfhcaaAp
namespace Go.Proofs.Ytpehpidlcdfhcaa
open Go.RowKit

abbrev SeesU (w : World) (v : Value) (l : List Nat) : Prop := SeesR w 1 (fun (z : Nat) => [Value.int .u64 (z : Int)]) v l
abbrev OwnsI (w : World) (B : Nat) (v : Value) (l : List It) : Prop := OwnsR w B 40 4 It.cells v l
theorem Try.infoItem : (Try.prog.info? 40).map (fun i => (i.zero, i.size, i.bytes)) = some (some (.agg #[.int .u64 0, .int .u64 0, .string ⟨#[]⟩, .slice none 0 0]), 4, 56) := by kernel_rfl

/-- an item without an event -/
def atIt (i t : Nat) : It := ⟨i + 1, t, ⟨#[]⟩, .slice none 0 0, []⟩
def atTo (ts : List Nat) (k : Nat) : List It := (List.range k).map fun i => atIt i (ts.getD i 0)
theorem atTo_succ (ts : List Nat) (k : Nat) : atTo ts (k + 1) = atTo ts k ++ [atIt k (ts.getD k 0)] := by
  unfold atTo; rw [List.range_succ]; simp
theorem atTo_len (ts : List Nat) (k : Nat) : (atTo ts k).length = k := by simp [atTo]
theorem atIt_fine (w : World) (i t : Nat) (hi : i < 18446744073709551615) (ht : t < 18446744073709551616) : (atIt i t).fine w :=
  ⟨SeesR.nil w, fun h0 => by simp [atIt] at h0, fun a ha => by simp [atIt] at ha, by simp [atIt]; omega, by simpa [atIt] using ht⟩

set_option maxRecDepth 100000 in
theorem at_any (v : Value) (ts : List Nat) (w : World) (h : SeesU w v ts) (hl : ts.length ≤ 1000) (hb : ∀ t ∈ ts, t < 18446744073709551616) :
    Calls Try.prog 19 #[v] w fun e w' => ∃ p n c, e = .returned (.slice p n c) ∧ OwnsI w' w.heap.size (.slice p n c) (atTo ts ts.length) ∧ Old w w' := by
  obtain ⟨p, c, rfl, _, _⟩ := h.len
  have HH := Lib.hid h
  have HB := Lib.hid hb
  clear h hb
  go_enter Try.func19, Try.ntmps19
  go_wp2_with fail
  go_loopw [3, 4] (fun v3 v4 wr => ∃ k : Nat, k ≤ ts.length ∧ v4 = .int .i64 k ∧ OwnsI wr w.heap.size v3 (atTo ts k) ∧ Old w wr) (fun _ v4 _ => ts.length - (intOf v4).toNat)
  case atStart => exact ⟨0, by omega, rfl, OwnsR.nil _ _, Keeps.refl _ _⟩
  case round =>
    obtain ⟨k, hk, rfl, ho, hkw⟩ := hrel
    by_cases hlt : k < ts.length
    · obtain ⟨b, o, c', he, _, _, hc⟩ := HH.out.at (by omega)
      simp only [Value.slice.injEq, true_and] at he
      obtain ⟨rfl, rfl⟩ := he
      have hx : ts[k]? = some ts[k] := List.getElem?_eq_getElem hlt
      have hgd : ts.getD k 0 = ts[k] := by simp [List.getD, hx]
      have htb := HB.out ts[k] (List.getElem_mem hlt)
      have q := hkw.cell (hc k _ hx 0 _ rfl) (fun f => f)
      simp only [Nat.mul_one, Nat.add_zero] at q
      rw [← hgd] at q htb
      clear hgd
      obtain ⟨t, hgd⟩ : ∃ t, ts.getD k 0 = t := ⟨_, rfl⟩
      rw [hgd] at q htb
      have hsz := hkw.size
      have hsn : SeesR (wr.alloc (.cells #[.int .u64 ((k : Int) + 1), .int .u64 (t : Int), .string ⟨#[]⟩, .slice none 0 0] 40)) 4 It.cells (.slice (some ⟨wr.heap.size, 0, none⟩) 1 1) [atIt k t] :=
        SeesR.new wr _ (0, 0) [atIt k t] _ (by simp [atIt, It.cells]) (fun _ => rfl) (by unfold maxLen; simp)
      have SN := Lib.hid hsn
      have HO := Lib.hid ho
      have HK := Lib.hid (And.intro hkw hgd)
      clear hc hx hsn ho hkw hgd
      go_wp2_with (at_builtin; refine wpList_append_rows (P := Try.prog) rfl _ _ 25 rfl w.heap.size 40 4 56 It.cells _ Try.underlying25 Try.infoItem rfl (by decide) u3 (atTo ts k) rfl (HO.out.alloc _) _ [atIt k t] rfl SN.out (by simp [It.cells]) (by simp [It.cells, atIt, Value.oneCell']) (by rw [atTo_len]; unfold maxLen; simp; omega) (by rw [atTo_len]; simp; omega) (by simp; omega) ?_; intro v' w2 ho2 hg2 _)
      have R := Lib.hid (And.intro ho2 ((HK.out.1.alloc _).grown hg2 (fun b hb hlt => by have := HO.out.block b hb; omega)))
      clear ho2 hg2
      go_roundw
      case rel => exact ⟨k + 1, by omega, by go_num, by rw [atTo_succ, HK.out.2]; exact R.out.1, R.out.2⟩
      case measure => simp [intOf]; omega
    · have R := Lib.hid (And.intro ho hkw)
      clear ho hkw
      go_wp2_with fail
      go_ret
      obtain ⟨ho, hkw⟩ := R.out
      have hkl : k = ts.length := by omega
      subst hkl
      obtain ⟨p', c', he, _, _⟩ := (ho.sees (fun _ => rfl) (by decide)).len
      exact ⟨p', _, c', by rw [← he]; rfl, by rw [← he]; exact ho, hkw⟩

theorem items_at {w : World} {B : Nat} {v : Value} {ts : List Nat} (h : OwnsI w B v (atTo ts ts.length)) (hl : ts.length ≤ 1000) (hb : ∀ t ∈ ts, t < 18446744073709551616) : Items w v (atTo ts ts.length) := by
  refine ⟨h.sees (fun _ => rfl) (by decide), fun x hx => ?_⟩
  obtain ⟨i, hi, rfl⟩ := List.mem_map.1 hx
  have hi' : i < ts.length := by simpa using hi
  have hx : ts[i]? = some ts[i] := List.getElem?_eq_getElem hi'
  refine atIt_fine w i _ (by omega) ?_
  simp only [List.getD, hx, Option.getD_some]
  exact hb _ (List.getElem_mem hi')

theorem size_at (i t : Nat) : (atIt i t).size = 18 := by
  have h : evOk ⟨#[]⟩ [] = true := by decide
  unfold It.size evSize atIt
  simp only
  rw [h]
  have h0 : (⟨#[]⟩ : ByteArray).toList = [] := by rw [ByteArray.toList_eq]
  simp [evForm, form_lt, h0, show (⟨#[]⟩ : ByteArray).size = 0 from rfl]

theorem SeesU.lit (w : World) (cs : Array Value) (l : List Nat) (h : cs.toList = l.flatMap (fun (z : Nat) => [Value.int .u64 (z : Int)])) (hm : l.length ≤ 1000) : SeesU (w.alloc (.cells cs 24)) (.slice (some ⟨w.heap.size, 0, none⟩) l.length l.length) l :=
  SeesR.new w _ (0, 0) l cs h (fun _ => rfl) (by unfold maxLen; omega)

theorem at_at (ts : List Nat) (n j : Nat) (h : j < n) : (atTo ts n)[j]? = some (atIt j (ts.getD j 0)) := by
  unfold atTo; simp [h]
theorem sum_at (ts : List Nat) (n : Nat) : ∀ d j, n - j = d → sumFrom (atTo ts n) j = 18 * d
  | 0, j, h => by unfold sumFrom; rw [List.drop_of_length_le (by rw [atTo_len]; omega)]; rfl
  | d + 1, j, h => by
    rw [sumFrom_succ (at_at ts n j (by omega)), sum_at ts n d (j + 1) (by omega), size_at]
    omega
def tailC (p : Pol) (now : Nat) (ts : List Nat) (n : Nat) : Nat → Nat
  | 0 => 0
  | k + 1 => if bad1 p now (atIt k (ts.getD k 0)) || (bad2 p (18 * (n - k)) || bad3 p (n - k)) then k + 1 else tailC p now ts n k
theorem tail_c (p : Pol) (now : Nat) (ts : List Nat) (n : Nat) : ∀ k, k ≤ n → tailFrom p now (atTo ts n) k = tailC p now ts n k
  | 0, _ => rfl
  | k + 1, h => by
    have hb : badAt p now (atTo ts n) k = (bad1 p now (atIt k (ts.getD k 0)) || (bad2 p (18 * (n - k)) || bad3 p (n - k))) := by
      unfold badAt; rw [at_at ts n k (by omega), sum_at ts n _ k rfl, atTo_len]
    rw [tailFrom, tailC, hb, tail_c p now ts n k (by omega)]
theorem tail_at (p : Pol) (now : Nat) (ts : List Nat) (n : Nat) : tailN p now (atTo ts n) = tailC p now ts n n := by
  unfold tailN; rw [atTo_len]; exact tail_c p now ts n n (Nat.le_refl _)
theorem low_at (p : Pol) (now : Nat) (ts : List Nat) (n : Nat) (h : 0 < n) : lowN p now (atTo ts n) = if tailC p now ts n n < n then tailC p now ts n n + 1 else (n + 1) % 18446744073709551616 := by
  unfold lowN
  rw [tail_at, atTo_len]
  split
  · rename_i h1; rw [at_at ts n _ h1]; rfl
  · rw [at_at ts n _ (by omega)]; simp only [atIt]; rw [show n - 1 + 1 = n from by omega]

/-- a call of at, behind a literal -/
def AtPost (w : World) (ts : List Nat) (e : Ending) (w' : World) : Prop := ∃ p n c, e = .returned (.slice p n c) ∧ Items w' (.slice p n c) (atTo ts ts.length) ∧ Old w w'
theorem at_lit (w : World) (cs : Array Value) (ts : List Nat) (h : cs.toList = ts.flatMap (fun (z : Nat) => [Value.int .u64 (z : Int)])) (hl : ts.length ≤ 1000) (hb : ∀ t ∈ ts, t < 18446744073709551616) (n : Nat) (hn : n = ts.length) :
    Calls Try.prog 19 #[.slice (some ⟨w.heap.size, 0, none⟩) n n] (w.alloc (.cells cs 24)) (AtPost w ts) := by
  subst hn
  exact (at_any _ ts _ (SeesU.lit w cs ts h hl) hl hb).mono fun e w' ⟨p, n, c, he, ho, hk⟩ => ⟨p, n, c, he, items_at ho hl hb, ((Keeps.refl _ _).alloc _).trans hk⟩

theorem tail_lit (p : Pol) (now : Nat) (ts : List Nat) (v : Value) (w : World) (r : Nat) (h : Items w v (atTo ts ts.length)) (hl : ts.length ≤ 1000) (hn : now < 18446744073709551616) (hp : p.ok = true) (hr : tailC p now ts ts.length ts.length = r) :
    Calls Try.prog 8 #[.agg p.cells, .int .u64 now, v] w fun e w' => e = .returned (.tuple #[.int .i64 (r : Nat), .int .i64 0]) ∧ Old w w' := by
  have := tail_any p now v _ w h (by rw [atTo_len]; exact hl) hn hp
  rw [tail_at, hr] at this
  exact this
theorem low_lit (p : Pol) (now : Nat) (ts : List Nat) (v : Value) (w : World) (r : Nat) (h : Items w v (atTo ts ts.length)) (h0 : 0 < ts.length) (hl : ts.length ≤ 1000) (hn : now < 18446744073709551616) (hp : p.ok = true)
    (hr : (if tailC p now ts ts.length ts.length < ts.length then tailC p now ts ts.length ts.length + 1 else (ts.length + 1) % 18446744073709551616) = r) :
    Calls Try.prog 10 #[.agg p.cells, .int .u64 now, v] w fun e w' => e = .returned (.tuple #[.int .u64 (r : Nat), .int .i64 0]) ∧ Old w w' := by
  have := low_any p now v _ w h (by rw [atTo_len]; exact hl) hn hp
  rw [low_at _ _ _ _ h0, hr] at this
  exact this

set_option maxRecDepth 100000 in
theorem wakes_any (w : World) : Calls Try.prog 17 #[] w fun e w' => e = .returned (.bool true) ∧ Old w w' := by
  go_enter Try.func17, Try.ntmps17
  go_wp2_with fail
  refine (at_lit _ _ [0, 0, 0] rfl (by decide) (by decide) 3 rfl).mono ?_
  rintro e w1 ⟨p1, n1, c1, rfl, hi1, hk1⟩
  have T1 := Lib.hid (tail_lit ⟨0, 0, 2⟩ 0 _ _ w1 1 hi1 (by decide) (by decide) (by decide) (by decide))
  have K1 := Lib.hid hk1
  clear hi1 hk1
  go_wp2_with fail
  refine T1.out.mono ?_
  rintro e w2 ⟨rfl, hk2⟩
  have K2 := Lib.hid (K1.out.trans hk2)
  clear hk2 T1
  go_wp2_with fail
  refine (at_lit _ _ [3, 6, 4, 9] rfl (by decide) (by decide) 4 rfl).mono ?_
  rintro e w3 ⟨p3, n3, c3, rfl, hi3, hk3⟩
  have T3 := Lib.hid (low_lit ⟨5, 0, 0⟩ 10 _ _ w3 4 hi3 (by decide) (by decide) (by decide) (by decide) (by decide))
  have K3 := Lib.hid (K2.out.trans hk3)
  clear hi3 hk3
  go_wp2_with fail
  refine T3.out.mono ?_
  rintro e w4 ⟨rfl, hk4⟩
  have K4 := Lib.hid (K3.out.trans hk4)
  clear hk4 T3
  go_wp2_with fail
  refine (at_lit _ _ [0, 0] rfl (by decide) (by decide) 2 rfl).mono ?_
  rintro e w5 ⟨p5, n5, c5, rfl, hi5, hk5⟩
  have T5 := Lib.hid (low_lit ⟨0, 10, 0⟩ 0 _ _ w5 3 hi5 (by decide) (by decide) (by decide) (by decide) (by decide))
  have K5 := Lib.hid (K4.out.trans hk5)
  clear hi5 hk5
  go_wp2_with fail
  refine T5.out.mono ?_
  rintro e w6 ⟨rfl, hk6⟩
  have K6 := Lib.hid (K5.out.trans hk6)
  clear hk6 T5
  go_wp2_with fail
  refine (at_lit _ _ [0, 0] rfl (by decide) (by decide) 2 rfl).mono ?_
  rintro e w7 ⟨p7, n7, c7, rfl, hi7, hk7⟩
  have T7 := Lib.hid (low_lit ⟨0, 0, 0⟩ 9 _ _ w7 1 hi7 (by decide) (by decide) (by decide) (by decide) (by decide))
  have K7 := Lib.hid (K6.out.trans hk7)
  clear hi7 hk7
  go_wp2_with fail
  refine T7.out.mono ?_
  rintro e w8 ⟨rfl, hk8⟩
  have K8' := Lib.hid (K7.out.trans hk8)
  clear hk8 T7
  have T9 := Lib.hid (tail_no_any ⟨-1, 0, 0⟩ 0 (.slice none 0 0) [] w8 ⟨SeesR.nil w8, fun x hx => by cases hx⟩ (by decide))
  go_wp2_with fail
  refine T9.out.mono ?_
  rintro e w9 ⟨rfl, hk9⟩
  have K9 := Lib.hid (K8'.out.trans hk9)
  clear hk9 T9
  go_wp2_with fail
  go_ret
  exact ⟨rfl, K9.out⟩
end Go.Proofs.Ytpehpidlcdfhcaa
