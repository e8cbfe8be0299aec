/- DERIVED. Chapter 03: WireKnown, walked. · The statement WireKnown: for every input the law returns true, and the arguments read as they did. -/
import Derived.Test.YtplcnceacbpjhaaZWireKnown01
import Derived.Test.YtplcnceacbpjhaaRows
import Derived.ProofKit
import Derived.OpenShut
import Derived.JoinedCond
import Derived.ChangeOld
namespace Go.Proofs.Ytplcnceacbpjhaa
open Go.RowKit

/-- the row's k-th line: the bytes, the number, the errno -/
def RowW (w : World) (tb k : Nat) : Prop := ∃ v l n e, w.cell? ⟨tb, k * 3, none⟩ = some v ∧ w.cell? ⟨tb, k * 3 + 1, none⟩ = some (.int .u64 (n : Nat)) ∧ w.cell? ⟨tb, k * 3 + 2, none⟩ = some (.int .i64 (e : Nat)) ∧ Sees w v l ∧ l.length ≤ 20 ∧ (readNum l 4).1 = n ∧ (readNum l 4).2.1 = e
theorem form_max : form 18446744073709551615 = List.replicate 9 255 ++ [1] := by
 rw [form_ge (by decide), form_ge (by decide), form_ge (by decide), form_ge (by decide), form_ge (by decide), form_ge (by decide), form_ge (by decide), form_ge (by decide), form_ge (by decide), form_lt (by decide)]; decide
def oB (l : List UInt8) : Obj := .cells (l.map u8).toArray 5
theorem seen_lit (w : World) (l : List UInt8) (h : l.length ≤ maxLen) : Sees (w.alloc (oB l)) (.slice (some ⟨w.heap.size, 0, none⟩) l.length l.length) l := Sees.new w l (0, 0) h
set_option maxRecDepth 100000 in
set_option maxHeartbeats 4000000 in
theorem walk_WireKnown (w : World) : Calls Try.prog 7 #[] w fun e w' => e = .returned (.bool true) ∧ Below w.heap.size w w' := by
 have AW := Lib.hid awake_any
 go_enter Try.func7, Try.ntmps7
 go_wp2_with fail
 refine (AW.out w).mono ?_
 rintro e w1 ⟨rfl, hk⟩
 have K1 := Lib.hid hk
 clear hk
 go_wp2_with fail
 have z5 : Sees (((((w1.alloc (oB [128])).alloc (oB [128, 0])).alloc (oB [5])).alloc (oB [4])).alloc (oB [255])) (.slice (some ⟨w1.heap.size + 1 + 1 + 1 + 1, 0, none⟩) 1 1) [255] := by
  have := seen_lit (((((w1.alloc (oB [128])).alloc (oB [128, 0])).alloc (oB [5])).alloc (oB [4]))) [255] (by decide)
  simpa using this
 have z4 : Sees (((((w1.alloc (oB [128])).alloc (oB [128, 0])).alloc (oB [5])).alloc (oB [4])).alloc (oB [255])) (.slice (some ⟨w1.heap.size + 1 + 1 + 1, 0, none⟩) 1 1) [4] := by
  have := (seen_lit (((w1.alloc (oB [128])).alloc (oB [128, 0])).alloc (oB [5])) [4] (by decide)).alloc (oB [255])
  simpa using this
 have z3 : Sees (((((w1.alloc (oB [128])).alloc (oB [128, 0])).alloc (oB [5])).alloc (oB [4])).alloc (oB [255])) (.slice (some ⟨w1.heap.size + 1 + 1, 0, none⟩) 1 1) [5] := by
  have := ((seen_lit ((w1.alloc (oB [128])).alloc (oB [128, 0])) [5] (by decide)).alloc (oB [4])).alloc (oB [255])
  simpa using this
 have z2 : Sees (((((w1.alloc (oB [128])).alloc (oB [128, 0])).alloc (oB [5])).alloc (oB [4])).alloc (oB [255])) (.slice (some ⟨w1.heap.size + 1, 0, none⟩) 2 2) [128, 0] := by
  have := (((seen_lit (w1.alloc (oB [128])) [128, 0] (by decide)).alloc (oB [5])).alloc (oB [4])).alloc (oB [255])
  simpa using this
 have z1 : Sees (((((w1.alloc (oB [128])).alloc (oB [128, 0])).alloc (oB [5])).alloc (oB [4])).alloc (oB [255])) (.slice (some ⟨w1.heap.size, 0, none⟩) 1 1) [128] := by
  have := ((((seen_lit w1 [128] (by decide)).alloc (oB [128, 0])).alloc (oB [5])).alloc (oB [4])).alloc (oB [255])
  simpa using this
 have k5 := ((((((Keeps.refl (fun _ => False) w1).alloc (oB [128])).alloc (oB [128, 0])).alloc (oB [5])).alloc (oB [4])).alloc (oB [255]))
 obtain ⟨p1, hp1⟩ : ∃ p, w1.heap.size = p := ⟨_, rfl⟩
 rw [hp1] at z1 z2 z3 z4 z5 ⊢
 have Z := Lib.hid (And.intro k5 (And.intro z1 (And.intro z2 (And.intro z3 z4))))
 refine (rep_any 9 (by decide) (by decide) mul_9 _ 255 _ z5).mono ?_
 clear z1 z2 z3 z4 z5 k5 hp1
 rintro e w2 ⟨g1, rfl, r1, -, ko⟩
 have R1 := Lib.hid (And.intro (K1.out.trans (Z.out.1.trans ko)) (And.intro (Z.out.2.1.old ko) (And.intro (Z.out.2.2.1.old ko) (And.intro (Z.out.2.2.2.1.old ko) (And.intro (Z.out.2.2.2.2.old ko) r1)))))
 clear Z r1 ko K1
 go_wp2_with fail
 refine (rep_any 10 (by decide) (by decide) mul_10 _ 255 _ (seen_lit w2 [255] (by decide))).mono ?_
 rintro e w3 ⟨g2, rfl, r2, -, ko⟩
 have q := ((Keeps.refl (fun _ => False) w2).alloc (oB [255])).trans ko
 have R2 := Lib.hid (And.intro (R1.out.1.trans q) (And.intro (R1.out.2.1.old q) (And.intro (R1.out.2.2.1.old q) (And.intro (R1.out.2.2.2.1.old q) (And.intro (R1.out.2.2.2.2.1.old q) (And.intro (R1.out.2.2.2.2.2.old q) r2))))))
 clear R1 r2 ko q
 go_wp2_with fail
 refine (rep_any 9 (by decide) (by decide) mul_9 _ 255 _ (seen_lit w3 [255] (by decide))).mono ?_
 rintro e w4 ⟨g3, rfl, r3, -, ko⟩
 have q := ((Keeps.refl (fun _ => False) w3).alloc (oB [255])).trans ko
 have R3 := Lib.hid (And.intro (R2.out.1.trans q) (And.intro (R2.out.2.1.old q) (And.intro (R2.out.2.2.1.old q) (And.intro (R2.out.2.2.2.1.old q) (And.intro (R2.out.2.2.2.2.1.old q) (And.intro (R2.out.2.2.2.2.2.1.old q) (R2.out.2.2.2.2.2.2.old q)))))))
 clear R2 ko q
 go_wp2_with (at_builtin; refine wpList_append_full rfl _ _ rfl g3 9 (List.replicate 9 255) rfl rfl (r3.alloc _) _ _ [2] rfl (seen_lit w4 [2] (by decide)) (by decide) (by decide) ?_; intro v5 w5 ho hg; obtain ⟨p5, c5, rfl, _, _⟩ := ho.sees.len)
 have q := ((Keeps.refl (fun _ => False) w4).alloc (oB [2])).grown hg (fun k h => by cases h)
 have R4 := Lib.hid (And.intro (R3.out.1.trans q) (And.intro (R3.out.2.1.old q) (And.intro (R3.out.2.2.1.old q) (And.intro (R3.out.2.2.2.1.old q) (And.intro (R3.out.2.2.2.2.1.old q) (And.intro (R3.out.2.2.2.2.2.1.old q) (And.intro (R3.out.2.2.2.2.2.2.old q) ho.sees)))))))
 clear R3 r3 ho hg q
 go_wp2_with fail
 refine (rep_any 9 (by decide) (by decide) mul_9 _ 255 _ (seen_lit w5 [255] (by decide))).mono ?_
 rintro e w6 ⟨g6, rfl, r6, -, ko⟩
 have q := ((Keeps.refl (fun _ => False) w5).alloc (oB [255])).trans ko
 have R6 := Lib.hid (And.intro (R4.out.1.trans q) (And.intro (R4.out.2.1.old q) (And.intro (R4.out.2.2.1.old q) (And.intro (R4.out.2.2.2.1.old q) (And.intro (R4.out.2.2.2.2.1.old q) (And.intro (R4.out.2.2.2.2.2.1.old q) (And.intro (R4.out.2.2.2.2.2.2.1.old q) (R4.out.2.2.2.2.2.2.2.old q))))))))
 clear R4 ko q
 go_wp2_with (at_builtin; refine wpList_append_full rfl _ _ rfl g6 9 (List.replicate 9 255) rfl rfl (r6.alloc _) _ _ [0] rfl (seen_lit w6 [0] (by decide)) (by decide) (by decide) ?_; intro v7 w7 ho hg; obtain ⟨p7, c7, rfl, _, _⟩ := ho.sees.len)
 have q := ((Keeps.refl (fun _ => False) w6).alloc (oB [0])).grown hg (fun k h => by cases h)
 have R7 := Lib.hid (And.intro (R6.out.1.trans q) (And.intro (R6.out.2.1.old q) (And.intro (R6.out.2.2.1.old q) (And.intro (R6.out.2.2.2.1.old q) (And.intro (R6.out.2.2.2.2.1.old q) (And.intro (R6.out.2.2.2.2.2.1.old q) (And.intro (R6.out.2.2.2.2.2.2.1.old q) (And.intro (R6.out.2.2.2.2.2.2.2.old q) ho.sees))))))))
 clear R6 r6 ho hg q
 go_wp2_with fail
 refine (rep_any 9 (by decide) (by decide) mul_9 _ 255 _ (seen_lit w7 [255] (by decide))).mono ?_
 rintro e w8 ⟨g8, rfl, r8, -, ko⟩
 have q := ((Keeps.refl (fun _ => False) w7).alloc (oB [255])).trans ko
 have R8 := Lib.hid (And.intro (R7.out.1.trans q) (And.intro (R7.out.2.1.old q) (And.intro (R7.out.2.2.1.old q) (And.intro (R7.out.2.2.2.1.old q) (And.intro (R7.out.2.2.2.2.1.old q) (And.intro (R7.out.2.2.2.2.2.1.old q) (And.intro (R7.out.2.2.2.2.2.2.1.old q) (And.intro (R7.out.2.2.2.2.2.2.2.1.old q) (R7.out.2.2.2.2.2.2.2.2.old q)))))))))
 clear R7 ko q
 go_wp2_with (at_builtin; refine wpList_append_full rfl _ _ rfl g8 9 (List.replicate 9 255) rfl rfl (r8.alloc _) _ _ [1] rfl (seen_lit w8 [1] (by decide)) (by decide) (by decide) ?_; intro v9 w9 ho hg; obtain ⟨p9, c9, rfl, _, _⟩ := ho.sees.len)
 have q := ((Keeps.refl (fun _ => False) w8).alloc (oB [1])).grown hg (fun k h => by cases h)
 have R9 := Lib.hid (And.intro (R8.out.1.trans q) (And.intro (R8.out.2.1.old q) (And.intro (R8.out.2.2.1.old q) (And.intro (R8.out.2.2.2.1.old q) (And.intro (R8.out.2.2.2.2.1.old q) (And.intro (R8.out.2.2.2.2.2.1.old q) (And.intro (R8.out.2.2.2.2.2.2.1.old q) (And.intro (R8.out.2.2.2.2.2.2.2.1.old q) (And.intro (R8.out.2.2.2.2.2.2.2.2.old q) ho.sees)))))))))
 clear R8 r8 ho hg q
 go_wp2_with fail
 generalize hW : w9.alloc _ = W
 have rows : ∀ k, k < 10 → RowW W w9.heap.size k := by
  rw [← hW]
  intro k hk
  match k, hk with
  | 0, _ => exact ⟨_, [], 0, 4, by rw [World.cell?_alloc_at _ _ _ _ rfl]; rfl, by rw [World.cell?_alloc_at _ _ _ _ rfl]; rfl, by rw [World.cell?_alloc_at _ _ _ _ rfl]; rfl, Sees.nil _, by decide, by decide, by decide⟩
  | 1, _ => exact ⟨_, [128], 0, 4, by rw [World.cell?_alloc_at _ _ _ _ rfl]; rfl, by rw [World.cell?_alloc_at _ _ _ _ rfl]; rfl, by rw [World.cell?_alloc_at _ _ _ _ rfl]; rfl, R9.out.2.1.alloc _, by decide, by decide, by decide⟩
  | 2, _ => exact ⟨_, [128, 0], 0, 5, by rw [World.cell?_alloc_at _ _ _ _ rfl]; rfl, by rw [World.cell?_alloc_at _ _ _ _ rfl]; rfl, by rw [World.cell?_alloc_at _ _ _ _ rfl]; rfl, R9.out.2.2.1.alloc _, by decide, by decide, by decide⟩
  | 3, _ => exact ⟨_, [5], 0, 3, by rw [World.cell?_alloc_at _ _ _ _ rfl]; rfl, by rw [World.cell?_alloc_at _ _ _ _ rfl]; rfl, by rw [World.cell?_alloc_at _ _ _ _ rfl]; rfl, R9.out.2.2.2.1.alloc _, by decide, by decide, by decide⟩
  | 4, _ => exact ⟨_, [4], 4, 0, by rw [World.cell?_alloc_at _ _ _ _ rfl]; rfl, by rw [World.cell?_alloc_at _ _ _ _ rfl]; rfl, by rw [World.cell?_alloc_at _ _ _ _ rfl]; rfl, R9.out.2.2.2.2.1.alloc _, by decide, by decide, by decide⟩
  | 5, _ => exact ⟨_, List.replicate 9 255, 0, 4, by rw [World.cell?_alloc_at _ _ _ _ rfl]; rfl, by rw [World.cell?_alloc_at _ _ _ _ rfl]; rfl, by rw [World.cell?_alloc_at _ _ _ _ rfl]; rfl, R9.out.2.2.2.2.2.1.alloc _, by decide, by decide, by decide⟩
  | 6, _ => exact ⟨_, List.replicate 10 255, 0, 5, by rw [World.cell?_alloc_at _ _ _ _ rfl]; rfl, by rw [World.cell?_alloc_at _ _ _ _ rfl]; rfl, by rw [World.cell?_alloc_at _ _ _ _ rfl]; rfl, R9.out.2.2.2.2.2.2.1.alloc _, by decide, by decide, by decide⟩
  | 7, _ => exact ⟨_, List.replicate 9 255 ++ [2], 0, 5, by rw [World.cell?_alloc_at _ _ _ _ rfl]; rfl, by rw [World.cell?_alloc_at _ _ _ _ rfl]; rfl, by rw [World.cell?_alloc_at _ _ _ _ rfl]; rfl, R9.out.2.2.2.2.2.2.2.1.alloc _, by decide, by decide, by decide⟩
  | 8, _ => exact ⟨_, List.replicate 9 255 ++ [0], 0, 5, by rw [World.cell?_alloc_at _ _ _ _ rfl]; rfl, by rw [World.cell?_alloc_at _ _ _ _ rfl]; rfl, by rw [World.cell?_alloc_at _ _ _ _ rfl]; rfl, R9.out.2.2.2.2.2.2.2.2.1.alloc _, by decide, by decide, by decide⟩
  | 9, _ => exact ⟨_, List.replicate 9 255 ++ [1], 0, 3, by rw [World.cell?_alloc_at _ _ _ _ rfl]; rfl, by rw [World.cell?_alloc_at _ _ _ _ rfl]; rfl, by rw [World.cell?_alloc_at _ _ _ _ rfl]; rfl, R9.out.2.2.2.2.2.2.2.2.2.alloc _, by decide, by decide, by decide⟩
  | k + 10, hk => omega
 have kW : Old w W := by rw [← hW]; exact R9.out.1.alloc _
 have htb : w9.heap.size < W.heap.size := by rw [← hW]; simp
 have RW := Lib.hid (And.intro rows (And.intro kW htb))
 clear R9 hW rows kW htb
 go_loopg [57] 10 (fun n v57 wm => ∃ j : Nat, j ≤ 10 ∧ n = 10 - j ∧ v57 = .int .i64 (j : Int) ∧ Old W wm)
 case atStart => exact ⟨0, by omega, rfl, rfl, Keeps.refl _ _⟩
 case round =>
  obtain ⟨j, hj10, rfl, rfl, hkr⟩ := hrel
  by_cases hlt : j < 10
  ·obtain ⟨v, l, n, er, c0, c1, c2, hs, hl, hn, he⟩ := RW.out.1 j hlt
   obtain ⟨pv, cv, rfl, _, _⟩ := hs.len
   have d0 := hkr.cell c0 (fun f => f)
   have d1 := hkr.cell c1 (fun f => f)
   have d2 := hkr.cell c2 (fun f => f)
   have b1 : (j : Int) < 10 := by omega
   have HH := Lib.hid (And.intro hkr (And.intro (hs.old hkr) (And.intro hl (And.intro hn he))))
   clear hkr hs hl hn he c0 c1 c2
   go_wp2_with fail
   obtain ⟨wq, hq⟩ : ∃ wq, wr.alloc (.cells #[.slice pv l.length cv, .int .u64 (n : Int), .int .i64 (er : Int)] 65) = wq := ⟨_, rfl⟩
   have e0 : wq.cell? ⟨wr.heap.size, 0, none⟩ = some (.slice pv l.length cv) := by rw [← hq, World.cell?_alloc_at _ _ _ _ rfl]; rfl
   have e1 : wq.cell? ⟨wr.heap.size, 1, none⟩ = some (.int .u64 (n : Int)) := by rw [← hq, World.cell?_alloc_at _ _ _ _ rfl]; rfl
   have e2 : wq.cell? ⟨wr.heap.size, 2, none⟩ = some (.int .i64 (er : Int)) := by rw [← hq, World.cell?_alloc_at _ _ _ _ rfl]; rfl
   have s0 : wq.heap.size = wr.heap.size + 1 := by rw [← hq]; simp
   have kq : Old W wq := by rw [← hq]; exact HH.out.1.alloc _
   have sq : Sees wq (.slice pv l.length cv) l := by rw [← hq]; exact HH.out.2.1.alloc _
   rw [hq]
   clear hq
   refine (new_any _ l _ sq (by have := HH.out.2.2.1; omega)).mono ?_
   rintro e wa ⟨rb, bb, rfl, hR, hrb, -, ko⟩
   have e3 := ko.cell e0 (fun f => f)
   have e4 := ko.cell e1 (fun f => f)
   have e5 := ko.cell e2 (fun f => f)
   have HA := Lib.hid (And.intro hR (And.intro hrb (And.intro (kq.trans ko) (And.intro s0 kq.size))))
   clear hR hrb ko kq sq e0 e1 e2 s0
   go_wp2_with fail
   refine (rnum_any _ rb bb l 4 wa HA.out.1 (by decide)).mono ?_
   rintro e wb ⟨rfl, -, kb⟩
   rw [HH.out.2.2.2.1, HH.out.2.2.2.2]
   have hne : wr.heap.size ≠ rb := by have := HA.out.2.1; have := HA.out.2.2.2.1; omega
   have e6 := kb.cell e4 hne
   have e7 := kb.cell e5 hne
   have KB := Lib.hid (HA.out.2.2.1.then kb (fun i hi h => by have := HA.out.2.1; have := HA.out.2.2.2.1; have := HA.out.2.2.2.2; omega))
   clear kb e3 e4 e5 hne HA
   go_wp2_with fail
   go_roundg (10 - (j + 1))
   case measure => omega
   case rel => exact ⟨j + 1, by omega, rfl, by go_num, KB.out⟩
  ·obtain rfl : j = 10 := by omega
   have KR := Lib.hid (RW.out.2.1.trans hkr)
   clear hkr RW
   go_wp2_with fail
   refine (new_any _ [2, 97] _ (seen_lit wr [2, 97] (by decide)) (by decide)).mono ?_
   rintro e wa ⟨rb, bb, rfl, hR, hrb, -, ko⟩
   have HA := Lib.hid (And.intro (KR.out.trans (((Keeps.refl (fun _ => False) wr).alloc (oB [2, 97])).trans ko)) (And.intro hR (And.intro hrb KR.out.size)))
   clear hR hrb ko KR
   go_wp2_with fail
   have c1 := rbytes_any _ rb bb [2, 97] (-1) wa HA.out.2.1 (by decide)
   refine c1.mono ?_
   rintro e wb ⟨p1', n1', c1', he, -, hR, kb⟩
   rw [show readBytes [2, 97] (-1) = ([], 1, [2, 97]) from by decide] at he hR
   subst he
   have HB := Lib.hid (And.intro hR kb)
   clear c1 hR kb
   go_wp2_with fail
   have c1 := rbytes_any _ rb bb [2, 97] 1 wb HB.out.1 (by decide)
   refine c1.mono ?_
   rintro e wc ⟨p2', n2', c2', he, -, hR, kb⟩
   rw [show readBytes [2, 97] 1 = ([], 3, [2, 97]) from by decide] at he hR
   subst he
   have HC := Lib.hid (And.intro hR (HB.out.2.trans kb))
   clear c1 hR kb HB
   go_wp2_with fail
   have c1 := rbytes_any _ rb bb [2, 97] 2 wc HC.out.1 (by decide)
   refine c1.mono ?_
   rintro e wd ⟨p3', n3', c3', he, -, hR, kb⟩
   rw [show readBytes [2, 97] 2 = ([], 4, [2, 97]) from by decide] at he hR
   subst he
   have HD := Lib.hid (And.intro hR (HC.out.2.trans kb))
   clear c1 hR kb HC
   go_wp2_with fail
   refine (rnum_nil 0 wd).mono ?_
   rintro e we ⟨rfl, k1⟩
   have HE := Lib.hid k1
   clear k1
   go_wp2_with fail
   refine (rint_nil we).mono ?_
   rintro e wf ⟨rfl, k1⟩
   have HF := Lib.hid (HE.out.trans k1)
   clear k1 HE
   go_wp2_with fail
   refine (rbytes_nil 0 wf).mono ?_
   rintro e wg ⟨rfl, k1⟩
   have HG := Lib.hid (HF.out.trans k1)
   clear k1 HF
   go_wp2_with fail
   have c1 := int_any (.slice none 0 0) [] (-9223372036854775808) wg (Sees.nil wg) (by decide) (by decide)
   rw [List.nil_append, show zigN (-9223372036854775808) = 18446744073709551615 from by decide, form_max] at c1
   refine c1.mono ?_
   rintro e wh ⟨p4, n4, c4, rfl, ho, k1⟩
   have HH := Lib.hid (And.intro (HG.out.trans k1) ho.sees)
   clear k1 HG ho c1
   go_wp2_with fail
   refine (new_any _ _ wh HH.out.2 (by decide)).mono ?_
   rintro e wi ⟨r2, b2, rfl, hR, hr2, -, ko⟩
   have HI := Lib.hid (And.intro (HH.out.1.trans ko) (And.intro hR (And.intro hr2 HH.out.1.size)))
   clear hR hr2 ko HH
   go_wp2_with fail
   have c1 := rint_any _ r2 b2 _ wi HI.out.2.1
   rw [show readInt (List.replicate 9 255 ++ [1]) = (-9223372036854775808, 0, []) from by decide] at c1
   refine c1.mono ?_
   rintro e wj ⟨rfl, -, kj⟩
   have kx := (HI.out.1.weaken (T := fun k => k = r2) (fun _ _ f => f.elim)).then kj (fun _ _ h => h)
   have hrd := HD.out.1.keeps kx (fun k hk _ e => by have := HI.out.2.2.1; have := HI.out.2.2.2; omega)
   have kz : Old w wj := by
    have h1 := HA.out.1.then HD.out.2 (fun i hi e => by have h3 := HA.out.2.2.1; have := HA.out.2.2.2; simp at h3; omega)
    exact h1.then kx (fun i hi e => by have := HI.out.2.2.1; have := HI.out.2.2.2; have := h1.size; omega)
   have HJ := Lib.hid (And.intro hrd kz)
   clear hrd kz kx kj c1 HI HA HD
   go_wp2_with fail
   refine (left_any _ rb bb _ wj HJ.out.1).mono ?_
   rintro e wk ⟨rfl, rfl⟩
   go_wp2_with fail
   refine (end_any _ rb bb _ wj HJ.out.1).mono ?_
   rintro e wk ⟨rfl, rfl⟩
   rw [if_neg (by decide)]
   go_wp2_with fail
   refine (left_nil wj).mono ?_
   rintro e wk ⟨rfl, rfl⟩
   go_wp2_with fail
   refine (end_nil wj).mono ?_
   rintro e wk ⟨rfl, rfl⟩
   go_wp2_with fail
   refine (end_empty _ _ (by rw [World.cell?_alloc_at _ _ _ _ rfl]; rfl)).mono ?_
   rintro e wk ⟨rfl, rfl⟩
   go_wp2_with fail
   have c1 := num_any (.slice none 0 0) [] 18446744073709551615 _ (Sees.nil (wj.alloc (.cells #[.slice none 0 0, .bool false] 69))) (by decide) (by decide)
   rw [List.nil_append, form_max] at c1
   refine c1.mono ?_
   rintro e wl ⟨p5', n5', c5', rfl, ho, k1⟩
   obtain ⟨p6', c6', hv, -, -⟩ := ho.sees.len
   cases hv
   have HL := Lib.hid ((HJ.out.2.alloc (.cells #[.slice none 0 0, .bool false] 69)).trans k1)
   clear c1 ho k1 HJ
   go_wp2_with fail
   go_ret
   exact ⟨rfl, Old.below HL.out⟩
end Go.Proofs.Ytplcnceacbpjhaa

namespace Go.Proofs.Ytplcnceacbpjhaa.wireKnown
open Go.ChangeShapes Go.WideShapes Go.ChangeAt Go.RowKit
theorem own : ownKnob Try.prog.godebug = none := by kernel_rfl
theorem laidOut : laidOutB Try.prog = true := by kernel_rfl

set_option maxRecDepth 100000 in
theorem lifted (os : Os) (started : os.Started) (H : Type) (enc : TypeId × Value → H) :
  ReturnsInHanded {} Try.checked os 7 .any (Rows.wireKnownSpec.pre6 enc Try.prog Try.f7 Rows.wireKnownRow.domain false) (Rows.wireKnownSpec.post enc Try.prog Try.f7 false true false false) := by
 refine returnsInHanded_of_change (C := Try.checked) own started (by kernel_rfl) Try.func7
  (ChangeSpec.witness6 (enc := enc) (C := Try.checked) false ⟨#[], #[], []⟩ 8 (by kernel_rfl) (by kernel_rfl) (by kernel_rfl) (by kernel_rfl)) ?_
 intro W base args ds gs before hval0 hW _ _
 have hval : ∀ (j : Nat) t v, Try.f7.params[j]? = some t → args[j]? = some v → Value.okWide Try.prog W .any base t v := hval0
 have hW' := hW
 obtain ⟨p, q, hA0, hV, rfl, hfz, hnd⟩ := hW
 have hA : DataW.TrodAll enc Try.prog W 0 (fun _ => true) true Try.f7.params.toList args.toList ds p := hA0
 rw [Try.params7] at hA hval
 obtain ⟨rfl, rfl, rfl⟩ := trodAll_none hA
 obtain ⟨rfl, rfl⟩ := trodVars_none hV
 clear hA0 hval0
 refine (walk_WireKnown W).mono fun e W' ⟨he, bel⟩ => ?_
 subst he
 exact ⟨_, rfl, _, _, _, [], _, [], hW', trodAll_mk1 (shut_bool Try.underlying4 _), trodAll_mk0, rfl, bel.frame _, fun h => by cases h⟩

theorem proved : Rows.WireKnownSaid :=
 OpenClaim.holds_of_wide 7 Try.f7 rfl rfl rfl rfl rfl rfl rfl ⟨rfl, rfl, rfl, rfl, rfl⟩ rfl rfl rfl rfl rfl (by kernel_rfl) Try.func7 (by kernel_rfl)
  (of_decide_eq_true (by kernel_rfl)) (by unfold Func.isWrapper; first | (rw [if_pos (by decide +kernel)]; kernel_rfl) | (rw [if_neg (by decide +kernel)]; exact ⟨rfl, rfl⟩))
  (fun os started H enc _ => lifted os started H enc)
end Go.Proofs.Ytplcnceacbpjhaa.wireKnown
