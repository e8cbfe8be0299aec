/- DERIVED. Chapter 21, the document's Put. (gen_dp.py wrote it) -/
import Derived.Test.YtpjpimahnnekkaaGreatZMsgForms02
import Derived.Test.YtpjpimahnnekkaaGreatZMsgForms01
import Derived.Test.YtpjpimahnnekkaaGreatYpMsgForms27
import Derived.Test.YtpjpimahnnekkaaGreatYpMsgForms29
import Derived.Test.YtpjpimahnnekkaaGreatYpMsgForms26
import Derived.Test.YtpjpimahnnekkaaGreatYpMsgForms37
import Derived.Test.YtpjpimahnnekkaaGreatYpMsgForms01
set_option maxRecDepth 100000
set_option maxHeartbeats 4000000
namespace Go.Proofs.YtpjpimahnnekkaaGreat
section
open Go.RowKit Go.Great
attribute [-go_sem] loadVar storeVar
theorem mForm1 {m : PMs} (h : m.kind = 1) : mForm m = form 1 ++ form m.pub.toNat ++ form m.ver ++ form (if m.there then 1 else 0) ++ (if m.there = false then [] else tform (predForm m.ps)) := by
 unfold mForm
 rw [h]
 simp [partsL, partForm, h, List.append_assoc]
theorem mForm2 {m : PMs} (h : m.kind = 2) : mForm m = form 2 ++ tform (predForm m.ps) := by
 unfold mForm
 rw [h]
 simp [partsL, partForm, h]
theorem mForm3 {m : PMs} (h : m.kind = 3) : mForm m = form 3 ++ tform (predForm m.ps) := by
 unfold mForm
 rw [h]
 simp [partsL, partForm, h]
theorem mForm4 {m : PMs} (h : m.kind = 4) : mForm m = form 4 ++ form m.pub.toNat ++ tform (itForm m.it) := by
 unfold mForm
 rw [h]
 simp [partsL, partForm, List.append_assoc]
theorem mForm5 {m : PMs} (h : m.kind = 5) : mForm m = form 5 ++ form m.tb.toNat ++ form m.tl ++ form m.tc ++ form m.pub.toNat ++ tform (predForm m.ps) ++ form m.frm := by
 unfold mForm
 rw [h]
 simp [partsL, partForm, h, List.append_assoc]
theorem mForm6 {m : PMs} (h : m.kind = 6) : mForm m = form 6 ++ form m.tb.toNat ++ form m.tl ++ form m.tc ++ form m.pub.toNat ++ tform (pageForm m.pg) := by
 unfold mForm
 rw [h]
 simp [partsL, partForm, List.append_assoc]
theorem putV_of {w w4 w5 : World} {v : Value} {l F : List UInt8} (o : Old w w4) (k : K8 w4.heap.size w4 w5) (ho : Owns w5 w4.heap.size v l) (hF : l = F) {e : Ending} (he : e = .returned (.tuple #[v, .int .i64 0])) : PutV true F w e w5 := by
 obtain ⟨p, c, rfl, _, _⟩ := ho.sees.len
 exact ⟨p, c, 0, l, he, o.trans k.to_old, ho.mono o.size, by simpa using hF, rfl⟩
theorem ref21_put_any (m : Ms) (w : World) (h : m.fine w) : Calls Tryz.prog 10 #[.agg m.cells.toArray] w (PutV (mayM m.plain) (mForm m.plain) w) := by
 have P33 := Lib.hid (fun W (o : Old w W) => ref_put_pred_v m.pv m.ps W (h.1.1.old o) (fun h0 b hb => Nat.lt_of_lt_of_le (h.1.2 h0 b hb) o.size))
 have P34 := Lib.hid (fun W (o : Old w W) => ref_put_item_v m.it W (It.fine.old h.2.1 o))
 have P35 := Lib.hid (fun W (o : Old w W) => ref_put_page_v m.pg W (Pg.fine.old h.2.2.1 o))
 have PL := Lib.hid (fun q hq hr => part_le h (p := q) hq hr)
 obtain ⟨W0, hW0⟩ : ∃ W0, w.alloc (.cells m.cells.toArray 37) = W0 := ⟨_, rfl⟩
 have k0 : Old w W0 := by rw [← hW0]; exact (Keeps.refl _ _).alloc _
 have b0 : RAt W0 w.heap.size m := by rw [← hW0]; exact heap_alloc_new _ _
 have B := Lib.hid (And.intro k0 b0)
 have CM0 := ref21_may_any m W0 (Ms.fine.old h k0)
 have gW := load_whole b0 (by simp [Ms.cells]) Tryz.underlying37 (by kernel_rfl)
 have hu64 := h.2.2.2.2
 obtain ⟨t, ht⟩ : ∃ t, mayM m.plain = t := ⟨_, rfl⟩
 rw [ht] at CM0 ⊢
 have CM := Lib.hid CM0
 clear k0 b0 h CM0
 go_enter Tryz.func10, Tryz.ntmps10
 go_wp2_with fail
 refine CM.out.mono ?_
 rintro e w1 ⟨rfl, k1⟩
 have K1 := Lib.hid k1
 clear k1 gW
 cases t
 ·go_wp2_with fail
  go_ret2
  exact PutV.no ⟨rfl, B.out.1.trans K1.out⟩
 obtain ⟨⟨hk1, hk6⟩, hR⟩ := mayM_parts ht
 have pd := (partsR ((K1.out.block _ (lt_of_heap B.out.2) (fun f => f)).trans B.out.2)).pred
 go_wp2_with fail
 refine (P33.out _ (B.out.1.trans K1.out)).mono ?_
 rintro e w2 ⟨p2, c2, z2, L2, rfl, k2, ho2, hL2, hz2⟩
 have K2 := Lib.hid (K1.out.trans k2)
 have S2 := Lib.hid (And.intro ho2 hL2)
 clear k2 ho2 hL2 hz2 pd
 have pi := (partsR ((K2.out.block _ (lt_of_heap B.out.2) (fun f => f)).trans B.out.2)).item
 go_wp2_with fail
 refine (P34.out _ (B.out.1.trans K2.out)).mono ?_
 rintro e w3 ⟨p3, c3, z3, L3, rfl, k3, ho3, hL3, hz3⟩
 have K3 := Lib.hid (K2.out.trans k3)
 have S3 := Lib.hid (And.intro ho3 hL3)
 have KK3 := Lib.hid k3
 clear k3 ho3 hL3 hz3 pi
 have pg := (partsR ((K3.out.block _ (lt_of_heap B.out.2) (fun f => f)).trans B.out.2)).page
 go_wp2_with fail
 refine (P35.out _ (B.out.1.trans K3.out)).mono ?_
 rintro e w4 ⟨p4, c4, z4, L4, rfl, k4, ho4, hL4, hz4⟩
 have K4 := Lib.hid (B.out.1.trans (K3.out.trans k4))
 have bx : RAt w4 w.heap.size m := ((K3.out.trans k4).block _ (lt_of_heap B.out.2) (fun f => f)).trans B.out.2
 have S2' := Lib.hid (And.intro (S2.out.1.sees.old (KK3.out.trans k4)) (And.intro (fun b (hb : (Value.slice p2 L2.length c2).ownBlock = some b) => (by have := (S2.out.1.block b hb).2; have := KK3.out.size; have := k4.size; omega : b < w4.heap.size)) S2.out.2))
 have S3' := Lib.hid (And.intro (S3.out.1.sees.old k4) (And.intro (fun b (hb : (Value.slice p3 L3.length c3).ownBlock = some b) => (by have := (S3.out.1.block b hb).2; have := k4.size; omega : b < w4.heap.size)) S3.out.2))
 have S4' := Lib.hid (And.intro ho4.sees (And.intro (fun b (hb : (Value.slice p4 L4.length c4).ownBlock = some b) => (ho4.block b hb).2) hL4))
 obtain ⟨Bk, hBk⟩ : ∃ B, w4.heap.size = B := ⟨_, rfl⟩
 rw [hBk] at S2' S3' S4'
 have PX := Lib.hid (fun W (k : K8 Bk w4 W) => partsR (K8.block k bx (by decide)))
 have hR := Lib.hid hR
 have HBk := Lib.hid hBk
 clear k4 ho4 hL4 hz4 pg S2 S3 KK3 bx K1 K2 K3 P33 P34 P35 CM hBk
 have PB := Lib.hid (show m.pub = ((m.pub.toNat : Nat) : Int) ∨ True from Or.inr trivial)
 have u1 := hu64.1
 have u2 := hu64.2.1
 have u3 := hu64.2.2.1
 have u4 := hu64.2.2.2
 unfold U64 at u1 u2 u3 u4
 have f1 := form_le10 u1
 have f2 := form_le10 u2
 have f3 := form_le10 u3
 have f4 := form_le10 u4
 clear hu64
 change 1 ≤ m.kind at hk1
 change m.kind ≤ 6 at hk6
 have O4 : Hid (Owns w4 Bk (.slice none 0 0) [] ∧ K8 Bk w4 w4) := Lib.hid ⟨Owns.nil _ _, Keeps.refl _ _⟩
 rcases (by omega : m.kind = 1 ∨ m.kind = 2 ∨ m.kind = 3 ∨ m.kind = 4 ∨ m.kind = 5 ∨ m.kind = 6) with hk | hk | hk | hk | hk | hk
 ·have hRk := hR.out
  rw [show m.plain.kind = 1 from hk] at hRk
  have fk : (form 1).length ≤ 10 := form_le10 (by decide)
  have hp := right0' (hRk 0 (by decide))
  change 0 ≤ m.pub ∧ m.pub < 256 at hp
  obtain ⟨pb, hpb⟩ : ∃ n : Nat, m.pub = n := ⟨m.pub.toNat, by omega⟩
  have hpw : IntKind.u64.wrap (pb : Int) = (pb : Int) := by rw [IntKind.wrap_u64]; omega
  have fp : (form pb).length ≤ 10 := form_le10 (by omega)
  have hpn : m.plain.pub.toNat = pb := by show m.pub.toNat = pb; omega
  have PW := PX.out _ O4.out.2
  have pk := PW.kind
  rw [hk] at pk
  have pp := PW.pub
  rw [hpb] at pp
  have pv := PW.ver
  have pth := PW.there
  have pf := PW.frm
  clear PW
  go_wp2_with fail
  refine (ref21_num_any _ ([]) 1 Bk _ O4.out.1 (by simp only [List.length_nil]; omega) (by decide) (by rw [← HBk.out]; exact O4.out.2.size)).mono ?_
  rintro e w5 ⟨q5, n5, d5, rfl, ho, hk'⟩
  have O5 := Lib.hid (And.intro ho (O4.out.2.trans hk'))
  clear ho hk'
  clear pk pp pv pth pf
  have PW := PX.out _ O5.out.2
  have pk := PW.kind
  rw [hk] at pk
  have pp := PW.pub
  rw [hpb] at pp
  have pv := PW.ver
  have pth := PW.there
  have pf := PW.frm
  clear PW
  go_wp2_with fail
  refine (ref21_num_any _ ([] ++ form 1) pb Bk _ O5.out.1 (by simp only [List.length_append, List.length_nil]; omega) (by omega) (by rw [← HBk.out]; exact O5.out.2.size)).mono ?_
  rintro e w6 ⟨q6, n6, d6, rfl, ho, hk'⟩
  have O6 := Lib.hid (And.intro ho (O5.out.2.trans hk'))
  clear ho hk'
  clear pk pp pv pth pf
  have PW := PX.out _ O6.out.2
  have pk := PW.kind
  rw [hk] at pk
  have pp := PW.pub
  rw [hpb] at pp
  have pv := PW.ver
  have pth := PW.there
  have pf := PW.frm
  clear PW
  go_wp2_with fail
  refine (ref21_num_any _ ([] ++ form 1 ++ form pb) m.ver Bk _ O6.out.1 (by simp only [List.length_append, List.length_nil]; omega) u1 (by rw [← HBk.out]; exact O6.out.2.size)).mono ?_
  rintro e w7 ⟨q7, n7, d7, rfl, ho, hk'⟩
  have O7 := Lib.hid (And.intro ho (O6.out.2.trans hk'))
  clear ho hk'
  clear pk pp pv pth pf
  have PW := PX.out _ O7.out.2
  have pk := PW.kind
  rw [hk] at pk
  have pp := PW.pub
  rw [hpb] at pp
  have pv := PW.ver
  have pth := PW.there
  have pf := PW.frm
  clear PW
  obtain ⟨th, hth⟩ : ∃ b, m.there = b := ⟨_, rfl⟩
  rw [hth] at pth
  cases th
  ·go_wp2_with fail
   refine (ref21_num_any _ ([] ++ form 1 ++ form pb ++ form m.ver) 0 Bk _ O7.out.1 (by simp only [List.length_append, List.length_nil]; omega) (by decide) (by rw [← HBk.out]; exact O7.out.2.size)).mono ?_
   rintro e w8 ⟨q8, n8, d8, rfl, ho, hk'⟩
   have O8 := Lib.hid (And.intro ho (O7.out.2.trans hk'))
   clear ho hk'
   go_wp2_with fail
   go_ret2
   have k8 := O8.out.2
   have o8 := O8.out.1
   rw [← HBk.out] at k8 o8
   exact putV_of K4.out k8 o8 (by rw [mForm1 (m := m.plain) hk, hpn, show m.plain.there = false from hth]; simp; rfl) rfl
  ·have hok := right3' (hRk 3 (by decide)) (fun hc => by have h1 : m.there = false := hc.2; rw [hth] at h1; cases h1)
   have eL : L2 = predForm m.plain.ps := by rw [S2'.out.2.2]; exact if_pos ((predOk_plain m.ps).trans hok)
   have lL : L2.length ≤ 5000 := by have h3 := PL.out 3 (by omega) (hRk 3 (by decide)); rw [show partForm m.plain 3 = tform (predForm m.plain.ps) by unfold partForm; rw [if_neg (by decide), if_neg (by decide), if_neg (by decide), if_pos rfl, if_neg (fun hc => by have h1 : m.there = false := hc.2; rw [hth] at h1; cases h1)]] at h3; rw [eL]; exact Nat.le_trans (tform_ge _) h3
   have EL := Lib.hid eL
   clear eL
   have fo : (form 1).length ≤ 10 := form_le10 (by decide)
   go_wp2_with fail
   refine (ref21_num_any _ ([] ++ form 1 ++ form pb ++ form m.ver) 1 Bk _ O7.out.1 (by simp only [List.length_append, List.length_nil]; omega) (by decide) (by rw [← HBk.out]; exact O7.out.2.size)).mono ?_
   rintro e w8 ⟨q8, n8, d8, rfl, ho, hk'⟩
   have O8 := Lib.hid (And.intro ho (O7.out.2.trans hk'))
   clear ho hk'
   go_wp2_with fail
   refine (ref21_text_any _ _ ([] ++ form 1 ++ form pb ++ form m.ver ++ form 1) L2 Bk _ O8.out.1 (by simp only [List.length_append, List.length_nil]; omega) (S2'.out.1.keeps O8.out.2 (fun b hb u => by have := S2'.out.2.1 b hb; have := u.1; omega)) (by omega) S2'.out.2.1 (by rw [← HBk.out]; exact O8.out.2.size)).mono ?_
   rintro e w9 ⟨q9, n9, d9, rfl, ho, hk'⟩
   have O9 := Lib.hid (And.intro ho (O8.out.2.trans hk'))
   clear ho hk'
   go_wp2_with fail
   go_ret2
   have k8 := O9.out.2
   have o8 := O9.out.1
   rw [← HBk.out] at k8 o8
   exact putV_of K4.out k8 o8 (by rw [mForm1 (m := m.plain) hk, hpn, show m.plain.there = true from hth, EL.out]; simp; rfl) rfl
 ·have hRk := hR.out
  rw [show m.plain.kind = 2 from hk] at hRk
  have fk : (form 2).length ≤ 10 := form_le10 (by decide)
  have hok := right3' (hRk 3 (by decide)) (fun hc => by have h1 := hc.1; rw [show m.plain.kind = 2 from hk] at h1; omega)
  have eL : L2 = predForm m.plain.ps := by rw [S2'.out.2.2]; exact if_pos ((predOk_plain m.ps).trans hok)
  have lL : L2.length ≤ 5000 := by have h3 := PL.out 3 (by omega) (hRk 3 (by decide)); rw [show partForm m.plain 3 = tform (predForm m.plain.ps) by unfold partForm; rw [if_neg (by decide), if_neg (by decide), if_neg (by decide), if_pos rfl, if_neg (fun hc => by have h1 := hc.1; rw [show m.plain.kind = 2 from hk] at h1; omega)]] at h3; rw [eL]; exact Nat.le_trans (tform_ge _) h3
  have EL := Lib.hid eL
  clear eL
  have PW := PX.out _ O4.out.2
  have pk := PW.kind
  rw [hk] at pk
  have pp := PW.pub
  have pv := PW.ver
  have pth := PW.there
  have pf := PW.frm
  clear PW
  go_wp2_with fail
  refine (ref21_num_any _ ([]) 2 Bk _ O4.out.1 (by simp only [List.length_nil]; omega) (by decide) (by rw [← HBk.out]; exact O4.out.2.size)).mono ?_
  rintro e w5 ⟨q5, n5, d5, rfl, ho, hk'⟩
  have O5 := Lib.hid (And.intro ho (O4.out.2.trans hk'))
  clear ho hk'
  clear pk pp pv pth pf
  have PW := PX.out _ O5.out.2
  have pk := PW.kind
  rw [hk] at pk
  have pp := PW.pub
  have pv := PW.ver
  have pth := PW.there
  have pf := PW.frm
  clear PW
  go_wp2_with fail
  refine (ref21_text_any _ _ ([] ++ form 2) L2 Bk _ O5.out.1 (by simp only [List.length_append, List.length_nil]; omega) (S2'.out.1.keeps O5.out.2 (fun b hb u => by have := S2'.out.2.1 b hb; have := u.1; omega)) (by omega) S2'.out.2.1 (by rw [← HBk.out]; exact O5.out.2.size)).mono ?_
  rintro e w6 ⟨q6, n6, d6, rfl, ho, hk'⟩
  have O6 := Lib.hid (And.intro ho (O5.out.2.trans hk'))
  clear ho hk'
  clear pk pp pv pth pf
  go_wp2_with fail
  go_ret2
  have k8 := O6.out.2
  have o8 := O6.out.1
  rw [← HBk.out] at k8 o8
  exact putV_of K4.out k8 o8 (by rw [mForm2 (m := m.plain) hk, EL.out]; simp) rfl
 ·have hRk := hR.out
  rw [show m.plain.kind = 3 from hk] at hRk
  have fk : (form 3).length ≤ 10 := form_le10 (by decide)
  have hok := right3' (hRk 3 (by decide)) (fun hc => by have h1 := hc.1; rw [show m.plain.kind = 3 from hk] at h1; omega)
  have eL : L2 = predForm m.plain.ps := by rw [S2'.out.2.2]; exact if_pos ((predOk_plain m.ps).trans hok)
  have lL : L2.length ≤ 5000 := by have h3 := PL.out 3 (by omega) (hRk 3 (by decide)); rw [show partForm m.plain 3 = tform (predForm m.plain.ps) by unfold partForm; rw [if_neg (by decide), if_neg (by decide), if_neg (by decide), if_pos rfl, if_neg (fun hc => by have h1 := hc.1; rw [show m.plain.kind = 3 from hk] at h1; omega)]] at h3; rw [eL]; exact Nat.le_trans (tform_ge _) h3
  have EL := Lib.hid eL
  clear eL
  have PW := PX.out _ O4.out.2
  have pk := PW.kind
  rw [hk] at pk
  have pp := PW.pub
  have pv := PW.ver
  have pth := PW.there
  have pf := PW.frm
  clear PW
  go_wp2_with fail
  refine (ref21_num_any _ ([]) 3 Bk _ O4.out.1 (by simp only [List.length_nil]; omega) (by decide) (by rw [← HBk.out]; exact O4.out.2.size)).mono ?_
  rintro e w5 ⟨q5, n5, d5, rfl, ho, hk'⟩
  have O5 := Lib.hid (And.intro ho (O4.out.2.trans hk'))
  clear ho hk'
  clear pk pp pv pth pf
  have PW := PX.out _ O5.out.2
  have pk := PW.kind
  rw [hk] at pk
  have pp := PW.pub
  have pv := PW.ver
  have pth := PW.there
  have pf := PW.frm
  clear PW
  go_wp2_with fail
  refine (ref21_text_any _ _ ([] ++ form 3) L2 Bk _ O5.out.1 (by simp only [List.length_append, List.length_nil]; omega) (S2'.out.1.keeps O5.out.2 (fun b hb u => by have := S2'.out.2.1 b hb; have := u.1; omega)) (by omega) S2'.out.2.1 (by rw [← HBk.out]; exact O5.out.2.size)).mono ?_
  rintro e w6 ⟨q6, n6, d6, rfl, ho, hk'⟩
  have O6 := Lib.hid (And.intro ho (O5.out.2.trans hk'))
  clear ho hk'
  clear pk pp pv pth pf
  go_wp2_with fail
  go_ret2
  have k8 := O6.out.2
  have o8 := O6.out.1
  rw [← HBk.out] at k8 o8
  exact putV_of K4.out k8 o8 (by rw [mForm3 (m := m.plain) hk, EL.out]; simp) rfl
 ·have hRk := hR.out
  rw [show m.plain.kind = 4 from hk] at hRk
  have fk : (form 4).length ≤ 10 := form_le10 (by decide)
  have hp := right0' (hRk 0 (by decide))
  change 0 ≤ m.pub ∧ m.pub < 256 at hp
  obtain ⟨pb, hpb⟩ : ∃ n : Nat, m.pub = n := ⟨m.pub.toNat, by omega⟩
  have hpw : IntKind.u64.wrap (pb : Int) = (pb : Int) := by rw [IntKind.wrap_u64]; omega
  have fp : (form pb).length ≤ 10 := form_le10 (by omega)
  have hpn : m.plain.pub.toNat = pb := by show m.pub.toNat = pb; omega
  have hok : itOk m.plain.it = true := by have h4 := hRk 4 (by decide); simpa [rightM] using h4
  have eL : L3 = itForm m.plain.it := by rw [S3'.out.2.2]; exact if_pos hok
  have lL : L3.length ≤ 5000 := by have h3 := PL.out 4 (by omega) (hRk 4 (by decide)); rw [show partForm m.plain 4 = tform (itForm m.plain.it) from rfl] at h3; rw [eL]; exact Nat.le_trans (tform_ge _) h3
  have EL := Lib.hid eL
  clear eL
  have PW := PX.out _ O4.out.2
  have pk := PW.kind
  rw [hk] at pk
  have pp := PW.pub
  rw [hpb] at pp
  have pv := PW.ver
  have pth := PW.there
  have pf := PW.frm
  clear PW
  go_wp2_with fail
  refine (ref21_num_any _ ([]) 4 Bk _ O4.out.1 (by simp only [List.length_nil]; omega) (by decide) (by rw [← HBk.out]; exact O4.out.2.size)).mono ?_
  rintro e w5 ⟨q5, n5, d5, rfl, ho, hk'⟩
  have O5 := Lib.hid (And.intro ho (O4.out.2.trans hk'))
  clear ho hk'
  clear pk pp pv pth pf
  have PW := PX.out _ O5.out.2
  have pk := PW.kind
  rw [hk] at pk
  have pp := PW.pub
  rw [hpb] at pp
  have pv := PW.ver
  have pth := PW.there
  have pf := PW.frm
  clear PW
  go_wp2_with fail
  refine (ref21_num_any _ ([] ++ form 4) pb Bk _ O5.out.1 (by simp only [List.length_append, List.length_nil]; omega) (by omega) (by rw [← HBk.out]; exact O5.out.2.size)).mono ?_
  rintro e w6 ⟨q6, n6, d6, rfl, ho, hk'⟩
  have O6 := Lib.hid (And.intro ho (O5.out.2.trans hk'))
  clear ho hk'
  clear pk pp pv pth pf
  have PW := PX.out _ O6.out.2
  have pk := PW.kind
  rw [hk] at pk
  have pp := PW.pub
  rw [hpb] at pp
  have pv := PW.ver
  have pth := PW.there
  have pf := PW.frm
  clear PW
  go_wp2_with fail
  refine (ref21_text_any _ _ ([] ++ form 4 ++ form pb) L3 Bk _ O6.out.1 (by simp only [List.length_append, List.length_nil]; omega) (S3'.out.1.keeps O6.out.2 (fun b hb u => by have := S3'.out.2.1 b hb; have := u.1; omega)) (by omega) S3'.out.2.1 (by rw [← HBk.out]; exact O6.out.2.size)).mono ?_
  rintro e w7 ⟨q7, n7, d7, rfl, ho, hk'⟩
  have O7 := Lib.hid (And.intro ho (O6.out.2.trans hk'))
  clear ho hk'
  clear pk pp pv pth pf
  go_wp2_with fail
  go_ret2
  have k8 := O7.out.2
  have o8 := O7.out.1
  rw [← HBk.out] at k8 o8
  exact putV_of K4.out k8 o8 (by rw [mForm4 (m := m.plain) hk, hpn, EL.out]; simp) rfl
 ·have hRk := hR.out
  rw [show m.plain.kind = 5 from hk] at hRk
  have fk : (form 5).length ≤ 10 := form_le10 (by decide)
  have hp := right0' (hRk 0 (by decide))
  change 0 ≤ m.pub ∧ m.pub < 256 at hp
  obtain ⟨pb, hpb⟩ : ∃ n : Nat, m.pub = n := ⟨m.pub.toNat, by omega⟩
  have hpw : IntKind.u64.wrap (pb : Int) = (pb : Int) := by rw [IntKind.wrap_u64]; omega
  have fp : (form pb).length ≤ 10 := form_le10 (by omega)
  have hpn : m.plain.pub.toNat = pb := by show m.pub.toNat = pb; omega
  have h5 := right5' (hRk 5 (by decide))
  have h5a : 0 ≤ m.tb ∧ m.tb < 64 := h5.1
  obtain ⟨tn, htn⟩ : ∃ n : Nat, m.tb = n := ⟨m.tb.toNat, by omega⟩
  have htw : IntKind.u64.wrap (tn : Int) = (tn : Int) := by rw [IntKind.wrap_u64]; omega
  have ft : (form tn).length ≤ 10 := form_le10 (by omega)
  have htm : m.plain.tb.toNat = tn := by show m.tb.toNat = tn; omega
  have hok := right3' (hRk 3 (by decide)) (fun hc => by have h1 := hc.1; rw [show m.plain.kind = 5 from hk] at h1; omega)
  have eL : L2 = predForm m.plain.ps := by rw [S2'.out.2.2]; exact if_pos ((predOk_plain m.ps).trans hok)
  have lL : L2.length ≤ 5000 := by have h3 := PL.out 3 (by omega) (hRk 3 (by decide)); rw [show partForm m.plain 3 = tform (predForm m.plain.ps) by unfold partForm; rw [if_neg (by decide), if_neg (by decide), if_neg (by decide), if_pos rfl, if_neg (fun hc => by have h1 := hc.1; rw [show m.plain.kind = 5 from hk] at h1; omega)]] at h3; rw [eL]; exact Nat.le_trans (tform_ge _) h3
  have EL := Lib.hid eL
  clear eL
  have PW := PX.out _ O4.out.2
  have pk := PW.kind
  rw [hk] at pk
  have pp := PW.pub
  rw [hpb] at pp
  have pv := PW.ver
  have pth := PW.there
  have pf := PW.frm
  clear PW
  go_wp2_with fail
  refine (ref21_num_any _ ([]) 5 Bk _ O4.out.1 (by simp only [List.length_nil]; omega) (by decide) (by rw [← HBk.out]; exact O4.out.2.size)).mono ?_
  rintro e w5 ⟨q5, n5, d5, rfl, ho, hk'⟩
  have O5 := Lib.hid (And.intro ho (O4.out.2.trans hk'))
  clear ho hk'
  clear pk pp pv pth pf
  have PW := PX.out _ O5.out.2
  have pk := PW.kind
  rw [hk] at pk
  have pp := PW.pub
  rw [hpb] at pp
  have pv := PW.ver
  have pth := PW.there
  have pf := PW.frm
  clear PW
  go_wp2_with fail
  refine wp_region_g (S := fun W' => K8 Bk w5 W') (M := List.range 15) (by kernel_rfl) ?_
  have hS : K8 Bk w5 w5.drew := (Keeps.refl _ _).drew
  have PY := Lib.hid (fun W (k : K8 Bk w5 W) => PX.out W (O5.out.2.trans k))
  refine wpAnyG_takeL (i := 0) (oi := _) (v := ?va0) rfl (by kernel_rfl) (by kernel_rfl) (by kernel_rfl) (by kernel_rfl) (fun _ _ _ h => h) (Or.inl ⟨by rfl, ?ya0⟩) hS ?ra0
  case ya0 => (intro W hSw; go_simp; try with_reducible rfl)
  try simp only [Act.put, List.setIfInBounds_toArray, List.set_cons_zero, List.set_cons_succ]
  refine wpAnyG_takeL (i := 1) (oi := _) (v := ?va1) rfl (by kernel_rfl) (by kernel_rfl) (by kernel_rfl) (by kernel_rfl) (fun _ _ _ h => h) (Or.inl ⟨by rfl, ?ya1⟩) hS ?ra1
  case ya1 => (intro W hSw; go_simp; try with_reducible rfl)
  try simp only [Act.put, List.setIfInBounds_toArray, List.set_cons_zero, List.set_cons_succ]
  refine wpAnyG_takeL (i := 2) (oi := _) (v := ?va2) rfl (by kernel_rfl) (by kernel_rfl) (by kernel_rfl) (by kernel_rfl) (fun _ _ _ h => h) (Or.inl ⟨by rfl, ?ya2⟩) hS ?ra2
  case ya2 => (intro W hSw; go_simp; try with_reducible rfl)
  try simp only [Act.put, List.setIfInBounds_toArray, List.set_cons_zero, List.set_cons_succ]
  refine wpAnyG_takeL (i := 3) (oi := _) (v := ?va3) rfl (by kernel_rfl) (by kernel_rfl) (by kernel_rfl) (by kernel_rfl) (fun _ _ _ h => h) (Or.inl ⟨by rfl, ?ya3⟩) hS ?ra3
  case ya3 => (intro W hSw; have tt := (PY.out _ hSw).tb; rw [htn] at tt; go_simp; try with_reducible rfl)
  try simp only [Act.put, List.setIfInBounds_toArray, List.set_cons_zero, List.set_cons_succ]
  refine wpAnyG_takeL (i := 4) (oi := _) (v := ?va4) rfl (by kernel_rfl) (by kernel_rfl) (by kernel_rfl) (by kernel_rfl) (fun _ _ _ h => h) (Or.inl ⟨by rfl, ?ya4⟩) hS ?ra4
  case ya4 => (intro W hSw; go_simp; try with_reducible rfl)
  try simp only [Act.put, List.setIfInBounds_toArray, List.set_cons_zero, List.set_cons_succ]
  refine wpAnyG_takeL (i := 6) (oi := _) (v := ?va6) rfl (by kernel_rfl) (by kernel_rfl) (by kernel_rfl) (by kernel_rfl) (fun _ _ _ h => h) (Or.inl ⟨by rfl, ?ya6⟩) hS ?ra6
  case ya6 => (intro W hSw; go_simp; try with_reducible rfl)
  try simp only [Act.put, List.setIfInBounds_toArray, List.set_cons_zero, List.set_cons_succ]
  refine wpAnyG_takeL (i := 7) (oi := _) (v := ?va7) rfl (by kernel_rfl) (by kernel_rfl) (by kernel_rfl) (by kernel_rfl) (fun _ _ _ h => h) (Or.inl ⟨by rfl, ?ya7⟩) hS ?ra7
  case ya7 => (intro W hSw; go_simp; try with_reducible rfl)
  try simp only [Act.put, List.setIfInBounds_toArray, List.set_cons_zero, List.set_cons_succ]
  refine wpAnyG_takeL (i := 8) (oi := _) (v := ?va8) rfl (by kernel_rfl) (by kernel_rfl) (by kernel_rfl) (by kernel_rfl) (fun _ _ _ h => h) (Or.inl ⟨by rfl, ?ya8⟩) hS ?ra8
  case ya8 => (intro W hSw; have tt := (PY.out _ hSw).tl; go_simp; try with_reducible rfl)
  try simp only [Act.put, List.setIfInBounds_toArray, List.set_cons_zero, List.set_cons_succ]
  refine wpAnyG_takeL (i := 10) (oi := _) (v := ?va10) rfl (by kernel_rfl) (by kernel_rfl) (by kernel_rfl) (by kernel_rfl) (fun _ _ _ h => h) (Or.inl ⟨by rfl, ?ya10⟩) hS ?ra10
  case ya10 => (intro W hSw; go_simp; try with_reducible rfl)
  try simp only [Act.put, List.setIfInBounds_toArray, List.set_cons_zero, List.set_cons_succ]
  refine wpAnyG_takeL (i := 11) (oi := _) (v := ?va11) rfl (by kernel_rfl) (by kernel_rfl) (by kernel_rfl) (by kernel_rfl) (fun _ _ _ h => h) (Or.inl ⟨by rfl, ?ya11⟩) hS ?ra11
  case ya11 => (intro W hSw; go_simp; try with_reducible rfl)
  try simp only [Act.put, List.setIfInBounds_toArray, List.set_cons_zero, List.set_cons_succ]
  refine wpAnyG_takeL (i := 12) (oi := _) (v := ?va12) rfl (by kernel_rfl) (by kernel_rfl) (by kernel_rfl) (by kernel_rfl) (fun _ _ _ h => h) (Or.inl ⟨by rfl, ?ya12⟩) hS ?ra12
  case ya12 => (intro W hSw; have tt := (PY.out _ hSw).tc; go_simp; try with_reducible rfl)
  try simp only [Act.put, List.setIfInBounds_toArray, List.set_cons_zero, List.set_cons_succ]
  refine wpAnyG_onlyL (i := 5) (o := _) (by kernel_rfl) rfl (fun K hK => ?_)
  go_simp
  refine (ref21_num_any _ ([] ++ form 5) tn Bk _ (O5.out.1.old (Keeps.refl _ _).drew) (by simp only [List.length_append, List.length_nil]; omega) (by omega) (Nat.le_trans (by rw [← HBk.out]; exact O5.out.2.size) hS.size)).mono ?_
  rintro e x1 ⟨qx1, nx1, dx1, rfl, hx1, hk'⟩
  have gx1 : K8 Bk w5 x1 := hS.trans hk'
  clear hk'
  go_wp2_with fail
  refine hK.out _ _ (fun _ => gx1) ?_
  clear hK K
  try simp only [Act.put, List.setIfInBounds_toArray, List.set_cons_zero, List.set_cons_succ]
  refine wpAnyG_onlyL (i := 9) (o := _) (by kernel_rfl) rfl (fun K hK => ?_)
  go_simp
  refine (ref21_num_any _ ([] ++ form 5 ++ form tn) m.tl Bk _ (hx1) (by simp only [List.length_append, List.length_nil]; omega) u2 (Nat.le_trans (by rw [← HBk.out]; exact O5.out.2.size) gx1.size)).mono ?_
  rintro e x2 ⟨qx2, nx2, dx2, rfl, hx2, hk'⟩
  have gx2 : K8 Bk w5 x2 := gx1.trans hk'
  clear hk'
  go_wp2_with fail
  refine hK.out _ _ (fun _ => gx2) ?_
  clear hK K
  try simp only [Act.put, List.setIfInBounds_toArray, List.set_cons_zero, List.set_cons_succ]
  refine wpAnyG_onlyL (i := 13) (o := _) (by kernel_rfl) rfl (fun K hK => ?_)
  go_simp
  refine (ref21_num_any _ ([] ++ form 5 ++ form tn ++ form m.tl) m.tc Bk _ (hx2) (by simp only [List.length_append, List.length_nil]; omega) u3 (Nat.le_trans (by rw [← HBk.out]; exact O5.out.2.size) gx2.size)).mono ?_
  rintro e x3 ⟨qx3, nx3, dx3, rfl, hx3, hk'⟩
  have gx3 : K8 Bk w5 x3 := gx2.trans hk'
  clear hk'
  go_wp2_with fail
  refine hK.out _ _ (fun _ => gx3) ?_
  clear hK K
  try simp only [Act.put, List.setIfInBounds_toArray, List.set_cons_zero, List.set_cons_succ]
  refine wpAnyG_takeL (i := 14) (oi := _) (v := ?va14) rfl (by kernel_rfl) (by kernel_rfl) (by kernel_rfl) (by kernel_rfl) (fun _ _ _ h => h) (Or.inl ⟨by rfl, ?ya14⟩) gx3 ?ra14
  case ya14 => (intro W hSw; go_simp; try with_reducible rfl)
  try simp only [Act.put, List.setIfInBounds_toArray, List.set_cons_zero, List.set_cons_succ]
  refine wpAnyG_done (by kernel_rfl) ?_ _
  go_simp
  have O6 := Lib.hid (And.intro hx3 (O5.out.2.trans gx3))
  clear hx1 hx2 hx3 gx1 gx2 gx3 hS PY
  clear pk pp pv pth pf
  have PW := PX.out _ O6.out.2
  have pk := PW.kind
  rw [hk] at pk
  have pp := PW.pub
  rw [hpb] at pp
  have pv := PW.ver
  have pth := PW.there
  have pf := PW.frm
  clear PW
  go_wp2_with fail
  refine (ref21_num_any _ ([] ++ form 5 ++ form tn ++ form m.tl ++ form m.tc) pb Bk _ O6.out.1 (by simp only [List.length_append, List.length_nil]; omega) (by omega) (by rw [← HBk.out]; exact O6.out.2.size)).mono ?_
  rintro e w7 ⟨q7, n7, d7, rfl, ho, hk'⟩
  have O7 := Lib.hid (And.intro ho (O6.out.2.trans hk'))
  clear ho hk'
  clear pk pp pv pth pf
  have PW := PX.out _ O7.out.2
  have pk := PW.kind
  rw [hk] at pk
  have pp := PW.pub
  rw [hpb] at pp
  have pv := PW.ver
  have pth := PW.there
  have pf := PW.frm
  clear PW
  go_wp2_with fail
  refine wp_region_g (S := fun W' => K8 Bk w7 W') (M := List.range 8) (by kernel_rfl) ?_
  have hS : K8 Bk w7 w7.drew := (Keeps.refl _ _).drew
  have PY := Lib.hid (fun W (k : K8 Bk w7 W) => PX.out W (O7.out.2.trans k))
  refine wpAnyG_takeL (i := 0) (oi := _) (v := ?vb0) rfl (by kernel_rfl) (by kernel_rfl) (by kernel_rfl) (by kernel_rfl) (fun _ _ _ h => h) (Or.inl ⟨by rfl, ?yb0⟩) hS ?rb0
  case yb0 => (intro W hSw; go_simp; try with_reducible rfl)
  try simp only [Act.put, List.setIfInBounds_toArray, List.set_cons_zero, List.set_cons_succ]
  refine wpAnyG_takeL (i := 1) (oi := _) (v := ?vb1) rfl (by kernel_rfl) (by kernel_rfl) (by kernel_rfl) (by kernel_rfl) (fun _ _ _ h => h) (Or.inl ⟨by rfl, ?yb1⟩) hS ?rb1
  case yb1 => (intro W hSw; go_simp; try with_reducible rfl)
  try simp only [Act.put, List.setIfInBounds_toArray, List.set_cons_zero, List.set_cons_succ]
  refine wpAnyG_takeL (i := 3) (oi := _) (v := ?vb3) rfl (by kernel_rfl) (by kernel_rfl) (by kernel_rfl) (by kernel_rfl) (fun _ _ _ h => h) (Or.inl ⟨by rfl, ?yb3⟩) hS ?rb3
  case yb3 => (intro W hSw; go_simp; try with_reducible rfl)
  try simp only [Act.put, List.setIfInBounds_toArray, List.set_cons_zero, List.set_cons_succ]
  refine wpAnyG_takeL (i := 4) (oi := _) (v := ?vb4) rfl (by kernel_rfl) (by kernel_rfl) (by kernel_rfl) (by kernel_rfl) (fun _ _ _ h => h) (Or.inl ⟨by rfl, ?yb4⟩) hS ?rb4
  case yb4 => (intro W hSw; have tt := (PY.out _ hSw).frm; go_simp; try with_reducible rfl)
  try simp only [Act.put, List.setIfInBounds_toArray, List.set_cons_zero, List.set_cons_succ]
  refine wpAnyG_onlyL (i := 2) (o := _) (by kernel_rfl) rfl (fun K hK => ?_)
  go_simp
  refine (ref21_text_any _ _ ([] ++ form 5 ++ form tn ++ form m.tl ++ form m.tc ++ form pb) L2 Bk _ (O7.out.1.old (Keeps.refl _ _).drew) (by simp only [List.length_append, List.length_nil]; omega) (S2'.out.1.keeps (O7.out.2.trans hS) (fun b hb u => by have := S2'.out.2.1 b hb; have := u.1; omega)) (by omega) S2'.out.2.1 (Nat.le_trans (by rw [← HBk.out]; exact O7.out.2.size) hS.size)).mono ?_
  rintro e y1 ⟨qy1, ny1, dy1, rfl, hy1, hk'⟩
  have gy1 : K8 Bk w7 y1 := hS.trans hk'
  clear hk'
  go_wp2_with fail
  refine hK.out _ _ (fun _ => gy1) ?_
  clear hK K
  try simp only [Act.put, List.setIfInBounds_toArray, List.set_cons_zero, List.set_cons_succ]
  refine wpAnyG_onlyL (i := 5) (o := _) (by kernel_rfl) rfl (fun K hK => ?_)
  go_simp
  have ltf : (tform L2).length ≤ 10 + L2.length := tform_le _ (by omega)
  refine (ref21_num_any _ ([] ++ form 5 ++ form tn ++ form m.tl ++ form m.tc ++ form pb ++ tform L2) m.frm Bk _ hy1 (by simp only [List.length_append, List.length_nil]; omega) u4 (Nat.le_trans (by rw [← HBk.out]; exact O7.out.2.size) gy1.size)).mono ?_
  rintro e y2 ⟨qy2, ny2, dy2, rfl, hy2, hk'⟩
  have gy2 : K8 Bk w7 y2 := gy1.trans hk'
  clear hk'
  go_wp2_with fail
  refine hK.out _ _ (fun _ => gy2) ?_
  clear hK K
  try simp only [Act.put, List.setIfInBounds_toArray, List.set_cons_zero, List.set_cons_succ]
  refine wpAnyG_takeL (i := 6) (oi := _) (v := ?vb6) rfl (by kernel_rfl) (by kernel_rfl) (by kernel_rfl) (by kernel_rfl) (fun _ _ _ h => h) (Or.inl ⟨by rfl, ?yb6⟩) gy2 ?rb6
  case yb6 => (intro W hSw; go_simp; try with_reducible rfl)
  try simp only [Act.put, List.setIfInBounds_toArray, List.set_cons_zero, List.set_cons_succ]
  refine wpAnyG_takeL (i := 7) (oi := _) (v := ?vb7) rfl (by kernel_rfl) (by kernel_rfl) (by kernel_rfl) (by kernel_rfl) (fun _ _ _ h => h) (Or.inl ⟨by rfl, ?yb7⟩) gy2 ?rb7
  case yb7 => (intro W hSw; go_simp; try with_reducible rfl)
  try simp only [Act.put, List.setIfInBounds_toArray, List.set_cons_zero, List.set_cons_succ]
  refine wpAnyG_done (by kernel_rfl) ?_ _
  go_simp
  have O9 := Lib.hid (And.intro hy2 (O7.out.2.trans gy2))
  go_wp2_with fail
  go_ret2
  have k8 := O9.out.2
  have o8 := O9.out.1
  rw [← HBk.out] at k8 o8
  exact putV_of K4.out k8 o8 (by rw [mForm5 (m := m.plain) hk, hpn, htm, EL.out]; simp; rfl) rfl
 ·have hRk := hR.out
  rw [show m.plain.kind = 6 from hk] at hRk
  have fk : (form 6).length ≤ 10 := form_le10 (by decide)
  have hp := right0' (hRk 0 (by decide))
  change 0 ≤ m.pub ∧ m.pub < 256 at hp
  obtain ⟨pb, hpb⟩ : ∃ n : Nat, m.pub = n := ⟨m.pub.toNat, by omega⟩
  have hpw : IntKind.u64.wrap (pb : Int) = (pb : Int) := by rw [IntKind.wrap_u64]; omega
  have fp : (form pb).length ≤ 10 := form_le10 (by omega)
  have hpn : m.plain.pub.toNat = pb := by show m.pub.toNat = pb; omega
  have h5 := right5' (hRk 5 (by decide))
  have h5a : 0 ≤ m.tb ∧ m.tb < 64 := h5.1
  obtain ⟨tn, htn⟩ : ∃ n : Nat, m.tb = n := ⟨m.tb.toNat, by omega⟩
  have htw : IntKind.u64.wrap (tn : Int) = (tn : Int) := by rw [IntKind.wrap_u64]; omega
  have ft : (form tn).length ≤ 10 := form_le10 (by omega)
  have htm : m.plain.tb.toNat = tn := by show m.tb.toNat = tn; omega
  have hok : pgOk m.plain.pg = true := right7' (hRk 7 (by decide))
  have eL : L4 = pageForm m.plain.pg := by rw [S4'.out.2.2]; exact if_pos hok
  have lL : L4.length ≤ 5000 := by have h3 := PL.out 7 (by omega) (hRk 7 (by decide)); rw [show partForm m.plain 7 = tform (pageForm m.plain.pg) from rfl] at h3; rw [eL]; exact Nat.le_trans (tform_ge _) h3
  have EL := Lib.hid eL
  clear eL
  have PW := PX.out _ O4.out.2
  have pk := PW.kind
  rw [hk] at pk
  have pp := PW.pub
  rw [hpb] at pp
  have pv := PW.ver
  have pth := PW.there
  have pf := PW.frm
  clear PW
  go_wp2_with fail
  refine (ref21_num_any _ ([]) 6 Bk _ O4.out.1 (by simp only [List.length_nil]; omega) (by decide) (by rw [← HBk.out]; exact O4.out.2.size)).mono ?_
  rintro e w5 ⟨q5, n5, d5, rfl, ho, hk'⟩
  have O5 := Lib.hid (And.intro ho (O4.out.2.trans hk'))
  clear ho hk'
  clear pk pp pv pth pf
  have PW := PX.out _ O5.out.2
  have pk := PW.kind
  rw [hk] at pk
  have pp := PW.pub
  rw [hpb] at pp
  have pv := PW.ver
  have pth := PW.there
  have pf := PW.frm
  clear PW
  go_wp2_with fail
  refine wp_region_g (S := fun W' => K8 Bk w5 W') (M := List.range 15) (by kernel_rfl) ?_
  have hS : K8 Bk w5 w5.drew := (Keeps.refl _ _).drew
  have PY := Lib.hid (fun W (k : K8 Bk w5 W) => PX.out W (O5.out.2.trans k))
  refine wpAnyG_takeL (i := 0) (oi := _) (v := ?ve0) rfl (by kernel_rfl) (by kernel_rfl) (by kernel_rfl) (by kernel_rfl) (fun _ _ _ h => h) (Or.inl ⟨by rfl, ?ye0⟩) hS ?re0
  case ye0 => (intro W hSw; go_simp; try with_reducible rfl)
  try simp only [Act.put, List.setIfInBounds_toArray, List.set_cons_zero, List.set_cons_succ]
  refine wpAnyG_takeL (i := 1) (oi := _) (v := ?ve1) rfl (by kernel_rfl) (by kernel_rfl) (by kernel_rfl) (by kernel_rfl) (fun _ _ _ h => h) (Or.inl ⟨by rfl, ?ye1⟩) hS ?re1
  case ye1 => (intro W hSw; go_simp; try with_reducible rfl)
  try simp only [Act.put, List.setIfInBounds_toArray, List.set_cons_zero, List.set_cons_succ]
  refine wpAnyG_takeL (i := 2) (oi := _) (v := ?ve2) rfl (by kernel_rfl) (by kernel_rfl) (by kernel_rfl) (by kernel_rfl) (fun _ _ _ h => h) (Or.inl ⟨by rfl, ?ye2⟩) hS ?re2
  case ye2 => (intro W hSw; go_simp; try with_reducible rfl)
  try simp only [Act.put, List.setIfInBounds_toArray, List.set_cons_zero, List.set_cons_succ]
  refine wpAnyG_takeL (i := 3) (oi := _) (v := ?ve3) rfl (by kernel_rfl) (by kernel_rfl) (by kernel_rfl) (by kernel_rfl) (fun _ _ _ h => h) (Or.inl ⟨by rfl, ?ye3⟩) hS ?re3
  case ye3 => (intro W hSw; have tt := (PY.out _ hSw).tb; rw [htn] at tt; go_simp; try with_reducible rfl)
  try simp only [Act.put, List.setIfInBounds_toArray, List.set_cons_zero, List.set_cons_succ]
  refine wpAnyG_takeL (i := 4) (oi := _) (v := ?ve4) rfl (by kernel_rfl) (by kernel_rfl) (by kernel_rfl) (by kernel_rfl) (fun _ _ _ h => h) (Or.inl ⟨by rfl, ?ye4⟩) hS ?re4
  case ye4 => (intro W hSw; go_simp; try with_reducible rfl)
  try simp only [Act.put, List.setIfInBounds_toArray, List.set_cons_zero, List.set_cons_succ]
  refine wpAnyG_takeL (i := 6) (oi := _) (v := ?ve6) rfl (by kernel_rfl) (by kernel_rfl) (by kernel_rfl) (by kernel_rfl) (fun _ _ _ h => h) (Or.inl ⟨by rfl, ?ye6⟩) hS ?re6
  case ye6 => (intro W hSw; go_simp; try with_reducible rfl)
  try simp only [Act.put, List.setIfInBounds_toArray, List.set_cons_zero, List.set_cons_succ]
  refine wpAnyG_takeL (i := 7) (oi := _) (v := ?ve7) rfl (by kernel_rfl) (by kernel_rfl) (by kernel_rfl) (by kernel_rfl) (fun _ _ _ h => h) (Or.inl ⟨by rfl, ?ye7⟩) hS ?re7
  case ye7 => (intro W hSw; go_simp; try with_reducible rfl)
  try simp only [Act.put, List.setIfInBounds_toArray, List.set_cons_zero, List.set_cons_succ]
  refine wpAnyG_takeL (i := 8) (oi := _) (v := ?ve8) rfl (by kernel_rfl) (by kernel_rfl) (by kernel_rfl) (by kernel_rfl) (fun _ _ _ h => h) (Or.inl ⟨by rfl, ?ye8⟩) hS ?re8
  case ye8 => (intro W hSw; have tt := (PY.out _ hSw).tl; go_simp; try with_reducible rfl)
  try simp only [Act.put, List.setIfInBounds_toArray, List.set_cons_zero, List.set_cons_succ]
  refine wpAnyG_takeL (i := 10) (oi := _) (v := ?ve10) rfl (by kernel_rfl) (by kernel_rfl) (by kernel_rfl) (by kernel_rfl) (fun _ _ _ h => h) (Or.inl ⟨by rfl, ?ye10⟩) hS ?re10
  case ye10 => (intro W hSw; go_simp; try with_reducible rfl)
  try simp only [Act.put, List.setIfInBounds_toArray, List.set_cons_zero, List.set_cons_succ]
  refine wpAnyG_takeL (i := 11) (oi := _) (v := ?ve11) rfl (by kernel_rfl) (by kernel_rfl) (by kernel_rfl) (by kernel_rfl) (fun _ _ _ h => h) (Or.inl ⟨by rfl, ?ye11⟩) hS ?re11
  case ye11 => (intro W hSw; go_simp; try with_reducible rfl)
  try simp only [Act.put, List.setIfInBounds_toArray, List.set_cons_zero, List.set_cons_succ]
  refine wpAnyG_takeL (i := 12) (oi := _) (v := ?ve12) rfl (by kernel_rfl) (by kernel_rfl) (by kernel_rfl) (by kernel_rfl) (fun _ _ _ h => h) (Or.inl ⟨by rfl, ?ye12⟩) hS ?re12
  case ye12 => (intro W hSw; have tt := (PY.out _ hSw).tc; go_simp; try with_reducible rfl)
  try simp only [Act.put, List.setIfInBounds_toArray, List.set_cons_zero, List.set_cons_succ]
  refine wpAnyG_onlyL (i := 5) (o := _) (by kernel_rfl) rfl (fun K hK => ?_)
  go_simp
  refine (ref21_num_any _ ([] ++ form 6) tn Bk _ (O5.out.1.old (Keeps.refl _ _).drew) (by simp only [List.length_append, List.length_nil]; omega) (by omega) (Nat.le_trans (by rw [← HBk.out]; exact O5.out.2.size) hS.size)).mono ?_
  rintro e x1 ⟨qx1, nx1, dx1, rfl, hx1, hk'⟩
  have gx1 : K8 Bk w5 x1 := hS.trans hk'
  clear hk'
  go_wp2_with fail
  refine hK.out _ _ (fun _ => gx1) ?_
  clear hK K
  try simp only [Act.put, List.setIfInBounds_toArray, List.set_cons_zero, List.set_cons_succ]
  refine wpAnyG_onlyL (i := 9) (o := _) (by kernel_rfl) rfl (fun K hK => ?_)
  go_simp
  refine (ref21_num_any _ ([] ++ form 6 ++ form tn) m.tl Bk _ (hx1) (by simp only [List.length_append, List.length_nil]; omega) u2 (Nat.le_trans (by rw [← HBk.out]; exact O5.out.2.size) gx1.size)).mono ?_
  rintro e x2 ⟨qx2, nx2, dx2, rfl, hx2, hk'⟩
  have gx2 : K8 Bk w5 x2 := gx1.trans hk'
  clear hk'
  go_wp2_with fail
  refine hK.out _ _ (fun _ => gx2) ?_
  clear hK K
  try simp only [Act.put, List.setIfInBounds_toArray, List.set_cons_zero, List.set_cons_succ]
  refine wpAnyG_onlyL (i := 13) (o := _) (by kernel_rfl) rfl (fun K hK => ?_)
  go_simp
  refine (ref21_num_any _ ([] ++ form 6 ++ form tn ++ form m.tl) m.tc Bk _ (hx2) (by simp only [List.length_append, List.length_nil]; omega) u3 (Nat.le_trans (by rw [← HBk.out]; exact O5.out.2.size) gx2.size)).mono ?_
  rintro e x3 ⟨qx3, nx3, dx3, rfl, hx3, hk'⟩
  have gx3 : K8 Bk w5 x3 := gx2.trans hk'
  clear hk'
  go_wp2_with fail
  refine hK.out _ _ (fun _ => gx3) ?_
  clear hK K
  try simp only [Act.put, List.setIfInBounds_toArray, List.set_cons_zero, List.set_cons_succ]
  refine wpAnyG_takeL (i := 14) (oi := _) (v := ?ve14) rfl (by kernel_rfl) (by kernel_rfl) (by kernel_rfl) (by kernel_rfl) (fun _ _ _ h => h) (Or.inl ⟨by rfl, ?ye14⟩) gx3 ?re14
  case ye14 => (intro W hSw; go_simp; try with_reducible rfl)
  try simp only [Act.put, List.setIfInBounds_toArray, List.set_cons_zero, List.set_cons_succ]
  refine wpAnyG_done (by kernel_rfl) ?_ _
  go_simp
  have O6 := Lib.hid (And.intro hx3 (O5.out.2.trans gx3))
  clear hx1 hx2 hx3 gx1 gx2 gx3 hS PY
  clear pk pp pv pth pf
  have PW := PX.out _ O6.out.2
  have pk := PW.kind
  rw [hk] at pk
  have pp := PW.pub
  rw [hpb] at pp
  have pv := PW.ver
  have pth := PW.there
  have pf := PW.frm
  clear PW
  go_wp2_with fail
  refine (ref21_num_any _ ([] ++ form 6 ++ form tn ++ form m.tl ++ form m.tc) pb Bk _ O6.out.1 (by simp only [List.length_append, List.length_nil]; omega) (by omega) (by rw [← HBk.out]; exact O6.out.2.size)).mono ?_
  rintro e w7 ⟨q7, n7, d7, rfl, ho, hk'⟩
  have O7 := Lib.hid (And.intro ho (O6.out.2.trans hk'))
  clear ho hk'
  clear pk pp pv pth pf
  have PW := PX.out _ O7.out.2
  have pk := PW.kind
  rw [hk] at pk
  have pp := PW.pub
  rw [hpb] at pp
  have pv := PW.ver
  have pth := PW.there
  have pf := PW.frm
  clear PW
  go_wp2_with fail
  refine (ref21_text_any _ _ ([] ++ form 6 ++ form tn ++ form m.tl ++ form m.tc ++ form pb) L4 Bk _ O7.out.1 (by simp only [List.length_append, List.length_nil]; omega) (S4'.out.1.keeps O7.out.2 (fun b hb u => by have := S4'.out.2.1 b hb; have := u.1; omega)) (by omega) S4'.out.2.1 (by rw [← HBk.out]; exact O7.out.2.size)).mono ?_
  rintro e w8 ⟨q8, n8, d8, rfl, ho, hk'⟩
  have O8 := Lib.hid (And.intro ho (O7.out.2.trans hk'))
  clear ho hk'
  clear pk pp pv pth pf
  go_wp2_with fail
  go_ret2
  have k8 := O8.out.2
  have o8 := O8.out.1
  rw [← HBk.out] at k8 o8
  exact putV_of K4.out k8 o8 (by rw [mForm6 (m := m.plain) hk, hpn, htm, EL.out]; simp; rfl) rfl
end
end Go.Proofs.YtpjpimahnnekkaaGreat
