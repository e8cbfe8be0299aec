/- DERIVED. TopTorn, walked: what the two crashes keep. · DERIVED. TopTorn: the loop that appends, one round. · DERIVED. How lists of bools, of two-byte numbers among the arguments read. · The statement TopTorn: whatever the items, the bools, the picks and the turns, the law returns true, and the arguments read as they did. Its card: the two tables that the row lists are tied to the program's text by the given tie. -/
import Derived.Test.YtfnanbadbmmicaaGreatDoorZTopTorn08
import Derived.Test.YtfnanbadbmmicaaGreatDoorY11
import Derived.Deep.DeepCutAuto
import Derived.IntWalk
import Derived.Test.YtfnanbadbmmicaaGreatDoorRows
import Derived.Test.YtfnanbadbmmicaaGreatDoorZTopTorn01
import Derived.ProofKit
import Derived.OpenShut
import Derived.Deep.Slices
import Derived.Deep.Fields
import Derived.Test.YtfnanbadbmmicaaGreatDoorCards
import Derived.Test.YtfnanbadbmmicaaGreatDoorTie
import Derived.WalkKit
import Derived.ChangeOld
import Derived.Deep.DeepHandedRow
namespace Go.Proofs.YtfnanbadbmmicaaGreatDoor
open Go.RowKit Torn

theorem SeesR.lt {α : Type} {w : World} {k : Nat} {enc : α → List Value} {v : Value} {l : List α} (h : SeesR w k enc v l) (hl : 0 < l.length) (he : ∀ x, 0 < (enc x).length) : ∀ b, v.ownBlock = some b → b < w.heap.size := by
 intro b hb
 obtain ⟨g, o, c, rfl, _, _, hc⟩ := h.at hl
 simp only [Value.ownBlock, Option.some.injEq] at hb
 subst hb
 obtain ⟨x, hx⟩ : ∃ x, l[0]? = some x := ⟨_, List.getElem?_eq_getElem hl⟩
 have h0 := hc 0 x hx 0 _ (List.getElem?_eq_getElem (he x))
 cases hg : w.heap[g]? with
 | none => simp [World.cell?, hg] at h0
 | some o => exact lt_of_heap hg
theorem Sees.lt {w : World} {v : Value} {l : List UInt8} (h : Sees w v l) (hl : 0 < l.length) : ∀ b, v.ownBlock = some b → b < w.heap.size := by
 intro b hb
 obtain ⟨g, o, c, rfl, _, _, hc⟩ := h.at hl
 simp only [Value.ownBlock, Option.some.injEq] at hb
 subst hb
 have h0 := hc 0 _ (List.getElem?_eq_getElem hl)
 cases hg : w.heap[g]? with
 | none => simp [World.cell?, hg] at h0
 | some o => exact lt_of_heap hg
theorem It.fine.keepsP {w w' : World} {x : It} {S : Nat → Prop} (h : x.fine w) (k : Keeps S w w') (hS : 0 < x.es.length → ∀ b, x.av.ownBlock = some b → ¬ S b) : x.fine w' :=
 ⟨SeesR.keepsP h.1 k hS, fun h0 b hb => Nat.lt_of_lt_of_le (h.2.1 h0 b hb) k.size, h.2.2⟩
/-- the items that are told of, and the disk -/
structure J2 (w : World) (f : Nat) (xs : List It) (m : Nat) (v : Value) (L : List UInt8) (fast : Nat) (vF : Value) (wr : World) : Prop where
 dk : Dk wr w.heap.size (w.heap.size + 1) w.heap.size f vF 1048576 L fast
 len : L.length ≤ 1000000000
 good : Torn.Good crcS L fast (formsOf xs) m
 sees : SeesR wr 4 It.cells v xs
 fine : ∀ x ∈ xs, x.fine wr
 ok : ∀ x ∈ xs, itOk x.plain = true
 ne : ∀ k, v.ownBlock = some k → k ≠ w.heap.size + 1 ∧ k ≠ f
 nes : ∀ x ∈ xs, 0 < x.es.length → ∀ k, x.av.ownBlock = some k → k ≠ w.heap.size + 1 ∧ k ≠ f
 old : Old w wr
 f : w.heap.size ≤ f
theorem J2.of {w : World} {f : Nat} {its xs : List It} {s : Nat} {v vF : Value} {wr : World} (h : J1 w f its xs s v vF wr) (hfi : ∀ x ∈ its, x.fine w) : J2 w f xs s v (flat crcS (formsOf xs)) (flat crcS ((formsOf xs).take s)).length vF wr := by
 have hl := forms_lens (l := xs) (fun x hx => ⟨(h.mem x hx).2, (hfi x (h.mem x hx).1).2.2.1⟩)
 obtain ⟨a1, a2, a3, _⟩ := h.dk.apart h.own
 have hf := h.f
 refine ⟨h.dk, ?_, Torn.Good.flat crcS_lt _ _ (fun r hr => by have := hl r hr; omega) (by simpa using h.safe), h.own.sees (fun _ => rfl) (by decide), fun x hx => It.fine.old (hfi x (h.mem x hx).1) h.old, fun x hx => (h.mem x hx).2, fun k hk => ⟨fun e => a1 (by rw [hk, e]), fun e => a3 (by rw [hk, e])⟩, fun x hx h0 k hk => ?_, h.old, h.f⟩
 ·have := flat_le828 (formsOf xs) (fun r hr => (hl r hr).2)
  have hx := h.len
  rw [List.length_map] at this
  omega
 ·have := (hfi x (h.mem x hx).1).2.1 h0 k hk
  omega
theorem J2.crash {w : World} {f : Nat} {xs : List It} {m : Nat} {v : Value} {L : List UInt8} {fast : Nat} {vF : Value} {wr w' : World} (h : J2 w f xs m v L fast vF wr) (k : Keeps (fun k => k = w.heap.size + 1 ∨ k = f) wr w') : SeesR w' 4 It.cells v xs ∧ (∀ x ∈ xs, x.fine w') ∧ Old w w' :=
 ⟨h.sees.keeps k (fun b hb e => by have := h.ne b hb; omega), fun x hx => (h.fine x hx).keepsP k (fun h0 b hb e => by have := h.nes x hx h0 b hb; omega), h.old.then k (fun i hi e => by have := h.f; omega)⟩
theorem takes_of {xs : List It} {n : Nat} (h : ∀ x ∈ xs, itOk x.plain = true ∧ Fits x.es) : ((formsOf xs).take n).map takeI = ((xs.map It.plain).take n).map some := by
 rw [← List.map_take, ← List.map_take, List.map_map, List.map_map]
 refine List.map_congr_left fun x hx => ?_
 have hx := List.mem_of_mem_take hx
 exact takeI_form (h x hx).1 (h x hx).2
theorem J2.old4 {w : World} {f : Nat} {xs : List It} {m : Nat} {v : Value} {L : List UInt8} {fast : Nat} {vF : Value} {wr w' : World} (h : J2 w f xs m v L fast vF wr) (k : Old wr w') : J2 w f xs m v L fast vF w' :=
 ⟨h.dk.old k, h.len, h.good, h.sees.old k, fun x hx => It.fine.old (h.fine x hx) k, h.ok, h.ne, h.nes, h.old.trans k, h.f⟩
/-- read again -/
theorem J2.read {w : World} {f : Nat} {xs : List It} {m : Nat} {v : Value} {L : List UInt8} {fast : Nat} {vF : Value} {wr : World} (h : J2 w f xs m v L fast vF wr) (P : List Nat) (T : List UInt8) :
  ∀ rs : List Bs, (∀ K, split crcS (rs.length + K) (crashed P T fast L) = rs) → m ≤ rs.length ∧ rs.length ≤ xs.length ∧ rs = (formsOf xs).take rs.length ∧ rs.map takeI = ((xs.map It.plain).take rs.length).map some := by
 intro rs hrs
 obtain ⟨h1, h2, h3⟩ := h.good.read (T.headD 0) (stay P (L.length - fast)) (stay_le _ _) hrs
 refine ⟨h1, by simpa using h2, h3, ?_⟩
 have := takes_of (n := rs.length) (fun x hx => ⟨h.ok x hx, (h.fine x hx).2.2.1⟩)
 rw [← h3] at this
 exact this
/-- the items read take their places -/
theorem J2.next {w : World} {f : Nat} {xs gs : List It} {m : Nat} {v v' : Value} {L L' : List UInt8} {fast : Nat} {vF vF' : Value} {wr wc w' : World} (h : J2 w f xs m v L fast vF wr) (rs : List Bs) (hrs : ∀ K, split crcS (rs.length + K) L' = rs) (hL : L'.length ≤ 1000000000) (hz : wr.heap.size ≤ wc.heap.size)
  (hr : rs = (formsOf xs).take rs.length) (hg : gs.map It.plain = (xs.map It.plain).take rs.length) (hd : Dk w' w.heap.size (w.heap.size + 1) w.heap.size f vF' 1048576 L' L'.length) (ho : OwnN w' wc.heap.size 39 4 It.cells It.av ItG v' gs) (hold : Old w w') :
  J2 w f gs gs.length v' L' L'.length vF' w' := by
 have hd1 := hp_lt h.dk.dd
 have hf1 := hp_lt h.dk.df
 have e : formsOf gs = rs := by
  have h1 : formsOf gs = (gs.map It.plain).map itForm := by simp
  rw [h1, hg, List.map_take, List.map_map, hr]
  simp only [List.length_take]
  have : rs.length ≤ (formsOf xs).length := by
   have := congrArg List.length hr
   rw [List.length_take] at this
   omega
  rw [Nat.min_eq_left this]
  rfl
 have el : gs.length = rs.length := by rw [← e]; simp
 refine ⟨hd, hL, ?_, ho.1.sees (fun _ => rfl) (by decide), fun x hx => (ho.2 x hx).1, fun x hx => ?_, fun k hk => by have := ho.1.block k hk; omega, fun x hx h0 k hk => by have := (ho.2 x hx).2 k hk; omega, hold, h.f⟩
 ·rw [e, el]
  exact Torn.Good.next hrs
 ·have : x.plain ∈ (xs.map It.plain).take rs.length := by rw [← hg]; exact List.mem_map_of_mem hx
  obtain ⟨y, hy, e⟩ := List.mem_map.1 (List.mem_of_mem_take this)
  rw [← e]
  exact h.ok y hy
end Go.Proofs.YtfnanbadbmmicaaGreatDoor

namespace Go.Proofs.YtfnanbadbmmicaaGreatDoor
open Go.RowKit Torn

set_option maxRecDepth 100000 in
set_option maxHeartbeats 4000000 in
theorem torn_any (vi vs vp vt : Value) (its : List It) (bs : List Bool) (P : List Nat) (T : List UInt8) (w : World) (hi : SeesR w 4 It.cells vi its) (hfi : ∀ x ∈ its, x.fine w) (hs : SeesR w 1 boolL vs bs) (hp : SeesR w 1 encH vp P) (hp16 : ∀ x ∈ P, x < 65536) (ht : Sees w vt T) :
  Calls Tryz.prog 3 #[vi, vs, vp, vt] w fun e w' => e = .returned (.bool true) ∧ Old w w' := by
 obtain ⟨pi, ci, rfl, hi1, hi2⟩ := hi.len
 obtain ⟨ps, cs, rfl, hs1, hs2⟩ := hs.len
 have hi9 : its.length ≤ 9223372036854775807 := by unfold maxLen at hi2; omega
 have hs9 : bs.length ≤ 9223372036854775807 := by unfold maxLen at hs2; omega
 have A := Lib.hid (And.intro hi (And.intro hfi (And.intro hs (And.intro hp (And.intro hp16 ht)))))
 clear hi hfi hs hp hp16 ht hi1 hi2 hs1 hs2
 go_enter Tryz.func3, Tryz.ntmps3
 go_wp2_with fail
 refine (disk_new_any 1048576 w (by decide)).mono ?_
 rintro e w1 ⟨rfl, hd1, hm1, o1⟩
 have H1 := Lib.hid (And.intro hd1 (And.intro hm1 o1))
 clear hd1 hm1 o1
 go_wp2_with fail
 refine (create_any (w.heap.size + 1) w.heap.size 1048576 w1 H1.out.1 H1.out.2.1 (by omega)).mono ?_
 rintro e w2 ⟨rfl, f, hf2, dk2, k2⟩
 have H2 := Lib.hid (And.intro dk2 (And.intro k2 hf2))
 clear dk2 k2 hf2
 go_wp2_with fail
 refine (logged_any w2).mono ?_
 rintro e w3 ⟨rfl, o3⟩
 have j0 : J1 w f its [] 0 (.slice none 0 0) (.slice none 0 0) w3 := by
  have hz := H1.out.2.2.size
  have h2 := H2.out.1.old o3
  exact ⟨by simp, by simp, OwnsR.nil _ _, fun _ h => (by cases h), Dk.make h2.dd h2.dm h2.df (h2.own.mono hz), (H1.out.2.2.then H2.out.2.1 (fun i hi e => by omega)).trans o3, by have := H2.out.2.2; omega⟩
 have J0 := Lib.hid j0
 clear j0 o3
 go_wp2_with fail
 go_loopw [11, 12, 13] (fun v11 v12 v13 wr => ∃ (xs : List It) (s i : Nat) (vF : Value), i ≤ its.length ∧ v12 = .int .i64 (s : Int) ∧ v13 = .int .i64 (i : Int) ∧ J1 w f its xs s v11 vF wr) (fun _ _ v13 _ => its.length - (intOf v13).toNat)
 case atStart => exact ⟨[], 0, 0, _, Nat.zero_le _, rfl, rfl, J0.out⟩
 case round =>
  obtain ⟨xs, s, i, vF, hi, rfl, rfl, hj⟩ := hrel
  obtain ⟨pa, ca, rfl, _, _⟩ := (hj.own.sees (fun _ => rfl) (by decide)).len
  have hx20 := hj.len
  have J := Lib.hid hj
  clear hj
  by_cases hlt : i < its.length ∧ xs.length < 20
  ·obtain ⟨hlt, hl20⟩ := hlt
   obtain ⟨b, o, c', he, _, _, hc⟩ := A.out.1.at (by omega)
   simp only [Value.slice.injEq, true_and] at he
   obtain ⟨rfl, rfl⟩ := he
   obtain ⟨x, hx⟩ : ∃ x, its[i]? = some x := ⟨_, List.getElem?_eq_getElem hlt⟩
   have x0 := J.out.old.cell (hc i x hx 0 _ rfl) (fun f => f)
   have x1 := J.out.old.cell (hc i x hx 1 _ rfl) (fun f => f)
   have x2 := J.out.old.cell (hc i x hx 2 _ rfl) (fun f => f)
   have x3 := J.out.old.cell (hc i x hx 3 _ rfl) (fun f => f)
   simp only [Nat.add_zero] at x0
   have HX := Lib.hid (And.intro (List.mem_of_getElem? hx) (And.intro (fun j u hu => hc i x hx j u hu) hx))
   have HF := Lib.hid (A.out.2.1 x HX.out.1)
   clear hc hx
   go_wp2_with fail
   refine (put_item_u x wr (It.fine.old HF.out J.out.old)).mono ?_
   rintro e w4 ⟨p4, c4, z4, L4, rfl, o4, s4, ⟨hok, rfl, rfl⟩ | ⟨_, rfl, rfl⟩⟩
   case inr =>
    have O := Lib.hid (J.out.old4 o4)
    clear o4 s4 x0 x1 x2 x3
    go_wp2_with fail
    go_roundw
    case rel => exact ⟨xs, s, i + 1, vF, by omega, rfl, by go_num, O.out⟩
    case measure => simp [intOf]; omega
   have hF := itForm_lens hok HF.out.2.2.1
   have H4 := Lib.hid (And.intro o4 (And.intro s4 hok))
   clear o4 s4 x0 x1 x2 x3 hok
   go_wp2_with fail
   refine (frame_put_any _ (itForm x.plain) w4 H4.out.2.1 hF.1 (by omega)).mono ?_
   rintro e w5 ⟨v5, rfl, own5, o5⟩
   have hj5 := (J.out.old4 H4.out.1).old4 o5
   obtain ⟨p5, n5, c5, rfl⟩ : ∃ p n c, v5 = .slice p n c := by obtain ⟨p, c, e, _⟩ := own5.sees.len; exact ⟨_, _, _, e⟩
   have H5 := Lib.hid (And.intro own5 hj5)
   clear own5 o5 hj5
   go_wp2_with fail
   have hfl : (flat crcS (formsOf xs)).length ≤ 828 * xs.length := by
    have := flat_le828 (formsOf xs) (fun r hr => (forms_lens (fun y hy => ⟨(H5.out.2.mem y hy).2, (A.out.2.1 y (H5.out.2.mem y hy).1).2.2.1⟩) r hr).2)
    simpa using this
   have hfr := frame_len crcS (itForm x.plain)
   have hz5 := H5.out.2.old.size
   have hf4 : f < w4.heap.size := hp_lt (J.out.old4 H4.out.1).dk.df
   refine (append_any _ _ _ f vF 1048576 _ (frame crcS (itForm x.plain)) _ _ w5 H5.out.2.dk H5.out.1.sees (fun k hk e => by have := (H5.out.1.block k hk).1; omega) hz5 (by decide) (by omega)).mono ?_
   rintro e w6 ⟨rfl, v6, dk6, hv6, k6⟩
   have hap := H5.out.2.dk.apart H5.out.2.own
   have H6 := Lib.hid (show Dk w6 w.heap.size (w.heap.size + 1) w.heap.size f v6 1048576 (flat crcS (formsOf (xs ++ [x]))) (flat crcS ((formsOf xs).take s)).length ∧ OwnsR w6 w.heap.size 39 4 It.cells (.slice pa xs.length ca) xs ∧ Old w w6 from by
    refine ⟨?_, H5.out.2.own.keeps k6 (fun k hk e => ?_), H5.out.2.old.then k6 (fun i hi e => ?_)⟩
    ·have e : formsOf (xs ++ [x]) = formsOf xs ++ [itForm x.plain] := by simp
     rw [e, flat_snoc]
     exact dk6
    ·rcases e with e | e
     ·exact hap.2.2.1 (by rw [hk, e])
     ·exact hap.2.2.2 k hk e
    ·rcases e with e | e
     ·have := H5.out.2.f; omega
     ·have := (H5.out.2.dk.own.block i e).1; omega)
   clear dk6 hv6 k6 hap hfl hfr hf4 hz5
   have x0 := H6.out.2.2.cell (HX.out.2.1 0 _ rfl) (fun f => f)
   have x1 := H6.out.2.2.cell (HX.out.2.1 1 _ rfl) (fun f => f)
   have x2 := H6.out.2.2.cell (HX.out.2.1 2 _ rfl) (fun f => f)
   have x3 := H6.out.2.2.cell (HX.out.2.1 3 _ rfl) (fun f => f)
   simp only [Nat.add_zero] at x0
   have SN := Lib.hid (SeesR.new (k := 4) (enc := It.cells) w6 39 (0, 0) [x] #[.int .u64 (x.n : Int), .int .u64 (x.time : Int), .string x.key, x.av] (by simp [It.cells]) (fun _ => rfl) (by unfold maxLen; simp))
   have hav : x.av.oneCell' = true := by obtain ⟨p, c, e, _⟩ := HF.out.1.len; rw [e]; rfl
   have HN := Lib.hid (show (xs.length + 1 ≤ maxLen ∧ (xs.length + 1) * 56 ≤ 140737488355328 ∧ w.heap.size ≤ (w6.alloc (.cells #[.int .u64 (x.n : Int), .int .u64 (x.time : Int), .string x.key, x.av] 39)).heap.size) ∧ OwnsR (w6.alloc (.cells #[.int .u64 (x.n : Int), .int .u64 (x.time : Int), .string x.key, x.av] 39)) w.heap.size 39 4 It.cells (.slice pa xs.length ca) xs ∧ x.av.oneCell' = true from
    ⟨⟨by unfold maxLen; omega, by omega, by have := H6.out.2.2.size; simp; omega⟩, H6.out.2.1.alloc _, hav⟩)
   go_upto_region 15 with (at_builtin; go_loud (refine wpList_append_rows (P := Tryz.prog) rfl _ _ 22 rfl w.heap.size 39 4 56 It.cells _ Tryz.underlying22 Tryz.infoItem rfl (by decide) (.slice pa xs.length ca) xs rfl HN.out.2.1 _ [x] rfl SN.out (by simp [It.cells]) (by intro y hy c hc; simp only [List.mem_singleton] at hy; subst hy; simp only [It.cells, List.mem_cons, List.mem_nil_iff, or_false] at hc; rcases hc with rfl | rfl | rfl | rfl <;> first | rfl | exact HN.out.2.2) HN.out.1.1 HN.out.1.2.1 HN.out.1.2.2 ?_; intro v7 w7 ho7 hg7 _))
   have hm7 : ∀ y ∈ xs ++ [x], y ∈ its ∧ itOk y.plain = true := fun y hy => by
    rcases List.mem_append.1 hy with hy | hy
    ·exact J.out.mem y hy
    ·obtain rfl : y = x := by simpa using hy
     exact ⟨HX.out.1, H4.out.2.2⟩
   have j7 := J1.more J.out.safe hl20 hm7 H6.out.1 H6.out.2.1 H6.out.2.2 ((Keeps.refl _ _).alloc _) hg7 ho7 J.out.f
   obtain ⟨pv, cv, rfl, _, _⟩ := (ho7.sees (fun _ => rfl) (by decide)).len
   have hlx : (xs ++ [x]).length = xs.length + 1 := by simp
   have J7 := Lib.hid j7
   rw [hlx] at J7 ⊢
   clear j7 ho7 hg7 hm7 x0 x1 x2 x3 hlx
   by_cases hb : xs.length + 1 ≤ bs.length
   ·obtain ⟨b', o', c', he, _, _, hc⟩ := A.out.2.2.1.at (by omega)
    simp only [Value.slice.injEq, true_and] at he
    obtain ⟨rfl, rfl⟩ := he
    obtain ⟨tb, htb⟩ : ∃ tb, bs[xs.length]? = some tb := ⟨_, List.getElem?_eq_getElem (by omega)⟩
    have y0 := J7.out.old.cell (hc xs.length tb htb 0 _ rfl) (fun f => f)
    simp only [Nat.mul_one, Nat.add_zero] at y0
    have hw : IntKind.i64.wrap ((xs.length : Int) + 1 - 1) = (xs.length : Int) := by rw [IntWalk.i64_in _ (by omega)]; omega
    have hw2 : (xs.length : Int) + 1 - 1 = (xs.length : Int) := by omega
    clear hc htb
    cases tb
    ·go_wp2_with fail
     go_roundw
     case rel => exact ⟨xs ++ [x], s, i + 1, v6, by omega, rfl, by go_num, by simpa using J7.out⟩
     case measure => simp [intOf]; omega
    ·go_wp2_with fail
     refine (sync_any _ _ _ f v6 1048576 _ _ w7 J7.out.dk).mono ?_
     rintro e w8 ⟨rfl, dk8, k8⟩
     have J8 := Lib.hid (J7.out.synced dk8 k8)
     clear dk8 k8 y0
     go_wp2_with fail
     go_roundw
     case rel => exact ⟨xs ++ [x], (xs ++ [x]).length, i + 1, v6, by omega, by simp, by go_num, by simpa using J8.out⟩
     case measure => simp [intOf]; omega
   ·go_wp2_with fail
    go_roundw
    case rel => exact ⟨xs ++ [x], s, i + 1, v6, by omega, rfl, by go_num, by simpa using J7.out⟩
    case measure => simp [intOf]; omega
  ·obtain ⟨wo, hwo⟩ : ∃ wo : World, wo = wr := ⟨_, rfl⟩
   subst hwo
   go_upto_region 7 with fail
   go_cut [44] from 36 to 44 (fun v44 wc => v44 = .bool false ∧ wc = wo)
   case first =>
    by_cases h1 : i < its.length
    ·have h2 : 20 ≤ xs.length := by omega
     go_wp2_with fail
     go_meet
     exact ⟨congrArg Value.bool (decide_eq_false (by omega)), rfl⟩
    ·go_wp2_with fail
     go_meet
     exact ⟨rfl, rfl⟩
   obtain ⟨rfl, rfl⟩ := hcut
   have JJ := Lib.hid (J2.of J.out A.out.2.1)
   have hs20 : s ≤ 20 := by have := J.out.safe; omega
   clear hlt hi
   go_wp2_with fail
   go_loopw [11, 12, 17] (fun v11 v12 v17 wr => ∃ (ys : List It) (m r : Nat) (L : List UInt8) (fast : Nat) (vF : Value), v12 = .int .i64 (m : Int) ∧ v17 = .int .i64 (r : Int) ∧ J2 w f ys m v11 L fast vF wr) (fun _ _ v17 _ => 2 - (intOf v17).toNat)
   case atStart => exact ⟨xs, s, 0, _, _, vF, rfl, rfl, JJ.out⟩
   case round =>
    obtain ⟨ys, m, r, L, fast, vG, rfl, rfl, hj⟩ := hrel
    obtain ⟨py, cy, rfl, hy1, hy2⟩ := hj.sees.len
    have hy9 : ys.length ≤ 9223372036854775807 := by unfold maxLen at hy2; omega
    have G := Lib.hid hj
    clear hj hy1 hy2
    by_cases hr : r < 2
    ·go_upto_region 22 with fail
     have hzw := G.out.old.size
     go_wp2_with fail
     refine (crash_any _ _ _ f vG 1048576 L fast vp vt P T _ G.out.dk G.out.len G.out.good.1 (A.out.2.2.2.1.old G.out.old) A.out.2.2.2.2.1 (fun h0 k hk => by have := A.out.2.2.2.1.lt h0 (fun _ => by simp) k hk; have := G.out.f; omega) (A.out.2.2.2.2.2.old G.out.old) (fun h0 k hk => by have := A.out.2.2.2.2.2.lt h0 k hk; have := G.out.f; omega) hzw).mono ?_
     rintro e wc ⟨rfl, vH, dkc, _, kc⟩
     have G2 := Lib.hid (And.intro dkc (And.intro (G.out.crash kc) kc.size))
     clear dkc kc hzw
     go_wp2_with fail
     have hlc : (crashed P T fast L).length ≤ 1000000000 := Nat.le_trans (crashed_len P T fast L G.out.good.1) G.out.len
     refine (torn_read_any _ _ _ f vH 1048576 _ _ wc G2.out.1 hlc (fun rs hrs => ⟨_, (G.out.read P T rs hrs).2.2.2⟩)).mono ?_
     rintro e w9 ⟨p9, c9, gs, rs, rfl, own9, hrs, hgs, o9⟩
     obtain ⟨q1, q2, q3, q4⟩ := G.out.read P T rs hrs
     have hgp : gs.map It.plain = (ys.map It.plain).take rs.length := by
      have e := hgs.symm.trans q4
      have e2 : (gs.map It.plain).map some = ((ys.map It.plain).take rs.length).map some := by rw [← e, List.map_map]; rfl
      exact (List.map_inj_right (fun _ _ h => by simpa using h)).1 e2
     have hgl : gs.length = rs.length := by have := congrArg List.length hgs; simpa using this.symm
     rw [← hgl] at q1 q2
     have N := Lib.hid (G.out.next (wc := wc) rs hrs hlc G2.out.2.2 q3 hgp (G2.out.1.old o9) own9 (G2.out.2.1.2.2.trans o9))
     have Y := Lib.hid (show SeesR w9 4 It.cells (.slice py ys.length cy) ys ∧ (∀ y ∈ ys, y.fine w9) ∧ gs.map It.plain = (ys.map It.plain).take gs.length from ⟨G2.out.2.1.1.old o9, fun y hy => It.fine.old (G2.out.2.1.2.1 y hy) o9, by rw [hgl]; exact hgp⟩)
     clear own9 hrs hgs o9 q3 q4 hgp hgl hlc
     go_wp2_with fail
     go_loopw [20] (fun v20 wr => ∃ j : Nat, j ≤ gs.length ∧ v20 = .int .i64 (j : Int) ∧ Old w9 wr) (fun v20 _ => gs.length - (intOf v20).toNat)
     case atStart => exact ⟨0, Nat.zero_le _, rfl, Keeps.refl _ _⟩
     case round =>
      obtain ⟨j, hjl, rfl, hk⟩ := hrel
      have KW := Lib.hid hk
      clear hk
      have hg9 : gs.length ≤ 9223372036854775807 := by omega
      by_cases hlt : j < gs.length
      ·have hlt' : j < ys.length := by omega
       obtain ⟨b, o, cc, he, _, _, hc⟩ := N.out.sees.at (by omega)
       obtain ⟨b', o', cc', he', _, _, hc'⟩ := Y.out.1.at (by omega)
       simp only [Value.slice.injEq, true_and] at he he'
       obtain ⟨rfl, rfl⟩ := he
       obtain ⟨rfl, rfl⟩ := he'
       obtain ⟨x, hx⟩ : ∃ x, gs[j]? = some x := ⟨_, List.getElem?_eq_getElem hlt⟩
       obtain ⟨y, hy⟩ : ∃ y, ys[j]? = some y := ⟨_, List.getElem?_eq_getElem hlt'⟩
       have hxy : x.plain = y.plain := by
        have e := congrArg (fun l => l[j]?) Y.out.2.2
        simp only [List.getElem?_map, hx, hy, Option.map_some, List.getElem?_take, hlt, if_true, Option.some.injEq] at e
        exact e
       have cx := fun j u (hu : x.cells[j]? = some u) => OldOf.cell (KW.out.cell (hc _ x hx j u hu) (fun f => f))
       have cy := fun j u (hu : y.cells[j]? = some u) => OldOf.cell (KW.out.cell (hc' _ y hy j u hu) (fun f => f))
       have x0 := cx 0 _ rfl
       have x1 := cx 1 _ rfl
       have x2 := cx 2 _ rfl
       have x3 := cx 3 _ rfl
       have y0 := cy 0 _ rfl
       have y1 := cy 1 _ rfl
       have y2 := cy 2 _ rfl
       have y3 := cy 3 _ rfl
       simp only [Nat.add_zero] at x0 y0
       have CW := fun (W : World) (k : Old w9 W) => same_item_any x y W (It.fine.old (N.out.fine x (List.mem_of_getElem? hx)) k) (It.fine.old (Y.out.2.1 y (List.mem_of_getElem? hy)) k)
       rw [(sameI_iff x.plain y.plain).2 hxy] at CW
       unfold It.cells at CW
       have CV := Lib.hid CW
       clear hx hy hxy cx cy hc hc' CW
       go_wp2_with fail
       refine wp_region_quiet_old (by kernel_rfl) (by kernel_rfl) ?_
       repeat (go_big_quiet_step (((go_at_call 13; exact Calls.quiet_of_old (CV.out _ (KW.out.trans (OldOf.old _)))))))
       refine wpQuiet_nil ?_
       intro _ hpq
       obtain ⟨pq, hpq'⟩ := hpq
       subst hpq'
       go_wp2_with fail
       go_roundw
       case rel => exact ⟨j + 1, by omega, by go_num, KW.out.trans pq.old⟩
       case measure => simp [intOf]; omega
      ·go_wp2_with fail
       go_roundw
       case rel => exact ⟨gs, gs.length, r + 1, _, _, vH, rfl, by go_num, N.out.old4 KW.out⟩
       case measure => simp [intOf]; omega
    ·go_wp2_with fail
     go_ret
     exact ⟨rfl, G.out.old⟩
end Go.Proofs.YtfnanbadbmmicaaGreatDoor

namespace Go.Proofs.YtfnanbadbmmicaaGreatDoor
open Go.ChangeShapes Go.WideShapes Go.ChangeAt Go.RowKit Go.Deep

section
variable {H : Type} {enc : TypeId × Value → H} {W : World}
theorem cells_bool1 : Tryz.prog.cellsOf 4 = 1 := by kernel_rfl
theorem cells_u16 : Tryz.prog.cellsOf 69 = 1 := by kernel_rfl
theorem u16_range {z : Int} (h : Lit.wf (.int .u16 z) = true) : 0 ≤ z ∧ z < 65536 := by
 have : 0 ≤ z ∧ z ≤ 65535 := by simpa [Lit.wf, IntKind.min, IntKind.max, IntKind.signed, IntKind.bits] using h
 omega
set_option maxRecDepth 100000 in
theorem read_bools1 {base : Nat} {v : Value} {d : DataW H} {p : List MemPlace} (hv : Value.okWide Tryz.prog W .any base 23 v) (h : DataW.Trod enc Tryz.prog W 0 (fun _ => true) true 23 v d p) :
  ∃ l : List Bool, SeesR W 1 boolL v l := by
 obtain ⟨a, len, cap, rfl⟩ := okWide_slice Tryz.underlying23 hv
 obtain ⟨fuel, hf⟩ := h
 obtain ⟨v, l, hc, hs, _⟩ := trod_rows boolL 1 4 23 Tryz.underlying23 cells_bool1 (by decide) (fun _ => True) (fun n cs x hh => by
  obtain ⟨b, e, _⟩ := DataW.trod_bool Tryz.underlying4 hh
  exact ⟨b, e, trivial⟩) hf
 simp only [Value.cells, List.cons.injEq, and_true] at hc
 subst hc
 exact ⟨l, hs⟩
set_option maxRecDepth 100000 in
theorem read_u16s {base : Nat} {v : Value} {d : DataW H} {p : List MemPlace} (hv : Value.okWide Tryz.prog W .any base 24 v) (h : DataW.Trod enc Tryz.prog W 0 (fun _ => true) true 24 v d p) :
  ∃ l : List Nat, SeesR W 1 encH v l ∧ ∀ x ∈ l, x < 65536 := by
 obtain ⟨a, len, cap, rfl⟩ := okWide_slice Tryz.underlying24 hv
 obtain ⟨fuel, hf⟩ := h
 obtain ⟨v, l, hc, hs, hq, _⟩ := trod_rows encH 1 69 24 Tryz.underlying24 cells_u16 (by decide) (fun x => x < 65536) (fun n cs x hh => by
  obtain ⟨z, e, _, hw⟩ := DataW.trod_int Tryz.underlying69 hh
  obtain ⟨h1, h2⟩ := u16_range hw
  obtain ⟨b, rfl⟩ := Int.eq_ofNat_of_zero_le h1
  exact ⟨b, e, by omega⟩) hf
 simp only [Value.cells, List.cons.injEq, and_true] at hc
 subst hc
 exact ⟨l, hs, hq⟩
end
end Go.Proofs.YtfnanbadbmmicaaGreatDoor

namespace Go.Proofs.YtfnanbadbmmicaaGreatDoor
open Go.ChangeShapes Go.WideShapes Go.ChangeAt Go.RowKit
set_option maxRecDepth 100000 in
theorem walk_TopTorn {H : Type} (enc : TypeId × Value → H) (W : World) (base : Nat) {v0 v1 v2 v3 : Value} {d0 d1 d2 d3 : DataW H} {p0 p1 p2 p3 : List MemPlace}
  (hv0 : Value.okWide Tryz.prog W .any base 22 v0) (h0 : DataW.Trod enc Tryz.prog W 0 (fun _ => true) true 22 v0 d0 p0)
  (hv1 : Value.okWide Tryz.prog W .any base 23 v1) (h1 : DataW.Trod enc Tryz.prog W 0 (fun _ => true) true 23 v1 d1 p1)
  (hv2 : Value.okWide Tryz.prog W .any base 24 v2) (h2 : DataW.Trod enc Tryz.prog W 0 (fun _ => true) true 24 v2 d2 p2)
  (hv3 : Value.okWide Tryz.prog W .any base 25 v3) (h3 : DataW.Trod enc Tryz.prog W 0 (fun _ => true) true 25 v3 d3 p3) :
  Calls Tryz.prog 3 #[v0, v1, v2, v3] W fun e W' => e = .returned (.bool true) ∧ Below W.heap.size W W' := by
 obtain ⟨its, hi⟩ := read_items hv0 h0
 obtain ⟨bs, hb⟩ := read_bools1 hv1 h1
 obtain ⟨P, hp, hp16⟩ := read_u16s hv2 h2
 obtain ⟨T, ht, _⟩ := read_bytes hv3 h3
 exact (torn_any _ _ _ _ its bs P T W hi.1 hi.2 hb hp hp16 ht).mono fun e W' h => ⟨h.1, Old.below h.2⟩
end Go.Proofs.YtfnanbadbmmicaaGreatDoor
namespace Go.Proofs.YtfnanbadbmmicaaGreatDoor.topTorn
open Go.ChangeShapes Go.WideShapes Go.ChangeAt Go.RowKit
theorem own : ownKnob Tryz.prog.godebug = none := by kernel_rfl
theorem laidOut : laidOutB Tryz.prog = true := by kernel_rfl

set_option maxRecDepth 100000 in
/-- what the walk gives, for every argument -/
theorem contract (H : Type) (enc : TypeId × Value → H) (W : World) (base : Nat) (args : Array Value) (ds gs : List (DataW H)) (before : List MemPlace)
  (hval0 : ∀ (j : Nat) t v, Tryz.f3.params[j]? = some t → args[j]? = some v → Value.okWide Tryz.prog W .any base t v)
  (hW : DataW.Whole enc Tryz.prog Tryz.f3.params.toList Rows.topTornSpec.vars false W args.toList ds gs before) :
  Calls Tryz.prog 3 args W fun e W' => ∃ v, e = .returned v ∧ Rows.topTornSpec.post enc Tryz.prog Tryz.f3 false true false false W args v W' := by
 have hval := hval0
 have hW' := hW
 obtain ⟨p, q, hA0, hV, rfl, hfz, hnd⟩ := hW
 have hA : DataW.TrodAll enc Tryz.prog W 0 (fun _ => true) true Tryz.f3.params.toList args.toList ds p := hA0
 rw [Tryz.params3] at hA hval
 obtain ⟨v0, vs0, d0, ds0, p0, q0, hargs, rfl, rfl, h0, r0⟩ := trodAll_cons hA
 obtain ⟨v1, vs1, d1, ds1, p1, q1, rfl, rfl, rfl, h1, r1⟩ := trodAll_cons r0
 obtain ⟨v2, vs2, d2, ds2, p2, q2, rfl, rfl, rfl, h2, r2⟩ := trodAll_cons r1
 obtain ⟨v3, vs3, d3, ds3, p3, q3, rfl, rfl, rfl, h3, r3⟩ := trodAll_cons r2
 obtain ⟨rfl, rfl, rfl⟩ := trodAll_nil r3
 obtain rfl : args = #[v0, v1, v2, v3] := by cases args; simp_all
 obtain ⟨rfl, rfl⟩ := trodVars_none hV
 have lt0 : ∀ x ∈ p0, x.block < W.heap.size := by obtain ⟨m, hm⟩ := h0; exact DataW.trod_lt m _ _ _ hm
 have lt1 : ∀ x ∈ p1, x.block < W.heap.size := by obtain ⟨m, hm⟩ := h1; exact DataW.trod_lt m _ _ _ hm
 have lt2 : ∀ x ∈ p2, x.block < W.heap.size := by obtain ⟨m, hm⟩ := h2; exact DataW.trod_lt m _ _ _ hm
 have lt3 : ∀ x ∈ p3, x.block < W.heap.size := by obtain ⟨m, hm⟩ := h3; exact DataW.trod_lt m _ _ _ hm
 clear hA0 hval0
 refine (walk_TopTorn enc W base (hval 0 22 v0 rfl rfl) h0 (hval 1 23 v1 rfl rfl) h1 (hval 2 24 v2 rfl rfl) h2 (hval 3 25 v3 rfl rfl) h3).mono fun e W' ⟨he, bel⟩ => ?_
 subst he
 exact ⟨_, rfl, _, _, _, [], _, [], hW', trodAll_mk1 (shut_bool Tryz.underlying4 _), (trodAll_cons_mk (Below.trod laidOut (by kernel_rfl) (of_decide_eq_true (by kernel_rfl)) h0 bel lt0) (trodAll_cons_mk (Below.trod laidOut (by kernel_rfl) (of_decide_eq_true (by kernel_rfl)) h1 bel lt1) (trodAll_cons_mk (Below.trod laidOut (by kernel_rfl) (of_decide_eq_true (by kernel_rfl)) h2 bel lt2) (trodAll_cons_mk (Below.trod laidOut (by kernel_rfl) (of_decide_eq_true (by kernel_rfl)) h3 bel lt3) trodAll_mk0)))), rfl, bel.frame _, fun h => by cases h⟩

/-- a block with other cells -/
def withCells (c : Array Value) : Obj → Obj
 | .cells _ t frozen => .cells c t frozen
 | o => o
/-- a world for the witness: the two tables hold what their initialisers lay -/
noncomputable def laidWorld (os : Os) : World :=
 { World.holding Tryz.prog os ⟨#[], #[], []⟩ with heap := ((World.holding Tryz.prog os ⟨#[], #[], []⟩).heap.modify 1 (withCells (([128, 191, 160, 191, 128, 159, 144, 191, 128, 143, 0, 0, 0, 0, 0, 0, 0, 0, 0, 0, 0, 0, 0, 0, 0, 0, 0, 0, 0, 0, 0, 0] : List Nat).map fun (n : Nat) => Value.int .u8 n).toArray)).modify 0 (withCells (Go.Pinned.utf8FirstZ.map fun (n : Nat) => Value.int .u8 n).toArray) }
theorem laid_met (os : Os) (args : Array Value) : laidMet Tryz.prog Rows.topTornRow.laid ((laidWorld os).forCall (fun _ _ => 0) ⟨#[], args, []⟩).memory :=
 laidMet_of_run' 8 (by kernel_rfl) (by kernel_rfl)
theorem reads (os : Os) {H : Type} (enc : TypeId × Value → H) : ∃ places, DataW.whole enc Tryz.prog ((laidWorld os).forCall (fun _ _ => 0) ⟨#[], #[.slice none 0 0, .slice none 0 0, .slice none 0 0, .slice none 0 0], []⟩).memory Tryz.f3.params.toList Rows.topTornSpec.vars false #[Value.slice none 0 0, .slice none 0 0, .slice none 0 0, .slice none 0 0].toList 8 = some ([.nil, .nil, .nil, .nil], [], places) :=
 ⟨[], by kernel_rfl⟩

set_option maxRecDepth 100000 in
theorem lifted (os : Os) (started : os.Started) (H : Type) (enc : TypeId × Value → H) (F : Stop.Interp) :
  ReturnsInHanded {} Tryz.checked os 3 .any ((OpenSpec.ofChange Rows.topTornSpec).preRow enc Tryz.prog Tryz.f3 Rows.topTornRow.domain false Rows.topTornRow.laid) (((OpenSpec.ofChange Rows.topTornSpec).at F).post enc Tryz.prog Tryz.f3 false true false false) := by
 obtain ⟨places, hx⟩ := reads os enc
 refine returnsInHanded_of_row (C := Tryz.checked) (s := OpenSpec.ofChange Rows.topTornSpec) own started (by kernel_rfl) Tryz.func3
  (witness_row_at (enc := enc) (C := Tryz.checked) false (laidWorld os) #[.slice none 0 0, .slice none 0 0, .slice none 0 0, .slice none 0 0] rfl (by kernel_rfl) (by kernel_rfl) (by kernel_rfl)
   (OpenSpec.preRow_of_cond 8 hx (by kernel_rfl) (fun k hk => by cases hk) (by kernel_rfl) (laid_met os _))) ?_
 intro W base args ds gs before hval hW _ _ _ hL _ _
 exact contract H enc W base args ds gs before hval hW

theorem said : Rows.TopTornSaid :=
 OpenClaim.holds_of_cond 3 Tryz.f3 rfl rfl rfl rfl rfl rfl rfl ⟨rfl, rfl, rfl, rfl, rfl⟩ rfl rfl rfl rfl rfl (by kernel_rfl) Tryz.func3 (by kernel_rfl)
  (of_decide_eq_true (by kernel_rfl)) (by unfold Func.isWrapper; first | (rw [if_pos (by decide +kernel)]; kernel_rfl) | (rw [if_neg (by decide +kernel)]; exact ⟨rfl, rfl⟩))
  (fun os started H enc _ F => by rw [OpenClaim.pre_eq_preRow]; exact lifted os started H enc F)

/-- No parameter wants a stand-in; the program's own looks are as the card has them. -/
theorem plain (f : FuncId) (fn : Func) (hf : Tryz.pinned.checked.prog.funcNamed "pneumatic/pneumatictop.TopTorn" = some f) (hfn : Tryz.pinned.checked.prog.funcs[f]? = some fn) :
  true = Tryz.pinned.checked.prog.looks [] ∧ ∀ (j : Nat) t, fn.params[j]? = some t → Tryz.pinned.checked.prog.wantsStandIn t = false := by
 obtain rfl : f = 3 := Option.some.inj ((show Tryz.prog.funcNamed "pneumatic/pneumatictop.TopTorn" = some 3 by kernel_rfl).symm.trans hf) |>.symm
 obtain rfl : fn = Tryz.f3 := (Option.some.inj (Tryz.func3.symm.trans hfn)).symm
 refine ⟨by kernel_rfl, fun j t ht => ?_⟩
 rw [Tryz.params3] at ht
 have hm := Array.mem_of_getElem? ht
 simp only [List.mem_toArray, List.mem_cons, List.mem_nil_iff, or_false] at hm
 rcases hm with rfl | rfl | rfl | rfl
 ·exact (show Tryz.prog.wantsStandIn 22 = false by kernel_rfl)
 ·exact (show Tryz.prog.wantsStandIn 23 = false by kernel_rfl)
 ·exact (show Tryz.prog.wantsStandIn 24 = false by kernel_rfl)
 ·exact (show Tryz.prog.wantsStandIn 25 = false by kernel_rfl)

theorem proved : Rows.TopTornCardSaid :=
 Claim7.holds_tied_plain_at .later [] _ _ _ _ said (fun _ h => by cases h) (by kernel_rfl) (fun _ h => by cases h) topTorn_row_tie rfl ⟨rfl, rfl⟩ (by kernel_rfl) rfl plain (by kernel_rfl)
end Go.Proofs.YtfnanbadbmmicaaGreatDoor.topTorn
