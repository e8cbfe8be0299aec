/- DERIVED. slices.Clone of values and of a list of constraints; pred's sorted and once. · DERIVED. pred's sorted and once: a permutation; nobody lost, nobody new. -/
import Derived.Test.YtehmlaplodjenaaGreatZTopDual34
import Derived.Test.YtehmlaplodjenaaGreatZTopDual02
import Derived.Deep.RegionLaw
import Derived.Deep.DeepCutAuto
import Derived.IntWalk
import Derived.BigQuiet
import Derived.Laws.EntriesVeiled
import Derived.WideLaws
set_option maxRecDepth 100000
set_option maxHeartbeats 4000000
namespace Go.Proofs.YtehmlaplodjenaaGreat
section
open Go.RowKit
theorem clone_valsD (v : Value) (l : List Val) (w : World) (h : SeesR w 4 valL v l) (h1 : ∀ x ∈ l, ∀ c ∈ valL x, c.oneCell' = true) (hl : l.length ≤ 100000) :
  Calls Tryz.prog 56 #[v] w fun e w' => ∃ p n c, e = .returned (.slice p n c) ∧ OwnsR w' w.heap.size 61 4 valL (.slice p n c) l ∧ Old w w' := by
 obtain ⟨p, c, rfl, g1, g2, g3, g4⟩ := id h
 have hnil := eql_nil_D 76 61 Tryz.underlying76
 cases p with
 | none =>
  obtain rfl := g3 rfl
  obtain rfl : l = [] := List.eq_nil_of_length_eq_zero (by omega)
  clear g3 g4 h
  go_enter Tryz.func56, Tryz.ntmps56
  go_wp2_with fail
  go_ret
  exact ⟨_, _, _, rfl, OwnsR.nil _ _, Keeps.refl _ _⟩
 | some ad =>
  clear g3 g4
  have hlen : ∀ x : Val, (valL x).length = 4 := fun _ => rfl
  have HX := Lib.hid (And.intro (h.alloc (.cells #[] 61)) h1)
  clear h1 h
  go_enter Tryz.func56, Tryz.ntmps56
  go_wp2_with (at_builtin; refine wpList_append_rows rfl _ _ 76 rfl w.heap.size 61 4 40 valL _ Tryz.underlying76 Tryz.infoVal rfl (by decide) _ [] rfl (OwnsR.litD w) _ l rfl HX.out.1 (fun x _ => hlen x) HX.out.2 (by unfold maxLen; simp; omega) (by simp; omega) (by simp) ?_; intro v' w1 ho hg hb)
  obtain ⟨p', c', hv', _⟩ := (ho.sees hlen (by decide)).len
  subst hv'
  have hk := ((Keeps.refl (fun _ => False) w).alloc (.cells #[] 61)).grown hg (fun k hk hlt => own_newD w hk hlt)
  have H := Lib.hid (And.intro ho hk)
  clear ho hk hg hb
  go_ret
  exact ⟨_, _, _, rfl, by simpa using H.out.1, H.out.2⟩
theorem clone_listD (v : Value) (l : List Con) (w : World) (h : SeesR w 7 Con.cells v l) (h1 : ∀ x ∈ l, ∀ c ∈ Con.cells x, c.oneCell' = true) (hl : l.length ≤ 100000) :
  Calls Tryz.prog 100 #[v] w fun e w' => ∃ p n c, e = .returned (.slice p n c) ∧ OwnsR w' w.heap.size 78 7 Con.cells (.slice p n c) l ∧ Old w w' := by
 obtain ⟨p, c, rfl, g1, g2, g3, g4⟩ := id h
 have hnil := eql_nil_D 121 78 Tryz.underlying121
 cases p with
 | none =>
  obtain rfl := g3 rfl
  obtain rfl : l = [] := List.eq_nil_of_length_eq_zero (by omega)
  clear g3 g4 h
  go_enter Tryz.func100, Tryz.ntmps100
  go_wp2_with fail
  go_ret
  exact ⟨_, _, _, rfl, OwnsR.nil _ _, Keeps.refl _ _⟩
 | some ad =>
  clear g3 g4
  have hlen : ∀ x : Con, (Con.cells x).length = 7 := fun _ => rfl
  have HX := Lib.hid (And.intro (h.alloc (.cells #[] 78)) h1)
  clear h1 h
  go_enter Tryz.func100, Tryz.ntmps100
  go_wp2_with (at_builtin; refine wpList_append_rows rfl _ _ 121 rfl w.heap.size 78 7 88 Con.cells _ Tryz.underlying121 Tryz.infoCon rfl (by decide) _ [] rfl (OwnsR.litD w) _ l rfl HX.out.1 (fun x _ => hlen x) HX.out.2 (by unfold maxLen; simp; omega) (by simp; omega) (by simp) ?_; intro v' w1 ho hg hb)
  obtain ⟨p', c', hv', _⟩ := (ho.sees hlen (by decide)).len
  subst hv'
  have hk := ((Keeps.refl (fun _ => False) w).alloc (.cells #[] 78)).grown hg (fun k hk hlt => own_newD w hk hlt)
  have H := Lib.hid (And.intro ho hk)
  clear ho hk hg hb
  go_ret
  exact ⟨_, _, _, rfl, by simpa using H.out.1, H.out.2⟩
end
section
open Go.RowKit
def FineD (w : World) (x : Con) : Prop := SeesV w x.sv x.set ∧ ∀ b, x.sv.ownBlock = some b → b < w.heap.size
theorem FineD.old {w w' : World} {x : Con} (h : FineD w x) (hk : Old w w') : FineD w' x := ⟨h.1.old hk, fun b hb => Nat.lt_of_lt_of_le (h.2 b hb) hk.size⟩
theorem FineD.keeps {w w' : World} {x : Con} {S : Nat → Prop} (h : FineD w x) (hk : Keeps S w w') (hS : ∀ b, b < w.heap.size → ¬ S b) : FineD w' x := ⟨h.1.keeps hk (fun b hb => hS b (h.2 b hb)), fun b hb => Nat.lt_of_lt_of_le (h.2 b hb) hk.size⟩
theorem SeesV.sv_one {w : World} {c : Con} (h : SeesV w c.sv c.set) : ∀ u ∈ Con.cells c, u.oneCell' = true := by
 obtain ⟨p, cp, e, _, _⟩ := h.len
 intro u hu
 simp only [Con.cells, List.mem_cons, List.not_mem_nil, or_false] at hu
 rcases hu with rfl | rfl | rfl | rfl | rfl | rfl | rfl <;> first | rfl | (rw [e]; rfl)
theorem one_arrD {l : List Value} (h : ∀ u ∈ l, u.oneCell' = true) : l.toArray.all (·.oneCell') = true := by
 simpa using h
theorem enters_order : ∀ args W, (callFunc 102 args).run Tryz.prog W = .ok (.enter 102 args) W := fun args W => by simp [go_sem, callFunc, Tryz.func102]; rfl
theorem enters_once1 : ∀ args W, (callFunc 104 args).run Tryz.prog W = .ok (.enter 104 args) W := fun args W => by simp [go_sem, callFunc, Tryz.func104]; rfl
theorem enters_cmp : ∀ args W, (callFunc 46 args).run Tryz.prog W = .ok (.enter 46 args) W := fun args W => by simp [go_sem, callFunc, Tryz.func46]; rfl
theorem sorted_any (v : Value) (L : List Con) (w : World) (h : SeesR w 7 Con.cells v L) (hf : ∀ x ∈ L, FineD w x) (hl : L.length ≤ 12) :
  Calls Tryz.prog 59 #[v] w fun e w' => ∃ p n c M, e = .returned (.slice p n c) ∧ M.Perm L ∧ OwnsR w' w.heap.size 78 7 Con.cells (.slice p n c) M ∧ Old w w' := by
 have C := Lib.hid (clone_listD v L w h (fun x hx => SeesV.sv_one (hf x hx).1) (by omega))
 have H := Lib.hid hf
 clear h hf
 obtain ⟨v0, hv0⟩ : ∃ v0, v = v0 := ⟨_, rfl⟩
 subst hv0
 go_enter Tryz.func59, Tryz.ntmps59
 go_wp2_with fail
 refine C.out.mono ?_
 rintro e w1 ⟨p, n, c, rfl, ho, hk⟩
 have hw : ∀ W, Keeps (fun k => (Value.slice p n c).ownBlock = some k) w1 W → Old w W := fun W hW => hk.then hW (fun i hi e => by have := (ho.block i e).1; omega)
 have CS := Lib.hid (sortf_con (.func (.func 102) #[] #[]) _ L w.heap.size w1 ho (fun x hx => one_arrD (SeesV.sv_one (H.out x hx).1)) hl ⟨_, #[], #[], rfl, enters_order, fun x hx y hy W hW => (order_any x y W ((H.out x hx).1.old (hw W hW)) ((H.out y hy).1.old (hw W hW))).mono (by rintro e W' ⟨⟨z, rfl, _⟩, k⟩; exact ⟨⟨z, rfl⟩, k⟩)⟩)
 have HW := Lib.hid hw
 clear ho hk hw
 go_wp2_with fail
 refine CS.out.mono ?_
 rintro e w2 ⟨rfl, M, hp, ho, hk⟩
 have Z := Lib.hid (And.intro hp (And.intro ho (HW.out _ hk)))
 clear hp ho hk
 go_wp2_with fail
 go_ret
 exact ⟨_, _, _, M, rfl, Z.out⟩
theorem once1_any (a a' : Con) (w : World) (h : SeesV w a.sv a.set) (h' : SeesV w a'.sv a'.set) : Calls Tryz.prog 104 #[.agg a.cells.toArray, .agg a'.cells.toArray] w fun e w' => ∃ z : Bool, e = .returned (.bool z) ∧ (z = true → a.plain = a'.plain) ∧ Old w w' := by
 have CO := Lib.hid (fun W (k : Old w W) => order_any a a' W (h.old k) (h'.old k))
 obtain ⟨nm, op, ⟨k, n, s, b⟩, sv, set⟩ := a
 obtain ⟨nm', op', ⟨k', n', s', b'⟩, sv', set'⟩ := a'
 obtain ⟨p, c, e1, _, _⟩ := h.len
 obtain ⟨p', c', e2, _, _⟩ := h'.len
 simp only at e1 e2
 subst e1 e2
 unfold Con.cells at CO ⊢
 simp only at CO ⊢
 clear h h'
 obtain ⟨W0, hW0⟩ : ∃ W0, (w.alloc (.cells #[.string nm, .int .i64 op, .int .i64 k, .int .i64 n, .string s, .bool b, .slice p set.length c] 78)).alloc (.cells #[.string nm', .int .i64 op', .int .i64 k', .int .i64 n', .string s', .bool b', .slice p' set'.length c'] 78) = W0 := ⟨_, rfl⟩
 have k0 : Old w W0 := by rw [← hW0]; exact ((Keeps.refl _ _).alloc _).alloc _
 obtain ⟨b0, b1⟩ := two_blocks w (.cells #[.string nm, .int .i64 op, .int .i64 k, .int .i64 n, .string s, .bool b, .slice p set.length c] 78) (.cells #[.string nm', .int .i64 op', .int .i64 k', .int .i64 n', .string s', .bool b', .slice p' set'.length c'] 78)
 rw [hW0] at b0 b1
 have q0 := blk7 b0
 have q1 := blk7 b1
 have K0 := Lib.hid k0
 clear k0 b0 b1
 go_enter Tryz.func104, Tryz.ntmps104
 go_wp2_with fail
 refine (CO.out _ K0.out).mono ?_
 rintro e w1 ⟨⟨z, rfl, hz⟩, hk⟩
 have Z := Lib.hid (And.intro hz (K0.out.trans hk))
 clear hz hk q0 q1
 go_wp2_with fail
 go_ret
 exact ⟨_, rfl, fun e => Z.out.1.1 (by simpa using e), Z.out.2⟩
theorem once_any (v : Value) (L : List Con) (w : World) (h : SeesR w 7 Con.cells v L) (hf : ∀ x ∈ L, FineD w x) (hl : L.length ≤ 1000) :
  Calls Tryz.prog 60 #[v] w fun e w' => ∃ p n c M, e = .returned (.slice p n c) ∧ (∀ y ∈ M, y ∈ L) ∧ (∀ x ∈ L, ∃ y ∈ M, y.plain = x.plain) ∧ M.length ≤ L.length ∧ OwnsR w' w.heap.size 78 7 Con.cells (.slice p n c) M ∧ Old w w' := by
 have C := Lib.hid (clone_listD v L w h (fun x hx => SeesV.sv_one (hf x hx).1) (by omega))
 have H := Lib.hid hf
 clear h hf
 go_enter Tryz.func60, Tryz.ntmps60
 go_wp2_with fail
 refine C.out.mono ?_
 rintro e w1 ⟨p, n, c, rfl, ho, hk⟩
 have hw : ∀ W, Keeps (fun k => (Value.slice p n c).ownBlock = some k) w1 W → Old w W := fun W hW => hk.then hW (fun i hi e => by have := (ho.block i e).1; omega)
 have CS := Lib.hid (compact_con (.func (.func 104) #[] #[]) _ L w.heap.size w1 ho (fun x hx => one_arrD (SeesV.sv_one (H.out x hx).1)) (by omega) Con.plain ⟨_, #[], #[], rfl, enters_once1, fun x hx y hy W hW => once1_any x y W ((H.out x hx).1.old (hw W hW)) ((H.out y hy).1.old (hw W hW))⟩)
 have HW := Lib.hid hw
 clear ho hk hw
 go_wp2_with fail
 refine CS.out.mono ?_
 rintro e w2 ⟨p2, n2, c2, M, rfl, ho, h1, h2, h3, _, hk⟩
 have Z := Lib.hid (And.intro h1 (And.intro h2 (And.intro h3 (And.intro ho (HW.out _ hk)))))
 clear h1 h2 h3 ho hk
 go_wp2_with fail
 go_ret
 exact ⟨_, _, _, M, rfl, Z.out⟩
end
section
open Go.RowKit
def NormC (c x : Con) : Prop := x.name = c.name ∧ x.op = c.op ∧ x.val = c.val ∧ ∀ u, u ∈ x.set ↔ u ∈ c.set
theorem NormC.met {c x : Con} (h : NormC c x) (l : List At) : metC l x.plain = metC l c.plain := by
 obtain ⟨h1, h2, h3, h4⟩ := h
 obtain ⟨n, o, v, s, t⟩ := x
 obtain ⟨n', o', v', s', t'⟩ := c
 simp only at h1 h2 h3 h4
 subst h1 h2 h3
 unfold metC
 simp only [Con.plain]
 congr 1
 funext u
 have hs : t.any (fun y => valCmp u y == 0) = t'.any (fun y => valCmp u y == 0) := by
  rw [Bool.eq_iff_iff, List.any_eq_true, List.any_eq_true]
  exact ⟨fun ⟨u, hu, e⟩ => ⟨u, (h4 u).1 hu, e⟩, fun ⟨u, hu, e⟩ => ⟨u, (h4 u).2 hu, e⟩⟩
 unfold asksV
 simp only
 rw [hs]
structure NormL (P N : List Con) : Prop where
 len : N.length ≤ P.length
 from' : ∀ x ∈ N, ∃ c ∈ P, NormC c x
 all : ∀ c ∈ P, ∃ x ∈ N, NormC c x
theorem NormL.matches' {P N : List Con} (h : NormL P N) (l : List At) : matchesV (N.map Con.plain) l = matchesV (P.map Con.plain) l := by
 unfold matchesV
 rw [Bool.eq_iff_iff, List.all_eq_true, List.all_eq_true]
 constructor
 ·intro k y hy
  obtain ⟨c, hc, rfl⟩ := List.mem_map.1 hy
  obtain ⟨x, hx, e⟩ := h.all c hc
  rw [← e.met]
  exact k _ (List.mem_map.2 ⟨x, hx, rfl⟩)
 ·intro k y hy
  obtain ⟨x, hx, rfl⟩ := List.mem_map.1 hy
  obtain ⟨c, hc, e⟩ := h.from' x hx
  rw [e.met]
  exact k _ (List.mem_map.2 ⟨c, hc, rfl⟩)
theorem NormC.of_plain {c x y : Con} (h : NormC c x) (e : y.plain = x.plain) : NormC c y := by
 obtain ⟨h1, h2, h3, h4⟩ := h
 obtain ⟨n, o, v, s, t⟩ := x
 obtain ⟨n', o', v', s', t'⟩ := y
 simp only [Con.plain, PCon.mk.injEq] at e
 obtain ⟨rfl, rfl, rfl, rfl⟩ := e
 exact ⟨h1, h2, h3, h4⟩
theorem NormL.perm {P L M : List Con} (h : NormL P L) (hp : M.Perm L) : NormL P M :=
 ⟨by rw [hp.length_eq]; exact h.len, fun x hx => h.from' x (hp.mem_iff.1 hx), fun c hc => by obtain ⟨x, hx, e⟩ := h.all c hc; exact ⟨x, hp.mem_iff.2 hx, e⟩⟩
theorem NormL.less {P L M : List Con} (h : NormL P L) (h1 : ∀ y ∈ M, y ∈ L) (h2 : ∀ x ∈ L, ∃ y ∈ M, y.plain = x.plain) (h3 : M.length ≤ L.length) : NormL P M :=
 ⟨Nat.le_trans h3 h.len, fun x hx => h.from' x (h1 x hx), fun c hc => by
  obtain ⟨x, hx, e⟩ := h.all c hc
  obtain ⟨y, hy, e2⟩ := h2 x hx
  exact ⟨y, hy, e.of_plain e2⟩⟩
theorem con_set6 {x : Con} (h : conOk x = true) : x.set.length ≤ 6 := by
 unfold conOk at h
 split at h
 ·simp only [Bool.and_eq_true, decide_eq_true_eq] at h; omega
 ·split at h
  ·simp only [Bool.and_eq_true, decide_eq_true_eq] at h; omega
  ·split at h
   ·simp only [Bool.and_eq_true, decide_eq_true_eq] at h; omega
   ·split at h
    ·simp only [Bool.and_eq_true, decide_eq_true_eq] at h; omega
    ·simp at h
def SetsB (W : World) (B : Nat) (L : List Con) : Prop := ∀ x ∈ L, OwnsV W B x.sv x.set
theorem SetsB.old {W W' : World} {B : Nat} {L : List Con} (h : SetsB W B L) (k : Old W W') : SetsB W' B L := fun x hx => (h x hx).old k
theorem OwnsV.fineD {W : World} {B : Nat} {x : Con} (h : OwnsV W B x.sv x.set) : FineD W x := ⟨h.sees len_valL (by decide), fun b hb => (h.block b hb).2⟩
def NormQ (P : List Con) (w wr : World) (v : Value) (L : List Con) : Prop := OwnsR wr w.heap.size 78 7 Con.cells v L ∧ NormL P L ∧ SetsB wr w.heap.size L ∧ Old w wr
def NormP (P : List Con) (w : World) (e : Ending) (w' : World) : Prop :=
 (predOk P = false ∧ e = .returned (.tuple #[.slice none 0 0, .int .i64 30]) ∧ Old w w') ∨
 (predOk P = true ∧ ∃ p n c N, e = .returned (.tuple #[.slice p n c, .int .i64 0]) ∧ NormQ P w w' (.slice p n c) N)
theorem run_setCell7 {w : World} {b : Nat} {t : TypeId} {a0 a1 a2 a3 a4 a5 a6 : Value} (h : w.heap[b]? = some (.cells #[a0, a1, a2, a3, a4, a5, a6] t (0, 0))) (v : Value) :
  (w.setCell ⟨b, 6, none⟩ v).heap[b]? = some (.cells #[a0, a1, a2, a3, a4, a5, v] t (0, 0)) := by
 have := putAt_heap [v] 6 w _ h
 exact this
theorem own_types {α β : Type} {w : World} {B B' k k' b : Nat} {E E' : TypeId} {enc : α → List Value} {enc' : β → List Value} {v v' : Value} {l : List α} {l' : List β} (h : OwnsR w B E k enc v l) (h' : OwnsR w B' E' k' enc' v' l') (hE : E ≠ E') (e : v.ownBlock = some b) : ¬ v'.ownBlock = some b := by
 intro e'
 rcases h.2 with ⟨rfl, _⟩ | ⟨g, cap, cur, rfl, _, hg, _⟩
 ·simp [Value.ownBlock] at e
 ·rcases h'.2 with ⟨rfl, _⟩ | ⟨g', cap', cur', rfl, _, hg', _⟩
  ·simp [Value.ownBlock] at e'
  ·simp only [Value.ownBlock, Option.some.injEq] at e e'
   subst e
   subst e'
   rw [hg] at hg'
   simp only [Option.some.injEq, Obj.cells.injEq] at hg'
   exact hE hg'.2.1
theorem normal_any (v : Value) (P : List Con) (w : World) (h : Cons w v P) : Calls Tryz.prog 22 #[v] w (NormP P w) := by
 have C := Lib.hid (pred_may_any v P w h)
 obtain ⟨pv, cv, rfl, _, _⟩ := h.1.len
 have H := Lib.hid h
 clear h
 obtain ⟨ok, hok⟩ : ∃ ok, predOk P = ok := ⟨_, rfl⟩
 rw [hok] at C
 have OK := Lib.hid hok
 clear hok
 go_enter Tryz.func22, Tryz.ntmps22
 go_wp2_with fail
 refine C.out.mono ?_
 rintro e w1 ⟨rfl, k1⟩
 have K1 := Lib.hid k1
 clear k1
 cases ok
 ·go_wp2_with fail
  go_ret2
  exact .inl ⟨OK.out, rfl, K1.out⟩
 ·have h6 : P.length ≤ 6 := by have := OK.out; unfold predOk at this; simp at this; exact this.1
  have ho6 : ∀ x ∈ P, x.set.length ≤ 6 := fun x hx => by have := OK.out; unfold predOk at this; simp only [Bool.and_eq_true, List.all_eq_true] at this; exact con_set6 (this.2 x hx)
  have H6 := Lib.hid ho6
  clear ho6
  go_wp2_with fail
  go_loopw [4, 15] (fun v4 v15 wr => ∃ (k : Nat) (L : List Con), k ≤ P.length ∧ v15 = .int .i64 k ∧ L.length = k ∧ OwnsR wr w.heap.size 78 7 Con.cells v4 L ∧ (∀ x ∈ L, ∃ c ∈ P, NormC c x) ∧ (∀ c ∈ P.take k, ∃ x ∈ L, NormC c x) ∧ SetsB wr w.heap.size L ∧ Old w wr) (fun _ v15 _ => P.length - (intOf v15).toNat)
  case atStart => exact ⟨0, [], Nat.zero_le _, rfl, rfl, OwnsR.nil _ _, (fun _ h => by cases h), (fun _ h => by simp at h), (fun _ h => by cases h), K1.out⟩
  case round =>
   obtain ⟨wx, hwx⟩ : ∃ wx : World, wx = wr := ⟨_, rfl⟩
   subst hwx
   obtain ⟨k, L, hk, rfl, hL, ho, hfr, hall, hsb, hold⟩ := hrel
   obtain ⟨p4, n4, c4, e4⟩ : ∃ p n c, u4 = .slice p n c := by obtain ⟨p, c, e, _⟩ := (ho.sees len_con (by decide)).len; exact ⟨_, _, _, e⟩
   by_cases hlt : k < P.length
   ·obtain ⟨b0, o0, c0, he0, _, _, hcell⟩ := (H.out.1.old hold).at (by omega)
    simp only [Value.slice.injEq, true_and] at he0
    obtain ⟨rfl, rfl⟩ := he0
    obtain ⟨x, hx⟩ : ∃ x, P[k]? = some x := ⟨_, List.getElem?_eq_getElem hlt⟩
    have hxm : x ∈ P := List.mem_of_getElem? hx
    have cell : ∀ i u, (Con.cells x)[i]? = some u → wx.cell? ⟨b0, o0 + k * 7 + i, none⟩ = some u := fun i u hu => hcell k x hx i u hu
    have x0 := cell 0 _ rfl
    have x1 := cell 1 _ rfl
    have x2 := cell 2 _ rfl
    have x3 := cell 3 _ rfl
    have x4 := cell 4 _ rfl
    have x5 := cell 5 _ rfl
    have x6 := cell 6 _ rfl
    simp only [Nat.add_zero] at x0
    have hsv : SeesV wx x.sv x.set := ((H.out.2 x hxm).old hold).1
    have hs6 := H6.out x hxm
    obtain ⟨nm, op, ⟨ck, cn, cs, cb⟩, sv, set⟩ := x
    obtain ⟨ps, cs3, e9, _, _⟩ := hsv.len
    simp only at e9 x0 x1 x2 x3 x4 x5 x6 hsv hs6
    subst e9
    obtain ⟨W7, hW7⟩ : ∃ W7, wx.alloc (.cells #[.string nm, .int .i64 op, .int .i64 ck, .int .i64 cn, .string cs, .bool cb, .slice ps set.length cs3] 78) = W7 := ⟨_, rfl⟩
    have o7 : Old wx W7 := by rw [← hW7]; exact (Keeps.refl _ _).alloc _
    have s7 : W7.heap.size = wx.heap.size + 1 := by rw [← hW7]; simp
    have b7 : W7.heap[wx.heap.size]? = some (.cells #[.string nm, .int .i64 op, .int .i64 ck, .int .i64 cn, .string cs, .bool cb, .slice ps set.length cs3] 78 (0, 0)) := by rw [← hW7]; exact heap_alloc_new _ _
    have q7 := blk7 b7
    have CC := Lib.hid (clone_valsD _ set W7 (hsv.old o7) (fun x _ u hu => by simp [valL] at hu; rcases hu with rfl | rfl | rfl | rfl <;> rfl) (by omega))
    have Q := Lib.hid (And.intro hL (And.intro ho (And.intro hfr (And.intro hall (And.intro hsb (And.intro hold (And.intro o7 (And.intro s7 (And.intro b7 hx)))))))))
    clear hL ho hfr hall hsb hold o7 b7 hx cell hcell hsv s7
    subst e4
    go_upto_region 7 with fail
    clear x0 x1 x2 x3 x4 x5 x6 hW7
    go_wp2_with fail
    refine CC.out.mono ?_
    rintro e w8 ⟨p8, n8, c8, rfl, ho8, k8⟩
    have hge : ∀ i, (Value.slice p8 n8 c8).ownBlock = some i → W7.heap.size ≤ i := fun i e => (ho8.block i e).1
    have CS := Lib.hid (sortf_val (.func (.func 46) #[] #[]) _ set W7.heap.size w8 ho8 (fun x _ => by simp [valL, Value.oneCell']) (by omega) ⟨_, #[], #[], rfl, enters_cmp, fun x _ y _ W _ => (val_cmp_any x y W).mono (by rintro e W' ⟨rfl, k⟩; exact ⟨⟨_, rfl⟩, k⟩)⟩)
    have A := Lib.hid (And.intro k8 hge)
    clear ho8 k8 hge CC q7
    go_wp2_with fail
    refine CS.out.mono ?_
    rintro e w9 ⟨rfl, M, hp, ho9, k9⟩
    have CP := Lib.hid (compact_val _ M W7.heap.size w9 ho9 (fun x _ => by simp [valL, Value.oneCell']) (by rw [hp.length_eq]; omega))
    have A2 := Lib.hid (And.intro hp k9)
    clear hp ho9 k9 CS
    go_wp2_with fail
    refine CP.out.mono ?_
    rintro e wa ⟨pa, na, ca, R, rfl, hoR, hR1, hR2, hR3, heq, ka⟩
    have kk : Keeps (fun i => (Value.slice p8 n8 c8).ownBlock = some i) w8 wa := A2.out.2.trans ka
    have oa : Old W7 wa := A.out.1.then kk (fun i hi e => by have := A.out.2 i e; omega)
    have ba := (oa.block _ (lt_of_heap Q.out.2.2.2.2.2.2.2.2.1) (fun f => f)).trans Q.out.2.2.2.2.2.2.2.2.1
    have qa := blk7 ba
    obtain ⟨Wb, hWb⟩ : ∃ Wb, wa.setCell ⟨wx.heap.size, 6, none⟩ (.slice pa na ca) = Wb := ⟨_, rfl⟩
    have bb : Wb.heap[wx.heap.size]? = some (.cells #[.string nm, .int .i64 op, .int .i64 ck, .int .i64 cn, .string cs, .bool cb, .slice pa na ca] 78 (0, 0)) := by rw [← hWb]; exact run_setCell7 ba (.slice pa na ca)
    have kb : Keeps (fun i => i = wx.heap.size) wa Wb := by rw [← hWb]; exact keepV _ _ _ _
    have qb := blk7 bb
    have oxb : Old wx Wb := (Q.out.2.2.2.2.2.2.1.trans oa).then kb (fun i hi e => by omega)
    have hoRb : OwnsV Wb w.heap.size (.slice pa na ca) R := by
     refine OwnsR.mono (hoR.keeps kb (fun b hb e => ?_)) (by have := Q.out.2.2.2.2.2.2.2.1; have := Q.out.2.2.2.2.2.1.size; omega)
     have := (hoR.block b hb).1
     have := Q.out.2.2.2.2.2.2.2.1
     omega
    have hmem : ∀ u, u ∈ R ↔ u ∈ set := fun u => by
     rw [← A2.out.1.mem_iff]
     exact ⟨hR1 u, fun hu => by obtain ⟨y, hy, e⟩ := hR2 u hu; rw [show u = y from e.symm]; exact hy⟩
    have Z := Lib.hid (And.intro hoRb (And.intro hmem oxb))
    have SN := Lib.hid (SeesR.new (k := 7) (enc := Con.cells) Wb 78 (0, 0) [⟨nm, op, ⟨ck, cn, cs, cb⟩, .slice pa na ca, R⟩] #[.string nm, .int .i64 op, .int .i64 ck, .int .i64 cn, .string cs, .bool cb, .slice pa na ca] (by simp [Con.cells]) (fun _ => rfl) (by unfold maxLen; simp))
    have HN := Lib.hid (show L.length + 1 ≤ maxLen ∧ (L.length + 1) * 88 ≤ 140737488355328 ∧ w.heap.size ≤ (Wb.alloc (.cells #[.string nm, .int .i64 op, .int .i64 ck, .int .i64 cn, .string cs, .bool cb, .slice pa na ca] 78)).heap.size from
     ⟨by have := Q.out.1; unfold maxLen; omega, by have := Q.out.1; omega, by have := (Q.out.2.2.2.2.2.1.trans oxb).size; simp; omega⟩)
    clear hoR hR1 hR2 hR3 heq ka kk oa ba kb hoRb hmem oxb A A2 CP bb
    go_wp2_with (at_builtin; go_loud (refine wpList_append_rows (P := Tryz.prog) rfl _ _ 121 rfl w.heap.size 78 7 88 Con.cells _ Tryz.underlying121 Tryz.infoCon rfl (by decide) (.slice p4 n4 c4) L rfl ((Q.out.2.1.old Z.out.2.2).alloc _) _ [⟨nm, op, ⟨ck, cn, cs, cb⟩, .slice pa na ca, R⟩] rfl SN.out (fun _ _ => rfl) (by simp [Con.cells, Value.oneCell']) HN.out.1 HN.out.2.1 HN.out.2.2 ?_; intro v7 w7 ho7 hg7 _))
    have og : Keeps (fun k => (Value.slice p4 n4 c4).ownBlock = some k) wx w7 := ((Z.out.2.2.alloc _).weaken (fun _ _ f => f.elim)).grown hg7 (fun k e hlt => e)
    have og2 : Old w w7 := Q.out.2.2.2.2.2.1.then og (fun i hi e => by have := Q.out.2.1.block i e; omega)
    have og3 : ∀ y : Con, OwnsV Wb w.heap.size y.sv y.set → OwnsV w7 w.heap.size y.sv y.set := fun y hy => by
     have h1 := hy.alloc (.cells #[.string nm, .int .i64 op, .int .i64 ck, .int .i64 cn, .string cs, .bool cb, .slice pa na ca] 78)
     refine h1.keeps ((Keeps.refl (fun k => (Value.slice p4 n4 c4).ownBlock = some k) _).grown hg7 (fun k e hlt => e)) (fun b hb e => ?_)
     exact own_types ((Q.out.2.1.old Z.out.2.2).alloc _) h1 (by decide) e hb
    have Y := Lib.hid (And.intro ho7 (And.intro og2 og3))
    clear ho7 hg7 og qa qb hWb og2 og3
    go_roundw
    case rel =>
     refine ⟨k + 1, L ++ [⟨nm, op, ⟨ck, cn, cs, cb⟩, .slice pa na ca, R⟩], by omega, by go_num, by simp [Q.out.1], Y.out.1, ?_, ?_, ?_, Y.out.2.1⟩
     ·intro y hy
      rcases List.mem_append.1 hy with hy | hy
      ·exact Q.out.2.2.1 y hy
      ·rw [List.mem_singleton] at hy
       subst hy
       exact ⟨_, hxm, rfl, rfl, rfl, Z.out.2.1⟩
     ·intro c hc
      rw [List.take_add_one, Q.out.2.2.2.2.2.2.2.2.2] at hc
      rcases List.mem_append.1 hc with hc | hc
      ·obtain ⟨y, hy, e⟩ := Q.out.2.2.2.1 c hc
       exact ⟨y, List.mem_append.2 (.inl hy), e⟩
      ·have : c = ⟨nm, op, ⟨ck, cn, cs, cb⟩, .slice ps set.length cs3, set⟩ := by simpa using hc
       subst this
       exact ⟨_, List.mem_append.2 (.inr (List.mem_singleton.2 rfl)), rfl, rfl, rfl, Z.out.2.1⟩
     ·intro y hy
      rcases List.mem_append.1 hy with hy | hy
      ·exact Y.out.2.2 y ((Q.out.2.2.2.2.1 y hy).old Z.out.2.2)
      ·rw [List.mem_singleton] at hy
       subst hy
       exact Y.out.2.2 _ Z.out.1
    case measure => simp [intOf]; omega
   ·have hkl : k = P.length := by omega
    subst hkl
    rw [List.take_of_length_le (Nat.le_refl _)] at hall
    have N0 : NormQ P w wx (.slice p4 n4 c4) L := by
     subst e4
     exact ⟨ho, ⟨by omega, hfr, hall⟩, hsb, hold⟩
    have HN := Lib.hid N0
    clear N0 ho hfr hall hsb hold hL
    subst e4
    obtain ⟨Wf, hWf⟩ : ∃ Wf, wx.alloc (.cells #[.func (.func 59) #[] #[], .func (.func 60) #[] #[]] 124) = Wf := ⟨_, rfl⟩
    have of : Old wx Wf := by rw [← hWf]; exact (Keeps.refl _ _).alloc _
    have bf : Wf.heap[wx.heap.size]? = some (.cells #[.func (.func 59) #[] #[], .func (.func 60) #[] #[]] 124 (0, 0)) := by rw [← hWf]; exact heap_alloc_new _ _
    have BF := Lib.hid (And.intro of bf)
    clear of bf
    go_wp2_with fail
    clear hWf
    go_loopw [4, 9, 34] (fun v4 v9 v34 wr => ∃ (i : Nat) (N : List Con), i ≤ 2 ∧ v34 = .int .i64 i ∧ NormQ P w wr v4 N ∧ Old Wf wr) (fun _ _ v34 _ => 2 - (intOf v34).toNat)
    case atStart => exact ⟨0, L, by omega, rfl, ⟨HN.out.1.old BF.out.1, HN.out.2.1, HN.out.2.2.1.old BF.out.1, HN.out.2.2.2.trans BF.out.1⟩, Keeps.refl _ _⟩
    case round =>
     obtain ⟨wz, hwz⟩ : ∃ wz : World, wz = wr := ⟨_, rfl⟩
     subst hwz
     obtain ⟨i, N, hi, rfl, hN, hz⟩ := hrel
     obtain ⟨p5, c5, e5, _, _⟩ := (hN.1.sees len_con (by decide)).len
     subst e5
     have hfin : ∀ x ∈ N, FineD wz x := fun x hx => OwnsV.fineD (hN.2.2.1 x hx)
     have hN6 := hN.2.1.len
     have hsee := hN.1.sees len_con (by decide)
     have bz := (hz.block _ (lt_of_heap BF.out.2) (fun f => f)).trans BF.out.2
     have sz := hN.2.2.2.size
     have Q := Lib.hid (And.intro hN hz)
     by_cases hi2 : i < 2
     ·have hcc : i = 0 ∨ i = 1 := by omega
      rcases hcc with rfl | rfl
      ·have f0 : wz.cell? ⟨wx.heap.size, 0, none⟩ = some (.func (.func 59) #[] #[]) := by simp [World.cell?, bz]
       have C1 := Lib.hid (sorted_any _ N wz hsee hfin (by omega))
       clear hN hz hfin hsee bz
       go_wp2_with fail
       refine C1.out.mono ?_
       rintro e w1 ⟨p, n, c, M, rfl, hp, ho, hk⟩
       have Z := Lib.hid (And.intro (show NormQ P w w1 (.slice p n c) M from ⟨ho.mono sz, Q.out.1.2.1.perm hp, fun x hx => (Q.out.1.2.2.1 x (hp.mem_iff.1 hx)).old hk, Q.out.1.2.2.2.trans hk⟩) (Q.out.2.trans hk))
       clear hp ho hk f0
       go_wp2_with fail
       go_roundw
       case rel => exact ⟨1, M, by omega, by go_num, Z.out.1, Z.out.2⟩
       case measure => simp [intOf]
      ·have f0 : wz.cell? ⟨wx.heap.size, 1, none⟩ = some (.func (.func 60) #[] #[]) := by simp [World.cell?, bz]
       have C1 := Lib.hid (once_any _ N wz hsee hfin (by omega))
       clear hN hz hfin hsee bz
       go_wp2_with fail
       refine C1.out.mono ?_
       rintro e w1 ⟨p, n, c, M, rfl, h1, h2, h3, ho, hk⟩
       have Z := Lib.hid (And.intro (show NormQ P w w1 (.slice p n c) M from ⟨ho.mono sz, Q.out.1.2.1.less h1 h2 h3, fun x hx => (Q.out.1.2.2.1 x (h1 x hx)).old hk, Q.out.1.2.2.2.trans hk⟩) (Q.out.2.trans hk))
       clear h1 h2 h3 ho hk f0
       go_wp2_with fail
       go_roundw
       case rel => exact ⟨2, M, by omega, by go_num, Z.out.1, Z.out.2⟩
       case measure => simp [intOf]
     ·have hii : i = 2 := by omega
      subst hii
      clear hN hz hfin hsee bz
      go_wp2_with fail
      go_ret2
      exact .inr ⟨OK.out, _, _, _, N, rfl, Q.out.1⟩
end
section
open Go.RowKit
structure Pt where
 id : Nat
 c : Con
def Pt.cells (p : Pt) : List Value := .int .i64 (p.id : Int) :: Con.cells p.c
theorem Pt.len (x : Pt) : (Pt.cells x).length = 8 := rfl
theorem Tryz.infoPt : (Tryz.prog.info? 81).map (fun i => (i.zero, i.size, i.bytes)) = some (some (.agg #[.int .i64 0, .string ⟨#[]⟩, .int .i64 0, .int .i64 0, .int .i64 0, .string ⟨#[]⟩, .bool false, .slice none 0 0]), 8, 96) := by kernel_rfl
def updP (G : ByteArray → Value × List Pt) (s : ByteArray) (r : Value × List Pt) : ByteArray → Value × List Pt := fun t => if t.toList = s.toList then r else G t
structure MxS (w0 : World) (xb pb qb Kn K : Nat) (pr : Nat → Option Value) (G : ByteArray → Value × List Pt) (W : World) : Prop where
 old : Old w0 W
 x : W.heap[xb]? = some (.cells #[.map (some pb), .map (some qb)] 56 (0, 0))
 xlo : w0.heap.size ≤ xb
 plo : w0.heap.size ≤ pb
 qlo : w0.heap.size ≤ qb
 ne : pb ≠ qb
 p : ∃ f, MapF (.int .i64) W pb Kn f ∧ ∀ z : Int, f (.int .i64 z) = if 0 ≤ z then pr z.toNat else none
 q : ∃ n f, MapF .string W qb n f ∧ ∀ s : ByteArray, (f (.string s)).getD (.slice none 0 0) = (G s).1
 rows : ∀ s, OwnsR W w0.heap.size 81 8 Pt.cells (G s).1 (G s).2
 len : ∀ s, (G s).2.length ≤ K
 apart : ∀ s t b, s ≠ t → (G s).1.ownBlock = some b → (G t).1.ownBlock ≠ some b
 sets : ∀ s, ∀ y ∈ (G s).2, OwnsV W w0.heap.size y.c.sv y.c.set
section
variable {w0 W W' : World} {xb pb qb Kn K : Nat} {pr : Nat → Option Value} {G : ByteArray → Value × List Pt}
theorem MxS.to (h : MxS w0 xb pb qb Kn K pr G W) (k : Old W W') : MxS w0 xb pb qb Kn K pr G W' := by
 obtain ⟨f1, m1, e1⟩ := h.p
 obtain ⟨n2, f2, m2, e2⟩ := h.q
 exact ⟨h.old.trans k, (k.block _ (lt_of_heap h.x) (fun f => f)).trans h.x, h.xlo, h.plo, h.qlo, h.ne, ⟨f1, m1.old k, e1⟩, ⟨n2, f2, m2.old k, e2⟩, fun s => (h.rows s).old k, h.len, h.apart, fun s y hy => (h.sets s y hy).old k⟩
theorem MxS.xe (h : MxS w0 xb pb qb Kn K pr G W) : xb ≠ pb ∧ xb ≠ qb := by
 obtain ⟨_, m1, _⟩ := h.p
 obtain ⟨_, _, m2, _⟩ := h.q
 obtain ⟨_, _, h1⟩ := m1.heap
 obtain ⟨_, _, h2⟩ := m2.heap
 constructor
 ·rintro rfl
  rw [h.x] at h1
  cases h1
 ·rintro rfl
  rw [h.x] at h2
  cases h2
theorem MxS.putPred (h : MxS w0 xb pb qb Kn K pr G W) (n : Nat) (v : Value) :
  ∃ W', (Instr.mapUpdate 53 (.map (some pb)) (.int .i64 (n : Int)) v).run Tryz.prog W = .ok () W' ∧ MxS w0 xb pb qb (Kn + 1) K (fun k => if k = n then some v else pr k) G W' ∧ Keeps (fun i => i = pb) W W' := by
 obtain ⟨f1, m1, e1⟩ := h.p
 obtain ⟨n2, f2, m2, e2⟩ := h.q
 obtain ⟨es1, c1, he1⟩ := m1.heap
 obtain ⟨W', hrun, hk, _, hput⟩ := m1.put (P := Tryz.prog) (k := .int .i64 (n : Int)) Tryz.underlying53 Tryz.underlying3 rfl v
 have xe := h.xe
 refine ⟨W', hrun, ⟨h.old.then hk (fun i hi e => by have := h.plo; omega), (hk.block _ (lt_of_heap h.x) xe.1).trans h.x, h.xlo, h.plo, h.qlo, h.ne, ?_, ⟨n2, f2, m2.keeps hk (fun e => h.ne e.symm), e2⟩, fun s => (h.rows s).keeps hk (fun b hb e => own_map (h.rows s) he1 b hb e), h.len, h.apart, fun s y hy => (h.sets s y hy).keeps hk (fun b hb e => own_map (h.sets s y hy) he1 b hb e)⟩, hk⟩
 classical
 refine ⟨fun u => if u = .int .i64 (n : Int) then some v else f1 u, hput _ ⟨by simp, fun k' _ hne => by simp [hne]⟩, fun z => ?_⟩
 by_cases hzn : z = (n : Int)
 ·subst hzn
  simp
 ·have h1 : ¬ (Value.int .i64 z = Value.int .i64 (n : Int)) := by
   intro e
   simp only [Value.int.injEq, true_and] at e
   exact hzn e
  simp only [if_neg h1]
  rw [e1 z]
  split
  ·have h2 : ¬ z.toNat = n := by omega
   rw [if_neg h2]
  ·rfl
theorem MxS.putRow (h : MxS w0 xb pb qb Kn K pr G W) {W1 : World} (s : ByteArray) (v' : Value) (L' : List Pt) (hk1 : Keeps (fun k => (G s).1.ownBlock = some k) W W1) (ho : OwnsR W1 w0.heap.size 81 8 Pt.cells v' L') (hlen : L'.length ≤ K + 1) (hb : v'.ownBlock = (G s).1.ownBlock ∨ ∃ b, v'.ownBlock = some b ∧ W.heap.size ≤ b) (hset : ∀ y ∈ L', OwnsV W1 w0.heap.size y.c.sv y.c.set) :
  ∃ W', (Instr.mapUpdate 54 (.map (some qb)) (.string s) v').run Tryz.prog W1 = .ok () W' ∧ MxS w0 xb pb qb Kn (K + 1) pr (updP G s (v', L')) W' ∧ Keeps (fun i => i = qb) W1 W' := by
 obtain ⟨f1, m1, e1⟩ := h.p
 obtain ⟨n2, f2, m2, e2⟩ := h.q
 obtain ⟨es1, c1, he1⟩ := m1.heap
 obtain ⟨es2, c2, he2⟩ := m2.heap
 have hme : ¬ (G s).1.ownBlock = some pb := fun e => own_map (h.rows s) he1 _ e rfl
 have hmn : ¬ (G s).1.ownBlock = some qb := fun e => own_map (h.rows s) he2 _ e rfl
 have hmx : ¬ (G s).1.ownBlock = some xb := (h.rows s).neE h.x (by decide)
 have m2' := m2.keeps hk1 hmn
 obtain ⟨W', hrun, hk, _, hput⟩ := m2'.put (P := Tryz.prog) (k := .string s) Tryz.underlying54 Tryz.underlying9 trivial v'
 have xe := h.xe
 have he2' := (hk1.block _ (lt_of_heap he2) hmn).trans he2
 have xw := (hk1.block _ (lt_of_heap h.x) hmx).trans h.x
 refine ⟨W', hrun, ⟨(h.old.then hk1 (fun i hi e => by have := ((h.rows s).block i e).1; omega)).then hk (fun i hi e => by have := h.qlo; omega), (hk.block _ (lt_of_heap xw) xe.2).trans xw, h.xlo, h.plo, h.qlo, h.ne,
  ⟨f1, (m1.keeps hk1 hme).keeps hk h.ne, e1⟩, ?_, fun t => ?_, fun t => ?_, fun t u b htu h1 h2 => ?_, fun t y hy => ?_⟩, hk⟩
 ·classical
  refine ⟨n2 + 1, fun v => if v = .string s then some v' else f2 v, hput _ ⟨by simp, fun k' _ hne => by simp [hne]⟩, fun t => ?_⟩
  unfold updP
  by_cases hts : t.toList = s.toList
  ·have := toList_inj hts
   subst this
   simp
  ·have : ¬ (Value.string t = Value.string s) := by
    intro e
    simp only [Value.string.injEq] at e
    exact hts (by rw [e])
   simp only [if_neg this, if_neg hts]
   exact e2 t
 ·unfold updP
  split
  ·exact ho.keeps hk (fun b hb e => own_map ho he2' b hb e)
  ·next hts =>
   have hne : s ≠ t := fun e => hts (by rw [e])
   have r1 := (h.rows t).keeps hk1 (fun b hb e => h.apart s t b hne e hb)
   exact r1.keeps hk (fun b hb e => own_map r1 he2' b hb e)
 ·unfold updP
  split
  ·exact hlen
  ·have := h.len t; omega
 ·unfold updP at h1 h2
  split at h1
  ·next e1 =>
   split at h2
   ·next e2 => exact htu (toList_inj (e1.trans e2.symm))
   ·next e2 =>
    have hne : s ≠ u := fun e => e2 (by rw [e])
    rcases hb with hb | ⟨c, hc, hlo⟩
    ·rw [hb] at h1
     exact h.apart s u b hne h1 h2
    ·have hbc : c = b := by
      have h1' : v'.ownBlock = some b := h1
      rw [hc] at h1'
      exact Option.some.inj h1'
     have := ((h.rows u).block b h2).2
     omega
  ·next e1 =>
   split at h2
   ·next e2 =>
    have hne : s ≠ t := fun e => e1 (by rw [e])
    rcases hb with hb | ⟨c, hc, hlo⟩
    ·have h2' : v'.ownBlock = some b := h2
     rw [hb] at h2'
     exact h.apart s t b hne h2' h1
    ·have hbc : c = b := by
      have h2' : v'.ownBlock = some b := h2
      rw [hc] at h2'
      exact Option.some.inj h2'
     have := ((h.rows t).block b h1).2
     omega
   ·exact h.apart t u b htu h1 h2
 ·unfold updP at hy
  split at hy
  ·have r1 := hset y hy
   exact r1.keeps hk (fun b hb e => own_map r1 he2' b hb e)
  ·have r1 := (h.sets t y hy).keeps hk1 (fun b hb e => own_types (h.rows s) (h.sets t y hy) (by decide) e hb)
   exact r1.keeps hk (fun b hb e => own_map r1 he2' b hb e)
theorem MxS.look (h : MxS w0 xb pb qb Kn K pr G W) (s : ByteArray) : (Instr.lookup 54 (.map (some qb)) (.string s) false).run Tryz.prog W = .ok (G s).1 W := by
 obtain ⟨n2, f2, m2, e2⟩ := h.q
 have := m2.get (P := Tryz.prog) (k := .string s) (z := .slice none 0 0) Tryz.underlying54 Tryz.underlying9 trivial (by simp [go_sem])
 rwa [e2 s] at this
theorem MxS.lookP2 (h : MxS w0 xb pb qb Kn K pr G W) (k : Nat) : (Instr.lookup 53 (.map (some pb)) (.int .i64 (k : Int)) true).run Tryz.prog W = .ok (.tuple #[(pr k).getD (.slice none 0 0), .bool (pr k).isSome]) W := by
 obtain ⟨f1, m1, e1⟩ := h.p
 have := m1.get2 (P := Tryz.prog) (k := .int .i64 (k : Int)) (z := .slice none 0 0) Tryz.underlying53 Tryz.underlying3 rfl (by simp [go_sem])
 rw [e1 k, if_pos (by omega), Int.toNat_natCast] at this
 exact this
theorem MxS.lookP (h : MxS w0 xb pb qb Kn K pr G W) (k : Nat) : (Instr.lookup 53 (.map (some pb)) (.int .i64 (k : Int)) false).run Tryz.prog W = .ok ((pr k).getD (.slice none 0 0)) W := by
 obtain ⟨f1, m1, e1⟩ := h.p
 have := m1.get (P := Tryz.prog) (k := .int .i64 (k : Int)) (z := .slice none 0 0) Tryz.underlying53 Tryz.underlying3 rfl (by simp [go_sem])
 rw [e1 k, if_pos (by omega), Int.toNat_natCast] at this
 exact this
end
theorem mnew_any (w : World) : Calls Tryz.prog 5 #[] w fun e w' => ∃ xb pb qb, e = .returned (.pointer (some ⟨xb, 0, none⟩)) ∧ MxS w xb pb qb 0 0 (fun _ => none) (fun _ => (.slice none 0 0, [])) w' := by
 obtain ⟨W3, hW3⟩ : ∃ W3, ((w.alloc (.map #[] 0)).alloc (.map #[] 0)).alloc (.cells #[.map (some w.heap.size), .map (some (w.heap.size + 1))] 56) = W3 := ⟨_, rfl⟩
 have o3 : Old w W3 := by rw [← hW3]; exact (((Keeps.refl _ _).alloc _).alloc _).alloc _
 obtain ⟨b1, b2, b3, _⟩ := three_blocks w (.map #[] 0) (.map #[] 0) (.cells #[.map (some w.heap.size), .map (some (w.heap.size + 1))] 56)
 rw [hW3] at b1 b2 b3
 have m1 : MapF (.int .i64) W3 w.heap.size 0 (fun _ => none) := ⟨#[], 0, b1, MapKept.stamped_empty 0, by simp, by simp, fun k v _ => by simp⟩
 have m2 : MapF .string W3 (w.heap.size + 1) 0 (fun _ => none) := ⟨#[], 0, b2, MapKept.stamped_empty 0, by simp, by simp, fun k v _ => by simp⟩
 have Z := Lib.hid (show MxS w (w.heap.size + 1 + 1) w.heap.size (w.heap.size + 1) 0 0 (fun _ => none) (fun _ => (.slice none 0 0, [])) W3 from
  ⟨o3, b3, by omega, by omega, by omega, by omega, ⟨_, m1, fun _ => by simp⟩, ⟨0, _, m2, fun _ => rfl⟩, fun _ => OwnsR.nil _ _, fun _ => Nat.le_refl _, fun s t b _ h => by simp [Value.ownBlock] at h, fun s y h => by simp at h⟩)
 clear o3 b1 b2 b3 m1 m2
 have k1 : ∀ W, (Instr.makeMap 53 none).run Tryz.prog W = .ok (.map (some W.heap.size)) (W.alloc (.map #[] 0)) := fun W => by kernel_rfl
 have k2 : ∀ W, (Instr.makeMap 54 none).run Tryz.prog W = .ok (.map (some W.heap.size)) (W.alloc (.map #[] 0)) := fun W => by kernel_rfl
 go_enter Tryz.func5, Tryz.ntmps5
 go_wp2_with fail
 try rw [hW3]
 go_ret
 exact ⟨_, _, _, rfl, Z.out⟩
theorem eql_map53 (m : Nat) (w : World) : (binOp .eql 53 (.map (some m)) (.map none)).run Tryz.prog w = .ok (.bool false) w := by
 simp only [binOp]
 simp [Op.equal, Op.maxDepth, run_equalIn_map_nil w 9999 53 3 39 (some m) Tryz.underlying53]
end
end Go.Proofs.YtehmlaplodjenaaGreat
