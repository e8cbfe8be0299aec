/- DERIVED. Chapter 20: Out. -/
import Derived.Test.YtllnlimbfoingaaY06
namespace Go.Proofs.Ytllnlimbfoingaa
open Go.RowKit Go.Conc

section
variable {α : Type} {w w' : World} {B : Nat} {E : TypeId} {k : Nat} {enc : α → List Value} {nv : α → Value} {fine : α → World → Prop} {v : Value} {l : List α}
/-- rows of the call's own (from block B on), each with a slice of its own that is fine -/
def OwnN (w : World) (B : Nat) (E : TypeId) (k : Nat) (enc : α → List Value) (nv : α → Value) (fine : α → World → Prop) (v : Value) (l : List α) : Prop :=
 OwnsR w B E k enc v l ∧ ∀ x ∈ l, fine x w ∧ ∀ b, (nv x).ownBlock = some b → B ≤ b ∧ b < w.heap.size ∧ v.ownBlock ≠ some b
theorem OwnN.nil (w : World) (B : Nat) : OwnN w B E k enc nv fine (.slice none 0 0) [] := ⟨OwnsR.nil w B, fun _ h => by cases h⟩
def FineK (nv : α → Value) (fine : α → World → Prop) : Prop := ∀ (S : Nat → Prop) (x : α) (w w' : World), fine x w → Keeps S w w' → (∀ b, (nv x).ownBlock = some b → ¬ S b) → fine x w'
theorem OwnN.keeps {S : Nat → Prop} (hf : FineK nv fine) (h : OwnN w B E k enc nv fine v l) (hk : Keeps S w w') (hS : ∀ b, B ≤ b → b < w.heap.size → ¬ S b) : OwnN w' B E k enc nv fine v l :=
 ⟨h.1.keeps hk (fun b hb => hS b (h.1.block b hb).1 (h.1.block b hb).2), fun x hx =>
  ⟨hf S x w w' (h.2 x hx).1 hk (fun b hb => hS b ((h.2 x hx).2 b hb).1 ((h.2 x hx).2 b hb).2.1), fun b hb =>
   ⟨((h.2 x hx).2 b hb).1, Nat.lt_of_lt_of_le ((h.2 x hx).2 b hb).2.1 hk.size, ((h.2 x hx).2 b hb).2.2⟩⟩⟩
theorem OwnN.snoc {v' : Value} {y : α} (hf : FineK nv fine) (h : OwnN w B E k enc nv fine v l) (hy : fine y w) (hb : ∀ b, (nv y).ownBlock = some b → B ≤ b ∧ b < w.heap.size ∧ v.ownBlock ≠ some b)
  (ho : OwnsR w' B E k enc v' (l ++ [y])) (hg : w.grownBy w' v.ownBlock) (hv : v'.ownBlock = v.ownBlock ∨ v'.ownBlock = some w.heap.size) : OwnN w' B E k enc nv fine v' (l ++ [y]) := by
 have hk : Keeps (fun b => v.ownBlock = some b) w w' := (Keeps.refl _ w).grown hg (fun b hb _ => hb)
 have key : ∀ x, fine x w → (∀ b, (nv x).ownBlock = some b → B ≤ b ∧ b < w.heap.size ∧ v.ownBlock ≠ some b) → fine x w' ∧ ∀ b, (nv x).ownBlock = some b → B ≤ b ∧ b < w'.heap.size ∧ v'.ownBlock ≠ some b := by
  intro x hx hxb
  refine ⟨hf _ x w w' hx hk (fun b hb e => (hxb b hb).2.2 e), fun b hb => ⟨(hxb b hb).1, Nat.lt_of_lt_of_le (hxb b hb).2.1 hk.size, fun e => ?_⟩⟩
  rcases hv with hv | hv
  ·exact (hxb b hb).2.2 (hv ▸ e)
  ·rw [hv] at e
   have : b = w.heap.size := by simpa using e.symm
   have := (hxb b hb).2.1
   omega
 refine ⟨ho, fun x hx => ?_⟩
 rcases List.mem_append.1 hx with hx | hx
 ·exact key x (h.2 x hx).1 (h.2 x hx).2
 ·obtain rfl : x = y := by simpa using hx
  exact key x hy hb
end
theorem Try.infoPk : (Try.prog.info? 37).map (fun i => (i.zero, i.size, i.bytes)) = some (some (.agg #[.int .u64 0, .int .u64 0, .int .u64 0, .int .u64 0, .slice none 0 0]), 5, 56) := by kernel_rfl
/-- the packets that go out: in memory of the call's own, each with data of its own -/
def Outs (w : World) (B : Nat) (v : Value) (X : List Pv) : Prop :=
 OwnN w B 37 5 Pv.cells Pv.v (fun x w => Owns w B x.v x.d) v X ∧ X.Pairwise (fun x y => ∀ b, x.v.ownBlock = some b → y.v.ownBlock ≠ some b)
theorem fineO (B : Nat) : FineK Pv.v (fun (x : Pv) (w : World) => Owns w B x.v x.d) := fun _ _ _ _ h hk hS => h.keeps hk hS
theorem Outs.nil (w : World) (B : Nat) : Outs w B (.slice none 0 0) [] := ⟨OwnN.nil w B, .nil⟩
theorem Outs.keeps {S : Nat → Prop} {w w' : World} {B : Nat} {v : Value} {X : List Pv} (h : Outs w B v X) (hk : Keeps S w w') (hS : ∀ b, B ≤ b → b < w.heap.size → ¬ S b) : Outs w' B v X := ⟨h.1.keeps (fineO B) hk hS, h.2⟩
theorem Outs.old {w w' : World} {B : Nat} {v : Value} {X : List Pv} (h : Outs w B v X) (hk : Old w w') : Outs w' B v X := h.keeps hk (fun _ _ _ f => f)
theorem Outs.len {w : World} {B : Nat} {v : Value} {X : List Pv} (h : Outs w B v X) : ∃ p c, v = .slice p X.length c ∧ X.length ≤ c ∧ c ≤ maxLen := (h.1.1.sees (fun _ => rfl) (by decide)).len
/-- one more: its data new in w -/
theorem Outs.snoc {w0 w w' : World} {B : Nat} {v v' : Value} {X : List Pv} {y : Pv} (h0 : Outs w0 B v X) (hk : Old w0 w) (hB : B ≤ w0.heap.size) (hy : Owns w w0.heap.size y.v y.d) (ho : OwnsR w' B 37 5 Pv.cells v' (X ++ [y])) (hg : w.grownBy w' v.ownBlock) (hv : v'.ownBlock = v.ownBlock ∨ v'.ownBlock = some w.heap.size) : Outs w' B v' (X ++ [y]) := by
 refine ⟨(h0.1.keeps (fineO B) hk (fun _ _ _ f => f)).snoc (fineO B) (hy.mono hB) (fun b hb => ⟨Nat.le_trans hB (hy.block b hb).1, (hy.block b hb).2, fun e => ?_⟩) ho hg hv, ?_⟩
 ·have h1 := (h0.1.1.block b e).2
  have h2 := (hy.block b hb).1
  omega
 ·rw [List.pairwise_append]
  refine ⟨h0.2, List.pairwise_singleton _ _, fun x hx z hz b hb e => ?_⟩
  obtain rfl : z = y := by simpa using hz
  have h1 := ((h0.1.2 x hx).2 b hb).2.1
  have h2 := (hy.block b e).1
  omega
/-- [lo:] of rows, as an equation on the run -/
theorem SeesR.from {α : Type} {w : World} {k : Nat} {enc : α → List Value} {p : Option Addr} {n c : Nat} {l : List α} {T E : TypeId} (h : SeesR w k enc (.slice p n c) l) (lo : Nat) (h1 : lo ≤ l.length) (ht : Try.prog.underlying T = some (.slice E)) (hs : (Try.prog.info? E).map (·.size) = some k) (kd : IntKind) (x : Int) (hx : x = (lo : Int)) :
  ∃ p' c', (∀ W, (Instr.slice T (.slice p n c) (some (.int kd x)) none none).run Try.prog W = .ok (.slice p' (l.length - lo) c') W) ∧ (∀ w2, SeesR w2 k enc (.slice p n c) l → SeesR w2 k enc (.slice p' (l.length - lo) c') (l.drop lo)) := by
 obtain ⟨p0, c0, he, _, _⟩ := h.len
 simp only [Value.slice.injEq] at he
 obtain ⟨rfl, rfl, rfl⟩ := he
 obtain ⟨p', c', e⟩ : ∃ p' c', Go.sliced p lo l.length c k = .slice p' (l.length - lo) c' := ⟨_, _, rfl⟩
 refine ⟨p', c', fun W => ?_, fun w2 h2 => ?_⟩
 ·subst hx
  have hlo : (lo : Int) ≤ (l.length : Int) := by omega
  cases hi : Try.prog.info? E with
  | none => simp [hi] at hs
  | some i =>
   have hsz : i.size = k := by simpa [hi] using hs
   rw [← e]
   simp [go_sem, ht, hi, hsz, hlo, sizeOf, typeInfo]
 ·have := (h2.sliced lo l.length h1 (Nat.le_refl _)).1
  rw [List.take_of_length_le (Nat.le_refl _), e] at this
  exact this

def Lv.within (L' L : Lv) : Prop := ∀ W, L.reads W → L'.reads W
/-- what Out gives -/
def OutP (lb : Nat) (L : Lv) (w : World) (e : Ending) (w' : World) : Prop :=
 ∃ (L' : Lv) (X : List Pv) (vo : Value), e = .returned vo ∧ Outs w' w.heap.size vo X ∧ X.map Pv.plain = L.plain.outs ∧ LkM w' lb L' ∧ L'.plain = L.plain.out ∧ L'.c = L.c ∧ L'.within L ∧ Keeps (fun j => j = lb ∨ j = L.c) w w'
/-- behind the first loop -/
def OutA (lb : Nat) (L : Lv) (w : World) (v : Value) (wc : World) : Prop :=
 ∃ X : List Pv, Outs wc w.heap.size v X ∧ X.map Pv.plain = (if L.again = true then L.F else []).map (fun f => L.plain.pkt f.plain) ∧ LkM wc lb L ∧ Keeps (fun j => j = L.c) w wc
/-- in the first loop -/
def OutL (lb : Nat) (L : Lv) (w w1 : World) (k : Nat) (v : Value) (wm : World) : Prop :=
 ∃ X : List Pv, Outs wm w1.heap.size v X ∧ X.map Pv.plain = (L.F.take k).map (fun f => L.plain.pkt f.plain) ∧ LkM wm lb { L with F := L.F.take k } ∧ Keeps (fun j => j = L.c) w wm ∧ Keeps (fun j => j = L.c) w1 wm
/-- the first k that wait, as they fly -/
def frs (last : Nat) (W : List Bv) (k : Nat) : List Fl := (W.take k).zipIdx.map fun x => ⟨last + 1 + x.2, x.1.1, x.1.2⟩
theorem frs_len (last : Nat) (W : List Bv) (k : Nat) (h : k ≤ W.length) : (frs last W k).length = k := by simp [frs]; omega
theorem frs_succ (last : Nat) (W : List Bv) (k : Nat) (x : Bv) (h : W[k]? = some x) : frs last W (k + 1) = frs last W k ++ [⟨last + k + 1, x.1, x.2⟩] := by
 have hlt := (List.getElem?_eq_some_iff.1 h).1
 have e : W[k] = x := (List.getElem?_eq_some_iff.1 h).2
 unfold frs
 rw [List.take_succ_eq_append_getElem hlt, List.zipIdx_append, List.map_append, e]
 have : last + 1 + k = last + k + 1 := by omega
 simp [Nat.min_eq_left (Nat.le_of_lt hlt), this]
theorem frs_plain (L : Lv) : (frs L.last L.W L.plain.room).map Fl.plain = L.plain.fresh := by
 unfold frs En.fresh
 show _ = (((L.W.map (·.2)).take L.plain.room).zipIdx).map _
 rw [← List.map_take, List.zipIdx_map, List.map_map, List.map_map]
 apply List.map_congr_left
 intro x _
 rfl
theorem outs_eq (L : Lv) (k : Nat) (hk : k = L.plain.room) (l : List Pk) (hl : l = (if L.again = true then L.F else []).map (fun f => L.plain.pkt f.plain) ++ (frs L.last L.W k).map (fun f => L.plain.pkt f.plain)) :
  L.plain.outs = if (l.isEmpty && L.owes) = true then [L.plain.pkt (0, [])] else l := by
 have e : l = ((if L.plain.again then L.plain.win else []) ++ L.plain.fresh).map L.plain.pkt := by
  rw [hl, hk, ← frs_plain, List.map_append, List.map_map]
  congr 1
  show _ = List.map L.plain.pkt (if L.again = true then L.F.map Fl.plain else [])
  split
  ·rw [List.map_map]; rfl
  ·rfl
 unfold En.outs
 rw [← e]
 rfl
theorem room_eq (L : Lv) (k : Nat) (h1 : k ≤ L.W.length) (h2 : L.F.length + k ≤ 8) (h : k = L.W.length ∨ L.F.length + k = 8) : k = L.plain.room := by
 unfold En.room
 show k = min (8 - (L.F.map Fl.plain).length) (L.W.map (·.2)).length
 simp only [List.length_map]
 omega
theorem outs_plain (L : Lv) (k : Nat) (hk : k = L.plain.room) (wv : Value) : ({ L with wv := wv, W := L.W.drop k, F := L.F ++ frs L.last L.W k, last := L.last + k, again := false, owes := false } : Lv).plain = L.plain.out := by
 unfold En.out
 rw [← frs_plain, ← hk]
 unfold Lv.plain
 simp only [List.map_append, List.map_drop]
/-- in the second loop: k told, m in the window -/
def OutG (lb : Nat) (L : Lv) (w : World) (k m : Nat) (v : Value) (wm : World) : Prop :=
 ∃ (X : List Pv) (wv : Value), Outs wm w.heap.size v X ∧ X.map Pv.plain = (if L.again = true then L.F else []).map (fun f => L.plain.pkt f.plain) ++ (frs L.last L.W k).map (fun f => L.plain.pkt f.plain) ∧
  LkM wm lb { L with wv := wv, W := L.W.drop k, F := L.F ++ frs L.last L.W m, last := L.last + k } ∧ (∀ W, SeesR W 1 bvL L.wv L.W → SeesR W 1 bvL wv (L.W.drop k)) ∧ Keeps (fun j => j = lb ∨ j = L.c) w wm
theorem mem_frs {last : Nat} {W : List Bv} {k : Nat} {f : Fl} (h : f ∈ frs last W k) : ∃ x ∈ W, f.v = x.1 ∧ f.d = x.2 := by
 unfold frs at h
 obtain ⟨y, hy, rfl⟩ := List.mem_map.1 h
 have hm : y.1 ∈ (W.take k).zipIdx.map Prod.fst := List.mem_map_of_mem hy
 rw [List.zipIdx_map_fst] at hm
 exact ⟨y.1, List.mem_of_mem_take hm, rfl, rfl⟩
theorem outP_of {lb : Nat} {L : Lv} {w wc : World} {k : Nat} {wv vo : Value} {X : List Pv} (hX : Outs wc w.heap.size vo X) (hp : X.map Pv.plain = L.plain.outs) (hm : LkM wc lb { L with wv := wv, W := L.W.drop k, F := L.F ++ frs L.last L.W k, last := L.last + k }) (hk : k = L.plain.room)
  (hwv : ∀ W, SeesR W 1 bvL L.wv L.W → SeesR W 1 bvL wv (L.W.drop k)) (kw : Keeps (fun j => j = lb ∨ j = L.c) w wc) (hlt : lb < w.heap.size) : OutP lb L w (.returned vo) ((wc.setCell ⟨lb, 6, none⟩ (.bool false)).setCell ⟨lb, 7, none⟩ (.bool false)) := by
 have k2 : Keeps (fun j => j = lb) wc ((wc.setCell ⟨lb, 6, none⟩ (.bool false)).setCell ⟨lb, 7, none⟩ (.bool false)) := setAt (setAt (Keeps.refl _ _) 6 _) 7 _
 have m2 := (hm.set 6 (.bool false) { L with wv := wv, W := L.W.drop k, F := L.F ++ frs L.last L.W k, last := L.last + k, again := false } rfl rfl rfl).set 7 (.bool false) { L with wv := wv, W := L.W.drop k, F := L.F ++ frs L.last L.W k, last := L.last + k, again := false, owes := false } rfl rfl rfl
 refine ⟨{ L with wv := wv, W := L.W.drop k, F := L.F ++ frs L.last L.W k, last := L.last + k, again := false, owes := false }, X, vo, rfl, hX.keeps k2 (fun b hb _ e => by omega), hp, m2, outs_plain L k hk wv, rfl, fun W hr => ⟨hwv W hr.1, fun x hx => hr.2.1 x (List.mem_of_mem_drop hx), fun f hf => ?_⟩, kw.trans (k2.weaken (fun _ _ e => .inl e))⟩
 rcases List.mem_append.1 hf with hf | hf
 ·exact hr.2.2 f hf
 ·obtain ⟨x, hx, e1, e2⟩ := mem_frs hf
  rw [e1, e2]
  exact hr.2.1 x hx
set_option maxRecDepth 100000 in
set_option maxHeartbeats 1000000 in
theorem out_any (lb : Nat) (L : Lv) (w : World) (h : LkM w lb L) (hst : ∀ w', Keeps (fun j => j = lb ∨ j = L.c) w w' → L.reads w') (hl : 1 ≤ L.life) (hf : L.F.length ≤ 8) (hW : L.W.length ≤ 1000) (hla : L.last + L.W.length < 18446744073709551615) :
  Calls Try.prog 17 #[.pointer (some ⟨lb, 0, none⟩)] w (OutP lb L w) := by
 obtain ⟨⟨c0, c1, c2, c3, c4, c5, c6, c7, c8⟩, ⟨f0, f1, f2, f3, f4, f5, f6, f7, f8⟩⟩ := blk9 h.1
 have d0 : (((L.life : Nat) : Int) == 0) = false := by simp; omega
 have hlt : lb < w.heap.size := (Array.getElem?_eq_some_iff.1 h.1).1
 have hr := hst w (Keeps.refl _ _)
 have CA := Lib.hid (all_any lb L.c L.F w h.2.1 hf c3 h.2.2 (Lv.reads_sl hr))
 have H := Lib.hid (And.intro h (And.intro hst (And.intro hf (And.intro hW (And.intro hla hlt)))))
 obtain ⟨ag, hag⟩ : ∃ z, L.again = z := ⟨_, rfl⟩
 rw [hag] at c6
 have HA := Lib.hid hag
 clear h hst hf hW hla hlt hr hag
 go_enter Try.func17, Try.ntmps17
 go_upto_if 18 with fail
 go_cut [3] (fun v3 wc => OutA lb L w v3 wc)
 case first =>
  cases ag with
  | false =>
   go_wp2_with fail
   go_meet
   case rel => exact ⟨[], Outs.nil _ _, by rw [HA.out]; rfl, H.out.1, Keeps.refl _ _⟩
  | true =>
   go_wp2_with fail
   refine CA.out.mono ?_
   rintro e w1 ⟨v, rfl, ho, hw, hk⟩
   have hse := ho.sees (fun _ => rfl) (by decide)
   obtain ⟨p, c, hv, hle, hmx⟩ := hse.len
   subst hv
   have h1 := H.out.1.win [] hk hw
   have hob : ∀ b, (Value.slice p L.F.length c).ownBlock = some b → b ≠ L.c := fun b hb e => by have := (ho.block b hb).1; have := H.out.1.2.1.lt; omega
   have hlm : L.F.length ≤ 9223372036854775807 := by have := H.out.2.2.1; omega
   have K := Lib.hid (And.intro hk (And.intro h1 (And.intro hse hob)))
   clear hk h1 ho hw hob hle hmx hse
   go_wp2_with fail
   go_loopg [3, 22] L.F.length (fun n v3 i wm => ∃ k : Nat, k ≤ L.F.length ∧ n = L.F.length - k ∧ i = .int .i64 (k : Int) ∧ OutL lb L w w1 k v3 wm)
   case atStart => exact ⟨0, Nat.zero_le _, rfl, rfl, [], Outs.nil _ _, rfl, K.out.2.1, K.out.1, Keeps.refl _ _⟩
   case round =>
    obtain ⟨k, hk, rfl, rfl, X, hX, hXp, hm, kw, k1⟩ := hrel
    obtain ⟨xp, xc, hxv, _⟩ := hX.len
    subst hxv
    by_cases hlt : k < L.F.length
    ·obtain ⟨⟨q, fv, fd⟩, hf⟩ : ∃ f, L.F[k]? = some f := ⟨_, List.getElem?_eq_getElem hlt⟩
     have hsm := K.out.2.2.1.keeps k1 K.out.2.2.2
     obtain ⟨b, o, c', hv, _, _, hat⟩ := hsm.at (by omega)
     simp only [Value.slice.injEq] at hv
     obtain ⟨rfl, _, rfl⟩ := hv
     have hrw := H.out.2.1 wr (kw.weaken (fun _ _ e => .inr e))
     obtain ⟨fp, fn, fc, rfl⟩ : ∃ p n c, fv = .slice p n c := Lv.reads_sl hrw ⟨q, fv, fd⟩ (List.mem_of_getElem? hf)
     have a0 : wr.cell? ⟨b, o + k * 2, none⟩ = some (.int .u64 (q : Int)) := hat k _ hf 0 _ rfl
     have a1 : wr.cell? ⟨b, o + k * 2 + 1, none⟩ = some (.slice fp fn fc) := hat k _ hf 1 _ rfl
     obtain ⟨w2, hw2⟩ : ∃ w2, wr.alloc (.cells #[.int .u64 (q : Int), .slice fp fn fc] 92) = w2 := ⟨_, rfl⟩
     have c20 : w2.cell? ⟨wr.heap.size, 0, none⟩ = some (.int .u64 (q : Int)) := by rw [← hw2]; simp
     have c21 : w2.cell? ⟨wr.heap.size, 1, none⟩ = some (.slice fp fn fc) := by rw [← hw2]; simp
     have o2 : Old wr w2 := by rw [← hw2]; exact (Keeps.refl _ _).alloc _
     have k2 : Keeps (fun j => j = L.c) w w2 := kw.trans (o2.weaken (fun _ _ f => f.elim))
     have hs2 := (H.out.2.1 w2 (k2.weaken (fun _ _ e => .inr e))).2.2 ⟨q, .slice fp fn fc, fd⟩ (List.mem_of_getElem? hf)
     have PC := Lib.hid (packet_any lb { L with F := L.F.take k } q (.slice fp fn fc) fd w2 (hm.old o2) hs2.1 hs2.2)
     have htk : L.F.take (k + 1) = L.F.take k ++ [⟨q, .slice fp fn fc, fd⟩] := by
      rw [List.take_succ_eq_append_getElem hlt]
      congr 2
      rw [List.getElem?_eq_getElem hlt] at hf
      exact Option.some.inj hf
     have hlen8 : (L.F.take k).length < 8 := by simp; have := H.out.2.2.1; omega
     have xlen : X.length = k := by have := congrArg List.length hXp; simp at this; omega
     have G := Lib.hid (And.intro hX (And.intro hXp (And.intro hm (And.intro kw (And.intro k1 (And.intro o2 (And.intro htk (And.intro hlen8 xlen))))))))
     clear hX hXp hm kw k1 hf hsm hat hrw o2 k2 hs2 htk hlen8 xlen
     go_wp2_with fail
     refine PC.out.mono ?_
     rintro e w3 ⟨pp, pn, pc, rfl, ho3, k3⟩
     obtain ⟨w4, hw4⟩ : ∃ w4, w3.alloc (.cells #[.int .u64 (L.life : Int), .int .u64 (L.peer : Int), .int .u64 (q : Int), .int .u64 (L.next : Int), .slice pp pn pc] 37) = w4 := ⟨_, rfl⟩
     have k4 : Old w3 w4 := by rw [← hw4]; exact (Keeps.refl _ _).alloc _
     have sn : SeesR w4 5 Pv.cells (.slice (some ⟨w3.heap.size, 0, none⟩) 1 1) [(⟨L.life, L.peer, q, L.next, .slice pp pn pc, fd⟩ : Pv)] := by
      rw [← hw4]
      exact SeesR.new (k := 5) (enc := Pv.cells) w3 _ (0, 0) [⟨L.life, L.peer, q, L.next, .slice pp pn pc, fd⟩] _ rfl (fun _ => rfl) (by unfold maxLen; simp)
     have hrow : OwnsR w4 w1.heap.size 37 5 Pv.cells (.slice xp X.length xc) X := (((G.out.1.old G.out.2.2.2.2.2.1).old k3).old k4).1.1
     have hz1 : w1.heap.size ≤ w4.heap.size := Nat.le_trans (G.out.2.2.2.2.1.size) (Nat.le_trans G.out.2.2.2.2.2.1.size (Nat.le_trans k3.size k4.size))
     have HN := Lib.hid (And.intro (show X.length + [(⟨L.life, L.peer, q, L.next, .slice pp pn pc, fd⟩ : Pv)].length ≤ maxLen by have := G.out.2.2.2.2.2.2.2; unfold maxLen; simp at this ⊢; omega) (And.intro (show (X.length + [(⟨L.life, L.peer, q, L.next, .slice pp pn pc, fd⟩ : Pv)].length) * 56 ≤ 140737488355328 by have := G.out.2.2.2.2.2.2.2; simp at this ⊢; omega) hz1))
     have c3' := (k3.trans k4).cell (((G.out.2.2.2.1.trans (G.out.2.2.2.2.2.1.weaken (fun _ _ f => f.elim))).cell c3 H.out.1.2.2)) (fun f => f)
     have e20 := (k3.trans k4).cell c20 (fun f => f)
     have e21 := (k3.trans k4).cell c21 (fun f => f)
     have F4 := Lib.hid (And.intro ho3 (And.intro k3 (And.intro k4 (And.intro sn hrow))))
     clear ho3 k3 k4 sn hrow hz1
     go_wp2_with (at_builtin; refine wpList_append_rows (P := Try.prog) rfl _ _ 45 rfl w1.heap.size 37 5 56 Pv.cells _ Try.underlying45 Try.infoPk rfl (by decide) (.slice xp X.length xc) X (by rfl) F4.out.2.2.2.2 _ [(⟨L.life, L.peer, q, L.next, .slice pp pn pc, fd⟩ : Pv)] (by rfl) F4.out.2.2.2.1 (fun _ _ => rfl) (by simp [Pv.cells, Value.oneCell']) HN.out.1 HN.out.2.1 HN.out.2.2 ?_; intro v' w5 ho5 hg5 hv5; have k5 : Keeps (fun b => (Value.slice xp X.length xc).ownBlock = some b) w4 w5 := (Keeps.refl _ _).grown hg5 (fun b hb _ => hb); have g20 := k5.cell e20 (fun e => absurd (G.out.1.1.1.block _ e).2 (Nat.lt_irrefl _)); have g21 := k5.cell e21 (fun e => absurd (G.out.1.1.1.block _ e).2 (Nat.lt_irrefl _)); have F5 := Lib.hid (And.intro ho5 (And.intro hg5 (And.intro hv5 k5))); clear ho5 hg5 hv5 k5)
     obtain ⟨hX, hXp, hm, kw, k1, o2, htk, hlen8, xlen⟩ := G.out
     obtain ⟨ho3, k3, k4, sn, hrow⟩ := F4.out
     obtain ⟨ho5, hg5, hv5, k5⟩ := F5.out
     have hz1 := K.out.1.size
     have hltl := H.out.2.2.2.2.2
     have hltc := H.out.1.2.1.lt
     have k25 : Keeps (fun b => w1.heap.size ≤ b) wr w5 := ((o2.trans (k3.trans k4)).weaken (fun _ _ f => f.elim)).trans (k5.weaken (fun b _ e => (hrow.block b e).1))
     have h35 : w5.cell? ⟨lb, 3, none⟩ = some (.chan (some L.c)) := k5.cell c3' (fun e => by have := (hrow.block lb e).1; omega)
     have hw5 := hm.2.1.keeps k25 (by show ¬ w1.heap.size ≤ L.c; omega)
     refine (lay_room lb L.c (L.F.take k) w5 q fp fn fc fd hw5 hlen8 h35).mono ?_
     rintro e w6 ⟨rfl, hw6, k6⟩
     have F6 := Lib.hid (And.intro hw6 k6)
     clear hw6 k6 hw5 h35 hX hXp hm kw k1 o2 htk hlen8 xlen ho3 k3 k4 sn hrow ho5 hg5 hv5 k5 c20 c21 e20 e21 g20 g21 a0 a1 c3'
     go_wp2_with fail
     go_roundg (L.F.length - (k + 1))
     case measure => omega
     case rel =>
      obtain ⟨hX, hXp, hm, kw, k1, o2, htk, hlen8, xlen⟩ := G.out
      obtain ⟨ho3, k3, k4, sn, hrow⟩ := F4.out
      obtain ⟨ho5, hg5, hv5, k5⟩ := F5.out
      obtain ⟨hw6, k6⟩ := F6.out
      have hz2 := k1.size
      have hout := Outs.snoc (hX.old o2) (k3.trans k4) (by have := o2.size; omega) (ho3.old k4) ho5 hg5 hv5
      refine ⟨k + 1, by omega, rfl, by go_num, X ++ [⟨L.life, L.peer, q, L.next, .slice pp pn pc, fd⟩], hout.keeps k6 (fun b hb _ e => by omega), ?_, ?_, ?_, ?_⟩
      ·rw [List.map_append, hXp, htk, List.map_append]
       rfl
      ·rw [htk]
       have hm5 := hm.keeps k25 (by show ¬ w1.heap.size ≤ lb; omega) (by show ¬ w1.heap.size ≤ L.c; omega)
       exact hm5.win _ k6 hw6
      ·exact (kw.then k25 (fun i hi hge => by omega)).then k6 (fun _ _ e => e)
      ·exact (k1.then k25 (fun i hi hge => by omega)).then k6 (fun _ _ e => e)
    ·obtain rfl : k = L.F.length := by omega
     have G := Lib.hid (And.intro hX (And.intro hXp (And.intro hm (And.intro kw k1))))
     clear hX hXp hm kw k1 hlt
     go_wp2_with fail
     go_meet
     case rel =>
      obtain ⟨hX, hXp, hm, kw, k1⟩ := G.out
      rw [List.take_length] at hXp hm
      refine ⟨X, ⟨⟨hX.1.1.mono (K.out.1.size), fun x hx => ?_⟩, hX.2⟩, by rw [HA.out]; exact hXp, hm, kw⟩
      have hq := hX.1.2 x hx
      exact ⟨hq.1.mono K.out.1.size, fun b hb => ⟨Nat.le_trans K.out.1.size (hq.2 b hb).1, (hq.2 b hb).2⟩⟩
 case rest =>
  obtain ⟨X, hX, hXp, hm, kw⟩ := hcut
  obtain ⟨xp, xc, hxv, _⟩ := hX.len
  subst hxv
  have R := Lib.hid (And.intro hX (And.intro hXp (And.intro hm kw)))
  clear hX hXp hm kw CA c0 c1 c2 c3 c4 c5 c6 c7 c8 f0 f1 f2 f3 f4 f5 f6 f7 f8 d0
  go_wp2_with fail
  go_loopg [3] L.W.length (fun n v3 wm => ∃ k : Nat, k ≤ L.W.length ∧ n = L.W.length - k ∧ L.F.length + k ≤ 8 ∧ OutG lb L w k k v3 wm)
  case atStart => exact ⟨0, Nat.zero_le _, rfl, H.out.2.2.1, X, L.wv, R.out.1, by rw [R.out.2.1]; simp [frs], by simpa [frs] using R.out.2.2.1, (fun W h => by simpa using h), R.out.2.2.2.weaken (fun _ _ e => .inr e)⟩
  case round =>
   obtain ⟨k, hk, rfl, hk8, X, wv, hX, hXp, hm, hwv, kw⟩ := hrel
   obtain ⟨xp, xc, hxv, _⟩ := hX.len
   subst hxv
   have hr := H.out.2.1 _ kw
   obtain ⟨wp, wc', hwv', _⟩ := (hwv _ hr.1).len
   subst hwv'
   obtain ⟨n, hn⟩ : ∃ n, (L.W.drop k).length = n := ⟨_, rfl⟩
   obtain ⟨la, hla⟩ : ∃ la, L.last + k = la := ⟨_, rfl⟩
   obtain ⟨⟨x0, x1, x2, x3, x4, x5, x6, x7, x8⟩, ⟨y0, y1, y2, y3, y4, y5, y6, y7, y8⟩⟩ := blk9 hm.1
   simp only at x0 x1 x2 x3 x4 x5 x6 x7 x8
   rw [hn] at x2
   rw [hla] at x4
   have hnk : n = L.W.length - k := by rw [← hn]; simp
   have G := Lib.hid (And.intro hX (And.intro hXp (And.intro hm (And.intro hwv (And.intro kw (And.intro hr (And.intro hn (And.intro hla (And.intro hk (And.intro hk8 hnk))))))))))
   clear hX hXp hm hwv kw hr hn hla
   go_upto_region 11 with fail
   go_cut [60] (fun v60 wc => ∃ t : Bool, v60 = .bool t ∧ (t = true → k < L.W.length ∧ L.F.length + k < 8) ∧ (t = false → k = L.W.length ∨ L.F.length + k = 8) ∧ OutG lb L w k (if t = true then k + 1 else k) (.slice xp X.length xc) wc)
   case first =>
    by_cases h0 : n = 0
    ·have d1 : decide (0 < n) = false := by simp; omega
     have d2 : decide ((n : Int) > 0) = false := by simp; omega
     have N0 := Lib.hid (show k = L.W.length by omega)
     clear hnk hk hk8 h0
     go_quiet (fail)
     go_wp2_with fail
     go_meet
     case rel =>
      obtain ⟨hX, hXp, hm, hwv, kw, hr, hn, hla, hk, hk8, hnk⟩ := G.out
      exact ⟨false, rfl, fun h => (by cases h), fun _ => .inl N0.out, X, _, hX.old ((Keeps.refl _ _).drewN _), hXp, hm.drewN _, hwv, kw.drewN _⟩
    ·have hkl : k < L.W.length := by omega
     obtain ⟨rb, ro, rc, hrv, _, _, hat⟩ := (G.out.2.2.2.1 _ G.out.2.2.2.2.2.1.1).at (by rw [G.out.2.2.2.2.2.2.1]; omega)
     rw [G.out.2.2.2.2.2.2.1] at hrv
     simp only [Value.slice.injEq, true_and] at hrv
     obtain ⟨rfl, rfl⟩ := hrv
     obtain ⟨⟨bv, bd⟩, hbx⟩ : ∃ x, L.W[k]? = some x := ⟨_, List.getElem?_eq_getElem hkl⟩
     obtain ⟨bp, bn, bc, rfl⟩ : ∃ p n c, bv = .slice p n c := by
      obtain ⟨p, c, hv, _⟩ := (G.out.2.2.2.2.2.1.2.1 _ (List.mem_of_getElem? hbx)).1.len
      exact ⟨p, _, c, hv⟩
     have rc0 : wr.cell? ⟨rb, ro, none⟩ = some (.slice bp bn bc) := by
      have := hat 0 (.slice bp bn bc, bd) (by simpa using hbx) 0 _ rfl
      simpa using this
     obtain ⟨q, hq⟩ : ∃ q, la + 1 = q := ⟨_, rfl⟩
     have hu : IntKind.u64.wrap ((la : Int) + 1) = (q : Int) := by have h1 := H.out.2.2.2.2.1; have h2 := G.out.2.2.2.2.2.2.2.1; rw [IntKind.wrap_u64]; omega
     have hpos : 0 < n := by omega
     have d1 : decide (0 < n) = true := by simp; omega
     have d2 : decide ((n : Int) > 0) = true := by simp; omega
     have hlen : n ≤ 9223372036854775807 := by have := H.out.2.2.2.1; omega
     have hS : wr.drew.cell? ⟨lb, 2, none⟩ = some (.slice (some ⟨rb, ro, none⟩) n wc') ∧ wr.drew.cell? ⟨lb, 4, none⟩ = some (.int .u64 (la : Int)) ∧ wr.drew.cell? ⟨rb, ro, none⟩ = some (.slice bp bn bc) := ⟨x2, x4, rc0⟩
     have hFl := frs_len L.last L.W k (by omega)
     have hrbc : rb ≠ L.c := fun e => by
      obtain ⟨s1, r1, hq⟩ := G.out.2.2.1.2.1
      rw [show ({ L with wv := Value.slice (some ⟨rb, ro, none⟩) (L.W.drop k).length wc', W := L.W.drop k, F := L.F ++ frs L.last L.W k, last := L.last + k } : Lv).c = L.c from rfl, ← e] at hq
      simp [World.cell?, hq] at rc0
     by_cases h8 : L.F.length + k < 8
     ·have LC := Lib.hid (lay_room lb L.c (L.F ++ frs L.last L.W k) wr.drew q bp bn bc bd G.out.2.2.1.2.1 (by simp [hFl]; omega) x3)
      have N0 := Lib.hid (And.intro hkl (And.intro hbx (And.intro hq h8)))
      clear hnk hk hk8 h0 hkl hbx hq h8 hat hFl x0 x1 x2 x3 x4 x5 x6 x7 x8 y0 y1 y2 y3 y4 y5 y6 y7 y8 rc0
      refine wp_region_g (S := fun w' => w'.cell? ⟨lb, 2, none⟩ = some (.slice (some ⟨rb, ro, none⟩) n wc') ∧ w'.cell? ⟨lb, 4, none⟩ = some (.int .u64 (la : Int)) ∧ w'.cell? ⟨rb, ro, none⟩ = some (.slice bp bn bc)) (M := [0, 1, 2, 3, 4, 5, 6, 7, 8, 9, 10, 11, 12, 13, 14, 15, 16, 17, 18, 19, 20, 21]) (by kernel_rfl) ?_
      refine wpAnyG_takeL (i := 0) (oi := _) (v := ?vt0) rfl (by kernel_rfl) (by kernel_rfl) (by kernel_rfl) (by kernel_rfl) (fun _ _ _ h => h) (Or.inl ⟨by rfl, ?yt0⟩) hS ?rt0
      case yt0 => (intro W hSw; obtain ⟨g1, g2, g3⟩ := hSw; go_simp; try with_reducible rfl)
      try simp only [Act.put, List.setIfInBounds_toArray, List.set_cons_zero, List.set_cons_succ]
      refine wpAnyG_takeL (i := 1) (oi := _) (v := ?vt1) rfl (by kernel_rfl) (by kernel_rfl) (by kernel_rfl) (by kernel_rfl) (fun _ _ _ h => h) (Or.inl ⟨by rfl, ?yt1⟩) hS ?rt1
      case yt1 => (intro W hSw; obtain ⟨g1, g2, g3⟩ := hSw; go_simp; try with_reducible rfl)
      try simp only [Act.put, List.setIfInBounds_toArray, List.set_cons_zero, List.set_cons_succ]
      refine wpAnyG_takeL (i := 2) (oi := _) (v := ?vt2) rfl (by kernel_rfl) (by kernel_rfl) (by kernel_rfl) (by kernel_rfl) (fun _ _ _ h => h) (Or.inl ⟨by rfl, ?yt2⟩) hS ?rt2
      case yt2 => (intro W hSw; obtain ⟨g1, g2, g3⟩ := hSw; go_simp; try with_reducible rfl)
      try simp only [Act.put, List.setIfInBounds_toArray, List.set_cons_zero, List.set_cons_succ]
      refine wpAnyG_takeL (i := 3) (oi := _) (v := ?vt3) rfl (by kernel_rfl) (by kernel_rfl) (by kernel_rfl) (by kernel_rfl) (fun _ _ _ h => h) (Or.inl ⟨by rfl, ?yt3⟩) hS ?rt3
      case yt3 => (intro W hSw; obtain ⟨g1, g2, g3⟩ := hSw; go_simp; try with_reducible rfl)
      try simp only [Act.put, List.setIfInBounds_toArray, List.set_cons_zero, List.set_cons_succ]
      refine wpAnyG_takeL (i := 4) (oi := _) (v := ?vt4) rfl (by kernel_rfl) (by kernel_rfl) (by kernel_rfl) (by kernel_rfl) (fun _ _ _ h => h) (Or.inl ⟨by rfl, ?yt4⟩) hS ?rt4
      case yt4 => (intro W hSw; obtain ⟨g1, g2, g3⟩ := hSw; go_simp; try with_reducible rfl)
      try simp only [Act.put, List.setIfInBounds_toArray, List.set_cons_zero, List.set_cons_succ]
      refine wpAnyG_takeL (i := 5) (oi := _) (v := ?vt5) rfl (by kernel_rfl) (by kernel_rfl) (by kernel_rfl) (by kernel_rfl) (fun _ _ _ h => h) (Or.inl ⟨by rfl, ?yt5⟩) hS ?rt5
      case yt5 => (intro W hSw; obtain ⟨g1, g2, g3⟩ := hSw; go_simp; try with_reducible rfl)
      try simp only [Act.put, List.setIfInBounds_toArray, List.set_cons_zero, List.set_cons_succ]
      refine wpAnyG_takeL (i := 6) (oi := _) (v := ?vt6) rfl (by kernel_rfl) (by kernel_rfl) (by kernel_rfl) (by kernel_rfl) (fun _ _ _ h => h) (Or.inl ⟨by rfl, ?yt6⟩) hS ?rt6
      case yt6 => (intro W hSw; obtain ⟨g1, g2, g3⟩ := hSw; go_simp; try with_reducible rfl)
      try simp only [Act.put, List.setIfInBounds_toArray, List.set_cons_zero, List.set_cons_succ]
      refine wpAnyG_takeL (i := 7) (oi := _) (v := ?vt7) rfl (by kernel_rfl) (by kernel_rfl) (by kernel_rfl) (by kernel_rfl) (fun _ _ _ h => h) (Or.inl ⟨by rfl, ?yt7⟩) hS ?rt7
      case yt7 => (intro W hSw; obtain ⟨g1, g2, g3⟩ := hSw; go_simp; try with_reducible rfl)
      try simp only [Act.put, List.setIfInBounds_toArray, List.set_cons_zero, List.set_cons_succ]
      refine wpAnyG_takeL (i := 8) (oi := _) (v := ?vt8) rfl (by kernel_rfl) (by kernel_rfl) (by kernel_rfl) (by kernel_rfl) (fun _ _ _ h => h) (Or.inl ⟨by rfl, ?yt8⟩) hS ?rt8
      case yt8 => (intro W hSw; obtain ⟨g1, g2, g3⟩ := hSw; go_simp; try with_reducible rfl)
      try simp only [Act.put, List.setIfInBounds_toArray, List.set_cons_zero, List.set_cons_succ]
      refine wpAnyG_takeL (i := 9) (oi := _) (v := ?vt9) rfl (by kernel_rfl) (by kernel_rfl) (by kernel_rfl) (by kernel_rfl) (fun _ _ _ h => h) (Or.inl ⟨by rfl, ?yt9⟩) hS ?rt9
      case yt9 => (intro W hSw; obtain ⟨g1, g2, g3⟩ := hSw; go_simp; try with_reducible rfl)
      try simp only [Act.put, List.setIfInBounds_toArray, List.set_cons_zero, List.set_cons_succ]
      refine wpAnyG_takeL (i := 10) (oi := _) (v := ?vt10) rfl (by kernel_rfl) (by kernel_rfl) (by kernel_rfl) (by kernel_rfl) (fun _ _ _ h => h) (Or.inl ⟨by rfl, ?yt10⟩) hS ?rt10
      case yt10 => (intro W hSw; obtain ⟨g1, g2, g3⟩ := hSw; go_simp; try with_reducible rfl)
      try simp only [Act.put, List.setIfInBounds_toArray, List.set_cons_zero, List.set_cons_succ]
      refine wpAnyG_takeL (i := 11) (oi := _) (v := ?vt11) rfl (by kernel_rfl) (by kernel_rfl) (by kernel_rfl) (by kernel_rfl) (fun _ _ _ h => h) (Or.inl ⟨by rfl, ?yt11⟩) hS ?rt11
      case yt11 => (intro W hSw; obtain ⟨g1, g2, g3⟩ := hSw; go_simp; try with_reducible rfl)
      try simp only [Act.put, List.setIfInBounds_toArray, List.set_cons_zero, List.set_cons_succ]
      refine wpAnyG_takeL (i := 12) (oi := _) (v := ?vt12) rfl (by kernel_rfl) (by kernel_rfl) (by kernel_rfl) (by kernel_rfl) (fun _ _ _ h => h) (Or.inl ⟨by rfl, ?yt12⟩) hS ?rt12
      case yt12 => (intro W hSw; obtain ⟨g1, g2, g3⟩ := hSw; go_simp; try with_reducible rfl)
      try simp only [Act.put, List.setIfInBounds_toArray, List.set_cons_zero, List.set_cons_succ]
      refine wpAnyG_takeL (i := 13) (oi := _) (v := ?vt13) rfl (by kernel_rfl) (by kernel_rfl) (by kernel_rfl) (by kernel_rfl) (fun _ _ _ h => h) (Or.inl ⟨by rfl, ?yt13⟩) hS ?rt13
      case yt13 => (intro W hSw; obtain ⟨g1, g2, g3⟩ := hSw; go_simp; try with_reducible rfl)
      try simp only [Act.put, List.setIfInBounds_toArray, List.set_cons_zero, List.set_cons_succ]
      refine wpAnyG_takeL (i := 14) (oi := _) (v := ?vt14) rfl (by kernel_rfl) (by kernel_rfl) (by kernel_rfl) (by kernel_rfl) (fun _ _ _ h => h) (Or.inl ⟨by rfl, ?yt14⟩) hS ?rt14
      case yt14 => (intro W hSw; obtain ⟨g1, g2, g3⟩ := hSw; go_simp; try with_reducible rfl)
      try simp only [Act.put, List.setIfInBounds_toArray, List.set_cons_zero, List.set_cons_succ]
      refine wpAnyG_takeL (i := 15) (oi := _) (v := ?vt15) rfl (by kernel_rfl) (by kernel_rfl) (by kernel_rfl) (by kernel_rfl) (fun _ _ _ h => h) (Or.inl ⟨by rfl, ?yt15⟩) hS ?rt15
      case yt15 => (intro W hSw; obtain ⟨g1, g2, g3⟩ := hSw; go_simp; try with_reducible rfl)
      try simp only [Act.put, List.setIfInBounds_toArray, List.set_cons_zero, List.set_cons_succ]
      refine wpAnyG_takeL (i := 16) (oi := _) (v := ?vt16) rfl (by kernel_rfl) (by kernel_rfl) (by kernel_rfl) (by kernel_rfl) (fun _ _ _ h => h) (Or.inl ⟨by rfl, ?yt16⟩) hS ?rt16
      case yt16 => (intro W hSw; obtain ⟨g1, g2, g3⟩ := hSw; go_simp; try with_reducible rfl)
      try simp only [Act.put, List.setIfInBounds_toArray, List.set_cons_zero, List.set_cons_succ]
      refine wpAnyG_takeL (i := 17) (oi := _) (v := ?vt17) rfl (by kernel_rfl) (by kernel_rfl) (by kernel_rfl) (by kernel_rfl) (fun _ _ _ h => h) (Or.inl ⟨by rfl, ?yt17⟩) hS ?rt17
      case yt17 => (intro W hSw; obtain ⟨g1, g2, g3⟩ := hSw; go_simp; try with_reducible rfl)
      try simp only [Act.put, List.setIfInBounds_toArray, List.set_cons_zero, List.set_cons_succ]
      refine wpAnyG_takeL (i := 18) (oi := _) (v := ?vt18) rfl (by kernel_rfl) (by kernel_rfl) (by kernel_rfl) (by kernel_rfl) (fun _ _ _ h => h) (Or.inl ⟨by rfl, ?yt18⟩) hS ?rt18
      case yt18 => (intro W hSw; obtain ⟨g1, g2, g3⟩ := hSw; go_simp; try with_reducible rfl)
      try simp only [Act.put, List.setIfInBounds_toArray, List.set_cons_zero, List.set_cons_succ]
      refine wpAnyG_takeL (i := 19) (oi := _) (v := ?vt19) rfl (by kernel_rfl) (by kernel_rfl) (by kernel_rfl) (by kernel_rfl) (fun _ _ _ h => h) (Or.inl ⟨by rfl, ?yt19⟩) hS ?rt19
      case yt19 => (intro W hSw; obtain ⟨g1, g2, g3⟩ := hSw; go_simp; try with_reducible rfl)
      try simp only [Act.put, List.setIfInBounds_toArray, List.set_cons_zero, List.set_cons_succ]
      refine wpAnyG_onlyL (i := 20) (o := _) (by kernel_rfl) rfl (fun K hK => ?_)
      go_simp
      refine LC.out.mono ?_
      rintro e w2 ⟨rfl, hw2, k2⟩
      have hS2 : w2.cell? ⟨lb, 2, none⟩ = some (.slice (some ⟨rb, ro, none⟩) n wc') ∧ w2.cell? ⟨lb, 4, none⟩ = some (.int .u64 (la : Int)) ∧ w2.cell? ⟨rb, ro, none⟩ = some (.slice bp bn bc) := ⟨k2.cell hS.1 H.out.1.2.2, k2.cell hS.2.1 H.out.1.2.2, k2.cell hS.2.2 hrbc⟩
      have F2 := Lib.hid (And.intro hw2 k2)
      clear hw2 k2
      go_wp2_with fail
      refine hK.out _ _ (fun _ => hS2) ?_
      clear hK K
      try simp only [Act.put, List.setIfInBounds_toArray, List.set_cons_zero, List.set_cons_succ]
      refine wpAnyG_onlyL (i := 21) (o := _) (by kernel_rfl) rfl (fun K hK => ?_)
      go_simp
      refine hK.out _ _ (fun _ => hS2) ?_
      clear hK K
      try simp only [Act.put, List.setIfInBounds_toArray, List.set_cons_zero, List.set_cons_succ]
      refine wpAnyG_done (by kernel_rfl) ?_ _
      go_wp2_with fail
      go_meet
      case rel =>
       obtain ⟨hX, hXp, hm, hwv, kw, hr, hn, hla, hk, hk8, hnk⟩ := G.out
       obtain ⟨hw2, k2⟩ := F2.out
       refine ⟨true, rfl, fun _ => ⟨N0.out.1, N0.out.2.2.2⟩, fun h => (by cases h), X, _, (hX.old (Keeps.refl _ _).drew).keeps k2 (fun b hb _ e => by have := H.out.1.2.1.lt; omega), hXp, ?_, hwv, (kw.drew).trans (k2.weaken (fun _ _ e => .inr e))⟩
       have := LkM.win (L := { L with wv := Value.slice (some ⟨rb, ro, none⟩) (L.W.drop k).length wc', W := L.W.drop k, F := L.F ++ frs L.last L.W k, last := L.last + k }) (lb := lb) (w := wr.drew) hm _ k2 hw2
       rw [if_pos rfl, frs_succ _ _ _ _ N0.out.2.1]
       rw [← N0.out.2.2.1, ← hla, List.append_assoc] at this
       exact this
     ·have LC := Lib.hid (lay_full lb L.c (L.F ++ frs L.last L.W k) wr.drew q bp bn bc G.out.2.2.1.2.1 (by simp [hFl]; omega) x3)
      have N0 := Lib.hid (show L.F.length + k = 8 by omega)
      clear hnk hk hk8 h0 hkl hbx hq h8 hat hFl x0 x1 x2 x3 x4 x5 x6 x7 x8 y0 y1 y2 y3 y4 y5 y6 y7 y8 rc0
      refine wp_region_g (S := fun w' => w'.cell? ⟨lb, 2, none⟩ = some (.slice (some ⟨rb, ro, none⟩) n wc') ∧ w'.cell? ⟨lb, 4, none⟩ = some (.int .u64 (la : Int)) ∧ w'.cell? ⟨rb, ro, none⟩ = some (.slice bp bn bc)) (M := [0, 1, 2, 3, 4, 5, 6, 7, 8, 9, 10, 11, 12, 13, 14, 15, 16, 17, 18, 19, 20, 21]) (by kernel_rfl) ?_
      refine wpAnyG_takeL (i := 0) (oi := _) (v := ?vq0) rfl (by kernel_rfl) (by kernel_rfl) (by kernel_rfl) (by kernel_rfl) (fun _ _ _ h => h) (Or.inl ⟨by rfl, ?yq0⟩) hS ?rq0
      case yq0 => (intro W hSw; obtain ⟨g1, g2, g3⟩ := hSw; go_simp; try with_reducible rfl)
      try simp only [Act.put, List.setIfInBounds_toArray, List.set_cons_zero, List.set_cons_succ]
      refine wpAnyG_takeL (i := 1) (oi := _) (v := ?vq1) rfl (by kernel_rfl) (by kernel_rfl) (by kernel_rfl) (by kernel_rfl) (fun _ _ _ h => h) (Or.inl ⟨by rfl, ?yq1⟩) hS ?rq1
      case yq1 => (intro W hSw; obtain ⟨g1, g2, g3⟩ := hSw; go_simp; try with_reducible rfl)
      try simp only [Act.put, List.setIfInBounds_toArray, List.set_cons_zero, List.set_cons_succ]
      refine wpAnyG_takeL (i := 2) (oi := _) (v := ?vq2) rfl (by kernel_rfl) (by kernel_rfl) (by kernel_rfl) (by kernel_rfl) (fun _ _ _ h => h) (Or.inl ⟨by rfl, ?yq2⟩) hS ?rq2
      case yq2 => (intro W hSw; obtain ⟨g1, g2, g3⟩ := hSw; go_simp; try with_reducible rfl)
      try simp only [Act.put, List.setIfInBounds_toArray, List.set_cons_zero, List.set_cons_succ]
      refine wpAnyG_takeL (i := 3) (oi := _) (v := ?vq3) rfl (by kernel_rfl) (by kernel_rfl) (by kernel_rfl) (by kernel_rfl) (fun _ _ _ h => h) (Or.inl ⟨by rfl, ?yq3⟩) hS ?rq3
      case yq3 => (intro W hSw; obtain ⟨g1, g2, g3⟩ := hSw; go_simp; try with_reducible rfl)
      try simp only [Act.put, List.setIfInBounds_toArray, List.set_cons_zero, List.set_cons_succ]
      refine wpAnyG_takeL (i := 4) (oi := _) (v := ?vq4) rfl (by kernel_rfl) (by kernel_rfl) (by kernel_rfl) (by kernel_rfl) (fun _ _ _ h => h) (Or.inl ⟨by rfl, ?yq4⟩) hS ?rq4
      case yq4 => (intro W hSw; obtain ⟨g1, g2, g3⟩ := hSw; go_simp; try with_reducible rfl)
      try simp only [Act.put, List.setIfInBounds_toArray, List.set_cons_zero, List.set_cons_succ]
      refine wpAnyG_takeL (i := 5) (oi := _) (v := ?vq5) rfl (by kernel_rfl) (by kernel_rfl) (by kernel_rfl) (by kernel_rfl) (fun _ _ _ h => h) (Or.inl ⟨by rfl, ?yq5⟩) hS ?rq5
      case yq5 => (intro W hSw; obtain ⟨g1, g2, g3⟩ := hSw; go_simp; try with_reducible rfl)
      try simp only [Act.put, List.setIfInBounds_toArray, List.set_cons_zero, List.set_cons_succ]
      refine wpAnyG_takeL (i := 6) (oi := _) (v := ?vq6) rfl (by kernel_rfl) (by kernel_rfl) (by kernel_rfl) (by kernel_rfl) (fun _ _ _ h => h) (Or.inl ⟨by rfl, ?yq6⟩) hS ?rq6
      case yq6 => (intro W hSw; obtain ⟨g1, g2, g3⟩ := hSw; go_simp; try with_reducible rfl)
      try simp only [Act.put, List.setIfInBounds_toArray, List.set_cons_zero, List.set_cons_succ]
      refine wpAnyG_takeL (i := 7) (oi := _) (v := ?vq7) rfl (by kernel_rfl) (by kernel_rfl) (by kernel_rfl) (by kernel_rfl) (fun _ _ _ h => h) (Or.inl ⟨by rfl, ?yq7⟩) hS ?rq7
      case yq7 => (intro W hSw; obtain ⟨g1, g2, g3⟩ := hSw; go_simp; try with_reducible rfl)
      try simp only [Act.put, List.setIfInBounds_toArray, List.set_cons_zero, List.set_cons_succ]
      refine wpAnyG_takeL (i := 8) (oi := _) (v := ?vq8) rfl (by kernel_rfl) (by kernel_rfl) (by kernel_rfl) (by kernel_rfl) (fun _ _ _ h => h) (Or.inl ⟨by rfl, ?yq8⟩) hS ?rq8
      case yq8 => (intro W hSw; obtain ⟨g1, g2, g3⟩ := hSw; go_simp; try with_reducible rfl)
      try simp only [Act.put, List.setIfInBounds_toArray, List.set_cons_zero, List.set_cons_succ]
      refine wpAnyG_takeL (i := 9) (oi := _) (v := ?vq9) rfl (by kernel_rfl) (by kernel_rfl) (by kernel_rfl) (by kernel_rfl) (fun _ _ _ h => h) (Or.inl ⟨by rfl, ?yq9⟩) hS ?rq9
      case yq9 => (intro W hSw; obtain ⟨g1, g2, g3⟩ := hSw; go_simp; try with_reducible rfl)
      try simp only [Act.put, List.setIfInBounds_toArray, List.set_cons_zero, List.set_cons_succ]
      refine wpAnyG_takeL (i := 10) (oi := _) (v := ?vq10) rfl (by kernel_rfl) (by kernel_rfl) (by kernel_rfl) (by kernel_rfl) (fun _ _ _ h => h) (Or.inl ⟨by rfl, ?yq10⟩) hS ?rq10
      case yq10 => (intro W hSw; obtain ⟨g1, g2, g3⟩ := hSw; go_simp; try with_reducible rfl)
      try simp only [Act.put, List.setIfInBounds_toArray, List.set_cons_zero, List.set_cons_succ]
      refine wpAnyG_takeL (i := 11) (oi := _) (v := ?vq11) rfl (by kernel_rfl) (by kernel_rfl) (by kernel_rfl) (by kernel_rfl) (fun _ _ _ h => h) (Or.inl ⟨by rfl, ?yq11⟩) hS ?rq11
      case yq11 => (intro W hSw; obtain ⟨g1, g2, g3⟩ := hSw; go_simp; try with_reducible rfl)
      try simp only [Act.put, List.setIfInBounds_toArray, List.set_cons_zero, List.set_cons_succ]
      refine wpAnyG_takeL (i := 12) (oi := _) (v := ?vq12) rfl (by kernel_rfl) (by kernel_rfl) (by kernel_rfl) (by kernel_rfl) (fun _ _ _ h => h) (Or.inl ⟨by rfl, ?yq12⟩) hS ?rq12
      case yq12 => (intro W hSw; obtain ⟨g1, g2, g3⟩ := hSw; go_simp; try with_reducible rfl)
      try simp only [Act.put, List.setIfInBounds_toArray, List.set_cons_zero, List.set_cons_succ]
      refine wpAnyG_takeL (i := 13) (oi := _) (v := ?vq13) rfl (by kernel_rfl) (by kernel_rfl) (by kernel_rfl) (by kernel_rfl) (fun _ _ _ h => h) (Or.inl ⟨by rfl, ?yq13⟩) hS ?rq13
      case yq13 => (intro W hSw; obtain ⟨g1, g2, g3⟩ := hSw; go_simp; try with_reducible rfl)
      try simp only [Act.put, List.setIfInBounds_toArray, List.set_cons_zero, List.set_cons_succ]
      refine wpAnyG_takeL (i := 14) (oi := _) (v := ?vq14) rfl (by kernel_rfl) (by kernel_rfl) (by kernel_rfl) (by kernel_rfl) (fun _ _ _ h => h) (Or.inl ⟨by rfl, ?yq14⟩) hS ?rq14
      case yq14 => (intro W hSw; obtain ⟨g1, g2, g3⟩ := hSw; go_simp; try with_reducible rfl)
      try simp only [Act.put, List.setIfInBounds_toArray, List.set_cons_zero, List.set_cons_succ]
      refine wpAnyG_takeL (i := 15) (oi := _) (v := ?vq15) rfl (by kernel_rfl) (by kernel_rfl) (by kernel_rfl) (by kernel_rfl) (fun _ _ _ h => h) (Or.inl ⟨by rfl, ?yq15⟩) hS ?rq15
      case yq15 => (intro W hSw; obtain ⟨g1, g2, g3⟩ := hSw; go_simp; try with_reducible rfl)
      try simp only [Act.put, List.setIfInBounds_toArray, List.set_cons_zero, List.set_cons_succ]
      refine wpAnyG_takeL (i := 16) (oi := _) (v := ?vq16) rfl (by kernel_rfl) (by kernel_rfl) (by kernel_rfl) (by kernel_rfl) (fun _ _ _ h => h) (Or.inl ⟨by rfl, ?yq16⟩) hS ?rq16
      case yq16 => (intro W hSw; obtain ⟨g1, g2, g3⟩ := hSw; go_simp; try with_reducible rfl)
      try simp only [Act.put, List.setIfInBounds_toArray, List.set_cons_zero, List.set_cons_succ]
      refine wpAnyG_takeL (i := 17) (oi := _) (v := ?vq17) rfl (by kernel_rfl) (by kernel_rfl) (by kernel_rfl) (by kernel_rfl) (fun _ _ _ h => h) (Or.inl ⟨by rfl, ?yq17⟩) hS ?rq17
      case yq17 => (intro W hSw; obtain ⟨g1, g2, g3⟩ := hSw; go_simp; try with_reducible rfl)
      try simp only [Act.put, List.setIfInBounds_toArray, List.set_cons_zero, List.set_cons_succ]
      refine wpAnyG_takeL (i := 18) (oi := _) (v := ?vq18) rfl (by kernel_rfl) (by kernel_rfl) (by kernel_rfl) (by kernel_rfl) (fun _ _ _ h => h) (Or.inl ⟨by rfl, ?yq18⟩) hS ?rq18
      case yq18 => (intro W hSw; obtain ⟨g1, g2, g3⟩ := hSw; go_simp; try with_reducible rfl)
      try simp only [Act.put, List.setIfInBounds_toArray, List.set_cons_zero, List.set_cons_succ]
      refine wpAnyG_takeL (i := 19) (oi := _) (v := ?vq19) rfl (by kernel_rfl) (by kernel_rfl) (by kernel_rfl) (by kernel_rfl) (fun _ _ _ h => h) (Or.inl ⟨by rfl, ?yq19⟩) hS ?rq19
      case yq19 => (intro W hSw; obtain ⟨g1, g2, g3⟩ := hSw; go_simp; try with_reducible rfl)
      try simp only [Act.put, List.setIfInBounds_toArray, List.set_cons_zero, List.set_cons_succ]
      refine wpAnyG_onlyL (i := 20) (o := _) (by kernel_rfl) rfl (fun K hK => ?_)
      go_simp
      refine LC.out.mono ?_
      rintro e w2 ⟨rfl, hw2, k2⟩
      have hS2 : w2.cell? ⟨lb, 2, none⟩ = some (.slice (some ⟨rb, ro, none⟩) n wc') ∧ w2.cell? ⟨lb, 4, none⟩ = some (.int .u64 (la : Int)) ∧ w2.cell? ⟨rb, ro, none⟩ = some (.slice bp bn bc) := ⟨k2.cell hS.1 H.out.1.2.2, k2.cell hS.2.1 H.out.1.2.2, k2.cell hS.2.2 hrbc⟩
      have F2 := Lib.hid (And.intro hw2 k2)
      clear hw2 k2
      go_wp2_with fail
      refine hK.out _ _ (fun _ => hS2) ?_
      clear hK K
      try simp only [Act.put, List.setIfInBounds_toArray, List.set_cons_zero, List.set_cons_succ]
      refine wpAnyG_onlyL (i := 21) (o := _) (by kernel_rfl) rfl (fun K hK => ?_)
      go_simp
      refine hK.out _ _ (fun _ => hS2) ?_
      clear hK K
      try simp only [Act.put, List.setIfInBounds_toArray, List.set_cons_zero, List.set_cons_succ]
      refine wpAnyG_done (by kernel_rfl) ?_ _
      go_wp2_with fail
      go_meet
      case rel =>
       obtain ⟨hX, hXp, hm, hwv, kw, hr, hn, hla, hk, hk8, hnk⟩ := G.out
       obtain ⟨hw2, k2⟩ := F2.out
       refine ⟨false, rfl, fun h => (by cases h), fun _ => .inr N0.out, X, _, (hX.old (Keeps.refl _ _).drew).keeps k2 (fun b hb _ e => by have := H.out.1.2.1.lt; omega), hXp, ?_, hwv, (kw.drew).trans (k2.weaken (fun _ _ e => .inr e))⟩
       exact LkM.win (L := { L with wv := Value.slice (some ⟨rb, ro, none⟩) (L.W.drop k).length wc', W := L.W.drop k, F := L.F ++ frs L.last L.W k, last := L.last + k }) (lb := lb) (w := wr.drew) hm _ k2 hw2
   case rest =>
    obtain ⟨t, rfl, ht, hf, X', wv', hX', hXp', hm', hwv', kw'⟩ := hcut
    have hr' := H.out.2.1 _ kw'
    have hz : X'.length = X.length := by have h1 := congrArg List.length hXp'; have h2 := congrArg List.length G.out.2.1; simp at h1 h2; omega
    obtain ⟨wp2, wc2, hwv2, _⟩ := (hwv' _ hr'.1).len
    subst hwv2
    cases t with
    | true =>
     obtain ⟨hkl, hk8⟩ := ht rfl
     obtain ⟨n, hn⟩ : ∃ n, (L.W.drop k).length = n := ⟨_, rfl⟩
     obtain ⟨la, hla⟩ : ∃ la, L.last + k = la := ⟨_, rfl⟩
     obtain ⟨q, hq⟩ : ∃ q, la + 1 = q := ⟨_, rfl⟩
     have hnk : n = L.W.length - k := by rw [← hn]; simp
     have hpos : 0 < n := by omega
     have hsw := hwv' _ hr'.1
     obtain ⟨rb, ro, rc, hrv, _, _, hat⟩ := hsw.at (by rw [hn]; omega)
     rw [hn] at hrv
     simp only [Value.slice.injEq, true_and] at hrv
     obtain ⟨rfl, rfl⟩ := hrv
     obtain ⟨⟨bv, bd⟩, hbx⟩ : ∃ x, L.W[k]? = some x := ⟨_, List.getElem?_eq_getElem hkl⟩
     have hbs := hr'.2.1 _ (List.mem_of_getElem? hbx)
     obtain ⟨bp, bn, bc, rfl⟩ : ∃ p n c, bv = .slice p n c := by
      obtain ⟨p, c, hv, _⟩ := hbs.1.len
      exact ⟨p, _, c, hv⟩
     have rc0 : wc.cell? ⟨rb, ro, none⟩ = some (.slice bp bn bc) := by
      have := hat 0 (.slice bp bn bc, bd) (by simpa using hbx) 0 _ rfl
      simpa using this
     obtain ⟨⟨x0, x1, x2, x3, x4, x5, x6, x7, x8⟩, ⟨y0, y1, y2, y3, y4, y5, y6, y7, y8⟩⟩ := blk9 hm'.1
     simp only at x0 x1 x2 x3 x4 x5 x6 x7 x8
     rw [hn] at x2
     rw [hla] at x4
     have gu : IntKind.u64.wrap ((la : Int) + 1) = (q : Int) := by have h1 := H.out.2.2.2.2.1; rw [IntKind.wrap_u64]; omega
     obtain ⟨w2, hw2⟩ : ∃ w2, wc.setCell ⟨lb, 4, none⟩ (.int .u64 (q : Int)) = w2 := ⟨_, rfl⟩
     have k2 : Keeps (fun j => j = lb) wc w2 := by rw [← hw2]; exact setAt (Keeps.refl _ _) 4 _
     have m2 : LkM w2 lb { L with wv := .slice (some ⟨rb, ro, none⟩) n wc2, W := L.W.drop k, F := L.F ++ frs L.last L.W (k + 1), last := q } := by
      rw [← hw2, ← hn]
      exact hm'.set 4 (.int .u64 (q : Int)) _ rfl rfl rfl
     have z2 : w2.cell? ⟨lb, 2, none⟩ = some (.slice (some ⟨rb, ro, none⟩) n wc2) := (blk9 m2.1).1.2.2.1
     have kw2 := kw'.trans (k2.weaken (T := fun j => j = lb ∨ j = L.c) (fun _ _ e => .inl e))
     have hb2 := (H.out.2.1 _ kw2).2.1 _ (List.mem_of_getElem? hbx)
     obtain ⟨rb', ro', rc', hrv', _, _, hat2⟩ := (hwv' _ (H.out.2.1 _ kw2).1).at (by rw [hn]; omega)
     simp only [Value.slice.injEq, Option.some.injEq, Addr.mk.injEq, and_true, true_and] at hrv'
     obtain ⟨⟨rfl, rfl⟩, rfl⟩ := hrv'
     have rc2 : w2.cell? ⟨rb, ro, none⟩ = some (.slice bp bn bc) := by
      have := hat2 0 (.slice bp bn bc, bd) (by simpa using hbx) 0 _ rfl
      simpa using this
     have hS : w2.drew.cell? ⟨lb, 4, none⟩ = some (.int .u64 (q : Int)) ∧ w2.drew.cell? ⟨lb, 2, none⟩ = some (.slice (some ⟨rb, ro, none⟩) n wc2) ∧ w2.drew.cell? ⟨rb, ro, none⟩ = some (.slice bp bn bc) := ⟨(blk9 m2.1).1.2.2.2.2.1, z2, rc2⟩
     have PC := Lib.hid (packet_any lb _ q (.slice bp bn bc) bd w2.drew m2 hb2.1 hb2.2)
     have hrbw : rb < w.heap.size := by
      obtain ⟨rb', ro', rc', hrv', _, _, hat3⟩ := (hwv' w (H.out.2.1 w (Keeps.refl _ _)).1).at (by rw [hn]; omega)
      simp only [Value.slice.injEq, Option.some.injEq, Addr.mk.injEq, and_true, true_and] at hrv'
      obtain ⟨⟨rfl, rfl⟩, rfl⟩ := hrv'
      exact World.block_lt_of_cell? w _ (hat3 0 (.slice bp bn bc, bd) (by simpa using hbx) 0 _ rfl)
     have hxl : X'.length ≤ 16 := by
      have h1 := congrArg List.length hXp'
      rw [List.length_map, List.length_append, List.length_map, List.length_map, frs_len _ _ _ (by omega)] at h1
      have h2 : (if L.again = true then L.F else []).length ≤ 8 := by split; exact H.out.2.2.1; simp
      omega
     obtain ⟨sp, sc, hsl, hsl2⟩ := SeesR.from (T := 53) (E := 32) (n := n) (by rw [← hn]; exact hsw) 1 (by rw [hn]; omega) Try.underlying53 (by kernel_rfl) .i64 1 rfl
     rw [hn] at hsl hsl2
     have HXL := Lib.hid (And.intro hxl (And.intro hrbw hsl2))
     clear hxl hrbw hsl2
     have G2 := Lib.hid (And.intro hX' (And.intro hXp' (And.intro m2 (And.intro k2 (And.intro kw2 (And.intro hbx (And.intro hn (And.intro hla (And.intro hq (And.intro hkl (And.intro hk8 (And.intro hwv' (And.intro hnk hz)))))))))))))
     clear hX' hXp' hm' kw' hr' m2 k2 kw2 hbx hn hla hq hkl hk8 hsw hnk hat hbs hb2 rc0 rc2 hat2 hwv' x0 x1 x3 x5 x6 x7 x8 ht hf hz
     go_wp2_with fail
     clear hw2 x2 x4 y0 y1 y2 y3 y4 y5 y6 y7 y8
     refine wp_region_g (S := fun w' => w'.cell? ⟨lb, 4, none⟩ = some (.int .u64 (q : Int)) ∧ w'.cell? ⟨lb, 2, none⟩ = some (.slice (some ⟨rb, ro, none⟩) n wc2) ∧ w'.cell? ⟨rb, ro, none⟩ = some (.slice bp bn bc)) (M := [0, 1, 2, 3, 4, 5, 6, 7, 8, 9, 10, 11, 12, 13, 14, 15]) (by kernel_rfl) ?_
     refine wpAnyG_takeL (i := 0) (oi := _) (v := ?vr0) rfl (by kernel_rfl) (by kernel_rfl) (by kernel_rfl) (by kernel_rfl) (fun _ _ _ h => h) (Or.inl ⟨by rfl, ?yr0⟩) hS ?rr0
     case yr0 => (intro W hSw; obtain ⟨g1, g2, g3⟩ := hSw; go_simp; try with_reducible rfl)
     try simp only [Act.put, List.setIfInBounds_toArray, List.set_cons_zero, List.set_cons_succ]
     refine wpAnyG_takeL (i := 1) (oi := _) (v := ?vr1) rfl (by kernel_rfl) (by kernel_rfl) (by kernel_rfl) (by kernel_rfl) (fun _ _ _ h => h) (Or.inl ⟨by rfl, ?yr1⟩) hS ?rr1
     case yr1 => (intro W hSw; obtain ⟨g1, g2, g3⟩ := hSw; go_simp; try with_reducible rfl)
     try simp only [Act.put, List.setIfInBounds_toArray, List.set_cons_zero, List.set_cons_succ]
     refine wpAnyG_takeL (i := 2) (oi := _) (v := ?vr2) rfl (by kernel_rfl) (by kernel_rfl) (by kernel_rfl) (by kernel_rfl) (fun _ _ _ h => h) (Or.inl ⟨by rfl, ?yr2⟩) hS ?rr2
     case yr2 => (intro W hSw; obtain ⟨g1, g2, g3⟩ := hSw; go_simp; try with_reducible rfl)
     try simp only [Act.put, List.setIfInBounds_toArray, List.set_cons_zero, List.set_cons_succ]
     refine wpAnyG_takeL (i := 3) (oi := _) (v := ?vr3) rfl (by kernel_rfl) (by kernel_rfl) (by kernel_rfl) (by kernel_rfl) (fun _ _ _ h => h) (Or.inl ⟨by rfl, ?yr3⟩) hS ?rr3
     case yr3 => (intro W hSw; obtain ⟨g1, g2, g3⟩ := hSw; go_simp; try with_reducible rfl)
     try simp only [Act.put, List.setIfInBounds_toArray, List.set_cons_zero, List.set_cons_succ]
     refine wpAnyG_takeL (i := 4) (oi := _) (v := ?vr4) rfl (by kernel_rfl) (by kernel_rfl) (by kernel_rfl) (by kernel_rfl) (fun _ _ _ h => h) (Or.inl ⟨by rfl, ?yr4⟩) hS ?rr4
     case yr4 => (intro W hSw; obtain ⟨g1, g2, g3⟩ := hSw; go_simp; try with_reducible rfl)
     try simp only [Act.put, List.setIfInBounds_toArray, List.set_cons_zero, List.set_cons_succ]
     refine wpAnyG_takeL (i := 5) (oi := _) (v := ?vr5) rfl (by kernel_rfl) (by kernel_rfl) (by kernel_rfl) (by kernel_rfl) (fun _ _ _ h => h) (Or.inl ⟨by rfl, ?yr5⟩) hS ?rr5
     case yr5 => (intro W hSw; obtain ⟨g1, g2, g3⟩ := hSw; go_simp; try with_reducible rfl)
     try simp only [Act.put, List.setIfInBounds_toArray, List.set_cons_zero, List.set_cons_succ]
     refine wpAnyG_takeL (i := 6) (oi := _) (v := ?vr6) rfl (by kernel_rfl) (by kernel_rfl) (by kernel_rfl) (by kernel_rfl) (fun _ _ _ h => h) (Or.inl ⟨by rfl, ?yr6⟩) hS ?rr6
     case yr6 => (intro W hSw; obtain ⟨g1, g2, g3⟩ := hSw; go_simp; try with_reducible rfl)
     try simp only [Act.put, List.setIfInBounds_toArray, List.set_cons_zero, List.set_cons_succ]
     refine wpAnyG_takeL (i := 7) (oi := _) (v := ?vr7) rfl (by kernel_rfl) (by kernel_rfl) (by kernel_rfl) (by kernel_rfl) (fun _ _ _ h => h) (Or.inl ⟨by rfl, ?yr7⟩) hS ?rr7
     case yr7 => (intro W hSw; obtain ⟨g1, g2, g3⟩ := hSw; go_simp; try with_reducible rfl)
     try simp only [Act.put, List.setIfInBounds_toArray, List.set_cons_zero, List.set_cons_succ]
     refine wpAnyG_takeL (i := 8) (oi := _) (v := ?vr8) rfl (by kernel_rfl) (by kernel_rfl) (by kernel_rfl) (by kernel_rfl) (fun _ _ _ h => h) (Or.inl ⟨by rfl, ?yr8⟩) hS ?rr8
     case yr8 => (intro W hSw; obtain ⟨g1, g2, g3⟩ := hSw; go_simp; try with_reducible rfl)
     try simp only [Act.put, List.setIfInBounds_toArray, List.set_cons_zero, List.set_cons_succ]
     refine wpAnyG_takeL (i := 9) (oi := _) (v := ?vr9) rfl (by kernel_rfl) (by kernel_rfl) (by kernel_rfl) (by kernel_rfl) (fun _ _ _ h => h) (Or.inl ⟨by rfl, ?yr9⟩) hS ?rr9
     case yr9 => (intro W hSw; obtain ⟨g1, g2, g3⟩ := hSw; go_simp; try with_reducible rfl)
     try simp only [Act.put, List.setIfInBounds_toArray, List.set_cons_zero, List.set_cons_succ]
     refine wpAnyG_takeL (i := 10) (oi := _) (v := ?vr10) rfl (by kernel_rfl) (by kernel_rfl) (by kernel_rfl) (by kernel_rfl) (fun _ _ _ h => h) (Or.inl ⟨by rfl, ?yr10⟩) hS ?rr10
     case yr10 => (intro W hSw; obtain ⟨g1, g2, g3⟩ := hSw; go_simp; try with_reducible rfl)
     try simp only [Act.put, List.setIfInBounds_toArray, List.set_cons_zero, List.set_cons_succ]
     refine wpAnyG_takeL (i := 11) (oi := _) (v := ?vr11) rfl (by kernel_rfl) (by kernel_rfl) (by kernel_rfl) (by kernel_rfl) (fun _ _ _ h => h) (Or.inl ⟨by rfl, ?yr11⟩) hS ?rr11
     case yr11 => (intro W hSw; obtain ⟨g1, g2, g3⟩ := hSw; go_simp; try with_reducible rfl)
     try simp only [Act.put, List.setIfInBounds_toArray, List.set_cons_zero, List.set_cons_succ]
     refine wpAnyG_onlyL (i := 12) (o := _) (by kernel_rfl) rfl (fun K hK => ?_)
     go_simp
     refine PC.out.mono ?_
     rintro e w3 ⟨pp, pn, pc, rfl, ho3, k3⟩
     have hS3 : w3.cell? ⟨lb, 4, none⟩ = some (.int .u64 (q : Int)) ∧ w3.cell? ⟨lb, 2, none⟩ = some (.slice (some ⟨rb, ro, none⟩) n wc2) ∧ w3.cell? ⟨rb, ro, none⟩ = some (.slice bp bn bc) := ⟨k3.cell hS.1 (fun f => f), k3.cell hS.2.1 (fun f => f), k3.cell hS.2.2 (fun f => f)⟩
     obtain ⟨w4, hw4⟩ : ∃ w4, w3.alloc (.cells #[.int .u64 (L.life : Int), .int .u64 (L.peer : Int), .int .u64 (q : Int), .int .u64 (L.next : Int), .slice pp pn pc] 37) = w4 := ⟨_, rfl⟩
     have k4 : Old w3 w4 := by rw [← hw4]; exact (Keeps.refl _ _).alloc _
     have hS4 : w4.cell? ⟨lb, 4, none⟩ = some (.int .u64 (q : Int)) ∧ w4.cell? ⟨lb, 2, none⟩ = some (.slice (some ⟨rb, ro, none⟩) n wc2) ∧ w4.cell? ⟨rb, ro, none⟩ = some (.slice bp bn bc) := ⟨k4.cell hS3.1 (fun f => f), k4.cell hS3.2.1 (fun f => f), k4.cell hS3.2.2 (fun f => f)⟩
     have sn : SeesR w4 5 Pv.cells (.slice (some ⟨w3.heap.size, 0, none⟩) 1 1) [(⟨L.life, L.peer, q, L.next, .slice pp pn pc, bd⟩ : Pv)] := by
      rw [← hw4]
      exact SeesR.new (k := 5) (enc := Pv.cells) w3 _ (0, 0) [⟨L.life, L.peer, q, L.next, .slice pp pn pc, bd⟩] _ rfl (fun _ => rfl) (by unfold maxLen; simp)
     have hX2 := G2.out.1.keeps G2.out.2.2.2.1 (fun b hb _ e => by have := H.out.2.2.2.2.2; omega)
     have hrow : OwnsR w4 w.heap.size 37 5 Pv.cells (.slice xp X.length xc) X' := (((hX2.old (Keeps.refl _ _).drew).old k3).old k4).1.1
     have hz1 : w.heap.size ≤ w4.heap.size := Nat.le_trans G2.out.2.2.2.2.1.size (Nat.le_trans k3.size k4.size)
     have HN := Lib.hid (And.intro (show X'.length + [(⟨L.life, L.peer, q, L.next, .slice pp pn pc, bd⟩ : Pv)].length ≤ maxLen by have := HXL.out.1; unfold maxLen; simp; omega) (And.intro (show (X'.length + [(⟨L.life, L.peer, q, L.next, .slice pp pn pc, bd⟩ : Pv)].length) * 56 ≤ 140737488355328 by have := HXL.out.1; simp; omega) hz1))
     have F4 := Lib.hid (And.intro ho3 (And.intro k3 (And.intro k4 (And.intro sn (And.intro hrow hX2)))))
     clear ho3 k3 k4 sn hrow hz1 hX2
     go_wp2_with fail
     refine hK.out _ _ (fun _ => hS3) ?_
     clear hK K
     try simp only [Act.put, List.setIfInBounds_toArray, List.set_cons_zero, List.set_cons_succ]
     refine wpAnyG_onlyL (i := 13) (o := _) (by kernel_rfl) rfl (fun K hK => ?_)
     go_simp
     refine hK.out _ _ (fun _ => hS4) ?_
     clear hK K
     try simp only [Act.put, List.setIfInBounds_toArray, List.set_cons_zero, List.set_cons_succ]
     refine wpAnyG_onlyL (i := 14) (o := _) (by kernel_rfl) rfl (fun K hK => ?_)
     refine step_append_rows (P := Try.prog) rfl _ _ 45 rfl w.heap.size 37 5 56 Pv.cells _ Try.underlying45 Try.infoPk rfl (by decide) (.slice xp X.length xc) X' (by rfl) F4.out.2.2.2.2.1 _ [(⟨L.life, L.peer, q, L.next, .slice pp pn pc, bd⟩ : Pv)] (by rfl) F4.out.2.2.2.1 (fun _ _ => rfl) (by simp [Pv.cells, Value.oneCell']) HN.out.1 HN.out.2.1 HN.out.2.2 ?_
     intro v' w5 ho5 hg5 hv5
     obtain ⟨ho3, k3, k4, sn, hrow, hX2⟩ := F4.out
     have k5 : Keeps (fun b => w.heap.size ≤ b) w4 w5 := (Keeps.refl _ _).grown hg5 (fun b hb _ => (hrow.block b hb).1)
     have hltl := H.out.2.2.2.2.2
     have hltc := H.out.1.2.1.lt
     have hS5 : w5.cell? ⟨lb, 4, none⟩ = some (.int .u64 (q : Int)) ∧ w5.cell? ⟨lb, 2, none⟩ = some (.slice (some ⟨rb, ro, none⟩) n wc2) ∧ w5.cell? ⟨rb, ro, none⟩ = some (.slice bp bn bc) := ⟨k5.cell hS4.1 (by dsimp only; omega), k5.cell hS4.2.1 (by dsimp only; omega), k5.cell hS4.2.2 (by have := HXL.out.2.1; dsimp only; omega)⟩
     have m5 := ((((G2.out.2.2.1.old ((Keeps.refl _ _).drew)).old k3).old k4)).keeps k5 (by show ¬ w.heap.size ≤ lb; omega) (by show ¬ w.heap.size ≤ L.c; omega)
     have z5 := (blk9 m5.1).1.2.2.1
     have y5 := (blk9 m5.1).2.2.2.1
     simp only at z5
     have F5 := Lib.hid (And.intro ho5 (And.intro hg5 (And.intro hv5 (And.intro k5 m5))))
     clear ho5 hg5 hv5 k5 m5 ho3 k3 k4 sn hrow hX2 hS4 hS3 hS z2 hltl hltc
     refine hK.out _ _ (fun _ => hS5) ?_
     clear hK K
     try simp only [Act.put, List.setIfInBounds_toArray, List.set_cons_zero, List.set_cons_succ]
     refine wpAnyG_onlyL (i := 15) (o := _) (by kernel_rfl) rfl (fun K hK => ?_)
     go_simp
     refine hK.out _ _ (fun _ => hS5) ?_
     clear hK K
     try simp only [Act.put, List.setIfInBounds_toArray, List.set_cons_zero, List.set_cons_succ]
     refine wpAnyG_done (by kernel_rfl) ?_ _
     clear hS5
     go_wp2_with fail
     go_roundg (L.W.length - (k + 1))
     case measure => have := G2.out.2.2.2.2.2.2.2.2.2.1; omega
     case rel =>
      obtain ⟨hX', hXp', m2, k2, kw2, hbx, hn, hla, hq, hkl, hk8, hwv2, hnk, hz⟩ := G2.out
      obtain ⟨ho3, k3, k4, sn, hrow, hX2⟩ := F4.out
      obtain ⟨ho5, hg5, hv5, k5, m5⟩ := F5.out
      have hltl := H.out.2.2.2.2.2
      have hql : q = L.last + (k + 1) := by omega
      have hout := Outs.snoc (y := ⟨L.life, L.peer, q, L.next, .slice pp pn pc, bd⟩) hX2 ((((Keeps.refl (fun _ => False) w2).drew).trans k3).trans k4) kw2.size (ho3.old k4) ho5 hg5 hv5
      have k6 : Keeps (fun j => j = lb) w5 (w5.setCell ⟨lb, 2, none⟩ (.slice sp (n - 1) sc)) := setAt (Keeps.refl _ _) 2 _
      have m6 := m5.set 2 (.slice sp (n - 1) sc) { L with wv := .slice sp (n - 1) sc, W := L.W.drop (k + 1), F := L.F ++ frs L.last L.W (k + 1), last := q } rfl rfl rfl
      rw [hql] at m6
      refine ⟨k + 1, by omega, rfl, by omega, X' ++ [⟨L.life, L.peer, q, L.next, .slice pp pn pc, bd⟩], .slice sp (n - 1) sc, hout.keeps k6 (fun b hb _ e => by omega), ?_, m6, ?_, ?_⟩
      ·rw [List.map_append, hXp', frs_succ _ _ _ _ hbx, List.map_append, List.append_assoc]
       congr 2
       show [(⟨L.life, L.peer, q, L.next, bd⟩ : Pk)] = [⟨L.life, L.peer, L.last + k + 1, L.next, bd⟩]
       rw [hql]
       rfl
      ·intro W hW
       have := HXL.out.2.2 W (by rw [← hn]; exact hwv2 W hW)
       rw [List.drop_drop] at this
       exact this
      ·exact (((kw2.trans (((((Keeps.refl (fun _ => False) w2).drew).trans k3).trans k4).weaken (fun _ _ f => f.elim))).then k5 (fun i hi hge => by omega))).trans (k6.weaken (fun _ _ e => .inl e))
    | false =>
     obtain ⟨hX, hXp, hm, hwv, kw, hr, hn, hla, hk, hk8, hnk⟩ := G.out
     have hroom := room_eq L k hk hk8 (hf rfl)
     obtain ⟨⟨x0, x1, x2, x3, x4, x5, x6, x7, x8⟩, ⟨y0, y1, y2, y3, y4, y5, y6, y7, y8⟩⟩ := blk9 hm'.1
     simp only at x0 x1 x2 x3 x4 x5 x6 x7 x8
     have PC := Lib.hid (packet_any lb _ 0 (.slice none 0 0) [] wc hm' (Sees.nil _) (by simp))
     have houts := outs_eq L k hroom _ hXp'
     obtain ⟨ow, how⟩ : ∃ z, L.owes = z := ⟨_, rfl⟩
     rw [how] at x7 houts
     have T := Lib.hid (And.intro hX' (And.intro hXp' (And.intro hm' (And.intro hwv' (And.intro kw' (And.intro hroom (And.intro houts (And.intro hz hk8))))))))
     have hzx := hz
     clear hX hXp hm hwv kw hr hn hla hk hk8 hnk hX' hXp' hm' hwv' kw' hr' hroom houts ht hf G hz how
     by_cases hx0 : X.length = 0
     ·have d3 : ((X.length : Int) == 0) = true := beq_iff_eq.2 (by omega)
      have HX0 := Lib.hid hx0
      clear hx0 hzx
      cases ow with
      | false =>
       go_wp2_with fail
       go_ret
       obtain ⟨hX', hXp', hm', hwv', kw', hroom, houts, hz, hk8⟩ := T.out
       rw [Bool.and_false, if_neg (by decide)] at houts
       exact outP_of hX' houts.symm hm' hroom hwv' kw' H.out.2.2.2.2.2
      | true =>
       go_wp2_with fail
       refine PC.out.mono ?_
       rintro e w3 ⟨pp, pn, pc, rfl, ho3, k3⟩
       obtain ⟨w4, hw4⟩ : ∃ w4, w3.alloc (.cells #[.int .u64 (L.life : Int), .int .u64 (L.peer : Int), .int .u64 0, .int .u64 (L.next : Int), .slice pp pn pc] 37) = w4 := ⟨_, rfl⟩
       have k4 : Old w3 w4 := by rw [← hw4]; exact (Keeps.refl _ _).alloc _
       have sn : SeesR w4 5 Pv.cells (.slice (some ⟨w3.heap.size, 0, none⟩) 1 1) [(⟨L.life, L.peer, 0, L.next, .slice pp pn pc, []⟩ : Pv)] := by
        rw [← hw4]
        exact SeesR.new (k := 5) (enc := Pv.cells) w3 _ (0, 0) [⟨L.life, L.peer, 0, L.next, .slice pp pn pc, []⟩] _ rfl (fun _ => rfl) (by unfold maxLen; simp)
       have hrow : OwnsR w4 w.heap.size 37 5 Pv.cells (.slice xp X.length xc) X' := ((T.out.1.old k3).old k4).1.1
       have hz1 : w.heap.size ≤ w4.heap.size := Nat.le_trans T.out.2.2.2.2.1.size (Nat.le_trans k3.size k4.size)
       have hx' : X'.length = 0 := by have := T.out.2.2.2.2.2.2.2.1; have := HX0.out; omega
       have HN := Lib.hid (And.intro (show X'.length + [(⟨L.life, L.peer, 0, L.next, .slice pp pn pc, []⟩ : Pv)].length ≤ maxLen by rw [hx']; unfold maxLen; simp) (And.intro (show (X'.length + [(⟨L.life, L.peer, 0, L.next, .slice pp pn pc, []⟩ : Pv)].length) * 56 ≤ 140737488355328 by rw [hx']; simp) hz1))
       have c6' := (k3.trans k4).cell x6 (fun f => f)
       have c7' := (k3.trans k4).cell x7 (fun f => f)
       have llt := World.block_lt_of_cell? wc _ x6
       have b6' := ((k3.trans k4).frozen (p := ⟨lb, 6, none⟩) llt (fun f => f)).trans y6
       have b7' := ((k3.trans k4).frozen (p := ⟨lb, 7, none⟩) llt (fun f => f)).trans y7
       have F4 := Lib.hid (And.intro ho3 (And.intro k3 (And.intro k4 (And.intro sn (And.intro hrow hx')))))
       clear ho3 k3 k4 sn hrow hz1 hx' llt
       go_wp2_with (at_builtin; refine wpList_append_rows (P := Try.prog) rfl _ _ 45 rfl w.heap.size 37 5 56 Pv.cells _ Try.underlying45 Try.infoPk rfl (by decide) (.slice xp X.length xc) X' (by rfl) F4.out.2.2.2.2.1 _ [(⟨L.life, L.peer, 0, L.next, .slice pp pn pc, []⟩ : Pv)] (by rfl) F4.out.2.2.2.1 (fun _ _ => rfl) (by simp [Pv.cells, Value.oneCell']) HN.out.1 HN.out.2.1 HN.out.2.2 ?_; intro v' w5 ho5 hg5 hv5; have k5 : Keeps (fun b => w.heap.size ≤ b) w4 w5 := (Keeps.refl _ _).grown hg5 (fun b hb _ => (F4.out.2.2.2.2.1.block b hb).1); have hnl : ¬ w.heap.size ≤ lb := Nat.not_le.2 H.out.2.2.2.2.2; have g6 := k5.cell c6' hnl; have g7 := k5.cell c7' hnl; have h6 := (k5.frozen (p := ⟨lb, 6, none⟩) (World.block_lt_of_cell? w4 _ c6') hnl).trans b6'; have h7 := (k5.frozen (p := ⟨lb, 7, none⟩) (World.block_lt_of_cell? w4 _ c7') hnl).trans b7'; have F5 := Lib.hid (And.intro ho5 (And.intro hg5 (And.intro hv5 k5))); clear ho5 hg5 hv5 k5 hnl)
       go_ret
       obtain ⟨hX', hXp', hm', hwv', kw', hroom, houts, hz, hk8⟩ := T.out
       obtain ⟨ho3, k3, k4, sn, hrow, hx'⟩ := F4.out
       obtain ⟨ho5, hg5, hv5, k5⟩ := F5.out
       have hltl := H.out.2.2.2.2.2
       have hltc := H.out.1.2.1.lt
       obtain rfl : X' = [] := List.eq_nil_of_length_eq_zero hx'
       have hout := Outs.snoc (y := ⟨L.life, L.peer, 0, L.next, .slice pp pn pc, []⟩) hX' (k3.trans k4) kw'.size (ho3.old k4) ho5 hg5 hv5
       have hm5 := (hm'.old (k3.trans k4)).keeps k5 (by show ¬ w.heap.size ≤ lb; omega) (by show ¬ w.heap.size ≤ L.c; omega)
       refine outP_of hout ?_ hm5 hroom hwv' ((kw'.trans ((k3.trans k4).weaken (fun _ _ f => f.elim))).then k5 (fun i hi hge => by omega)) hltl
       rw [houts]
       rfl
     ·have d3 : ((X.length : Int) == 0) = false := beq_eq_false_iff_ne.2 (by omega)
      have HX0 := Lib.hid hx0
      clear hx0 hzx
      go_wp2_with fail
      go_ret
      obtain ⟨hX', hXp', hm', hwv', kw', hroom, houts, hz, hk8⟩ := T.out
      have hne : (X'.map Pv.plain).isEmpty = false := by
       cases X' with
       | nil => exact absurd hz.symm (by have := HX0.out; simpa using this)
       | cons x y => rfl
      rw [hne, Bool.false_and, if_neg (by decide)] at houts
      exact outP_of hX' houts.symm hm' hroom hwv' kw' H.out.2.2.2.2.2
end Go.Proofs.Ytllnlimbfoingaa
