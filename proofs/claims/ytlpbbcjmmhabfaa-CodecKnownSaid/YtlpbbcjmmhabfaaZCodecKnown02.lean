/- DERIVED. CodecKnown, walked: its loop. -/
import Derived.Test.YtlpbbcjmmhabfaaZCodecKnown01
import Derived.Deep.WholeRow
import Derived.Great.Walk
namespace Go.Proofs.Ytlpbbcjmmhabfaa
open Go.RowKit

open Go.Great
theorem wpList_skipTo {P : Program} {ops : Array Oper} {rest : List Oper} {o : Oper} {a : Act} {w : World} {Q : Exit → Act → World → Prop} (hg : o.guard = none) (w' : World) (hrun : (execOp a.eval o).run P w = .ok .skip w')
    (h : wpList P ops Q rest (a.put o.dst undef) w') : wpList P ops Q (o :: rest) a w := by
  refine wpList_plain hg fun K hK => ?_
  unfold Oper.wp
  rw [hrun, Oper.upon_skip]
  exact hK _ _ h
theorem run_store_op {P : Program} {t : TypeId} {p v : Value} {w w' : World} (h : (Instr.storeAt t p v).run P w = .ok () w') {ρ : Operand → Value} (o : Oper) {x y : Operand} (ho : o.op = .store t x y) (hx : ρ x = p) (hy : ρ y = v) : (execOp ρ o).run P w = .ok .skip w' := by
  subst hx hy
  unfold execOp
  rw [ho]
  simp only [Sem.run_bind, Sem.run_pure, h, Result.andThen]
theorem wpAnyG_strong {P : Program} {ops : Array Oper} {Q : Exit → Act → World → Prop} {md : Region.Mode} {S S' : World → Prop} {M : List Nat} (h : ∀ w, S' w → S w) :
    ∀ (fuel : Nat) (listed : Array Bool) (a : Act) (w : World), wpAnyG P md ops Q S' M fuel listed a w → wpAnyG P md ops Q S M fuel listed a w
  | 0, _, _, _, k => k
  | fuel + 1, _, _, _, k => ⟨k.1, fun i hi => wpOp_mono (fun a' w' k' => ⟨fun hm => h _ (k'.1 hm), wpAnyG_strong h fuel _ a' w' k'.2⟩) (k.2 i hi)⟩

set_option maxRecDepth 100000 in
set_option maxHeartbeats 2000000 in
theorem known_any (w : World) : Calls Try.prog 9 #[] w fun e w' => e = .returned (.bool true) ∧ Old w w' := by
  go_enter Try.func9, Try.ntmps9
  go_wp2_with fail
  go_loopw [1, 2] (fun v1 v2 wr => ∃ (i : Nat), i ≤ 8 ∧ v2 = .int .i64 i ∧ OwnsA wr w.heap.size v1 (kAts i) ∧ Old w wr) (fun _ v2 _ => 8 - (intOf v2).toNat)
  case atStart => exact ⟨0, by omega, rfl, OwnsR.nil _ _, Keeps.refl _ _⟩
  case round =>
    obtain ⟨i, hi, rfl, ho, hk⟩ := hrel
    by_cases hlt : i < 8
    · have HO := Lib.hid ho
      have HK := Lib.hid hk
      have hu8 : IntKind.u8.wrap (97 + (i : Int)) = ((UInt8.ofNat (97 + i)).toNat : Int) := by
        rw [IntKind.wrap_u8]
        have e : (UInt8.ofNat (97 + i)).toNat = 97 + i := by simp; omega
        rw [e]; omega
      obtain ⟨x, hx⟩ : ∃ x : UInt8, UInt8.ofNat (97 + i) = x := ⟨_, rfl⟩
      rw [hx] at hu8
      have KA := Lib.hid (show kAt i = ⟨(⟨#[97, 98, 99, 100, 101, 102, 103, 104, 105, 106, 107, 108, 109, 110, 111]⟩ : ByteArray) ++ ⟨#[x]⟩, ⟨2, 0, ⟨Array.replicate 32 0⟩, false⟩⟩ by unfold kAt kName; rw [hx]; rfl)
      have HN := Lib.hid (show (kAts i).length + 1 ≤ maxLen ∧ ((kAts i).length + 1) * 56 ≤ 140737488355328 from by unfold kAts maxLen; simp; omega)
      clear hx
      have hmk : ∀ w, (Instr.makeSlice 25 (.int .i64 32) (.int .i64 32)).run Try.prog w = .ok (.slice (some ⟨w.heap.size, 0, none⟩) 32 32) (w.alloc (.cells (Array.replicate 32 (.int .u8 0)) 5)) := fun _ => by kernel_rfl
      have hi64 : IntKind.i64.wrap (97 + (i : Int)) = 97 + (i : Int) := by rw [IntKind.wrap_i64]; omega
      have nU : ∀ b, wr.heap.size ≤ b → u1.ownBlock ≠ some b := fun b hb e => by have := (ho.block b e).2; omega
      clear ho hk
      go_upto_region 5 with fail
      refine wp_region_g (S := fun W' => Keeps (fun k => u1.ownBlock = some k) wr W') (M := List.range 14) (by kernel_rfl) ?_
      have hS : Keeps (fun k => u1.ownBlock = some k) wr wr.drew := (Keeps.refl _ _).drew
      refine wpAnyG_takeL (i := 0) (oi := _) (v := ?vc0) rfl (by kernel_rfl) (by kernel_rfl) (by kernel_rfl) (by kernel_rfl) (fun _ _ _ h => h) (Or.inl ⟨by rfl, ?yc0⟩) hS ?rc0
      case yc0 => (intro W hSw; go_simp; try with_reducible rfl)
      try simp only [Act.put, List.setIfInBounds_toArray, List.set_cons_zero, List.set_cons_succ]
      refine wpAnyG_takeL (i := 1) (oi := _) (v := ?vc1) rfl (by kernel_rfl) (by kernel_rfl) (by kernel_rfl) (by kernel_rfl) (fun _ _ _ h => h) (Or.inl ⟨by rfl, ?yc1⟩) hS ?rc1
      case yc1 => (intro W hSw; go_simp; try with_reducible rfl)
      try simp only [Act.put, List.setIfInBounds_toArray, List.set_cons_zero, List.set_cons_succ]
      refine wpAnyG_takeL (i := 2) (oi := _) (v := ?vc2) rfl (by kernel_rfl) (by kernel_rfl) (by kernel_rfl) (by kernel_rfl) (fun _ _ _ h => h) (Or.inl ⟨by rfl, ?yc2⟩) hS ?rc2
      case yc2 => (intro W hSw; go_simp; try with_reducible rfl)
      try simp only [Act.put, List.setIfInBounds_toArray, List.set_cons_zero, List.set_cons_succ]
      refine wpAnyG_takeL (i := 3) (oi := _) (v := ?vc3) rfl (by kernel_rfl) (by kernel_rfl) (by kernel_rfl) (by kernel_rfl) (fun _ _ _ h => h) (Or.inl ⟨by rfl, ?yc3⟩) hS ?rc3
      case yc3 => (intro W hSw; go_simp; try with_reducible rfl)
      try simp only [Act.put, List.setIfInBounds_toArray, List.set_cons_zero, List.set_cons_succ]
      refine wpAnyG_ready (rs := [4, 7]) (by kernel_rfl) (by simp) ?_
      refine AllReadyG.cons (o := _) rfl (fun K hK => ?_) (AllReadyG.cons (o := _) rfl (fun K hK => ?_) AllReadyG.nil)
      · go_simp
        obtain ⟨W1, hW1⟩ : ∃ W1, (wr.alloc (.cells #[.int .u8 (x.toNat : Int)] 5)).drew = W1 := ⟨_, rfl⟩
        rw [hW1]
        have hS1 : Old wr W1 := by rw [← hW1]; exact ((Keeps.refl _ _).alloc _).drew
        have SB := Lib.hid (show Sees W1 (.slice (some ⟨wr.heap.size, 0, none⟩) 1 1) [x] by rw [← hW1]; exact (Sees.one wr _ x rfl).old (Keeps.refl _ _).drew)
        clear hW1
        refine hK.out _ _ (fun _ => hS1.weaken (fun _ _ f => f.elim)) ?_
        clear hK K
        try simp only [Act.put, List.setIfInBounds_toArray, List.set_cons_zero, List.set_cons_succ]
        refine wpAnyG_strong (S' := fun W' => Keeps (fun k => u1.ownBlock = some k) W1 W') (fun W h => (hS1.weaken (fun _ _ f => f.elim) : Keeps (fun k => u1.ownBlock = some k) wr W1).trans h) _ _ _ _ ?_
        have hT : Keeps (fun k => u1.ownBlock = some k) W1 W1 := Keeps.refl _ _
        refine wpAnyG_takeL (i := 5) (oi := _) (v := ?vc5) rfl (by kernel_rfl) (by kernel_rfl) (by kernel_rfl) (by kernel_rfl) (fun _ _ _ h => h) (Or.inl ⟨by rfl, ?yc5⟩) hT ?rc5
        case yc5 => (intro W hSw; have tt := (SB.out.keeps hSw (fun b hb e => nU b (by simp [Value.ownBlock] at hb; omega) e)).text; go_simp; try with_reducible rfl)
        try simp only [Act.put, List.setIfInBounds_toArray, List.set_cons_zero, List.set_cons_succ]
        refine wpAnyG_takeL (i := 6) (oi := _) (v := ?vc6) rfl (by kernel_rfl) (by kernel_rfl) (by kernel_rfl) (by kernel_rfl) (fun _ _ _ h => h) (Or.inl ⟨by rfl, ?yc6⟩) hT ?rc6
        case yc6 => (intro W hSw; go_simp; try with_reducible rfl)
        try simp only [Act.put, List.setIfInBounds_toArray, List.set_cons_zero, List.set_cons_succ]
        refine wpAnyG_onlyL (i := 7) (o := _) (by kernel_rfl) rfl (fun K hK => ?_)
        go_simp
        obtain ⟨W2, hW2⟩ : ∃ W2, W1.alloc (.cells (Array.replicate 32 (.int .u8 0)) 5) = W2 := ⟨_, rfl⟩
        rw [hW2]
        have hS2' : Old W1 W2 := by rw [← hW2]; exact (Keeps.refl _ _).alloc _
        have hS2 : Old wr W2 := hS1.trans hS2'
        have hz1 := hS1.size
        have SZ := Lib.hid (show Sees W2 (.slice (some ⟨W1.heap.size, 0, none⟩) 32 32) (List.replicate 32 0) by rw [← hW2]; exact (Owns.lit W1 0 (List.replicate 32 0) (Nat.zero_le _) (by unfold maxLen; simp)).sees)
        clear hW2
        refine hK.out _ _ (fun _ => hS2'.weaken (fun _ _ f => f.elim)) ?_
        clear hK K
        try simp only [Act.put, List.setIfInBounds_toArray, List.set_cons_zero, List.set_cons_succ]
        refine wpAnyG_strong (S' := fun W' => Keeps (fun k => u1.ownBlock = some k) W2 W') (fun W h => (hS2'.weaken (fun _ _ f => f.elim) : Keeps (fun k => u1.ownBlock = some k) W1 W2).trans h) _ _ _ _ ?_
        have hT2 : Keeps (fun k => u1.ownBlock = some k) W2 W2 := Keeps.refl _ _
        refine wpAnyG_takeL (i := 8) (oi := _) (v := ?vc8) rfl (by kernel_rfl) (by kernel_rfl) (by kernel_rfl) (by kernel_rfl) (fun _ _ _ h => h) (Or.inl ⟨by rfl, ?yc8⟩) hT2 ?rc8
        case yc8 => (intro W hSw; have tt := (SZ.out.keeps hSw (fun b hb e => nU b (by simp [Value.ownBlock] at hb; omega) e)).text; go_simp; try with_reducible rfl)
        try simp only [Act.put, List.setIfInBounds_toArray, List.set_cons_zero, List.set_cons_succ]
        refine wpAnyG_takeL (i := 9) (oi := _) (v := ?vc9) rfl (by kernel_rfl) (by kernel_rfl) (by kernel_rfl) (by kernel_rfl) (fun _ _ _ h => h) (Or.inl ⟨by rfl, ?yc9⟩) hT2 ?rc9
        case yc9 => (intro W hSw; go_simp; try with_reducible rfl)
        try simp only [Act.put, List.setIfInBounds_toArray, List.set_cons_zero, List.set_cons_succ]
        refine wpAnyG_takeL (i := 10) (oi := _) (v := ?vc10) rfl (by kernel_rfl) (by kernel_rfl) (by kernel_rfl) (by kernel_rfl) (fun _ _ _ h => h) (Or.inl ⟨by rfl, ?yc10⟩) hT2 ?rc10
        case yc10 => (intro W hSw; go_simp; try with_reducible rfl)
        try simp only [Act.put, List.setIfInBounds_toArray, List.set_cons_zero, List.set_cons_succ]
        have SN := Lib.hid (SeesR.new (k := 5) (enc := At.cells) W2 80 (0, 0) [kAt i] #[.string ((⟨#[97, 98, 99, 100, 101, 102, 103, 104, 105, 106, 107, 108, 109, 110, 111]⟩ : ByteArray) ++ ⟨#[x]⟩), .int .i64 2, .int .i64 0, .string ⟨Array.replicate 32 0⟩, .bool false] (by rw [KA.out]; rfl) (fun _ => rfl) (by unfold maxLen; simp))
        have O2 := Lib.hid ((HO.out.old hS2).alloc (.cells #[.string ((⟨#[97, 98, 99, 100, 101, 102, 103, 104, 105, 106, 107, 108, 109, 110, 111]⟩ : ByteArray) ++ ⟨#[x]⟩), .int .i64 2, .int .i64 0, .string ⟨Array.replicate 32 0⟩, .bool false] 80))
        refine wpAnyG_onlyL (i := 11) (o := _) (by kernel_rfl) rfl (fun K hK => ?_)
        go_simp
        refine hK.out _ _ (fun _ => hT2.alloc _) ?_
        clear hK K
        try simp only [Act.put, List.setIfInBounds_toArray, List.set_cons_zero, List.set_cons_succ]
        refine wpAnyG_onlyL (i := 12) (o := _) (by kernel_rfl) rfl (fun K hK => ?_)
        refine step_append_rows (P := Try.prog) rfl _ _ 22 rfl w.heap.size 80 5 56 At.cells _ Try.underlying22 Try.infoAttr rfl (by decide) u1 (kAts i) (by rfl) O2.out _ [kAt i] (by rfl) SN.out (fun _ _ => rfl) (by simp [At.cells, Value.oneCell']) HN.out.1 HN.out.2 (Nat.le_trans (HK.out.trans hS2).size (by simp)) ?_
        intro v' w8 ho8 hg8 _
        have kF : Old w w8 := ((HK.out.trans hS2).alloc _).grown hg8 (fun k hk _ => by have := (HO.out.block k hk).1; omega)
        have EE := Lib.hid (And.intro ho8 kF)
        have hT3 : Keeps (fun k => u1.ownBlock = some k) W2 w8 := (hT2.alloc _).grown hg8 (fun k hk _ => hk)
        refine hK.out _ _ (fun _ => hT3) ?_
        clear hK K
        try simp only [Act.put, List.setIfInBounds_toArray, List.set_cons_zero, List.set_cons_succ]
        clear ho8 kF hg8
        refine wpAnyG_takeL (i := 13) (oi := _) (v := ?vz13a) rfl (by kernel_rfl) (by kernel_rfl) (by kernel_rfl) (by kernel_rfl) (fun _ _ _ h => h) (Or.inl ⟨by rfl, ?yz13a⟩) hT3 ?rz13a
        case yz13a => (intro W hSw; go_simp; try with_reducible rfl)
        try simp only [Act.put, List.setIfInBounds_toArray, List.set_cons_zero, List.set_cons_succ]
        refine wpAnyG_done (by kernel_rfl) ?_ _
        go_simp
        go_wp2_with fail
        go_roundw
        case rel => exact ⟨i + 1, by omega, by go_num, by rw [kAts, List.range_succ, List.map_append]; exact EE.out.1, EE.out.2⟩
        case measure => simp [intOf]; omega
      · go_simp
        obtain ⟨W1, hW1⟩ : ∃ W1, (wr.alloc (.cells (Array.replicate 32 (.int .u8 0)) 5)).drew = W1 := ⟨_, rfl⟩
        rw [hW1]
        have hS1 : Old wr W1 := by rw [← hW1]; exact ((Keeps.refl _ _).alloc _).drew
        have SZ := Lib.hid (show Sees W1 (.slice (some ⟨wr.heap.size, 0, none⟩) 32 32) (List.replicate 32 0) by rw [← hW1]; exact (Owns.lit wr 0 (List.replicate 32 0) (Nat.zero_le _) (by unfold maxLen; simp)).sees.old (Keeps.refl _ _).drew)
        clear hW1
        refine hK.out _ _ (fun _ => hS1.weaken (fun _ _ f => f.elim)) ?_
        clear hK K
        try simp only [Act.put, List.setIfInBounds_toArray, List.set_cons_zero, List.set_cons_succ]
        refine wpAnyG_strong (S' := fun W' => Keeps (fun k => u1.ownBlock = some k) W1 W') (fun W h => (hS1.weaken (fun _ _ f => f.elim) : Keeps (fun k => u1.ownBlock = some k) wr W1).trans h) _ _ _ _ ?_
        have hT : Keeps (fun k => u1.ownBlock = some k) W1 W1 := Keeps.refl _ _
        refine wpAnyG_takeL (i := 8) (oi := _) (v := ?vd8) rfl (by kernel_rfl) (by kernel_rfl) (by kernel_rfl) (by kernel_rfl) (fun _ _ _ h => h) (Or.inl ⟨by rfl, ?yd8⟩) hT ?rd8
        case yd8 => (intro W hSw; have tt := (SZ.out.keeps hSw (fun b hb e => nU b (by simp [Value.ownBlock] at hb; omega) e)).text; go_simp; try with_reducible rfl)
        try simp only [Act.put, List.setIfInBounds_toArray, List.set_cons_zero, List.set_cons_succ]
        refine wpAnyG_takeL (i := 9) (oi := _) (v := ?vd9) rfl (by kernel_rfl) (by kernel_rfl) (by kernel_rfl) (by kernel_rfl) (fun _ _ _ h => h) (Or.inl ⟨by rfl, ?yd9⟩) hT ?rd9
        case yd9 => (intro W hSw; go_simp; try with_reducible rfl)
        try simp only [Act.put, List.setIfInBounds_toArray, List.set_cons_zero, List.set_cons_succ]
        refine wpAnyG_onlyL (i := 4) (o := _) (by kernel_rfl) rfl (fun K hK => ?_)
        go_simp
        obtain ⟨W2, hW2⟩ : ∃ W2, W1.alloc (.cells #[.int .u8 (x.toNat : Int)] 5) = W2 := ⟨_, rfl⟩
        rw [hW2]
        have hS2' : Old W1 W2 := by rw [← hW2]; exact (Keeps.refl _ _).alloc _
        have hS2 : Old wr W2 := hS1.trans hS2'
        have hz1 := hS1.size
        have SB := Lib.hid (show Sees W2 (.slice (some ⟨W1.heap.size, 0, none⟩) 1 1) [x] by rw [← hW2]; exact Sees.one W1 _ x rfl)
        clear hW2
        refine hK.out _ _ (fun _ => hS2'.weaken (fun _ _ f => f.elim)) ?_
        clear hK K
        try simp only [Act.put, List.setIfInBounds_toArray, List.set_cons_zero, List.set_cons_succ]
        refine wpAnyG_strong (S' := fun W' => Keeps (fun k => u1.ownBlock = some k) W2 W') (fun W h => (hS2'.weaken (fun _ _ f => f.elim) : Keeps (fun k => u1.ownBlock = some k) W1 W2).trans h) _ _ _ _ ?_
        have hT2 : Keeps (fun k => u1.ownBlock = some k) W2 W2 := Keeps.refl _ _
        refine wpAnyG_takeL (i := 5) (oi := _) (v := ?vd5) rfl (by kernel_rfl) (by kernel_rfl) (by kernel_rfl) (by kernel_rfl) (fun _ _ _ h => h) (Or.inl ⟨by rfl, ?yd5⟩) hT2 ?rd5
        case yd5 => (intro W hSw; have tt := (SB.out.keeps hSw (fun b hb e => nU b (by simp [Value.ownBlock] at hb; omega) e)).text; go_simp; try with_reducible rfl)
        try simp only [Act.put, List.setIfInBounds_toArray, List.set_cons_zero, List.set_cons_succ]
        refine wpAnyG_takeL (i := 6) (oi := _) (v := ?vd6) rfl (by kernel_rfl) (by kernel_rfl) (by kernel_rfl) (by kernel_rfl) (fun _ _ _ h => h) (Or.inl ⟨by rfl, ?yd6⟩) hT2 ?rd6
        case yd6 => (intro W hSw; go_simp; try with_reducible rfl)
        try simp only [Act.put, List.setIfInBounds_toArray, List.set_cons_zero, List.set_cons_succ]
        refine wpAnyG_takeL (i := 10) (oi := _) (v := ?vd10) rfl (by kernel_rfl) (by kernel_rfl) (by kernel_rfl) (by kernel_rfl) (fun _ _ _ h => h) (Or.inl ⟨by rfl, ?yd10⟩) hT2 ?rd10
        case yd10 => (intro W hSw; go_simp; try with_reducible rfl)
        try simp only [Act.put, List.setIfInBounds_toArray, List.set_cons_zero, List.set_cons_succ]
        have SN := Lib.hid (SeesR.new (k := 5) (enc := At.cells) W2 80 (0, 0) [kAt i] #[.string ((⟨#[97, 98, 99, 100, 101, 102, 103, 104, 105, 106, 107, 108, 109, 110, 111]⟩ : ByteArray) ++ ⟨#[x]⟩), .int .i64 2, .int .i64 0, .string ⟨Array.replicate 32 0⟩, .bool false] (by rw [KA.out]; rfl) (fun _ => rfl) (by unfold maxLen; simp))
        have O2 := Lib.hid ((HO.out.old hS2).alloc (.cells #[.string ((⟨#[97, 98, 99, 100, 101, 102, 103, 104, 105, 106, 107, 108, 109, 110, 111]⟩ : ByteArray) ++ ⟨#[x]⟩), .int .i64 2, .int .i64 0, .string ⟨Array.replicate 32 0⟩, .bool false] 80))
        refine wpAnyG_onlyL (i := 11) (o := _) (by kernel_rfl) rfl (fun K hK => ?_)
        go_simp
        refine hK.out _ _ (fun _ => hT2.alloc _) ?_
        clear hK K
        try simp only [Act.put, List.setIfInBounds_toArray, List.set_cons_zero, List.set_cons_succ]
        refine wpAnyG_onlyL (i := 12) (o := _) (by kernel_rfl) rfl (fun K hK => ?_)
        refine step_append_rows (P := Try.prog) rfl _ _ 22 rfl w.heap.size 80 5 56 At.cells _ Try.underlying22 Try.infoAttr rfl (by decide) u1 (kAts i) (by rfl) O2.out _ [kAt i] (by rfl) SN.out (fun _ _ => rfl) (by simp [At.cells, Value.oneCell']) HN.out.1 HN.out.2 (Nat.le_trans (HK.out.trans hS2).size (by simp)) ?_
        intro v' w8 ho8 hg8 _
        have kF : Old w w8 := ((HK.out.trans hS2).alloc _).grown hg8 (fun k hk _ => by have := (HO.out.block k hk).1; omega)
        have EE := Lib.hid (And.intro ho8 kF)
        have hT3 : Keeps (fun k => u1.ownBlock = some k) W2 w8 := (hT2.alloc _).grown hg8 (fun k hk _ => hk)
        refine hK.out _ _ (fun _ => hT3) ?_
        clear hK K
        try simp only [Act.put, List.setIfInBounds_toArray, List.set_cons_zero, List.set_cons_succ]
        clear ho8 kF hg8
        refine wpAnyG_takeL (i := 13) (oi := _) (v := ?vz13b) rfl (by kernel_rfl) (by kernel_rfl) (by kernel_rfl) (by kernel_rfl) (fun _ _ _ h => h) (Or.inl ⟨by rfl, ?yz13b⟩) hT3 ?rz13b
        case yz13b => (intro W hSw; go_simp; try with_reducible rfl)
        try simp only [Act.put, List.setIfInBounds_toArray, List.set_cons_zero, List.set_cons_succ]
        refine wpAnyG_done (by kernel_rfl) ?_ _
        go_simp
        go_wp2_with fail
        go_roundw
        case rel => exact ⟨i + 1, by omega, by go_num, by rw [kAts, List.range_succ, List.map_append]; exact EE.out.1, EE.out.2⟩
        case measure => simp [intOf]; omega
    · obtain rfl : i = 8 := by omega
      obtain ⟨p1, c1, rfl, _, _⟩ := (ho.sees (fun _ => rfl) (by decide)).len
      have C3 := Lib.hid (size_any kKey _ (kAts 8) wr (ho.sees (fun _ => rfl) (by decide)) (fun _ b hb => (ho.block b hb).2) kAts_fits)
      rw [kAts_size] at C3
      have HK := Lib.hid hk
      clear ho hk
      unfold kKey at C3
      go_wp2_with fail
      refine C3.out.mono ?_
      rintro e w1 ⟨rfl, k1⟩
      have K1 := Lib.hid (HK.out.trans k1)
      clear k1 C3 HK
      obtain ⟨Wa, hWa⟩ : ∃ Wa, w1.alloc (.cells #[.int .u64 0, .int .u64 0, .string ⟨#[]⟩, .slice none 0 0] 46) = Wa := ⟨_, rfl⟩
      have ba : Wa.heap[w1.heap.size]? = some (.cells #[.int .u64 0, .int .u64 0, .string ⟨#[]⟩, .slice none 0 0] 46 (0, 0)) := by rw [← hWa]; exact heap_alloc_new _ _
      have ga := blk4 ba
      go_upto_region 8 with fail
      obtain ⟨W4, hW4⟩ : ∃ W, (((Wa.setCell ⟨w1.heap.size, 0, none⟩ (.int .u64 1099511627776)).setCell ⟨w1.heap.size, 1, none⟩ (.int .u64 1099511627776)).setCell ⟨w1.heap.size, 2, none⟩ (.string ⟨#[]⟩)).setCell ⟨w1.heap.size, 3, none⟩ (.slice none 0 0) = W := ⟨_, rfl⟩
      rw [hW4]
      have b4 : W4.heap[w1.heap.size]? = some (.cells #[.int .u64 1099511627776, .int .u64 1099511627776, .string ⟨#[]⟩, .slice none 0 0] 46 (0, 0)) := by rw [← hW4]; exact set4 ba
      have k4 : Old w W4 := K1.out.then (((Keeps.refl (fun _ => False) w1).alloc _).then (by rw [hWa, ← hW4]; exact keep4 _ _ : Keeps (fun k => k = w1.heap.size) _ W4) (fun i hi e => by omega) : Old w1 W4) (fun _ _ f => f)
      clear hW4 ba ga hWa
      obtain ⟨Xa, hXa⟩ : ∃ W, W4.alloc (.cells #[.int .u64 1, .int .u64 0, .string ⟨#[]⟩, .slice none 0 0, .int .u64 3, .int .u64 0, .string ⟨#[]⟩, .slice none 0 0, .int .u64 8, .int .u64 0, .string ⟨#[]⟩, .slice none 0 0, .int .u64 9, .int .u64 0, .string ⟨#[]⟩, .slice none 0 0] 46) = W := ⟨_, rfl⟩
      have oXa : Old W4 Xa := by rw [← hXa]; exact (Keeps.refl _ _).alloc _
      have sXa : SeesR Xa 4 It.cells (.slice (some ⟨W4.heap.size, 0, none⟩) 4 4) ([1, 3, 8, 9].map kIt) := by rw [← hXa]; exact SeesR.new (k := 4) (enc := It.cells) W4 _ (0, 0) ([1, 3, 8, 9].map kIt) _ (by rfl) (fun _ => rfl) (by unfold maxLen; simp)
      have zXa : Xa.heap.size = W4.heap.size + 1 := by rw [← hXa]; simp
      obtain ⟨Xb, hXb⟩ : ∃ W, Xa.alloc (.cells #[.int .u64 2, .int .u64 2, .int .u64 4, .int .u64 5, .int .u64 6, .int .u64 7] 82) = W := ⟨_, rfl⟩
      have oXb : Old Xa Xb := by rw [← hXb]; exact (Keeps.refl _ _).alloc _
      have sXb : SeesR Xb 2 gapL (.slice (some ⟨W4.heap.size + 1, 0, none⟩) 3 3) ([(2, 2), (4, 5), (6, 7)] : List PGap) := by rw [← zXa, ← hXb]; exact SeesR.new (k := 2) (enc := gapL) Xa _ (0, 0) ([(2, 2), (4, 5), (6, 7)] : List PGap) _ (by rfl) (fun _ => rfl) (by unfold maxLen; simp)
      have zXb : Xb.heap.size = W4.heap.size + 1 + 1 := by rw [← hXb]; simp [zXa]
      obtain ⟨Xc, hXc⟩ : ∃ W, Xb.alloc (.cells #[.int .u64 0, .int .u64 0, .slice none 0 0, .slice none 0 0, .bool false] 50) = W := ⟨_, rfl⟩
      have oXc : Old Xb Xc := by rw [← hXc]; exact (Keeps.refl _ _).alloc _
      have bc : Xc.heap[W4.heap.size + 1 + 1]? = some (.cells #[.int .u64 0, .int .u64 0, .slice none 0 0, .slice none 0 0, .bool false] 50 (0, 0)) := by rw [← hXc, ← zXb]; exact heap_alloc_new _ _
      have gc := blk5 bc
      obtain ⟨W5, hW5⟩ : ∃ W, (((((Xc).setCell ⟨W4.heap.size + 1 + 1, 0, none⟩ (.int .u64 1)).setCell ⟨W4.heap.size + 1 + 1, 1, none⟩ (.int .u64 10)).setCell ⟨W4.heap.size + 1 + 1, 2, none⟩ (.slice (some ⟨W4.heap.size, 0, none⟩) 4 4)).setCell ⟨W4.heap.size + 1 + 1, 3, none⟩ (.slice (some ⟨W4.heap.size + 1, 0, none⟩) 3 3)).setCell ⟨W4.heap.size + 1 + 1, 4, none⟩ (.bool false) = W := ⟨_, rfl⟩
      have b5 : W5.heap[W4.heap.size + 1 + 1]? = some (.cells #[.int .u64 1, .int .u64 10, .slice (some ⟨W4.heap.size, 0, none⟩) 4 4, .slice (some ⟨W4.heap.size + 1, 0, none⟩) 3 3, .bool false] 50 (0, 0)) := by rw [← hW5]; exact set5 bc
      have k5 : Old Xb W5 := oXc.then (by rw [← hW5]; exact keep5 _ _ : Keeps (fun k => k = W4.heap.size + 1 + 1) Xc W5) (fun i hi e => by omega)
      have f5 : (kFull (.slice (some ⟨W4.heap.size, 0, none⟩) 4 4) (.slice (some ⟨W4.heap.size + 1, 0, none⟩) 3 3)).fine W5 := kPg_fine _ _ _ [1, 3, 8, 9] _ [(2, 2), (4, 5), (6, 7)] ((sXa.old oXb).old k5) (sXb.old k5) (by decide) (by decide) (by decide) (by decide) (fun b hb => by have := k5.size; simp [Value.ownBlock] at hb; omega) (fun b hb => by have := k5.size; simp [Value.ownBlock] at hb; omega)
      have k45 : Old W4 W5 := (oXa.trans oXb).trans k5
      have T5 := Lib.hid (And.intro b4 (And.intro b5 (And.intro f5 (And.intro (k4.trans k45) ((k45.block _ (lt_of_heap b4) (fun f => f)).trans b4)))))
      have HW5 := Lib.hid hW5
      clear b4 b5 f5 k4 k45 hW5 oXa oXb oXc sXa sXb k5 bc
      go_upto_region 9 with fail
      try rw [HW5.out]
      clear gc hXa hXb hXc zXa zXb HW5
      refine wp_region_lit ?_
      refine wpList_runTo rfl (some 52) rfl (.agg #[.int .u64 0, .int .u64 0, .slice none 0 0, .slice none 0 0, .bool false]) W5 (by kernel_rfl) ?_
      refine wpList_runTo rfl (some 53) rfl (.agg #[.int .u64 2, .int .u64 1, .slice none 0 0, .slice none 0 0, .bool false]) W5 (by kernel_rfl) ?_
      refine wpList_runTo rfl (some 54) rfl (.agg #[.int .u64 1, .int .u64 1099511627778, .slice none 0 0, .slice none 0 0, .bool false]) W5 (by kernel_rfl) ?_
      refine wpList_runTo rfl (some 55) rfl (.agg #[.int .u64 3, .int .u64 0, .string ⟨#[]⟩, .slice none 0 0]) W5 (by kernel_rfl) ?_
      refine wpList_runTo rfl (some 56) rfl (.slice (some ⟨W5.heap.size, 0, none⟩) 1 1) (W5.alloc (.cells #[.int .u64 3, .int .u64 0, .string ⟨#[]⟩, .slice none 0 0] 46)) (by kernel_rfl) ?_
      obtain ⟨Ya, hYa⟩ : ∃ W, W5.alloc (.cells #[.int .u64 3, .int .u64 0, .string ⟨#[]⟩, .slice none 0 0] 46) = W := ⟨_, rfl⟩
      rw [hYa]
      have HYa := Lib.hid (And.intro (show Old W5 Ya by rw [← hYa]; exact (Keeps.refl _ _).alloc _) (show SeesR Ya 4 It.cells (.slice (some ⟨W5.heap.size, 0, none⟩) 1 1) ([3].map kIt) by rw [← hYa]; exact SeesR.new (k := 4) (enc := It.cells) W5 _ (0, 0) ([3].map kIt) _ (by rfl) (fun _ => rfl) (by unfold maxLen; simp)))
      have zYa : Ya.heap.size = W5.heap.size + 1 := by rw [← hYa]; simp
      clear hYa
      refine wpList_runTo rfl (some 57) rfl (.agg #[.int .u64 1, .int .u64 3, .slice (some ⟨W5.heap.size, 0, none⟩) 1 1, .slice none 0 0, .bool false]) Ya (by kernel_rfl) ?_
      refine wpList_runTo rfl (some 58) rfl (.agg #[.int .u64 1, .int .u64 0, .string ⟨#[]⟩, .slice none 0 0]) Ya (by kernel_rfl) ?_
      refine wpList_runTo rfl (some 59) rfl (.slice (some ⟨Ya.heap.size, 0, none⟩) 1 1) (Ya.alloc (.cells #[.int .u64 1, .int .u64 0, .string ⟨#[]⟩, .slice none 0 0] 46)) (by kernel_rfl) ?_
      obtain ⟨Yb, hYb⟩ : ∃ W, Ya.alloc (.cells #[.int .u64 1, .int .u64 0, .string ⟨#[]⟩, .slice none 0 0] 46) = W := ⟨_, rfl⟩
      rw [hYb]
      have HYb := Lib.hid (And.intro (show Old Ya Yb by rw [← hYb]; exact (Keeps.refl _ _).alloc _) (show SeesR Yb 4 It.cells (.slice (some ⟨Ya.heap.size, 0, none⟩) 1 1) ([1].map kIt) by rw [← hYb]; exact SeesR.new (k := 4) (enc := It.cells) Ya _ (0, 0) ([1].map kIt) _ (by rfl) (fun _ => rfl) (by unfold maxLen; simp)))
      have zYb : Yb.heap.size = Ya.heap.size + 1 := by rw [← hYb]; simp
      clear hYb
      refine wpList_runTo rfl (some 60) rfl (.agg #[.int .u64 2, .int .u64 3, .slice (some ⟨Ya.heap.size, 0, none⟩) 1 1, .slice none 0 0, .bool false]) Yb (by kernel_rfl) ?_
      refine wpList_runTo rfl (some 61) rfl (.agg #[.int .u64 2, .int .u64 0, .string ⟨#[]⟩, .slice none 0 0]) Yb (by kernel_rfl) ?_
      refine wpList_runTo rfl (some 62) rfl (.agg #[.int .u64 2, .int .u64 0, .string ⟨#[]⟩, .slice none 0 0]) Yb (by kernel_rfl) ?_
      refine wpList_runTo rfl (some 63) rfl (.slice (some ⟨Yb.heap.size, 0, none⟩) 2 2) (Yb.alloc (.cells #[.int .u64 2, .int .u64 0, .string ⟨#[]⟩, .slice none 0 0, .int .u64 2, .int .u64 0, .string ⟨#[]⟩, .slice none 0 0] 46)) (by kernel_rfl) ?_
      obtain ⟨Yc, hYc⟩ : ∃ W, Yb.alloc (.cells #[.int .u64 2, .int .u64 0, .string ⟨#[]⟩, .slice none 0 0, .int .u64 2, .int .u64 0, .string ⟨#[]⟩, .slice none 0 0] 46) = W := ⟨_, rfl⟩
      rw [hYc]
      have HYc := Lib.hid (And.intro (show Old Yb Yc by rw [← hYc]; exact (Keeps.refl _ _).alloc _) (show SeesR Yc 4 It.cells (.slice (some ⟨Yb.heap.size, 0, none⟩) 2 2) ([2, 2].map kIt) by rw [← hYc]; exact SeesR.new (k := 4) (enc := It.cells) Yb _ (0, 0) ([2, 2].map kIt) _ (by rfl) (fun _ => rfl) (by unfold maxLen; simp)))
      have zYc : Yc.heap.size = Yb.heap.size + 1 := by rw [← hYc]; simp
      clear hYc
      refine wpList_runTo rfl (some 64) rfl (.agg #[.int .u64 1, .int .u64 5, .slice (some ⟨Yb.heap.size, 0, none⟩) 2 2, .slice none 0 0, .bool false]) Yc (by kernel_rfl) ?_
      refine wpList_runTo rfl (some 65) rfl (.agg #[.int .u64 3, .int .u64 2]) Yc (by kernel_rfl) ?_
      refine wpList_runTo rfl (some 66) rfl (.slice (some ⟨Yc.heap.size, 0, none⟩) 1 1) (Yc.alloc (.cells #[.int .u64 3, .int .u64 2] 82)) (by kernel_rfl) ?_
      obtain ⟨Yd, hYd⟩ : ∃ W, Yc.alloc (.cells #[.int .u64 3, .int .u64 2] 82) = W := ⟨_, rfl⟩
      rw [hYd]
      have HYd := Lib.hid (And.intro (show Old Yc Yd by rw [← hYd]; exact (Keeps.refl _ _).alloc _) (show SeesR Yd 2 gapL (.slice (some ⟨Yc.heap.size, 0, none⟩) 1 1) ([(3, 2)] : List PGap) by rw [← hYd]; exact SeesR.new (k := 2) (enc := gapL) Yc _ (0, 0) ([(3, 2)] : List PGap) _ (by rfl) (fun _ => rfl) (by unfold maxLen; simp)))
      have zYd : Yd.heap.size = Yc.heap.size + 1 := by rw [← hYd]; simp
      clear hYd
      refine wpList_runTo rfl (some 67) rfl (.agg #[.int .u64 1, .int .u64 5, .slice none 0 0, .slice (some ⟨Yc.heap.size, 0, none⟩) 1 1, .bool false]) Yd (by kernel_rfl) ?_
      refine wpList_runTo rfl (some 68) rfl (.agg #[.int .u64 1, .int .u64 5]) Yd (by kernel_rfl) ?_
      refine wpList_runTo rfl (some 69) rfl (.slice (some ⟨Yd.heap.size, 0, none⟩) 1 1) (Yd.alloc (.cells #[.int .u64 1, .int .u64 5] 82)) (by kernel_rfl) ?_
      obtain ⟨Ye, hYe⟩ : ∃ W, Yd.alloc (.cells #[.int .u64 1, .int .u64 5] 82) = W := ⟨_, rfl⟩
      rw [hYe]
      have HYe := Lib.hid (And.intro (show Old Yd Ye by rw [← hYe]; exact (Keeps.refl _ _).alloc _) (show SeesR Ye 2 gapL (.slice (some ⟨Yd.heap.size, 0, none⟩) 1 1) ([(1, 5)] : List PGap) by rw [← hYe]; exact SeesR.new (k := 2) (enc := gapL) Yd _ (0, 0) ([(1, 5)] : List PGap) _ (by rfl) (fun _ => rfl) (by unfold maxLen; simp)))
      have zYe : Ye.heap.size = Yd.heap.size + 1 := by rw [← hYe]; simp
      clear hYe
      refine wpList_runTo rfl (some 70) rfl (.agg #[.int .u64 1, .int .u64 5, .slice none 0 0, .slice (some ⟨Yd.heap.size, 0, none⟩) 1 1, .bool false]) Ye (by kernel_rfl) ?_
      refine wpList_runTo rfl (some 71) rfl (.agg #[.int .u64 1, .int .u64 2]) Ye (by kernel_rfl) ?_
      refine wpList_runTo rfl (some 72) rfl (.agg #[.int .u64 2, .int .u64 3]) Ye (by kernel_rfl) ?_
      refine wpList_runTo rfl (some 73) rfl (.slice (some ⟨Ye.heap.size, 0, none⟩) 2 2) (Ye.alloc (.cells #[.int .u64 1, .int .u64 2, .int .u64 2, .int .u64 3] 82)) (by kernel_rfl) ?_
      obtain ⟨Yf, hYf⟩ : ∃ W, Ye.alloc (.cells #[.int .u64 1, .int .u64 2, .int .u64 2, .int .u64 3] 82) = W := ⟨_, rfl⟩
      rw [hYf]
      have HYf := Lib.hid (And.intro (show Old Ye Yf by rw [← hYf]; exact (Keeps.refl _ _).alloc _) (show SeesR Yf 2 gapL (.slice (some ⟨Ye.heap.size, 0, none⟩) 2 2) ([(1, 2), (2, 3)] : List PGap) by rw [← hYf]; exact SeesR.new (k := 2) (enc := gapL) Ye _ (0, 0) ([(1, 2), (2, 3)] : List PGap) _ (by rfl) (fun _ => rfl) (by unfold maxLen; simp)))
      have zYf : Yf.heap.size = Ye.heap.size + 1 := by rw [← hYf]; simp
      clear hYf
      refine wpList_runTo rfl (some 74) rfl (.agg #[.int .u64 1, .int .u64 5, .slice none 0 0, .slice (some ⟨Ye.heap.size, 0, none⟩) 2 2, .bool false]) Yf (by kernel_rfl) ?_
      refine wpList_runTo rfl (some 75) rfl (.agg #[.int .u64 2, .int .u64 0, .string ⟨#[]⟩, .slice none 0 0]) Yf (by kernel_rfl) ?_
      refine wpList_runTo rfl (some 76) rfl (.slice (some ⟨Yf.heap.size, 0, none⟩) 1 1) (Yf.alloc (.cells #[.int .u64 2, .int .u64 0, .string ⟨#[]⟩, .slice none 0 0] 46)) (by kernel_rfl) ?_
      obtain ⟨Yg, hYg⟩ : ∃ W, Yf.alloc (.cells #[.int .u64 2, .int .u64 0, .string ⟨#[]⟩, .slice none 0 0] 46) = W := ⟨_, rfl⟩
      rw [hYg]
      have HYg := Lib.hid (And.intro (show Old Yf Yg by rw [← hYg]; exact (Keeps.refl _ _).alloc _) (show SeesR Yg 4 It.cells (.slice (some ⟨Yf.heap.size, 0, none⟩) 1 1) ([2].map kIt) by rw [← hYg]; exact SeesR.new (k := 4) (enc := It.cells) Yf _ (0, 0) ([2].map kIt) _ (by rfl) (fun _ => rfl) (by unfold maxLen; simp)))
      have zYg : Yg.heap.size = Yf.heap.size + 1 := by rw [← hYg]; simp
      clear hYg
      refine wpList_runTo rfl (some 77) rfl (.agg #[.int .u64 1, .int .u64 3]) Yg (by kernel_rfl) ?_
      refine wpList_runTo rfl (some 78) rfl (.slice (some ⟨Yg.heap.size, 0, none⟩) 1 1) (Yg.alloc (.cells #[.int .u64 1, .int .u64 3] 82)) (by kernel_rfl) ?_
      obtain ⟨Yh, hYh⟩ : ∃ W, Yg.alloc (.cells #[.int .u64 1, .int .u64 3] 82) = W := ⟨_, rfl⟩
      rw [hYh]
      have HYh := Lib.hid (And.intro (show Old Yg Yh by rw [← hYh]; exact (Keeps.refl _ _).alloc _) (show SeesR Yh 2 gapL (.slice (some ⟨Yg.heap.size, 0, none⟩) 1 1) ([(1, 3)] : List PGap) by rw [← hYh]; exact SeesR.new (k := 2) (enc := gapL) Yg _ (0, 0) ([(1, 3)] : List PGap) _ (by rfl) (fun _ => rfl) (by unfold maxLen; simp)))
      have zYh : Yh.heap.size = Yg.heap.size + 1 := by rw [← hYh]; simp
      clear hYh
      refine wpList_runTo rfl (some 79) rfl (.agg #[.int .u64 1, .int .u64 5, .slice (some ⟨Yf.heap.size, 0, none⟩) 1 1, .slice (some ⟨Yg.heap.size, 0, none⟩) 1 1, .bool false]) Yh (by kernel_rfl) ?_
      refine wpList_runTo rfl (some 80) rfl (.agg #[.int .u64 0, .int .u64 0, .slice none 0 0, .slice none 0 0, .bool false, .int .u64 2, .int .u64 1, .slice none 0 0, .slice none 0 0, .bool false, .int .u64 1, .int .u64 1099511627778, .slice none 0 0, .slice none 0 0, .bool false, .int .u64 1, .int .u64 3, .slice (some ⟨W5.heap.size, 0, none⟩) 1 1, .slice none 0 0, .bool false, .int .u64 2, .int .u64 3, .slice (some ⟨Ya.heap.size, 0, none⟩) 1 1, .slice none 0 0, .bool false, .int .u64 1, .int .u64 5, .slice (some ⟨Yb.heap.size, 0, none⟩) 2 2, .slice none 0 0, .bool false, .int .u64 1, .int .u64 5, .slice none 0 0, .slice (some ⟨Yc.heap.size, 0, none⟩) 1 1, .bool false, .int .u64 1, .int .u64 5, .slice none 0 0, .slice (some ⟨Yd.heap.size, 0, none⟩) 1 1, .bool false, .int .u64 1, .int .u64 5, .slice none 0 0, .slice (some ⟨Ye.heap.size, 0, none⟩) 2 2, .bool false, .int .u64 1, .int .u64 5, .slice (some ⟨Yf.heap.size, 0, none⟩) 1 1, .slice (some ⟨Yg.heap.size, 0, none⟩) 1 1, .bool false]) Yh (by kernel_rfl) ?_
      refine wpList_runTo rfl (some 6) rfl (.pointer (some ⟨Yh.heap.size, 0, none⟩)) (Yh.alloc (.cells #[.int .u64 0, .int .u64 0, .slice none 0 0, .slice none 0 0, .bool false, .int .u64 0, .int .u64 0, .slice none 0 0, .slice none 0 0, .bool false, .int .u64 0, .int .u64 0, .slice none 0 0, .slice none 0 0, .bool false, .int .u64 0, .int .u64 0, .slice none 0 0, .slice none 0 0, .bool false, .int .u64 0, .int .u64 0, .slice none 0 0, .slice none 0 0, .bool false, .int .u64 0, .int .u64 0, .slice none 0 0, .slice none 0 0, .bool false, .int .u64 0, .int .u64 0, .slice none 0 0, .slice none 0 0, .bool false, .int .u64 0, .int .u64 0, .slice none 0 0, .slice none 0 0, .bool false, .int .u64 0, .int .u64 0, .slice none 0 0, .slice none 0 0, .bool false, .int .u64 0, .int .u64 0, .slice none 0 0, .slice none 0 0, .bool false] 83)) (by kernel_rfl) ?_
      have hst := run_storeAt_new (P := Try.prog) Yh 83 #[.int .u64 0, .int .u64 0, .slice none 0 0, .slice none 0 0, .bool false, .int .u64 0, .int .u64 0, .slice none 0 0, .slice none 0 0, .bool false, .int .u64 0, .int .u64 0, .slice none 0 0, .slice none 0 0, .bool false, .int .u64 0, .int .u64 0, .slice none 0 0, .slice none 0 0, .bool false, .int .u64 0, .int .u64 0, .slice none 0 0, .slice none 0 0, .bool false, .int .u64 0, .int .u64 0, .slice none 0 0, .slice none 0 0, .bool false, .int .u64 0, .int .u64 0, .slice none 0 0, .slice none 0 0, .bool false, .int .u64 0, .int .u64 0, .slice none 0 0, .slice none 0 0, .bool false, .int .u64 0, .int .u64 0, .slice none 0 0, .slice none 0 0, .bool false, .int .u64 0, .int .u64 0, .slice none 0 0, .slice none 0 0, .bool false] #[.int .u64 0, .int .u64 0, .slice none 0 0, .slice none 0 0, .bool false, .int .u64 2, .int .u64 1, .slice none 0 0, .slice none 0 0, .bool false, .int .u64 1, .int .u64 1099511627778, .slice none 0 0, .slice none 0 0, .bool false, .int .u64 1, .int .u64 3, .slice (some ⟨W5.heap.size, 0, none⟩) 1 1, .slice none 0 0, .bool false, .int .u64 2, .int .u64 3, .slice (some ⟨Ya.heap.size, 0, none⟩) 1 1, .slice none 0 0, .bool false, .int .u64 1, .int .u64 5, .slice (some ⟨Yb.heap.size, 0, none⟩) 2 2, .slice none 0 0, .bool false, .int .u64 1, .int .u64 5, .slice none 0 0, .slice (some ⟨Yc.heap.size, 0, none⟩) 1 1, .bool false, .int .u64 1, .int .u64 5, .slice none 0 0, .slice (some ⟨Yd.heap.size, 0, none⟩) 1 1, .bool false, .int .u64 1, .int .u64 5, .slice none 0 0, .slice (some ⟨Ye.heap.size, 0, none⟩) 2 2, .bool false, .int .u64 1, .int .u64 5, .slice (some ⟨Yf.heap.size, 0, none⟩) 1 1, .slice (some ⟨Yg.heap.size, 0, none⟩) 1 1, .bool false] (by kernel_rfl) (by rfl) (by simp [Value.oneCell'])
      refine wpList_skipTo rfl (Yh.alloc (.cells #[.int .u64 0, .int .u64 0, .slice none 0 0, .slice none 0 0, .bool false, .int .u64 2, .int .u64 1, .slice none 0 0, .slice none 0 0, .bool false, .int .u64 1, .int .u64 1099511627778, .slice none 0 0, .slice none 0 0, .bool false, .int .u64 1, .int .u64 3, .slice (some ⟨W5.heap.size, 0, none⟩) 1 1, .slice none 0 0, .bool false, .int .u64 2, .int .u64 3, .slice (some ⟨Ya.heap.size, 0, none⟩) 1 1, .slice none 0 0, .bool false, .int .u64 1, .int .u64 5, .slice (some ⟨Yb.heap.size, 0, none⟩) 2 2, .slice none 0 0, .bool false, .int .u64 1, .int .u64 5, .slice none 0 0, .slice (some ⟨Yc.heap.size, 0, none⟩) 1 1, .bool false, .int .u64 1, .int .u64 5, .slice none 0 0, .slice (some ⟨Yd.heap.size, 0, none⟩) 1 1, .bool false, .int .u64 1, .int .u64 5, .slice none 0 0, .slice (some ⟨Ye.heap.size, 0, none⟩) 2 2, .bool false, .int .u64 1, .int .u64 5, .slice (some ⟨Yf.heap.size, 0, none⟩) 1 1, .slice (some ⟨Yg.heap.size, 0, none⟩) 1 1, .bool false] 83)) (run_store_op (x := .tmp 6) (y := .tmp 80) hst _ rfl (by kernel_rfl) (by kernel_rfl)) ?_
      obtain ⟨Wz, hWz⟩ : ∃ W, Yh.alloc (.cells #[.int .u64 0, .int .u64 0, .slice none 0 0, .slice none 0 0, .bool false, .int .u64 2, .int .u64 1, .slice none 0 0, .slice none 0 0, .bool false, .int .u64 1, .int .u64 1099511627778, .slice none 0 0, .slice none 0 0, .bool false, .int .u64 1, .int .u64 3, .slice (some ⟨W5.heap.size, 0, none⟩) 1 1, .slice none 0 0, .bool false, .int .u64 2, .int .u64 3, .slice (some ⟨Ya.heap.size, 0, none⟩) 1 1, .slice none 0 0, .bool false, .int .u64 1, .int .u64 5, .slice (some ⟨Yb.heap.size, 0, none⟩) 2 2, .slice none 0 0, .bool false, .int .u64 1, .int .u64 5, .slice none 0 0, .slice (some ⟨Yc.heap.size, 0, none⟩) 1 1, .bool false, .int .u64 1, .int .u64 5, .slice none 0 0, .slice (some ⟨Yd.heap.size, 0, none⟩) 1 1, .bool false, .int .u64 1, .int .u64 5, .slice none 0 0, .slice (some ⟨Ye.heap.size, 0, none⟩) 2 2, .bool false, .int .u64 1, .int .u64 5, .slice (some ⟨Yf.heap.size, 0, none⟩) 1 1, .slice (some ⟨Yg.heap.size, 0, none⟩) 1 1, .bool false] 83) = W := ⟨_, rfl⟩
      rw [hWz]
      refine wpList_nil ?_
      try simp only [Act.put, List.setIfInBounds_toArray, List.set_cons_zero, List.set_cons_succ]
      obtain ⟨Lp, hLp⟩ : ∃ L : List Pg, [kPg 0 0 (.slice none 0 0) [] (.slice none 0 0) [], kPg 2 1 (.slice none 0 0) [] (.slice none 0 0) [], kPg 1 1099511627778 (.slice none 0 0) [] (.slice none 0 0) [], kPg 1 3 (.slice (some ⟨W5.heap.size, 0, none⟩) 1 1) [3] (.slice none 0 0) [], kPg 2 3 (.slice (some ⟨Ya.heap.size, 0, none⟩) 1 1) [1] (.slice none 0 0) [], kPg 1 5 (.slice (some ⟨Yb.heap.size, 0, none⟩) 2 2) [2, 2] (.slice none 0 0) [], kPg 1 5 (.slice none 0 0) [] (.slice (some ⟨Yc.heap.size, 0, none⟩) 1 1) [(3, 2)], kPg 1 5 (.slice none 0 0) [] (.slice (some ⟨Yd.heap.size, 0, none⟩) 1 1) [(1, 5)], kPg 1 5 (.slice none 0 0) [] (.slice (some ⟨Ye.heap.size, 0, none⟩) 2 2) [(1, 2), (2, 3)], kPg 1 5 (.slice (some ⟨Yf.heap.size, 0, none⟩) 1 1) [2] (.slice (some ⟨Yg.heap.size, 0, none⟩) 1 1) [(1, 3)]] = L := ⟨_, rfl⟩
      have oz : Old Yh Wz := by rw [← hWz]; exact (Keeps.refl _ _).alloc _
      have sP : SeesR Wz 5 Pg.cells (.slice (some ⟨Yh.heap.size, 0, none⟩) 10 10) Lp := by rw [← hLp, ← hWz]; exact SeesR.new (k := 5) (enc := Pg.cells) Yh _ (0, 0) [kPg 0 0 (.slice none 0 0) [] (.slice none 0 0) [], kPg 2 1 (.slice none 0 0) [] (.slice none 0 0) [], kPg 1 1099511627778 (.slice none 0 0) [] (.slice none 0 0) [], kPg 1 3 (.slice (some ⟨W5.heap.size, 0, none⟩) 1 1) [3] (.slice none 0 0) [], kPg 2 3 (.slice (some ⟨Ya.heap.size, 0, none⟩) 1 1) [1] (.slice none 0 0) [], kPg 1 5 (.slice (some ⟨Yb.heap.size, 0, none⟩) 2 2) [2, 2] (.slice none 0 0) [], kPg 1 5 (.slice none 0 0) [] (.slice (some ⟨Yc.heap.size, 0, none⟩) 1 1) [(3, 2)], kPg 1 5 (.slice none 0 0) [] (.slice (some ⟨Yd.heap.size, 0, none⟩) 1 1) [(1, 5)], kPg 1 5 (.slice none 0 0) [] (.slice (some ⟨Ye.heap.size, 0, none⟩) 2 2) [(1, 2), (2, 3)], kPg 1 5 (.slice (some ⟨Yf.heap.size, 0, none⟩) 1 1) [2] (.slice (some ⟨Yg.heap.size, 0, none⟩) 1 1) [(1, 3)]] _ (by rfl) (fun _ => rfl) (by unfold maxLen; simp)
      have oh := HYh.out.1.trans oz
      have og := HYg.out.1.trans oh
      have of_ := HYf.out.1.trans og
      have oe := HYe.out.1.trans of_
      have od := HYd.out.1.trans oe
      have oc := HYc.out.1.trans od
      have ob := HYb.out.1.trans oc
      have oa := HYa.out.1.trans ob
      have hzz := oz.size
      have fin : ∀ x ∈ Lp, x.fine Wz := by
        rw [← hLp]
        intro x hx
        simp only [List.mem_cons, List.not_mem_nil, or_false] at hx
        rcases hx with rfl | rfl | rfl | rfl | rfl | rfl | rfl | rfl | rfl | rfl
        · exact kPg_fine _ _ _ [] _ [] (SeesR.nil _) (SeesR.nil _) (by decide) (by decide) (by decide) (by decide) (fun b hb => by simp [Value.ownBlock] at hb) (fun b hb => by simp [Value.ownBlock] at hb)
        · exact kPg_fine _ _ _ [] _ [] (SeesR.nil _) (SeesR.nil _) (by decide) (by decide) (by decide) (by decide) (fun b hb => by simp [Value.ownBlock] at hb) (fun b hb => by simp [Value.ownBlock] at hb)
        · exact kPg_fine _ _ _ [] _ [] (SeesR.nil _) (SeesR.nil _) (by decide) (by decide) (by decide) (by decide) (fun b hb => by simp [Value.ownBlock] at hb) (fun b hb => by simp [Value.ownBlock] at hb)
        · exact kPg_fine _ _ _ [3] _ [] (HYa.out.2.old ob) (SeesR.nil _) (by decide) (by decide) (by decide) (by decide) (fun b hb => by simp [Value.ownBlock] at hb; omega) (fun b hb => by simp [Value.ownBlock] at hb)
        · exact kPg_fine _ _ _ [1] _ [] (HYb.out.2.old oc) (SeesR.nil _) (by decide) (by decide) (by decide) (by decide) (fun b hb => by simp [Value.ownBlock] at hb; omega) (fun b hb => by simp [Value.ownBlock] at hb)
        · exact kPg_fine _ _ _ [2, 2] _ [] (HYc.out.2.old od) (SeesR.nil _) (by decide) (by decide) (by decide) (by decide) (fun b hb => by simp [Value.ownBlock] at hb; omega) (fun b hb => by simp [Value.ownBlock] at hb)
        · exact kPg_fine _ _ _ [] _ [(3, 2)] (SeesR.nil _) (HYd.out.2.old oe) (by decide) (by decide) (by decide) (by decide) (fun b hb => by simp [Value.ownBlock] at hb) (fun b hb => by simp [Value.ownBlock] at hb; omega)
        · exact kPg_fine _ _ _ [] _ [(1, 5)] (SeesR.nil _) (HYe.out.2.old of_) (by decide) (by decide) (by decide) (by decide) (fun b hb => by simp [Value.ownBlock] at hb) (fun b hb => by simp [Value.ownBlock] at hb; omega)
        · exact kPg_fine _ _ _ [] _ [(1, 2), (2, 3)] (SeesR.nil _) (HYf.out.2.old og) (by decide) (by decide) (by decide) (by decide) (fun b hb => by simp [Value.ownBlock] at hb) (fun b hb => by simp [Value.ownBlock] at hb; omega)
        · exact kPg_fine _ _ _ [2] _ [(1, 3)] (HYg.out.2.old oh) (HYh.out.2.old oz) (by decide) (by decide) (by decide) (by decide) (fun b hb => by simp [Value.ownBlock] at hb; omega) (fun b hb => by simp [Value.ownBlock] at hb; omega)
      have bad : ∀ x ∈ Lp, pgOk x.plain = false := by
        rw [← hLp]
        intro x hx
        simp only [List.mem_cons, List.not_mem_nil, or_false] at hx
        rcases hx with rfl | rfl | rfl | rfl | rfl | rfl | rfl | rfl | rfl | rfl
        · show pgOk ⟨0, 0, (List.map kIt []).map It.plain, [], false⟩ = false; decide +kernel
        · show pgOk ⟨2, 1, (List.map kIt []).map It.plain, [], false⟩ = false; decide +kernel
        · show pgOk ⟨1, 1099511627778, (List.map kIt []).map It.plain, [], false⟩ = false; decide +kernel
        · show pgOk ⟨1, 3, (List.map kIt [3]).map It.plain, [], false⟩ = false; decide +kernel
        · show pgOk ⟨2, 3, (List.map kIt [1]).map It.plain, [], false⟩ = false; decide +kernel
        · show pgOk ⟨1, 5, (List.map kIt [2, 2]).map It.plain, [], false⟩ = false; decide +kernel
        · show pgOk ⟨1, 5, (List.map kIt []).map It.plain, [(3, 2)], false⟩ = false; decide +kernel
        · show pgOk ⟨1, 5, (List.map kIt []).map It.plain, [(1, 5)], false⟩ = false; decide +kernel
        · show pgOk ⟨1, 5, (List.map kIt []).map It.plain, [(1, 2), (2, 3)], false⟩ = false; decide +kernel
        · show pgOk ⟨1, 5, (List.map kIt [2]).map It.plain, [(1, 3)], false⟩ = false; decide +kernel
      have len : Lp.length = 10 := by rw [← hLp]; rfl
      have TP := Lib.hid (And.intro sP (And.intro fin (And.intro bad (And.intro len oa))))
      clear hst hWz hLp oz sP oh og of_ oe od oc ob oa fin bad len HYa HYb HYc HYd HYe HYf HYg HYh zYa zYb zYc zYd zYe zYf zYg zYh hzz
      go_wp2_with fail
      obtain ⟨wo, rfl⟩ : ∃ wo : World, wo = wr := ⟨_, rfl⟩
      go_loopw [7] (fun v7 wr => ∃ i : Nat, i ≤ 10 ∧ v7 = .int .i64 i ∧ Old Wz wr) (fun v7 _ => 10 - (intOf v7).toNat)
      case atStart => exact ⟨0, by omega, rfl, Keeps.refl _ _⟩
      case round =>
        obtain ⟨i, hi, rfl, hk⟩ := hrel
        by_cases hlt : i < 10
        · obtain ⟨x, hx⟩ : ∃ x, Lp[i]? = some x := ⟨_, List.getElem?_eq_getElem (by have := TP.out.2.2.2.1; omega)⟩
          have hmem := List.mem_of_getElem? hx
          have hf := Pg.fine.old (TP.out.2.1 x hmem) hk
          have hb := TP.out.2.2.1 x hmem
          obtain ⟨bb, oo, cc, he, _, _, hcell⟩ := TP.out.1.at (by have := TP.out.2.2.2.1; omega)
          simp only [Value.slice.injEq, Option.some.injEq, Addr.mk.injEq, and_true] at he
          obtain ⟨⟨rfl, rfl⟩, _, rfl⟩ := he
          have C := may_page_any x _ hf
          rw [hb] at C
          obtain ⟨fr, en, iv, its, gv, gs, last⟩ := x
          obtain ⟨q1, d1, e1, _, _⟩ := hf.1.1.len
          obtain ⟨q2, d2, e2, _, _⟩ := hf.1.2.2.len
          simp only at e1 e2
          subst e1 e2
          have c0 := hk.cell (hcell i _ hx 0 _ rfl) (fun f => f)
          have c1 := hk.cell (hcell i _ hx 1 _ rfl) (fun f => f)
          have c2 := hk.cell (hcell i _ hx 2 _ rfl) (fun f => f)
          have c3 := hk.cell (hcell i _ hx 3 _ rfl) (fun f => f)
          have c4 := hk.cell (hcell i _ hx 4 _ rfl) (fun f => f)
          simp only [Nat.zero_add, Nat.add_zero] at c0 c1 c2 c3 c4
          unfold Pg.cells at C
          have HC := Lib.hid C
          have HK := Lib.hid hk
          have i1 : (0 : Int) ≤ (i : Int) := by omega
          have i2 : (i : Int) < 10 := by omega
          clear C hf hb hcell hx hmem hk
          go_wp2_with fail
          refine HC.out.mono ?_
          rintro e w2 ⟨rfl, k2⟩
          have K2 := Lib.hid (HK.out.trans k2)
          clear k2 HC HK
          go_wp2_with fail
          go_roundw
          case rel => exact ⟨i + 1, by omega, by go_num, K2.out⟩
          case measure => simp [intOf]; omega
        · have HK := Lib.hid (TP.out.2.2.2.2.trans hk)
          clear hk
          obtain ⟨M1, hM1⟩ : ∃ W, wr.alloc (.cells #[.string ⟨#[97]⟩, .int .i64 1, .int .i64 (-9223372036854775808), .string ⟨#[]⟩, .bool false] 80) = W := ⟨_, rfl⟩
          have oM1 : Old wr M1 := by rw [← hM1]; exact (Keeps.refl _ _).alloc _
          have sM1 : SeesA M1 (.slice (some ⟨wr.heap.size, 0, none⟩) 1 1) [kMin] := by rw [← hM1]; exact SeesR.new (k := 5) (enc := At.cells) wr _ (0, 0) [kMin] _ (by rfl) (fun _ => rfl) (by unfold maxLen; simp)
          have zM1 : wr.heap.size < M1.heap.size := by rw [← hM1]; simp
          obtain ⟨M2, hM2⟩ : ∃ W, M1.alloc (.cells #[.string ⟨#[]⟩, .slice none 0 0] 24) = W := ⟨_, rfl⟩
          have oM2 : Old M1 M2 := by rw [← hM2]; exact (Keeps.refl _ _).alloc _
          have bM2 : M2.heap[M1.heap.size]? = some (.cells #[.string ⟨#[]⟩, .slice none 0 0] 24 (0, 0)) := by rw [← hM2]; exact heap_alloc_new _ _
          have gM2 := blk2 bM2
          obtain ⟨M3, hM3⟩ : ∃ W, (M2.setCell ⟨M1.heap.size, 0, none⟩ (.string ⟨#[]⟩)).setCell ⟨M1.heap.size, 1, none⟩ (.slice (some ⟨wr.heap.size, 0, none⟩) 1 1) = W := ⟨_, rfl⟩
          have kM3 : Keeps (fun k => k = M1.heap.size) M2 M3 := by rw [← hM3]; exact keep2 _ _
          have oM3 : Old M1 M3 := oM2.then kM3 (fun i hi e => by omega)
          have bM3 : M3.heap[M1.heap.size]? = some (.cells #[.string ⟨#[]⟩, .slice (some ⟨wr.heap.size, 0, none⟩) 1 1] 24 (0, 0)) := by
            rw [← hM3]
            have h0 := heap_setCell_same M2 M1.heap.size 0 _ _ (.string ⟨#[]⟩) bM2
            have h1 := heap_setCell_same _ M1.heap.size 1 _ _ (.slice (some ⟨wr.heap.size, 0, none⟩) 1 1) h0
            simpa using h1
          have C1 := put_event_u ⟨#[]⟩ _ [kMin] M3 (sM1.old oM3) (fun _ b hb => by have := oM3.size; simp [Value.ownBlock] at hb; omega) kMin_fits
          rw [kMin_ok] at C1
          have HC1 := Lib.hid C1
          have HM := Lib.hid (HK.out.trans (oM1.trans oM3))
          have HM3 := Lib.hid hM3
          clear oM1 sM1 zM1 oM2 bM2 kM3 oM3 C1 hM3
          go_upto_region 16 with fail
          try rw [HM3.out]
          have gM3 := blk2 bM3
          clear gM2 hM1 hM2 HM3 bM3
          go_wp2_with fail
          refine HC1.out.mono ?_
          rintro e w2 ⟨p2, c2, z2, F2, rfl, k2, s2, hF2⟩
          obtain ⟨rfl, rfl⟩ : F2 = evForm ⟨#[]⟩ [kMin] ∧ z2 = 0 := by
            rcases hF2 with ⟨_, h1, h2⟩ | ⟨h, _⟩
            · exact ⟨h1, h2⟩
            · cases h
          have hlen : (evForm ⟨#[]⟩ [kMin]).length ≤ 1000000000 := Nat.le_trans (evForm_le kMin_ok kMin_fits) (by decide)
          have C2 := Lib.hid (take_event_u _ _ w2 s2 hlen)
          have H2 := Lib.hid (HM.out.trans k2)
          clear k2 s2 hF2 hlen gM3 HC1
          go_wp2_with fail
          refine C2.out.mono ?_
          rintro e w3 ⟨key, p3, n3, c3, z3, es, rfl, k3, s3, ht⟩
          obtain ⟨rfl, rfl, rfl⟩ : key = ⟨#[]⟩ ∧ es = [kMin] ∧ z3 = 0 := by
            rw [takeE_form kMin_ok kMin_fits] at ht
            rcases ht with ⟨h1, h2⟩ | ⟨h, _⟩
            · simp only [Option.some.injEq, Prod.mk.injEq] at h1
              exact ⟨h1.1.symm, h1.2.symm, h2⟩
            · cases h
          obtain ⟨a3, o3, cc3, he3, _, _, hcell⟩ := s3.at (by decide)
          have x3 := hcell 0 kMin rfl 2 _ rfl
          simp only [Nat.zero_mul, Nat.add_zero] at x3
          simp only [Value.slice.injEq, List.length_singleton] at he3
          obtain ⟨rfl, rfl, rfl⟩ := he3
          obtain ⟨A1, hA1⟩ : ∃ W, w3.alloc (.cells #[.string ⟨#[]⟩, .slice none 0 0] 24) = W := ⟨_, rfl⟩
          have oA1 : Old w3 A1 := by rw [← hA1]; exact (Keeps.refl _ _).alloc _
          have bA1 : A1.heap[w3.heap.size]? = some (.cells #[.string ⟨#[]⟩, .slice none 0 0] 24 (0, 0)) := by rw [← hA1]; exact heap_alloc_new _ _
          have gA1 := blk2 bA1
          obtain ⟨A2, hA2⟩ : ∃ W, (A1.setCell ⟨w3.heap.size, 0, none⟩ (.string ⟨#[]⟩)).setCell ⟨w3.heap.size, 1, none⟩ (.slice (some ⟨a3, o3, none⟩) 1 c3) = W := ⟨_, rfl⟩
          have kA2 : Keeps (fun k => k = w3.heap.size) A1 A2 := by rw [← hA2]; exact keep2 _ _
          have oA2 : Old w3 A2 := oA1.then kA2 (fun i hi e => by omega)
          have bA2 : A2.heap[w3.heap.size]? = some (.cells #[.string ⟨#[]⟩, .slice (some ⟨a3, o3, none⟩) 1 c3] 24 (0, 0)) := by
            rw [← hA2]
            have h0 := heap_setCell_same A1 w3.heap.size 0 _ _ (.string ⟨#[]⟩) bA1
            have h1 := heap_setCell_same _ w3.heap.size 1 _ _ (.slice (some ⟨a3, o3, none⟩) 1 c3) h0
            simpa using h1
          have H3 := Lib.hid (And.intro (H2.out.trans (k3.trans oA2)) (And.intro bA2 (oA2.cell x3 (fun f => f))))
          have HA2 := Lib.hid hA2
          clear k3 s3 ht x3 hcell oA1 bA1 kA2 oA2 bA2 hA2 C2
          go_upto_region 18 with fail
          try rw [HA2.out]
          clear gA1 hA1 HA2
          obtain ⟨B1, hB1⟩ : ∃ W, A2.alloc (.cells #[.int .u8 7] 5) = W := ⟨_, rfl⟩
          have oB1 : Old A2 B1 := by rw [← hB1]; exact (Keeps.refl _ _).alloc _
          have sB1 : Sees B1 (.slice (some ⟨A2.heap.size, 0, none⟩) 1 1) [7] := by rw [← hB1]; exact (Owns.lit A2 0 [7] (Nat.zero_le _) (by unfold maxLen; simp)).sees
          have C4 := Lib.hid (take_pred_u _ _ B1 sB1 (by decide))
          have H4' := Lib.hid oB1
          clear oB1 sB1
          go_wp2_with fail
          refine C4.out.mono ?_
          rintro e v4 ⟨p4, n4, c4, cs4, z4, rfl, k4, s4, _, ht⟩
          obtain ⟨rfl, rfl⟩ : cs4 = [] ∧ z4 = 5 := by
            rw [kP7] at ht
            rcases ht with ⟨h, _⟩ | ⟨_, h1, h2⟩
            · cases h
            · exact ⟨h1, h2⟩
          obtain rfl : n4 = 0 := by obtain ⟨_, _, e, _⟩ := s4.1.len; simp only [Value.slice.injEq] at e; exact e.2.1
          have J4 := Lib.hid (H4'.out.trans k4)
          clear k4 s4 ht C4 H4' hB1
          obtain ⟨B2, hB2⟩ : ∃ W, v4.alloc (.cells #[.int .u8 1, .int .u8 1, .int .u8 97, .int .u8 0] 5 (4, 5)) = W := ⟨_, rfl⟩
          have hcv := conv_const v4 #[.int .u8 1, .int .u8 1, .int .u8 97, .int .u8 0] 4 4
          simp only [List.size_toArray, List.length_cons, List.length_nil, Nat.reduceAdd] at hcv
          rw [hB2] at hcv
          have oB2 : Old v4 B2 := by rw [← hB2]; exact (Keeps.refl _ _).alloc _
          have sB2 : Sees B2 (.slice (some ⟨v4.heap.size, 0, none⟩) 4 4) [1, 1, 97, 0] := by rw [← hB2]; exact Sees.marked v4 [1, 1, 97, 0] (4, 5) (by unfold maxLen; simp)
          have C5 := Lib.hid (take_pred_u _ _ B2 sB2 (by decide))
          have H5' := Lib.hid oB2
          clear oB2 sB2
          go_wp2_with fail
          refine C5.out.mono ?_
          rintro e v5 ⟨p5, n5, c5, cs5, z5, rfl, k5, s5, _, ht⟩
          obtain ⟨rfl, rfl⟩ : cs5 = [] ∧ z5 = 5 := by
            rw [kP4] at ht
            rcases ht with ⟨h, _⟩ | ⟨_, h1, h2⟩
            · cases h
            · exact ⟨h1, h2⟩
          obtain rfl : n5 = 0 := by obtain ⟨_, _, e, _⟩ := s5.1.len; simp only [Value.slice.injEq] at e; exact e.2.1
          have J5 := Lib.hid (H5'.out.trans k5)
          clear k5 s5 ht C5 H5' hB2 hcv
          obtain ⟨B3, hB3⟩ : ∃ W, v5.alloc (.cells #[.int .u8 0] 5) = W := ⟨_, rfl⟩
          have oB3 : Old v5 B3 := by rw [← hB3]; exact (Keeps.refl _ _).alloc _
          have sB3 : Sees B3 (.slice (some ⟨v5.heap.size, 0, none⟩) 1 1) [0] := by rw [← hB3]; exact (Owns.lit v5 0 [0] (Nat.zero_le _) (by unfold maxLen; simp)).sees
          have C6 := Lib.hid (take_pred_u _ _ B3 sB3 (by decide))
          have H6' := Lib.hid oB3
          clear oB3 sB3
          go_wp2_with fail
          refine C6.out.mono ?_
          rintro e v6 ⟨p6, n6, c6, cs6, z6, rfl, k6, s6, _, ht⟩
          obtain ⟨rfl, rfl⟩ : cs6 = [] ∧ z6 = 0 := by
            rw [kP0] at ht
            rcases ht with ⟨h, h2⟩ | ⟨h, _⟩
            · simp only [Option.some.injEq] at h
              exact ⟨List.map_eq_nil_iff.1 h.symm, h2⟩
            · cases h
          obtain rfl : n6 = 0 := by obtain ⟨_, _, e, _⟩ := s6.1.len; simp only [Value.slice.injEq] at e; exact e.2.1
          have J6 := Lib.hid (H6'.out.trans k6)
          clear k6 s6 ht C6 H6' hB3
          obtain ⟨B4, hB4⟩ : ∃ W, v6.alloc (.cells #[.int .u8 1, .int .u8 1, .int .u8 0, .int .u8 0, .int .u8 2] 5) = W := ⟨_, rfl⟩
          have oB4 : Old v6 B4 := by rw [← hB4]; exact (Keeps.refl _ _).alloc _
          have sB4 : Sees B4 (.slice (some ⟨v6.heap.size, 0, none⟩) 5 5) [1, 1, 0, 0, 2] := by rw [← hB4]; exact (Owns.lit v6 0 [1, 1, 0, 0, 2] (Nat.zero_le _) (by unfold maxLen; simp)).sees
          have C7 := Lib.hid (take_page_u _ _ B4 sB4 (by decide))
          have H7' := Lib.hid oB4
          clear oB4 sB4
          go_wp2_with fail
          refine C7.out.mono ?_
          rintro e v7 ⟨fr, en, p7, n7, c7, is7, q7, m7, d7, gs7, la7, z7, rfl, k7, s7, ht⟩
          obtain ⟨rfl, rfl, rfl, rfl, rfl⟩ : fr = 0 ∧ en = 0 ∧ la7 = false ∧ n7 = 0 ∧ m7 = 0 := by
            rw [kG] at ht
            rcases ht with ⟨h, _⟩ | ⟨_, h1, h2, _, _, h5, h6, h7, _⟩
            · cases h
            · exact ⟨h1, h2, h5, h6, h7⟩
          obtain rfl : z7 = 5 := by
            rw [kG] at ht
            rcases ht with ⟨h, _⟩ | ⟨_, _, _, _, _, _, _, _, h8⟩
            · cases h
            · exact h8
          obtain ⟨D1, hD1⟩ : ∃ W, v7.alloc (.cells #[.int .u64 0, .int .u64 0, .slice none 0 0, .slice none 0 0, .bool false] 50) = W := ⟨_, rfl⟩
          have oD1 : Old v7 D1 := by rw [← hD1]; exact (Keeps.refl _ _).alloc _
          have bD1 : D1.heap[v7.heap.size]? = some (.cells #[.int .u64 0, .int .u64 0, .slice none 0 0, .slice none 0 0, .bool false] 50 (0, 0)) := by rw [← hD1]; exact heap_alloc_new _ _
          have gD1 := blk5 bD1
          obtain ⟨D2, hD2⟩ : ∃ W, ((((D1.setCell ⟨v7.heap.size, 0, none⟩ (.int .u64 0)).setCell ⟨v7.heap.size, 1, none⟩ (.int .u64 0)).setCell ⟨v7.heap.size, 2, none⟩ (.slice p7 0 c7)).setCell ⟨v7.heap.size, 3, none⟩ (.slice q7 0 d7)).setCell ⟨v7.heap.size, 4, none⟩ (.bool false) = W := ⟨_, rfl⟩
          have oD2 : Old v7 D2 := oD1.then (by rw [← hD2]; exact keep5 _ _ : Keeps (fun k => k = v7.heap.size) D1 D2) (fun i hi e => by omega)
          have oA : Old A2 D2 := J4.out.trans (J5.out.trans (J6.out.trans (H7'.out.trans (k7.trans oD2))))
          have b3 := (oA.block _ (lt_of_heap H3.out.2.1) (fun f => f)).trans H3.out.2.1
          have y3 := oA.cell H3.out.2.2 (fun f => f)
          have kD := H3.out.1.trans oA
          have b4 := (kD.block _ (lt_of_heap T5.out.2.2.2.2) (fun f => f)).trans T5.out.2.2.2.2
          have g4 := blk4 b4
          have CI1 := may_item_any ⟨1099511627776, 1099511627776, ⟨#[]⟩, .slice none 0 0, []⟩ D2 ⟨SeesR.nil _, fun h => by simp at h, fun _ h => (by cases h), (by show (1099511627776 : Nat) < 18446744073709551616; decide), (by show (1099511627776 : Nat) < 18446744073709551616; decide)⟩
          rw [show itOk (It.plain ⟨1099511627776, 1099511627776, ⟨#[]⟩, .slice none 0 0, []⟩) = true by show itOk ⟨1099511627776, 1099511627776, ⟨#[]⟩, []⟩ = true; decide +kernel] at CI1
          unfold It.cells at CI1
          have CI2 := fun W => may_item_any (kIt 0) W (kIt_fine W 0 (by decide))
          rw [show itOk (kIt 0).plain = false by decide +kernel] at CI2
          unfold It.cells kIt at CI2
          have CI3 := fun W => may_item_any ⟨1, 1099511627777, ⟨#[]⟩, .slice none 0 0, []⟩ W ⟨SeesR.nil _, fun h => by simp at h, fun _ h => (by cases h), (by show (1 : Nat) < 18446744073709551616; decide), (by show (1099511627777 : Nat) < 18446744073709551616; decide)⟩
          rw [show itOk (It.plain ⟨1, 1099511627777, ⟨#[]⟩, .slice none 0 0, []⟩) = false by show itOk ⟨1, 1099511627777, ⟨#[]⟩, []⟩ = false; decide +kernel] at CI3
          unfold It.cells at CI3
          have CG := fun W (o : Old W5 W) => may_page_any (kFull (.slice (some ⟨W4.heap.size, 0, none⟩) 4 4) (.slice (some ⟨W4.heap.size + 1, 0, none⟩) 3 3)) W (Pg.fine.old T5.out.2.2.1 o)
          rw [kFull_ok] at CG
          unfold Pg.cells kFull kPg at CG
          have CG2 := fun W => may_page_any (kPg 1099511627777 1099511627777 (.slice none 0 0) [] (.slice none 0 0) []) W (kPg_fine _ _ _ [] _ [] (SeesR.nil _) (SeesR.nil _) (by decide) (by decide) (by decide) (by decide) (fun b hb => by simp [Value.ownBlock] at hb) (fun b hb => by simp [Value.ownBlock] at hb))
          rw [show pgOk (kPg 1099511627777 1099511627777 (.slice none 0 0) [] (.slice none 0 0) []).plain = true by show pgOk ⟨1099511627777, 1099511627777, [], [], false⟩ = true; decide +kernel] at CG2
          unfold Pg.cells kPg at CG2
          have CZ := fun W => size_any ⟨#[48, 49, 50, 51, 52, 53, 54, 55, 56, 57, 97, 98, 99, 100, 101, 102, 103]⟩ (.slice none 0 0) [] W (SeesR.nil _) (fun h => by simp at h) (fun _ h => by cases h)
          rw [key17_size] at CZ
          simp only at CI1 CI2 CI3 CG CG2 CZ
          have HQ := Lib.hid (And.intro CI1 (And.intro CI2 (And.intro CI3 (And.intro CG (And.intro CG2 CZ)))))
          have HD := Lib.hid (And.intro kD (And.intro b3 y3))
          have HD2 := Lib.hid hD2
          clear k7 s7 ht oD1 bD1 oD2 oA b3 y3 kD b4 CI1 CI2 CI3 CG CG2 CZ H7' C7 hB4
          go_wp2_with fail
          try rw [HD2.out]
          clear gD1 hD1 hD2 HD2
          refine HQ.out.1.mono ?_
          rintro e x1 ⟨rfl, k1⟩
          have E1 := Lib.hid k1
          clear k1 g4
          go_wp2_with fail
          refine (HQ.out.2.1 x1).mono ?_
          rintro e x2 ⟨rfl, k2⟩
          have E2 := Lib.hid (E1.out.trans k2)
          clear k2 E1
          go_wp2_with fail
          refine (HQ.out.2.2.1 x2).mono ?_
          rintro e x3 ⟨rfl, k3⟩
          have E3 := Lib.hid (HD.out.1.trans (E2.out.trans k3))
          have E3' := Lib.hid (E2.out.trans k3)
          have b5 := (E3.out.block _ (lt_of_heap T5.out.2.1) (fun f => f)).trans T5.out.2.1
          have g5 := blk5 b5
          clear k3 E2 b5
          go_wp2_with fail
          refine (HQ.out.2.2.2.1 x3 E3.out).mono ?_
          rintro e x4 ⟨rfl, k4⟩
          have E4 := Lib.hid k4
          clear k4 g5
          go_wp2_with fail
          refine (HQ.out.2.2.2.2.1 x4).mono ?_
          rintro e x5 ⟨rfl, k5⟩
          have E5 := Lib.hid (E3'.out.trans (E4.out.trans k5))
          have b3 := (E5.out.block _ (lt_of_heap HD.out.2.1) (fun f => f)).trans HD.out.2.1
          have g3 := blk2 b3
          have y3 := E5.out.cell HD.out.2.2 (fun f => f)
          clear k5 b3
          go_wp2_with fail
          refine (HQ.out.2.2.2.2.2 x5).mono ?_
          rintro e x6 ⟨rfl, k6⟩
          have E6 := Lib.hid (E5.out.trans k6)
          clear k6 g3 y3
          go_wp2_with fail
          refine (wakes_any x6).mono ?_
          rintro e x7 ⟨rfl, k7⟩
          have E7 := Lib.hid (T5.out.2.2.2.1.trans (HD.out.1.trans (E6.out.trans k7)))
          clear k7
          go_wp2_with fail
          go_ret
          exact ⟨rfl, E7.out⟩
end Go.Proofs.Ytlpbbcjmmhabfaa
