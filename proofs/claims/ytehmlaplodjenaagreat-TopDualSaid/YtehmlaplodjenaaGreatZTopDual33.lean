/- DERIVED. slices.SortFunc of at most twelve rows: a permutation. Written by gen_srt.py. -/
import Derived.Test.YtehmlaplodjenaaGreatZTopDual32
import Derived.Test.YtehmlaplodjenaaGreatZTopDual16
import Derived.Deep.DeepCutAuto
import Derived.IntWalk
import Derived.BigQuiet
set_option maxRecDepth 100000
set_option maxHeartbeats 4000000
namespace Go.Proofs.YtehmlaplodjenaaGreat
section
open Go.RowKit
theorem pdq_val (fv v : Value) (L : List Val) (B : Nat) (w : World) (h : OwnsR w B 61 4 valL v L) (h1 : ∀ x ∈ L, (valL x).toArray.all (·.oneCell') = true) (hl : L.length ≤ 12) (hf : SortW Val w fv v valL L) (lim : Value) :
  Calls Tryz.prog 99 #[v, .int .i64 0, .int .i64 L.length, lim, fv] w fun e w' => e = .returned (.tuple #[]) ∧ ∃ M, M.Perm L ∧ OwnsR w' B 61 4 valL v M ∧ Keeps (fun k => v.ownBlock = some k) w w' := by
 have C := Lib.hid (ins_val fv v L B w h h1 (by omega) hf)
 obtain ⟨p, c, rfl, _, _⟩ := (h.sees len_valL (by decide)).len
 clear h h1 hf
 go_enter Tryz.func99, Tryz.ntmps99
 go_wp2_with fail
 go_loopw [1, 2] (fun v1 v2 wr => v1 = .int .i64 0 ∧ v2 = .int .i64 L.length ∧ w = wr) (fun _ _ _ => 0)
 case atStart => exact ⟨rfl, rfl, rfl⟩
 case round =>
  obtain ⟨rfl, rfl, rfl⟩ := hrel
  have hle : (L.length : Int) ≤ 12 := by omega
  have wj : IntKind.i64.wrap ((L.length : Int) - 0) = (L.length : Int) := by rw [IntWalk.i64_in _ (by omega)]; omega
  go_wp2_with fail
  refine C.out.mono ?_
  rintro e w1 ⟨rfl, Z⟩
  have HZ := Lib.hid Z
  clear Z
  go_wp2_with fail
  exact bodyPost_ret (v := .tuple #[]) (by simp [results, Tryz.results99, go_sem]) rfl ⟨rfl, HZ.out⟩
theorem sortf_val (fv v : Value) (L : List Val) (B : Nat) (w : World) (h : OwnsR w B 61 4 valL v L) (h1 : ∀ x ∈ L, (valL x).toArray.all (·.oneCell') = true) (hl : L.length ≤ 12) (hf : SortW Val w fv v valL L) :
  Calls Tryz.prog 57 #[v, fv] w fun e w' => e = .returned (.tuple #[]) ∧ ∃ M, M.Perm L ∧ OwnsR w' B 61 4 valL v M ∧ Keeps (fun k => v.ownBlock = some k) w w' := by
 have C := Lib.hid (pdq_val fv v L B w h h1 (by omega) hf)
 have CB := Lib.hid (fun W => sh_bits_Len (L.length : Int) W (by omega) (by omega))
 obtain ⟨p, c, rfl, _, _⟩ := (h.sees len_valL (by decide)).len
 have wu : IntKind.u64.wrap (L.length : Int) = (L.length : Int) := IntWalk.u64_in _ (by omega)
 clear h h1 hf
 go_enter Tryz.func57, Tryz.ntmps57
 go_wp2_with fail
 refine (CB.out _).mono ?_
 rintro e w1 ⟨rfl, rfl⟩
 go_wp2_with fail
 refine (C.out _).mono ?_
 rintro e w2 ⟨rfl, Z⟩
 have HZ := Lib.hid Z
 clear Z
 go_wp2_with fail
 refine bodyPost_end (results_none rfl _ _ _) rfl ?_
 exact ⟨rfl, HZ.out⟩
theorem pdq_con (fv v : Value) (L : List Con) (B : Nat) (w : World) (h : OwnsR w B 78 7 Con.cells v L) (h1 : ∀ x ∈ L, (Con.cells x).toArray.all (·.oneCell') = true) (hl : L.length ≤ 12) (hf : SortW Con w fv v Con.cells L) (lim : Value) :
  Calls Tryz.prog 159 #[v, .int .i64 0, .int .i64 L.length, lim, fv] w fun e w' => e = .returned (.tuple #[]) ∧ ∃ M, M.Perm L ∧ OwnsR w' B 78 7 Con.cells v M ∧ Keeps (fun k => v.ownBlock = some k) w w' := by
 have C := Lib.hid (ins_con fv v L B w h h1 (by omega) hf)
 obtain ⟨p, c, rfl, _, _⟩ := (h.sees len_con (by decide)).len
 clear h h1 hf
 go_enter Tryz.func159, Tryz.ntmps159
 go_wp2_with fail
 go_loopw [1, 2] (fun v1 v2 wr => v1 = .int .i64 0 ∧ v2 = .int .i64 L.length ∧ w = wr) (fun _ _ _ => 0)
 case atStart => exact ⟨rfl, rfl, rfl⟩
 case round =>
  obtain ⟨rfl, rfl, rfl⟩ := hrel
  have hle : (L.length : Int) ≤ 12 := by omega
  have wj : IntKind.i64.wrap ((L.length : Int) - 0) = (L.length : Int) := by rw [IntWalk.i64_in _ (by omega)]; omega
  go_wp2_with fail
  refine C.out.mono ?_
  rintro e w1 ⟨rfl, Z⟩
  have HZ := Lib.hid Z
  clear Z
  go_wp2_with fail
  exact bodyPost_ret (v := .tuple #[]) (by simp [results, Tryz.results159, go_sem]) rfl ⟨rfl, HZ.out⟩
theorem sortf_con (fv v : Value) (L : List Con) (B : Nat) (w : World) (h : OwnsR w B 78 7 Con.cells v L) (h1 : ∀ x ∈ L, (Con.cells x).toArray.all (·.oneCell') = true) (hl : L.length ≤ 12) (hf : SortW Con w fv v Con.cells L) :
  Calls Tryz.prog 101 #[v, fv] w fun e w' => e = .returned (.tuple #[]) ∧ ∃ M, M.Perm L ∧ OwnsR w' B 78 7 Con.cells v M ∧ Keeps (fun k => v.ownBlock = some k) w w' := by
 have C := Lib.hid (pdq_con fv v L B w h h1 (by omega) hf)
 have CB := Lib.hid (fun W => sh_bits_Len (L.length : Int) W (by omega) (by omega))
 obtain ⟨p, c, rfl, _, _⟩ := (h.sees len_con (by decide)).len
 have wu : IntKind.u64.wrap (L.length : Int) = (L.length : Int) := IntWalk.u64_in _ (by omega)
 clear h h1 hf
 go_enter Tryz.func101, Tryz.ntmps101
 go_wp2_with fail
 refine (CB.out _).mono ?_
 rintro e w1 ⟨rfl, rfl⟩
 go_wp2_with fail
 refine (C.out _).mono ?_
 rintro e w2 ⟨rfl, Z⟩
 have HZ := Lib.hid Z
 clear Z
 go_wp2_with fail
 refine bodyPost_end (results_none rfl _ _ _) rfl ?_
 exact ⟨rfl, HZ.out⟩
end
end Go.Proofs.YtehmlaplodjenaaGreat
