/- DERIVED. TopDual walked. -/
import Derived.Test.YtehmlaplodjenaaGreatZTopDual38
import Derived.Deep.DeepCutAuto
import Derived.IntWalk
import Derived.Lib.MinMax
set_option maxRecDepth 100000
set_option maxHeartbeats 16000000
namespace Go.Proofs.YtehmlaplodjenaaGreat
section
open Go.RowKit
def evL (t : EvT) : List Value := [.string t.1, t.2.1]
def pdL (t : Value × List Con) : List Value := [t.1]
theorem SeesR.uptoD {α : Type} {w : World} {k : Nat} {enc : α → List Value} {p : Option Addr} {n c : Nat} {l : List α} {T E : TypeId} (h : SeesR w k enc (.slice p n c) l) (hi : Nat) (h1 : hi ≤ l.length) (ht : Tryz.prog.underlying T = some (.slice E)) (hs : (Tryz.prog.info? E).map (·.size) = some k) (x : Int) (hx : x = (hi : Int)) :
    ∃ p' c', (∀ W, (Instr.slice T (.slice p n c) none (some (.int .i64 x)) none).run Tryz.prog W = .ok (.slice p' hi c') W) ∧ SeesR w k enc (.slice p' hi c') (l.take hi) := by
  obtain ⟨p0, c0, he, hle, _⟩ := h.len
  simp only [Value.slice.injEq] at he
  obtain ⟨rfl, rfl, rfl⟩ := he
  obtain ⟨p', c', e⟩ : ∃ p' c', Go.sliced p 0 hi c k = .slice p' hi c' := ⟨_, _, rfl⟩
  refine ⟨p', c', fun W => ?_, ?_⟩
  · subst hx
    have hhi : (hi : Int) ≤ (c : Int) := by omega
    cases hi' : Tryz.prog.info? E with
    | none => simp [hi'] at hs
    | some i =>
      have hsz : i.size = k := by simpa [hi'] using hs
      rw [← e]
      simp [go_sem, ht, hi', hsz, hhi, sizeOf, typeInfo]
  · have := (h.sliced 0 hi (Nat.zero_le _) h1).1
    rw [e] at this
    simpa using this
theorem Tryz.infoEv2 : (Tryz.prog.info? 33).map (·.size) = some 2 := by kernel_rfl
theorem Tryz.infoPd1 : (Tryz.prog.info? 39).map (·.size) = some 1 := by kernel_rfl
def FB (W : World) (fb : Nat) (F : Nat → Nat → Bool) : Prop := ∃ cs, W.heap[fb]? = some (.cells cs 36 (0, 0)) ∧ cs.size = 240 ∧ ∀ a b, a < 12 → b < 20 → cs[a * 20 + b]? = some (.bool (F a b))
theorem FB.cell {W : World} {fb : Nat} {F : Nat → Nat → Bool} (h : FB W fb F) {a b : Nat} (ha : a < 12) (hb : b < 20) : W.cell? ⟨fb, a * 20 + b, none⟩ = some (.bool (F a b)) ∧ W.frozen? ⟨fb, a * 20 + b, none⟩ = false := by
  obtain ⟨cs, h1, h2, h3⟩ := h
  exact ⟨by simp only [World.cell?, h1]; exact h3 a b ha hb, by simp [World.frozen?, h1]⟩
theorem FB.keeps {W W' : World} {fb : Nat} {F : Nat → Nat → Bool} {S : Nat → Prop} (h : FB W fb F) (k : Keeps S W W') (hS : ¬ S fb) : FB W' fb F := by
  obtain ⟨cs, h1, h2, h3⟩ := h
  exact ⟨cs, (k.block _ (lt_of_heap h1) hS).trans h1, h2, h3⟩
theorem FB.old {W W' : World} {fb : Nat} {F : Nat → Nat → Bool} (h : FB W fb F) (k : Old W W') : FB W' fb F := h.keeps k (fun f => f)
theorem FB.set {W : World} {fb : Nat} {F : Nat → Nat → Bool} (h : FB W fb F) {a b : Nat} (ha : a < 12) (hb : b < 20) : FB (W.setCell ⟨fb, a * 20 + b, none⟩ (.bool true)) fb (fun x y => (x == a && y == b) || F x y) := by
  obtain ⟨cs, h1, h2, h3⟩ := h
  have e := putAt_heap [.bool true] (a * 20 + b) W cs h1
  refine ⟨_, e, by rw [putAt_size]; exact h2, fun x y hx hy => ?_⟩
  show (cs.setIfInBounds (a * 20 + b) (.bool true))[x * 20 + y]? = _
  rw [Array.getElem?_setIfInBounds]
  by_cases he : a * 20 + b = x * 20 + y
  · have h5 : x = a ∧ y = b := by omega
    rw [if_pos he, if_pos (by omega), h5.1, h5.2]
    simp
  · rw [if_neg he, h3 x y hx hy]
    have h5 : (x == a && y == b) = false := by
      by_cases hxa : x = a
      · have : ¬ y = b := by intro e2; subst hxa; subst e2; exact he rfl
        simp [this]
      · simp [hxa]
    simp [h5]
theorem zero240 : Tryz.zeroCells36 = Array.replicate 240 (.bool false) := by kernel_rfl
theorem FB.congr {W : World} {fb : Nat} {F F' : Nat → Nat → Bool} (h : FB W fb F) (e : ∀ a b, a < 12 → b < 20 → F a b = F' a b) : FB W fb F' := by
  obtain ⟨cs, h1, h2, h3⟩ := h
  exact ⟨cs, h1, h2, fun a b ha hb => by rw [← e a b ha hb]; exact h3 a b ha hb⟩
theorem tab_step (L : List Nat) (a b k n j : Nat) (r : Bool) (ht : L.take (j + 1) = L.take j ++ [n]) : ((a == k && b == n) || (r || (a == k && (L.take j).contains b))) = (r || (a == k && (L.take (j + 1)).contains b)) := by
  rw [ht]
  have e : (L.take j ++ [n]).contains b = ((L.take j).contains b || (b == n)) := by
    rw [Bool.eq_iff_iff]
    simp
  rw [e]
  cases (a == k) <;> cases (b == n) <;> cases r <;> cases (L.take j).contains b <;> rfl
theorem tab_end {f : Nat → Nat → Bool} (L : List Nat) (a b k : Nat) (h : ∀ n, n ∈ L ↔ f k n = true) : ((decide (a < k) && f a b) || (a == k && L.contains b)) = (decide (a < k + 1) && f a b) := by
  by_cases ha : a = k
  · subst ha
    have h1 : a < a + 1 := Nat.lt_succ_self a
    have h2 : L.contains b = f a b := by
      rw [Bool.eq_iff_iff, List.contains_iff_mem]
      exact h b
    rw [h2, decide_eq_true h1]
    simp
  · have h1 : decide (a < k + 1) = decide (a < k) := by
      by_cases h : a < k
      · rw [decide_eq_true h, decide_eq_true (Nat.lt_succ_of_lt h)]
      · rw [decide_eq_false h, decide_eq_false (fun h2 => by rcases Nat.lt_or_eq_of_le (Nat.le_of_lt_succ h2) with h3 | h3; exact h h3; exact ha h3)]
    have h2 : (a == k) = false := by simp [ha]
    rw [h1, h2]
    simp
structure PrIs (Ps : List (Value × List Con)) (k : Nat) (pr : Nat → Option Value) (N : Nat → List Con) : Prop where
  hi : ∀ j, k ≤ j → pr j = none ∧ N j = []
  no : ∀ j t, j < k → Ps[j]? = some t → predOk t.2 = false → pr j = none ∧ N j = []
  yes : ∀ j t, j < k → Ps[j]? = some t → predOk t.2 = true → (∃ p c, pr j = some (.slice p (N j).length c)) ∧ NormL t.2 (N j)
theorem PrIs.zero (Ps : List (Value × List Con)) : PrIs Ps 0 (fun _ => none) (fun _ => []) := ⟨fun _ _ => ⟨rfl, rfl⟩, fun _ _ h => by omega, fun _ _ h => by omega⟩
theorem addU {w W W' : World} {xb eb nb K : Nat} {ev : Nat → Option EvT} {G : ByteArray → Value × List En} {xm pb qb Kn Km : Nat} {pr : Nat → Option Value} {Gm : ByteArray → Value × List Pt} {fb k : Nat} {F : Nat → Nat → Bool} {t : Value × List Con} {Ps : List (Value × List Con)} {N : Nat → List Con} {e : Ending}
    (h : AddM w xm pb qb Kn Km pr Gm k t.2 W e W') (hb : Both w xb eb nb K ev G xm pb qb Kn Km pr Gm W) (hf : FB W fb F) (ht : Ps[k]? = some t) (hp : PrIs Ps k pr N) (hl : Lnk Gm N) :
    ∃ (z : Int) (Kn' Km' : Nat) (pr' : Nat → Option Value) (Gm' : ByteArray → Value × List Pt) (N' : Nat → List Con), e = .returned (.int .i64 z) ∧ (z == (0 : Int)) = predOk t.2 ∧ Kn' ≤ Kn + 1 ∧ Km' ≤ Km + 6 ∧ PrIs Ps (k + 1) pr' N' ∧ Lnk Gm' N' ∧ Both w xb eb nb K ev G xm pb qb Kn' Km' pr' Gm' W' ∧ FB W' fb F := by
  rcases h with ⟨hok, rfl, o⟩ | ⟨hok, rfl, L, p, c, G', hN, hmx, hG, hfr⟩
  · refine ⟨30, Kn, Km, pr, Gm, N, rfl, by rw [hok]; rfl, by omega, by omega, ⟨fun j hj => hp.hi j (by omega), fun j u hj hu hno => ?_, fun j u hj hu hyes => ?_⟩, hl, hb.to o, hf.old o⟩
    · by_cases hjk : j = k
      · exact hp.hi j (by omega)
      · exact hp.no j u (by omega) hu hno
    · by_cases hjk : j = k
      · subst hjk
        rw [ht] at hu
        simp only [Option.some.injEq] at hu
        subst hu
        rw [hok] at hyes
        cases hyes
      · exact hp.yes j u (by omega) hu hyes
  · have hL6 : L.length ≤ 6 := by have := hN.len; have h2 := hok; unfold predOk at h2; simp at h2; omega
    have hk0 := hp.hi k (Nat.le_refl _)
    refine ⟨0, Kn + 1, Km + L.length, _, G', fun j => if j = k then L else N j, rfl, by rw [hok]; rfl, by omega, by omega, ⟨fun j hj => ?_, fun j u hj hu hno => ?_, fun j u hj hu hyes => ?_⟩, hl.add hk0.2 hG, hb.addM hmx hfr, ?_⟩
    · have : ¬ j = k := by omega
      simp only [if_neg this]
      exact hp.hi j (by omega)
    · by_cases hjk : j = k
      · subst hjk
        rw [ht] at hu
        simp only [Option.some.injEq] at hu
        subst hu
        rw [hok] at hno
        cases hno
      · simp only [if_neg hjk]
        exact hp.no j u (by omega) hu hno
    · by_cases hjk : j = k
      · subst hjk
        rw [ht] at hu
        simp only [Option.some.injEq] at hu
        subst hu
        simp only [if_true]
        exact ⟨⟨p, c, rfl⟩, hN⟩
      · simp only [if_neg hjk]
        exact hp.yes j u (by omega) hu hyes
    · obtain ⟨cs, h1, _, _⟩ := id hf
      obtain ⟨_, m1, _⟩ := hb.mx.p
      obtain ⟨_, _, m2, _⟩ := hb.mx.q
      obtain ⟨_, _, b1⟩ := m1.heap
      obtain ⟨_, _, b2⟩ := m2.heap
      refine hf.keeps hfr ?_
      rintro (e | e | hT)
      · rw [e, b1] at h1; cases h1
      · rw [e, b2] at h1; cases h1
      · exact absurd (isT_one hT h1) (by decide)
theorem qryU {Es : List EvT} {Ps : List (Value × List Con)} {ev : Nat → Option EvT} {k : Nat} {t : Value × List Con} {W W' : World} {e : Ending} (h : QryP ev t.2 W e W') (hev : EvIs Es Es.length ev) (ht : Ps[k]? = some t) :
    ∃ (p : Option Addr) (c B : Nat) (L : List Nat) (z : Value), e = .returned (.tuple #[.slice p L.length c, z]) ∧ OwnsR W' B 30 1 (oneL encU) (.slice p L.length c) L ∧ Old W W' ∧ ∀ n, n ∈ L ↔ fnd Es Ps k n = true := by
  rcases h with ⟨hok, rfl, o⟩ | ⟨hok, v, L, rfl, ⟨B, ho⟩, o, hL⟩
  · refine ⟨none, 0, 0, [], _, rfl, OwnsR.nil _ _, o, fun n => ?_⟩
    unfold fnd
    rw [ht]
    cases evAt Es n <;> simp [hok]
  · obtain ⟨p, c, rfl, _, _⟩ := (OwnsR.sees (enc := oneL encU) ho (fun _ => rfl) (by decide)).len
    exact ⟨p, c, B, L, _, rfl, ho, o, fun n => (hL n).trans (hev.found ht hok n)⟩
theorem sorted_filter (f : Nat → Bool) : ∀ (L M : List Nat), L.Pairwise (· < ·) → M.Pairwise (· < ·) → (∀ k, k ∈ L ↔ k ∈ M) → L = M
  | [], [], _, _, _ => rfl
  | [], b :: M, _, _, h => absurd ((h b).2 (by simp)) (by simp)
  | a :: L, [], _, _, h => absurd ((h a).1 (by simp)) (by simp)
  | a :: L, b :: M, h1, h2, h => by
    rw [List.pairwise_cons] at h1 h2
    have hab : a = b := by
      have ha := (h a).1 (by simp)
      have hb := (h b).2 (by simp)
      rcases List.mem_cons.1 ha with e | ha
      · exact e
      · rcases List.mem_cons.1 hb with e | hb
        · exact e.symm
        · have := h1.1 b hb; have := h2.1 a ha; omega
    subst hab
    rw [sorted_filter f L M h1.2 h2.2 (fun k => by
      constructor
      · intro hk
        have := (h k).1 (List.mem_cons_of_mem _ hk)
        rcases List.mem_cons.1 this with e | h3
        · subst e; have := h1.1 k hk; omega
        · exact h3
      · intro hk
        have := (h k).2 (List.mem_cons_of_mem _ hk)
        rcases List.mem_cons.1 this with e | h3
        · subst e; have := h2.1 k hk; omega
        · exact h3)]
theorem filt_at (f : Nat → Bool) (k m : Nat) (hk : k < m) (hf : f k = true) : ((List.range m).filter f)[((List.range k).filter f).length]? = some k := by
  obtain ⟨d, rfl⟩ : ∃ d, m = k + (d + 1) := ⟨m - k - 1, by omega⟩
  rw [List.range_add, List.filter_append, List.getElem?_append_right (Nat.le_refl _), Nat.sub_self, List.range_succ_eq_map, List.map_cons, Nat.add_zero, List.filter_cons_of_pos hf]
  rfl
theorem filt_len (f : Nat → Bool) (k : Nat) : ((List.range (k + 1)).filter f).length = ((List.range k).filter f).length + if f k then 1 else 0 := by
  rw [List.range_succ, List.filter_append, List.length_append]
  cases h : f k <;> simp [h]
theorem lnk_id {Gm : ByteArray → Value × List Pt} {N : Nat → List Con} {Ps : List (Value × List Con)} {m : Nat} {pr : Nat → Option Value} (hl : Lnk Gm N) (hp : PrIs Ps m pr N) : ∀ s, ∀ y ∈ (Gm s).2, y.id < m := by
  intro s y hy
  rcases Nat.lt_or_ge y.id m with h | h
  · exact h
  · have h1 := hl s y.id
    rw [(hp.hi y.id h).2] at h1
    have : y.c ∈ (((Gm s).2.filter (fun z => z.id == y.id)).map (·.c)) := List.mem_map.2 ⟨y, List.mem_filter.2 ⟨hy, by simp⟩, rfl⟩
    rw [h1] at this
    simp at this
theorem mat_found {Es : List EvT} {Gm : ByteArray → Value × List Pt} {N : Nat → List Con} {Ps : List (Value × List Con)} {pr : Nat → Option Value} (hl : Lnk Gm N) (hp : PrIs Ps Ps.length pr N) {i : Nat} {al : List At} (hev : evAt Es i = some al) (k : Nat) : (∃ p n c, pr k = some (.slice p n c) ∧ n ≤ cntI Gm al al.length k) ↔ fnd Es Ps k i = true := by
  unfold fnd
  rw [hev]
  cases ht : Ps[k]? with
  | none =>
    have : Ps.length ≤ k := by
      rcases Nat.lt_or_ge k Ps.length with h | h
      · rw [List.getElem?_eq_getElem h] at ht; cases ht
      · exact h
    rw [(hp.hi k this).1]
    simp
  | some t =>
    have hk : k < Ps.length := (List.getElem?_eq_some_iff.1 ht).1
    cases hok : predOk t.2
    · rw [(hp.no k t hk ht hok).1]
      simp [hok]
    · obtain ⟨⟨p, c, e⟩, hN⟩ := hp.yes k t hk ht hok
      rw [e]
      simp only [hok, Bool.true_and]
      rw [← hN.matches' al, ← found_law hl al k]
      constructor
      · rintro ⟨p', n', c', h1, h2⟩
        simp only [Option.some.injEq, Value.slice.injEq] at h1
        rw [h1.2.1]
        exact h2
      · intro h
        exact ⟨p, _, c, rfl, h⟩
theorem evF_of {Es : List EvT} {i : Nat} {al : List At} (h : evAt Es i = some al) (hE : ∀ t ∈ Es, Fits t.2.2) : EvF al := by
  unfold evAt at h
  cases ht : Es[i]? with
  | none => rw [ht] at h; cases h
  | some t =>
    rw [ht] at h
    simp only [Option.bind_some] at h
    split at h
    · next hok =>
      simp only [Option.some.injEq] at h
      subst h
      intro a ha
      refine ⟨?_, (hE t (List.mem_of_getElem? ht) a ha).2⟩
      unfold evOk attrsOk at hok
      simp only [Bool.and_eq_true, List.all_eq_true] at hok
      obtain ⟨j, hj⟩ := List.mem_iff_getElem?.1 ha
      have hjl := (List.getElem?_eq_some_iff.1 hj).1
      have := hok.2 j (List.mem_range.2 hjl)
      unfold okAt at this
      rw [hj] at this
      simp only [Bool.and_eq_true] at this
      exact this.1.2
    · cases h
theorem fnd_law {Es : List EvT} {Ps : List (Value × List Con)} {k m : Nat} {xv yv : Value} {P Q2 : List Con} {w : World} (hx : Ps[k]? = some (xv, P)) (hy : Ps[m]? = some (yv, Q2)) (hxc : Cons w xv P) (hyc : Cons w yv Q2) (hE : ∀ t ∈ Es, Fits t.2.2) (i : Nat) :
    ((((predOk P && predOk Q2) && coversR (P.map Con.plain) (Q2.map Con.plain)) && fnd Es Ps m i && !fnd Es Ps k i) || (!((predOk P && predOk Q2) && !apartR (P.map Con.plain) (Q2.map Con.plain)) && fnd Es Ps k i && fnd Es Ps m i)) = false := by
  unfold fnd
  rw [hx, hy]
  cases hev : evAt Es i with
  | none => simp
  | some al =>
    have hF := evF_of hev hE
    simp only
    cases hp : predOk P
    · simp
    · cases hq : predOk Q2
      · simp
      · have h1 := covers_law (hxc.conP hp) (hyc.conP hq) hF
        have h2 := apart_law' (hxc.conP hp) (hyc.conP hq) hF
        revert h1 h2
        cases coversR (P.map Con.plain) (Q2.map Con.plain) <;> cases apartR (P.map Con.plain) (Q2.map Con.plain) <;> cases matchesV (P.map Con.plain) al <;> cases matchesV (Q2.map Con.plain) al <;> simp
theorem dual_any (lv pv : Value) (Es0 : List EvT) (Ps0 : List (Value × List Con)) (w : World) (hE : SeesR w 2 evL lv Es0) (hEa : ∀ t ∈ Es0, SeesA w t.2.1 t.2.2 ∧ Fits t.2.2) (hP : SeesR w 1 pdL pv Ps0) (hPc : ∀ t ∈ Ps0, Cons w t.1 t.2) :
    Calls Tryz.prog 3 #[lv, pv] w fun e w' => e = .returned (.bool true) ∧ Old w w' := by
  obtain ⟨pl, cl, rfl, _, hcl⟩ := hE.len
  obtain ⟨pp, cp, rfl, _, hcp⟩ := hP.len
  have hn0 : Es0.length ≤ 9223372036854775807 := by unfold maxLen at hcl; omega
  have hm0 : Ps0.length ≤ 9223372036854775807 := by unfold maxLen at hcp; omega
  obtain ⟨Es, hEs⟩ : ∃ Es, Es0.take (min Es0.length 20) = Es := ⟨_, rfl⟩
  obtain ⟨Ps, hPs⟩ : ∃ Ps, Ps0.take (min Ps0.length 12) = Ps := ⟨_, rfl⟩
  have ne : Es.length = min Es0.length 20 := by rw [← hEs, List.length_take]; omega
  have np : Ps.length = min Ps0.length 12 := by rw [← hPs, List.length_take]; omega
  obtain ⟨pl', cl', sl1, sE⟩ := hE.uptoD (T := 22) (min Es0.length 20) (by omega) Tryz.underlying22 Tryz.infoEv2 ((Es.length : Int)) (by omega)
  obtain ⟨pp', cp', sl2, sP⟩ := hP.uptoD (T := 23) (min Ps0.length 12) (by omega) Tryz.underlying23 Tryz.infoPd1 ((Ps.length : Int)) (by omega)
  rw [hEs, ← ne] at sE
  rw [hPs, ← np] at sP
  rw [← ne] at sl1
  rw [← np] at sl2
  have hEa' : ∀ t ∈ Es, SeesA w t.2.1 t.2.2 ∧ Fits t.2.2 := fun t ht => hEa t (by rw [← hEs] at ht; exact List.mem_of_mem_take ht)
  have hPc' : ∀ t ∈ Ps, Cons w t.1 t.2 := fun t ht => hPc t (by rw [← hPs] at ht; exact List.mem_of_mem_take ht)
  have mn1 : min (Es0.length : Int) 20 = (Es.length : Int) := by omega
  have mn2 : min (Ps0.length : Int) 12 = (Ps.length : Int) := by omega
  have hE20 : Es.length ≤ 20 := by omega
  have hP12 : Ps.length ≤ 12 := by omega
  have H := Lib.hid (And.intro sE (And.intro sP (And.intro hEa' hPc')))
  clear hE hP hEa hPc sE sP hEa' hPc' hEs hPs ne np hcl hcp
  go_enter Tryz.func3, Tryz.ntmps3
  go_upto_region 1 with fail
  have rt : True := trivial
  refine wp_region_g (S := fun _ => True) (M := List.range 12) (by kernel_rfl) ?_
  refine tkG (i := 0) (v := ?va0) ?ya0 rt ?ra0
  case ya0 => (intro W hSw; go_simp; try with_reducible rfl)
  try simp only [Act.put, List.setIfInBounds_toArray, List.set_cons_zero, List.set_cons_succ]
  refine tkG (i := 1) (v := ?va1) ?ya1 rt ?ra1
  case ya1 => (intro W hSw; go_simp; try with_reducible rfl)
  try simp only [Act.put, List.setIfInBounds_toArray, List.set_cons_zero, List.set_cons_succ]
  refine tkG (i := 2) (v := ?va2) ?ya2 rt ?ra2
  case ya2 => (intro W hSw; go_simp; try with_reducible rfl)
  try simp only [Act.put, List.setIfInBounds_toArray, List.set_cons_zero, List.set_cons_succ]
  refine tkG (i := 3) (v := ?va3) ?ya3 rt ?ra3
  case ya3 => (intro W hSw; go_simp; try with_reducible rfl)
  try simp only [Act.put, List.setIfInBounds_toArray, List.set_cons_zero, List.set_cons_succ]
  refine tkG (i := 4) (v := ?va4) ?ya4 rt ?ra4
  case ya4 => (intro W hSw; go_simp; try with_reducible rfl)
  try simp only [Act.put, List.setIfInBounds_toArray, List.set_cons_zero, List.set_cons_succ]
  refine tkG (i := 5) (v := ?va5) ?ya5 rt ?ra5
  case ya5 => (intro W hSw; go_simp; try with_reducible rfl)
  try simp only [Act.put, List.setIfInBounds_toArray, List.set_cons_zero, List.set_cons_succ]
  refine tkG (i := 6) (v := ?va6) ?ya6 rt ?ra6
  case ya6 => (intro W hSw; go_simp; try with_reducible rfl)
  try simp only [Act.put, List.setIfInBounds_toArray, List.set_cons_zero, List.set_cons_succ]
  refine tkG (i := 7) (v := ?va7) ?ya7 rt ?ra7
  case ya7 => (intro W hSw; go_simp; try with_reducible rfl)
  try simp only [Act.put, List.setIfInBounds_toArray, List.set_cons_zero, List.set_cons_succ]
  refine tkG (i := 8) (v := ?va8) ?ya8 rt ?ra8
  case ya8 => (intro W hSw; go_simp; try with_reducible rfl)
  try simp only [Act.put, List.setIfInBounds_toArray, List.set_cons_zero, List.set_cons_succ]
  refine tkG (i := 9) (v := ?va9) ?ya9 rt ?ra9
  case ya9 => (intro W hSw; go_simp; try with_reducible rfl)
  try simp only [Act.put, List.setIfInBounds_toArray, List.set_cons_zero, List.set_cons_succ]
  refine tkG (i := 10) (v := ?va10) ?ya10 rt ?ra10
  case ya10 => (intro W hSw; go_simp; try with_reducible rfl)
  try simp only [Act.put, List.setIfInBounds_toArray, List.set_cons_zero]
  refine tkG (i := 11) (v := ?va11) ?ya11 rt ?ra11
  case ya11 => (intro W hSw; go_simp; try with_reducible rfl)
  try simp only [Act.put, List.setIfInBounds_toArray, List.set_cons_zero, List.set_cons_succ]
  refine wpAnyG_done (by kernel_rfl) ?_ _
  go_simp
  clear sl1 sl2 mn1 mn2
  obtain ⟨w1, hw1⟩ : ∃ w1, w.drew = w1 := ⟨_, rfl⟩
  have o1 : Old w w1 := by rw [← hw1]; exact (Keeps.refl _ _).drew
  try rw [hw1]
  have o1H := Lib.hid o1
  clear hw1 o1
  go_wp2_with fail
  refine (inew_any w1).mono ?_
  rintro e w2 ⟨xb, eb, nb, rfl, hix0⟩
  have IX0 := Lib.hid hix0
  clear hix0
  go_wp2_with fail
  refine (mnew_any w2).mono ?_
  rintro e w3 ⟨xm, pb, qb, rfl, hmx0⟩
  have hb0 : Both w1 xb eb nb 0 (fun _ => none) (fun _ => (.slice none 0 0, [])) xm pb qb 0 0 (fun _ => none) (fun _ => (.slice none 0 0, [])) w3 := by
    obtain ⟨_, _, m3, _⟩ := IX0.out.e
    obtain ⟨_, _, m4, _⟩ := IX0.out.n
    have := m3.lt
    have := m4.lt
    have := hmx0.plo
    have := hmx0.qlo
    exact ⟨IX0.out.to hmx0.old, hmx0.base IX0.out.old, by omega, by omega, by omega, by omega⟩
  have B0 := Lib.hid hb0
  clear hb0 hmx0 IX0
  go_wp2_with fail
  go_loopw [7] (fun v7 wr => ∃ (i K : Nat) (ev : Nat → Option EvT) (G : ByteArray → Value × List En), i ≤ Es.length ∧ v7 = .int .i64 i ∧ K ≤ 8 * i ∧ EvIs Es i ev ∧ Told i ev G ∧ Both w1 xb eb nb K ev G xm pb qb 0 0 (fun _ => none) (fun _ => (.slice none 0 0, [])) wr) (fun v7 _ => Es.length - (intOf v7).toNat)
  case atStart => exact ⟨0, 0, _, _, Nat.zero_le _, rfl, Nat.le_refl _, EvIs.zero Es, Told.nil, B0.out⟩
  case round =>
    obtain ⟨wq, hwq⟩ : ∃ wq : World, wq = wr := ⟨_, rfl⟩
    subst hwq
    obtain ⟨i, K, ev, G, hi, rfl, hK, hev, hto, hbo⟩ := hrel
    by_cases hlt : i < Es.length
    · have ow : Old w wq := o1H.out.trans hbo.ix.old
      obtain ⟨b, o, cp0, he, _, _, hcell⟩ := H.out.1.at (by omega)
      simp only [Value.slice.injEq, true_and] at he
      obtain ⟨rfl, rfl⟩ := he
      obtain ⟨x, hx⟩ : ∃ x, Es[i]? = some x := ⟨_, List.getElem?_eq_getElem hlt⟩
      have hxa := H.out.2.2.1 x (List.mem_of_getElem? hx)
      have cell : ∀ V, Old w V → ∀ j u, (evL x)[j]? = some u → V.cell? ⟨b, o + i * 2 + j, none⟩ = some u := fun V hV j u hu => hV.cell (hcell i x hx j u hu) (fun f => f)
      obtain ⟨key, av, al⟩ := x
      have hc0 : ∀ V, Old w V → V.cell? ⟨b, o + i * 2, none⟩ = some (.string key) := fun V hV => by simpa using cell V hV 0 _ rfl
      have hc1 : ∀ V, Old w V → V.cell? ⟨b, o + i * 2 + 1, none⟩ = some av := fun V hV => cell V hV 1 _ rfl
      simp only at hxa
      have wu : IntKind.u64.wrap (i : Int) = (i : Int) := IntWalk.u64_in _ (by omega)
      have C := Lib.hid (And.intro hc0 hc1)
      have IA := Lib.hid (iadd_any w1 wq.drew xb eb nb K ev G i key av al ((hbo.to (Keeps.refl _ _).drew).ix) (by omega) (hev.none' (Nat.le_refl _)) (hxa.1.old o1H.out) hto.sorted (by omega))
      have EM := Lib.hid (fun V (hV : Old w V) => ev_may_any key av al V (hxa.1.old hV))
      have Q := Lib.hid (And.intro hev (And.intro hto (And.intro hbo (And.intro hx ow))))
      obtain ⟨pa, na, ca, e9⟩ : ∃ p n c, av = .slice p n c := by obtain ⟨p, c, e, _⟩ := hxa.1.len; exact ⟨_, _, _, e⟩
      subst e9
      clear hev hto hbo hx ow hcell cell hxa hc0 hc1
      go_upto_region 6 with fail
      have rd : Old w wq.drew := Q.out.2.2.2.2.trans (Keeps.refl _ _).drew
      refine wp_region_g (S := fun V => Old w V) (M := List.range 15) (by kernel_rfl) ?_
      refine tkG (i := 0) (v := ?vb0) ?yb0 rd ?rb0
      case yb0 => (intro W hSw; go_simp; try with_reducible rfl)
      try simp only [Act.put, List.setIfInBounds_toArray, List.set_cons_zero, List.set_cons_succ]
      refine tkG (i := 1) (v := ?vb1) ?yb1 rd ?rb1
      case yb1 => (intro W hSw; go_simp; try with_reducible rfl)
      try simp only [Act.put, List.setIfInBounds_toArray, List.set_cons_zero, List.set_cons_succ]
      refine tkG (i := 2) (v := ?vb2) ?yb2 rd ?rb2
      case yb2 => (intro W hSw; go_simp; try with_reducible rfl)
      try simp only [Act.put, List.setIfInBounds_toArray, List.set_cons_zero, List.set_cons_succ]
      refine tkG (i := 3) (v := ?vb3) ?yb3 rd ?rb3
      case yb3 => (intro W hSw; go_simp; try with_reducible rfl)
      try simp only [Act.put, List.setIfInBounds_toArray, List.set_cons_zero, List.set_cons_succ]
      refine tkG (i := 4) (v := ?vb4) ?yb4 rd ?rb4
      case yb4 => (intro W hSw; go_simp; try with_reducible rfl)
      try simp only [Act.put, List.setIfInBounds_toArray, List.set_cons_zero, List.set_cons_succ]
      refine tkG (i := 5) (v := ?vb5) ?yb5 rd ?rb5
      case yb5 => (intro W hSw; go_simp; try with_reducible rfl)
      try simp only [Act.put, List.setIfInBounds_toArray, List.set_cons_zero, List.set_cons_succ]
      refine tkG (i := 6) (v := ?vb6) ?yb6 rd ?rb6
      case yb6 => (intro W hSw; have q1 := C.out.1 _ hSw; have q2 := C.out.2 _ hSw; go_simp; try with_reducible rfl)
      try simp only [Act.put, List.setIfInBounds_toArray, List.set_cons_zero, List.set_cons_succ]
      refine tkG (i := 9) (v := ?vb9) ?yb9 rd ?rb9
      case yb9 => (intro W hSw; go_simp; try with_reducible rfl)
      try simp only [Act.put, List.setIfInBounds_toArray, List.set_cons_zero, List.set_cons_succ]
      refine tkG (i := 10) (v := ?vb10) ?yb10 rd ?rb10
      case yb10 => (intro W hSw; go_simp; try with_reducible rfl)
      try simp only [Act.put, List.setIfInBounds_toArray, List.set_cons_zero, List.set_cons_succ]
      refine tkG (i := 11) (v := ?vb11) ?yb11 rd ?rb11
      case yb11 => (intro W hSw; go_simp; try with_reducible rfl)
      try simp only [Act.put, List.setIfInBounds_toArray, List.set_cons_zero, List.set_cons_succ]
      refine tkG (i := 12) (v := ?vb12) ?yb12 rd ?rb12
      case yb12 => (intro W hSw; have q1 := C.out.1 _ hSw; have q2 := C.out.2 _ hSw; go_simp; try with_reducible rfl)
      try simp only [Act.put, List.setIfInBounds_toArray, List.set_cons_zero, List.set_cons_succ]
      refine wpAnyG_onlyL (i := 7) (o := _) (by kernel_rfl) rfl (fun K hK => ?_)
      go_simp
      refine IA.out.mono ?_
      rintro e W8 (⟨hok, rfl, k8⟩ | ⟨hok, rfl, G', t, ht1, ht2, hix', hso, hmem, hcnt, hfr⟩)
      · have o8 : Old w W8 := rd.trans k8
        have EM8 := EM.out W8 o8
        rw [hok] at EM8
        go_wp2_with fail
        refine hK.out _ _ (fun _ => o8) ?_
        clear hK K
        try simp only [Act.put, List.setIfInBounds_toArray, List.set_cons_zero, List.set_cons_succ]
        refine tkG (i := 8) (v := ?vb8) ?yb8 o8 ?rb8
        case yb8 => (intro W hSw; go_simp; try with_reducible rfl)
        try simp only [Act.put, List.setIfInBounds_toArray, List.set_cons_zero, List.set_cons_succ]
        refine wpAnyG_onlyL (i := 13) (o := _) (by kernel_rfl) rfl (fun K hK => ?_)
        go_simp
        refine EM8.mono ?_
        rintro e W9 ⟨rfl, k9⟩
        have o9 := o8.trans k9
        go_wp2_with fail
        refine hK.out _ _ (fun _ => o9) ?_
        clear hK K
        try simp only [Act.put, List.setIfInBounds_toArray, List.set_cons_zero, List.set_cons_succ]
        refine tkG (i := 14) (v := ?vb14) ?yb14 o9 ?rb14
        case yb14 => (intro W hSw; go_simp; try with_reducible rfl)
        try simp only [Act.put, List.setIfInBounds_toArray, List.set_cons_zero, List.set_cons_succ]
        refine wpAnyG_done (by kernel_rfl) ?_ _
        go_simp
        have Z := Lib.hid (And.intro (Q.out.1.no Q.out.2.2.2.1 hok) (Q.out.2.2.1.to (((Keeps.refl _ _).drew.trans k8).trans k9)))
        clear k8 k9 o8 o9 hok rd EM8
        go_wp2_with fail
        go_roundw
        case rel => exact ⟨i + 1, K, ev, G, by omega, by go_num, by omega, Z.out.1, Q.out.2.1.more (Nat.le_succ _), Z.out.2⟩
        case measure => simp [intOf]; omega
      · have o8 : Old w W8 := o1H.out.trans hix'.old
        have EM8 := EM.out W8 o8
        rw [hok] at EM8
        have h8 := Both.addE (Q.out.2.2.1.to (Keeps.refl _ _).drew) hix' hfr
        go_wp2_with fail
        refine hK.out _ _ (fun _ => o8) ?_
        clear hK K
        try simp only [Act.put, List.setIfInBounds_toArray, List.set_cons_zero, List.set_cons_succ]
        refine tkG (i := 8) (v := ?vbb8) ?ybb8 o8 ?rbb8
        case ybb8 => (intro W hSw; go_simp; try with_reducible rfl)
        try simp only [Act.put, List.setIfInBounds_toArray, List.set_cons_zero, List.set_cons_succ]
        refine wpAnyG_onlyL (i := 13) (o := _) (by kernel_rfl) rfl (fun K hK => ?_)
        go_simp
        refine EM8.mono ?_
        rintro e W9 ⟨rfl, k9⟩
        have o9 := o8.trans k9
        go_wp2_with fail
        refine hK.out _ _ (fun _ => o9) ?_
        clear hK K
        try simp only [Act.put, List.setIfInBounds_toArray, List.set_cons_zero, List.set_cons_succ]
        refine tkG (i := 14) (v := ?vbb14) ?ybb14 o9 ?rbb14
        case ybb14 => (intro W hSw; go_simp; try with_reducible rfl)
        try simp only [Act.put, List.setIfInBounds_toArray, List.set_cons_zero, List.set_cons_succ]
        refine wpAnyG_done (by kernel_rfl) ?_ _
        go_simp
        have hl8 : al.length ≤ 8 := by have := hok; unfold evOk at this; simp at this; omega
        have Z := Lib.hid (And.intro (Q.out.1.yes Q.out.2.2.2.1 hok ht2) (And.intro (Q.out.2.1.add (Q.out.1.none' (Nat.le_refl _)) ht2 hso hmem hcnt (nmC_ok hok)) (h8.to k9)))
        clear k9 o8 o9 hok rd EM8 h8 hix' hso hmem hcnt hfr ht1 ht2
        go_wp2_with fail
        go_roundw
        case rel => exact ⟨i + 1, K + al.length, _, G', by omega, by go_num, by omega, Z.out.1, Z.out.2.1, Z.out.2.2⟩
        case measure => simp [intOf]; omega
    · have hil : i = Es.length := by omega
      subst hil
      have Q := Lib.hid (And.intro hev (And.intro hto (And.intro hbo hK)))
      have hnl : ¬ (Es.length : Int) < (Es.length : Int) := by omega
      clear hev hto hbo
      go_upto_region 8 with fail
      obtain ⟨W0, hW0⟩ : ∃ W0, wq.alloc (.cells Tryz.zeroCells36 36) = W0 := ⟨_, rfl⟩
      have k0 : Old wq W0 := by rw [← hW0]; exact (Keeps.refl _ _).alloc _
      have f0 : FB W0 wq.heap.size (fun _ _ => false) := by
        rw [← hW0]
        refine ⟨_, heap_alloc_new _ _, by rw [zero240]; simp, fun a b ha hb => ?_⟩
        rw [zero240, Array.getElem?_replicate, if_pos (by omega)]
      have F := Lib.hid (And.intro (Q.out.2.2.1.to k0) (And.intro f0 (show w1.heap.size ≤ wq.heap.size from Q.out.2.2.1.ix.old.size)))
      clear k0 f0
      obtain ⟨fb, hfb⟩ : ∃ fb, wq.heap.size = fb := ⟨_, rfl⟩
      rw [hfb] at F
      have hK160 : K ≤ 160 := by have := Q.out.2.2.2; omega
      obtain ⟨ne, hne⟩ : ∃ ne, Es.length = ne := ⟨_, rfl⟩
      have HNE := Lib.hid hne
      go_wp2_with fail
      clear hW0
      go_loopw [9] (fun v9 wr => ∃ (k Kn Km : Nat) (pr : Nat → Option Value) (Gm : ByteArray → Value × List Pt) (N : Nat → List Con), k ≤ Ps.length ∧ v9 = .int .i64 k ∧ Kn ≤ k ∧ Km ≤ 6 * k ∧ PrIs Ps k pr N ∧ Lnk Gm N ∧ Both w1 xb eb nb K ev G xm pb qb Kn Km pr Gm wr ∧ FB wr fb (fun a b => decide (a < k) && fnd Es Ps a b)) (fun v9 _ => Ps.length - (intOf v9).toNat)
      case atStart => exact ⟨0, 0, 0, _, _, _, Nat.zero_le _, rfl, Nat.le_refl _, Nat.le_refl _, PrIs.zero Ps, Lnk.nil, F.out.1, by simpa using F.out.2.1⟩
      case round =>
        obtain ⟨wz, hwz⟩ : ∃ wz : World, wz = wr := ⟨_, rfl⟩
        subst hwz
        obtain ⟨k, Kn, Km, pr, Gm, N, hk, rfl, hKn, hKm, hpr, hln, hbo, hfb⟩ := hrel
        by_cases hlt2 : k < Ps.length
        · have ow : Old w wz := o1H.out.trans hbo.ix.old
          obtain ⟨b, o, cp0, he, _, _, hcell⟩ := H.out.2.1.at (by omega)
          simp only [Value.slice.injEq, true_and] at he
          obtain ⟨rfl, rfl⟩ := he
          obtain ⟨x, hx⟩ : ∃ x, Ps[k]? = some x := ⟨_, List.getElem?_eq_getElem hlt2⟩
          have hxc := H.out.2.2.2 x (List.mem_of_getElem? hx)
          obtain ⟨xv, P⟩ := x
          have hc0 : ∀ V, Old w V → V.cell? ⟨b, o + k, none⟩ = some xv := fun V hV => by
            have := hV.cell (hcell k _ hx 0 xv rfl) (fun f => f)
            simpa using this
          simp only at hxc
          obtain ⟨pa, na, ca, e9⟩ : ∃ p n c, xv = .slice p n c := by obtain ⟨p, c, e, _⟩ := hxc.1.len; exact ⟨_, _, _, e⟩
          subst e9
          have C := Lib.hid hc0
          have IA := Lib.hid (madd_any w1 wz.drew xm pb qb Kn Km pr Gm k (.slice pa na ca) P ((hbo.to (Keeps.refl _ _).drew).mx) (by omega) (by omega) (hpr.hi k (Nat.le_refl _)).1 (hxc.old o1H.out) (by omega))
          have EM := Lib.hid (fun V (hV : Old w V) => pred_may_any (.slice pa na ca) P V (hxc.old hV))
          have QM := Lib.hid (fun V (hV : IxS w1 xb eb nb K ev G V) => query_any w1 V xb eb nb K _ ev G (.slice pa na ca) P hV Q.out.2.1 (hxc.old o1H.out) (by omega) (by omega))
          have R := Lib.hid (And.intro hpr (And.intro hln (And.intro hbo (And.intro hfb (And.intro hx ow)))))
          clear hpr hln hbo hfb hx ow hcell hxc hc0
          obtain ⟨ok, hok⟩ : ∃ ok, predOk P = ok := ⟨_, rfl⟩
          have OK := Lib.hid hok
          clear hok
          go_upto_region 12 with fail
          have rd : Old w wz.drew := R.out.2.2.2.2.2.trans (Keeps.refl _ _).drew
          refine wp_region_g (S := fun V => Old w V) (M := List.range 14) (by kernel_rfl) ?_
          refine tkG (i := 0) (v := ?vg0) ?yg0 rd ?rg0
          case yg0 => (intro W hSw; go_simp; try with_reducible rfl)
          try simp only [Act.put, List.setIfInBounds_toArray, List.set_cons_zero, List.set_cons_succ]
          refine tkG (i := 1) (v := ?vg1) ?yg1 rd ?rg1
          case yg1 => (intro W hSw; go_simp; try with_reducible rfl)
          try simp only [Act.put, List.setIfInBounds_toArray, List.set_cons_zero, List.set_cons_succ]
          refine tkG (i := 2) (v := ?vg2) ?yg2 rd ?rg2
          case yg2 => (intro W hSw; go_simp; try with_reducible rfl)
          try simp only [Act.put, List.setIfInBounds_toArray, List.set_cons_zero, List.set_cons_succ]
          refine tkG (i := 3) (v := ?vg3) ?yg3 rd ?rg3
          case yg3 => (intro W hSw; go_simp; try with_reducible rfl)
          try simp only [Act.put, List.setIfInBounds_toArray, List.set_cons_zero, List.set_cons_succ]
          refine tkG (i := 4) (v := ?vg4) ?yg4 rd ?rg4
          case yg4 => (intro W hSw; go_simp; try with_reducible rfl)
          try simp only [Act.put, List.setIfInBounds_toArray, List.set_cons_zero, List.set_cons_succ]
          refine tkG (i := 5) (v := ?vg5) ?yg5 rd ?rg5
          case yg5 => (intro W hSw; have q1 := C.out _ hSw; go_simp; try with_reducible rfl)
          try simp only [Act.put, List.setIfInBounds_toArray, List.set_cons_zero, List.set_cons_succ]
          refine tkG (i := 8) (v := ?vg8) ?yg8 rd ?rg8
          case yg8 => (intro W hSw; go_simp; try with_reducible rfl)
          try simp only [Act.put, List.setIfInBounds_toArray, List.set_cons_zero, List.set_cons_succ]
          refine tkG (i := 9) (v := ?vg9) ?yg9 rd ?rg9
          case yg9 => (intro W hSw; go_simp; try with_reducible rfl)
          try simp only [Act.put, List.setIfInBounds_toArray, List.set_cons_zero, List.set_cons_succ]
          refine tkG (i := 10) (v := ?vg10) ?yg10 rd ?rg10
          case yg10 => (intro W hSw; go_simp; try with_reducible rfl)
          try simp only [Act.put, List.setIfInBounds_toArray, List.set_cons_zero, List.set_cons_succ]
          refine tkG (i := 11) (v := ?vg11) ?yg11 rd ?rg11
          case yg11 => (intro W hSw; have q1 := C.out _ hSw; go_simp; try with_reducible rfl)
          try simp only [Act.put, List.setIfInBounds_toArray, List.set_cons_zero, List.set_cons_succ]
          refine wpAnyG_onlyL (i := 6) (o := _) (by kernel_rfl) rfl (fun K hK => ?_)
          go_simp
          refine IA.out.mono ?_
          intro e W8 hadd
          obtain ⟨z, Kn', Km', pr', Gm', N', rfl, hz, hKn', hKm', hpr', hln', hb', hf'⟩ := addU hadd (R.out.2.2.1.to (Keeps.refl _ _).drew) (R.out.2.2.2.1.old (Keeps.refl _ _).drew) R.out.2.2.2.2.1 R.out.1 R.out.2.1
          simp only at hz
          rw [OK.out] at hz
          have o8 : Old w W8 := o1H.out.trans hb'.ix.old
          have EM8 := EM.out W8 o8
          rw [OK.out] at EM8
          have Y := Lib.hid (And.intro hpr' (And.intro hln' (And.intro hb' hf')))
          clear hadd hpr' hln' hb' hf' rd
          go_wp2_with fail
          refine hK.out _ _ (fun _ => o8) ?_
          clear hK K
          try simp only [Act.put, List.setIfInBounds_toArray, List.set_cons_zero, List.set_cons_succ]
          refine tkG (i := 7) (v := ?vg7) ?yg7 o8 ?rg7
          case yg7 => (intro W hSw; go_simp; try with_reducible rfl)
          try simp only [Act.put, List.setIfInBounds_toArray, List.set_cons_zero, List.set_cons_succ]
          refine wpAnyG_onlyL (i := 12) (o := _) (by kernel_rfl) rfl (fun K hK => ?_)
          go_simp
          refine EM8.mono ?_
          rintro e W9 ⟨rfl, k9⟩
          have o9 := o8.trans k9
          go_wp2_with fail
          refine hK.out _ _ (fun _ => o9) ?_
          clear hK K
          try simp only [Act.put, List.setIfInBounds_toArray, List.set_cons_zero, List.set_cons_succ]
          refine tkG (i := 13) (v := ?vg13) ?yg13 o9 ?rg13
          case yg13 => (intro W hSw; go_simp; try with_reducible rfl)
          try simp only [Act.put, List.setIfInBounds_toArray, List.set_cons_zero, List.set_cons_succ]
          refine wpAnyG_done (by kernel_rfl) ?_ _
          go_simp
          have q9 := C.out _ o9
          have b9 := Y.out.2.2.1.to k9
          have QQ := Lib.hid (QM.out W9 b9.ix)
          have Z := Lib.hid (And.intro b9 (Y.out.2.2.2.old k9))
          clear k9 o8 o9 b9 EM8
          go_wp2_with fail
          refine QQ.out.mono ?_
          intro e W10 hq
          obtain ⟨pq, cq, Bq, L, zq, rfl, hoL, k10, hL⟩ := qryU hq Q.out.1 R.out.2.2.2.2.1
          have hL9 : L.length ≤ 9223372036854775807 := by
            obtain ⟨_, _, _, h1, h2⟩ := (OwnsR.sees (enc := oneL encU) hoL (fun _ => rfl) (by decide)).len
            unfold maxLen at h2
            omega
          have V := Lib.hid (And.intro (Z.out.1.to k10) (And.intro (Z.out.2.old k10) (And.intro hoL hL)))
          clear hq k10 hoL hL q9 hz QQ
          go_wp2_with fail
          go_loopw [12] (fun v12 wr => ∃ j : Nat, j ≤ L.length ∧ v12 = .int .i64 j ∧ Both w1 xb eb nb K ev G xm pb qb Kn' Km' pr' Gm' wr ∧ FB wr fb (fun a b => (decide (a < k) && fnd Es Ps a b) || (a == k && (L.take j).contains b)) ∧ OwnsR wr Bq 30 1 (oneL encU) (.slice pq L.length cq) L) (fun v12 _ => L.length - (intOf v12).toNat)
          case atStart => exact ⟨0, Nat.zero_le _, rfl, V.out.1, V.out.2.1.congr (fun a b _ _ => by simp), V.out.2.2.1⟩
          case round =>
            obtain ⟨wx, hwx⟩ : ∃ wx : World, wx = wr := ⟨_, rfl⟩
            subst hwx
            obtain ⟨j, hj, rfl, hbo, hfb, hoL⟩ := hrel
            by_cases hlt3 : j < L.length
            · obtain ⟨bq, oq, cq2, he2, _, _, hcell2⟩ := (OwnsR.sees (enc := oneL encU) hoL (fun _ => rfl) (by decide)).at (by omega)
              simp only [Value.slice.injEq, true_and] at he2
              obtain ⟨rfl, rfl⟩ := he2
              obtain ⟨n, hnx⟩ : ∃ n, L[j]? = some n := ⟨_, List.getElem?_eq_getElem hlt3⟩
              have hf := (V.out.2.2.2 n).1 (List.mem_of_getElem? hnx)
              have hnl := (fnd_lt hf).2
              have hk12 : k < 12 := by omega
              have hn20 : n < 20 := by omega
              have lc : ∀ V', Old wx V' → V'.cell? ⟨bq, oq + j, none⟩ = some (.int .u64 (n : Int)) := fun V' hV => by
                have := hV.cell (hcell2 j n hnx 0 _ rfl) (fun f => f)
                exact (by simpa using this : V'.cell? ⟨bq, oq + j, none⟩ = some (encU n))
              have fc := (hfb.old ((Keeps.refl (fun _ => False) wx).drew)).cell hk12 hn20
              have dd : ∀ V', Old V' V'.drew := fun V' => (Keeps.refl _ _).drew
              have fset := (hfb.set hk12 hn20).old (dd _)
              obtain ⟨cs0, hcs, _⟩ := hfb
              have bset : Both w1 xb eb nb K ev G xm pb qb Kn' Km' pr' Gm' (wx.setCell ⟨fb, k * 20 + n, none⟩ (.bool true)).drew := (hbo.table hcs F.out.2.2 (keepV _ _ _ _)).to (dd _)
              have oset := (hoL.keeps (keepV wx fb (k * 20 + n) (.bool true)) (fun b hb e => by
                have hT := own_isT hoL hb
                rw [show b = fb from e] at hT
                exact absurd (isT_one hT hcs) (by decide))).old (dd _)
              have ht : L.take (j + 1) = L.take j ++ [n] := by rw [List.take_add_one, hnx]; rfl
              have LC := Lib.hid lc
              have Z3 := Lib.hid (And.intro fset (And.intro bset (And.intro oset ht)))
              have fc1 := fc.1
              have fc2 := fc.2
              clear fc fset bset oset ht hcs hbo hoL hcell2 lc hf hnx
              have hk12i : (k : Int) < 12 := by omega
              have hn20i : (n : Int) < 20 := by omega
              go_upto_region 18 with fail
              have rt3 : True := trivial
              refine wp_region_g (S := fun _ => True) (M := List.range 8) (by kernel_rfl) ?_
              refine tkG (i := 0) (v := ?vh0) ?yh0 rt3 ?rh0
              case yh0 => (intro W hSw; go_simp; try with_reducible rfl)
              try simp only [Act.put, List.setIfInBounds_toArray, List.set_cons_zero, List.set_cons_succ]
              refine tkG (i := 1) (v := ?vh1) ?yh1 rt3 ?rh1
              case yh1 => (intro W hSw; go_simp; try with_reducible rfl)
              try simp only [Act.put, List.setIfInBounds_toArray, List.set_cons_zero, List.set_cons_succ]
              refine tkG (i := 2) (v := ?vh2) ?yh2 rt3 ?rh2
              case yh2 => (intro W hSw; go_simp; try with_reducible rfl)
              try simp only [Act.put, List.setIfInBounds_toArray, List.set_cons_zero, List.set_cons_succ]
              refine tkG (i := 3) (v := ?vh3) ?yh3 rt3 ?rh3
              case yh3 => (intro W hSw; go_simp; try with_reducible rfl)
              try simp only [Act.put, List.setIfInBounds_toArray, List.set_cons_zero, List.set_cons_succ]
              refine tkG (i := 5) (v := ?vh5) ?yh5 rt3 ?rh5
              case yh5 => (intro W hSw; go_simp; try with_reducible rfl)
              try simp only [Act.put, List.setIfInBounds_toArray, List.set_cons_zero, List.set_cons_succ]
              refine wpAnyG_true (fun V => Old wx V) [0, 1, 2, 3, 4, 5, 6] _ _ _ _ ?_
              have rd3 : Old wx wx.drew := (Keeps.refl _ _).drew
              refine tkG (i := 4) (v := ?vh4) ?yh4 rd3 ?rh4
              case yh4 => (intro W hSw; have q1 := LC.out _ hSw; go_simp; try with_reducible rfl)
              try simp only [Act.put, List.setIfInBounds_toArray, List.set_cons_zero, List.set_cons_succ]
              refine tkG (i := 6) (v := ?vh6) ?yh6 rd3 ?rh6
              case yh6 => (intro W hSw; go_simp; try with_reducible rfl)
              try simp only [Act.put, List.setIfInBounds_toArray, List.set_cons_zero, List.set_cons_succ]
              refine wpAnyG_onlyL (i := 7) (o := _) (by kernel_rfl) rfl (fun K hK => ?_)
              go_simp
              refine hK.out _ _ (fun h => absurd h (by decide)) ?_
              clear hK K
              try simp only [Act.put, List.setIfInBounds_toArray, List.set_cons_zero, List.set_cons_succ]
              refine wpAnyG_done (by kernel_rfl) ?_ _
              go_simp
              clear fc1 fc2 dd
              go_wp2_with fail
              go_roundw
              case rel =>
                refine ⟨j + 1, by omega, by go_num, Z3.out.2.1, Z3.out.1.congr (fun a b _ _ => ?_), Z3.out.2.2.1⟩
                exact tab_step L a b k n j _ Z3.out.2.2.2
              case measure => simp [intOf]; omega
            · have hjl : j = L.length := by omega
              subst hjl
              rw [List.take_of_length_le (Nat.le_refl _)] at hfb
              have hfb2 : FB wx fb (fun a b => decide (a < k + 1) && fnd Es Ps a b) := hfb.congr (fun a b _ _ => tab_end L a b k V.out.2.2.2)
              have Z3 := Lib.hid (And.intro hbo hfb2)
              have hnl3 : ¬ (L.length : Int) < (L.length : Int) := by omega
              clear hbo hfb hfb2 hoL
              go_wp2_with fail
              go_roundw
              case rel => exact ⟨k + 1, Kn', Km', pr', Gm', N', by omega, by go_num, by omega, by omega, Y.out.1, Y.out.2.1, Z3.out.1, Z3.out.2⟩
              case measure => simp [intOf]; omega
        · have hkl : k = Ps.length := by omega
          subst hkl
          have hfb2 : FB wz fb (fnd Es Ps) := hfb.congr (fun a b _ _ => by
            by_cases ha : a < Ps.length
            · simp [ha]
            · have : fnd Es Ps a b = false := by
                cases hf : fnd Es Ps a b
                · rfl
                · exact absurd (fnd_lt hf).1 ha
              simp [this])
          have R := Lib.hid (And.intro hpr (And.intro hln (And.intro hbo hfb2)))
          have hnl2 : ¬ (Ps.length : Int) < (Ps.length : Int) := by omega
          clear hpr hln hbo hfb hfb2
          go_wp2_with fail
          go_loopw [13] (fun v13 wr => ∃ i : Nat, i ≤ ne ∧ v13 = .int .i64 i ∧ Old wz wr) (fun v13 _ => ne - (intOf v13).toNat)
          case atStart => exact ⟨0, Nat.zero_le _, rfl, Keeps.refl _ _⟩
          case round =>
            obtain ⟨wa, hwa⟩ : ∃ wa : World, wa = wr := ⟨_, rfl⟩
            subst hwa
            obtain ⟨i, hi4, rfl, hk4⟩ := hrel
            by_cases hlt4 : i < ne
            · have ow : Old w wa := (o1H.out.trans R.out.2.2.1.ix.old).trans hk4
              obtain ⟨b, o, cp0, he, _, _, hcell⟩ := H.out.1.at (by omega)
              simp only [Value.slice.injEq] at he
              obtain ⟨rfl, _, rfl⟩ := he
              obtain ⟨x, hx⟩ : ∃ x, Es[i]? = some x := ⟨_, List.getElem?_eq_getElem (by omega)⟩
              have hxa := H.out.2.2.1 x (List.mem_of_getElem? hx)
              have cell : ∀ V, Old w V → ∀ j u, (evL x)[j]? = some u → V.cell? ⟨b, o + i * 2 + j, none⟩ = some u := fun V hV j u hu => hV.cell (hcell i x hx j u hu) (fun f => f)
              obtain ⟨key, av, al⟩ := x
              have hc0 : ∀ V, Old w V → V.cell? ⟨b, o + i * 2, none⟩ = some (.string key) := fun V hV => by simpa using cell V hV 0 _ rfl
              have hc1 : ∀ V, Old w V → V.cell? ⟨b, o + i * 2 + 1, none⟩ = some av := fun V hV => cell V hV 1 _ rfl
              simp only at hxa
              obtain ⟨pa, na, ca, e9⟩ : ∃ p n c, av = .slice p n c := by obtain ⟨p, c, e, _⟩ := hxa.1.len; exact ⟨_, _, _, e⟩
              subst e9
              obtain ⟨ok, hok⟩ : ∃ ok, evOk key al = ok := ⟨_, rfl⟩
              have EM := Lib.hid (fun V (hV : Old w V) => ev_may_any key (.slice pa na ca) al V (hxa.1.old hV))
              rw [hok] at EM
              have q1 := hc0 wa ow
              have q2 := hc1 wa ow
              have C := Lib.hid (And.intro hc0 hc1)
              have S4 := Lib.hid (And.intro hk4 (And.intro ow (And.intro hx (And.intro hok hxa))))
              clear hk4 hx hok hxa hcell cell hc0 hc1
              go_wp2_with fail
              refine (EM.out wa S4.out.2.1).mono ?_
              rintro e wb ⟨rfl, kb⟩
              have q3 := C.out.1 wb (S4.out.2.1.trans kb)
              have q4 := C.out.2 wb (S4.out.2.1.trans kb)
              have KB := Lib.hid (S4.out.1.trans kb)
              clear kb q1 q2
              cases ok
              · clear q3 q4
                go_wp2_with fail
                go_roundw
                case rel => exact ⟨i + 1, by omega, by go_num, KB.out⟩
                case measure => simp [intOf]; omega
              · have hal8 : al.length ≤ 8 := by have := S4.out.2.2.2.1; unfold evOk at this; simp at this; omega
                have hev4 : evAt Es i = some al := by unfold evAt; rw [S4.out.2.2.1]; simp [S4.out.2.2.2.1]
                have MM := Lib.hid (match_any w1 wb xm pb qb Kn Km pr Gm key (.slice pa na ca) al (R.out.2.2.1.to KB.out).mx (by omega) (by omega) (by omega) (S4.out.2.2.2.2.1.old o1H.out) (fun s y hy => by have := lnk_id R.out.2.1 R.out.1 s y hy; omega) (fun k v hv => by
                  rcases Nat.lt_or_ge k Ps.length with h | h
                  · obtain ⟨t, ht⟩ : ∃ t, Ps[k]? = some t := ⟨_, List.getElem?_eq_getElem h⟩
                    cases hp0 : predOk t.2
                    · rw [(R.out.1.no k t h ht hp0).1] at hv; cases hv
                    · obtain ⟨⟨p, c, e⟩, _⟩ := R.out.1.yes k t h ht hp0
                      rw [e] at hv
                      simp only [Option.some.injEq] at hv
                      exact ⟨by omega, p, _, c, hv.symm⟩
                  · rw [(R.out.1.hi k h).1] at hv; cases hv))
                have HEV := Lib.hid hev4
                clear hev4
                go_wp2_with fail
                refine MM.out.mono ?_
                rintro e wc ⟨vL, L, rfl, hsL, hpw, kc, hL⟩
                obtain ⟨pL, cL, rfl, _, hcL⟩ := hsL.len
                obtain ⟨f, hfd⟩ : ∃ f : Nat → Bool, (fun k => fnd Es Ps k i) = f := ⟨_, rfl⟩
                have hLf : L = (List.range Ps.length).filter f := by
                  refine sorted_filter f _ _ hpw (List.pairwise_lt_range.filter _) (fun k => ?_)
                  rw [hL k, mat_found R.out.2.1 R.out.1 HEV.out k, List.mem_filter, List.mem_range, ← hfd]
                  exact ⟨fun h => ⟨(fnd_lt h).1, h⟩, fun h => h.2⟩
                have hL9 : L.length ≤ 12 := by rw [hLf]; have := List.length_filter_le f (List.range Ps.length); rw [List.length_range] at this; omega
                have T := Lib.hid (And.intro hsL (And.intro (KB.out.trans kc) (And.intro hLf hfd)))
                clear hsL hpw kc hL hcL q3 q4 hLf hfd
                go_wp2_with fail
                go_loopw [15, 16] (fun v15 v16 wr => ∃ k : Nat, k ≤ Ps.length ∧ v16 = .int .i64 k ∧ v15 = .int .i64 (((List.range k).filter f).length : Nat) ∧ Old wc wr) (fun _ v16 _ => Ps.length - (intOf v16).toNat)
                case atStart => exact ⟨0, Nat.zero_le _, rfl, rfl, Keeps.refl _ _⟩
                case round =>
                  obtain ⟨we, hwe⟩ : ∃ we : World, we = wr := ⟨_, rfl⟩
                  subst hwe
                  obtain ⟨k, hk5, rfl, rfl, hke⟩ := hrel
                  by_cases hlt5 : k < Ps.length
                  · have owc : Old w wc := (o1H.out.trans R.out.2.2.1.ix.old).trans T.out.2.1
                    obtain ⟨bp, op, cpp, hep, _, _, hcellp⟩ := H.out.2.1.at (by omega)
                    simp only [Value.slice.injEq, true_and] at hep
                    obtain ⟨rfl, rfl⟩ := hep
                    obtain ⟨y, hy⟩ : ∃ y, Ps[k]? = some y := ⟨_, List.getElem?_eq_getElem hlt5⟩
                    have hyc := H.out.2.2.2 y (List.mem_of_getElem? hy)
                    obtain ⟨yv, P⟩ := y
                    have hc5 : ∀ V, Old wc V → V.cell? ⟨bp, op + k, none⟩ = some yv := fun V hV => by
                      have := (owc.trans hV).cell (hcellp k _ hy 0 yv rfl) (fun f => f)
                      simpa using this
                    simp only at hyc
                    obtain ⟨p5, n5, c5, e9⟩ : ∃ p n c, yv = .slice p n c := by obtain ⟨p, c, e, _⟩ := hyc.1.len; exact ⟨_, _, _, e⟩
                    subst e9
                    have hk12 : k < 12 := by omega
                    have hi20 : i < 20 := by omega
                    have hfk : fnd Es Ps k i = (predOk P && matchesV (P.map Con.plain) al) := by unfold fnd; rw [hy, HEV.out]
                    have FF := Lib.hid (fun V (hV : Old wc V) => (((R.out.2.2.2.old T.out.2.1).old hV).cell hk12 hi20).1)
                    rw [hfk] at FF
                    have hff : f k = (predOk P && matchesV (P.map Con.plain) al) := by rw [← hfk, ← T.out.2.2.2]
                    have PM := Lib.hid (fun V (hV : Old wc V) => pred_may_any (.slice p5 n5 c5) P V (hyc.old (owc.trans hV)))
                    have MT := Lib.hid (fun V (hV : Old wc V) => matches_any (.slice p5 n5 c5) P key (.slice pa na ca) al V (hyc.1.old (owc.trans hV)) (fun x hx => ((hyc.2 x hx).old (owc.trans hV)).1) (S4.out.2.2.2.2.1.old (owc.trans hV)))
                    have C5 := Lib.hid hc5
                    have CE := Lib.hid (And.intro (fun V (hV : Old wc V) => C.out.1 V (owc.trans hV)) (fun V (hV : Old wc V) => C.out.2 V (owc.trans hV)))
                    have S5 := Lib.hid (And.intro hke hff)
                    have hk12i : (k : Int) < 12 := by omega
                    have hi20i : (i : Int) < 20 := by omega
                    obtain ⟨m, hm⟩ : ∃ m, ((List.range k).filter f).length = m := ⟨_, rfl⟩
                    have hm12 : m ≤ 12 := by rw [← hm]; have := List.length_filter_le f (List.range k); rw [List.length_range] at this; omega
                    rw [hm]
                    have HM := Lib.hid hm
                    clear hke hff hfk hy hyc hcellp hc5 owc hm
                    obtain ⟨okp, hokp⟩ : ∃ okp, predOk P = okp := ⟨_, rfl⟩
                    obtain ⟨mv, hmv⟩ : ∃ mv, matchesV (P.map Con.plain) al = mv := ⟨_, rfl⟩
                    rw [hokp, hmv] at FF S5
                    rw [hokp] at PM
                    rw [hmv] at MT
                    clear hokp hmv
                    go_upto_region 28 with fail
                    cases okp
                    · simp only [Bool.false_and] at FF S5
                      have rd5 : Old wc we.drew := S5.out.1.trans (Keeps.refl _ _).drew
                      refine wp_region_g (S := fun V => Old wc V) (M := List.range 22) (by kernel_rfl) ?_
                      refine tkG (i := 0) (v := ?vfv0) ?yfv0 rd5 ?rfv0
                      case yfv0 => (intro W hSw; go_simp; try with_reducible rfl)
                      try simp only [Act.put, List.setIfInBounds_toArray, List.set_cons_zero, List.set_cons_succ]
                      refine tkG (i := 1) (v := ?vfv1) ?yfv1 rd5 ?rfv1
                      case yfv1 => (intro W hSw; go_simp; try with_reducible rfl)
                      try simp only [Act.put, List.setIfInBounds_toArray, List.set_cons_zero, List.set_cons_succ]
                      refine tkG (i := 2) (v := ?vfv2) ?yfv2 rd5 ?rfv2
                      case yfv2 => (intro W hSw; go_simp; try with_reducible rfl)
                      try simp only [Act.put, List.setIfInBounds_toArray, List.set_cons_zero, List.set_cons_succ]
                      refine tkG (i := 3) (v := ?vfv3) ?yfv3 rd5 ?rfv3
                      case yfv3 => (intro W hSw; go_simp; try with_reducible rfl)
                      try simp only [Act.put, List.setIfInBounds_toArray, List.set_cons_zero, List.set_cons_succ]
                      refine tkG (i := 4) (v := ?vfv4) ?yfv4 rd5 ?rfv4
                      case yfv4 => (intro W hSw; have q5 := FF.out _ hSw; go_simp; try with_reducible rfl)
                      try simp only [Act.put, List.setIfInBounds_toArray, List.set_cons_zero, List.set_cons_succ]
                      refine tkG (i := 5) (v := ?vfv5) ?yfv5 rd5 ?rfv5
                      case yfv5 => (intro W hSw; go_simp; try with_reducible rfl)
                      try simp only [Act.put, List.setIfInBounds_toArray, List.set_cons_zero, List.set_cons_succ]
                      refine tkG (i := 6) (v := ?vfv6) ?yfv6 rd5 ?rfv6
                      case yfv6 => (intro W hSw; go_simp; try with_reducible rfl)
                      try simp only [Act.put, List.setIfInBounds_toArray, List.set_cons_zero, List.set_cons_succ]
                      refine tkG (i := 7) (v := ?vfv7) ?yfv7 rd5 ?rfv7
                      case yfv7 => (intro W hSw; go_simp; try with_reducible rfl)
                      try simp only [Act.put, List.setIfInBounds_toArray, List.set_cons_zero, List.set_cons_succ]
                      refine tkG (i := 8) (v := ?vfv8) ?yfv8 rd5 ?rfv8
                      case yfv8 => (intro W hSw; have q5 := C5.out _ hSw; go_simp; try with_reducible rfl)
                      try simp only [Act.put, List.setIfInBounds_toArray, List.set_cons_zero, List.set_cons_succ]
                      refine wpAnyG_onlyL (i := 9) (o := _) (by kernel_rfl) rfl (fun K hK => ?_)
                      go_simp
                      refine (PM.out _ rd5).mono ?_
                      rintro e wf ⟨rfl, kf⟩
                      have of : Old wc wf := rd5.trans kf
                      go_wp2_with fail
                      refine hK.out _ _ (fun _ => of) ?_
                      clear hK K
                      try simp only [Act.put, List.setIfInBounds_toArray, List.set_cons_zero, List.set_cons_succ]
                      refine tkG (i := 10) (v := ?vfv10) ?yfv10 of ?rfv10
                      case yfv10 => (intro W hSw; go_simp; try with_reducible rfl)
                      try simp only [Act.put, List.setIfInBounds_toArray, List.set_cons_zero, List.set_cons_succ]
                      refine tnG (i := 11) of ?rfv11
                      try simp only [Act.put, List.setIfInBounds_toArray, List.set_cons_zero, List.set_cons_succ]
                      refine tnG (i := 12) of ?rfv12
                      try simp only [Act.put, List.setIfInBounds_toArray, List.set_cons_zero, List.set_cons_succ]
                      refine tnG (i := 13) of ?rfv13
                      try simp only [Act.put, List.setIfInBounds_toArray, List.set_cons_zero, List.set_cons_succ]
                      refine tnG (i := 14) of ?rfv14
                      try simp only [Act.put, List.setIfInBounds_toArray, List.set_cons_zero, List.set_cons_succ]
                      refine tnG (i := 15) of ?rfv15
                      try simp only [Act.put, List.setIfInBounds_toArray, List.set_cons_zero, List.set_cons_succ]
                      refine tnG (i := 16) of ?rfv16
                      try simp only [Act.put, List.setIfInBounds_toArray, List.set_cons_zero, List.set_cons_succ]
                      refine tnG (i := 17) of ?rfv17
                      try simp only [Act.put, List.setIfInBounds_toArray, List.set_cons_zero, List.set_cons_succ]
                      refine tnG (i := 18) of ?rfv18
                      try simp only [Act.put, List.setIfInBounds_toArray, List.set_cons_zero, List.set_cons_succ]
                      refine tnG (i := 19) of ?rfv19
                      try simp only [Act.put, List.setIfInBounds_toArray, List.set_cons_zero, List.set_cons_succ]
                      refine tkG (i := 20) (v := ?vfv20) ?yfv20 of ?rfv20
                      case yfv20 => (intro W hSw; go_simp; try with_reducible rfl)
                      try simp only [Act.put, List.setIfInBounds_toArray, List.set_cons_zero, List.set_cons_succ]
                      refine tkG (i := 21) (v := ?vfv21) ?yfv21 of ?rfv21
                      case yfv21 => (intro W hSw; go_simp; try with_reducible rfl)
                      try simp only [Act.put, List.setIfInBounds_toArray, List.set_cons_zero, List.set_cons_succ]
                      refine wpAnyG_done (by kernel_rfl) ?_ _
                      go_simp
                      have q5 := FF.out _ of
                      have Z5 := Lib.hid of
                      clear kf rd5 of
                      go_wp2_with fail
                      go_roundw
                      case rel => exact ⟨k + 1, by omega, by go_num, by rw [filt_len, S5.out.2, HM.out]; rfl, Z5.out⟩
                      case measure => simp [intOf]; omega
                    · simp only [Bool.true_and] at FF S5
                      have rd5 : Old wc we.drew := S5.out.1.trans (Keeps.refl _ _).drew
                      refine wp_region_g (S := fun V => Old wc V) (M := List.range 22) (by kernel_rfl) ?_
                      refine tkG (i := 0) (v := ?vtv0) ?ytv0 rd5 ?rtv0
                      case ytv0 => (intro W hSw; go_simp; try with_reducible rfl)
                      try simp only [Act.put, List.setIfInBounds_toArray, List.set_cons_zero, List.set_cons_succ]
                      refine tkG (i := 1) (v := ?vtv1) ?ytv1 rd5 ?rtv1
                      case ytv1 => (intro W hSw; go_simp; try with_reducible rfl)
                      try simp only [Act.put, List.setIfInBounds_toArray, List.set_cons_zero, List.set_cons_succ]
                      refine tkG (i := 2) (v := ?vtv2) ?ytv2 rd5 ?rtv2
                      case ytv2 => (intro W hSw; go_simp; try with_reducible rfl)
                      try simp only [Act.put, List.setIfInBounds_toArray, List.set_cons_zero, List.set_cons_succ]
                      refine tkG (i := 3) (v := ?vtv3) ?ytv3 rd5 ?rtv3
                      case ytv3 => (intro W hSw; go_simp; try with_reducible rfl)
                      try simp only [Act.put, List.setIfInBounds_toArray, List.set_cons_zero, List.set_cons_succ]
                      refine tkG (i := 4) (v := ?vtv4) ?ytv4 rd5 ?rtv4
                      case ytv4 => (intro W hSw; have q5 := FF.out _ hSw; go_simp; try with_reducible rfl)
                      try simp only [Act.put, List.setIfInBounds_toArray, List.set_cons_zero, List.set_cons_succ]
                      refine tkG (i := 5) (v := ?vtv5) ?ytv5 rd5 ?rtv5
                      case ytv5 => (intro W hSw; go_simp; try with_reducible rfl)
                      try simp only [Act.put, List.setIfInBounds_toArray, List.set_cons_zero, List.set_cons_succ]
                      refine tkG (i := 6) (v := ?vtv6) ?ytv6 rd5 ?rtv6
                      case ytv6 => (intro W hSw; go_simp; try with_reducible rfl)
                      try simp only [Act.put, List.setIfInBounds_toArray, List.set_cons_zero, List.set_cons_succ]
                      refine tkG (i := 7) (v := ?vtv7) ?ytv7 rd5 ?rtv7
                      case ytv7 => (intro W hSw; go_simp; try with_reducible rfl)
                      try simp only [Act.put, List.setIfInBounds_toArray, List.set_cons_zero, List.set_cons_succ]
                      refine tkG (i := 8) (v := ?vtv8) ?ytv8 rd5 ?rtv8
                      case ytv8 => (intro W hSw; have q5 := C5.out _ hSw; go_simp; try with_reducible rfl)
                      try simp only [Act.put, List.setIfInBounds_toArray, List.set_cons_zero, List.set_cons_succ]
                      refine wpAnyG_onlyL (i := 9) (o := _) (by kernel_rfl) rfl (fun K hK => ?_)
                      go_simp
                      refine (PM.out _ rd5).mono ?_
                      rintro e wf ⟨rfl, kf⟩
                      have of : Old wc wf := rd5.trans kf
                      go_wp2_with fail
                      refine hK.out _ _ (fun _ => of) ?_
                      clear hK K
                      try simp only [Act.put, List.setIfInBounds_toArray, List.set_cons_zero, List.set_cons_succ]
                      refine tkG (i := 10) (v := ?vtv10) ?ytv10 of ?rtv10
                      case ytv10 => (intro W hSw; go_simp; try with_reducible rfl)
                      try simp only [Act.put, List.setIfInBounds_toArray, List.set_cons_zero, List.set_cons_succ]
                      refine tkG (i := 11) (v := ?vtv11) ?ytv11 of ?rtv11
                      case ytv11 => (intro W hSw; go_simp; try with_reducible rfl)
                      try simp only [Act.put, List.setIfInBounds_toArray, List.set_cons_zero, List.set_cons_succ]
                      refine tkG (i := 12) (v := ?vtv12) ?ytv12 of ?rtv12
                      case ytv12 => (intro W hSw; go_simp; try with_reducible rfl)
                      try simp only [Act.put, List.setIfInBounds_toArray, List.set_cons_zero, List.set_cons_succ]
                      refine tkG (i := 13) (v := ?vtv13) ?ytv13 of ?rtv13
                      case ytv13 => (intro W hSw; go_simp; try with_reducible rfl)
                      try simp only [Act.put, List.setIfInBounds_toArray, List.set_cons_zero, List.set_cons_succ]
                      refine tkG (i := 14) (v := ?vtv14) ?ytv14 of ?rtv14
                      case ytv14 => (intro W hSw; have q5 := C5.out _ hSw; go_simp; try with_reducible rfl)
                      try simp only [Act.put, List.setIfInBounds_toArray, List.set_cons_zero, List.set_cons_succ]
                      refine tkG (i := 15) (v := ?vtv15) ?ytv15 of ?rtv15
                      case ytv15 => (intro W hSw; go_simp; try with_reducible rfl)
                      try simp only [Act.put, List.setIfInBounds_toArray, List.set_cons_zero, List.set_cons_succ]
                      refine tkG (i := 16) (v := ?vtv16) ?ytv16 of ?rtv16
                      case ytv16 => (intro W hSw; go_simp; try with_reducible rfl)
                      try simp only [Act.put, List.setIfInBounds_toArray, List.set_cons_zero, List.set_cons_succ]
                      refine tkG (i := 17) (v := ?vtv17) ?ytv17 of ?rtv17
                      case ytv17 => (intro W hSw; go_simp; try with_reducible rfl)
                      try simp only [Act.put, List.setIfInBounds_toArray, List.set_cons_zero, List.set_cons_succ]
                      refine tkG (i := 18) (v := ?vtv18) ?ytv18 of ?rtv18
                      case ytv18 => (intro W hSw; have q5 := CE.out.1 _ hSw; have q6 := CE.out.2 _ hSw; go_simp; try with_reducible rfl)
                      try simp only [Act.put, List.setIfInBounds_toArray, List.set_cons_zero, List.set_cons_succ]
                      refine wpAnyG_onlyL (i := 19) (o := _) (by kernel_rfl) rfl (fun K hK => ?_)
                      go_simp
                      refine (MT.out _ of).mono ?_
                      rintro e wg ⟨rfl, kg⟩
                      have og : Old wc wg := of.trans kg
                      go_wp2_with fail
                      refine hK.out _ _ (fun _ => og) ?_
                      clear hK K
                      try simp only [Act.put, List.setIfInBounds_toArray, List.set_cons_zero, List.set_cons_succ]
                      refine tkG (i := 20) (v := ?vtv20) ?ytv20 og ?rtv20
                      case ytv20 => (intro W hSw; go_simp; try with_reducible rfl)
                      try simp only [Act.put, List.setIfInBounds_toArray, List.set_cons_zero, List.set_cons_succ]
                      refine tkG (i := 21) (v := ?vtv21) ?ytv21 og ?rtv21
                      case ytv21 => (intro W hSw; go_simp; try with_reducible rfl)
                      try simp only [Act.put, List.setIfInBounds_toArray, List.set_cons_zero, List.set_cons_succ]
                      refine wpAnyG_done (by kernel_rfl) ?_ _
                      go_simp
                      have q5 := FF.out _ og
                      have Z5 := Lib.hid og
                      cases mv
                      · clear kf rd5 of og kg
                        go_wp2_with fail
                        go_roundw
                        case rel => exact ⟨k + 1, by omega, by go_num, by rw [filt_len, S5.out.2, HM.out]; rfl, Z5.out⟩
                        case measure => simp [intOf]; omega
                      · have hat : L[m]? = some k := by rw [T.out.2.2.1, ← HM.out]; exact filt_at f k Ps.length hlt5 S5.out.2
                        have hmL : m < L.length := (List.getElem?_eq_some_iff.1 hat).1
                        obtain ⟨bL, oL, cL2, heL, _, _, hcellL⟩ := T.out.1.at (by omega)
                        simp only [Value.slice.injEq, true_and] at heL
                        obtain ⟨rfl, rfl⟩ := heL
                        have qL : wg.cell? ⟨bL, oL + m, none⟩ = some (.int .i64 (k : Int)) := by
                          have := og.cell (hcellL m k hat 0 _ rfl) (fun f => f)
                          exact (by simpa using this : wg.cell? ⟨bL, oL + m, none⟩ = some (encN k))
                        have hge : decide ((m : Int) ≥ (L.length : Int)) = false := by simp; omega
                        clear kf rd5 of og kg hat hcellL
                        go_wp2_with fail
                        go_roundw
                        case rel => exact ⟨k + 1, by omega, by go_num, by rw [filt_len, S5.out.2, HM.out]; go_num, Z5.out⟩
                        case measure => simp [intOf]; omega
                  · have hkl : k = Ps.length := by omega
                    subst hkl
                    rw [← T.out.2.2.1]
                    have Z5 := Lib.hid (T.out.2.1.trans hke)
                    have hnl5 : ¬ (Ps.length : Int) < (Ps.length : Int) := by omega
                    clear hke
                    go_wp2_with fail
                    go_roundw
                    case rel => exact ⟨i + 1, by omega, by go_num, Z5.out⟩
                    case measure => simp [intOf]; omega
            · have hil4 : ne = i := by omega
              subst hil4
              have S4 := Lib.hid hk4
              have hnl4 : ¬ (ne : Int) < (ne : Int) := by omega
              clear hk4
              go_wp2_with fail
              go_loopw [17] (fun v17 wr => ∃ k : Nat, k ≤ Ps.length ∧ v17 = .int .i64 k ∧ Old wz wr) (fun v17 _ => Ps.length - (intOf v17).toNat)
              case atStart => exact ⟨0, Nat.zero_le _, rfl, S4.out⟩
              case round =>
                obtain ⟨wb, hwb⟩ : ∃ wb : World, wb = wr := ⟨_, rfl⟩
                subst hwb
                obtain ⟨k, hk6, rfl, hkb⟩ := hrel
                by_cases hlt6 : k < Ps.length
                · have S6 := Lib.hid hkb
                  clear hkb
                  go_wp2_with fail
                  go_loopw [18] (fun v18 wr => ∃ m : Nat, m ≤ Ps.length ∧ v18 = .int .i64 m ∧ Old wz wr) (fun v18 _ => Ps.length - (intOf v18).toNat)
                  case atStart => exact ⟨0, Nat.zero_le _, rfl, S6.out⟩
                  case round =>
                    obtain ⟨wc, hwc⟩ : ∃ wc : World, wc = wr := ⟨_, rfl⟩
                    subst hwc
                    obtain ⟨m, hm7, rfl, hkc⟩ := hrel
                    by_cases hlt7 : m < Ps.length
                    · have owc : Old w wc := (o1H.out.trans R.out.2.2.1.ix.old).trans hkc
                      obtain ⟨bp, op, cpp, hep, _, _, hcellp⟩ := H.out.2.1.at (by omega)
                      simp only [Value.slice.injEq, true_and] at hep
                      obtain ⟨rfl, rfl⟩ := hep
                      obtain ⟨x, hx⟩ : ∃ x, Ps[k]? = some x := ⟨_, List.getElem?_eq_getElem hlt6⟩
                      obtain ⟨y, hy⟩ : ∃ y, Ps[m]? = some y := ⟨_, List.getElem?_eq_getElem hlt7⟩
                      have hxc := H.out.2.2.2 x (List.mem_of_getElem? hx)
                      have hyc := H.out.2.2.2 y (List.mem_of_getElem? hy)
                      obtain ⟨xv, P⟩ := x
                      obtain ⟨yv, Q2⟩ := y
                      have hcx : ∀ V, Old wc V → V.cell? ⟨bp, op + k, none⟩ = some xv := fun V hV => by
                        have := (owc.trans hV).cell (hcellp k _ hx 0 xv rfl) (fun f => f)
                        simpa using this
                      have hcy : ∀ V, Old wc V → V.cell? ⟨bp, op + m, none⟩ = some yv := fun V hV => by
                        have := (owc.trans hV).cell (hcellp m _ hy 0 yv rfl) (fun f => f)
                        simpa using this
                      simp only at hxc hyc
                      obtain ⟨p5, n5, c5, e9⟩ : ∃ p n c, xv = .slice p n c := by obtain ⟨p, c, e, _⟩ := hxc.1.len; exact ⟨_, _, _, e⟩
                      obtain ⟨p6, n6, c6, e8⟩ : ∃ p n c, yv = .slice p n c := by obtain ⟨p, c, e, _⟩ := hyc.1.len; exact ⟨_, _, _, e⟩
                      subst e9 e8
                      have CV := Lib.hid (fun V (hV : Old wc V) => Covers_any (.slice p5 n5 c5) (.slice p6 n6 c6) P Q2 V (hxc.old (owc.trans hV)) (hyc.old (owc.trans hV)))
                      have OV := Lib.hid (fun V (hV : Old wc V) => Overlaps_any (.slice p5 n5 c5) (.slice p6 n6 c6) P Q2 V (hxc.old (owc.trans hV)) (hyc.old (owc.trans hV)))
                      have C6 := Lib.hid (And.intro hcx hcy)
                      obtain ⟨cv, hcv⟩ : ∃ cv, (predOk P && predOk Q2 && coversR (P.map Con.plain) (Q2.map Con.plain)) = cv := ⟨_, rfl⟩
                      obtain ⟨ov, hov⟩ : ∃ ov, ((predOk P && predOk Q2) && !apartR (P.map Con.plain) (Q2.map Con.plain)) = ov := ⟨_, rfl⟩
                      rw [hcv] at CV
                      rw [hov] at OV
                      have hlaw : ∀ i, ((cv && fnd Es Ps m i && !fnd Es Ps k i) || (!ov && fnd Es Ps k i && fnd Es Ps m i)) = false := fun i => by
                        rw [← hcv, ← hov]
                        exact fnd_law hx hy hxc hyc (fun t ht => (H.out.2.2.1 t ht).2) i
                      have S7 := Lib.hid (And.intro hkc hlaw)
                      clear hkc hlaw hx hy hxc hyc hcx hcy hcellp owc hcv hov
                      go_upto_region 42 with fail
                      have rd7 : Old wc wc.drew := (Keeps.refl _ _).drew
                      refine wp_region_g (S := fun V => Old wc V) (M := List.range 20) (by kernel_rfl) ?_
                      refine tkG (i := 0) (v := ?vz0) ?yz0 rd7 ?rz0
                      case yz0 => (intro W hSw; go_simp; try with_reducible rfl)
                      try simp only [Act.put, List.setIfInBounds_toArray, List.set_cons_zero, List.set_cons_succ]
                      refine tkG (i := 1) (v := ?vz1) ?yz1 rd7 ?rz1
                      case yz1 => (intro W hSw; go_simp; try with_reducible rfl)
                      try simp only [Act.put, List.setIfInBounds_toArray, List.set_cons_zero, List.set_cons_succ]
                      refine tkG (i := 2) (v := ?vz2) ?yz2 rd7 ?rz2
                      case yz2 => (intro W hSw; go_simp; try with_reducible rfl)
                      try simp only [Act.put, List.setIfInBounds_toArray, List.set_cons_zero, List.set_cons_succ]
                      refine tkG (i := 3) (v := ?vz3) ?yz3 rd7 ?rz3
                      case yz3 => (intro W hSw; have q5 := C6.out.1 _ hSw; go_simp; try with_reducible rfl)
                      try simp only [Act.put, List.setIfInBounds_toArray, List.set_cons_zero, List.set_cons_succ]
                      refine tkG (i := 4) (v := ?vz4) ?yz4 rd7 ?rz4
                      case yz4 => (intro W hSw; go_simp; try with_reducible rfl)
                      try simp only [Act.put, List.setIfInBounds_toArray, List.set_cons_zero, List.set_cons_succ]
                      refine tkG (i := 5) (v := ?vz5) ?yz5 rd7 ?rz5
                      case yz5 => (intro W hSw; go_simp; try with_reducible rfl)
                      try simp only [Act.put, List.setIfInBounds_toArray, List.set_cons_zero, List.set_cons_succ]
                      refine tkG (i := 6) (v := ?vz6) ?yz6 rd7 ?rz6
                      case yz6 => (intro W hSw; go_simp; try with_reducible rfl)
                      try simp only [Act.put, List.setIfInBounds_toArray, List.set_cons_zero, List.set_cons_succ]
                      refine tkG (i := 7) (v := ?vz7) ?yz7 rd7 ?rz7
                      case yz7 => (intro W hSw; have q5 := C6.out.2 _ hSw; go_simp; try with_reducible rfl)
                      try simp only [Act.put, List.setIfInBounds_toArray, List.set_cons_zero, List.set_cons_succ]
                      refine tkG (i := 9) (v := ?vz9) ?yz9 rd7 ?rz9
                      case yz9 => (intro W hSw; go_simp; try with_reducible rfl)
                      try simp only [Act.put, List.setIfInBounds_toArray, List.set_cons_zero, List.set_cons_succ]
                      refine tkG (i := 10) (v := ?vz10) ?yz10 rd7 ?rz10
                      case yz10 => (intro W hSw; go_simp; try with_reducible rfl)
                      try simp only [Act.put, List.setIfInBounds_toArray, List.set_cons_zero, List.set_cons_succ]
                      refine tkG (i := 11) (v := ?vz11) ?yz11 rd7 ?rz11
                      case yz11 => (intro W hSw; go_simp; try with_reducible rfl)
                      try simp only [Act.put, List.setIfInBounds_toArray, List.set_cons_zero, List.set_cons_succ]
                      refine tkG (i := 12) (v := ?vz12) ?yz12 rd7 ?rz12
                      case yz12 => (intro W hSw; have q5 := C6.out.1 _ hSw; go_simp; try with_reducible rfl)
                      try simp only [Act.put, List.setIfInBounds_toArray, List.set_cons_zero, List.set_cons_succ]
                      refine tkG (i := 13) (v := ?vz13) ?yz13 rd7 ?rz13
                      case yz13 => (intro W hSw; go_simp; try with_reducible rfl)
                      try simp only [Act.put, List.setIfInBounds_toArray, List.set_cons_zero, List.set_cons_succ]
                      refine tkG (i := 14) (v := ?vz14) ?yz14 rd7 ?rz14
                      case yz14 => (intro W hSw; go_simp; try with_reducible rfl)
                      try simp only [Act.put, List.setIfInBounds_toArray, List.set_cons_zero, List.set_cons_succ]
                      refine tkG (i := 15) (v := ?vz15) ?yz15 rd7 ?rz15
                      case yz15 => (intro W hSw; go_simp; try with_reducible rfl)
                      try simp only [Act.put, List.setIfInBounds_toArray, List.set_cons_zero, List.set_cons_succ]
                      refine tkG (i := 16) (v := ?vz16) ?yz16 rd7 ?rz16
                      case yz16 => (intro W hSw; have q5 := C6.out.2 _ hSw; go_simp; try with_reducible rfl)
                      try simp only [Act.put, List.setIfInBounds_toArray, List.set_cons_zero, List.set_cons_succ]
                      refine wpAnyG_onlyL (i := 8) (o := _) (by kernel_rfl) rfl (fun K hK => ?_)
                      go_simp
                      refine (CV.out _ rd7).mono ?_
                      rintro e wd ⟨rfl, kd⟩
                      have od : Old wc wd := rd7.trans kd
                      go_wp2_with fail
                      refine hK.out _ _ (fun _ => od) ?_
                      clear hK K
                      try simp only [Act.put, List.setIfInBounds_toArray, List.set_cons_zero, List.set_cons_succ]
                      refine wpAnyG_onlyL (i := 17) (o := _) (by kernel_rfl) rfl (fun K hK => ?_)
                      go_simp
                      refine (OV.out _ od).mono ?_
                      rintro e wf ⟨rfl, kf⟩
                      have of : Old wc wf := od.trans kf
                      go_wp2_with fail
                      refine hK.out _ _ (fun _ => of) ?_
                      clear hK K
                      try simp only [Act.put, List.setIfInBounds_toArray, List.set_cons_zero, List.set_cons_succ]
                      refine tkG (i := 18) (v := ?vz18) ?yz18 of ?rz18
                      case yz18 => (intro W hSw; go_simp; try with_reducible rfl)
                      try simp only [Act.put, List.setIfInBounds_toArray, List.set_cons_zero, List.set_cons_succ]
                      refine tkG (i := 19) (v := ?vz19) ?yz19 of ?rz19
                      case yz19 => (intro W hSw; go_simp; try with_reducible rfl)
                      try simp only [Act.put, List.setIfInBounds_toArray, List.set_cons_zero, List.set_cons_succ]
                      refine wpAnyG_done (by kernel_rfl) ?_ _
                      go_simp
                      have S8 := Lib.hid (S7.out.1.trans of)
                      clear kd kf od of rd7
                      go_wp2_with fail
                      go_loopw [21] (fun v21 wr => ∃ i : Nat, i ≤ ne ∧ v21 = .int .i64 i ∧ Old wz wr) (fun v21 _ => ne - (intOf v21).toNat)
                      case atStart => exact ⟨0, Nat.zero_le _, rfl, S8.out⟩
                      case round =>
                        obtain ⟨wg, hwg⟩ : ∃ wg : World, wg = wr := ⟨_, rfl⟩
                        subst hwg
                        obtain ⟨i, hi8, rfl, hkg⟩ := hrel
                        by_cases hlt8 : i < ne
                        · have hk12 : k < 12 := by omega
                          have hm12 : m < 12 := by omega
                          have hi20 : i < 20 := by omega
                          have fa := ((R.out.2.2.2.old hkg).cell hk12 hi20).1
                          have fb2 := ((R.out.2.2.2.old hkg).cell hm12 hi20).1
                          have hl := S7.out.2 i
                          obtain ⟨a, ha⟩ : ∃ a, fnd Es Ps k i = a := ⟨_, rfl⟩
                          obtain ⟨b, hb⟩ : ∃ b, fnd Es Ps m i = b := ⟨_, rfl⟩
                          rw [ha, hb] at hl
                          rw [ha] at fa
                          rw [hb] at fb2
                          have hk12i : (k : Int) < 12 := by omega
                          have hm12i : (m : Int) < 12 := by omega
                          have hi20i : (i : Int) < 20 := by omega
                          have S9 := Lib.hid hkg
                          clear ha hb hkg
                          cases cv <;> cases ov <;> cases a <;> cases b <;> first
                            | exact absurd hl (by decide)
                            | (clear hl
                               go_wp2_with fail
                               go_roundw
                               case rel => exact ⟨i + 1, by omega, by go_num, S9.out⟩
                               case measure => simp [intOf]; omega)
                        · have S9 := Lib.hid hkg
                          clear hkg
                          have hil8 : ne = i := by omega
                          subst hil8
                          have hnl8 : ¬ (ne : Int) < (ne : Int) := by omega
                          go_wp2_with fail
                          go_roundw
                          case rel => exact ⟨m + 1, by omega, by go_num, S9.out⟩
                          case measure => simp [intOf]; omega
                    · have S7 := Lib.hid hkc
                      clear hkc
                      have hml : m = Ps.length := by omega
                      subst hml
                      have hnl7 : ¬ (Ps.length : Int) < (Ps.length : Int) := by omega
                      go_wp2_with fail
                      go_roundw
                      case rel => exact ⟨k + 1, by omega, by go_num, S7.out⟩
                      case measure => simp [intOf]; omega
                · have S6 := Lib.hid hkb
                  clear hkb
                  have hkl : k = Ps.length := by omega
                  subst hkl
                  have hnl6 : ¬ (Ps.length : Int) < (Ps.length : Int) := by omega
                  go_wp2_with fail
                  refine (inew_any wb).mono ?_
                  rintro e wc ⟨xb2, eb2, nb2, rfl, hix⟩
                  have QN := Lib.hid (query_any wb wc xb2 eb2 nb2 0 0 _ _ (.slice none 0 0) [] hix Told.nil ⟨SeesR.nil _, fun _ h => by cases h⟩ (by omega) (by omega))
                  have S7 := Lib.hid hix.old
                  clear hix
                  go_wp2_with fail
                  refine QN.out.mono ?_
                  rintro e wd (⟨hno, _⟩ | ⟨_, v, L, rfl, ⟨B, hoL⟩, kd, hL⟩)
                  · exact absurd hno (by decide)
                  · obtain rfl : L = [] := by
                      rw [List.eq_nil_iff_forall_not_mem]
                      intro n hn
                      obtain ⟨t, ht, _⟩ := (hL n).1 hn
                      cases ht
                    obtain ⟨pv2, cv2, rfl, _, _⟩ := (OwnsR.sees (enc := oneL encU) hoL (fun _ => rfl) (by decide)).len
                    have S8 := Lib.hid ((((o1H.out.trans R.out.2.2.1.ix.old).trans S6.out).trans S7.out).trans kd)
                    clear hoL kd hL
                    go_wp2_with fail
                    go_ret
                    exact ⟨rfl, S8.out⟩
end
end Go.Proofs.YtehmlaplodjenaaGreat
