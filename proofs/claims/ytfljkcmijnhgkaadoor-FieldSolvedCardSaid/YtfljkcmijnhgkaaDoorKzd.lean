/- Solutions and ranks: a system has a solution just if its rank is that of its left side; the one that is found comes first. slices.Compare at []int, lists of one length. -/
import Derived.Test.YtfljkcmijnhgkaaDoorKzb
import Derived.Test.YtfljkcmijnhgkaaDoorKzc
import Derived.Test.YtfljkcmijnhgkaaDoorKf
namespace Go.Proofs.YtfljkcmijnhgkaaDoor

theorem rank_part {n N1 N2 m : Nat} {b1 b2 : Nat → Nat → Prop} {A1 A2 : Mx} {s1 s2 : Sys} {d1 d2 : List Nat} (h1 : Run n N1 b1 A1 s1 d1) (h2 : Run n N2 b2 A2 s2 d2) (hA : ∀ i k, i < n → k < m → A1 i k = A2 i k) (hd1 : ∀ k, k ∈ d1 → k < m) (hall : ∀ k, k < m → k ∈ d2) : s1.piv.length ≤ s2.piv.length := by
  refine Classical.byContradiction fun hlt => ?_
  have hr1 := h1.el.le
  have hc : ∀ i, ∃ c : Nat → Fp, i < s1.piv.length → ∀ k, k < m → G s1.rows i k = S s2.piv.length (fun j => c j * G s2.rows j k) := fun i => by
    by_cases hi : i < s1.piv.length
    · obtain ⟨c1, hc1⟩ := h1.into i (by omega)
      obtain ⟨c, hc⟩ := (show Sp n A2 (fun k => S n (fun j => c1 j * A2 j k)) from ⟨c1, fun _ => rfl⟩).trans h2.back
      refine ⟨c, fun _ k hk => ?_⟩
      rw [hc1, S_congr (g := fun j => c1 j * A2 j k) (fun j hj => by rw [hA j k hj hk])]
      refine (hc k).trans ?_
      have hle := h2.el.le
      have hz := fun j (h3 : s2.piv.length ≤ j) (h4 : j < n) => h2.zero (a := j) (k := k) h3 h4 (.inl (hall k hk))
      obtain ⟨d, hd⟩ := Nat.exists_eq_add_of_le hle
      rw [hd, S_split, S_zero (n := d) (fun j hj => by rw [hz (s2.piv.length + j) (by omega) (by omega)]; grind)]; grind
    · exact ⟨fun _ => 0, fun h => absurd h hi⟩
  have hd := fun i => Classical.choose_spec (hc i)
  obtain ⟨x, ⟨i0, hi0, hx0⟩, hx⟩ := depend s1.piv.length (List.range s2.piv.length) (fun i => Classical.choose (hc i)) (by simp; omega)
  have hz : ∀ k, k < m → S s1.piv.length (fun i => x i * G s1.rows i k) = 0 := fun k hk => by
    rw [S_congr (g := fun i => S s2.piv.length (fun j => x i * (Classical.choose (hc i) j * G s2.rows j k))) (fun i hi => by rw [hd i hi k hk, S_mul]), S_swap]
    refine S_zero fun j hj => ?_
    have e := hx j (List.mem_range.2 hj)
    rw [S_congr (g := fun i => x i * Classical.choose (hc i) j * G s2.rows j k) (fun i _ => by grind), S_mul', e]; grind
  have h3 := hz ((s1.piv.getD i0 (0, 0)).2) (hd1 _ (h1.el.mem i0 hi0))
  rw [S_one (k := i0) hi0 (fun i hi hne => by rw [h1.el.pv i0 hi0 i (by omega), if_neg hne]; grind), h1.el.pv i0 hi0 i0 (by omega), if_pos rfl] at h3
  exact hx0 (by grind)
/-- Not more pivots than columns. -/
theorem rank_cols {n N m : Nat} {b1 : Nat → Nat → Prop} {A : Mx} {s : Sys} {d : List Nat} (h : Run n N b1 A s d) (hd : ∀ k, k ∈ d → k < m) : s.piv.length ≤ m := by
  refine Classical.byContradiction fun hlt => ?_
  have hle := h.el.le
  obtain ⟨x, ⟨i0, hi0, hx0⟩, hx⟩ := depend s.piv.length (List.range m) (fun i k => G s.rows i k) (by simp; omega)
  have h3 := hx ((s.piv.getD i0 (0, 0)).2) (List.mem_range.2 (hd _ (h.el.mem i0 hi0)))
  rw [S_one (k := i0) hi0 (fun i hi hne => by rw [h.el.pv i0 hi0 i (by omega), if_neg hne]; grind), h.el.pv i0 hi0 i0 (by omega), if_pos rfl] at h3
  exact hx0 (by grind)
/-- The rank as it is told. -/
def rk (rs : List (List Int)) (m : Nat) : Nat := (solveS rs (List.range m) false).piv.length
section
variable {rs : List (List Int)} {b : List Int} {n m : Nat}
theorem rk_le (h : okM rs n m) : rk rs m ≤ n ∧ rk rs m ≤ m :=
  ⟨(solveS_run h (before := fun x y => x < y) (pair_lt m)).el.le, rank_cols (solveS_run h (before := fun x y => x < y) (pair_lt m)) fun k hk => by simpa using hk⟩
theorem rk_sys (h : okM rs n m) (hb : ∀ x ∈ b, 0 ≤ x ∧ x < 65521) (hl : b.length = n) : rk rs m = (sysM rs b m).piv.length := by
  have h1 := solveS_run h (before := fun x y => x < y) (pair_lt m)
  have h2 := sysM_run h hb hl
  have e : ∀ i k, i < n → k < m → G rs i k = G (augM rs b) i k := fun i k hi hk => by unfold G; rw [gM_aug h i hi, if_pos hk]
  exact Nat.le_antisymm (rank_part h1 h2 e (fun k hk => by simpa using hk) (fun k hk => by simpa using hk)) (rank_part h2 h1 (fun i k hi hk => (e i k hi hk).symm) (fun k hk => by simpa using hk) (fun k hk => by simpa using hk))
theorem rk_aug (h : okM rs n m) (hb : ∀ x ∈ b, 0 ≤ x ∧ x < 65521) (hl : b.length = n) : rk (augM rs b) (m + 1) = (stepS (sysM rs b m) m).piv.length := by
  have h1 := solveS_run (okM_aug h hb hl) (before := fun x y => x < y) (pair_lt (m + 1))
  have h2 : Run n (m + 1) (fun _ _ => True) (G (augM rs b)) (solveS (augM rs b) ((List.range m).reverse ++ [m]) false) ((List.range m).reverse ++ [m]) := solveS_run (okM_aug h hb hl) (List.pairwise_append.2 ⟨(pair_gt m).imp fun h => ⟨trivial, h.2⟩, by simp, fun x hx y hy => ⟨trivial, by
    have : y = m := by simpa using hy
    have : x < m := by simpa using hx
    omega⟩⟩)
  have e : solveS (augM rs b) ((List.range m).reverse ++ [m]) false = stepS (sysM rs b m) m := by
    unfold solveS sysM solveS; rw [List.foldl_append]; rfl
  rw [e] at h2
  exact Nat.le_antisymm (rank_part h1 h2 (fun _ _ _ _ => rfl) (fun k hk => by simpa using hk) (fun k hk => by simp; omega)) (rank_part h2 h1 (m := m + 1) (fun _ _ _ _ => rfl) (fun k hk => by simp at hk; omega) (fun k hk => by simpa using hk))
/-- The system has a solution just if its rank is that of its left side; else it is greater by one. -/
theorem rk_sol (h : okM rs n m) (hb : ∀ x ∈ b, 0 ≤ x ∧ x < 65521) (hl : b.length = n) : (solvedM rs b m ≠ none ∧ rk (augM rs b) (m + 1) = rk rs m) ∨ (solvedM rs b m = none ∧ rk (augM rs b) (m + 1) = rk rs m + 1) := by
  rw [rk_aug h hb hl, rk_sys h hb hl]
  have hR := sysM_run h hb hl
  have hs := findP_spec (sysM rs b m).rows m ((sysM rs b m).rows.length - (sysM rs b m).piv.length) (sysM rs b m).piv.length
  have hle := hR.el.le
  have hrl := hR.ok.1
  unfold stepS
  cases hf : findP (sysM rs b m).rows m ((sysM rs b m).rows.length - (sysM rs b m).piv.length) (sysM rs b m).piv.length with
  | none =>
    rw [hf] at hs
    refine .inl ⟨?_, rfl⟩
    rw [solvedM, if_pos (restOk_iff.2 fun i h1 h2 => hs i h1 (by omega))]; simp
  | some p =>
    rw [hf] at hs
    refine .inr ⟨?_, by simp [pivS]⟩
    rw [solvedM, if_neg (fun hr => hs.2.2 (restOk_iff.1 hr p hs.1 (by omega)))]
theorem pvL_sol (_h : okM rs n m) {x : List Int} (_hx : okL x m) (i : Nat) (hi : i < n) : toF ((pvL rs x n m).getD i 0) = S m (fun k => G rs i k * toF (x.getD k 0)) := by
  rw [pvL, getD_map_range _ _ hi, pvS, toF_emod, toF_psum]
  exact S_congr fun k _ => by rw [toF_emod, toF_mul]; rfl
theorem okL_pv (rs : List (List Int)) (x : List Int) (n m : Nat) : okL (pvL rs x n m) n := ⟨pvL_len rs x n m, fun y hy => by
  obtain ⟨i, _, rfl⟩ := List.mem_map.1 hy
  exact ⟨Int.emod_nonneg _ (by decide), Int.emod_lt_of_pos _ (by decide)⟩⟩
theorem okL.num {x : List Int} {m : Nat} (h : okL x m) (k : Nat) : 0 ≤ x.getD k 0 ∧ x.getD k 0 < 65521 := by
  by_cases hk : k < x.length
  · rw [List.getD_eq_getElem?_getD, List.getElem?_eq_getElem hk]; exact h.2 _ (List.getElem_mem hk)
  · rw [List.getD_eq_getElem?_getD, List.getElem?_eq_none (by omega)]; decide
theorem okL_ext {x y : List Int} {m : Nat} (hx : okL x m) (hy : okL y m) (h : ∀ k, k < m → toF (x.getD k 0) = toF (y.getD k 0)) : x = y :=
  ext_getD (by rw [hx.1, hy.1]) fun k hk => toF_inj (hx.num k) (hy.num k) (h k (by rw [← hx.1]; exact hk))
theorem sol_pv (h : okM rs n m) (hb : okL b n) {x : List Int} (hx : okL x m) : SolL rs b n m (fun k => toF (x.getD k 0)) ↔ pvL rs x n m = b := by
  constructor
  · intro hs
    exact okL_ext (okL_pv rs x n m) hb fun i hi => by rw [pvL_sol h hx i hi]; exact hs i hi
  · intro e i hi
    rw [← e, pvL_sol h hx i hi]
/-- What slices.Compare tells of lists of one length. -/
def CmpR (xs ys : List Int) (c : Int) : Prop :=
  (c = -1 ∧ ∃ j, j < xs.length ∧ (∀ i, i < j → xs.getD i 0 = ys.getD i 0) ∧ xs.getD j 0 < ys.getD j 0) ∨ (c = 0 ∧ xs = ys) ∨ (c = 1 ∧ ∃ j, j < xs.length ∧ (∀ i, i < j → xs.getD i 0 = ys.getD i 0) ∧ ys.getD j 0 < xs.getD j 0)
/-- The solution that is found. -/
theorem sol_found (h : okM rs n m) (hb : okL b n) {y : List Int} (hy : solvedM rs b m = some y) : okL y m ∧ pvL rs y n m = b ∧ ∀ x, okL x m → pvL rs x n m = b → ∀ c, CmpR y x c → c ≤ 0 := by
  obtain ⟨h1, h2, h3⟩ := solvedM_sound h hb.2 hb.1 hy
  refine ⟨⟨h1, h2⟩, (sol_pv h hb ⟨h1, h2⟩).1 h3, fun x hx e c hc => ?_⟩
  rcases hc with ⟨rfl, _⟩ | ⟨rfl, _⟩ | ⟨rfl, j, hj, heq, hlt⟩
  · decide
  · decide
  · have hx' := (sol_pv h hb hx).2 e
    have hyn := okL.num ⟨h1, h2⟩ j
    have hxn := hx.num j
    have := solvedM_first h hb.2 hb.1 hy hx' (j := j) (by omega) (fun k hk => by rw [heq k hk]) (fun e => by have := toF_inj hxn hyn e; omega)
    have := (toF_eq_zero hyn).1 this
    omega
theorem sol_there (h : okM rs n m) (hb : okL b n) {x : List Int} (hx : okL x m) (e : pvL rs x n m = b) : solvedM rs b m ≠ none := by
  rw [solvedM_complete h hb.2 hb.1 ((sol_pv h hb hx).2 e)]; simp
end
end Go.Proofs.YtfljkcmijnhgkaaDoor

namespace Go.Proofs.YtfljkcmijnhgkaaDoor
open Go.RowKit Go.Shelf
set_option linter.unusedSimpArgs false

set_option maxHeartbeats 800000 in
theorem isNaN_any (x : Int) (w : World) : Calls Tryd.prog 152 #[.int .i64 x] w fun e w' => e = .returned (.bool false) ∧ w = w' := by
  have h : (x != x) = false := by simp
  go_enter Tryd.func152, Tryd.ntmps152
  go_wp2
  go_ret
  exact ⟨rfl, rfl⟩
set_option maxHeartbeats 800000 in
theorem cmp_any (x y : Int) (w : World) : Calls Tryd.prog 137 #[.int .i64 x, .int .i64 y] w fun e w' => e = .returned (.int .i64 (if x < y then -1 else if y < x then 1 else 0)) ∧ w = w' := by
  have hn := Lib.hid (fun x => isNaN_any x w)
  obtain ⟨r, hr⟩ : ∃ r : Int, r = if x < y then -1 else if y < x then 1 else 0 := ⟨_, rfl⟩
  rw [← hr]
  by_cases h1 : x < y
  · rw [if_pos h1] at hr
    subst hr
    go_enter Tryd.func137, Tryd.ntmps137
    go_wp2_with fail
    refine (hn.out x).mono ?_; rintro e w' ⟨rfl, rfl⟩
    go_wp2_with fail
    refine (hn.out y).mono ?_; rintro e w' ⟨rfl, rfl⟩
    go_wp2
    go_ret
    exact ⟨rfl, rfl⟩
  · by_cases h2 : y < x
    · rw [if_neg h1, if_pos h2] at hr
      subst hr
      go_enter Tryd.func137, Tryd.ntmps137
      go_wp2_with fail
      refine (hn.out x).mono ?_; rintro e w' ⟨rfl, rfl⟩
      go_wp2_with fail
      refine (hn.out y).mono ?_; rintro e w' ⟨rfl, rfl⟩
      go_wp2
      go_ret
      exact ⟨rfl, rfl⟩
    · rw [if_neg h1, if_neg h2] at hr
      subst hr
      go_enter Tryd.func137, Tryd.ntmps137
      go_wp2_with fail
      refine (hn.out x).mono ?_; rintro e w' ⟨rfl, rfl⟩
      go_wp2_with fail
      refine (hn.out y).mono ?_; rintro e w' ⟨rfl, rfl⟩
      go_wp2
      go_ret
      exact ⟨rfl, rfl⟩
set_option maxRecDepth 100000 in
set_option maxHeartbeats 1600000 in
theorem Compare_any (xs ys : List Int) (v u : Value) (w : World) (hx : RdI w v xs) (hy : RdI w u ys) (hl : ys.length = xs.length) :
    Calls Tryd.prog 86 #[v, u] w fun e w' => (∃ c, e = .returned (.int .i64 c) ∧ CmpR xs ys c ∧ (c = -1 ∨ c = 0 ∨ c = 1)) ∧ w = w' := by
  obtain ⟨A, c, rfl, h1, h2, h3⟩ := hx.open_
  obtain ⟨B, d, rfl, g1, g2, g3⟩ := hy.open_
  rw [hl] at g1 g2 g3 ⊢
  replace h3 := Lib.hid h3
  replace g3 := Lib.hid g3
  have hx0 := Lib.hid (fun h => ext_getD (xs := xs) (ys := ys) hl.symm h)
  replace hl := Lib.hid hl
  have hc := Lib.hid (fun x y => cmp_any x y w)
  clear hx hy
  generalize hn : xs.length = n at *
  replace hn := Lib.hid hn
  go_enter Tryd.func86, Tryd.ntmps86
  go_wp2
  go_loop [5, 6, 7, 8, 11] (fun _ _ _ _ ii => ∃ k : Nat, k ≤ n ∧ ii = .int .i64 k ∧ Hid (∀ i, i < k → xs.getD i 0 = ys.getD i 0)) (fun _ _ _ _ ii => n - (intOf ii).toNat)
  case atStart => exact ⟨0, Nat.zero_le _, rfl, Lib.hid (fun i hi => by omega)⟩
  case round =>
    obtain ⟨k, hk, rfl, hE⟩ := hrel
    by_cases hlt : k < n
    · have k1 : (k : Int) < (n : Int) := by omega
      have k0 : (0 : Int) ≤ (k : Int) := by omega
      have k2 : ¬ (n : Int) ≤ (k : Int) := by omega
      obtain ⟨b, off, rfl, hc1⟩ := h3.out k hlt
      obtain ⟨b', off', rfl, hc2⟩ := g3.out k hlt
      have hcm := Lib.hid (hc.out (xs.getD k 0) (ys.getD k 0))
      by_cases e1 : xs.getD k 0 < ys.getD k 0
      · rw [if_pos e1] at hcm
        have hfin : Hid (CmpR xs ys (-1)) := Lib.hid (.inl ⟨rfl, k, by rw [hn.out]; exact hlt, hE.out, e1⟩)
        replace e1 := Lib.hid e1
        generalize xs.getD k 0 = x at *
        generalize ys.getD k 0 = y at *
        go_wp2_with fail
        refine hcm.out.mono ?_; rintro e w' ⟨rfl, rfl⟩
        go_wp2
        go_ret
        exact ⟨⟨_, rfl, hfin.out, .inl rfl⟩, rfl⟩
      · by_cases e2 : ys.getD k 0 < xs.getD k 0
        · rw [if_neg e1, if_pos e2] at hcm
          have hfin : Hid (CmpR xs ys 1) := Lib.hid (.inr (.inr ⟨rfl, k, by rw [hn.out]; exact hlt, hE.out, e2⟩))
          replace e1 := Lib.hid e1
          replace e2 := Lib.hid e2
          generalize xs.getD k 0 = x at *
          generalize ys.getD k 0 = y at *
          go_wp2_with fail
          refine hcm.out.mono ?_; rintro e w' ⟨rfl, rfl⟩
          go_wp2
          go_ret
          exact ⟨⟨_, rfl, hfin.out, .inr (.inr rfl)⟩, rfl⟩
        · rw [if_neg e1, if_neg e2] at hcm
          have hE2 : Hid (∀ i, i < k + 1 → xs.getD i 0 = ys.getD i 0) := Lib.hid (fun i hi => by
            by_cases e : i = k
            · rw [e]; omega
            · exact hE.out i (by omega))
          replace e1 := Lib.hid e1
          replace e2 := Lib.hid e2
          generalize xs.getD k 0 = x at hc1 hcm
          generalize ys.getD k 0 = y at hc2 hcm
          go_wp2_with fail
          refine hcm.out.mono ?_; rintro e w' ⟨rfl, rfl⟩
          go_wp2
          go_round
          case rel => exact ⟨k + 1, by omega, by go_num, hE2⟩
          case measure => simp [intOf]; omega
    · obtain rfl : k = n := by omega
      have hfin : Hid (CmpR xs ys 0) := Lib.hid (.inr (.inl ⟨rfl, hx0.out (fun j hj => hE.out j (by have := hn.out; omega))⟩))
      go_wp2
      go_ret
      exact ⟨⟨_, rfl, hfin.out, .inr (.inl rfl)⟩, rfl⟩
end Go.Proofs.YtfljkcmijnhgkaaDoor
