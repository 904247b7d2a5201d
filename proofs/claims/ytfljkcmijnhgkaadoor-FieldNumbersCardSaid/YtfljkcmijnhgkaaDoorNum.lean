/- numbers, Reverse: their contracts. -/
import Derived.Test.YtfljkcmijnhgkaaDoorCopy
namespace Go.Proofs.YtfljkcmijnhgkaaDoor
open Go.RowKit

def natI (l : List Nat) : List Int := l.map fun (k : Nat) => (k : Int)
def nmP (n k : Nat) : List Int := (List.range n).map fun j => if j < k then (j : Int) else 0
theorem nmP_zero (n : Nat) : nmP n 0 = List.replicate n 0 := by
  apply List.ext_getElem (by simp [nmP])
  intro j h1 h2
  simp [nmP]
theorem nmP_end (n : Nat) : nmP n n = natI (List.range n) := by
  apply List.map_congr_left; intro j hj
  rw [if_pos (by simpa using hj)]
theorem nmP_len (n k : Nat) : (nmP n k).length = n := by simp [nmP]
theorem nmP_set (n k : Nat) : (nmP n k).set k (k : Int) = nmP n (k + 1) := by
  apply List.ext_getElem (by simp [nmP])
  intro j h1 h2
  rw [List.getElem_set]
  simp only [nmP, List.getElem_map, List.getElem_range]
  by_cases e : k = j
  · subst e; rw [if_pos rfl, if_pos (by omega)]
  · rw [if_neg e]
    by_cases h : j < k
    · rw [if_pos h, if_pos (by omega)]
    · rw [if_neg h, if_neg (by omega)]
theorem OwnI_made (w : World) (base n : Nat) (hb : base ≤ w.heap.size) (hn : n ≤ maxLen) : OwnI (w.alloc (.cells (madeCells #[.int .i64 0] n) 3)) base (.slice (some ⟨w.heap.size, 0, none⟩) n n) (List.replicate n 0) := by
  have hr := World.ownsRow_lit (base := base) (e := 3) (size := 1) w (madeCells #[.int .i64 0] n) n hb hn (by rw [size_madeCells]; omega)
  rw [toList_madeCells_one] at hr
  unfold OwnI
  rw [List.length_replicate, show ints (List.replicate n 0) = List.replicate n (.int .i64 0) from by simp [ints]]
  exact hr
/-- A number is stored into a row of the call's own. -/
theorem OwnI.put {w : World} {base g n c : Nat} {xs : List Int} (h : OwnI w base (.slice (some ⟨g, 0, none⟩) n c) xs) (k : Nat) (x : Int) : OwnI (w.setCell ⟨g, k, none⟩ (.int .i64 x)) base (.slice (some ⟨g, 0, none⟩) n c) (xs.set k x) := by
  unfold OwnI at h ⊢
  have hn : xs.length = n := by
    rcases h.2 with ⟨e, _⟩ | ⟨_, _, _, e, _⟩
    · simp at e
    · simp only [Value.slice.injEq] at e; exact e.2.1.symm
  subst hn
  have := (h.stored k (.int .i64 x)).1
  rw [List.length_set, show ints (xs.set k x) = (ints xs).set k (.int .i64 x) from by simp [ints, List.map_set]]
  exact this
theorem OwnI.num {w : World} {base g n c : Nat} {xs : List Int} (h : OwnI w base (.slice (some ⟨g, 0, none⟩) n c) xs) {k : Nat} (hk : k < xs.length) : w.cell? ⟨g, k, none⟩ = some (.int .i64 (xs.getD k 0)) ∧ w.frozen? ⟨g, k, none⟩ = false := by
  unfold OwnI at h
  have hn : xs.length = n := by
    rcases h.2 with ⟨e, _⟩ | ⟨_, _, _, e, _⟩
    · simp at e
    · simp only [Value.slice.injEq] at e; exact e.2.1.symm
  subst hn
  exact ⟨by rw [h.cellAt k (by omega), ints_get, List.getElem?_eq_getElem hk]; simp [List.getD_eq_getElem?_getD, hk], h.frozenAt k⟩
theorem OwnI.block {w : World} {base g n c : Nat} {xs : List Int} (h : OwnI w base (.slice (some ⟨g, 0, none⟩) n c) xs) : base ≤ g ∧ ∃ cur, w.heap[g]? = some (.cells cur 3 (0, 0)) := by
  unfold OwnI at h
  rcases h.2 with ⟨e, _⟩ | ⟨g', _, cur, e, hb, hh, _⟩
  · simp at e
  · simp only [Value.slice.injEq, Option.some.injEq, Addr.mk.injEq, and_true] at e
    obtain ⟨rfl, -, -⟩ := e
    exact ⟨hb, cur, hh⟩
set_option maxRecDepth 100000 in
set_option maxHeartbeats 400000 in
theorem numbers_any (n : Nat) (w : World) (hn : n ≤ 1000000) :
    Calls Tryd.prog 114 #[.int .i64 n] w fun e w' => e = .returned (.slice (some ⟨w.heap.size, 0, none⟩) n n) ∧ OwnI w' w.heap.size (.slice (some ⟨w.heap.size, 0, none⟩) n n) (natI (List.range n)) ∧ Below w.heap.size w w' := by
  have hmk := run_make_row' (P := Tryd.prog) 23 3 _ _ Tryd.underlying23 infoI rfl .i64 .i64 n (by omega) (by omega)
  have h0 := OwnI_made w w.heap.size n (Nat.le_refl _) (by unfold maxLen; omega)
  rw [← nmP_zero n] at h0
  replace h0 := Lib.hid h0
  have hB0 : Below w.heap.size w (w.alloc (.cells (madeCells #[.int .i64 0] n) 3)) := (Below.refl _ _).alloc (Nat.le_refl _) _
  go_enter Tryd.func114, Tryd.ntmps114
  go_wp2
  generalize w.alloc (.cells (madeCells #[.int .i64 0] n) 3) = w1 at h0 hB0 ⊢
  go_loopw [4, 8] (fun _ i wr => ∃ k : Nat, k ≤ n ∧ i = .int .i64 k ∧ Below w.heap.size w wr ∧ Hid (OwnI wr w.heap.size (.slice (some ⟨w.heap.size, 0, none⟩) n n) (nmP n k))) (fun _ i _ => n - (intOf i).toNat)
  case atStart => exact ⟨0, Nat.zero_le _, rfl, hB0, h0⟩
  case round =>
    obtain ⟨k, hk, rfl, hB, hM⟩ := hrel
    by_cases hlt : k < n
    · obtain ⟨hc, hf⟩ := hM.out.num (k := k) (by rw [nmP_len]; exact hlt)
      have hup := hM.out.put k (k : Int)
      rw [nmP_set] at hup
      replace hup := Lib.hid hup
      generalize (nmP n k).getD k 0 = x at hc
      have k1 : (k : Int) < (n : Int) := by omega
      have k0 : (0 : Int) ≤ (k : Int) := by omega
      go_wp2
      go_roundw
      case rel => exact ⟨k + 1, by omega, by go_num, hB.setCell (Nat.le_refl _) _, hup⟩
      case measure => simp [intOf]; omega
    · obtain rfl : n = k := by omega
      go_wp2
      go_ret
      exact ⟨rfl, by have := hM.out; rwa [nmP_end] at this, hB⟩
/-! ### Reverse -/
def rvP (xs : List Int) (k : Nat) : List Int := (List.range xs.length).map fun j => if j < k ∨ xs.length - k ≤ j then xs.getD (xs.length - 1 - j) 0 else xs.getD j 0
theorem rvP_zero (xs : List Int) : rvP xs 0 = xs := by
  apply List.ext_getElem (by simp [rvP])
  intro j h1 h2
  simp only [rvP, List.getElem_map, List.getElem_range]
  rw [if_neg (by omega), List.getD_eq_getElem?_getD, List.getElem?_eq_getElem h2]; rfl
theorem rvP_len (xs : List Int) (k : Nat) : (rvP xs k).length = xs.length := by simp [rvP]
theorem rvP_end (xs : List Int) {k : Nat} (h : xs.length ≤ 2 * k + 1) : rvP xs k = xs.reverse := by
  apply List.ext_getElem (by simp [rvP])
  intro j h1 h2
  have hj : j < xs.length := by simpa using h2
  simp only [rvP, List.getElem_map, List.getElem_range, List.getElem_reverse]
  by_cases hc : j < k ∨ xs.length - k ≤ j
  · rw [if_pos hc, List.getD_eq_getElem?_getD, List.getElem?_eq_getElem (by omega)]; rfl
  · rw [if_neg hc, List.getD_eq_getElem?_getD, List.getElem?_eq_getElem hj]
    simp only [Option.getD_some]
    congr 1; omega
theorem rvP_get (xs : List Int) {k j : Nat} (hj : j < xs.length) (h1 : k ≤ j) (h2 : j < xs.length - k) : (rvP xs k).getD j 0 = xs.getD j 0 := by
  rw [List.getD_eq_getElem?_getD, rvP, List.getElem?_map, List.getElem?_range hj, Option.map_some, if_neg (by omega)]; rfl
theorem rvP_set (xs : List Int) {k : Nat} (h : k < xs.length - 1 - k) : ((rvP xs k).set k (xs.getD (xs.length - 1 - k) 0)).set (xs.length - 1 - k) (xs.getD k 0) = rvP xs (k + 1) := by
  apply List.ext_getElem (by simp [rvP])
  intro j h1 h2
  have hj : j < xs.length := by simpa [rvP] using h2
  rw [List.getElem_set]
  by_cases e : xs.length - 1 - k = j
  · rw [if_pos e]
    simp only [rvP, List.getElem_map, List.getElem_range]
    rw [if_pos (by omega)]; congr 1; omega
  · rw [if_neg e, List.getElem_set]
    by_cases e2 : k = j
    · subst e2
      rw [if_pos rfl]
      simp only [rvP, List.getElem_map, List.getElem_range]
      rw [if_pos (by omega)]
    · rw [if_neg e2]
      simp only [rvP, List.getElem_map, List.getElem_range]
      by_cases hc : j < k ∨ xs.length - k ≤ j
      · rw [if_pos hc, if_pos (by omega)]
      · rw [if_neg hc, if_neg (by omega)]
theorem OwnI.len {w : World} {base g n c : Nat} {xs : List Int} (h : OwnI w base (.slice (some ⟨g, 0, none⟩) n c) xs) : xs.length = n := by
  unfold OwnI at h
  rcases h.2 with ⟨e, _⟩ | ⟨_, _, _, e, _⟩
  · simp at e
  · simp only [Value.slice.injEq] at e; exact e.2.1.symm
set_option maxRecDepth 100000 in
set_option maxHeartbeats 400000 in
theorem Reverse_any (xs : List Int) (n base g c : Nat) (w : World) (h : OwnI w base (.slice (some ⟨g, 0, none⟩) n c) xs) (hn : n ≤ 1000000) :
    Calls Tryd.prog 76 #[.slice (some ⟨g, 0, none⟩) n c] w fun e w' => e = .returned (.tuple #[]) ∧ OwnI w' base (.slice (some ⟨g, 0, none⟩) n c) xs.reverse ∧ KeptBut [.slice (some ⟨g, 0, none⟩) n c] w w' := by
  have hl := h.len
  by_cases h0 : n = 0
  · subst h0
    have hx : xs = [] := List.eq_nil_of_length_eq_zero hl
    subst hx
    replace h := Lib.hid h
    clear hl
    go_enter Tryd.func76, Tryd.ntmps76
    go_wp2
    refine wp_loop_rounds 1 ?_
    rw [rounds_succ]
    go_wp2
    go_end0
    exact ⟨rfl, h.out, KeptBut.refl _ _⟩
  · replace h := Lib.hid h
    replace hl := Lib.hid hl
    go_enter Tryd.func76, Tryd.ntmps76
    go_wp2
    go_loopw [2, 3] (fun i j wr => ∃ k q : Nat, q + k + 1 = n ∧ k ≤ q + 1 ∧ i = .int .i64 k ∧ j = .int .i64 q ∧ Hid (OwnI wr base (.slice (some ⟨g, 0, none⟩) n c) (rvP xs k)) ∧ Hid (KeptBut [.slice (some ⟨g, 0, none⟩) n c] w wr)) (fun i _ _ => n - (intOf i).toNat)
    case atStart => exact ⟨0, n - 1, by omega, by omega, rfl, by congr 1; omega, Lib.hid (by rw [rvP_zero]; exact h.out), Lib.hid (KeptBut.refl _ _)⟩
    case round =>
      obtain ⟨k, q, hq, hkq, rfl, rfl, hM, hK⟩ := hrel
      by_cases hlt : k < q
      · obtain ⟨hc, hf⟩ := hM.out.num (k := k) (by rw [rvP_len, hl.out]; omega)
        obtain ⟨hc2, hf2⟩ := hM.out.num (k := q) (by rw [rvP_len, hl.out]; omega)
        have hup := (hM.out.put k (xs.getD q 0)).put q (xs.getD k 0)
        have hset := rvP_set xs (k := k) (by rw [hl.out]; omega)
        rw [show xs.length - 1 - k = q from by rw [hl.out]; omega] at hset
        rw [hset] at hup
        rw [rvP_get xs (by rw [hl.out]; omega) (Nat.le_refl _) (by rw [hl.out]; omega)] at hc
        rw [rvP_get xs (by rw [hl.out]; omega) (by omega) (by rw [hl.out]; omega)] at hc2
        replace hup := Lib.hid hup
        clear hset
        generalize xs.getD k 0 = x at *
        generalize xs.getD q 0 = y at *
        have hne : ¬ k = q := by omega
        have k1 : (k : Int) < (n : Int) := by omega
        have k0 : (0 : Int) ≤ (k : Int) := by omega
        have q1 : (q : Int) < (n : Int) := by omega
        have q0 : (0 : Int) ≤ (q : Int) := by omega
        obtain ⟨p, rfl⟩ : ∃ p, q = p + 1 := ⟨q - 1, by omega⟩
        go_wp2
        go_region
        all_goals
          go_wp2
          go_roundw
          case rel => exact ⟨k + 1, p, by omega, by omega, by go_num, rfl, Lib.hid (hup.out.below (Below.refl _ _).drew), Lib.hid (((hK.out.setCell (List.mem_singleton.2 rfl) rfl _).setCell (List.mem_singleton.2 rfl) rfl _).drew)⟩
          case measure => simp [intOf]; omega
      · go_wp2
        go_end0
        exact ⟨rfl, by have := hM.out; rwa [rvP_end _ (by rw [hl.out]; omega)] at this, hK.out⟩
end Go.Proofs.YtfljkcmijnhgkaaDoor
