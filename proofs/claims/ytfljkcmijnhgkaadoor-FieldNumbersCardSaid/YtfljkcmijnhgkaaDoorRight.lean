/- Right, Term: their contracts. -/
import Derived.Test.YtfljkcmijnhgkaaDoorFrom
import Derived.Test.YtfljkcmijnhgkaaDoorIs
namespace Go.Proofs.YtfljkcmijnhgkaaDoor
open Go.RowKit Go.Shelf

def rightR (r : Rule) : Int := if r.by_.length > 12 then 2 else if r.start.length ≠ r.by_.length then 4 else if isRes r.by_ = false ∨ isRes r.start = false then 3 else 0
theorem rightR_ok {r : Rule} (h : rightR r = 0) : r.by_.length ≤ 12 ∧ r.start.length = r.by_.length ∧ (∀ x ∈ r.by_, 0 ≤ x ∧ x < 65521) ∧ ∀ x ∈ r.start, 0 ≤ x ∧ x < 65521 := by
  unfold rightR at h
  split at h
  · cases h
  · rename_i h1
    split at h
    · cases h
    · rename_i h2
      split at h
      · cases h
      · rename_i h3
        exact ⟨by omega, by simpa using h2, isRes_iff.1 (by cases hh : isRes r.by_ <;> simp_all), isRes_iff.1 (by cases hh : isRes r.start <;> simp_all)⟩
theorem rightR_cases (r : Rule) : rightR r = 0 ∨ rightR r = 2 ∨ rightR r = 3 ∨ rightR r = 4 := by
  unfold rightR; split
  · simp
  · split
    · simp
    · split <;> simp
set_option maxHeartbeats 1600000 in
theorem Right_any (r : Rule) (v : Value) (w : World) (h : RdR w v r) :
    Calls Tryd.prog 84 #[v] w fun e w' => e = .returned (.int .i64 (rightR r)) ∧ Below w.heap.size w w' := by
  obtain ⟨a, b, rfl, ra, rb⟩ := h
  have hbx : Below w.heap.size w (w.alloc (.cells #[a, b] 49)) := (Below.refl _ _).alloc (Nat.le_refl _) _
  have hg : (w.alloc (.cells #[a, b] 49)).heap[w.heap.size]? = some (.cells #[a, b] 49 (0, 0)) := heap_alloc_new _ _
  have hsz : (w.alloc (.cells #[a, b] 49)).heap.size = w.heap.size + 1 := by simp
  have hi := Lib.hid (fun W (hW : Below w.heap.size w W) => is_any r.by_ a W (ra.below hW (Nat.le_refl _)))
  have hj := Lib.hid (fun W (hW : Below w.heap.size w W) => is_any r.start b W (rb.below hW (Nat.le_refl _)))
  obtain ⟨A, c, rfl, h1, h2, -⟩ := ra.open_
  obtain ⟨B, d, rfl, g1, g2, -⟩ := rb.open_
  have hc0 : (w.alloc (.cells #[.slice A r.by_.length c, .slice B r.start.length d] 49)).cell? ⟨w.heap.size, 0, none⟩ = some (.slice A r.by_.length c) := by unfold World.cell?; rw [hg]; rfl
  have hc1 : (w.alloc (.cells #[.slice A r.by_.length c, .slice B r.start.length d] 49)).cell? ⟨w.heap.size, 1, none⟩ = some (.slice B r.start.length d) := by unfold World.cell?; rw [hg]; rfl
  have hR : Hid (rightR r = if r.by_.length > 12 then 2 else if r.start.length ≠ r.by_.length then 4 else if isRes r.by_ = false ∨ isRes r.start = false then 3 else 0) := Lib.hid rfl
  clear ra rb hg
  generalize r.by_.length = n at *
  generalize r.start.length = m at *
  by_cases q1 : n > 12
  · have hr : Hid (rightR r = 2) := Lib.hid (by rw [hR.out, if_pos q1])
    have q2 : (12 : Int) < (n : Int) := by omega
    go_enter Tryd.func84, Tryd.ntmps84
    go_wp2
    go_ret
    exact ⟨by rw [hr.out]; rfl, hbx⟩
  · have q2 : ¬ (12 : Int) < (n : Int) := by omega
    by_cases q3 : m = n
    · subst q3
      have hne : ((m : Int) != (m : Int)) = false := by simp
      cases p1 : isRes r.by_
      · have hr : Hid (rightR r = 3) := Lib.hid (by rw [hR.out, if_neg q1, if_neg (by simp), if_pos (.inl p1)])
        rw [p1] at hi
        go_enter Tryd.func84, Tryd.ntmps84
        go_wp2_with fail
        refine (hi.out _ hbx).mono ?_; rintro e W1 ⟨rfl, hB1⟩
        go_wp2
        go_ret
        exact ⟨by rw [hr.out]; rfl, Below.then_ hbx hB1⟩
      · rw [p1] at hi
        cases p2 : isRes r.start
        · have hr : Hid (rightR r = 3) := Lib.hid (by rw [hR.out, if_neg q1, if_neg (by simp), if_pos (.inr p2)])
          rw [p2] at hj
          go_enter Tryd.func84, Tryd.ntmps84
          go_wp2_with fail
          refine (hi.out _ hbx).mono ?_; rintro e W1 ⟨rfl, hB1⟩
          have hc2 := (hB1.cell (p := ⟨w.heap.size, 1, none⟩) (by rw [hsz]; exact Nat.lt_succ_self _)).trans hc1
          have hB2 := Below.then_ hbx hB1
          go_wp2_with fail
          refine (hj.out _ hB2).mono ?_; rintro e W2 ⟨rfl, hB3⟩
          go_wp2
          go_ret
          exact ⟨by rw [hr.out]; rfl, Below.then_ hB2 hB3⟩
        · have hr : Hid (rightR r = 0) := Lib.hid (by rw [hR.out, if_neg q1, if_neg (by simp), if_neg (by simp [p1, p2])])
          rw [p2] at hj
          go_enter Tryd.func84, Tryd.ntmps84
          go_wp2_with fail
          refine (hi.out _ hbx).mono ?_; rintro e W1 ⟨rfl, hB1⟩
          have hc2 := (hB1.cell (p := ⟨w.heap.size, 1, none⟩) (by rw [hsz]; exact Nat.lt_succ_self _)).trans hc1
          have hB2 := Below.then_ hbx hB1
          go_wp2_with fail
          refine (hj.out _ hB2).mono ?_; rintro e W2 ⟨rfl, hB3⟩
          go_wp2
          go_ret
          exact ⟨by rw [hr.out]; rfl, Below.then_ hB2 hB3⟩
    · have hr : Hid (rightR r = 4) := Lib.hid (by rw [hR.out, if_neg q1, if_pos q3])
      have hne : ((m : Int) != (n : Int)) = true := by rw [bne_iff_ne]; omega
      go_enter Tryd.func84, Tryd.ntmps84
      go_wp2
      go_ret
      exact ⟨by rw [hr.out]; rfl, hbx⟩
end Go.Proofs.YtfljkcmijnhgkaaDoor
