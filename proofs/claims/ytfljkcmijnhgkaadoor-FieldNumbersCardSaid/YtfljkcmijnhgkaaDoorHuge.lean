/- The law's helpers huge: its contract. -/
import Derived.Test.YtfljkcmijnhgkaaDoorRule
namespace Go.Proofs.YtfljkcmijnhgkaaDoor
open Go.RowKit Go.Shelf

def hugeR (r : Rule) : Bool := decide (20 < r.by_.length) || decide (20 < r.start.length)
set_option maxHeartbeats 800000 in
theorem huge_any (r : Rule) (v : Value) (w : World) (h : RdR w v r) :
    Calls Tryd.prog 33 #[v] w fun e w' => e = .returned (.bool (hugeR r)) ∧ Below w.heap.size w w' := by
  obtain ⟨a, b, rfl, ra, rb⟩ := h
  have hbx : Below w.heap.size w (w.alloc (.cells #[a, b] 49)) := (Below.refl _ _).alloc (Nat.le_refl _) _
  have hg : (w.alloc (.cells #[a, b] 49)).heap[w.heap.size]? = some (.cells #[a, b] 49 (0, 0)) := heap_alloc_new _ _
  obtain ⟨A, c, rfl, h1, h2, -⟩ := ra.open_
  obtain ⟨B, d, rfl, g1, g2, -⟩ := rb.open_
  have hc0 : (w.alloc (.cells #[.slice A r.by_.length c, .slice B r.start.length d] 49)).cell? ⟨w.heap.size, 0, none⟩ = some (.slice A r.by_.length c) := by unfold World.cell?; rw [hg]; rfl
  have hc1 : (w.alloc (.cells #[.slice A r.by_.length c, .slice B r.start.length d] 49)).cell? ⟨w.heap.size, 1, none⟩ = some (.slice B r.start.length d) := by unfold World.cell?; rw [hg]; rfl
  have hR : Hid (hugeR r = (decide (20 < r.by_.length) || decide (20 < r.start.length))) := Lib.hid rfl
  clear ra rb hg
  generalize r.by_.length = n at *
  generalize r.start.length = m at *
  by_cases q1 : 20 < n
  · have hr : Hid (hugeR r = true) := Lib.hid (by rw [hR.out]; simp [q1])
    have q2 : (20 : Int) < (n : Int) := by omega
    go_enter Tryd.func33, Tryd.ntmps33
    go_wp2
    go_ret
    exact ⟨by rw [hr.out]; rfl, hbx⟩
  · have q2 : ¬ (20 : Int) < (n : Int) := by omega
    by_cases q3 : 20 < m
    · have hr : Hid (hugeR r = true) := Lib.hid (by rw [hR.out]; simp [q3])
      have q4 : (20 : Int) < (m : Int) := by omega
      go_enter Tryd.func33, Tryd.ntmps33
      go_wp2
      go_ret
      exact ⟨by rw [hr.out]; rfl, hbx⟩
    · have hr : Hid (hugeR r = false) := Lib.hid (by rw [hR.out]; simp [q1, q3])
      have q4 : ¬ (20 : Int) < (m : Int) := by omega
      go_enter Tryd.func33, Tryd.ntmps33
      go_wp2
      go_ret
      exact ⟨by rw [hr.out]; rfl, hbx⟩
end Go.Proofs.YtfljkcmijnhgkaaDoor
