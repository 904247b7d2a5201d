/- The reference's Same: its contract. -/
import Derived.Test.YtfljkcmijnhgkaaDoorEq
import Derived.Test.YtfljkcmijnhgkaaDoorRule
namespace Go.Proofs.YtfljkcmijnhgkaaDoor
open Go.RowKit Go.Shelf

def sameR (r s : Rule) : Bool := decide (r.by_ = s.by_) && decide (r.start = s.start)
set_option maxHeartbeats 800000 in
theorem Same_any (r s : Rule) (v u : Value) (w : World) (h : RdR w v r) (h' : RdR w u s) :
    Calls Tryd.prog 44 #[v, u] w fun e w' => e = .returned (.bool (sameR r s)) ∧ Below w.heap.size w w' := by
  obtain ⟨a, b, rfl, ra, rb⟩ := h
  obtain ⟨a', b', rfl, ra', rb'⟩ := h'
  have hbx : Below w.heap.size w ((w.alloc (.cells #[a, b] 49)).alloc (.cells #[a', b'] 49)) := ((Below.refl _ _).alloc (Nat.le_refl _) _).alloc (by simp) _
  have hgb : ((w.alloc (.cells #[a, b] 49)).alloc (.cells #[a', b'] 49)).heap[w.heap.size + 1]? = some (.cells #[a', b'] 49 (0, 0)) := by
    have h := heap_alloc_new (w.alloc (.cells #[a, b] 49)) (.cells #[a', b'] 49); rwa [World.size_alloc] at h
  have hga : ((w.alloc (.cells #[a, b] 49)).alloc (.cells #[a', b'] 49)).heap[w.heap.size]? = some (.cells #[a, b] 49 (0, 0)) := by
    rw [((Below.refl _ (w.alloc (.cells #[a, b] 49))).alloc (Nat.le_refl _) _).block w.heap.size (by simp)]; exact heap_alloc_new _ _
  have hsz : ((w.alloc (.cells #[a, b] 49)).alloc (.cells #[a', b'] 49)).heap.size = w.heap.size + 2 := by simp
  have hl1 := Lib.hid (fun W (hW : Below w.heap.size w W) => list_any r.by_ s.by_ a a' W (ra.below hW (Nat.le_refl _)) (ra'.below hW (Nat.le_refl _)))
  have hl2 := Lib.hid (fun W (hW : Below w.heap.size w W) => list_any r.start s.start b b' W (rb.below hW (Nat.le_refl _)) (rb'.below hW (Nat.le_refl _)))
  have hR : Hid (sameR r s = (decide (r.by_ = s.by_) && decide (r.start = s.start))) := Lib.hid rfl
  have mk : ∀ (W : World) (g : Nat) (x y : Value), W.heap[g]? = some (.cells #[x, y] 49 (0, 0)) → W.cell? ⟨g, 0, none⟩ = some x ∧ W.cell? ⟨g, 1, none⟩ = some y := fun W g x y h => ⟨by unfold World.cell?; rw [h]; rfl, by unfold World.cell?; rw [h]; rfl⟩
  obtain ⟨c0, c1⟩ := mk _ _ _ _ hga
  obtain ⟨c2, c3⟩ := mk _ _ _ _ hgb
  clear ra rb ra' rb' hga hgb mk
  cases p1 : decide (r.by_ = s.by_)
  · rw [p1] at hl1
    have hr : Hid (sameR r s = false) := Lib.hid (by rw [hR.out, p1]; rfl)
    clear p1
    go_enter Tryd.func44, Tryd.ntmps44
    go_wp2_with fail
    generalize (w.alloc (.cells #[a, b] 49)).alloc (.cells #[a', b'] 49) = X at *
    refine (hl1.out X hbx).mono ?_; rintro e W1 ⟨rfl, hB1⟩
    go_wp2
    go_ret
    exact ⟨by rw [hr.out]; rfl, Below.then_ hbx hB1⟩
  · rw [p1] at hl1
    have hr : Hid (sameR r s = decide (r.start = s.start)) := Lib.hid (by rw [hR.out, p1]; rfl)
    clear p1
    generalize decide (r.start = s.start) = d at *
    go_enter Tryd.func44, Tryd.ntmps44
    go_wp2_with fail
    generalize (w.alloc (.cells #[a, b] 49)).alloc (.cells #[a', b'] 49) = X at *
    refine (hl1.out X hbx).mono ?_; rintro e W1 ⟨rfl, hB1⟩
    have e1 := (hB1.cell (p := ⟨w.heap.size, 1, none⟩) (by show w.heap.size < _; omega)).trans c1
    have e3 := (hB1.cell (p := ⟨w.heap.size + 1, 1, none⟩) (by show w.heap.size + 1 < _; omega)).trans c3
    have hB2 := Below.then_ hbx hB1
    go_wp2_with fail
    refine (hl2.out W1 hB2).mono ?_; rintro e W2 ⟨rfl, hB3⟩
    go_wp2
    go_ret
    exact ⟨by rw [hr.out]; rfl, Below.then_ hB2 hB3⟩
end Go.Proofs.YtfljkcmijnhgkaaDoor
