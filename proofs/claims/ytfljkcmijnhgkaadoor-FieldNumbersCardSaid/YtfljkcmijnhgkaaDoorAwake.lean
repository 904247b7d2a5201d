/- awake: the chapter's examples: its contract. -/
import Derived.Test.YtfljkcmijnhgkaaDoorLit
namespace Go.Proofs.YtfljkcmijnhgkaaDoor
open Go.RowKit Go.Shelf
set_option linter.unusedSimpArgs false

set_option maxRecDepth 100000 in
set_option maxHeartbeats 6400000 in
theorem awake_any (w : World) (hJ : Joins w) : Calls Tryd.prog 18 #[] w fun e w' => e = .returned (.bool true) ∧ Below w.heap.size w w' := by
  replace hJ := Lib.hid hJ
  obtain ⟨X0, hX0, hBX0, hbag⟩ : ∃ X, ((((((w.alloc (.cells #[.int .i64 1, .int .i64 1] 3)).alloc (.cells #[.int .i64 1, .int .i64 0] 3)).alloc (.cells #[.slice (some ⟨w.heap.size, 0, none⟩) 2 2, .slice (some ⟨w.heap.size + 1, 0, none⟩) 2 2] 23)).alloc (.cells #[.int .i64 1, .int .i64 1] 3)).alloc (.cells #[.int .i64 0, .int .i64 1] 3)).alloc (.cells #[.slice (some ⟨w.heap.size + 1 + 1 + 1, 0, none⟩) 2 2, .slice (some ⟨w.heap.size + 1 + 1 + 1 + 1, 0, none⟩) 2 2] 49)) = X ∧ Hid (Below w.heap.size w X) ∧ Hid (Bag X [(.slice (some ⟨w.heap.size + 1 + 1, 0, none⟩) 2 2, aA)] [(.slice (some ⟨w.heap.size + 1 + 1 + 1 + 1, 0, none⟩) 2 2, [0, 1]), (.slice (some ⟨w.heap.size + 1 + 1 + 1, 0, none⟩) 2 2, [1, 1])] [(w.heap.size + 1 + 1 + 1 + 1 + 1, .cells #[.slice (some ⟨w.heap.size + 1 + 1 + 1, 0, none⟩) 2 2, .slice (some ⟨w.heap.size + 1 + 1 + 1 + 1, 0, none⟩) 2 2] 49 (0, 0))]) := by
    have hg := fun i o h => allocs_get w [.cells #[.int .i64 1, .int .i64 1] 3, .cells #[.int .i64 1, .int .i64 0] 3, .cells #[.slice (some ⟨w.heap.size, 0, none⟩) 2 2, .slice (some ⟨w.heap.size + 1, 0, none⟩) 2 2] 23, .cells #[.int .i64 1, .int .i64 1] 3, .cells #[.int .i64 0, .int .i64 1] 3, .cells #[.slice (some ⟨w.heap.size + 1 + 1 + 1, 0, none⟩) 2 2, .slice (some ⟨w.heap.size + 1 + 1 + 1 + 1, 0, none⟩) 2 2] 49] i o h
    have hlow := allocs_below w [.cells #[.int .i64 1, .int .i64 1] 3, .cells #[.int .i64 1, .int .i64 0] 3, .cells #[.slice (some ⟨w.heap.size, 0, none⟩) 2 2, .slice (some ⟨w.heap.size + 1, 0, none⟩) 2 2] 23, .cells #[.int .i64 1, .int .i64 1] 3, .cells #[.int .i64 0, .int .i64 1] 3, .cells #[.slice (some ⟨w.heap.size + 1 + 1 + 1, 0, none⟩) 2 2, .slice (some ⟨w.heap.size + 1 + 1 + 1 + 1, 0, none⟩) 2 2] 49]
    have h := Bag.nil (allocs w [.cells #[.int .i64 1, .int .i64 1] 3, .cells #[.int .i64 1, .int .i64 0] 3, .cells #[.slice (some ⟨w.heap.size, 0, none⟩) 2 2, .slice (some ⟨w.heap.size + 1, 0, none⟩) 2 2] 23, .cells #[.int .i64 1, .int .i64 1] 3, .cells #[.int .i64 0, .int .i64 1] 3, .cells #[.slice (some ⟨w.heap.size + 1 + 1 + 1, 0, none⟩) 2 2, .slice (some ⟨w.heap.size + 1 + 1 + 1 + 1, 0, none⟩) 2 2] 49])
    have h := h.addM (RdM_lit2 (hg 2 _ rfl) (RdI_lit (xs := [1, 1]) (hg 0 _ rfl) rfl (by decide)) (RdI_lit (xs := [1, 0]) (hg 1 _ rfl) rfl (by decide)))
    have h := h.addI (RdI_lit (xs := [1, 1]) (hg 3 _ rfl) rfl (by decide))
    have h := h.addI (RdI_lit (xs := [0, 1]) (hg 4 _ rfl) rfl (by decide))
    have h := h.addB (hg 5 _ rfl)
    exact ⟨_, rfl, Lib.hid (hlow), Lib.hid h⟩
  replace hX0 := Lib.hid hX0
  go_enter Tryd.func18, Tryd.ntmps18
  go_wp2_with fail
  rw [hX0.out]
  refine (aw_power _ _ (hbag.out.1 (.slice (some ⟨w.heap.size + 1 + 1, 0, none⟩) 2 2, aA) (by simp))).mono ?_
  rintro e W1 ⟨m, rfl, hm, hB⟩
  have hBB' := Lib.hid (Below.then_ hBX0.out hB)
  replace hbag : Hid (Bag W1 [(m, [[8, 5], [5, 3]]), (.slice (some ⟨w.heap.size + 1 + 1, 0, none⟩) 2 2, aA)] [(.slice (some ⟨w.heap.size + 1 + 1 + 1 + 1, 0, none⟩) 2 2, [0, 1]), (.slice (some ⟨w.heap.size + 1 + 1 + 1, 0, none⟩) 2 2, [1, 1])] [(w.heap.size + 1 + 1 + 1 + 1 + 1, .cells #[.slice (some ⟨w.heap.size + 1 + 1 + 1, 0, none⟩) 2 2, .slice (some ⟨w.heap.size + 1 + 1 + 1 + 1, 0, none⟩) 2 2] 49 (0, 0))]) := Lib.hid ((hbag.out.below hB).addM hm)
  clear hB hm
  clear hX0 hBX0
  have hBB := hBB'
  clear hBB'
  go_wp2_with fail
  refine (aw_det _ _ (hbag.out.1 (.slice (some ⟨w.heap.size + 1 + 1, 0, none⟩) 2 2, aA) (by simp))).mono ?_
  rintro e W2 ⟨rfl, hB⟩
  have hBB' := Lib.hid (Below.then_ hBB.out hB)
  replace hbag : Hid (Bag W2 [(m, [[8, 5], [5, 3]]), (.slice (some ⟨w.heap.size + 1 + 1, 0, none⟩) 2 2, aA)] [(.slice (some ⟨w.heap.size + 1 + 1 + 1 + 1, 0, none⟩) 2 2, [0, 1]), (.slice (some ⟨w.heap.size + 1 + 1 + 1, 0, none⟩) 2 2, [1, 1])] [(w.heap.size + 1 + 1 + 1 + 1 + 1, .cells #[.slice (some ⟨w.heap.size + 1 + 1 + 1, 0, none⟩) 2 2, .slice (some ⟨w.heap.size + 1 + 1 + 1 + 1, 0, none⟩) 2 2] 49 (0, 0))]) := Lib.hid (hbag.out.below hB)
  clear hB
  clear hBB
  have hBB := hBB'
  clear hBB'
  go_wp2_with fail
  refine (aw_inverse _ _ (hbag.out.1 (.slice (some ⟨w.heap.size + 1 + 1, 0, none⟩) 2 2, aA) (by simp))).mono ?_
  rintro e W3 ⟨v, rfl, hm, hB⟩
  have hBB' := Lib.hid (Below.then_ hBB.out hB)
  replace hbag : Hid (Bag W3 [(v, [[0, 1], [1, 65520]]), (m, [[8, 5], [5, 3]]), (.slice (some ⟨w.heap.size + 1 + 1, 0, none⟩) 2 2, aA)] [(.slice (some ⟨w.heap.size + 1 + 1 + 1 + 1, 0, none⟩) 2 2, [0, 1]), (.slice (some ⟨w.heap.size + 1 + 1 + 1, 0, none⟩) 2 2, [1, 1])] [(w.heap.size + 1 + 1 + 1 + 1 + 1, .cells #[.slice (some ⟨w.heap.size + 1 + 1 + 1, 0, none⟩) 2 2, .slice (some ⟨w.heap.size + 1 + 1 + 1 + 1, 0, none⟩) 2 2] 49 (0, 0))]) := Lib.hid ((hbag.out.below hB).addM hm)
  clear hB hm
  clear hBB
  have hBB := hBB'
  clear hBB'
  go_wp2_with fail
  refine (aw_char _ _ (hbag.out.1 (.slice (some ⟨w.heap.size + 1 + 1, 0, none⟩) 2 2, aA) (by simp))).mono ?_
  rintro e W4 ⟨c, rfl, hm, hB⟩
  have hBB' := Lib.hid (Below.then_ hBB.out hB)
  replace hbag : Hid (Bag W4 [(v, [[0, 1], [1, 65520]]), (m, [[8, 5], [5, 3]]), (.slice (some ⟨w.heap.size + 1 + 1, 0, none⟩) 2 2, aA)] [(c, [1, 1]), (.slice (some ⟨w.heap.size + 1 + 1 + 1 + 1, 0, none⟩) 2 2, [0, 1]), (.slice (some ⟨w.heap.size + 1 + 1 + 1, 0, none⟩) 2 2, [1, 1])] [(w.heap.size + 1 + 1 + 1 + 1 + 1, .cells #[.slice (some ⟨w.heap.size + 1 + 1 + 1, 0, none⟩) 2 2, .slice (some ⟨w.heap.size + 1 + 1 + 1 + 1, 0, none⟩) 2 2] 49 (0, 0))]) := Lib.hid ((hbag.out.below hB).addI hm)
  clear hB hm
  clear hBB
  have hBB := hBB'
  clear hBB'
  obtain ⟨X1, hX1, hBX1, hbag⟩ : ∃ X, ((((W4.alloc (.cells #[.int .i64 1, .int .i64 1] 3)).alloc (.cells #[.int .i64 2, .int .i64 2] 3)).alloc (.cells #[.slice (some ⟨W4.heap.size, 0, none⟩) 2 2, .slice (some ⟨W4.heap.size + 1, 0, none⟩) 2 2] 23)).alloc (.cells #[.int .i64 3, .int .i64 6] 3)) = X ∧ Hid (Below w.heap.size w X) ∧ Hid (Bag X [(.slice (some ⟨W4.heap.size + 1 + 1, 0, none⟩) 2 2, [[1, 1], [2, 2]]), (v, [[0, 1], [1, 65520]]), (m, [[8, 5], [5, 3]]), (.slice (some ⟨w.heap.size + 1 + 1, 0, none⟩) 2 2, aA)] [(.slice (some ⟨W4.heap.size + 1 + 1 + 1, 0, none⟩) 2 2, [3, 6]), (c, [1, 1]), (.slice (some ⟨w.heap.size + 1 + 1 + 1 + 1, 0, none⟩) 2 2, [0, 1]), (.slice (some ⟨w.heap.size + 1 + 1 + 1, 0, none⟩) 2 2, [1, 1])] [(w.heap.size + 1 + 1 + 1 + 1 + 1, .cells #[.slice (some ⟨w.heap.size + 1 + 1 + 1, 0, none⟩) 2 2, .slice (some ⟨w.heap.size + 1 + 1 + 1 + 1, 0, none⟩) 2 2] 49 (0, 0))]) := by
    have hg := fun i o h => allocs_get W4 [.cells #[.int .i64 1, .int .i64 1] 3, .cells #[.int .i64 2, .int .i64 2] 3, .cells #[.slice (some ⟨W4.heap.size, 0, none⟩) 2 2, .slice (some ⟨W4.heap.size + 1, 0, none⟩) 2 2] 23, .cells #[.int .i64 3, .int .i64 6] 3] i o h
    have hlow := allocs_below W4 [.cells #[.int .i64 1, .int .i64 1] 3, .cells #[.int .i64 2, .int .i64 2] 3, .cells #[.slice (some ⟨W4.heap.size, 0, none⟩) 2 2, .slice (some ⟨W4.heap.size + 1, 0, none⟩) 2 2] 23, .cells #[.int .i64 3, .int .i64 6] 3]
    have h := hbag.out.below hlow
    have h := h.addM (RdM_lit2 (hg 2 _ rfl) (RdI_lit (xs := [1, 1]) (hg 0 _ rfl) rfl (by decide)) (RdI_lit (xs := [2, 2]) (hg 1 _ rfl) rfl (by decide)))
    have h := h.addI (RdI_lit (xs := [3, 6]) (hg 3 _ rfl) rfl (by decide))
    exact ⟨_, rfl, Lib.hid (Below.then_ hBB.out hlow), Lib.hid h⟩
  replace hX1 := Lib.hid hX1
  go_wp2_with fail
  rw [hX1.out]
  refine (aw_solve _ _ _ (hbag.out.1 (.slice (some ⟨W4.heap.size + 1 + 1, 0, none⟩) 2 2, [[1, 1], [2, 2]]) (by simp)) (hbag.out.2.1 (.slice (some ⟨W4.heap.size + 1 + 1 + 1, 0, none⟩) 2 2, [3, 6]) (by simp))).mono ?_
  rintro e W5 ⟨x, rfl, hm, hB⟩
  have hBB' := Lib.hid (Below.then_ hBX1.out hB)
  replace hbag : Hid (Bag W5 [(.slice (some ⟨W4.heap.size + 1 + 1, 0, none⟩) 2 2, [[1, 1], [2, 2]]), (v, [[0, 1], [1, 65520]]), (m, [[8, 5], [5, 3]]), (.slice (some ⟨w.heap.size + 1 + 1, 0, none⟩) 2 2, aA)] [(x, [0, 3]), (.slice (some ⟨W4.heap.size + 1 + 1 + 1, 0, none⟩) 2 2, [3, 6]), (c, [1, 1]), (.slice (some ⟨w.heap.size + 1 + 1 + 1 + 1, 0, none⟩) 2 2, [0, 1]), (.slice (some ⟨w.heap.size + 1 + 1 + 1, 0, none⟩) 2 2, [1, 1])] [(w.heap.size + 1 + 1 + 1 + 1 + 1, .cells #[.slice (some ⟨w.heap.size + 1 + 1 + 1, 0, none⟩) 2 2, .slice (some ⟨w.heap.size + 1 + 1 + 1 + 1, 0, none⟩) 2 2] 49 (0, 0))]) := Lib.hid ((hbag.out.below hB).addI hm)
  clear hB hm
  clear hX1 hBX1
  clear hBB
  have hBB := hBB'
  clear hBB'
  obtain ⟨q0, q1, -, -⟩ := ret_cell (hbag.out.2.2 (w.heap.size + 1 + 1 + 1 + 1 + 1, .cells #[.slice (some ⟨w.heap.size + 1 + 1 + 1, 0, none⟩) 2 2, .slice (some ⟨w.heap.size + 1 + 1 + 1 + 1, 0, none⟩) 2 2] 49 (0, 0)) (by simp))
  go_wp2_with fail
  refine (aw_term _ _ ⟨_, _, rfl, (hbag.out.2.1 (.slice (some ⟨w.heap.size + 1 + 1 + 1, 0, none⟩) 2 2, [1, 1]) (by simp)), (hbag.out.2.1 (.slice (some ⟨w.heap.size + 1 + 1 + 1 + 1, 0, none⟩) 2 2, [0, 1]) (by simp))⟩).mono ?_
  rintro e W6 ⟨rfl, hB⟩
  have hBB' := Lib.hid (Below.then_ hBB.out hB)
  replace hbag : Hid (Bag W6 [(.slice (some ⟨W4.heap.size + 1 + 1, 0, none⟩) 2 2, [[1, 1], [2, 2]]), (v, [[0, 1], [1, 65520]]), (m, [[8, 5], [5, 3]]), (.slice (some ⟨w.heap.size + 1 + 1, 0, none⟩) 2 2, aA)] [(x, [0, 3]), (.slice (some ⟨W4.heap.size + 1 + 1 + 1, 0, none⟩) 2 2, [3, 6]), (c, [1, 1]), (.slice (some ⟨w.heap.size + 1 + 1 + 1 + 1, 0, none⟩) 2 2, [0, 1]), (.slice (some ⟨w.heap.size + 1 + 1 + 1, 0, none⟩) 2 2, [1, 1])] [(w.heap.size + 1 + 1 + 1 + 1 + 1, .cells #[.slice (some ⟨w.heap.size + 1 + 1 + 1, 0, none⟩) 2 2, .slice (some ⟨w.heap.size + 1 + 1 + 1 + 1, 0, none⟩) 2 2] 49 (0, 0))]) := Lib.hid (hbag.out.below hB)
  clear hB
  clear hBB
  have hBB := hBB'
  clear hBB'
  clear q0 q1
  obtain ⟨X2, hX2, hBX2, hbag⟩ : ∃ X, (W6.alloc (.cells #[.int .i64 0, .int .i64 1, .int .i64 1, .int .i64 2, .int .i64 3, .int .i64 5, .int .i64 8, .int .i64 13] 3)) = X ∧ Hid (Below w.heap.size w X) ∧ Hid (Bag X [(.slice (some ⟨W4.heap.size + 1 + 1, 0, none⟩) 2 2, [[1, 1], [2, 2]]), (v, [[0, 1], [1, 65520]]), (m, [[8, 5], [5, 3]]), (.slice (some ⟨w.heap.size + 1 + 1, 0, none⟩) 2 2, aA)] [(.slice (some ⟨W6.heap.size, 0, none⟩) 8 8, [0, 1, 1, 2, 3, 5, 8, 13]), (x, [0, 3]), (.slice (some ⟨W4.heap.size + 1 + 1 + 1, 0, none⟩) 2 2, [3, 6]), (c, [1, 1]), (.slice (some ⟨w.heap.size + 1 + 1 + 1 + 1, 0, none⟩) 2 2, [0, 1]), (.slice (some ⟨w.heap.size + 1 + 1 + 1, 0, none⟩) 2 2, [1, 1])] [(w.heap.size + 1 + 1 + 1 + 1 + 1, .cells #[.slice (some ⟨w.heap.size + 1 + 1 + 1, 0, none⟩) 2 2, .slice (some ⟨w.heap.size + 1 + 1 + 1 + 1, 0, none⟩) 2 2] 49 (0, 0))]) := by
    have hg := fun i o h => allocs_get W6 [.cells #[.int .i64 0, .int .i64 1, .int .i64 1, .int .i64 2, .int .i64 3, .int .i64 5, .int .i64 8, .int .i64 13] 3] i o h
    have hlow := allocs_below W6 [.cells #[.int .i64 0, .int .i64 1, .int .i64 1, .int .i64 2, .int .i64 3, .int .i64 5, .int .i64 8, .int .i64 13] 3]
    have h := hbag.out.below hlow
    have h := h.addI (RdI_lit (xs := [0, 1, 1, 2, 3, 5, 8, 13]) (hg 0 _ rfl) rfl (by decide))
    exact ⟨_, rfl, Lib.hid (Below.then_ hBB.out hlow), Lib.hid h⟩
  replace hX2 := Lib.hid hX2
  go_wp2_with fail
  rw [hX2.out]
  refine (aw_least _ _ (hbag.out.2.1 (.slice (some ⟨W6.heap.size, 0, none⟩) 8 8, [0, 1, 1, 2, 3, 5, 8, 13]) (by simp))).mono ?_
  rintro e W7 ⟨m, rfl, ⟨Ar, cr, Br, dr, rfl, ra, rb⟩, hB⟩
  have hBB' := Lib.hid (Below.then_ hBX2.out hB)
  replace hbag : Hid (Bag W7 [(.slice (some ⟨W4.heap.size + 1 + 1, 0, none⟩) 2 2, [[1, 1], [2, 2]]), (v, [[0, 1], [1, 65520]]), (m, [[8, 5], [5, 3]]), (.slice (some ⟨w.heap.size + 1 + 1, 0, none⟩) 2 2, aA)] [(.slice Br fibR.start.length dr, fibR.start), (.slice Ar fibR.by_.length cr, fibR.by_), (.slice (some ⟨W6.heap.size, 0, none⟩) 8 8, [0, 1, 1, 2, 3, 5, 8, 13]), (x, [0, 3]), (.slice (some ⟨W4.heap.size + 1 + 1 + 1, 0, none⟩) 2 2, [3, 6]), (c, [1, 1]), (.slice (some ⟨w.heap.size + 1 + 1 + 1 + 1, 0, none⟩) 2 2, [0, 1]), (.slice (some ⟨w.heap.size + 1 + 1 + 1, 0, none⟩) 2 2, [1, 1])] [(w.heap.size + 1 + 1 + 1 + 1 + 1, .cells #[.slice (some ⟨w.heap.size + 1 + 1 + 1, 0, none⟩) 2 2, .slice (some ⟨w.heap.size + 1 + 1 + 1 + 1, 0, none⟩) 2 2] 49 (0, 0))]) := Lib.hid (((hbag.out.below hB).addI ra).addI rb)
  clear hB ra rb
  clear hX2 hBX2
  clear hBB
  have hBB := hBB'
  clear hBB'
  obtain ⟨X3, hX3, hBX3, hbag⟩ : ∃ X, (((((W7.alloc (.cells #[.slice Ar fibR.by_.length cr, .slice Br fibR.start.length dr] 49)).alloc (.cells #[.int .i64 1] 3)).alloc (.cells #[.int .i64 1] 3)).alloc (.cells #[.int .i64 1] 3)).alloc (.cells #[.int .i64 1] 3)) = X ∧ Hid (Below w.heap.size w X) ∧ Hid (Bag X [(.slice (some ⟨W4.heap.size + 1 + 1, 0, none⟩) 2 2, [[1, 1], [2, 2]]), (v, [[0, 1], [1, 65520]]), (m, [[8, 5], [5, 3]]), (.slice (some ⟨w.heap.size + 1 + 1, 0, none⟩) 2 2, aA)] [(.slice (some ⟨W7.heap.size + 1 + 1 + 1 + 1, 0, none⟩) 1 1, [1]), (.slice (some ⟨W7.heap.size + 1 + 1 + 1, 0, none⟩) 1 1, [1]), (.slice (some ⟨W7.heap.size + 1 + 1, 0, none⟩) 1 1, [1]), (.slice (some ⟨W7.heap.size + 1, 0, none⟩) 1 1, [1]), (.slice Br fibR.start.length dr, fibR.start), (.slice Ar fibR.by_.length cr, fibR.by_), (.slice (some ⟨W6.heap.size, 0, none⟩) 8 8, [0, 1, 1, 2, 3, 5, 8, 13]), (x, [0, 3]), (.slice (some ⟨W4.heap.size + 1 + 1 + 1, 0, none⟩) 2 2, [3, 6]), (c, [1, 1]), (.slice (some ⟨w.heap.size + 1 + 1 + 1 + 1, 0, none⟩) 2 2, [0, 1]), (.slice (some ⟨w.heap.size + 1 + 1 + 1, 0, none⟩) 2 2, [1, 1])] [(W7.heap.size, .cells #[.slice Ar fibR.by_.length cr, .slice Br fibR.start.length dr] 49 (0, 0)), (w.heap.size + 1 + 1 + 1 + 1 + 1, .cells #[.slice (some ⟨w.heap.size + 1 + 1 + 1, 0, none⟩) 2 2, .slice (some ⟨w.heap.size + 1 + 1 + 1 + 1, 0, none⟩) 2 2] 49 (0, 0))]) := by
    have hg := fun i o h => allocs_get W7 [.cells #[.slice Ar fibR.by_.length cr, .slice Br fibR.start.length dr] 49, .cells #[.int .i64 1] 3, .cells #[.int .i64 1] 3, .cells #[.int .i64 1] 3, .cells #[.int .i64 1] 3] i o h
    have hlow := allocs_below W7 [.cells #[.slice Ar fibR.by_.length cr, .slice Br fibR.start.length dr] 49, .cells #[.int .i64 1] 3, .cells #[.int .i64 1] 3, .cells #[.int .i64 1] 3, .cells #[.int .i64 1] 3]
    have h := hbag.out.below hlow
    have h := h.addB (hg 0 _ rfl)
    have h := h.addI (RdI_lit (xs := [1]) (hg 1 _ rfl) rfl (by decide))
    have h := h.addI (RdI_lit (xs := [1]) (hg 2 _ rfl) rfl (by decide))
    have h := h.addI (RdI_lit (xs := [1]) (hg 3 _ rfl) rfl (by decide))
    have h := h.addI (RdI_lit (xs := [1]) (hg 4 _ rfl) rfl (by decide))
    exact ⟨_, rfl, Lib.hid (Below.then_ hBB.out hlow), Lib.hid h⟩
  replace hX3 := Lib.hid hX3
  go_wp2_with fail
  rw [hX3.out]
  refine (aw_folded _ _ _ ⟨_, _, rfl, (hbag.out.2.1 (.slice (some ⟨W7.heap.size + 1, 0, none⟩) 1 1, [1]) (by simp)), (hbag.out.2.1 (.slice (some ⟨W7.heap.size + 1 + 1, 0, none⟩) 1 1, [1]) (by simp))⟩ ⟨_, _, rfl, (hbag.out.2.1 (.slice (some ⟨W7.heap.size + 1 + 1 + 1, 0, none⟩) 1 1, [1]) (by simp)), (hbag.out.2.1 (.slice (some ⟨W7.heap.size + 1 + 1 + 1 + 1, 0, none⟩) 1 1, [1]) (by simp))⟩ (hJ.out.below hBX3.out)).mono ?_
  rintro e W8 ⟨m, rfl, ⟨Ap, cp, Bp, dp, rfl, ra, rb⟩, hB⟩
  have hBB' := Lib.hid (Below.then_ hBX3.out hB)
  replace hbag : Hid (Bag W8 [(.slice (some ⟨W4.heap.size + 1 + 1, 0, none⟩) 2 2, [[1, 1], [2, 2]]), (v, [[0, 1], [1, 65520]]), (m, [[8, 5], [5, 3]]), (.slice (some ⟨w.heap.size + 1 + 1, 0, none⟩) 2 2, aA)] [(.slice Bp folR.start.length dp, folR.start), (.slice Ap folR.by_.length cp, folR.by_), (.slice (some ⟨W7.heap.size + 1 + 1 + 1 + 1, 0, none⟩) 1 1, [1]), (.slice (some ⟨W7.heap.size + 1 + 1 + 1, 0, none⟩) 1 1, [1]), (.slice (some ⟨W7.heap.size + 1 + 1, 0, none⟩) 1 1, [1]), (.slice (some ⟨W7.heap.size + 1, 0, none⟩) 1 1, [1]), (.slice Br fibR.start.length dr, fibR.start), (.slice Ar fibR.by_.length cr, fibR.by_), (.slice (some ⟨W6.heap.size, 0, none⟩) 8 8, [0, 1, 1, 2, 3, 5, 8, 13]), (x, [0, 3]), (.slice (some ⟨W4.heap.size + 1 + 1 + 1, 0, none⟩) 2 2, [3, 6]), (c, [1, 1]), (.slice (some ⟨w.heap.size + 1 + 1 + 1 + 1, 0, none⟩) 2 2, [0, 1]), (.slice (some ⟨w.heap.size + 1 + 1 + 1, 0, none⟩) 2 2, [1, 1])] [(W7.heap.size, .cells #[.slice Ar fibR.by_.length cr, .slice Br fibR.start.length dr] 49 (0, 0)), (w.heap.size + 1 + 1 + 1 + 1 + 1, .cells #[.slice (some ⟨w.heap.size + 1 + 1 + 1, 0, none⟩) 2 2, .slice (some ⟨w.heap.size + 1 + 1 + 1 + 1, 0, none⟩) 2 2] 49 (0, 0))]) := Lib.hid (((hbag.out.below hB).addI ra).addI rb)
  clear hB ra rb
  clear hX3 hBX3
  clear hBB
  have hBB := hBB'
  clear hBB'
  obtain ⟨X4, hX4, hBX4, hbag⟩ : ∃ X, (((((W8.alloc (.cells #[.slice Ap folR.by_.length cp, .slice Bp folR.start.length dp] 49)).alloc (.cells #[.int .i64 2] 3)).alloc (.cells #[.int .i64 1] 3)).alloc (.cells #[.int .i64 1, .int .i64 2] 3)).alloc (.cells #[.int .i64 1, .int .i64 2] 3)) = X ∧ Hid (Below w.heap.size w X) ∧ Hid (Bag X [(.slice (some ⟨W4.heap.size + 1 + 1, 0, none⟩) 2 2, [[1, 1], [2, 2]]), (v, [[0, 1], [1, 65520]]), (m, [[8, 5], [5, 3]]), (.slice (some ⟨w.heap.size + 1 + 1, 0, none⟩) 2 2, aA)] [(.slice (some ⟨W8.heap.size + 1 + 1 + 1 + 1, 0, none⟩) 2 2, [1, 2]), (.slice (some ⟨W8.heap.size + 1 + 1 + 1, 0, none⟩) 2 2, [1, 2]), (.slice (some ⟨W8.heap.size + 1 + 1, 0, none⟩) 1 1, [1]), (.slice (some ⟨W8.heap.size + 1, 0, none⟩) 1 1, [2]), (.slice Bp folR.start.length dp, folR.start), (.slice Ap folR.by_.length cp, folR.by_), (.slice (some ⟨W7.heap.size + 1 + 1 + 1 + 1, 0, none⟩) 1 1, [1]), (.slice (some ⟨W7.heap.size + 1 + 1 + 1, 0, none⟩) 1 1, [1]), (.slice (some ⟨W7.heap.size + 1 + 1, 0, none⟩) 1 1, [1]), (.slice (some ⟨W7.heap.size + 1, 0, none⟩) 1 1, [1]), (.slice Br fibR.start.length dr, fibR.start), (.slice Ar fibR.by_.length cr, fibR.by_), (.slice (some ⟨W6.heap.size, 0, none⟩) 8 8, [0, 1, 1, 2, 3, 5, 8, 13]), (x, [0, 3]), (.slice (some ⟨W4.heap.size + 1 + 1 + 1, 0, none⟩) 2 2, [3, 6]), (c, [1, 1]), (.slice (some ⟨w.heap.size + 1 + 1 + 1 + 1, 0, none⟩) 2 2, [0, 1]), (.slice (some ⟨w.heap.size + 1 + 1 + 1, 0, none⟩) 2 2, [1, 1])] [(W8.heap.size, .cells #[.slice Ap folR.by_.length cp, .slice Bp folR.start.length dp] 49 (0, 0)), (W7.heap.size, .cells #[.slice Ar fibR.by_.length cr, .slice Br fibR.start.length dr] 49 (0, 0)), (w.heap.size + 1 + 1 + 1 + 1 + 1, .cells #[.slice (some ⟨w.heap.size + 1 + 1 + 1, 0, none⟩) 2 2, .slice (some ⟨w.heap.size + 1 + 1 + 1 + 1, 0, none⟩) 2 2] 49 (0, 0))]) := by
    have hg := fun i o h => allocs_get W8 [.cells #[.slice Ap folR.by_.length cp, .slice Bp folR.start.length dp] 49, .cells #[.int .i64 2] 3, .cells #[.int .i64 1] 3, .cells #[.int .i64 1, .int .i64 2] 3, .cells #[.int .i64 1, .int .i64 2] 3] i o h
    have hlow := allocs_below W8 [.cells #[.slice Ap folR.by_.length cp, .slice Bp folR.start.length dp] 49, .cells #[.int .i64 2] 3, .cells #[.int .i64 1] 3, .cells #[.int .i64 1, .int .i64 2] 3, .cells #[.int .i64 1, .int .i64 2] 3]
    have h := hbag.out.below hlow
    have h := h.addB (hg 0 _ rfl)
    have h := h.addI (RdI_lit (xs := [2]) (hg 1 _ rfl) rfl (by decide))
    have h := h.addI (RdI_lit (xs := [1]) (hg 2 _ rfl) rfl (by decide))
    have h := h.addI (RdI_lit (xs := [1, 2]) (hg 3 _ rfl) rfl (by decide))
    have h := h.addI (RdI_lit (xs := [1, 2]) (hg 4 _ rfl) rfl (by decide))
    exact ⟨_, rfl, Lib.hid (Below.then_ hBB.out hlow), Lib.hid h⟩
  replace hX4 := Lib.hid hX4
  go_wp2_with fail
  rw [hX4.out]
  refine (aw_apart _ _ _ ⟨_, _, rfl, (hbag.out.2.1 (.slice (some ⟨W8.heap.size + 1, 0, none⟩) 1 1, [2]) (by simp)), (hbag.out.2.1 (.slice (some ⟨W8.heap.size + 1 + 1, 0, none⟩) 1 1, [1]) (by simp))⟩ ⟨_, _, rfl, (hbag.out.2.1 (.slice (some ⟨W8.heap.size + 1 + 1 + 1, 0, none⟩) 2 2, [1, 2]) (by simp)), (hbag.out.2.1 (.slice (some ⟨W8.heap.size + 1 + 1 + 1 + 1, 0, none⟩) 2 2, [1, 2]) (by simp))⟩).mono ?_
  rintro e W9 ⟨rfl, hB⟩
  have hBB' := Lib.hid (Below.then_ hBX4.out hB)
  replace hbag : Hid (Bag W9 [(.slice (some ⟨W4.heap.size + 1 + 1, 0, none⟩) 2 2, [[1, 1], [2, 2]]), (v, [[0, 1], [1, 65520]]), (m, [[8, 5], [5, 3]]), (.slice (some ⟨w.heap.size + 1 + 1, 0, none⟩) 2 2, aA)] [(.slice (some ⟨W8.heap.size + 1 + 1 + 1 + 1, 0, none⟩) 2 2, [1, 2]), (.slice (some ⟨W8.heap.size + 1 + 1 + 1, 0, none⟩) 2 2, [1, 2]), (.slice (some ⟨W8.heap.size + 1 + 1, 0, none⟩) 1 1, [1]), (.slice (some ⟨W8.heap.size + 1, 0, none⟩) 1 1, [2]), (.slice Bp folR.start.length dp, folR.start), (.slice Ap folR.by_.length cp, folR.by_), (.slice (some ⟨W7.heap.size + 1 + 1 + 1 + 1, 0, none⟩) 1 1, [1]), (.slice (some ⟨W7.heap.size + 1 + 1 + 1, 0, none⟩) 1 1, [1]), (.slice (some ⟨W7.heap.size + 1 + 1, 0, none⟩) 1 1, [1]), (.slice (some ⟨W7.heap.size + 1, 0, none⟩) 1 1, [1]), (.slice Br fibR.start.length dr, fibR.start), (.slice Ar fibR.by_.length cr, fibR.by_), (.slice (some ⟨W6.heap.size, 0, none⟩) 8 8, [0, 1, 1, 2, 3, 5, 8, 13]), (x, [0, 3]), (.slice (some ⟨W4.heap.size + 1 + 1 + 1, 0, none⟩) 2 2, [3, 6]), (c, [1, 1]), (.slice (some ⟨w.heap.size + 1 + 1 + 1 + 1, 0, none⟩) 2 2, [0, 1]), (.slice (some ⟨w.heap.size + 1 + 1 + 1, 0, none⟩) 2 2, [1, 1])] [(W8.heap.size, .cells #[.slice Ap folR.by_.length cp, .slice Bp folR.start.length dp] 49 (0, 0)), (W7.heap.size, .cells #[.slice Ar fibR.by_.length cr, .slice Br fibR.start.length dr] 49 (0, 0)), (w.heap.size + 1 + 1 + 1 + 1 + 1, .cells #[.slice (some ⟨w.heap.size + 1 + 1 + 1, 0, none⟩) 2 2, .slice (some ⟨w.heap.size + 1 + 1 + 1 + 1, 0, none⟩) 2 2] 49 (0, 0))]) := Lib.hid (hbag.out.below hB)
  clear hB
  clear hX4 hBX4
  clear hBB
  have hBB := hBB'
  clear hBB'
  go_wp2_with fail
  refine (aw_norm _).mono ?_
  rintro e W ⟨rfl, rfl⟩
  obtain ⟨X5, hX5, hBX5, hbag⟩ : ∃ X, (((W9.alloc (.cells #[.int .i64 8, .int .i64 5] 3)).alloc (.cells #[.int .i64 5, .int .i64 3] 3)).alloc (.cells #[.slice (some ⟨W9.heap.size, 0, none⟩) 2 2, .slice (some ⟨W9.heap.size + 1, 0, none⟩) 2 2] 23)) = X ∧ Hid (Below w.heap.size w X) ∧ Hid (Bag X [(.slice (some ⟨W9.heap.size + 1 + 1, 0, none⟩) 2 2, [[8, 5], [5, 3]]), (.slice (some ⟨W4.heap.size + 1 + 1, 0, none⟩) 2 2, [[1, 1], [2, 2]]), (v, [[0, 1], [1, 65520]]), (m, [[8, 5], [5, 3]]), (.slice (some ⟨w.heap.size + 1 + 1, 0, none⟩) 2 2, aA)] [(.slice (some ⟨W8.heap.size + 1 + 1 + 1 + 1, 0, none⟩) 2 2, [1, 2]), (.slice (some ⟨W8.heap.size + 1 + 1 + 1, 0, none⟩) 2 2, [1, 2]), (.slice (some ⟨W8.heap.size + 1 + 1, 0, none⟩) 1 1, [1]), (.slice (some ⟨W8.heap.size + 1, 0, none⟩) 1 1, [2]), (.slice Bp folR.start.length dp, folR.start), (.slice Ap folR.by_.length cp, folR.by_), (.slice (some ⟨W7.heap.size + 1 + 1 + 1 + 1, 0, none⟩) 1 1, [1]), (.slice (some ⟨W7.heap.size + 1 + 1 + 1, 0, none⟩) 1 1, [1]), (.slice (some ⟨W7.heap.size + 1 + 1, 0, none⟩) 1 1, [1]), (.slice (some ⟨W7.heap.size + 1, 0, none⟩) 1 1, [1]), (.slice Br fibR.start.length dr, fibR.start), (.slice Ar fibR.by_.length cr, fibR.by_), (.slice (some ⟨W6.heap.size, 0, none⟩) 8 8, [0, 1, 1, 2, 3, 5, 8, 13]), (x, [0, 3]), (.slice (some ⟨W4.heap.size + 1 + 1 + 1, 0, none⟩) 2 2, [3, 6]), (c, [1, 1]), (.slice (some ⟨w.heap.size + 1 + 1 + 1 + 1, 0, none⟩) 2 2, [0, 1]), (.slice (some ⟨w.heap.size + 1 + 1 + 1, 0, none⟩) 2 2, [1, 1])] [(W8.heap.size, .cells #[.slice Ap folR.by_.length cp, .slice Bp folR.start.length dp] 49 (0, 0)), (W7.heap.size, .cells #[.slice Ar fibR.by_.length cr, .slice Br fibR.start.length dr] 49 (0, 0)), (w.heap.size + 1 + 1 + 1 + 1 + 1, .cells #[.slice (some ⟨w.heap.size + 1 + 1 + 1, 0, none⟩) 2 2, .slice (some ⟨w.heap.size + 1 + 1 + 1 + 1, 0, none⟩) 2 2] 49 (0, 0))]) := by
    have hg := fun i o h => allocs_get W9 [.cells #[.int .i64 8, .int .i64 5] 3, .cells #[.int .i64 5, .int .i64 3] 3, .cells #[.slice (some ⟨W9.heap.size, 0, none⟩) 2 2, .slice (some ⟨W9.heap.size + 1, 0, none⟩) 2 2] 23] i o h
    have hlow := allocs_below W9 [.cells #[.int .i64 8, .int .i64 5] 3, .cells #[.int .i64 5, .int .i64 3] 3, .cells #[.slice (some ⟨W9.heap.size, 0, none⟩) 2 2, .slice (some ⟨W9.heap.size + 1, 0, none⟩) 2 2] 23]
    have h := hbag.out.below hlow
    have h := h.addM (RdM_lit2 (hg 2 _ rfl) (RdI_lit (xs := [8, 5]) (hg 0 _ rfl) rfl (by decide)) (RdI_lit (xs := [5, 3]) (hg 1 _ rfl) rfl (by decide)))
    exact ⟨_, rfl, Lib.hid (Below.then_ hBB.out hlow), Lib.hid h⟩
  replace hX5 := Lib.hid hX5
  go_wp2_with fail
  rw [hX5.out]
  refine (EqRows_same _ _ _ _ (hbag.out.1 (m, [[8, 5], [5, 3]]) (by simp)) (hbag.out.1 (.slice (some ⟨W9.heap.size + 1 + 1, 0, none⟩) 2 2, [[8, 5], [5, 3]]) (by simp))).mono ?_
  rintro e W10 ⟨rfl, hB⟩
  have hBB' := Lib.hid (Below.then_ hBX5.out hB)
  replace hbag : Hid (Bag W10 [(.slice (some ⟨W9.heap.size + 1 + 1, 0, none⟩) 2 2, [[8, 5], [5, 3]]), (.slice (some ⟨W4.heap.size + 1 + 1, 0, none⟩) 2 2, [[1, 1], [2, 2]]), (v, [[0, 1], [1, 65520]]), (m, [[8, 5], [5, 3]]), (.slice (some ⟨w.heap.size + 1 + 1, 0, none⟩) 2 2, aA)] [(.slice (some ⟨W8.heap.size + 1 + 1 + 1 + 1, 0, none⟩) 2 2, [1, 2]), (.slice (some ⟨W8.heap.size + 1 + 1 + 1, 0, none⟩) 2 2, [1, 2]), (.slice (some ⟨W8.heap.size + 1 + 1, 0, none⟩) 1 1, [1]), (.slice (some ⟨W8.heap.size + 1, 0, none⟩) 1 1, [2]), (.slice Bp folR.start.length dp, folR.start), (.slice Ap folR.by_.length cp, folR.by_), (.slice (some ⟨W7.heap.size + 1 + 1 + 1 + 1, 0, none⟩) 1 1, [1]), (.slice (some ⟨W7.heap.size + 1 + 1 + 1, 0, none⟩) 1 1, [1]), (.slice (some ⟨W7.heap.size + 1 + 1, 0, none⟩) 1 1, [1]), (.slice (some ⟨W7.heap.size + 1, 0, none⟩) 1 1, [1]), (.slice Br fibR.start.length dr, fibR.start), (.slice Ar fibR.by_.length cr, fibR.by_), (.slice (some ⟨W6.heap.size, 0, none⟩) 8 8, [0, 1, 1, 2, 3, 5, 8, 13]), (x, [0, 3]), (.slice (some ⟨W4.heap.size + 1 + 1 + 1, 0, none⟩) 2 2, [3, 6]), (c, [1, 1]), (.slice (some ⟨w.heap.size + 1 + 1 + 1 + 1, 0, none⟩) 2 2, [0, 1]), (.slice (some ⟨w.heap.size + 1 + 1 + 1, 0, none⟩) 2 2, [1, 1])] [(W8.heap.size, .cells #[.slice Ap folR.by_.length cp, .slice Bp folR.start.length dp] 49 (0, 0)), (W7.heap.size, .cells #[.slice Ar fibR.by_.length cr, .slice Br fibR.start.length dr] 49 (0, 0)), (w.heap.size + 1 + 1 + 1 + 1 + 1, .cells #[.slice (some ⟨w.heap.size + 1 + 1 + 1, 0, none⟩) 2 2, .slice (some ⟨w.heap.size + 1 + 1 + 1 + 1, 0, none⟩) 2 2] 49 (0, 0))]) := Lib.hid (hbag.out.below hB)
  clear hB
  clear hX5 hBX5
  clear hBB
  have hBB := hBB'
  clear hBB'
  obtain ⟨X6, hX6, hBX6, hbag⟩ : ∃ X, (((W10.alloc (.cells #[.int .i64 0, .int .i64 1] 3)).alloc (.cells #[.int .i64 1, .int .i64 65520] 3)).alloc (.cells #[.slice (some ⟨W10.heap.size, 0, none⟩) 2 2, .slice (some ⟨W10.heap.size + 1, 0, none⟩) 2 2] 23)) = X ∧ Hid (Below w.heap.size w X) ∧ Hid (Bag X [(.slice (some ⟨W10.heap.size + 1 + 1, 0, none⟩) 2 2, [[0, 1], [1, 65520]]), (.slice (some ⟨W9.heap.size + 1 + 1, 0, none⟩) 2 2, [[8, 5], [5, 3]]), (.slice (some ⟨W4.heap.size + 1 + 1, 0, none⟩) 2 2, [[1, 1], [2, 2]]), (v, [[0, 1], [1, 65520]]), (m, [[8, 5], [5, 3]]), (.slice (some ⟨w.heap.size + 1 + 1, 0, none⟩) 2 2, aA)] [(.slice (some ⟨W8.heap.size + 1 + 1 + 1 + 1, 0, none⟩) 2 2, [1, 2]), (.slice (some ⟨W8.heap.size + 1 + 1 + 1, 0, none⟩) 2 2, [1, 2]), (.slice (some ⟨W8.heap.size + 1 + 1, 0, none⟩) 1 1, [1]), (.slice (some ⟨W8.heap.size + 1, 0, none⟩) 1 1, [2]), (.slice Bp folR.start.length dp, folR.start), (.slice Ap folR.by_.length cp, folR.by_), (.slice (some ⟨W7.heap.size + 1 + 1 + 1 + 1, 0, none⟩) 1 1, [1]), (.slice (some ⟨W7.heap.size + 1 + 1 + 1, 0, none⟩) 1 1, [1]), (.slice (some ⟨W7.heap.size + 1 + 1, 0, none⟩) 1 1, [1]), (.slice (some ⟨W7.heap.size + 1, 0, none⟩) 1 1, [1]), (.slice Br fibR.start.length dr, fibR.start), (.slice Ar fibR.by_.length cr, fibR.by_), (.slice (some ⟨W6.heap.size, 0, none⟩) 8 8, [0, 1, 1, 2, 3, 5, 8, 13]), (x, [0, 3]), (.slice (some ⟨W4.heap.size + 1 + 1 + 1, 0, none⟩) 2 2, [3, 6]), (c, [1, 1]), (.slice (some ⟨w.heap.size + 1 + 1 + 1 + 1, 0, none⟩) 2 2, [0, 1]), (.slice (some ⟨w.heap.size + 1 + 1 + 1, 0, none⟩) 2 2, [1, 1])] [(W8.heap.size, .cells #[.slice Ap folR.by_.length cp, .slice Bp folR.start.length dp] 49 (0, 0)), (W7.heap.size, .cells #[.slice Ar fibR.by_.length cr, .slice Br fibR.start.length dr] 49 (0, 0)), (w.heap.size + 1 + 1 + 1 + 1 + 1, .cells #[.slice (some ⟨w.heap.size + 1 + 1 + 1, 0, none⟩) 2 2, .slice (some ⟨w.heap.size + 1 + 1 + 1 + 1, 0, none⟩) 2 2] 49 (0, 0))]) := by
    have hg := fun i o h => allocs_get W10 [.cells #[.int .i64 0, .int .i64 1] 3, .cells #[.int .i64 1, .int .i64 65520] 3, .cells #[.slice (some ⟨W10.heap.size, 0, none⟩) 2 2, .slice (some ⟨W10.heap.size + 1, 0, none⟩) 2 2] 23] i o h
    have hlow := allocs_below W10 [.cells #[.int .i64 0, .int .i64 1] 3, .cells #[.int .i64 1, .int .i64 65520] 3, .cells #[.slice (some ⟨W10.heap.size, 0, none⟩) 2 2, .slice (some ⟨W10.heap.size + 1, 0, none⟩) 2 2] 23]
    have h := hbag.out.below hlow
    have h := h.addM (RdM_lit2 (hg 2 _ rfl) (RdI_lit (xs := [0, 1]) (hg 0 _ rfl) rfl (by decide)) (RdI_lit (xs := [1, 65520]) (hg 1 _ rfl) rfl (by decide)))
    exact ⟨_, rfl, Lib.hid (Below.then_ hBB.out hlow), Lib.hid h⟩
  replace hX6 := Lib.hid hX6
  go_wp2_with fail
  rw [hX6.out]
  refine (EqRows_same _ _ _ _ (hbag.out.1 (v, [[0, 1], [1, 65520]]) (by simp)) (hbag.out.1 (.slice (some ⟨W10.heap.size + 1 + 1, 0, none⟩) 2 2, [[0, 1], [1, 65520]]) (by simp))).mono ?_
  rintro e W11 ⟨rfl, hB⟩
  have hBB' := Lib.hid (Below.then_ hBX6.out hB)
  replace hbag : Hid (Bag W11 [(.slice (some ⟨W10.heap.size + 1 + 1, 0, none⟩) 2 2, [[0, 1], [1, 65520]]), (.slice (some ⟨W9.heap.size + 1 + 1, 0, none⟩) 2 2, [[8, 5], [5, 3]]), (.slice (some ⟨W4.heap.size + 1 + 1, 0, none⟩) 2 2, [[1, 1], [2, 2]]), (v, [[0, 1], [1, 65520]]), (m, [[8, 5], [5, 3]]), (.slice (some ⟨w.heap.size + 1 + 1, 0, none⟩) 2 2, aA)] [(.slice (some ⟨W8.heap.size + 1 + 1 + 1 + 1, 0, none⟩) 2 2, [1, 2]), (.slice (some ⟨W8.heap.size + 1 + 1 + 1, 0, none⟩) 2 2, [1, 2]), (.slice (some ⟨W8.heap.size + 1 + 1, 0, none⟩) 1 1, [1]), (.slice (some ⟨W8.heap.size + 1, 0, none⟩) 1 1, [2]), (.slice Bp folR.start.length dp, folR.start), (.slice Ap folR.by_.length cp, folR.by_), (.slice (some ⟨W7.heap.size + 1 + 1 + 1 + 1, 0, none⟩) 1 1, [1]), (.slice (some ⟨W7.heap.size + 1 + 1 + 1, 0, none⟩) 1 1, [1]), (.slice (some ⟨W7.heap.size + 1 + 1, 0, none⟩) 1 1, [1]), (.slice (some ⟨W7.heap.size + 1, 0, none⟩) 1 1, [1]), (.slice Br fibR.start.length dr, fibR.start), (.slice Ar fibR.by_.length cr, fibR.by_), (.slice (some ⟨W6.heap.size, 0, none⟩) 8 8, [0, 1, 1, 2, 3, 5, 8, 13]), (x, [0, 3]), (.slice (some ⟨W4.heap.size + 1 + 1 + 1, 0, none⟩) 2 2, [3, 6]), (c, [1, 1]), (.slice (some ⟨w.heap.size + 1 + 1 + 1 + 1, 0, none⟩) 2 2, [0, 1]), (.slice (some ⟨w.heap.size + 1 + 1 + 1, 0, none⟩) 2 2, [1, 1])] [(W8.heap.size, .cells #[.slice Ap folR.by_.length cp, .slice Bp folR.start.length dp] 49 (0, 0)), (W7.heap.size, .cells #[.slice Ar fibR.by_.length cr, .slice Br fibR.start.length dr] 49 (0, 0)), (w.heap.size + 1 + 1 + 1 + 1 + 1, .cells #[.slice (some ⟨w.heap.size + 1 + 1 + 1, 0, none⟩) 2 2, .slice (some ⟨w.heap.size + 1 + 1 + 1 + 1, 0, none⟩) 2 2] 49 (0, 0))]) := Lib.hid (hbag.out.below hB)
  clear hB
  clear hX6 hBX6
  clear hBB
  have hBB := hBB'
  clear hBB'
  obtain ⟨X7, hX7, hBX7, hbag⟩ : ∃ X, (W11.alloc (.cells #[.int .i64 1, .int .i64 1] 3)) = X ∧ Hid (Below w.heap.size w X) ∧ Hid (Bag X [(.slice (some ⟨W10.heap.size + 1 + 1, 0, none⟩) 2 2, [[0, 1], [1, 65520]]), (.slice (some ⟨W9.heap.size + 1 + 1, 0, none⟩) 2 2, [[8, 5], [5, 3]]), (.slice (some ⟨W4.heap.size + 1 + 1, 0, none⟩) 2 2, [[1, 1], [2, 2]]), (v, [[0, 1], [1, 65520]]), (m, [[8, 5], [5, 3]]), (.slice (some ⟨w.heap.size + 1 + 1, 0, none⟩) 2 2, aA)] [(.slice (some ⟨W11.heap.size, 0, none⟩) 2 2, [1, 1]), (.slice (some ⟨W8.heap.size + 1 + 1 + 1 + 1, 0, none⟩) 2 2, [1, 2]), (.slice (some ⟨W8.heap.size + 1 + 1 + 1, 0, none⟩) 2 2, [1, 2]), (.slice (some ⟨W8.heap.size + 1 + 1, 0, none⟩) 1 1, [1]), (.slice (some ⟨W8.heap.size + 1, 0, none⟩) 1 1, [2]), (.slice Bp folR.start.length dp, folR.start), (.slice Ap folR.by_.length cp, folR.by_), (.slice (some ⟨W7.heap.size + 1 + 1 + 1 + 1, 0, none⟩) 1 1, [1]), (.slice (some ⟨W7.heap.size + 1 + 1 + 1, 0, none⟩) 1 1, [1]), (.slice (some ⟨W7.heap.size + 1 + 1, 0, none⟩) 1 1, [1]), (.slice (some ⟨W7.heap.size + 1, 0, none⟩) 1 1, [1]), (.slice Br fibR.start.length dr, fibR.start), (.slice Ar fibR.by_.length cr, fibR.by_), (.slice (some ⟨W6.heap.size, 0, none⟩) 8 8, [0, 1, 1, 2, 3, 5, 8, 13]), (x, [0, 3]), (.slice (some ⟨W4.heap.size + 1 + 1 + 1, 0, none⟩) 2 2, [3, 6]), (c, [1, 1]), (.slice (some ⟨w.heap.size + 1 + 1 + 1 + 1, 0, none⟩) 2 2, [0, 1]), (.slice (some ⟨w.heap.size + 1 + 1 + 1, 0, none⟩) 2 2, [1, 1])] [(W8.heap.size, .cells #[.slice Ap folR.by_.length cp, .slice Bp folR.start.length dp] 49 (0, 0)), (W7.heap.size, .cells #[.slice Ar fibR.by_.length cr, .slice Br fibR.start.length dr] 49 (0, 0)), (w.heap.size + 1 + 1 + 1 + 1 + 1, .cells #[.slice (some ⟨w.heap.size + 1 + 1 + 1, 0, none⟩) 2 2, .slice (some ⟨w.heap.size + 1 + 1 + 1 + 1, 0, none⟩) 2 2] 49 (0, 0))]) := by
    have hg := fun i o h => allocs_get W11 [.cells #[.int .i64 1, .int .i64 1] 3] i o h
    have hlow := allocs_below W11 [.cells #[.int .i64 1, .int .i64 1] 3]
    have h := hbag.out.below hlow
    have h := h.addI (RdI_lit (xs := [1, 1]) (hg 0 _ rfl) rfl (by decide))
    exact ⟨_, rfl, Lib.hid (Below.then_ hBB.out hlow), Lib.hid h⟩
  replace hX7 := Lib.hid hX7
  go_wp2_with fail
  rw [hX7.out]
  refine (Equal_same _ _ _ _ (hbag.out.2.1 (c, [1, 1]) (by simp)) (hbag.out.2.1 (.slice (some ⟨W11.heap.size, 0, none⟩) 2 2, [1, 1]) (by simp))).mono ?_
  rintro e W12 ⟨rfl, hB⟩
  have hBB' := Lib.hid (Below.then_ hBX7.out hB)
  replace hbag : Hid (Bag W12 [(.slice (some ⟨W10.heap.size + 1 + 1, 0, none⟩) 2 2, [[0, 1], [1, 65520]]), (.slice (some ⟨W9.heap.size + 1 + 1, 0, none⟩) 2 2, [[8, 5], [5, 3]]), (.slice (some ⟨W4.heap.size + 1 + 1, 0, none⟩) 2 2, [[1, 1], [2, 2]]), (v, [[0, 1], [1, 65520]]), (m, [[8, 5], [5, 3]]), (.slice (some ⟨w.heap.size + 1 + 1, 0, none⟩) 2 2, aA)] [(.slice (some ⟨W11.heap.size, 0, none⟩) 2 2, [1, 1]), (.slice (some ⟨W8.heap.size + 1 + 1 + 1 + 1, 0, none⟩) 2 2, [1, 2]), (.slice (some ⟨W8.heap.size + 1 + 1 + 1, 0, none⟩) 2 2, [1, 2]), (.slice (some ⟨W8.heap.size + 1 + 1, 0, none⟩) 1 1, [1]), (.slice (some ⟨W8.heap.size + 1, 0, none⟩) 1 1, [2]), (.slice Bp folR.start.length dp, folR.start), (.slice Ap folR.by_.length cp, folR.by_), (.slice (some ⟨W7.heap.size + 1 + 1 + 1 + 1, 0, none⟩) 1 1, [1]), (.slice (some ⟨W7.heap.size + 1 + 1 + 1, 0, none⟩) 1 1, [1]), (.slice (some ⟨W7.heap.size + 1 + 1, 0, none⟩) 1 1, [1]), (.slice (some ⟨W7.heap.size + 1, 0, none⟩) 1 1, [1]), (.slice Br fibR.start.length dr, fibR.start), (.slice Ar fibR.by_.length cr, fibR.by_), (.slice (some ⟨W6.heap.size, 0, none⟩) 8 8, [0, 1, 1, 2, 3, 5, 8, 13]), (x, [0, 3]), (.slice (some ⟨W4.heap.size + 1 + 1 + 1, 0, none⟩) 2 2, [3, 6]), (c, [1, 1]), (.slice (some ⟨w.heap.size + 1 + 1 + 1 + 1, 0, none⟩) 2 2, [0, 1]), (.slice (some ⟨w.heap.size + 1 + 1 + 1, 0, none⟩) 2 2, [1, 1])] [(W8.heap.size, .cells #[.slice Ap folR.by_.length cp, .slice Bp folR.start.length dp] 49 (0, 0)), (W7.heap.size, .cells #[.slice Ar fibR.by_.length cr, .slice Br fibR.start.length dr] 49 (0, 0)), (w.heap.size + 1 + 1 + 1 + 1 + 1, .cells #[.slice (some ⟨w.heap.size + 1 + 1 + 1, 0, none⟩) 2 2, .slice (some ⟨w.heap.size + 1 + 1 + 1 + 1, 0, none⟩) 2 2] 49 (0, 0))]) := Lib.hid (hbag.out.below hB)
  clear hB
  clear hX7 hBX7
  clear hBB
  have hBB := hBB'
  clear hBB'
  obtain ⟨X8, hX8, hBX8, hbag⟩ : ∃ X, (W12.alloc (.cells #[.int .i64 0, .int .i64 3] 3)) = X ∧ Hid (Below w.heap.size w X) ∧ Hid (Bag X [(.slice (some ⟨W10.heap.size + 1 + 1, 0, none⟩) 2 2, [[0, 1], [1, 65520]]), (.slice (some ⟨W9.heap.size + 1 + 1, 0, none⟩) 2 2, [[8, 5], [5, 3]]), (.slice (some ⟨W4.heap.size + 1 + 1, 0, none⟩) 2 2, [[1, 1], [2, 2]]), (v, [[0, 1], [1, 65520]]), (m, [[8, 5], [5, 3]]), (.slice (some ⟨w.heap.size + 1 + 1, 0, none⟩) 2 2, aA)] [(.slice (some ⟨W12.heap.size, 0, none⟩) 2 2, [0, 3]), (.slice (some ⟨W11.heap.size, 0, none⟩) 2 2, [1, 1]), (.slice (some ⟨W8.heap.size + 1 + 1 + 1 + 1, 0, none⟩) 2 2, [1, 2]), (.slice (some ⟨W8.heap.size + 1 + 1 + 1, 0, none⟩) 2 2, [1, 2]), (.slice (some ⟨W8.heap.size + 1 + 1, 0, none⟩) 1 1, [1]), (.slice (some ⟨W8.heap.size + 1, 0, none⟩) 1 1, [2]), (.slice Bp folR.start.length dp, folR.start), (.slice Ap folR.by_.length cp, folR.by_), (.slice (some ⟨W7.heap.size + 1 + 1 + 1 + 1, 0, none⟩) 1 1, [1]), (.slice (some ⟨W7.heap.size + 1 + 1 + 1, 0, none⟩) 1 1, [1]), (.slice (some ⟨W7.heap.size + 1 + 1, 0, none⟩) 1 1, [1]), (.slice (some ⟨W7.heap.size + 1, 0, none⟩) 1 1, [1]), (.slice Br fibR.start.length dr, fibR.start), (.slice Ar fibR.by_.length cr, fibR.by_), (.slice (some ⟨W6.heap.size, 0, none⟩) 8 8, [0, 1, 1, 2, 3, 5, 8, 13]), (x, [0, 3]), (.slice (some ⟨W4.heap.size + 1 + 1 + 1, 0, none⟩) 2 2, [3, 6]), (c, [1, 1]), (.slice (some ⟨w.heap.size + 1 + 1 + 1 + 1, 0, none⟩) 2 2, [0, 1]), (.slice (some ⟨w.heap.size + 1 + 1 + 1, 0, none⟩) 2 2, [1, 1])] [(W8.heap.size, .cells #[.slice Ap folR.by_.length cp, .slice Bp folR.start.length dp] 49 (0, 0)), (W7.heap.size, .cells #[.slice Ar fibR.by_.length cr, .slice Br fibR.start.length dr] 49 (0, 0)), (w.heap.size + 1 + 1 + 1 + 1 + 1, .cells #[.slice (some ⟨w.heap.size + 1 + 1 + 1, 0, none⟩) 2 2, .slice (some ⟨w.heap.size + 1 + 1 + 1 + 1, 0, none⟩) 2 2] 49 (0, 0))]) := by
    have hg := fun i o h => allocs_get W12 [.cells #[.int .i64 0, .int .i64 3] 3] i o h
    have hlow := allocs_below W12 [.cells #[.int .i64 0, .int .i64 3] 3]
    have h := hbag.out.below hlow
    have h := h.addI (RdI_lit (xs := [0, 3]) (hg 0 _ rfl) rfl (by decide))
    exact ⟨_, rfl, Lib.hid (Below.then_ hBB.out hlow), Lib.hid h⟩
  replace hX8 := Lib.hid hX8
  go_wp2_with fail
  rw [hX8.out]
  refine (Equal_same _ _ _ _ (hbag.out.2.1 (x, [0, 3]) (by simp)) (hbag.out.2.1 (.slice (some ⟨W12.heap.size, 0, none⟩) 2 2, [0, 3]) (by simp))).mono ?_
  rintro e W13 ⟨rfl, hB⟩
  have hBB' := Lib.hid (Below.then_ hBX8.out hB)
  replace hbag : Hid (Bag W13 [(.slice (some ⟨W10.heap.size + 1 + 1, 0, none⟩) 2 2, [[0, 1], [1, 65520]]), (.slice (some ⟨W9.heap.size + 1 + 1, 0, none⟩) 2 2, [[8, 5], [5, 3]]), (.slice (some ⟨W4.heap.size + 1 + 1, 0, none⟩) 2 2, [[1, 1], [2, 2]]), (v, [[0, 1], [1, 65520]]), (m, [[8, 5], [5, 3]]), (.slice (some ⟨w.heap.size + 1 + 1, 0, none⟩) 2 2, aA)] [(.slice (some ⟨W12.heap.size, 0, none⟩) 2 2, [0, 3]), (.slice (some ⟨W11.heap.size, 0, none⟩) 2 2, [1, 1]), (.slice (some ⟨W8.heap.size + 1 + 1 + 1 + 1, 0, none⟩) 2 2, [1, 2]), (.slice (some ⟨W8.heap.size + 1 + 1 + 1, 0, none⟩) 2 2, [1, 2]), (.slice (some ⟨W8.heap.size + 1 + 1, 0, none⟩) 1 1, [1]), (.slice (some ⟨W8.heap.size + 1, 0, none⟩) 1 1, [2]), (.slice Bp folR.start.length dp, folR.start), (.slice Ap folR.by_.length cp, folR.by_), (.slice (some ⟨W7.heap.size + 1 + 1 + 1 + 1, 0, none⟩) 1 1, [1]), (.slice (some ⟨W7.heap.size + 1 + 1 + 1, 0, none⟩) 1 1, [1]), (.slice (some ⟨W7.heap.size + 1 + 1, 0, none⟩) 1 1, [1]), (.slice (some ⟨W7.heap.size + 1, 0, none⟩) 1 1, [1]), (.slice Br fibR.start.length dr, fibR.start), (.slice Ar fibR.by_.length cr, fibR.by_), (.slice (some ⟨W6.heap.size, 0, none⟩) 8 8, [0, 1, 1, 2, 3, 5, 8, 13]), (x, [0, 3]), (.slice (some ⟨W4.heap.size + 1 + 1 + 1, 0, none⟩) 2 2, [3, 6]), (c, [1, 1]), (.slice (some ⟨w.heap.size + 1 + 1 + 1 + 1, 0, none⟩) 2 2, [0, 1]), (.slice (some ⟨w.heap.size + 1 + 1 + 1, 0, none⟩) 2 2, [1, 1])] [(W8.heap.size, .cells #[.slice Ap folR.by_.length cp, .slice Bp folR.start.length dp] 49 (0, 0)), (W7.heap.size, .cells #[.slice Ar fibR.by_.length cr, .slice Br fibR.start.length dr] 49 (0, 0)), (w.heap.size + 1 + 1 + 1 + 1 + 1, .cells #[.slice (some ⟨w.heap.size + 1 + 1 + 1, 0, none⟩) 2 2, .slice (some ⟨w.heap.size + 1 + 1 + 1 + 1, 0, none⟩) 2 2] 49 (0, 0))]) := Lib.hid (hbag.out.below hB)
  clear hB
  clear hX8 hBX8
  clear hBB
  have hBB := hBB'
  clear hBB'
  obtain ⟨q0, q1, -, -⟩ := ret_cell (hbag.out.2.2 (w.heap.size + 1 + 1 + 1 + 1 + 1, .cells #[.slice (some ⟨w.heap.size + 1 + 1 + 1, 0, none⟩) 2 2, .slice (some ⟨w.heap.size + 1 + 1 + 1 + 1, 0, none⟩) 2 2] 49 (0, 0)) (by simp))
  obtain ⟨q2, q3, -, -⟩ := ret_cell (hbag.out.2.2 (W7.heap.size, .cells #[.slice Ar fibR.by_.length cr, .slice Br fibR.start.length dr] 49 (0, 0)) (by simp))
  go_wp2_with fail
  refine (Same_same fibR _ _ _ ⟨_, _, rfl, (hbag.out.2.1 (.slice Ar fibR.by_.length cr, fibR.by_) (by simp)), (hbag.out.2.1 (.slice Br fibR.start.length dr, fibR.start) (by simp))⟩ ⟨_, _, rfl, (hbag.out.2.1 (.slice (some ⟨w.heap.size + 1 + 1 + 1, 0, none⟩) 2 2, [1, 1]) (by simp)), (hbag.out.2.1 (.slice (some ⟨w.heap.size + 1 + 1 + 1 + 1, 0, none⟩) 2 2, [0, 1]) (by simp))⟩).mono ?_
  rintro e W14 ⟨rfl, hB⟩
  have hBB' := Lib.hid (Below.then_ hBB.out hB)
  replace hbag : Hid (Bag W14 [(.slice (some ⟨W10.heap.size + 1 + 1, 0, none⟩) 2 2, [[0, 1], [1, 65520]]), (.slice (some ⟨W9.heap.size + 1 + 1, 0, none⟩) 2 2, [[8, 5], [5, 3]]), (.slice (some ⟨W4.heap.size + 1 + 1, 0, none⟩) 2 2, [[1, 1], [2, 2]]), (v, [[0, 1], [1, 65520]]), (m, [[8, 5], [5, 3]]), (.slice (some ⟨w.heap.size + 1 + 1, 0, none⟩) 2 2, aA)] [(.slice (some ⟨W12.heap.size, 0, none⟩) 2 2, [0, 3]), (.slice (some ⟨W11.heap.size, 0, none⟩) 2 2, [1, 1]), (.slice (some ⟨W8.heap.size + 1 + 1 + 1 + 1, 0, none⟩) 2 2, [1, 2]), (.slice (some ⟨W8.heap.size + 1 + 1 + 1, 0, none⟩) 2 2, [1, 2]), (.slice (some ⟨W8.heap.size + 1 + 1, 0, none⟩) 1 1, [1]), (.slice (some ⟨W8.heap.size + 1, 0, none⟩) 1 1, [2]), (.slice Bp folR.start.length dp, folR.start), (.slice Ap folR.by_.length cp, folR.by_), (.slice (some ⟨W7.heap.size + 1 + 1 + 1 + 1, 0, none⟩) 1 1, [1]), (.slice (some ⟨W7.heap.size + 1 + 1 + 1, 0, none⟩) 1 1, [1]), (.slice (some ⟨W7.heap.size + 1 + 1, 0, none⟩) 1 1, [1]), (.slice (some ⟨W7.heap.size + 1, 0, none⟩) 1 1, [1]), (.slice Br fibR.start.length dr, fibR.start), (.slice Ar fibR.by_.length cr, fibR.by_), (.slice (some ⟨W6.heap.size, 0, none⟩) 8 8, [0, 1, 1, 2, 3, 5, 8, 13]), (x, [0, 3]), (.slice (some ⟨W4.heap.size + 1 + 1 + 1, 0, none⟩) 2 2, [3, 6]), (c, [1, 1]), (.slice (some ⟨w.heap.size + 1 + 1 + 1 + 1, 0, none⟩) 2 2, [0, 1]), (.slice (some ⟨w.heap.size + 1 + 1 + 1, 0, none⟩) 2 2, [1, 1])] [(W8.heap.size, .cells #[.slice Ap folR.by_.length cp, .slice Bp folR.start.length dp] 49 (0, 0)), (W7.heap.size, .cells #[.slice Ar fibR.by_.length cr, .slice Br fibR.start.length dr] 49 (0, 0)), (w.heap.size + 1 + 1 + 1 + 1 + 1, .cells #[.slice (some ⟨w.heap.size + 1 + 1 + 1, 0, none⟩) 2 2, .slice (some ⟨w.heap.size + 1 + 1 + 1 + 1, 0, none⟩) 2 2] 49 (0, 0))]) := Lib.hid (hbag.out.below hB)
  clear hB
  clear hBB
  have hBB := hBB'
  clear hBB'
  clear q0 q1 q2 q3
  obtain ⟨q0, q1, -, -⟩ := ret_cell (hbag.out.2.2 (W8.heap.size, .cells #[.slice Ap folR.by_.length cp, .slice Bp folR.start.length dp] 49 (0, 0)) (by simp))
  obtain ⟨X9, hX9, hBX9, hbag⟩ : ∃ X, ((W14.alloc (.cells #[.int .i64 2, .int .i64 65520] 3)).alloc (.cells #[.int .i64 1, .int .i64 2] 3)) = X ∧ Hid (Below w.heap.size w X) ∧ Hid (Bag X [(.slice (some ⟨W10.heap.size + 1 + 1, 0, none⟩) 2 2, [[0, 1], [1, 65520]]), (.slice (some ⟨W9.heap.size + 1 + 1, 0, none⟩) 2 2, [[8, 5], [5, 3]]), (.slice (some ⟨W4.heap.size + 1 + 1, 0, none⟩) 2 2, [[1, 1], [2, 2]]), (v, [[0, 1], [1, 65520]]), (m, [[8, 5], [5, 3]]), (.slice (some ⟨w.heap.size + 1 + 1, 0, none⟩) 2 2, aA)] [(.slice (some ⟨W14.heap.size + 1, 0, none⟩) 2 2, [1, 2]), (.slice (some ⟨W14.heap.size, 0, none⟩) 2 2, [2, 65520]), (.slice (some ⟨W12.heap.size, 0, none⟩) 2 2, [0, 3]), (.slice (some ⟨W11.heap.size, 0, none⟩) 2 2, [1, 1]), (.slice (some ⟨W8.heap.size + 1 + 1 + 1 + 1, 0, none⟩) 2 2, [1, 2]), (.slice (some ⟨W8.heap.size + 1 + 1 + 1, 0, none⟩) 2 2, [1, 2]), (.slice (some ⟨W8.heap.size + 1 + 1, 0, none⟩) 1 1, [1]), (.slice (some ⟨W8.heap.size + 1, 0, none⟩) 1 1, [2]), (.slice Bp folR.start.length dp, folR.start), (.slice Ap folR.by_.length cp, folR.by_), (.slice (some ⟨W7.heap.size + 1 + 1 + 1 + 1, 0, none⟩) 1 1, [1]), (.slice (some ⟨W7.heap.size + 1 + 1 + 1, 0, none⟩) 1 1, [1]), (.slice (some ⟨W7.heap.size + 1 + 1, 0, none⟩) 1 1, [1]), (.slice (some ⟨W7.heap.size + 1, 0, none⟩) 1 1, [1]), (.slice Br fibR.start.length dr, fibR.start), (.slice Ar fibR.by_.length cr, fibR.by_), (.slice (some ⟨W6.heap.size, 0, none⟩) 8 8, [0, 1, 1, 2, 3, 5, 8, 13]), (x, [0, 3]), (.slice (some ⟨W4.heap.size + 1 + 1 + 1, 0, none⟩) 2 2, [3, 6]), (c, [1, 1]), (.slice (some ⟨w.heap.size + 1 + 1 + 1 + 1, 0, none⟩) 2 2, [0, 1]), (.slice (some ⟨w.heap.size + 1 + 1 + 1, 0, none⟩) 2 2, [1, 1])] [(W8.heap.size, .cells #[.slice Ap folR.by_.length cp, .slice Bp folR.start.length dp] 49 (0, 0)), (W7.heap.size, .cells #[.slice Ar fibR.by_.length cr, .slice Br fibR.start.length dr] 49 (0, 0)), (w.heap.size + 1 + 1 + 1 + 1 + 1, .cells #[.slice (some ⟨w.heap.size + 1 + 1 + 1, 0, none⟩) 2 2, .slice (some ⟨w.heap.size + 1 + 1 + 1 + 1, 0, none⟩) 2 2] 49 (0, 0))]) := by
    have hg := fun i o h => allocs_get W14 [.cells #[.int .i64 2, .int .i64 65520] 3, .cells #[.int .i64 1, .int .i64 2] 3] i o h
    have hlow := allocs_below W14 [.cells #[.int .i64 2, .int .i64 65520] 3, .cells #[.int .i64 1, .int .i64 2] 3]
    have h := hbag.out.below hlow
    have h := h.addI (RdI_lit (xs := [2, 65520]) (hg 0 _ rfl) rfl (by decide))
    have h := h.addI (RdI_lit (xs := [1, 2]) (hg 1 _ rfl) rfl (by decide))
    exact ⟨_, rfl, Lib.hid (Below.then_ hBB.out hlow), Lib.hid h⟩
  replace hX9 := Lib.hid hX9
  go_wp2_with fail
  rw [hX9.out]
  refine (Same_same folR _ _ _ ⟨_, _, rfl, (hbag.out.2.1 (.slice Ap folR.by_.length cp, folR.by_) (by simp)), (hbag.out.2.1 (.slice Bp folR.start.length dp, folR.start) (by simp))⟩ ⟨_, _, rfl, (hbag.out.2.1 (.slice (some ⟨W14.heap.size, 0, none⟩) 2 2, [2, 65520]) (by simp)), (hbag.out.2.1 (.slice (some ⟨W14.heap.size + 1, 0, none⟩) 2 2, [1, 2]) (by simp))⟩).mono ?_
  rintro e W15 ⟨rfl, hB⟩
  have hBB' := Lib.hid (Below.then_ hBX9.out hB)
  replace hbag : Hid (Bag W15 [(.slice (some ⟨W10.heap.size + 1 + 1, 0, none⟩) 2 2, [[0, 1], [1, 65520]]), (.slice (some ⟨W9.heap.size + 1 + 1, 0, none⟩) 2 2, [[8, 5], [5, 3]]), (.slice (some ⟨W4.heap.size + 1 + 1, 0, none⟩) 2 2, [[1, 1], [2, 2]]), (v, [[0, 1], [1, 65520]]), (m, [[8, 5], [5, 3]]), (.slice (some ⟨w.heap.size + 1 + 1, 0, none⟩) 2 2, aA)] [(.slice (some ⟨W14.heap.size + 1, 0, none⟩) 2 2, [1, 2]), (.slice (some ⟨W14.heap.size, 0, none⟩) 2 2, [2, 65520]), (.slice (some ⟨W12.heap.size, 0, none⟩) 2 2, [0, 3]), (.slice (some ⟨W11.heap.size, 0, none⟩) 2 2, [1, 1]), (.slice (some ⟨W8.heap.size + 1 + 1 + 1 + 1, 0, none⟩) 2 2, [1, 2]), (.slice (some ⟨W8.heap.size + 1 + 1 + 1, 0, none⟩) 2 2, [1, 2]), (.slice (some ⟨W8.heap.size + 1 + 1, 0, none⟩) 1 1, [1]), (.slice (some ⟨W8.heap.size + 1, 0, none⟩) 1 1, [2]), (.slice Bp folR.start.length dp, folR.start), (.slice Ap folR.by_.length cp, folR.by_), (.slice (some ⟨W7.heap.size + 1 + 1 + 1 + 1, 0, none⟩) 1 1, [1]), (.slice (some ⟨W7.heap.size + 1 + 1 + 1, 0, none⟩) 1 1, [1]), (.slice (some ⟨W7.heap.size + 1 + 1, 0, none⟩) 1 1, [1]), (.slice (some ⟨W7.heap.size + 1, 0, none⟩) 1 1, [1]), (.slice Br fibR.start.length dr, fibR.start), (.slice Ar fibR.by_.length cr, fibR.by_), (.slice (some ⟨W6.heap.size, 0, none⟩) 8 8, [0, 1, 1, 2, 3, 5, 8, 13]), (x, [0, 3]), (.slice (some ⟨W4.heap.size + 1 + 1 + 1, 0, none⟩) 2 2, [3, 6]), (c, [1, 1]), (.slice (some ⟨w.heap.size + 1 + 1 + 1 + 1, 0, none⟩) 2 2, [0, 1]), (.slice (some ⟨w.heap.size + 1 + 1 + 1, 0, none⟩) 2 2, [1, 1])] [(W8.heap.size, .cells #[.slice Ap folR.by_.length cp, .slice Bp folR.start.length dp] 49 (0, 0)), (W7.heap.size, .cells #[.slice Ar fibR.by_.length cr, .slice Br fibR.start.length dr] 49 (0, 0)), (w.heap.size + 1 + 1 + 1 + 1 + 1, .cells #[.slice (some ⟨w.heap.size + 1 + 1 + 1, 0, none⟩) 2 2, .slice (some ⟨w.heap.size + 1 + 1 + 1 + 1, 0, none⟩) 2 2] 49 (0, 0))]) := Lib.hid (hbag.out.below hB)
  clear hB
  clear hX9 hBX9
  clear hBB
  have hBB := hBB'
  clear hBB'
  go_wp2
  go_ret
  exact ⟨rfl, hBB.out⟩
end Go.Proofs.YtfljkcmijnhgkaaDoor
