/- FieldSmall: its contract. -/
import Derived.Test.YtfljkcmijnhgkaaDoorKwi
import Derived.Deep.DeepCutAuto
namespace Go.Proofs.YtfljkcmijnhgkaaDoor
open Go.RowKit Go.Shelf
set_option linter.unusedSimpArgs false
set_option maxRecDepth 1000000 in
set_option maxHeartbeats 12800000 in
theorem FieldSmall_any (w : World) (hJ : Joins w) : Calls Tryd.prog 16 #[] w fun e w' => e = .returned (.bool true) ∧ Below w.heap.size w w' := by
  replace hJ := Lib.hid hJ
  obtain ⟨X0, hX0, hBX0, hbag⟩ : ∃ X, ((((((w.alloc (.cells #[.int .i64 1, .int .i64 1] 3)).alloc (.cells #[.int .i64 1, .int .i64 0] 3)).alloc (.cells #[.slice (some ⟨w.heap.size, 0, none⟩) 2 2, .slice (some ⟨w.heap.size + 1, 0, none⟩) 2 2] 23)).alloc (.cells #[.int .i64 1, .int .i64 1] 3)).alloc (.cells #[.int .i64 0, .int .i64 1] 3)).alloc (.cells #[.slice (some ⟨w.heap.size + 1 + 1 + 1, 0, none⟩) 2 2, .slice (some ⟨w.heap.size + 1 + 1 + 1 + 1, 0, none⟩) 2 2] 49)) = X ∧ Hid (Below w.heap.size w X) ∧ Hid (Bag X [(.slice (some ⟨w.heap.size + 1 + 1, 0, none⟩) 2 2, aA)] [(.slice (some ⟨w.heap.size + 1 + 1 + 1 + 1, 0, none⟩) 2 2, [0, 1]), (.slice (some ⟨w.heap.size + 1 + 1 + 1, 0, none⟩) 2 2, [1, 1])] [(w.heap.size + 1 + 1 + 1 + 1 + 1, .cells #[.slice (some ⟨w.heap.size + 1 + 1 + 1, 0, none⟩) 2 2, .slice (some ⟨w.heap.size + 1 + 1 + 1 + 1, 0, none⟩) 2 2] 49 (0, 0))]) := by
    have hg := fun i o h => allocs_get w [.cells #[.int .i64 1, .int .i64 1] 3, .cells #[.int .i64 1, .int .i64 0] 3, .cells #[.slice (some ⟨w.heap.size, 0, none⟩) 2 2, .slice (some ⟨w.heap.size + 1, 0, none⟩) 2 2] 23, .cells #[.int .i64 1, .int .i64 1] 3, .cells #[.int .i64 0, .int .i64 1] 3, .cells #[.slice (some ⟨w.heap.size + 1 + 1 + 1, 0, none⟩) 2 2, .slice (some ⟨w.heap.size + 1 + 1 + 1 + 1, 0, none⟩) 2 2] 49] i o h
    have hlow := allocs_below w [.cells #[.int .i64 1, .int .i64 1] 3, .cells #[.int .i64 1, .int .i64 0] 3, .cells #[.slice (some ⟨w.heap.size, 0, none⟩) 2 2, .slice (some ⟨w.heap.size + 1, 0, none⟩) 2 2] 23, .cells #[.int .i64 1, .int .i64 1] 3, .cells #[.int .i64 0, .int .i64 1] 3, .cells #[.slice (some ⟨w.heap.size + 1 + 1 + 1, 0, none⟩) 2 2, .slice (some ⟨w.heap.size + 1 + 1 + 1 + 1, 0, none⟩) 2 2] 49]
    have h := Bag.nil (allocs w [.cells #[.int .i64 1, .int .i64 1] 3, .cells #[.int .i64 1, .int .i64 0] 3, .cells #[.slice (some ⟨w.heap.size, 0, none⟩) 2 2, .slice (some ⟨w.heap.size + 1, 0, none⟩) 2 2] 23, .cells #[.int .i64 1, .int .i64 1] 3, .cells #[.int .i64 0, .int .i64 1] 3, .cells #[.slice (some ⟨w.heap.size + 1 + 1 + 1, 0, none⟩) 2 2, .slice (some ⟨w.heap.size + 1 + 1 + 1 + 1, 0, none⟩) 2 2] 49])
    have h := h.addM (RdM_lit2 (hg 2 _ rfl) (RdI_lit (xs := [1, 1]) (hg 0 _ rfl) rfl (by decide)) (RdI_lit (xs := [1, 0]) (hg 1 _ rfl) rfl (by decide)))
    have h := h.addI (RdI_lit (xs := [1, 1]) (hg 3 _ rfl) rfl (by decide))
    have h := h.addI (RdI_lit (xs := [0, 1]) (hg 4 _ rfl) rfl (by decide))
    have h := h.addB (hg 5 _ rfl)
    exact ⟨_, rfl, Lib.hid (hlow), Lib.hid h⟩
  replace hX0 := Lib.hid hX0
  go_enter Tryd.func16, Tryd.ntmps16
  go_wp2_with fail
  rw [hX0.out]
  refine (sm_inv s_inv _).mono ?_
  rintro e W1 ⟨rfl, hB⟩
  have hBB' := Lib.hid (Below.then_ hBX0.out hB)
  replace hbag : Hid (Bag W1 [(.slice (some ⟨w.heap.size + 1 + 1, 0, none⟩) 2 2, aA)] [(.slice (some ⟨w.heap.size + 1 + 1 + 1 + 1, 0, none⟩) 2 2, [0, 1]), (.slice (some ⟨w.heap.size + 1 + 1 + 1, 0, none⟩) 2 2, [1, 1])] [(w.heap.size + 1 + 1 + 1 + 1 + 1, .cells #[.slice (some ⟨w.heap.size + 1 + 1 + 1, 0, none⟩) 2 2, .slice (some ⟨w.heap.size + 1 + 1 + 1 + 1, 0, none⟩) 2 2] 49 (0, 0))]) := Lib.hid (hbag.out.below hB)
  clear hB
  clear hX0 hBX0
  have hBB := hBB'
  clear hBB'
  go_wp2_with fail
  refine (sm_pow s_pow (by decide) _).mono ?_
  rintro e W2 ⟨rfl, hB⟩
  have hBB' := Lib.hid (Below.then_ hBB.out hB)
  replace hbag : Hid (Bag W2 [(.slice (some ⟨w.heap.size + 1 + 1, 0, none⟩) 2 2, aA)] [(.slice (some ⟨w.heap.size + 1 + 1 + 1 + 1, 0, none⟩) 2 2, [0, 1]), (.slice (some ⟨w.heap.size + 1 + 1 + 1, 0, none⟩) 2 2, [1, 1])] [(w.heap.size + 1 + 1 + 1 + 1 + 1, .cells #[.slice (some ⟨w.heap.size + 1 + 1 + 1, 0, none⟩) 2 2, .slice (some ⟨w.heap.size + 1 + 1 + 1 + 1, 0, none⟩) 2 2] 49 (0, 0))]) := Lib.hid (hbag.out.below hB)
  clear hB
  clear hBB
  have hBB := hBB'
  clear hBB'
  go_wp2_with fail
  refine (sm_rank s_rank _ _ (hbag.out.1 (.slice (some ⟨w.heap.size + 1 + 1, 0, none⟩) 2 2, aA) (by simp))).mono ?_
  rintro e W3 ⟨rfl, hB⟩
  have hBB' := Lib.hid (Below.then_ hBB.out hB)
  replace hbag : Hid (Bag W3 [(.slice (some ⟨w.heap.size + 1 + 1, 0, none⟩) 2 2, aA)] [(.slice (some ⟨w.heap.size + 1 + 1 + 1 + 1, 0, none⟩) 2 2, [0, 1]), (.slice (some ⟨w.heap.size + 1 + 1 + 1, 0, none⟩) 2 2, [1, 1])] [(w.heap.size + 1 + 1 + 1 + 1 + 1, .cells #[.slice (some ⟨w.heap.size + 1 + 1 + 1, 0, none⟩) 2 2, .slice (some ⟨w.heap.size + 1 + 1 + 1 + 1, 0, none⟩) 2 2] 49 (0, 0))]) := Lib.hid (hbag.out.below hB)
  clear hB
  clear hBB
  have hBB := hBB'
  clear hBB'
  obtain ⟨q0, q1, -, -⟩ := ret_cell (hbag.out.2.2 (w.heap.size + 1 + 1 + 1 + 1 + 1, .cells #[.slice (some ⟨w.heap.size + 1 + 1 + 1, 0, none⟩) 2 2, .slice (some ⟨w.heap.size + 1 + 1 + 1 + 1, 0, none⟩) 2 2] 49 (0, 0)) (by simp))
  go_wp2_with fail
  refine (sm_terms s_terms (by decide) _ _ ⟨_, _, rfl, (hbag.out.2.1 (.slice (some ⟨w.heap.size + 1 + 1 + 1, 0, none⟩) 2 2, [1, 1]) (by simp)), (hbag.out.2.1 (.slice (some ⟨w.heap.size + 1 + 1 + 1 + 1, 0, none⟩) 2 2, [0, 1]) (by simp))⟩).mono ?_
  rintro e W4 ⟨tl, rfl, hm, hB⟩
  have hBB' := Lib.hid (Below.then_ hBB.out hB)
  replace hbag : Hid (Bag W4 [(.slice (some ⟨w.heap.size + 1 + 1, 0, none⟩) 2 2, aA)] [(tl, [0, 1, 1, 2, 3, 5, 8, 13]), (.slice (some ⟨w.heap.size + 1 + 1 + 1 + 1, 0, none⟩) 2 2, [0, 1]), (.slice (some ⟨w.heap.size + 1 + 1 + 1, 0, none⟩) 2 2, [1, 1])] [(w.heap.size + 1 + 1 + 1 + 1 + 1, .cells #[.slice (some ⟨w.heap.size + 1 + 1 + 1, 0, none⟩) 2 2, .slice (some ⟨w.heap.size + 1 + 1 + 1 + 1, 0, none⟩) 2 2] 49 (0, 0))]) := Lib.hid ((hbag.out.below hB).addI hm)
  clear hB hm
  clear hBB
  have hBB := hBB'
  clear hBB'
  clear q0 q1
  obtain ⟨q0, q1, -, -⟩ := ret_cell (hbag.out.2.2 (w.heap.size + 1 + 1 + 1 + 1 + 1, .cells #[.slice (some ⟨w.heap.size + 1 + 1 + 1, 0, none⟩) 2 2, .slice (some ⟨w.heap.size + 1 + 1 + 1 + 1, 0, none⟩) 2 2] 49 (0, 0)) (by simp))
  go_wp2_with fail
  refine (sm_term s_term (by decide) _ _ ⟨_, _, rfl, (hbag.out.2.1 (.slice (some ⟨w.heap.size + 1 + 1 + 1, 0, none⟩) 2 2, [1, 1]) (by simp)), (hbag.out.2.1 (.slice (some ⟨w.heap.size + 1 + 1 + 1 + 1, 0, none⟩) 2 2, [0, 1]) (by simp))⟩).mono ?_
  rintro e W5 ⟨rfl, hB⟩
  have hBB' := Lib.hid (Below.then_ hBB.out hB)
  replace hbag : Hid (Bag W5 [(.slice (some ⟨w.heap.size + 1 + 1, 0, none⟩) 2 2, aA)] [(tl, [0, 1, 1, 2, 3, 5, 8, 13]), (.slice (some ⟨w.heap.size + 1 + 1 + 1 + 1, 0, none⟩) 2 2, [0, 1]), (.slice (some ⟨w.heap.size + 1 + 1 + 1, 0, none⟩) 2 2, [1, 1])] [(w.heap.size + 1 + 1 + 1 + 1 + 1, .cells #[.slice (some ⟨w.heap.size + 1 + 1 + 1, 0, none⟩) 2 2, .slice (some ⟨w.heap.size + 1 + 1 + 1 + 1, 0, none⟩) 2 2] 49 (0, 0))]) := Lib.hid (hbag.out.below hB)
  clear hB
  clear hBB
  have hBB := hBB'
  clear hBB'
  clear q0 q1
  obtain ⟨q0, q1, -, -⟩ := ret_cell (hbag.out.2.2 (w.heap.size + 1 + 1 + 1 + 1 + 1, .cells #[.slice (some ⟨w.heap.size + 1 + 1 + 1, 0, none⟩) 2 2, .slice (some ⟨w.heap.size + 1 + 1 + 1 + 1, 0, none⟩) 2 2] 49 (0, 0)) (by simp))
  go_wp2_with fail
  refine (sm_from s_from (by decide) (by decide) (by decide) _ _ ⟨_, _, rfl, (hbag.out.2.1 (.slice (some ⟨w.heap.size + 1 + 1 + 1, 0, none⟩) 2 2, [1, 1]) (by simp)), (hbag.out.2.1 (.slice (some ⟨w.heap.size + 1 + 1 + 1 + 1, 0, none⟩) 2 2, [0, 1]) (by simp))⟩).mono ?_
  rintro e W6 ⟨m, rfl, ⟨Af, cf, Bf, df, rfl, ra, rb⟩, hB⟩
  have hBB' := Lib.hid (Below.then_ hBB.out hB)
  replace hbag : Hid (Bag W6 [(.slice (some ⟨w.heap.size + 1 + 1, 0, none⟩) 2 2, aA)] [(.slice Bf f3R.start.length df, f3R.start), (.slice Af f3R.by_.length cf, f3R.by_), (tl, [0, 1, 1, 2, 3, 5, 8, 13]), (.slice (some ⟨w.heap.size + 1 + 1 + 1 + 1, 0, none⟩) 2 2, [0, 1]), (.slice (some ⟨w.heap.size + 1 + 1 + 1, 0, none⟩) 2 2, [1, 1])] [(w.heap.size + 1 + 1 + 1 + 1 + 1, .cells #[.slice (some ⟨w.heap.size + 1 + 1 + 1, 0, none⟩) 2 2, .slice (some ⟨w.heap.size + 1 + 1 + 1 + 1, 0, none⟩) 2 2] 49 (0, 0))]) := Lib.hid (((hbag.out.below hB).addI ra).addI rb)
  clear hB ra rb
  clear hBB
  have hBB := hBB'
  clear hBB'
  clear q0 q1
  obtain ⟨X1, hX1, hBX1, hbag⟩ : ∃ X, (W6.alloc (.cells #[.slice Af f3R.by_.length cf, .slice Bf f3R.start.length df] 49)) = X ∧ Hid (Below w.heap.size w X) ∧ Hid (Bag X [(.slice (some ⟨w.heap.size + 1 + 1, 0, none⟩) 2 2, aA)] [(.slice Bf f3R.start.length df, f3R.start), (.slice Af f3R.by_.length cf, f3R.by_), (tl, [0, 1, 1, 2, 3, 5, 8, 13]), (.slice (some ⟨w.heap.size + 1 + 1 + 1 + 1, 0, none⟩) 2 2, [0, 1]), (.slice (some ⟨w.heap.size + 1 + 1 + 1, 0, none⟩) 2 2, [1, 1])] [(W6.heap.size, .cells #[.slice Af f3R.by_.length cf, .slice Bf f3R.start.length df] 49 (0, 0)), (w.heap.size + 1 + 1 + 1 + 1 + 1, .cells #[.slice (some ⟨w.heap.size + 1 + 1 + 1, 0, none⟩) 2 2, .slice (some ⟨w.heap.size + 1 + 1 + 1 + 1, 0, none⟩) 2 2] 49 (0, 0))]) := by
    have hg := fun i o h => allocs_get W6 [.cells #[.slice Af f3R.by_.length cf, .slice Bf f3R.start.length df] 49] i o h
    have hlow := allocs_below W6 [.cells #[.slice Af f3R.by_.length cf, .slice Bf f3R.start.length df] 49]
    have h := hbag.out.below hlow
    have h := h.addB (hg 0 _ rfl)
    exact ⟨_, rfl, Lib.hid (Below.then_ hBB.out hlow), Lib.hid h⟩
  replace hX1 := Lib.hid hX1
  obtain ⟨q0, q1, -, -⟩ := ret_cell (hbag.out.2.2 (w.heap.size + 1 + 1 + 1 + 1 + 1, .cells #[.slice (some ⟨w.heap.size + 1 + 1 + 1, 0, none⟩) 2 2, .slice (some ⟨w.heap.size + 1 + 1 + 1 + 1, 0, none⟩) 2 2] 49 (0, 0)) (by simp))
  rw [← hX1.out] at q0 q1
  go_wp2_with fail
  rw [hX1.out]
  refine (sm_matrix s_matrix (by decide) (by decide) _ _ ⟨_, _, rfl, (hbag.out.2.1 (.slice (some ⟨w.heap.size + 1 + 1 + 1, 0, none⟩) 2 2, [1, 1]) (by simp)), (hbag.out.2.1 (.slice (some ⟨w.heap.size + 1 + 1 + 1 + 1, 0, none⟩) 2 2, [0, 1]) (by simp))⟩).mono ?_
  rintro e W7 ⟨mm, rfl, hm, hB⟩
  have hBB' := Lib.hid (Below.then_ hBX1.out hB)
  replace hbag : Hid (Bag W7 [(mm, aA), (.slice (some ⟨w.heap.size + 1 + 1, 0, none⟩) 2 2, aA)] [(.slice Bf f3R.start.length df, f3R.start), (.slice Af f3R.by_.length cf, f3R.by_), (tl, [0, 1, 1, 2, 3, 5, 8, 13]), (.slice (some ⟨w.heap.size + 1 + 1 + 1 + 1, 0, none⟩) 2 2, [0, 1]), (.slice (some ⟨w.heap.size + 1 + 1 + 1, 0, none⟩) 2 2, [1, 1])] [(W6.heap.size, .cells #[.slice Af f3R.by_.length cf, .slice Bf f3R.start.length df] 49 (0, 0)), (w.heap.size + 1 + 1 + 1 + 1 + 1, .cells #[.slice (some ⟨w.heap.size + 1 + 1 + 1, 0, none⟩) 2 2, .slice (some ⟨w.heap.size + 1 + 1 + 1 + 1, 0, none⟩) 2 2] 49 (0, 0))]) := Lib.hid ((hbag.out.below hB).addM hm)
  clear hB hm
  clear hX1 hBX1
  clear hBB
  have hBB := hBB'
  clear hBB'
  clear q0 q1
  obtain ⟨q0, q1, -, -⟩ := ret_cell (hbag.out.2.2 (W6.heap.size, .cells #[.slice Af f3R.by_.length cf, .slice Bf f3R.start.length df] 49 (0, 0)) (by simp))
  obtain ⟨X2, hX2, hBX2, hbag⟩ : ∃ X, (W7.alloc (.cells #[.int .i64 0, .int .i64 1, .int .i64 1, .int .i64 2, .int .i64 3, .int .i64 5, .int .i64 8, .int .i64 13] 3)) = X ∧ Hid (Below w.heap.size w X) ∧ Hid (Bag X [(mm, aA), (.slice (some ⟨w.heap.size + 1 + 1, 0, none⟩) 2 2, aA)] [(.slice (some ⟨W7.heap.size, 0, none⟩) 8 8, [0, 1, 1, 2, 3, 5, 8, 13]), (.slice Bf f3R.start.length df, f3R.start), (.slice Af f3R.by_.length cf, f3R.by_), (tl, [0, 1, 1, 2, 3, 5, 8, 13]), (.slice (some ⟨w.heap.size + 1 + 1 + 1 + 1, 0, none⟩) 2 2, [0, 1]), (.slice (some ⟨w.heap.size + 1 + 1 + 1, 0, none⟩) 2 2, [1, 1])] [(W6.heap.size, .cells #[.slice Af f3R.by_.length cf, .slice Bf f3R.start.length df] 49 (0, 0)), (w.heap.size + 1 + 1 + 1 + 1 + 1, .cells #[.slice (some ⟨w.heap.size + 1 + 1 + 1, 0, none⟩) 2 2, .slice (some ⟨w.heap.size + 1 + 1 + 1 + 1, 0, none⟩) 2 2] 49 (0, 0))]) := by
    have hg := fun i o h => allocs_get W7 [.cells #[.int .i64 0, .int .i64 1, .int .i64 1, .int .i64 2, .int .i64 3, .int .i64 5, .int .i64 8, .int .i64 13] 3] i o h
    have hlow := allocs_below W7 [.cells #[.int .i64 0, .int .i64 1, .int .i64 1, .int .i64 2, .int .i64 3, .int .i64 5, .int .i64 8, .int .i64 13] 3]
    have h := hbag.out.below hlow
    have h := h.addI (RdI_lit (xs := [0, 1, 1, 2, 3, 5, 8, 13]) (hg 0 _ rfl) rfl (by decide))
    exact ⟨_, rfl, Lib.hid (Below.then_ hBB.out hlow), Lib.hid h⟩
  replace hX2 := Lib.hid hX2
  go_wp2_with fail
  rw [hX2.out]
  refine (Equal_same _ _ _ _ (hbag.out.2.1 (tl, [0, 1, 1, 2, 3, 5, 8, 13]) (by simp)) (hbag.out.2.1 (.slice (some ⟨W7.heap.size, 0, none⟩) 8 8, [0, 1, 1, 2, 3, 5, 8, 13]) (by simp))).mono ?_
  rintro e W8 ⟨rfl, hB⟩
  have hBB' := Lib.hid (Below.then_ hBX2.out hB)
  replace hbag : Hid (Bag W8 [(mm, aA), (.slice (some ⟨w.heap.size + 1 + 1, 0, none⟩) 2 2, aA)] [(.slice (some ⟨W7.heap.size, 0, none⟩) 8 8, [0, 1, 1, 2, 3, 5, 8, 13]), (.slice Bf f3R.start.length df, f3R.start), (.slice Af f3R.by_.length cf, f3R.by_), (tl, [0, 1, 1, 2, 3, 5, 8, 13]), (.slice (some ⟨w.heap.size + 1 + 1 + 1 + 1, 0, none⟩) 2 2, [0, 1]), (.slice (some ⟨w.heap.size + 1 + 1 + 1, 0, none⟩) 2 2, [1, 1])] [(W6.heap.size, .cells #[.slice Af f3R.by_.length cf, .slice Bf f3R.start.length df] 49 (0, 0)), (w.heap.size + 1 + 1 + 1 + 1 + 1, .cells #[.slice (some ⟨w.heap.size + 1 + 1 + 1, 0, none⟩) 2 2, .slice (some ⟨w.heap.size + 1 + 1 + 1 + 1, 0, none⟩) 2 2] 49 (0, 0))]) := Lib.hid (hbag.out.below hB)
  clear hB
  clear hX2 hBX2
  clear hBB
  have hBB := hBB'
  clear hBB'
  clear q0 q1
  obtain ⟨q0, q1, -, -⟩ := ret_cell (hbag.out.2.2 (W6.heap.size, .cells #[.slice Af f3R.by_.length cf, .slice Bf f3R.start.length df] 49 (0, 0)) (by simp))
  obtain ⟨X3, hX3, hBX3, hbag⟩ : ∃ X, (W8.alloc (.cells #[.int .i64 1, .int .i64 1] 3)) = X ∧ Hid (Below w.heap.size w X) ∧ Hid (Bag X [(mm, aA), (.slice (some ⟨w.heap.size + 1 + 1, 0, none⟩) 2 2, aA)] [(.slice (some ⟨W8.heap.size, 0, none⟩) 2 2, [1, 1]), (.slice (some ⟨W7.heap.size, 0, none⟩) 8 8, [0, 1, 1, 2, 3, 5, 8, 13]), (.slice Bf f3R.start.length df, f3R.start), (.slice Af f3R.by_.length cf, f3R.by_), (tl, [0, 1, 1, 2, 3, 5, 8, 13]), (.slice (some ⟨w.heap.size + 1 + 1 + 1 + 1, 0, none⟩) 2 2, [0, 1]), (.slice (some ⟨w.heap.size + 1 + 1 + 1, 0, none⟩) 2 2, [1, 1])] [(W6.heap.size, .cells #[.slice Af f3R.by_.length cf, .slice Bf f3R.start.length df] 49 (0, 0)), (w.heap.size + 1 + 1 + 1 + 1 + 1, .cells #[.slice (some ⟨w.heap.size + 1 + 1 + 1, 0, none⟩) 2 2, .slice (some ⟨w.heap.size + 1 + 1 + 1 + 1, 0, none⟩) 2 2] 49 (0, 0))]) := by
    have hg := fun i o h => allocs_get W8 [.cells #[.int .i64 1, .int .i64 1] 3] i o h
    have hlow := allocs_below W8 [.cells #[.int .i64 1, .int .i64 1] 3]
    have h := hbag.out.below hlow
    have h := h.addI (RdI_lit (xs := [1, 1]) (hg 0 _ rfl) rfl (by decide))
    exact ⟨_, rfl, Lib.hid (Below.then_ hBB.out hlow), Lib.hid h⟩
  replace hX3 := Lib.hid hX3
  go_wp2_with fail
  rw [hX3.out]
  refine (Equal_same _ _ _ _ (hbag.out.2.1 (.slice Af f3R.by_.length cf, f3R.by_) (by simp)) (hbag.out.2.1 (.slice (some ⟨W8.heap.size, 0, none⟩) 2 2, [1, 1]) (by simp))).mono ?_
  rintro e W9 ⟨rfl, hB⟩
  have hBB' := Lib.hid (Below.then_ hBX3.out hB)
  replace hbag : Hid (Bag W9 [(mm, aA), (.slice (some ⟨w.heap.size + 1 + 1, 0, none⟩) 2 2, aA)] [(.slice (some ⟨W8.heap.size, 0, none⟩) 2 2, [1, 1]), (.slice (some ⟨W7.heap.size, 0, none⟩) 8 8, [0, 1, 1, 2, 3, 5, 8, 13]), (.slice Bf f3R.start.length df, f3R.start), (.slice Af f3R.by_.length cf, f3R.by_), (tl, [0, 1, 1, 2, 3, 5, 8, 13]), (.slice (some ⟨w.heap.size + 1 + 1 + 1 + 1, 0, none⟩) 2 2, [0, 1]), (.slice (some ⟨w.heap.size + 1 + 1 + 1, 0, none⟩) 2 2, [1, 1])] [(W6.heap.size, .cells #[.slice Af f3R.by_.length cf, .slice Bf f3R.start.length df] 49 (0, 0)), (w.heap.size + 1 + 1 + 1 + 1 + 1, .cells #[.slice (some ⟨w.heap.size + 1 + 1 + 1, 0, none⟩) 2 2, .slice (some ⟨w.heap.size + 1 + 1 + 1 + 1, 0, none⟩) 2 2] 49 (0, 0))]) := Lib.hid (hbag.out.below hB)
  clear hB
  clear hX3 hBX3
  clear hBB
  have hBB := hBB'
  clear hBB'
  clear q0 q1
  obtain ⟨q0, q1, -, -⟩ := ret_cell (hbag.out.2.2 (W6.heap.size, .cells #[.slice Af f3R.by_.length cf, .slice Bf f3R.start.length df] 49 (0, 0)) (by simp))
  obtain ⟨X4, hX4, hBX4, hbag⟩ : ∃ X, (W9.alloc (.cells #[.int .i64 2, .int .i64 3] 3)) = X ∧ Hid (Below w.heap.size w X) ∧ Hid (Bag X [(mm, aA), (.slice (some ⟨w.heap.size + 1 + 1, 0, none⟩) 2 2, aA)] [(.slice (some ⟨W9.heap.size, 0, none⟩) 2 2, [2, 3]), (.slice (some ⟨W8.heap.size, 0, none⟩) 2 2, [1, 1]), (.slice (some ⟨W7.heap.size, 0, none⟩) 8 8, [0, 1, 1, 2, 3, 5, 8, 13]), (.slice Bf f3R.start.length df, f3R.start), (.slice Af f3R.by_.length cf, f3R.by_), (tl, [0, 1, 1, 2, 3, 5, 8, 13]), (.slice (some ⟨w.heap.size + 1 + 1 + 1 + 1, 0, none⟩) 2 2, [0, 1]), (.slice (some ⟨w.heap.size + 1 + 1 + 1, 0, none⟩) 2 2, [1, 1])] [(W6.heap.size, .cells #[.slice Af f3R.by_.length cf, .slice Bf f3R.start.length df] 49 (0, 0)), (w.heap.size + 1 + 1 + 1 + 1 + 1, .cells #[.slice (some ⟨w.heap.size + 1 + 1 + 1, 0, none⟩) 2 2, .slice (some ⟨w.heap.size + 1 + 1 + 1 + 1, 0, none⟩) 2 2] 49 (0, 0))]) := by
    have hg := fun i o h => allocs_get W9 [.cells #[.int .i64 2, .int .i64 3] 3] i o h
    have hlow := allocs_below W9 [.cells #[.int .i64 2, .int .i64 3] 3]
    have h := hbag.out.below hlow
    have h := h.addI (RdI_lit (xs := [2, 3]) (hg 0 _ rfl) rfl (by decide))
    exact ⟨_, rfl, Lib.hid (Below.then_ hBB.out hlow), Lib.hid h⟩
  replace hX4 := Lib.hid hX4
  go_wp2_with fail
  rw [hX4.out]
  refine (Equal_same _ _ _ _ (hbag.out.2.1 (.slice Bf f3R.start.length df, f3R.start) (by simp)) (hbag.out.2.1 (.slice (some ⟨W9.heap.size, 0, none⟩) 2 2, [2, 3]) (by simp))).mono ?_
  rintro e W10 ⟨rfl, hB⟩
  have hBB' := Lib.hid (Below.then_ hBX4.out hB)
  replace hbag : Hid (Bag W10 [(mm, aA), (.slice (some ⟨w.heap.size + 1 + 1, 0, none⟩) 2 2, aA)] [(.slice (some ⟨W9.heap.size, 0, none⟩) 2 2, [2, 3]), (.slice (some ⟨W8.heap.size, 0, none⟩) 2 2, [1, 1]), (.slice (some ⟨W7.heap.size, 0, none⟩) 8 8, [0, 1, 1, 2, 3, 5, 8, 13]), (.slice Bf f3R.start.length df, f3R.start), (.slice Af f3R.by_.length cf, f3R.by_), (tl, [0, 1, 1, 2, 3, 5, 8, 13]), (.slice (some ⟨w.heap.size + 1 + 1 + 1 + 1, 0, none⟩) 2 2, [0, 1]), (.slice (some ⟨w.heap.size + 1 + 1 + 1, 0, none⟩) 2 2, [1, 1])] [(W6.heap.size, .cells #[.slice Af f3R.by_.length cf, .slice Bf f3R.start.length df] 49 (0, 0)), (w.heap.size + 1 + 1 + 1 + 1 + 1, .cells #[.slice (some ⟨w.heap.size + 1 + 1 + 1, 0, none⟩) 2 2, .slice (some ⟨w.heap.size + 1 + 1 + 1 + 1, 0, none⟩) 2 2] 49 (0, 0))]) := Lib.hid (hbag.out.below hB)
  clear hB
  clear hX4 hBX4
  clear hBB
  have hBB := hBB'
  clear hBB'
  clear q0 q1
  go_wp2_with fail
  refine (EqRows_same _ _ _ _ (hbag.out.1 (mm, aA) (by simp)) (hbag.out.1 (.slice (some ⟨w.heap.size + 1 + 1, 0, none⟩) 2 2, aA) (by simp))).mono ?_
  rintro e W11 ⟨rfl, hB⟩
  have hBB' := Lib.hid (Below.then_ hBB.out hB)
  replace hbag : Hid (Bag W11 [(mm, aA), (.slice (some ⟨w.heap.size + 1 + 1, 0, none⟩) 2 2, aA)] [(.slice (some ⟨W9.heap.size, 0, none⟩) 2 2, [2, 3]), (.slice (some ⟨W8.heap.size, 0, none⟩) 2 2, [1, 1]), (.slice (some ⟨W7.heap.size, 0, none⟩) 8 8, [0, 1, 1, 2, 3, 5, 8, 13]), (.slice Bf f3R.start.length df, f3R.start), (.slice Af f3R.by_.length cf, f3R.by_), (tl, [0, 1, 1, 2, 3, 5, 8, 13]), (.slice (some ⟨w.heap.size + 1 + 1 + 1 + 1, 0, none⟩) 2 2, [0, 1]), (.slice (some ⟨w.heap.size + 1 + 1 + 1, 0, none⟩) 2 2, [1, 1])] [(W6.heap.size, .cells #[.slice Af f3R.by_.length cf, .slice Bf f3R.start.length df] 49 (0, 0)), (w.heap.size + 1 + 1 + 1 + 1 + 1, .cells #[.slice (some ⟨w.heap.size + 1 + 1 + 1, 0, none⟩) 2 2, .slice (some ⟨w.heap.size + 1 + 1 + 1 + 1, 0, none⟩) 2 2] 49 (0, 0))]) := Lib.hid (hbag.out.below hB)
  clear hB
  clear hBB
  have hBB := hBB'
  clear hBB'
  go_upto_if 149 with fail
  go_cut [] (fun wx => wx = W11)
  case first =>
    go_wp2
    go_meet
    rfl
  case rest =>
  obtain rfl := hcut.symm
  have hfin := ((((Bag.nil W11).addI (hbag.out.2.1 (.slice (some ⟨w.heap.size + 1 + 1 + 1 + 1, 0, none⟩) 2 2, [0, 1]) (by simp))).addI (hbag.out.2.1 (.slice (some ⟨w.heap.size + 1 + 1 + 1, 0, none⟩) 2 2, [1, 1]) (by simp))).addM (hbag.out.1 (.slice (some ⟨w.heap.size + 1 + 1, 0, none⟩) 2 2, aA) (by simp))).addB (hbag.out.2.2 (w.heap.size + 1 + 1 + 1 + 1 + 1, .cells #[.slice (some ⟨w.heap.size + 1 + 1 + 1, 0, none⟩) 2 2, .slice (some ⟨w.heap.size + 1 + 1 + 1 + 1, 0, none⟩) 2 2] 49 (0, 0)) (by simp))
  rename (∀ (a : Act) (w : World), Code.wp _ _ _ a w → _) => hK
  refine hK _ _ ?_
  exact sm_tail12 _ _ _ _ _ _ w W11 hBB hJ (Lib.hid hfin)
end Go.Proofs.YtfljkcmijnhgkaaDoor
