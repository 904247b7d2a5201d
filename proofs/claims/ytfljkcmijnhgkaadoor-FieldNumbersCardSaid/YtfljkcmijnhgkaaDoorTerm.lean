/- Term, Matrix: their contracts. -/
import Derived.Test.YtfljkcmijnhgkaaDoorRight
import Derived.Test.YtfljkcmijnhgkaaDoorPub1
namespace Go.Proofs.YtfljkcmijnhgkaaDoor
open Go.RowKit Go.Shelf

def termR (r : Rule) (n : Int) : Int × Int := if rightR r ≠ 0 then (0, rightR r) else if n < 0 then (0, 3) else ((fromM r n.toNat).getD 0 0, 0)
def matR (r : Rule) : Int × List (List Int) := if rightR r ≠ 0 then (rightR r, []) else if r.by_.length = 0 then (6, []) else (0, compM r.by_)
set_option maxHeartbeats 1600000 in
theorem Term_any (r : Rule) (n : Int) (v : Value) (w : World) (hn : n ≤ 9223372036854775807) (h : RdR w v r) :
    Calls Tryd.prog 59 #[v, .int .i64 n] w fun e w' => e = .returned (.tuple #[.int .i64 (termR r n).1, .int .i64 (termR r n).2]) ∧ Below w.heap.size w w' := by
  have hR := Lib.hid h
  obtain ⟨a, b, rfl, ra, rb⟩ := h
  have hbx : Below w.heap.size w (w.alloc (.cells #[a, b] 49)) := (Below.refl _ _).alloc (Nat.le_refl _) _
  have hg : (w.alloc (.cells #[a, b] 49)).heap[w.heap.size]? = some (.cells #[a, b] 49 (0, 0)) := heap_alloc_new _ _
  have hsz : (w.alloc (.cells #[a, b] 49)).heap.size = w.heap.size + 1 := by simp
  have hc0 : (w.alloc (.cells #[a, b] 49)).cell? ⟨w.heap.size, 0, none⟩ = some a := by unfold World.cell?; rw [hg]; rfl
  have hc1 : (w.alloc (.cells #[a, b] 49)).cell? ⟨w.heap.size, 1, none⟩ = some b := by unfold World.cell?; rw [hg]; rfl
  have hri := Lib.hid (Right_any r _ _ (hR.out.below hbx (Nat.le_refl _)))
  clear ra rb hg
  by_cases h0 : rightR r = 0
  · obtain ⟨o1, o2, o3, o4⟩ := rightR_ok h0
    rw [h0] at hri
    by_cases h1 : n < 0
    · have hr : Hid (termR r n = (0, 3)) := Lib.hid (by rw [termR, if_neg (by simpa using h0), if_pos h1])
      clear hR h0
      go_enter Tryd.func59, Tryd.ntmps59
      go_wp2_with fail
      generalize w.alloc (.cells #[a, b] 49) = X at *
      refine hri.out.mono ?_; rintro e W1 ⟨rfl, hB1⟩
      go_wp2
      go_ret2
      exact ⟨by rw [hr.out]; rfl, Below.then_ hbx hB1⟩
    · have hr : Hid (termR r n = ((fromM r n.toNat).getD 0 0, 0)) := Lib.hid (by rw [termR, if_neg (by simpa using h0), if_neg h1])
      obtain ⟨k, rfl⟩ := Int.eq_ofNat_of_zero_le (show 0 ≤ n by omega)
      rw [Int.toNat_natCast] at hr
      have hf := Lib.hid (fun W (hW : Below w.heap.size w W) => from_any r k _ W (by omega) o2 o3 o4 (by omega) (hR.out.below hW (Nat.le_refl _)))
      have hfl : (fromM r k).length ≤ 12 := by
        unfold fromM
        split
        · simp
        · rename_i hd
          have := (okM_prod (okM_powMat (by omega) (okM_comp o3) k) (o2 ▸ okM_col o4) (by omega)).1
          simp only [List.length_reverse, List.length_map]; omega
      clear hR h0 o3 o4
      generalize fromM r k = F at *
      go_enter Tryd.func59, Tryd.ntmps59
      go_wp2_with fail
      generalize w.alloc (.cells #[a, b] 49) = X at *
      refine hri.out.mono ?_; rintro e W1 ⟨rfl, hB1⟩
      have hc2 := (hB1.cell (p := ⟨w.heap.size, 0, none⟩) (by rw [hsz]; exact Nat.lt_succ_self _)).trans hc0
      have hc3 := (hB1.cell (p := ⟨w.heap.size, 1, none⟩) (by rw [hsz]; exact Nat.lt_succ_self _)).trans hc1
      have hB2 := Below.then_ hbx hB1
      clear hri
      go_wp2_with fail
      refine (hf.out W1 hB2).mono ?_; rintro e W2 ⟨⟨v, rfl, hO⟩, hB3⟩
      have hB4 := Lib.hid (Below.then_ hB2 hB3)
      have hrd := hO.rd (by omega)
      obtain ⟨A, c, rfl, h1, h2, h3⟩ := hrd.open_
      replace hO := Lib.hid hO
      by_cases h4 : F.length = 0
      · have hF0 : F.getD 0 0 = 0 := by rw [List.length_eq_zero_iff.1 h4]; rfl
        rw [hF0] at hr
        clear h3 hrd hB3
        rw [h4] at *
        go_wp2
        go_ret2
        exact ⟨by rw [hr.out]; rfl, hB4.out⟩
      · obtain ⟨b0, off, rfl, hc⟩ := h3 0 (by omega)
        rw [Nat.add_zero] at hc
        have hp : (0 : Int) < (F.length : Int) := by omega
        clear h3 hrd hB3
        generalize F.getD 0 0 = x at *
        generalize F.length = l at *
        go_wp2
        go_ret2
        exact ⟨by rw [hr.out]; rfl, hB4.out⟩
  · have hr : Hid (termR r n = (0, rightR r)) := Lib.hid (by rw [termR, if_pos h0])
    have hne : (rightR r != 0) = true := by rw [bne_iff_ne]; exact h0
    have hca := Lib.hid (rightR_cases r)
    generalize rightR r = x at *
    clear hR h0
    go_enter Tryd.func59, Tryd.ntmps59
    go_wp2_with fail
    generalize w.alloc (.cells #[a, b] 49) = X at *
    refine hri.out.mono ?_; rintro e W1 ⟨rfl, hB1⟩
    go_wp2
    go_ret2
    exact ⟨by rw [hr.out]; rfl, Below.then_ hbx hB1⟩
set_option maxHeartbeats 1600000 in
theorem Matrix_any (r : Rule) (v : Value) (w : World) (h : RdR w v r) :
    Calls Tryd.prog 75 #[v] w (MatErr (matR r) w) := by
  have hR := Lib.hid h
  obtain ⟨a, b, rfl, ra, rb⟩ := h
  have hbx : Below w.heap.size w (w.alloc (.cells #[a, b] 49)) := (Below.refl _ _).alloc (Nat.le_refl _) _
  have hg : (w.alloc (.cells #[a, b] 49)).heap[w.heap.size]? = some (.cells #[a, b] 49 (0, 0)) := heap_alloc_new _ _
  have hsz : (w.alloc (.cells #[a, b] 49)).heap.size = w.heap.size + 1 := by simp
  have hc0 : (w.alloc (.cells #[a, b] 49)).cell? ⟨w.heap.size, 0, none⟩ = some a := by unfold World.cell?; rw [hg]; rfl
  have hc1 : (w.alloc (.cells #[a, b] 49)).cell? ⟨w.heap.size, 1, none⟩ = some b := by unfold World.cell?; rw [hg]; rfl
  have hri := Lib.hid (Right_any r _ _ (hR.out.below hbx (Nat.le_refl _)))
  obtain ⟨A, c, rfl, l1, l2, -⟩ := ra.open_
  clear rb hg ra
  by_cases h0 : rightR r = 0
  · obtain ⟨o1, o2, o3, o4⟩ := rightR_ok h0
    rw [h0] at hri
    have hf := Lib.hid (fun W (hW : Below w.heap.size w W) => companion_any r _ W (by omega) (hR.out.below hW (Nat.le_refl _)))
    by_cases h1 : r.by_.length = 0
    · have hr : Hid (matR r = (6, [])) := Lib.hid (by rw [matR, if_neg (by simpa using h0), if_pos h1])
      clear hR h0
      generalize r.by_.length = d at *
      subst h1
      go_enter Tryd.func75, Tryd.ntmps75
      go_wp2_with fail
      generalize w.alloc (.cells #[.slice A 0 c, b] 49) = X at *
      refine hri.out.mono ?_; rintro e W1 ⟨rfl, hB1⟩
      have hc2 := (hB1.cell (p := ⟨w.heap.size, 0, none⟩) (by rw [hsz]; exact Nat.lt_succ_self _)).trans hc0
      go_wp2
      go_ret2
      rw [hr.out]
      exact ⟨_, rfl, OwnM_nil _ _, Below.then_ hbx hB1⟩
    · have hr : Hid (matR r = (0, compM r.by_)) := Lib.hid (by rw [matR, if_neg (by simpa using h0), if_neg h1])
      have hne : ((r.by_.length : Int) == 0) = false := by rw [beq_eq_false_iff_ne]; omega
      clear hR h0 o3 o4
      generalize r.by_.length = d at *
      go_enter Tryd.func75, Tryd.ntmps75
      go_wp2_with fail
      generalize w.alloc (.cells #[.slice A d c, b] 49) = X at *
      refine hri.out.mono ?_; rintro e W1 ⟨rfl, hB1⟩
      have hc2 := (hB1.cell (p := ⟨w.heap.size, 0, none⟩) (by rw [hsz]; exact Nat.lt_succ_self _)).trans hc0
      have hc3 := (hB1.cell (p := ⟨w.heap.size, 1, none⟩) (by rw [hsz]; exact Nat.lt_succ_self _)).trans hc1
      have hB2 := Below.then_ hbx hB1
      clear hri
      go_wp2_with fail
      refine (hf.out W1 hB2).mono ?_; rintro e W2 ⟨⟨v, rfl, hO⟩, hB3⟩
      have hB4 := Lib.hid (Below.then_ hB2 hB3)
      replace hO := Lib.hid hO
      clear hB3
      go_wp2
      go_ret2
      rw [hr.out]
      exact ⟨_, rfl, hO.out.base hB2.size, hB4.out⟩
  · have hr : Hid (matR r = (rightR r, [])) := Lib.hid (by rw [matR, if_pos h0])
    have hne : (rightR r != 0) = true := by rw [bne_iff_ne]; exact h0
    have hca := Lib.hid (rightR_cases r)
    generalize rightR r = x at *
    clear hR h0
    generalize r.by_.length = d at *
    go_enter Tryd.func75, Tryd.ntmps75
    go_wp2_with fail
    generalize w.alloc (.cells #[.slice A d c, b] 49) = X at *
    refine hri.out.mono ?_; rintro e W1 ⟨rfl, hB1⟩
    go_wp2
    go_ret2
    rw [hr.out]
    exact ⟨_, rfl, OwnM_nil _ _, Below.then_ hbx hB1⟩
end Go.Proofs.YtfljkcmijnhgkaaDoor
