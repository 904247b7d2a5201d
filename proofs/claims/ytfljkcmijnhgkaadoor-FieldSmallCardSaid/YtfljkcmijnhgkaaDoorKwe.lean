/- The reference's Terms: its contract. Terms: its contract. -/
import Derived.Test.YtfljkcmijnhgkaaDoorKu
import Derived.Test.YtfljkcmijnhgkaaDoorKq
import Derived.Test.YtfljkcmijnhgkaaDoorKn
import Derived.Test.YtfljkcmijnhgkaaDoorKg
import Derived.Test.YtfljkcmijnhgkaaDoorKh
import Derived.Test.YtfljkcmijnhgkaaDoorKb
import Derived.Test.YtfljkcmijnhgkaaDoorKf
import Derived.Test.YtfljkcmijnhgkaaDoorKk
import Derived.Test.YtfljkcmijnhgkaaDoorKwa
import Derived.Test.YtfljkcmijnhgkaaDoorKy
import Derived.Test.YtfljkcmijnhgkaaDoorKi
import Derived.Test.YtfljkcmijnhgkaaDoorKl
namespace Go.Proofs.YtfljkcmijnhgkaaDoor
open Go.RowKit Go.Shelf
set_option linter.unusedSimpArgs false
def termsR (r : Rule) (n : Int) : Int × List Int := if rightR r ≠ 0 then (rightR r, []) else if n < 0 ∨ 64 < n then (3, []) else (0, firstL r n.toNat)
end Go.Proofs.YtfljkcmijnhgkaaDoor

namespace Go.Proofs.YtfljkcmijnhgkaaDoor
open Go.RowKit Go.Shelf
set_option linter.unusedSimpArgs false
set_option maxRecDepth 100000 in
set_option maxHeartbeats 1600000 in
theorem fieldTerms_any (r : Rule) (n : Int) (v : Value) (w : World) (h : RdR w v r) :
    Calls Tryd.prog 83 #[v, .int .i64 n] w (RowErr (termsR r n) w) := by
  have hR := Lib.hid h
  obtain ⟨a, b, rfl, ra, rb⟩ := h
  obtain ⟨A1, d1, rfl, -⟩ := ra.open_
  obtain ⟨A2, d2, rfl, -⟩ := rb.open_
  have hbx : Below w.heap.size w (w.alloc (.cells #[.slice A1 r.by_.length d1, .slice A2 r.start.length d2] 49)) := (Below.refl _ _).alloc (Nat.le_refl _) _
  have hg : (w.alloc (.cells #[.slice A1 r.by_.length d1, .slice A2 r.start.length d2] 49)).heap[w.heap.size]? = some (.cells #[.slice A1 r.by_.length d1, .slice A2 r.start.length d2] 49 (0, 0)) := heap_alloc_new _ _
  have hsz : (w.alloc (.cells #[.slice A1 r.by_.length d1, .slice A2 r.start.length d2] 49)).heap.size = w.heap.size + 1 := by simp
  have hc0 : (w.alloc (.cells #[.slice A1 r.by_.length d1, .slice A2 r.start.length d2] 49)).cell? ⟨w.heap.size, 0, none⟩ = some (.slice A1 r.by_.length d1) := by unfold World.cell?; rw [hg]; rfl
  have hc1 : (w.alloc (.cells #[.slice A1 r.by_.length d1, .slice A2 r.start.length d2] 49)).cell? ⟨w.heap.size, 1, none⟩ = some (.slice A2 r.start.length d2) := by unfold World.cell?; rw [hg]; rfl
  have hri := Lib.hid (Right_any r _ _ (hR.out.below hbx (Nat.le_refl _)))
  clear ra rb hg
  by_cases h0 : rightR r = 0
  · rw [h0] at hri
    by_cases h1 : n < 0 ∨ 64 < n
    · have hr : Hid (termsR r n = (3, [])) := Lib.hid (by rw [termsR, if_neg (by simpa using h0), if_pos h1])
      clear hR h0
      generalize r.by_.length = N1 at *
      generalize r.start.length = N2 at *
      by_cases h2 : n < 0
      all_goals
        first | (have h3 : 64 < n := by omega) | skip
        clear h1
        go_enter Tryd.func83, Tryd.ntmps83
        go_wp2_with fail
        generalize w.alloc (.cells #[.slice A1 N1 d1, .slice A2 N2 d2] 49) = X at *
        refine hri.out.mono ?_; rintro e W1 ⟨rfl, hB1⟩
        go_wp2
        go_ret2
        rw [hr.out]
        exact ⟨_, rfl, OwnI_nil _ _, Below.then_ hbx hB1⟩
    · have hr : Hid (termsR r n = (0, firstL r n.toNat)) := Lib.hid (by rw [termsR, if_neg (by simpa using h0), if_neg h1])
      obtain ⟨k, rfl⟩ := Int.eq_ofNat_of_zero_le (show 0 ≤ n by omega)
      rw [Int.toNat_natCast] at hr
      have hln := Lib.hid (fun W (hW : Below w.heap.size w W) => lined_line r A1 A2 _ _ d1 d2 W (hR.out.below hW (Nat.le_refl _)))
      have hfi := Lib.hid (fun v a b g W hL => first_any r k v a b g W h0 hL (by omega))
      have h2 : ¬ (64 : Int) < (k : Int) := by omega
      clear hR h0 h1
      generalize firstL r k = F at *
      generalize r.by_.length = N1 at *
      generalize r.start.length = N2 at *
      go_enter Tryd.func83, Tryd.ntmps83
      go_wp2_with fail
      generalize w.alloc (.cells #[.slice A1 N1 d1, .slice A2 N2 d2] 49) = X at *
      refine hri.out.mono ?_; rintro e W1 ⟨rfl, hB1⟩
      have hc2 := (hB1.cell (p := ⟨w.heap.size, 0, none⟩) (by rw [hsz]; exact Nat.lt_succ_self _)).trans hc0
      have hc3 := (hB1.cell (p := ⟨w.heap.size, 1, none⟩) (by rw [hsz]; exact Nat.lt_succ_self _)).trans hc1
      have hB2 := Below.then_ hbx hB1
      clear hri
      go_wp2_with fail
      refine (hln.out W1 hB2).mono ?_; rintro e W2 ⟨rfl, hL, hB3⟩
      have hB4 := Lib.hid (Below.then_ hB2 hB3)
      replace hL := Lib.hid hL
      clear hB3
      go_wp2_with fail
      refine (hfi.out _ _ _ _ W2 hL.out).mono ?_; rintro e W3 ⟨⟨v, rfl, hO⟩, hB5⟩
      replace hO := Lib.hid hO
      go_wp2
      go_ret2
      rw [hr.out]
      exact ⟨_, rfl, hO.out.base hB4.out.size, Below.then_ hB4.out hB5⟩
  · have hr : Hid (termsR r n = (rightR r, [])) := Lib.hid (by rw [termsR, if_pos h0])
    have hne : (rightR r != 0) = true := by rw [bne_iff_ne]; exact h0
    generalize rightR r = x at *
    clear hR h0
    generalize r.by_.length = N1 at *
    generalize r.start.length = N2 at *
    go_enter Tryd.func83, Tryd.ntmps83
    go_wp2_with fail
    generalize w.alloc (.cells #[.slice A1 N1 d1, .slice A2 N2 d2] 49) = X at *
    refine hri.out.mono ?_; rintro e W1 ⟨rfl, hB1⟩
    go_wp2
    go_ret2
    rw [hr.out]
    exact ⟨_, rfl, OwnI_nil _ _, Below.then_ hbx hB1⟩
end Go.Proofs.YtfljkcmijnhgkaaDoor
