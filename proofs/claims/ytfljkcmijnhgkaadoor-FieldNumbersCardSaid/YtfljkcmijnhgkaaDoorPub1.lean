/- square, Mul, Power: their contracts. -/
import Derived.Test.YtfljkcmijnhgkaaDoorProd
import Derived.Test.YtfljkcmijnhgkaaDoorIs
namespace Go.Proofs.YtfljkcmijnhgkaaDoor
open Go.RowKit Go.Shelf

theorem OwnM_nil (w : World) (base : Nat) : OwnM w base (.slice none 0 0) [] := ⟨[], World.ownsRow_nil _ _ _ _, fun j r u h => by simp at h, fun i j u u' _ h => by simp at h⟩
set_option maxHeartbeats 800000 in
theorem square_any (rs : List (List Int)) (v : Value) (w : World) (h : RdM w v rs) :
    Calls Tryd.prog 98 #[v] w fun e w' => e = .returned (.int .i64 (squareM rs)) ∧ Below w.heap.size w w' := by
  have hc := Lib.hid (Check_any rs v w h)
  by_cases h0 : checkM rs = 0
  · obtain ⟨hok, h1, h2, h3, h4⟩ := checkM_ok h0
    have hs : squareM rs = if rs.length ≠ len0 rs then 7 else 0 := by rw [squareM, if_neg (by simpa using h0)]
    obtain ⟨A, c, rfl, l1, l2, l3⟩ := h.open_
    obtain ⟨b, off, u, rfl, hcell, hu⟩ := l3 0 (by omega)
    obtain ⟨A1, c1, rfl, f1, f2⟩ := hu.cell_
    change _ = some (Value.slice A1 (len0 rs) c1) at hcell
    rw [Nat.add_zero] at hcell
    have hlt : b < w.heap.size := World.block_lt_of_cell? w _ hcell
    rw [h0] at hc
    generalize rs.length = n at *
    generalize len0 rs = m at *
    clear l3 hu h hok f1 f2 h0
    have n1 : (0 : Int) < (n : Int) := by omega
    by_cases hnm : n = m
    · subst hnm
      have hs' : Hid (squareM rs = 0) := by rw [hs, if_neg (by simp)]; exact rfl
      clear hs
      go_enter Tryd.func98, Tryd.ntmps98
      go_wp2_with fail
      refine hc.out.mono ?_; rintro e W ⟨rfl, hb⟩
      have hcell' := (hb.cell (p := ⟨b, off, none⟩) hlt).trans hcell
      go_wp2
      go_ret
      exact ⟨by rw [hs'.out]; rfl, hb⟩
    · have hs' : Hid (squareM rs = 7) := by rw [hs, if_pos hnm]; exact rfl
      clear hs
      have hne : ((n : Int) != (m : Int)) = true := by rw [bne_iff_ne]; omega
      go_enter Tryd.func98, Tryd.ntmps98
      go_wp2_with fail
      refine hc.out.mono ?_; rintro e W ⟨rfl, hb⟩
      have hcell' := (hb.cell (p := ⟨b, off, none⟩) hlt).trans hcell
      go_wp2
      go_ret
      exact ⟨by rw [hs'.out]; rfl, hb⟩
  · have hs : Hid (squareM rs = checkM rs) := by unfold squareM; rw [if_pos h0]; exact rfl
    have hne : (checkM rs != 0) = true := by rw [bne_iff_ne]; exact h0
    have hca := Lib.hid (checkM_cases rs)
    generalize checkM rs = x at *
    clear h h0
    go_enter Tryd.func98, Tryd.ntmps98
    go_wp2_with fail
    refine hc.out.mono ?_; rintro e W ⟨rfl, hb⟩
    go_wp2
    go_ret
    exact ⟨by rw [hs.out]; rfl, hb⟩

/-- What Power leaves. -/
def MatErr (r : Int × List (List Int)) (w : World) (e : Ending) (w' : World) : Prop := ∃ v, e = .returned (.tuple #[v, .int .i64 r.1]) ∧ OwnM w' w.heap.size v r.2 ∧ Below w.heap.size w w'
set_option maxHeartbeats 800000 in
theorem Power_any (a : List (List Int)) (n : Int) (v : Value) (w : World) (h : RdM w v a) (hn : n ≤ 9223372036854775807) :
    Calls Tryd.prog 30 #[v, .int .i64 n] w (MatErr (powR a n) w) := by
  have hc := Lib.hid (square_any a v w h)
  by_cases h0 : squareM a = 0
  · obtain ⟨hok, h1, h2⟩ := squareM_ok h0
    rw [h0] at hc
    by_cases hneg : n < 0
    · have hr : Hid (powR a n = (3, [])) := by unfold powR; rw [if_neg (by simpa using h0), if_pos hneg]; exact rfl
      clear hok h0 h
      go_enter Tryd.func30, Tryd.ntmps30
      go_wp2_with fail
      refine hc.out.mono ?_; rintro e W ⟨rfl, hb⟩
      go_wp2
      go_ret2
      rw [hr.out]
      exact ⟨_, rfl, OwnM_nil _ _, hb⟩
    · obtain ⟨k, rfl⟩ := Int.eq_ofNat_of_zero_le (show 0 ≤ n by omega)
      have hr : Hid (powR a k = (0, powMat a k)) := by unfold powR; rw [if_neg (by simpa using h0), if_neg hneg]; exact rfl
      have hp := Lib.hid (fun W (hW : Below w.heap.size w W) => raised_any a a.length v k W hok (by omega) (by omega) (by omega) (h.below hW (Nat.le_refl _)))
      clear hok h0 h
      go_enter Tryd.func30, Tryd.ntmps30
      go_wp2_with fail
      refine hc.out.mono ?_; rintro e W ⟨rfl, hb⟩
      go_wp2_with fail
      refine (hp.out W hb).mono ?_; rintro e W2 ⟨⟨v2, rfl, ho⟩, hb2⟩
      replace ho := Lib.hid ho
      go_wp2
      go_ret2
      rw [hr.out]
      exact ⟨_, rfl, ho.out.base hb.size, Below.then_ hb hb2⟩
  · have hr : Hid (powR a n = (squareM a, [])) := by unfold powR; rw [if_pos h0]; exact rfl
    have hne : (squareM a != 0) = true := by rw [bne_iff_ne]; exact h0
    have hca := Lib.hid (squareM_cases a)
    generalize squareM a = x at *
    clear h h0
    go_enter Tryd.func30, Tryd.ntmps30
    go_wp2_with fail
    refine hc.out.mono ?_; rintro e W ⟨rfl, hb⟩
    go_wp2
    go_ret2
    rw [hr.out]
    exact ⟨_, rfl, OwnM_nil _ _, hb⟩
end Go.Proofs.YtfljkcmijnhgkaaDoor
