/- EqRows: its contract. -/
import Derived.Test.YtfljkcmijnhgkaaDoorEq
namespace Go.Proofs.YtfljkcmijnhgkaaDoor
open Go.RowKit Go.Shelf

theorem ext_getR {xs ys : List (List Int)} (hl : xs.length = ys.length) (h : ∀ j, j < xs.length → xs.getD j [] = ys.getD j []) : xs = ys := by
  apply List.ext_getElem hl
  intro j h1 h2
  have := h j h1
  rwa [List.getD_eq_getElem?_getD, List.getD_eq_getElem?_getD, List.getElem?_eq_getElem h1, List.getElem?_eq_getElem h2] at this
set_option maxRecDepth 100000 in
set_option maxHeartbeats 800000 in
theorem EqualFunc_any (xs ys : List (List Int)) (v u : Value) (w : World) (hx : RdM w v xs) (hy : RdM w u ys) :
    Calls Tryd.prog 95 #[v, u, .func (.func 96) #[] #[]] w fun e w' => e = .returned (.bool (decide (xs = ys))) ∧ Below w.heap.size w w' := by
  have eg : ∀ args w, (callFunc 96 args).run Tryd.prog w = .ok (.enter 96 args) w := enters_of Tryd.func96 (by kernel_rfl) rfl
  obtain ⟨A, c, rfl, h1, h2, h3⟩ := hx.open_
  obtain ⟨B, d, rfl, g1, g2, g3⟩ := hy.open_
  by_cases hl : xs.length = ys.length
  · have hlen := Lib.hid hl
    replace h3 := Lib.hid h3
    replace g3 := Lib.hid g3
    clear hx hy
    rw [← hl] at g1 g2 g3 ⊢
    generalize hn : xs.length = n at *
    replace hn := Lib.hid hn
    clear hl
    go_enter Tryd.func95, Tryd.ntmps95
    go_wp2
    go_loopw [17] (fun i wr => ∃ k : Nat, k ≤ n ∧ i = .int .i64 k ∧ Hid (Below w.heap.size w wr) ∧ Hid (∀ j, j < k → xs.getD j [] = ys.getD j [])) (fun i _ => n - (intOf i).toNat)
    case atStart => exact ⟨0, Nat.zero_le _, rfl, Lib.hid (Below.refl _ _), Lib.hid (fun j hj => by omega)⟩
    case round =>
      obtain ⟨k, hk, rfl, hB, hE⟩ := hrel
      by_cases hlt : k < n
      · obtain ⟨b0, off, u0, rfl, hc, hu0⟩ := h3.out k hlt
        obtain ⟨b1, off1, u1, rfl, hc1, hu1⟩ := g3.out k hlt
        replace hc := (hB.out.cell (p := ⟨b0, off + k, none⟩) (World.block_lt_of_cell? w _ hc)).trans hc
        replace hc1 := (hB.out.cell (p := ⟨b1, off1 + k, none⟩) (World.block_lt_of_cell? w _ hc1)).trans hc1
        have k1 : (k : Int) < (n : Int) := by omega
        have k0 : (0 : Int) ≤ (k : Int) := by omega
        have hcall := Lib.hid (EqRows_1 _ _ u0 u1 wr (hu0.below hB.out (Nat.le_refl _)) (hu1.below hB.out (Nat.le_refl _)))
        clear hu0 hu1
        by_cases he : xs.getD k [] = ys.getD k []
        · have hE2 : Hid (∀ j, j < k + 1 → xs.getD j [] = ys.getD j []) := Lib.hid (fun j hj => by
            by_cases e : j = k
            · rw [e]; exact he
            · exact hE.out j (by omega))
          rw [decide_eq_true he] at hcall
          replace he := Lib.hid he
          go_wp2_with fail
          refine hcall.out.mono ?_; rintro e W1 ⟨rfl, hB1⟩
          have hB2 := Lib.hid (Below.then_ hB.out hB1)
          go_wp2
          go_roundw
          case rel => exact ⟨k + 1, by omega, by go_num, hB2, hE2⟩
          case measure => simp [intOf]; omega
        · have hr : Hid (decide (xs = ys) = false) := Lib.hid (by rw [decide_eq_false_iff_not]; intro e; exact he (by rw [e]))
          rw [decide_eq_false he] at hcall
          replace he := Lib.hid he
          go_wp2_with fail
          refine hcall.out.mono ?_; rintro e W1 ⟨rfl, hB1⟩
          go_wp2
          go_ret
          exact ⟨by rw [hr.out]; rfl, Below.then_ hB.out hB1⟩
      · have hr : Hid (decide (xs = ys) = true) := Lib.hid (by rw [decide_eq_true_iff]; exact ext_getR (hn.out.trans hlen.out) (fun j hj => hE.out j (by have := hn.out; omega)))
        obtain rfl : k = n := by omega
        go_wp2
        go_ret
        exact ⟨by rw [hr.out]; rfl, hB.out⟩
  · have hne : ((xs.length : Int) != (ys.length : Int)) = true := by rw [bne_iff_ne]; omega
    have hr : Hid (decide (xs = ys) = false) := Lib.hid (by rw [decide_eq_false_iff_not]; intro e; exact hl (by rw [e]))
    clear hx hy h3 g3
    generalize xs.length = n at *
    generalize ys.length = m at *
    go_enter Tryd.func95, Tryd.ntmps95
    go_wp2
    go_ret
    exact ⟨by rw [hr.out]; rfl, Below.refl _ _⟩
theorem EqRows_any (xs ys : List (List Int)) (v u : Value) (w : World) (hx : RdM w v xs) (hy : RdM w u ys) :
    Calls Tryd.prog 24 #[v, u] w fun e w' => e = .returned (.bool (decide (xs = ys))) ∧ Below w.heap.size w w' := by
  have hc := Lib.hid (EqualFunc_any xs ys v u w hx hy)
  generalize decide (xs = ys) = d at *
  clear hx hy
  go_enter Tryd.func24, Tryd.ntmps24
  go_wp2_with fail
  refine hc.out.mono ?_; rintro e W ⟨rfl, hB⟩
  go_wp2
  go_ret
  exact ⟨rfl, hB⟩
end Go.Proofs.YtfljkcmijnhgkaaDoor
