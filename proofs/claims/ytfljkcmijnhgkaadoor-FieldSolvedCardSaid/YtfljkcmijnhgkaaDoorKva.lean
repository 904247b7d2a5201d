/- The reference's Right: its contract. The reference's First and Terms: their contracts. -/
import Derived.Test.YtfljkcmijnhgkaaDoorKv
import Derived.Test.YtfljkcmijnhgkaaDoorKg
import Derived.Test.YtfljkcmijnhgkaaDoorKk
namespace Go.Proofs.YtfljkcmijnhgkaaDoor
open Go.RowKit Go.Shelf
set_option linter.unusedSimpArgs false

set_option maxHeartbeats 1600000 in
theorem refRight_any (r : Rule) (v : Value) (w : World) (h : RdR w v r) :
    Calls Tryd.prog 85 #[v] w fun e w' => e = .returned (.int .i64 (rightR r)) ∧ Below w.heap.size w w' := by
  obtain ⟨a, b, rfl, ra, rb⟩ := h
  have hbx : Below w.heap.size w (w.alloc (.cells #[a, b] 49)) := (Below.refl _ _).alloc (Nat.le_refl _) _
  have hg : (w.alloc (.cells #[a, b] 49)).heap[w.heap.size]? = some (.cells #[a, b] 49 (0, 0)) := heap_alloc_new _ _
  have hsz : (w.alloc (.cells #[a, b] 49)).heap.size = w.heap.size + 1 := by simp
  have hi := Lib.hid (fun W (hW : Below w.heap.size w W) => res_below r.by_ a W (ra.below hW (Nat.le_refl _)))
  have hj := Lib.hid (fun W (hW : Below w.heap.size w W) => res_below r.start b W (rb.below hW (Nat.le_refl _)))
  obtain ⟨A, c, rfl, h1, h2, -⟩ := ra.open_
  obtain ⟨B, d, rfl, g1, g2, -⟩ := rb.open_
  have hc0 : (w.alloc (.cells #[.slice A r.by_.length c, .slice B r.start.length d] 49)).cell? ⟨w.heap.size, 0, none⟩ = some (.slice A r.by_.length c) := by unfold World.cell?; rw [hg]; rfl
  have hc1 : (w.alloc (.cells #[.slice A r.by_.length c, .slice B r.start.length d] 49)).cell? ⟨w.heap.size, 1, none⟩ = some (.slice B r.start.length d) := by unfold World.cell?; rw [hg]; rfl
  have hR : Hid (rightR r = if r.by_.length > 12 then 2 else if r.start.length ≠ r.by_.length then 4 else if isRes r.by_ = false ∨ isRes r.start = false then 3 else 0) := Lib.hid rfl
  clear ra rb hg
  generalize r.by_.length = n at *
  generalize r.start.length = m at *
  by_cases q1 : n > 12
  · have hr : Hid (rightR r = 2) := Lib.hid (by rw [hR.out, if_pos q1])
    have q2 : (12 : Int) < (n : Int) := by omega
    go_enter Tryd.func85, Tryd.ntmps85
    go_wp2
    go_ret
    exact ⟨by rw [hr.out]; rfl, hbx⟩
  · have q2 : ¬ (12 : Int) < (n : Int) := by omega
    by_cases q3 : m = n
    · subst q3
      have hne : ((m : Int) != (m : Int)) = false := by simp
      cases p1 : isRes r.by_
      · have hr : Hid (rightR r = 3) := Lib.hid (by rw [hR.out, if_neg q1, if_neg (by simp), if_pos (.inl p1)])
        rw [p1] at hi
        go_enter Tryd.func85, Tryd.ntmps85
        go_wp2_with fail
        refine (hi.out _ hbx).mono ?_; rintro e W1 ⟨rfl, hB1⟩
        go_wp2
        go_ret
        exact ⟨by rw [hr.out]; rfl, Below.then_ hbx hB1⟩
      · rw [p1] at hi
        cases p2 : isRes r.start
        · have hr : Hid (rightR r = 3) := Lib.hid (by rw [hR.out, if_neg q1, if_neg (by simp), if_pos (.inr p2)])
          rw [p2] at hj
          go_enter Tryd.func85, Tryd.ntmps85
          go_wp2_with fail
          refine (hi.out _ hbx).mono ?_; rintro e W1 ⟨rfl, hB1⟩
          have hc2 := (hB1.cell (p := ⟨w.heap.size, 1, none⟩) (by rw [hsz]; exact Nat.lt_succ_self _)).trans hc1
          have hB2 := Below.then_ hbx hB1
          go_wp2_with fail
          refine (hj.out _ hB2).mono ?_; rintro e W2 ⟨rfl, hB3⟩
          go_wp2
          go_ret
          exact ⟨by rw [hr.out]; rfl, Below.then_ hB2 hB3⟩
        · have hr : Hid (rightR r = 0) := Lib.hid (by rw [hR.out, if_neg q1, if_neg (by simp), if_neg (by simp [p1, p2])])
          rw [p2] at hj
          go_enter Tryd.func85, Tryd.ntmps85
          go_wp2_with fail
          refine (hi.out _ hbx).mono ?_; rintro e W1 ⟨rfl, hB1⟩
          have hc2 := (hB1.cell (p := ⟨w.heap.size, 1, none⟩) (by rw [hsz]; exact Nat.lt_succ_self _)).trans hc1
          have hB2 := Below.then_ hbx hB1
          go_wp2_with fail
          refine (hj.out _ hB2).mono ?_; rintro e W2 ⟨rfl, hB3⟩
          go_wp2
          go_ret
          exact ⟨by rw [hr.out]; rfl, Below.then_ hB2 hB3⟩
    · have hr : Hid (rightR r = 4) := Lib.hid (by rw [hR.out, if_neg q1, if_pos q3])
      have hne : ((m : Int) != (n : Int)) = true := by rw [bne_iff_ne]; omega
      go_enter Tryd.func85, Tryd.ntmps85
      go_wp2
      go_ret
      exact ⟨by rw [hr.out]; rfl, hbx⟩
end Go.Proofs.YtfljkcmijnhgkaaDoor

namespace Go.Proofs.YtfljkcmijnhgkaaDoor
open Go.RowKit Go.Shelf
set_option linter.unusedSimpArgs false

theorem own_snoc {w : World} {base L : Nat} {v : Value} {xs : List Int} {x : Int} (hL : xs.length = L) (h : w.ownsRow base 3 1 v (L + 1) (ints xs ++ [.int .i64 x])) : OwnI w base v (xs ++ [x]) := by
  unfold OwnI
  rw [List.length_append, hL, ints_append, List.length_singleton]
  exact h
set_option maxRecDepth 100000 in
set_option maxHeartbeats 3200000 in
theorem refFirst_any (r : Rule) (n : Nat) (v : Value) (w : World) (h : RdR w v r) (hr : rightR r = 0) (hn : n ≤ 1000) :
    Calls Tryd.prog 108 #[v, .int .i64 n] w fun e w' => (∃ u, e = .returned u ∧ OwnI w' w.heap.size u (firstL r n)) ∧ Below w.heap.size w w' := by
  obtain ⟨i0, hi, hz0, hz1, hz2⟩ := info_parts infoI
  obtain ⟨a, b, rfl, ra, rb⟩ := h
  obtain ⟨hl12, hll, hbb, hbs⟩ := rightR_ok hr
  obtain ⟨A, c, rfl, h1, h2, h3⟩ := ra.open_
  obtain ⟨B, d, rfl, g1, g2, g3⟩ := rb.open_
  have hbx : Below w.heap.size w (w.alloc (.cells #[.slice A r.by_.length c, .slice B r.start.length d] 49)) := (Below.refl _ _).alloc (Nat.le_refl _) _
  have hg : (w.alloc (.cells #[.slice A r.by_.length c, .slice B r.start.length d] 49)).heap[w.heap.size]? = some (.cells #[.slice A r.by_.length c, .slice B r.start.length d] 49 (0, 0)) := heap_alloc_new _ _
  have hsz : (w.alloc (.cells #[.slice A r.by_.length c, .slice B r.start.length d] 49)).heap.size = w.heap.size + 1 := by simp
  have hc0 : (w.alloc (.cells #[.slice A r.by_.length c, .slice B r.start.length d] 49)).cell? ⟨w.heap.size, 0, none⟩ = some (.slice A r.by_.length c) := by unfold World.cell?; rw [hg]; rfl
  have hc1 : (w.alloc (.cells #[.slice A r.by_.length c, .slice B r.start.length d] 49)).cell? ⟨w.heap.size, 1, none⟩ = some (.slice B r.start.length d) := by unfold World.cell?; rw [hg]; rfl
  have hbB : Hid (∀ k, 0 ≤ r.by_.getD k 0 ∧ r.by_.getD k 0 < 65521) := Lib.hid (fun k => by
    by_cases hk : k < r.by_.length
    · rw [List.getD_eq_getElem?_getD, List.getElem?_eq_getElem hk]; exact hbb _ (List.getElem_mem hk)
    · rw [List.getD_eq_getElem?_getD, List.getElem?_eq_none (by omega)]; decide)
  have hfb : Hid (∀ k j, 0 ≤ (firstL r k).getD j 0 ∧ (firstL r k).getD j 0 < 65521) := Lib.hid (fun k j => by
    by_cases hk : j < (firstL r k).length
    · rw [List.getD_eq_getElem?_getD, List.getElem?_eq_getElem hk]; exact firstL_bd hbs k _ (List.getElem_mem hk)
    · rw [List.getD_eq_getElem?_getD, List.getElem?_eq_none (by omega)]; decide)
  have hsx : Hid (∀ k, firstL r (k + 1) = firstL r k ++ [if k < r.start.length then r.start.getD k 0 else nextT r.by_ (firstL r k)]) := Lib.hid (fun k => rfl)
  replace h3 := Lib.hid h3
  replace g3 := Lib.hid g3
  replace hbx := Lib.hid hbx
  replace hll := Lib.hid hll
  clear ra rb hr hbb hbs hg
  generalize hN : r.by_.length = N at *
  generalize hM : r.start.length = M at *
  replace hN := Lib.hid hN
  replace hM := Lib.hid hM
  go_enter Tryd.func108, Tryd.ntmps108
  go_wp2
  generalize w.alloc (.cells #[.slice A N c, .slice B M d] 49) = X at hbx hsz hc0 hc1 ⊢
  replace hsz := Lib.hid hsz
  go_loopw [5, 6, 7, 8] (fun o ii _ _ wr => ∃ k : Nat, k ≤ n ∧ ii = .int .i64 k ∧ Hid (Below X.heap.size X wr) ∧ Hid (OwnI wr X.heap.size o (firstL r k))) (fun _ ii _ _ _ => n - (intOf ii).toNat)
  case atStart => exact ⟨0, Nat.zero_le _, rfl, Lib.hid (Below.refl _ _), Lib.hid (OwnI_nil _ _)⟩
  case round =>
    obtain ⟨k, hk, rfl, hB, hO⟩ := hrel
    rename World => wr
    by_cases hlt : k < n
    · have k1 : (k : Int) < (n : Int) := by omega
      have k0 : (0 : Int) ≤ (k : Int) := by omega
      have hfl : Hid ((firstL r k).length = k) := Lib.hid (firstL_len r k)
      obtain ⟨Ao, co, rfl⟩ := own_shape hO.out
      rw [hfl.out] at hO ⊢
      have hx0 := (hB.out.cell (World.block_lt_of_cell? X _ hc0)).trans hc0
      have hx1 := (hB.out.cell (World.block_lt_of_cell? X _ hc1)).trans hc1
      have hBs := hB.out.size
      by_cases hs : k < M
      · obtain ⟨bb, offb, rfl, hcb⟩ := g3.out k hs
        have hcb2 := (hB.out.cell (p := ⟨bb, offb + k, none⟩) (by have := World.block_lt_of_cell? w _ hcb; have := hsz.out; show bb < _; simp at *; omega)).trans ((hbx.out.cell (World.block_lt_of_cell? w _ hcb)).trans hcb)
        have hst := Lib.hid (hsx.out k)
        rw [if_pos hs] at hst
        generalize r.start.getD k 0 = x at hst hcb hcb2
        have hs1 : (k : Int) < (M : Int) := by omega
        have how : Hid ((wr.alloc (.cells #[.int .i64 x] 3)).ownsRow X.heap.size 3 1 (.slice Ao k co) k (ints (firstL r k))) := Lib.hid (by
          have := hO.out.below ((Below.refl wr.heap.size wr).alloc (Nat.le_refl _) (.cells #[.int .i64 x] 3))
          unfold OwnI at this
          rwa [hfl.out] at this)
        clear hcb
        go_wp2_with (at_builtin; (refine wpList_append_own_at _ rfl _ _ 23 rfl X.heap.size 3 i0 _ 1 8 Tryd.underlying23 hi hz0 hz1 hz2 rfl (by omega) (.slice Ao k co) k (ints (firstL r k)) rfl how.out ⟨wr.heap.size, 0, none⟩ 1 1 [.int .i64 x] rfl rfl (cell_one_new wr _ _) (by simp [Value.oneCell']) (by unfold maxLen; omega) (by omega) (by simp; omega) ?_); intro v' w1 hown1 hgrow _ _)
        have hfin := Lib.hid (own_snoc hfl.out hown1)
        rw [← hst.out] at hfin
        have hB1 := Lib.hid ((hB.out.alloc (by omega) (.cells #[.int .i64 x] 3)).grown hgrow (by simp; omega) (fun q hq => (how.out.lt q hq).1))
        clear hown1 hgrow
        go_wp2
        go_roundw
        case rel => exact ⟨k + 1, by omega, by go_num, hB1, hfin⟩
        case measure => simp [intOf] <;> omega
      · have hst := Lib.hid (hsx.out k)
        rw [if_neg hs] at hst
        have hs1 : ¬ (k : Int) < (M : Int) := by omega
        have hkN : N ≤ k := by have := hll.out; omega
        go_wp2
        obtain ⟨wo, rfl⟩ : ∃ wo : World, wo = wr := ⟨_, rfl⟩
        clear hx0 hx1
        go_loopw [7, 8] (fun s ii wr => ∃ q : Nat, q ≤ N ∧ ii = .int .i64 q ∧ s = .int .i64 (psum (fun j => r.by_.getD j 0 * (firstL r k).getD (k - 1 - j) 0 % 65521) q % 65521) ∧ Hid (Below X.heap.size X wr) ∧ Hid (OwnI wr X.heap.size (.slice Ao k co) (firstL r k))) (fun _ ii _ => N - (intOf ii).toNat)
        case atStart => exact ⟨0, Nat.zero_le _, rfl, rfl, hB, hO⟩
        case round =>
          obtain ⟨q, hq, rfl, rfl, hB, hO⟩ := hrel
          rename World => wr2
          have hx0 := (hB.out.cell (World.block_lt_of_cell? X _ hc0)).trans hc0
          by_cases hqN : q < N
          · obtain ⟨ba, offa, rfl, hca⟩ := h3.out q hqN
            have hca2 := (hB.out.cell (p := ⟨ba, offa + q, none⟩) (by have := World.block_lt_of_cell? w _ hca; have := hsz.out; show ba < _; simp at *; omega)).trans ((hbx.out.cell (World.block_lt_of_cell? w _ hca)).trans hca)
            have hre := hO.out.rd (by rw [hfl.out]; omega)
            obtain ⟨Ar, cr, er, -, -, hcl⟩ := hre.open_
            rw [hfl.out] at er hcl
            simp only [Value.slice.injEq, true_and] at er
            obtain ⟨rfl, rfl⟩ := er
            obtain ⟨p, hp⟩ : ∃ p, p = k - 1 - q := ⟨_, rfl⟩
            obtain ⟨bo, offo, rfl, hco⟩ := hcl p (by omega)
            have hpi : (k : Int) - 1 - (q : Int) = (p : Int) := by omega
            have w1 : IntKind.i64.wrap ((k : Int) - 1) = (k : Int) - 1 := IntWalk.i64_in _ ⟨by omega, by omega⟩
            have w2 : IntKind.i64.wrap ((k : Int) - 1 - (q : Int)) = (p : Int) := by rw [IntWalk.i64_in _ ⟨by omega, by omega⟩]; exact hpi
            replace hpi := Lib.hid hpi
            have hn1 := hbB.out q
            have hn2 := hfb.out k p
            have ⟨m1, m2⟩ := mul_bd hn1.1 hn1.2 hn2.1 hn2.2
            have hstep : Hid (psum (fun j => r.by_.getD j 0 * (firstL r k).getD (k - 1 - j) 0 % 65521) (q + 1) % 65521 = (psum (fun j => r.by_.getD j 0 * (firstL r k).getD (k - 1 - j) 0 % 65521) q % 65521 + r.by_.getD q 0 * (firstL r k).getD p 0) % 65521) := Lib.hid (by
              rw [psum, hp]
              generalize psum _ q = S
              generalize r.by_.getD q 0 * (firstL r k).getD (k - 1 - q) 0 = t
              omega)
            have hsb : 0 ≤ psum (fun j => r.by_.getD j 0 * (firstL r k).getD (k - 1 - j) 0 % 65521) q % 65521 ∧ psum (fun j => r.by_.getD j 0 * (firstL r k).getD (k - 1 - j) 0 % 65521) q % 65521 < 65521 := ⟨Int.emod_nonneg _ (by decide), Int.emod_lt_of_pos _ (by decide)⟩
            have hp1 : (p : Int) < (k : Int) := by omega
            have hp0 : (0 : Int) ≤ (p : Int) := by omega
            have hO2 := Lib.hid (hO.out.below ((Below.refl wr2.heap.size wr2).drew))
            have hB2 := Lib.hid hB.out.drew
            replace hp := Lib.hid hp
            clear hca hre hcl hO
            generalize psum (fun j => r.by_.getD j 0 * (firstL r k).getD (k - 1 - j) 0 % 65521) q % 65521 = S at hsb hstep ⊢
            generalize r.by_.getD q 0 = x at *
            generalize (firstL r k).getD p 0 = y at *
            have w3 : IntKind.i64.wrap (x * y) = x * y := IntWalk.i64_in _ ⟨by omega, by omega⟩
            have w4 : IntKind.i64.wrap (S + x * y) = S + x * y := IntWalk.i64_in _ ⟨by omega, by omega⟩
            have w5 : (S + x * y).tmod 65521 = (S + x * y) % 65521 := Int.tmod_eq_emod_of_nonneg (by omega)
            have q1 : (q : Int) < (N : Int) := by omega
            have q0 : (0 : Int) ≤ (q : Int) := by omega
            go_wp2
            go_still_tail 16, (by kernel_rfl)
            change wpList _ _ _ _ _ wr2.drew
            go_wp2
            go_roundw
            case rel => exact ⟨q + 1, by omega, by go_num, by rw [hstep.out], hB2, hO2⟩
            case measure => simp [intOf] <;> omega
          · obtain rfl : N = q := by omega
            have hnx : Hid (psum (fun j => r.by_.getD j 0 * (firstL r k).getD (k - 1 - j) 0 % 65521) N % 65521 = nextT r.by_ (firstL r k)) := Lib.hid (by unfold nextT; rw [hN.out, hfl.out])
            rw [hnx.out]
            generalize nextT r.by_ (firstL r k) = x at hst ⊢
            have hBs2 := hB.out.size
            have how : Hid ((wr2.alloc (.cells #[.int .i64 x] 3)).ownsRow X.heap.size 3 1 (.slice Ao k co) k (ints (firstL r k))) := Lib.hid (by
              have := hO.out.below ((Below.refl wr2.heap.size wr2).alloc (Nat.le_refl _) (.cells #[.int .i64 x] 3))
              unfold OwnI at this
              rwa [hfl.out] at this)
            clear hnx
            go_wp2_with (at_builtin; (refine wpList_append_own_at _ rfl _ _ 23 rfl X.heap.size 3 i0 _ 1 8 Tryd.underlying23 hi hz0 hz1 hz2 rfl (by omega) (.slice Ao k co) k (ints (firstL r k)) rfl how.out ⟨wr2.heap.size, 0, none⟩ 1 1 [.int .i64 x] rfl rfl (cell_one_new wr2 _ _) (by simp [Value.oneCell']) (by unfold maxLen; omega) (by omega) (by simp; omega) ?_); intro v' w1 hown1 hgrow _ _)
            have hfin := Lib.hid (own_snoc hfl.out hown1)
            rw [← hst.out] at hfin
            have hB1 := Lib.hid ((hB.out.alloc (by omega) (.cells #[.int .i64 x] 3)).grown hgrow (by simp; omega) (fun q hq => (how.out.lt q hq).1))
            clear hown1 hgrow
            go_wp2
            go_roundw
            case rel => exact ⟨k + 1, by omega, by go_num, hB1, hfin⟩
            case measure => simp [intOf] <;> omega
    · obtain rfl : n = k := by omega
      go_wp2
      go_ret
      have hs := hsz.out
      exact ⟨⟨_, rfl, hO.out.base (by omega)⟩, hbx.out.trans (hB.out.mono (by omega))⟩
end Go.Proofs.YtfljkcmijnhgkaaDoor
