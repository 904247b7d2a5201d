/- The reference's Right: its contract. The reference's First and Terms: their contracts. The reference's Short: its contract; the rule found is no longer than the rule that makes the terms. The reference's Both: its contract. -/
import Derived.Test.YtfljkcmijnhgkaaDoorKv
import Derived.Test.YtfljkcmijnhgkaaDoorKg
import Derived.Test.YtfljkcmijnhgkaaDoorKk
import Derived.Test.YtfljkcmijnhgkaaDoorKwa
import Derived.Test.YtfljkcmijnhgkaaDoorKy
import Derived.Test.YtfljkcmijnhgkaaDoorKi
namespace Go.Proofs.YtfljkcmijnhgkaaDoor
open Go.RowKit Go.Shelf
set_option linter.unusedSimpArgs false

set_option maxHeartbeats 1600000 in
theorem refRight_any (r : Rule) (v : Value) (w : World) (h : RdR w v r) :
    Calls Tryd.prog 85 #[v] w fun e w' => e = .returned (.int .i64 (rightR r)) ∧ Below w.heap.size w w' := by
  obtain ⟨a, b, rfl, ra, rb⟩ := h
  have hbx : Below w.heap.size w (w.alloc (.cells #[a, b] 49)) := (Below.refl _ _).alloc (Nat.le_refl _) _
  have hg : (w.alloc (.cells #[a, b] 49)).heap[w.heap.size]? = some (.cells #[a, b] 49 (0, 0)) := heap_alloc_new _ _
  have hsz : (w.alloc (.cells #[a, b] 49)).heap.size = w.heap.size + 1 := by simp
  have hi := Lib.hid (fun W (hW : Below w.heap.size w W) => res_below r.by_ a W (ra.below hW (Nat.le_refl _)))
  have hj := Lib.hid (fun W (hW : Below w.heap.size w W) => res_below r.start b W (rb.below hW (Nat.le_refl _)))
  obtain ⟨A, c, rfl, h1, h2, -⟩ := ra.open_
  obtain ⟨B, d, rfl, g1, g2, -⟩ := rb.open_
  have hc0 : (w.alloc (.cells #[.slice A r.by_.length c, .slice B r.start.length d] 49)).cell? ⟨w.heap.size, 0, none⟩ = some (.slice A r.by_.length c) := by unfold World.cell?; rw [hg]; rfl
  have hc1 : (w.alloc (.cells #[.slice A r.by_.length c, .slice B r.start.length d] 49)).cell? ⟨w.heap.size, 1, none⟩ = some (.slice B r.start.length d) := by unfold World.cell?; rw [hg]; rfl
  have hR : Hid (rightR r = if r.by_.length > 12 then 2 else if r.start.length ≠ r.by_.length then 4 else if isRes r.by_ = false ∨ isRes r.start = false then 3 else 0) := Lib.hid rfl
  clear ra rb hg
  generalize r.by_.length = n at *
  generalize r.start.length = m at *
  by_cases q1 : n > 12
  · have hr : Hid (rightR r = 2) := Lib.hid (by rw [hR.out, if_pos q1])
    have q2 : (12 : Int) < (n : Int) := by omega
    go_enter Tryd.func85, Tryd.ntmps85
    go_wp2
    go_ret
    exact ⟨by rw [hr.out]; rfl, hbx⟩
  · have q2 : ¬ (12 : Int) < (n : Int) := by omega
    by_cases q3 : m = n
    · subst q3
      have hne : ((m : Int) != (m : Int)) = false := by simp
      cases p1 : isRes r.by_
      · have hr : Hid (rightR r = 3) := Lib.hid (by rw [hR.out, if_neg q1, if_neg (by simp), if_pos (.inl p1)])
        rw [p1] at hi
        go_enter Tryd.func85, Tryd.ntmps85
        go_wp2_with fail
        refine (hi.out _ hbx).mono ?_; rintro e W1 ⟨rfl, hB1⟩
        go_wp2
        go_ret
        exact ⟨by rw [hr.out]; rfl, Below.then_ hbx hB1⟩
      · rw [p1] at hi
        cases p2 : isRes r.start
        · have hr : Hid (rightR r = 3) := Lib.hid (by rw [hR.out, if_neg q1, if_neg (by simp), if_pos (.inr p2)])
          rw [p2] at hj
          go_enter Tryd.func85, Tryd.ntmps85
          go_wp2_with fail
          refine (hi.out _ hbx).mono ?_; rintro e W1 ⟨rfl, hB1⟩
          have hc2 := (hB1.cell (p := ⟨w.heap.size, 1, none⟩) (by rw [hsz]; exact Nat.lt_succ_self _)).trans hc1
          have hB2 := Below.then_ hbx hB1
          go_wp2_with fail
          refine (hj.out _ hB2).mono ?_; rintro e W2 ⟨rfl, hB3⟩
          go_wp2
          go_ret
          exact ⟨by rw [hr.out]; rfl, Below.then_ hB2 hB3⟩
        · have hr : Hid (rightR r = 0) := Lib.hid (by rw [hR.out, if_neg q1, if_neg (by simp), if_neg (by simp [p1, p2])])
          rw [p2] at hj
          go_enter Tryd.func85, Tryd.ntmps85
          go_wp2_with fail
          refine (hi.out _ hbx).mono ?_; rintro e W1 ⟨rfl, hB1⟩
          have hc2 := (hB1.cell (p := ⟨w.heap.size, 1, none⟩) (by rw [hsz]; exact Nat.lt_succ_self _)).trans hc1
          have hB2 := Below.then_ hbx hB1
          go_wp2_with fail
          refine (hj.out _ hB2).mono ?_; rintro e W2 ⟨rfl, hB3⟩
          go_wp2
          go_ret
          exact ⟨by rw [hr.out]; rfl, Below.then_ hB2 hB3⟩
    · have hr : Hid (rightR r = 4) := Lib.hid (by rw [hR.out, if_neg q1, if_pos q3])
      have hne : ((m : Int) != (n : Int)) = true := by rw [bne_iff_ne]; omega
      go_enter Tryd.func85, Tryd.ntmps85
      go_wp2
      go_ret
      exact ⟨by rw [hr.out]; rfl, hbx⟩
end Go.Proofs.YtfljkcmijnhgkaaDoor

namespace Go.Proofs.YtfljkcmijnhgkaaDoor
open Go.RowKit Go.Shelf
set_option linter.unusedSimpArgs false

theorem own_snoc {w : World} {base L : Nat} {v : Value} {xs : List Int} {x : Int} (hL : xs.length = L) (h : w.ownsRow base 3 1 v (L + 1) (ints xs ++ [.int .i64 x])) : OwnI w base v (xs ++ [x]) := by
  unfold OwnI
  rw [List.length_append, hL, ints_append, List.length_singleton]
  exact h
set_option maxRecDepth 100000 in
set_option maxHeartbeats 3200000 in
theorem refFirst_any (r : Rule) (n : Nat) (v : Value) (w : World) (h : RdR w v r) (hr : rightR r = 0) (hn : n ≤ 1000) :
    Calls Tryd.prog 108 #[v, .int .i64 n] w fun e w' => (∃ u, e = .returned u ∧ OwnI w' w.heap.size u (firstL r n)) ∧ Below w.heap.size w w' := by
  obtain ⟨i0, hi, hz0, hz1, hz2⟩ := info_parts infoI
  obtain ⟨a, b, rfl, ra, rb⟩ := h
  obtain ⟨hl12, hll, hbb, hbs⟩ := rightR_ok hr
  obtain ⟨A, c, rfl, h1, h2, h3⟩ := ra.open_
  obtain ⟨B, d, rfl, g1, g2, g3⟩ := rb.open_
  have hbx : Below w.heap.size w (w.alloc (.cells #[.slice A r.by_.length c, .slice B r.start.length d] 49)) := (Below.refl _ _).alloc (Nat.le_refl _) _
  have hg : (w.alloc (.cells #[.slice A r.by_.length c, .slice B r.start.length d] 49)).heap[w.heap.size]? = some (.cells #[.slice A r.by_.length c, .slice B r.start.length d] 49 (0, 0)) := heap_alloc_new _ _
  have hsz : (w.alloc (.cells #[.slice A r.by_.length c, .slice B r.start.length d] 49)).heap.size = w.heap.size + 1 := by simp
  have hc0 : (w.alloc (.cells #[.slice A r.by_.length c, .slice B r.start.length d] 49)).cell? ⟨w.heap.size, 0, none⟩ = some (.slice A r.by_.length c) := by unfold World.cell?; rw [hg]; rfl
  have hc1 : (w.alloc (.cells #[.slice A r.by_.length c, .slice B r.start.length d] 49)).cell? ⟨w.heap.size, 1, none⟩ = some (.slice B r.start.length d) := by unfold World.cell?; rw [hg]; rfl
  have hbB : Hid (∀ k, 0 ≤ r.by_.getD k 0 ∧ r.by_.getD k 0 < 65521) := Lib.hid (fun k => by
    by_cases hk : k < r.by_.length
    · rw [List.getD_eq_getElem?_getD, List.getElem?_eq_getElem hk]; exact hbb _ (List.getElem_mem hk)
    · rw [List.getD_eq_getElem?_getD, List.getElem?_eq_none (by omega)]; decide)
  have hfb : Hid (∀ k j, 0 ≤ (firstL r k).getD j 0 ∧ (firstL r k).getD j 0 < 65521) := Lib.hid (fun k j => by
    by_cases hk : j < (firstL r k).length
    · rw [List.getD_eq_getElem?_getD, List.getElem?_eq_getElem hk]; exact firstL_bd hbs k _ (List.getElem_mem hk)
    · rw [List.getD_eq_getElem?_getD, List.getElem?_eq_none (by omega)]; decide)
  have hsx : Hid (∀ k, firstL r (k + 1) = firstL r k ++ [if k < r.start.length then r.start.getD k 0 else nextT r.by_ (firstL r k)]) := Lib.hid (fun k => rfl)
  replace h3 := Lib.hid h3
  replace g3 := Lib.hid g3
  replace hbx := Lib.hid hbx
  replace hll := Lib.hid hll
  clear ra rb hr hbb hbs hg
  generalize hN : r.by_.length = N at *
  generalize hM : r.start.length = M at *
  replace hN := Lib.hid hN
  replace hM := Lib.hid hM
  go_enter Tryd.func108, Tryd.ntmps108
  go_wp2
  generalize w.alloc (.cells #[.slice A N c, .slice B M d] 49) = X at hbx hsz hc0 hc1 ⊢
  replace hsz := Lib.hid hsz
  go_loopw [5, 6, 7, 8] (fun o ii _ _ wr => ∃ k : Nat, k ≤ n ∧ ii = .int .i64 k ∧ Hid (Below X.heap.size X wr) ∧ Hid (OwnI wr X.heap.size o (firstL r k))) (fun _ ii _ _ _ => n - (intOf ii).toNat)
  case atStart => exact ⟨0, Nat.zero_le _, rfl, Lib.hid (Below.refl _ _), Lib.hid (OwnI_nil _ _)⟩
  case round =>
    obtain ⟨k, hk, rfl, hB, hO⟩ := hrel
    rename World => wr
    by_cases hlt : k < n
    · have k1 : (k : Int) < (n : Int) := by omega
      have k0 : (0 : Int) ≤ (k : Int) := by omega
      have hfl : Hid ((firstL r k).length = k) := Lib.hid (firstL_len r k)
      obtain ⟨Ao, co, rfl⟩ := own_shape hO.out
      rw [hfl.out] at hO ⊢
      have hx0 := (hB.out.cell (World.block_lt_of_cell? X _ hc0)).trans hc0
      have hx1 := (hB.out.cell (World.block_lt_of_cell? X _ hc1)).trans hc1
      have hBs := hB.out.size
      by_cases hs : k < M
      · obtain ⟨bb, offb, rfl, hcb⟩ := g3.out k hs
        have hcb2 := (hB.out.cell (p := ⟨bb, offb + k, none⟩) (by have := World.block_lt_of_cell? w _ hcb; have := hsz.out; show bb < _; simp at *; omega)).trans ((hbx.out.cell (World.block_lt_of_cell? w _ hcb)).trans hcb)
        have hst := Lib.hid (hsx.out k)
        rw [if_pos hs] at hst
        generalize r.start.getD k 0 = x at hst hcb hcb2
        have hs1 : (k : Int) < (M : Int) := by omega
        have how : Hid ((wr.alloc (.cells #[.int .i64 x] 3)).ownsRow X.heap.size 3 1 (.slice Ao k co) k (ints (firstL r k))) := Lib.hid (by
          have := hO.out.below ((Below.refl wr.heap.size wr).alloc (Nat.le_refl _) (.cells #[.int .i64 x] 3))
          unfold OwnI at this
          rwa [hfl.out] at this)
        clear hcb
        go_wp2_with (at_builtin; (refine wpList_append_own_at _ rfl _ _ 23 rfl X.heap.size 3 i0 _ 1 8 Tryd.underlying23 hi hz0 hz1 hz2 rfl (by omega) (.slice Ao k co) k (ints (firstL r k)) rfl how.out ⟨wr.heap.size, 0, none⟩ 1 1 [.int .i64 x] rfl rfl (cell_one_new wr _ _) (by simp [Value.oneCell']) (by unfold maxLen; omega) (by omega) (by simp; omega) ?_); intro v' w1 hown1 hgrow _ _)
        have hfin := Lib.hid (own_snoc hfl.out hown1)
        rw [← hst.out] at hfin
        have hB1 := Lib.hid ((hB.out.alloc (by omega) (.cells #[.int .i64 x] 3)).grown hgrow (by simp; omega) (fun q hq => (how.out.lt q hq).1))
        clear hown1 hgrow
        go_wp2
        go_roundw
        case rel => exact ⟨k + 1, by omega, by go_num, hB1, hfin⟩
        case measure => simp [intOf] <;> omega
      · have hst := Lib.hid (hsx.out k)
        rw [if_neg hs] at hst
        have hs1 : ¬ (k : Int) < (M : Int) := by omega
        have hkN : N ≤ k := by have := hll.out; omega
        go_wp2
        obtain ⟨wo, rfl⟩ : ∃ wo : World, wo = wr := ⟨_, rfl⟩
        clear hx0 hx1
        go_loopw [7, 8] (fun s ii wr => ∃ q : Nat, q ≤ N ∧ ii = .int .i64 q ∧ s = .int .i64 (psum (fun j => r.by_.getD j 0 * (firstL r k).getD (k - 1 - j) 0 % 65521) q % 65521) ∧ Hid (Below X.heap.size X wr) ∧ Hid (OwnI wr X.heap.size (.slice Ao k co) (firstL r k))) (fun _ ii _ => N - (intOf ii).toNat)
        case atStart => exact ⟨0, Nat.zero_le _, rfl, rfl, hB, hO⟩
        case round =>
          obtain ⟨q, hq, rfl, rfl, hB, hO⟩ := hrel
          rename World => wr2
          have hx0 := (hB.out.cell (World.block_lt_of_cell? X _ hc0)).trans hc0
          by_cases hqN : q < N
          · obtain ⟨ba, offa, rfl, hca⟩ := h3.out q hqN
            have hca2 := (hB.out.cell (p := ⟨ba, offa + q, none⟩) (by have := World.block_lt_of_cell? w _ hca; have := hsz.out; show ba < _; simp at *; omega)).trans ((hbx.out.cell (World.block_lt_of_cell? w _ hca)).trans hca)
            have hre := hO.out.rd (by rw [hfl.out]; omega)
            obtain ⟨Ar, cr, er, -, -, hcl⟩ := hre.open_
            rw [hfl.out] at er hcl
            simp only [Value.slice.injEq, true_and] at er
            obtain ⟨rfl, rfl⟩ := er
            obtain ⟨p, hp⟩ : ∃ p, p = k - 1 - q := ⟨_, rfl⟩
            obtain ⟨bo, offo, rfl, hco⟩ := hcl p (by omega)
            have hpi : (k : Int) - 1 - (q : Int) = (p : Int) := by omega
            have w1 : IntKind.i64.wrap ((k : Int) - 1) = (k : Int) - 1 := IntWalk.i64_in _ ⟨by omega, by omega⟩
            have w2 : IntKind.i64.wrap ((k : Int) - 1 - (q : Int)) = (p : Int) := by rw [IntWalk.i64_in _ ⟨by omega, by omega⟩]; exact hpi
            replace hpi := Lib.hid hpi
            have hn1 := hbB.out q
            have hn2 := hfb.out k p
            have ⟨m1, m2⟩ := mul_bd hn1.1 hn1.2 hn2.1 hn2.2
            have hstep : Hid (psum (fun j => r.by_.getD j 0 * (firstL r k).getD (k - 1 - j) 0 % 65521) (q + 1) % 65521 = (psum (fun j => r.by_.getD j 0 * (firstL r k).getD (k - 1 - j) 0 % 65521) q % 65521 + r.by_.getD q 0 * (firstL r k).getD p 0) % 65521) := Lib.hid (by
              rw [psum, hp]
              generalize psum _ q = S
              generalize r.by_.getD q 0 * (firstL r k).getD (k - 1 - q) 0 = t
              omega)
            have hsb : 0 ≤ psum (fun j => r.by_.getD j 0 * (firstL r k).getD (k - 1 - j) 0 % 65521) q % 65521 ∧ psum (fun j => r.by_.getD j 0 * (firstL r k).getD (k - 1 - j) 0 % 65521) q % 65521 < 65521 := ⟨Int.emod_nonneg _ (by decide), Int.emod_lt_of_pos _ (by decide)⟩
            have hp1 : (p : Int) < (k : Int) := by omega
            have hp0 : (0 : Int) ≤ (p : Int) := by omega
            have hO2 := Lib.hid (hO.out.below ((Below.refl wr2.heap.size wr2).drew))
            have hB2 := Lib.hid hB.out.drew
            replace hp := Lib.hid hp
            clear hca hre hcl hO
            generalize psum (fun j => r.by_.getD j 0 * (firstL r k).getD (k - 1 - j) 0 % 65521) q % 65521 = S at hsb hstep ⊢
            generalize r.by_.getD q 0 = x at *
            generalize (firstL r k).getD p 0 = y at *
            have w3 : IntKind.i64.wrap (x * y) = x * y := IntWalk.i64_in _ ⟨by omega, by omega⟩
            have w4 : IntKind.i64.wrap (S + x * y) = S + x * y := IntWalk.i64_in _ ⟨by omega, by omega⟩
            have w5 : (S + x * y).tmod 65521 = (S + x * y) % 65521 := Int.tmod_eq_emod_of_nonneg (by omega)
            have q1 : (q : Int) < (N : Int) := by omega
            have q0 : (0 : Int) ≤ (q : Int) := by omega
            go_wp2
            go_still_tail 16, (by kernel_rfl)
            change wpList _ _ _ _ _ wr2.drew
            go_wp2
            go_roundw
            case rel => exact ⟨q + 1, by omega, by go_num, by rw [hstep.out], hB2, hO2⟩
            case measure => simp [intOf] <;> omega
          · obtain rfl : N = q := by omega
            have hnx : Hid (psum (fun j => r.by_.getD j 0 * (firstL r k).getD (k - 1 - j) 0 % 65521) N % 65521 = nextT r.by_ (firstL r k)) := Lib.hid (by unfold nextT; rw [hN.out, hfl.out])
            rw [hnx.out]
            generalize nextT r.by_ (firstL r k) = x at hst ⊢
            have hBs2 := hB.out.size
            have how : Hid ((wr2.alloc (.cells #[.int .i64 x] 3)).ownsRow X.heap.size 3 1 (.slice Ao k co) k (ints (firstL r k))) := Lib.hid (by
              have := hO.out.below ((Below.refl wr2.heap.size wr2).alloc (Nat.le_refl _) (.cells #[.int .i64 x] 3))
              unfold OwnI at this
              rwa [hfl.out] at this)
            clear hnx
            go_wp2_with (at_builtin; (refine wpList_append_own_at _ rfl _ _ 23 rfl X.heap.size 3 i0 _ 1 8 Tryd.underlying23 hi hz0 hz1 hz2 rfl (by omega) (.slice Ao k co) k (ints (firstL r k)) rfl how.out ⟨wr2.heap.size, 0, none⟩ 1 1 [.int .i64 x] rfl rfl (cell_one_new wr2 _ _) (by simp [Value.oneCell']) (by unfold maxLen; omega) (by omega) (by simp; omega) ?_); intro v' w1 hown1 hgrow _ _)
            have hfin := Lib.hid (own_snoc hfl.out hown1)
            rw [← hst.out] at hfin
            have hB1 := Lib.hid ((hB.out.alloc (by omega) (.cells #[.int .i64 x] 3)).grown hgrow (by simp; omega) (fun q hq => (how.out.lt q hq).1))
            clear hown1 hgrow
            go_wp2
            go_roundw
            case rel => exact ⟨k + 1, by omega, by go_num, hB1, hfin⟩
            case measure => simp [intOf] <;> omega
    · obtain rfl : n = k := by omega
      go_wp2
      go_ret
      have hs := hsz.out
      exact ⟨⟨_, rfl, hO.out.base (by omega)⟩, hbx.out.trans (hB.out.mono (by omega))⟩
end Go.Proofs.YtfljkcmijnhgkaaDoor

namespace Go.Proofs.YtfljkcmijnhgkaaDoor
open Go.RowKit Go.Shelf
set_option linter.unusedSimpArgs false

/-- The rule that makes the terms fits them. -/
theorem fits_self {r : Rule} (h : rightR r = 0) (n : Nat) (hn : r.by_.length ≤ n) : (fitO (firstL r n) r.by_.length).isSome = true := by
  obtain ⟨o1, o2, o3, o4⟩ := rightR_ok h
  have hbd := firstL_bd o4 n
  have hlen := firstL_len r n
  have hterm : ∀ N j, j < N → (firstL r N).getD j 0 = termK r j := fun N => by
    induction N with
    | zero => intro j hj; omega
    | succ N ih =>
      intro j hj
      rw [firstL_succ, List.getD_eq_getElem?_getD]
      by_cases e : j < N
      · rw [List.getElem?_append_left (by rw [firstL_len]; exact e), ← List.getD_eq_getElem?_getD]; exact ih j e
      · have : j = N := by omega
        subst this
        rw [List.getElem?_append_right (by rw [firstL_len]; exact Nat.le_refl _), firstL_len, Nat.sub_self]; rfl
  have hs := solvedM_complete (rs := rowsL (firstL r n) r.by_.length) (b := (firstL r n).drop r.by_.length) (n := n - r.by_.length) (m := r.by_.length) (by have := okM_rowsL hbd r.by_.length; rwa [hlen] at this) (fun x hx => hbd x (List.mem_of_mem_drop hx)) (by rw [List.length_drop, hlen]) (y := fun k => toF (r.by_.getD k 0)) (fun i hi => by
    have e1 : (((firstL r n).drop r.by_.length).getD i 0) = termK r (r.by_.length + i) := by
      rw [List.getD_eq_getElem?_getD, List.getElem?_drop, ← List.getD_eq_getElem?_getD, hterm n _ (by omega)]
    rw [e1, termK, if_neg (by omega), nextT, toF_emod, toF_psum]
    refine S_congr fun k hk => ?_
    rw [toF_emod, toF_mul, firstL_len]
    have e2 : G (rowsL (firstL r n) r.by_.length) i k = toF ((firstL r (r.by_.length + i)).getD (r.by_.length + i - 1 - k) 0) := by
      show toF (gM _ i k) = _
      rw [rowsL, hlen, gM_mat _ hi hk, hterm n _ (by omega), hterm (r.by_.length + i) _ (by omega)]
    rw [e2]; grind)
  rw [fitO, hs]; rfl
theorem fitL_first {l : List Int} {k : Nat} (hk : (fitO l k).isSome = true) : ∀ (d : Nat), fitL l (List.range (k + 1 + d)) = fitL l (List.range (k + 1)) := fun d => by
  obtain ⟨by_, hby⟩ := Option.isSome_iff_exists.1 hk
  have cut : ∀ (a b : List Nat), (∃ o ∈ a, (fitO l o).isSome = true) → fitL l (a ++ b) = fitL l a := fun a => by
    induction a with
    | nil => rintro b ⟨o, ho, _⟩; cases ho
    | cons o a ih =>
      rintro b ⟨q, hq, hs⟩
      rw [List.cons_append, fitL, fitL]
      cases e : fitO l o with
      | some x => rfl
      | none =>
        simp only []
        refine ih b ?_
        rcases List.mem_cons.1 hq with rfl | hq
        · rw [e] at hs; cases hs
        · exact ⟨q, hq, hs⟩
  rw [show List.range (k + 1 + d) = List.range (k + 1) ++ List.range' (k + 1) d by rw [List.range_eq_range', List.range_eq_range', ← List.range'_append_1, Nat.zero_add]]
  exact cut _ _ ⟨k, by simp, hk⟩
theorem fitM_least {l : List Int} {k m m' : Nat} (hk : (fitO l k).isSome = true) (h1 : k ≤ min m l.length) (h2 : k ≤ min m' l.length) : fitM l m = fitM l m' := by
  unfold fitM
  obtain ⟨d, hd⟩ := Nat.exists_eq_add_of_le h1
  obtain ⟨e, he⟩ := Nat.exists_eq_add_of_le h2
  rw [hd, he, show k + d + 1 = k + 1 + d by omega, show k + e + 1 = k + 1 + e by omega, fitL_first hk, fitL_first hk]
theorem short_fit {r : Rule} (h : rightR r = 0) : fitM (firstL r (2 * r.by_.length)) 12 = fitM (firstL r (2 * r.by_.length)) r.by_.length := by
  obtain ⟨o1, -⟩ := rightR_ok h
  exact fitM_least (fits_self h _ (by omega)) (by rw [firstL_len]; omega) (by rw [firstL_len]; omega)
set_option maxRecDepth 100000 in
set_option maxHeartbeats 3200000 in
theorem refShort_any (r : Rule) (v : Value) (w : World) (h : RdR w v r) :
    Calls Tryd.prog 46 #[v] w (RuleOut (shortR r) w) := by
  have hR := Lib.hid h
  obtain ⟨a, b, rfl, ra, rb⟩ := h
  obtain ⟨A1, d1, rfl, m1, m2, -⟩ := ra.open_
  obtain ⟨A2, d2, rfl, -⟩ := rb.open_
  have hbx : Below w.heap.size w ((w.alloc (.cells #[.slice A1 r.by_.length d1, .slice A2 r.start.length d2] 49)).alloc (.cells #[.slice none 0 0, .slice none 0 0] 49)) := ((Below.refl _ _).alloc (Nat.le_refl _) _).alloc (by simp) _
  have hga : ((w.alloc (.cells #[.slice A1 r.by_.length d1, .slice A2 r.start.length d2] 49)).alloc (.cells #[.slice none 0 0, .slice none 0 0] 49)).heap[w.heap.size]? = some (.cells #[.slice A1 r.by_.length d1, .slice A2 r.start.length d2] 49 (0, 0)) := by
    rw [((Below.refl _ (w.alloc (.cells #[.slice A1 r.by_.length d1, .slice A2 r.start.length d2] 49))).alloc (Nat.le_refl _) _).block w.heap.size (by simp)]; exact heap_alloc_new _ _
  have hgb : ((w.alloc (.cells #[.slice A1 r.by_.length d1, .slice A2 r.start.length d2] 49)).alloc (.cells #[.slice none 0 0, .slice none 0 0] 49)).heap[w.heap.size + 1]? = some (.cells #[.slice none 0 0, .slice none 0 0] 49 (0, 0)) := by
    have h := heap_alloc_new (w.alloc (.cells #[.slice A1 r.by_.length d1, .slice A2 r.start.length d2] 49)) (.cells #[.slice none 0 0, .slice none 0 0] 49); rwa [World.size_alloc] at h
  have hsz : ((w.alloc (.cells #[.slice A1 r.by_.length d1, .slice A2 r.start.length d2] 49)).alloc (.cells #[.slice none 0 0, .slice none 0 0] 49)).heap.size = w.heap.size + 2 := by simp
  have hri := Lib.hid (refRight_any r _ _ (hR.out.below hbx (Nat.le_refl _)))
  clear ra rb
  by_cases h0 : rightR r = 0
  · have hr : Hid (shortR r = ((fitM (firstL r (2 * r.by_.length)) 12).getD ⟨[], []⟩, 0)) := Lib.hid (by rw [shortR, if_neg (by simpa using h0), short_fit h0])
    obtain ⟨o1, o2, o3, o4⟩ := rightR_ok h0
    have hfi := Lib.hid (fun W (hW : Below w.heap.size w W) => refFirst_any r (2 * r.by_.length) _ W (hR.out.below hW (Nat.le_refl _)) h0 (by omega))
    have hft := Lib.hid (fun v W hv => refFit_any (firstL r (2 * r.by_.length)) v W (by rw [firstL_len]; omega) (firstL_bd o4 _) hv)
    have hfl := Lib.hid (firstL_len r (2 * r.by_.length))
    rw [h0] at hri
    clear h0 o2 o3 o4 hR m2
    generalize firstL r (2 * r.by_.length) = FL at *
    generalize fitM FL 12 = FM at *
    generalize hn1 : r.by_.length = n at *
    generalize r.start.length = m at *
    generalize shortR r = SR at *
    have e2 : 2 * (n : Int) = ((2 * n : Nat) : Int) := by omega
    have w2 : IntKind.i64.wrap ((2 * n : Nat) : Int) = ((2 * n : Nat) : Int) := IntWalk.i64_in _ ⟨by omega, by omega⟩
    replace hn1 := Lib.hid hn1
    generalize 2 * n = n2 at *
    unfold FitRes at hft
    go_enter Tryd.func46, Tryd.ntmps46
    go_wp2_with fail
    generalize (w.alloc (.cells #[.slice A1 n d1, .slice A2 m d2] 49)).alloc (.cells #[.slice none 0 0, .slice none 0 0] 49) = X at *
    refine hri.out.mono ?_; rintro e W1 ⟨rfl, hB1⟩
    have hgX := (hB1.block w.heap.size (by omega)).trans hga
    obtain ⟨c0, c1, -, -⟩ := ret_cell hgX
    have hgY := (hB1.block (w.heap.size + 1) (by omega)).trans hgb
    have hB2 := Lib.hid (Below.then_ hbx hB1)
    clear hga hgb hri m1 hgX
    go_wp2_with fail
    refine (hfi.out W1 hB2.out).mono ?_; rintro e W2 ⟨⟨fv, rfl, hO⟩, hB3⟩
    have hl2 : w.heap.size + 1 < W1.heap.size := lt_of_block hgY
    have hgY2 := (hB3.block (w.heap.size + 1) hl2).trans hgY
    have hB4 := Lib.hid (Below.then_ hB2.out hB3)
    have hF := Lib.hid (hO.rd (by rw [hfl.out]; omega))
    clear hO hB3 hgY
    go_wp2_with fail
    refine (hft.out fv W2 hF.out).mono ?_; rintro e W3 ⟨v, rfl, hR3, hB5⟩
    have hl3 : w.heap.size + 1 < W2.heap.size := lt_of_block hgY2
    have hgY3 := (hB5.block (w.heap.size + 1) hl3).trans hgY2
    have hB6 := Lib.hid (Below.then_ hB4.out hB5)
    have hz := hB4.out.size
    change OwnR _ _ _ _ at hR3
    obtain ⟨vA, vn, vc, vB, vm, vd, rfl⟩ := hR3.shape
    have hal : Below W3.heap.size W3 (W3.alloc (.cells #[.slice vA vn vc, .slice vB vm vd] 49)) := (Below.refl _ _).alloc (Nat.le_refl _) _
    have hgn : (W3.alloc (.cells #[.slice vA vn vc, .slice vB vm vd] 49)).heap[W3.heap.size]? = some (.cells #[.slice vA vn vc, .slice vB vm vd] 49 (0, 0)) := heap_alloc_new _ _
    obtain ⟨d4, d5, -, -⟩ := ret_cell hgn
    have hl4 : w.heap.size + 1 < W3.heap.size := lt_of_block hgY3
    have hgE := (hal.block (w.heap.size + 1) hl4).trans hgY3
    obtain ⟨p0, p1, p2, p3⟩ := ret_cell hgE
    obtain ⟨q0, q1, q2, q3⟩ := ret_cell hgY3
    have hRE := Lib.hid (own_apart (x := .slice vA vn vc) (y := .slice vB vm vd) (own_kept hR3 hz (fun _ _ _ => rfl)) hgY3)
    have hBE := Lib.hid ((hB6.out.setCell (p := ⟨w.heap.size + 1, 0, none⟩) (by simp) (.slice vA vn vc)).setCell (p := ⟨w.heap.size + 1, 1, none⟩) (by simp) (.slice vB vm vd))
    have hgF := Lib.hid (heap_set2 (.slice vA vn vc) (.slice vB vm vd) hgY3)
    have hx := Lib.hid (fun (Y : World) (hY : Y = (W3.setCell ⟨w.heap.size + 1, 0, none⟩ (.slice vA vn vc)).setCell ⟨w.heap.size + 1, 1, none⟩ (.slice vB vm vd)) => (Below.refl Y.heap.size Y).alloc (Nat.le_refl _) (.cells #[.slice vA vn vc, .slice vB vm vd] 49))
    clear hgn hgY3 hgY2 hB5 hR3 hal hgE
    go_wp2
    have hy := hx.out _ rfl
    refine bodyPost_ret (res_ct rfl _ _ (w.heap.size + 1) 49 #[.slice vA vn vc, .slice vB vm vd] (0, 0) _ rfl ((hy.block _ (lt_of_block hgF.out)).trans hgF.out) rfl rfl rfl) rfl ?_
    rw [hr.out]
    exact ⟨_, rfl, hRE.out.below hy, Below.then_ hBE.out hy⟩
  · have hr : Hid (shortR r = (⟨[], []⟩, rightR r)) := Lib.hid (by rw [shortR, if_pos h0])
    have hne : (rightR r != 0) = true := by rw [bne_iff_ne]; exact h0
    generalize rightR r = x at *
    clear hR h0
    generalize r.by_.length = n at *
    generalize r.start.length = m at *
    go_enter Tryd.func46, Tryd.ntmps46
    go_wp2_with fail
    generalize (w.alloc (.cells #[.slice A1 n d1, .slice A2 m d2] 49)).alloc (.cells #[.slice none 0 0, .slice none 0 0] 49) = X at *
    refine hri.out.mono ?_; rintro e W1 ⟨rfl, hB1⟩
    have hB2 := Below.then_ hbx hB1
    have hg2 := (hB1.block (w.heap.size + 1) (by omega)).trans hgb
    obtain ⟨p0, p1, p2, p3⟩ := ret_cell hg2
    clear hga hgb hsz hbx
    go_wp2
    refine bodyPost_ret (res_ct rfl _ _ (w.heap.size + 1) 49 #[.slice none 0 0, .slice none 0 0] (0, 0) _ rfl (heap_set2 _ _ hg2) rfl rfl rfl) rfl ?_
    rw [hr.out]
    exact ⟨_, rfl, ⟨_, _, rfl, OwnI_nil _ _, OwnI_nil _ _⟩, (hB2.setCell (p := ⟨w.heap.size + 1, 0, none⟩) (by simp) _).setCell (p := ⟨w.heap.size + 1, 1, none⟩) (by simp) _⟩
end Go.Proofs.YtfljkcmijnhgkaaDoor

namespace Go.Proofs.YtfljkcmijnhgkaaDoor
open Go.RowKit Go.Shelf
set_option linter.unusedSimpArgs false

set_option maxRecDepth 100000 in
set_option maxHeartbeats 800000 in
theorem refBoth_any (r s : Rule) (v u : Value) (w : World) (h : RdR w v r) (h' : RdR w u s) :
    Calls Tryd.prog 107 #[v, u] w fun e w' => e = .returned (.int .i64 (bothR r s)) ∧ Below w.heap.size w w' := by
  have hr := Lib.hid h
  have hs := Lib.hid h'
  obtain ⟨a, b, rfl, -, -⟩ := h
  obtain ⟨a', b', rfl, -, -⟩ := h'
  have hbx : Below w.heap.size w ((w.alloc (.cells #[a, b] 49)).alloc (.cells #[a', b'] 49)) := ((Below.refl _ _).alloc (Nat.le_refl _) _).alloc (by simp) _
  have hgb : ((w.alloc (.cells #[a, b] 49)).alloc (.cells #[a', b'] 49)).heap[w.heap.size + 1]? = some (.cells #[a', b'] 49 (0, 0)) := by
    have h := heap_alloc_new (w.alloc (.cells #[a, b] 49)) (.cells #[a', b'] 49); rwa [World.size_alloc] at h
  have hga : ((w.alloc (.cells #[a, b] 49)).alloc (.cells #[a', b'] 49)).heap[w.heap.size]? = some (.cells #[a, b] 49 (0, 0)) := by
    rw [((Below.refl _ (w.alloc (.cells #[a, b] 49))).alloc (Nat.le_refl _) _).block w.heap.size (by simp)]; exact heap_alloc_new _ _
  have hsz : ((w.alloc (.cells #[a, b] 49)).alloc (.cells #[a', b'] 49)).heap.size = w.heap.size + 2 := by simp
  have c1 := Lib.hid (fun W (hW : Below w.heap.size w W) => refRight_any r _ W (hr.out.below hW (Nat.le_refl _)))
  have c2 := Lib.hid (fun W (hW : Below w.heap.size w W) => refRight_any s _ W (hs.out.below hW (Nat.le_refl _)))
  have mk : ∀ (W : World) (g : Nat) (x y : Value), W.heap[g]? = some (.cells #[x, y] 49 (0, 0)) → W.cell? ⟨g, 0, none⟩ = some x ∧ W.cell? ⟨g, 1, none⟩ = some y := fun W g x y h => ⟨by unfold World.cell?; rw [h]; rfl, by unfold World.cell?; rw [h]; rfl⟩
  obtain ⟨d0, d1⟩ := mk _ _ _ _ hga
  obtain ⟨d2, d3⟩ := mk _ _ _ _ hgb
  clear hr hs hga hgb mk
  by_cases h0 : rightR r = 0
  · have hR : Hid (bothR r s = rightR s) := Lib.hid (by unfold bothR; simp [h0])
    rw [h0] at c1
    generalize rightR s = y at *
    replace h0 := Lib.hid h0
    go_enter Tryd.func107, Tryd.ntmps107
    go_wp2_with fail
    generalize (w.alloc (.cells #[a, b] 49)).alloc (.cells #[a', b'] 49) = X at *
    refine (c1.out X hbx).mono ?_; rintro e W1 ⟨rfl, hB1⟩
    replace d2 := (hB1.cell (p := ⟨w.heap.size + 1, 0, none⟩) (by show w.heap.size + 1 < _; omega)).trans d2
    replace d3 := (hB1.cell (p := ⟨w.heap.size + 1, 1, none⟩) (by show w.heap.size + 1 < _; omega)).trans d3
    have hB2 := Below.then_ hbx hB1
    go_wp2_with fail
    refine (c2.out W1 hB2).mono ?_; rintro e W2 ⟨rfl, hB3⟩
    go_wp2
    go_ret
    exact ⟨by rw [hR.out]; rfl, Below.then_ hB2 hB3⟩
  · have hR : Hid (bothR r s = rightR r) := Lib.hid (by unfold bothR; simp [h0])
    have hne : (rightR r != 0) = true := by rw [bne_iff_ne]; exact h0
    generalize rightR r = x at *
    replace h0 := Lib.hid h0
    go_enter Tryd.func107, Tryd.ntmps107
    go_wp2_with fail
    generalize (w.alloc (.cells #[a, b] 49)).alloc (.cells #[a', b'] 49) = X at *
    refine (c1.out X hbx).mono ?_; rintro e W1 ⟨rfl, hB1⟩
    go_wp2
    go_ret
    exact ⟨by rw [hR.out]; rfl, Below.then_ hbx hB1⟩
end Go.Proofs.YtfljkcmijnhgkaaDoor
