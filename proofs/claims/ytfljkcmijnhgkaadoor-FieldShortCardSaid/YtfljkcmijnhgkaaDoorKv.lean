/- The reference's Solve, and FieldSolves: their contracts. -/
import Derived.Test.YtfljkcmijnhgkaaDoorKu
import Derived.Test.YtfljkcmijnhgkaaDoorKr
import Derived.Test.YtfljkcmijnhgkaaDoorKf
import Derived.Test.YtfljkcmijnhgkaaDoorKn
namespace Go.Proofs.YtfljkcmijnhgkaaDoor
open Go.RowKit Go.Shelf
set_option linter.unusedSimpArgs false

theorem res_below (xs : List Int) (v : Value) (w : World) (h : RdI w v xs) : Calls Tryd.prog 91 #[v] w fun e w' => e = .returned (.bool (isRes xs)) ∧ Below w.heap.size w w' :=
  (refResidues_any xs v w h).mono fun _ _ ⟨he, hw⟩ => ⟨he, hw ▸ Below.refl _ _⟩
set_option maxRecDepth 100000 in
set_option maxHeartbeats 800000 in
theorem refSolve_any (a : List (List Int)) (b : List Int) (va vb : Value) (w : World) (ha : RdM w va a) (hb : RdI w vb b) :
    Calls Tryd.prog 21 #[va, vb] w (RowErr (solR a b) w) := by
  have hc := Lib.hid (refCheck_any a va w ha)
  by_cases h0 : checkM a = 0
  · obtain ⟨hok, h1, h2, h3, h4⟩ := checkM_ok h0
    obtain ⟨A, c, e, l1, l2, l3⟩ := ha.open_
    obtain ⟨A', c', e', -⟩ := hb.open_
    by_cases hl : b.length = a.length
    · have hi := Lib.hid (fun W (hW : Below w.heap.size w W) => res_below b vb W (hb.below hW (Nat.le_refl _)))
      have hlI : ((b.length : Int) != (a.length : Int)) = false := by rw [hl]; simp
      cases hr : isRes b
      · have hs : Hid (solR a b = (3, [])) := by rw [solR, if_neg (by simpa using h0), if_neg (by simpa using hl), if_pos hr]; exact rfl
        rw [hr] at hi
        rw [h0] at hc
        subst e e'
        clear l3 ha hb hok h0
        generalize a.length = n at *
        generalize b.length = m at *
        subst hl
        go_enter Tryd.func21, Tryd.ntmps21
        go_wp2_with fail
        refine hc.out.mono ?_; rintro e W ⟨rfl, hB⟩
        go_wp2_with fail
        refine (hi.out W hB).mono ?_; rintro e W2 ⟨rfl, hB2⟩
        go_wp2
        go_ret2
        rw [hs.out]
        exact ⟨_, rfl, OwnI_nil _ _, Below.then_ hB hB2⟩
      · have hs : Hid (solR a b = match solvedM a b (len0 a) with | none => (6, []) | some x => (0, x)) := by
          rw [solR, if_neg (by simpa using h0), if_neg (by simpa using hl), if_neg (by simp [hr])]; exact rfl
        obtain ⟨b0, off, u, rfl, hcell, hu⟩ := l3 0 (by omega)
        obtain ⟨A1, c1, rfl, f1, f2⟩ := hu.cell_
        change _ = some (Value.slice A1 (len0 a) c1) at hcell
        rw [Nat.add_zero] at hcell
        have hlt : b0 < w.heap.size := World.block_lt_of_cell? w _ hcell
        have hsv := Lib.hid (fun W (hW : Below w.heap.size w W) => Solution_any a b a.length (len0 a) va vb W (ha.below hW (Nat.le_refl _)) (hb.below hW (Nat.le_refl _)) hok hl (isRes_iff.1 hr) (by omega) (by omega))
        rw [hr] at hi
        rw [h0] at hc
        subst e e'
        clear l3 hu ha hb hok f1 f2 h0 hr
        generalize solvedM a b (len0 a) = S at *
        generalize solR a b = R at *
        generalize a.length = n at *
        generalize len0 a = m at *
        generalize b.length = l at *
        subst hl
        have n1 : (0 : Int) < (l : Int) := by omega
        go_enter Tryd.func21, Tryd.ntmps21
        go_wp2_with fail
        refine hc.out.mono ?_; rintro e W ⟨rfl, hB⟩
        go_wp2_with fail
        refine (hi.out W hB).mono ?_; rintro e W2 ⟨rfl, hB2⟩
        have hB3 := Lib.hid (Below.then_ hB hB2)
        have hcell2 := (hB3.out.cell (p := ⟨b0, off, none⟩) hlt).trans hcell
        clear hB hB2
        go_wp2_with fail
        refine (hsv.out W2 hB3.out).mono ?_; rintro e W3 ⟨⟨v, rfl, hO⟩, hB4⟩
        replace hO := Lib.hid hO
        have hB5 := Lib.hid (Below.then_ hB3.out hB4)
        clear hB4
        cases S with
        | none =>
          simp only [Option.isSome_none] at hO ⊢
          go_wp2
          go_ret2
          rw [hs.out]
          exact ⟨_, rfl, OwnI_nil _ _, hB5.out⟩
        | some x =>
          simp only [Option.isSome_some, Option.getD_some] at hO ⊢
          go_wp2
          go_ret2
          rw [hs.out]
          exact ⟨_, rfl, hO.out.base hB3.out.size, hB5.out⟩
    · have hs : Hid (solR a b = (4, [])) := by rw [solR, if_neg (by simpa using h0), if_pos (by simpa using hl)]; exact rfl
      have hne : ((b.length : Int) != (a.length : Int)) = true := by rw [bne_iff_ne]; omega
      rw [h0] at hc
      subst e e'
      clear l3 ha hb hok h0
      generalize a.length = n at *
      generalize b.length = m at *
      go_enter Tryd.func21, Tryd.ntmps21
      go_wp2_with fail
      refine hc.out.mono ?_; rintro e W ⟨rfl, hB⟩
      go_wp2
      go_ret2
      rw [hs.out]
      exact ⟨_, rfl, OwnI_nil _ _, hB⟩
  · have hs : Hid (solR a b = (checkM a, [])) := by rw [solR, if_pos h0]; exact rfl
    have hne : (checkM a != 0) = true := by rw [bne_iff_ne]; exact h0
    generalize checkM a = x at *
    clear ha hb h0
    go_enter Tryd.func21, Tryd.ntmps21
    go_wp2_with fail
    refine hc.out.mono ?_; rintro e W ⟨rfl, hB⟩
    go_wp2
    go_ret2
    rw [hs.out]
    exact ⟨_, rfl, OwnI_nil _ _, hB⟩
theorem great_not {rs : List (List Int)} (h : greatM rs = false) : rs.length ≤ 20 ∧ ∀ r ∈ rs, r.length ≤ 20 := by
  simp only [greatM, Bool.or_eq_false_iff, decide_eq_false_iff_not, List.any_eq_false, decide_eq_true_eq] at h
  exact ⟨by omega, fun r hr => by have := h.2 r hr; omega⟩
theorem fillX_len (s : Sys) (m : Nat) : (fillX s m).length = m := by
  have := xP_len s m s.piv.length
  rwa [xP, List.take_length] at this
theorem solR_len (a : List (List Int)) (b : List Int) : (solR a b).2.length ≤ 12 := by
  unfold solR
  split
  · simp
  · rename_i h1
    obtain ⟨ha, p1, p2, p3, p4⟩ := checkM_ok (by simpa using h1)
    split
    · simp
    · split
      · simp
      · split
        · simp
        · rename_i x hx
          unfold solvedM at hx
          split at hx
          · cases hx; show (fillX _ _).length ≤ 12; rw [fillX_len]; exact p4
          · cases hx
set_option maxRecDepth 100000 in
set_option maxHeartbeats 3200000 in
theorem FieldSolves_any (a : List (List Int)) (b : List Int) (va vb : Value) (w : World) (ra : RdM w va a) (rb : RdI w vb b) (hJ : Joins w) :
    Calls Tryd.prog 3 #[va, vb] w fun e w' => e = .returned (.bool true) ∧ Below w.heap.size w w' := by
  have hg1 := Lib.hid (great_any a va w ra)
  have hA := Lib.hid (fun W (hW : Below w.heap.size w W) => awake_any W (hJ.below hW))
  obtain ⟨B, d, eb, g1, g2⟩ := rb.cell_
  cases e1 : greatM a with
  | true =>
    rw [e1] at hg1
    replace e1 := Lib.hid e1
    clear ra rb
    go_enter Tryd.func3, Tryd.ntmps3
    go_wp2_with fail
    refine hg1.out.mono ?_; rintro e W1 ⟨rfl, hB1⟩
    go_wp2_with fail
    refine (hA.out W1 hB1).mono ?_; rintro e W2 ⟨rfl, hB2⟩
    go_wp2
    go_ret
    exact ⟨rfl, Below.then_ hB1 hB2⟩
  | false =>
    rw [e1] at hg1
    by_cases hb : 40 < b.length
    · have hb2 : (40 : Int) < (b.length : Int) := by omega
      subst eb
      replace e1 := Lib.hid e1
      clear ra rb
      generalize b.length = n at *
      go_enter Tryd.func3, Tryd.ntmps3
      go_wp2_with fail
      refine hg1.out.mono ?_; rintro e W1 ⟨rfl, hB1⟩
      go_wp2_with fail
      refine (hA.out W1 hB1).mono ?_; rintro e W2 ⟨rfl, hB2⟩
      go_wp2
      go_ret
      exact ⟨rfl, Below.then_ hB1 hB2⟩
    · have hb2 : ¬ (40 : Int) < (b.length : Int) := by omega
      obtain ⟨la, ma⟩ := great_not e1
      have da := Lib.hid (fun W (hW : Below w.heap.size w W) => DupRows_any a va W (ra.below hW (Nat.le_refl _)) (by omega) (fun r hr => by have := ma r hr; omega))
      have db := Lib.hid (fun W (hW : Below w.heap.size w W) => Dup_any b vb W (rb.below hW (Nat.le_refl _)) (by omega))
      have rs := Lib.hid (fun W (hW : Below w.heap.size w W) => refSolve_any a b va vb W (ra.below hW (Nat.le_refl _)) (rb.below hW (Nat.le_refl _)))
      have fs := Lib.hid (fun vx vy W hx hy => Solve_any a b vx vy W hx hy)
      have hsl := Lib.hid (solR_len a b)
      have rdA : Hid (∀ W base v, OwnM W base v a → RdM W v a) := Lib.hid (fun W base v h => h.rd (by omega) (fun r hr => by have := ma r hr; omega))
      have rdB : Hid (∀ W base v, OwnI W base v b → RdI W v b) := Lib.hid (fun W base v h => h.rd (by omega))
      replace ra := Lib.hid ra
      replace rb := Lib.hid rb
      subst eb
      clear hJ la ma e1 hb
      generalize solR a b = R at *
      obtain ⟨Re, R⟩ := R
      simp only [RowErr] at rs fs hsl
      have rdR : Hid (∀ W base v, OwnI W base v R → RdI W v R) := Lib.hid (fun W base v h => h.rd (by have := hsl.out; omega))
      generalize hbn : b.length = n at *
      replace hbn := Lib.hid hbn
      go_enter Tryd.func3, Tryd.ntmps3
      go_wp2_with fail
      refine hg1.out.mono ?_; rintro e W2 ⟨rfl, hB2⟩
      replace hB2 := Lib.hid hB2
      clear hg1
      go_wp2_with fail
      refine (da.out W2 hB2.out).mono ?_; rintro e W3 ⟨⟨x, rfl, ox⟩, hB3⟩
      replace hB3 := Lib.hid (Below.then_ hB2.out hB3)
      have rx := Lib.hid (rdA.out _ _ _ ox)
      clear ox
      go_wp2_with fail
      refine (db.out W3 hB3.out).mono ?_; rintro e W4 ⟨⟨y, rfl, oy⟩, hB4⟩
      replace rx := Lib.hid (rx.out.below hB4 (Nat.le_refl _))
      replace hB4 := Lib.hid (Below.then_ hB3.out hB4)
      have ry := Lib.hid (rdB.out _ _ _ oy)
      clear oy da db hB2 hB3
      go_wp2_with fail
      refine (rs.out W4 hB4.out).mono ?_; rintro e W5 ⟨m, rfl, om, hB5⟩
      replace rx := Lib.hid (rx.out.below hB5 (Nat.le_refl _))
      replace ry := Lib.hid (ry.out.below hB5 (Nat.le_refl _))
      replace hB5 := Lib.hid (Below.then_ hB4.out hB5)
      have rM := Lib.hid (rdR.out _ _ _ om)
      clear om rs hB4
      go_wp2_with fail
      refine (fs.out x y W5 rx.out ry.out).mono ?_; rintro e W6 ⟨l, rfl, ol, hB6⟩
      replace rx := Lib.hid (rx.out.below hB6 (Nat.le_refl _))
      replace ry := Lib.hid (ry.out.below hB6 (Nat.le_refl _))
      replace rM := Lib.hid (rM.out.below hB6 (Nat.le_refl _))
      replace hB6 := Lib.hid (Below.then_ hB5.out hB6)
      have rL := Lib.hid (rdR.out _ _ _ ol)
      clear ol fs hB5
      have q1 := Lib.hid (Equal_any R R l m W6 rL.out rM.out)
      rw [decide_eq_true rfl] at q1
      go_wp2_with fail
      refine q1.out.mono ?_; rintro e W7 ⟨rfl, hB7⟩
      replace rx := Lib.hid (rx.out.below hB7 (Nat.le_refl _))
      replace ry := Lib.hid (ry.out.below hB7 (Nat.le_refl _))
      replace hB7 := Lib.hid (Below.then_ hB6.out hB7)
      clear q1 hB6
      have q2 := Lib.hid (EqRows_any a a x va W7 rx.out (ra.out.below hB7.out (Nat.le_refl _)))
      rw [decide_eq_true rfl] at q2
      go_wp2_with fail
      refine q2.out.mono ?_; rintro e W8 ⟨rfl, hB8⟩
      replace ry := Lib.hid (ry.out.below hB8 (Nat.le_refl _))
      replace hB8 := Lib.hid (Below.then_ hB7.out hB8)
      clear q2 hB7
      have q3 := Lib.hid (Equal_any b b y _ W8 ry.out (rb.out.below hB8.out (Nat.le_refl _)))
      rw [decide_eq_true rfl] at q3
      go_wp2_with fail
      refine q3.out.mono ?_; rintro e W9 ⟨rfl, hB9⟩
      replace hB9 := Lib.hid (Below.then_ hB8.out hB9)
      clear q3 hB8
      go_wp2_with fail
      refine (hA.out W9 hB9.out).mono ?_; rintro e W10 ⟨rfl, hB10⟩
      go_wp2
      go_ret
      exact ⟨rfl, Below.then_ hB9.out hB10⟩
end Go.Proofs.YtfljkcmijnhgkaaDoor
