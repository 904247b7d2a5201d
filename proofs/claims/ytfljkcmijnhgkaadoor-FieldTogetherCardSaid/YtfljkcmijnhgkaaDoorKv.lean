/- The reference's Solve, and FieldSolves: their contracts. The reference's Right: its contract. The reference's First and Terms: their contracts. The reference's Own: its contract. The law's helper ruled: its contract. -/
import Derived.Test.YtfljkcmijnhgkaaDoorKu
import Derived.Test.YtfljkcmijnhgkaaDoorKr
import Derived.Test.YtfljkcmijnhgkaaDoorKf
import Derived.Test.YtfljkcmijnhgkaaDoorKn
import Derived.Test.YtfljkcmijnhgkaaDoorKg
import Derived.Test.YtfljkcmijnhgkaaDoorKk
import Derived.Test.YtfljkcmijnhgkaaDoorKh
import Derived.Test.YtfljkcmijnhgkaaDoorKj
namespace Go.Proofs.YtfljkcmijnhgkaaDoor
open Go.RowKit Go.Shelf
set_option linter.unusedSimpArgs false

theorem res_below (xs : List Int) (v : Value) (w : World) (h : RdI w v xs) : Calls Tryd.prog 91 #[v] w fun e w' => e = .returned (.bool (isRes xs)) ∧ Below w.heap.size w w' :=
  (refResidues_any xs v w h).mono fun _ _ ⟨he, hw⟩ => ⟨he, hw ▸ Below.refl _ _⟩
set_option maxRecDepth 100000 in
set_option maxHeartbeats 800000 in
theorem refSolve_any (a : List (List Int)) (b : List Int) (va vb : Value) (w : World) (ha : RdM w va a) (hb : RdI w vb b) :
    Calls Tryd.prog 21 #[va, vb] w (RowErr (solR a b) w) := by
  have hc := Lib.hid (refCheck_any a va w ha)
  by_cases h0 : checkM a = 0
  · obtain ⟨hok, h1, h2, h3, h4⟩ := checkM_ok h0
    obtain ⟨A, c, e, l1, l2, l3⟩ := ha.open_
    obtain ⟨A', c', e', -⟩ := hb.open_
    by_cases hl : b.length = a.length
    · have hi := Lib.hid (fun W (hW : Below w.heap.size w W) => res_below b vb W (hb.below hW (Nat.le_refl _)))
      have hlI : ((b.length : Int) != (a.length : Int)) = false := by rw [hl]; simp
      cases hr : isRes b
      · have hs : Hid (solR a b = (3, [])) := by rw [solR, if_neg (by simpa using h0), if_neg (by simpa using hl), if_pos hr]; exact rfl
        rw [hr] at hi
        rw [h0] at hc
        subst e e'
        clear l3 ha hb hok h0
        generalize a.length = n at *
        generalize b.length = m at *
        subst hl
        go_enter Tryd.func21, Tryd.ntmps21
        go_wp2_with fail
        refine hc.out.mono ?_; rintro e W ⟨rfl, hB⟩
        go_wp2_with fail
        refine (hi.out W hB).mono ?_; rintro e W2 ⟨rfl, hB2⟩
        go_wp2
        go_ret2
        rw [hs.out]
        exact ⟨_, rfl, OwnI_nil _ _, Below.then_ hB hB2⟩
      · have hs : Hid (solR a b = match solvedM a b (len0 a) with | none => (6, []) | some x => (0, x)) := by
          rw [solR, if_neg (by simpa using h0), if_neg (by simpa using hl), if_neg (by simp [hr])]; exact rfl
        obtain ⟨b0, off, u, rfl, hcell, hu⟩ := l3 0 (by omega)
        obtain ⟨A1, c1, rfl, f1, f2⟩ := hu.cell_
        change _ = some (Value.slice A1 (len0 a) c1) at hcell
        rw [Nat.add_zero] at hcell
        have hlt : b0 < w.heap.size := World.block_lt_of_cell? w _ hcell
        have hsv := Lib.hid (fun W (hW : Below w.heap.size w W) => Solution_any a b a.length (len0 a) va vb W (ha.below hW (Nat.le_refl _)) (hb.below hW (Nat.le_refl _)) hok hl (isRes_iff.1 hr) (by omega) (by omega))
        rw [hr] at hi
        rw [h0] at hc
        subst e e'
        clear l3 hu ha hb hok f1 f2 h0 hr
        generalize solvedM a b (len0 a) = S at *
        generalize solR a b = R at *
        generalize a.length = n at *
        generalize len0 a = m at *
        generalize b.length = l at *
        subst hl
        have n1 : (0 : Int) < (l : Int) := by omega
        go_enter Tryd.func21, Tryd.ntmps21
        go_wp2_with fail
        refine hc.out.mono ?_; rintro e W ⟨rfl, hB⟩
        go_wp2_with fail
        refine (hi.out W hB).mono ?_; rintro e W2 ⟨rfl, hB2⟩
        have hB3 := Lib.hid (Below.then_ hB hB2)
        have hcell2 := (hB3.out.cell (p := ⟨b0, off, none⟩) hlt).trans hcell
        clear hB hB2
        go_wp2_with fail
        refine (hsv.out W2 hB3.out).mono ?_; rintro e W3 ⟨⟨v, rfl, hO⟩, hB4⟩
        replace hO := Lib.hid hO
        have hB5 := Lib.hid (Below.then_ hB3.out hB4)
        clear hB4
        cases S with
        | none =>
          simp only [Option.isSome_none] at hO ⊢
          go_wp2
          go_ret2
          rw [hs.out]
          exact ⟨_, rfl, OwnI_nil _ _, hB5.out⟩
        | some x =>
          simp only [Option.isSome_some, Option.getD_some] at hO ⊢
          go_wp2
          go_ret2
          rw [hs.out]
          exact ⟨_, rfl, hO.out.base hB3.out.size, hB5.out⟩
    · have hs : Hid (solR a b = (4, [])) := by rw [solR, if_neg (by simpa using h0), if_pos (by simpa using hl)]; exact rfl
      have hne : ((b.length : Int) != (a.length : Int)) = true := by rw [bne_iff_ne]; omega
      rw [h0] at hc
      subst e e'
      clear l3 ha hb hok h0
      generalize a.length = n at *
      generalize b.length = m at *
      go_enter Tryd.func21, Tryd.ntmps21
      go_wp2_with fail
      refine hc.out.mono ?_; rintro e W ⟨rfl, hB⟩
      go_wp2
      go_ret2
      rw [hs.out]
      exact ⟨_, rfl, OwnI_nil _ _, hB⟩
  · have hs : Hid (solR a b = (checkM a, [])) := by rw [solR, if_pos h0]; exact rfl
    have hne : (checkM a != 0) = true := by rw [bne_iff_ne]; exact h0
    generalize checkM a = x at *
    clear ha hb h0
    go_enter Tryd.func21, Tryd.ntmps21
    go_wp2_with fail
    refine hc.out.mono ?_; rintro e W ⟨rfl, hB⟩
    go_wp2
    go_ret2
    rw [hs.out]
    exact ⟨_, rfl, OwnI_nil _ _, hB⟩
theorem great_not {rs : List (List Int)} (h : greatM rs = false) : rs.length ≤ 20 ∧ ∀ r ∈ rs, r.length ≤ 20 := by
  simp only [greatM, Bool.or_eq_false_iff, decide_eq_false_iff_not, List.any_eq_false, decide_eq_true_eq] at h
  exact ⟨by omega, fun r hr => by have := h.2 r hr; omega⟩
theorem fillX_len (s : Sys) (m : Nat) : (fillX s m).length = m := by
  have := xP_len s m s.piv.length
  rwa [xP, List.take_length] at this
theorem solR_len (a : List (List Int)) (b : List Int) : (solR a b).2.length ≤ 12 := by
  unfold solR
  split
  · simp
  · rename_i h1
    obtain ⟨ha, p1, p2, p3, p4⟩ := checkM_ok (by simpa using h1)
    split
    · simp
    · split
      · simp
      · split
        · simp
        · rename_i x hx
          unfold solvedM at hx
          split at hx
          · cases hx; show (fillX _ _).length ≤ 12; rw [fillX_len]; exact p4
          · cases hx
set_option maxRecDepth 100000 in
set_option maxHeartbeats 3200000 in
theorem FieldSolves_any (a : List (List Int)) (b : List Int) (va vb : Value) (w : World) (ra : RdM w va a) (rb : RdI w vb b) (hJ : Joins w) :
    Calls Tryd.prog 3 #[va, vb] w fun e w' => e = .returned (.bool true) ∧ Below w.heap.size w w' := by
  have hg1 := Lib.hid (great_any a va w ra)
  have hA := Lib.hid (fun W (hW : Below w.heap.size w W) => awake_any W (hJ.below hW))
  obtain ⟨B, d, eb, g1, g2⟩ := rb.cell_
  cases e1 : greatM a with
  | true =>
    rw [e1] at hg1
    replace e1 := Lib.hid e1
    clear ra rb
    go_enter Tryd.func3, Tryd.ntmps3
    go_wp2_with fail
    refine hg1.out.mono ?_; rintro e W1 ⟨rfl, hB1⟩
    go_wp2_with fail
    refine (hA.out W1 hB1).mono ?_; rintro e W2 ⟨rfl, hB2⟩
    go_wp2
    go_ret
    exact ⟨rfl, Below.then_ hB1 hB2⟩
  | false =>
    rw [e1] at hg1
    by_cases hb : 40 < b.length
    · have hb2 : (40 : Int) < (b.length : Int) := by omega
      subst eb
      replace e1 := Lib.hid e1
      clear ra rb
      generalize b.length = n at *
      go_enter Tryd.func3, Tryd.ntmps3
      go_wp2_with fail
      refine hg1.out.mono ?_; rintro e W1 ⟨rfl, hB1⟩
      go_wp2_with fail
      refine (hA.out W1 hB1).mono ?_; rintro e W2 ⟨rfl, hB2⟩
      go_wp2
      go_ret
      exact ⟨rfl, Below.then_ hB1 hB2⟩
    · have hb2 : ¬ (40 : Int) < (b.length : Int) := by omega
      obtain ⟨la, ma⟩ := great_not e1
      have da := Lib.hid (fun W (hW : Below w.heap.size w W) => DupRows_any a va W (ra.below hW (Nat.le_refl _)) (by omega) (fun r hr => by have := ma r hr; omega))
      have db := Lib.hid (fun W (hW : Below w.heap.size w W) => Dup_any b vb W (rb.below hW (Nat.le_refl _)) (by omega))
      have rs := Lib.hid (fun W (hW : Below w.heap.size w W) => refSolve_any a b va vb W (ra.below hW (Nat.le_refl _)) (rb.below hW (Nat.le_refl _)))
      have fs := Lib.hid (fun vx vy W hx hy => Solve_any a b vx vy W hx hy)
      have hsl := Lib.hid (solR_len a b)
      have rdA : Hid (∀ W base v, OwnM W base v a → RdM W v a) := Lib.hid (fun W base v h => h.rd (by omega) (fun r hr => by have := ma r hr; omega))
      have rdB : Hid (∀ W base v, OwnI W base v b → RdI W v b) := Lib.hid (fun W base v h => h.rd (by omega))
      replace ra := Lib.hid ra
      replace rb := Lib.hid rb
      subst eb
      clear hJ la ma e1 hb
      generalize solR a b = R at *
      obtain ⟨Re, R⟩ := R
      simp only [RowErr] at rs fs hsl
      have rdR : Hid (∀ W base v, OwnI W base v R → RdI W v R) := Lib.hid (fun W base v h => h.rd (by have := hsl.out; omega))
      generalize hbn : b.length = n at *
      replace hbn := Lib.hid hbn
      go_enter Tryd.func3, Tryd.ntmps3
      go_wp2_with fail
      refine hg1.out.mono ?_; rintro e W2 ⟨rfl, hB2⟩
      replace hB2 := Lib.hid hB2
      clear hg1
      go_wp2_with fail
      refine (da.out W2 hB2.out).mono ?_; rintro e W3 ⟨⟨x, rfl, ox⟩, hB3⟩
      replace hB3 := Lib.hid (Below.then_ hB2.out hB3)
      have rx := Lib.hid (rdA.out _ _ _ ox)
      clear ox
      go_wp2_with fail
      refine (db.out W3 hB3.out).mono ?_; rintro e W4 ⟨⟨y, rfl, oy⟩, hB4⟩
      replace rx := Lib.hid (rx.out.below hB4 (Nat.le_refl _))
      replace hB4 := Lib.hid (Below.then_ hB3.out hB4)
      have ry := Lib.hid (rdB.out _ _ _ oy)
      clear oy da db hB2 hB3
      go_wp2_with fail
      refine (rs.out W4 hB4.out).mono ?_; rintro e W5 ⟨m, rfl, om, hB5⟩
      replace rx := Lib.hid (rx.out.below hB5 (Nat.le_refl _))
      replace ry := Lib.hid (ry.out.below hB5 (Nat.le_refl _))
      replace hB5 := Lib.hid (Below.then_ hB4.out hB5)
      have rM := Lib.hid (rdR.out _ _ _ om)
      clear om rs hB4
      go_wp2_with fail
      refine (fs.out x y W5 rx.out ry.out).mono ?_; rintro e W6 ⟨l, rfl, ol, hB6⟩
      replace rx := Lib.hid (rx.out.below hB6 (Nat.le_refl _))
      replace ry := Lib.hid (ry.out.below hB6 (Nat.le_refl _))
      replace rM := Lib.hid (rM.out.below hB6 (Nat.le_refl _))
      replace hB6 := Lib.hid (Below.then_ hB5.out hB6)
      have rL := Lib.hid (rdR.out _ _ _ ol)
      clear ol fs hB5
      have q1 := Lib.hid (Equal_any R R l m W6 rL.out rM.out)
      rw [decide_eq_true rfl] at q1
      go_wp2_with fail
      refine q1.out.mono ?_; rintro e W7 ⟨rfl, hB7⟩
      replace rx := Lib.hid (rx.out.below hB7 (Nat.le_refl _))
      replace ry := Lib.hid (ry.out.below hB7 (Nat.le_refl _))
      replace hB7 := Lib.hid (Below.then_ hB6.out hB7)
      clear q1 hB6
      have q2 := Lib.hid (EqRows_any a a x va W7 rx.out (ra.out.below hB7.out (Nat.le_refl _)))
      rw [decide_eq_true rfl] at q2
      go_wp2_with fail
      refine q2.out.mono ?_; rintro e W8 ⟨rfl, hB8⟩
      replace ry := Lib.hid (ry.out.below hB8 (Nat.le_refl _))
      replace hB8 := Lib.hid (Below.then_ hB7.out hB8)
      clear q2 hB7
      have q3 := Lib.hid (Equal_any b b y _ W8 ry.out (rb.out.below hB8.out (Nat.le_refl _)))
      rw [decide_eq_true rfl] at q3
      go_wp2_with fail
      refine q3.out.mono ?_; rintro e W9 ⟨rfl, hB9⟩
      replace hB9 := Lib.hid (Below.then_ hB8.out hB9)
      clear q3 hB8
      go_wp2_with fail
      refine (hA.out W9 hB9.out).mono ?_; rintro e W10 ⟨rfl, hB10⟩
      go_wp2
      go_ret
      exact ⟨rfl, Below.then_ hB9.out hB10⟩
end Go.Proofs.YtfljkcmijnhgkaaDoor

namespace Go.Proofs.YtfljkcmijnhgkaaDoor
open Go.RowKit Go.Shelf
set_option linter.unusedSimpArgs false

set_option maxHeartbeats 1600000 in
theorem refRight_any (r : Rule) (v : Value) (w : World) (h : RdR w v r) :
    Calls Tryd.prog 85 #[v] w fun e w' => e = .returned (.int .i64 (rightR r)) ∧ Below w.heap.size w w' := by
  obtain ⟨a, b, rfl, ra, rb⟩ := h
  have hbx : Below w.heap.size w (w.alloc (.cells #[a, b] 49)) := (Below.refl _ _).alloc (Nat.le_refl _) _
  have hg : (w.alloc (.cells #[a, b] 49)).heap[w.heap.size]? = some (.cells #[a, b] 49 (0, 0)) := heap_alloc_new _ _
  have hsz : (w.alloc (.cells #[a, b] 49)).heap.size = w.heap.size + 1 := by simp
  have hi := Lib.hid (fun W (hW : Below w.heap.size w W) => res_below r.by_ a W (ra.below hW (Nat.le_refl _)))
  have hj := Lib.hid (fun W (hW : Below w.heap.size w W) => res_below r.start b W (rb.below hW (Nat.le_refl _)))
  obtain ⟨A, c, rfl, h1, h2, -⟩ := ra.open_
  obtain ⟨B, d, rfl, g1, g2, -⟩ := rb.open_
  have hc0 : (w.alloc (.cells #[.slice A r.by_.length c, .slice B r.start.length d] 49)).cell? ⟨w.heap.size, 0, none⟩ = some (.slice A r.by_.length c) := by unfold World.cell?; rw [hg]; rfl
  have hc1 : (w.alloc (.cells #[.slice A r.by_.length c, .slice B r.start.length d] 49)).cell? ⟨w.heap.size, 1, none⟩ = some (.slice B r.start.length d) := by unfold World.cell?; rw [hg]; rfl
  have hR : Hid (rightR r = if r.by_.length > 12 then 2 else if r.start.length ≠ r.by_.length then 4 else if isRes r.by_ = false ∨ isRes r.start = false then 3 else 0) := Lib.hid rfl
  clear ra rb hg
  generalize r.by_.length = n at *
  generalize r.start.length = m at *
  by_cases q1 : n > 12
  · have hr : Hid (rightR r = 2) := Lib.hid (by rw [hR.out, if_pos q1])
    have q2 : (12 : Int) < (n : Int) := by omega
    go_enter Tryd.func85, Tryd.ntmps85
    go_wp2
    go_ret
    exact ⟨by rw [hr.out]; rfl, hbx⟩
  · have q2 : ¬ (12 : Int) < (n : Int) := by omega
    by_cases q3 : m = n
    · subst q3
      have hne : ((m : Int) != (m : Int)) = false := by simp
      cases p1 : isRes r.by_
      · have hr : Hid (rightR r = 3) := Lib.hid (by rw [hR.out, if_neg q1, if_neg (by simp), if_pos (.inl p1)])
        rw [p1] at hi
        go_enter Tryd.func85, Tryd.ntmps85
        go_wp2_with fail
        refine (hi.out _ hbx).mono ?_; rintro e W1 ⟨rfl, hB1⟩
        go_wp2
        go_ret
        exact ⟨by rw [hr.out]; rfl, Below.then_ hbx hB1⟩
      · rw [p1] at hi
        cases p2 : isRes r.start
        · have hr : Hid (rightR r = 3) := Lib.hid (by rw [hR.out, if_neg q1, if_neg (by simp), if_pos (.inr p2)])
          rw [p2] at hj
          go_enter Tryd.func85, Tryd.ntmps85
          go_wp2_with fail
          refine (hi.out _ hbx).mono ?_; rintro e W1 ⟨rfl, hB1⟩
          have hc2 := (hB1.cell (p := ⟨w.heap.size, 1, none⟩) (by rw [hsz]; exact Nat.lt_succ_self _)).trans hc1
          have hB2 := Below.then_ hbx hB1
          go_wp2_with fail
          refine (hj.out _ hB2).mono ?_; rintro e W2 ⟨rfl, hB3⟩
          go_wp2
          go_ret
          exact ⟨by rw [hr.out]; rfl, Below.then_ hB2 hB3⟩
        · have hr : Hid (rightR r = 0) := Lib.hid (by rw [hR.out, if_neg q1, if_neg (by simp), if_neg (by simp [p1, p2])])
          rw [p2] at hj
          go_enter Tryd.func85, Tryd.ntmps85
          go_wp2_with fail
          refine (hi.out _ hbx).mono ?_; rintro e W1 ⟨rfl, hB1⟩
          have hc2 := (hB1.cell (p := ⟨w.heap.size, 1, none⟩) (by rw [hsz]; exact Nat.lt_succ_self _)).trans hc1
          have hB2 := Below.then_ hbx hB1
          go_wp2_with fail
          refine (hj.out _ hB2).mono ?_; rintro e W2 ⟨rfl, hB3⟩
          go_wp2
          go_ret
          exact ⟨by rw [hr.out]; rfl, Below.then_ hB2 hB3⟩
    · have hr : Hid (rightR r = 4) := Lib.hid (by rw [hR.out, if_neg q1, if_pos q3])
      have hne : ((m : Int) != (n : Int)) = true := by rw [bne_iff_ne]; omega
      go_enter Tryd.func85, Tryd.ntmps85
      go_wp2
      go_ret
      exact ⟨by rw [hr.out]; rfl, hbx⟩
end Go.Proofs.YtfljkcmijnhgkaaDoor

namespace Go.Proofs.YtfljkcmijnhgkaaDoor
open Go.RowKit Go.Shelf
set_option linter.unusedSimpArgs false

theorem own_snoc {w : World} {base L : Nat} {v : Value} {xs : List Int} {x : Int} (hL : xs.length = L) (h : w.ownsRow base 3 1 v (L + 1) (ints xs ++ [.int .i64 x])) : OwnI w base v (xs ++ [x]) := by
  unfold OwnI
  rw [List.length_append, hL, ints_append, List.length_singleton]
  exact h
set_option maxRecDepth 100000 in
set_option maxHeartbeats 3200000 in
theorem refFirst_any (r : Rule) (n : Nat) (v : Value) (w : World) (h : RdR w v r) (hr : rightR r = 0) (hn : n ≤ 1000) :
    Calls Tryd.prog 108 #[v, .int .i64 n] w fun e w' => (∃ u, e = .returned u ∧ OwnI w' w.heap.size u (firstL r n)) ∧ Below w.heap.size w w' := by
  obtain ⟨i0, hi, hz0, hz1, hz2⟩ := info_parts infoI
  obtain ⟨a, b, rfl, ra, rb⟩ := h
  obtain ⟨hl12, hll, hbb, hbs⟩ := rightR_ok hr
  obtain ⟨A, c, rfl, h1, h2, h3⟩ := ra.open_
  obtain ⟨B, d, rfl, g1, g2, g3⟩ := rb.open_
  have hbx : Below w.heap.size w (w.alloc (.cells #[.slice A r.by_.length c, .slice B r.start.length d] 49)) := (Below.refl _ _).alloc (Nat.le_refl _) _
  have hg : (w.alloc (.cells #[.slice A r.by_.length c, .slice B r.start.length d] 49)).heap[w.heap.size]? = some (.cells #[.slice A r.by_.length c, .slice B r.start.length d] 49 (0, 0)) := heap_alloc_new _ _
  have hsz : (w.alloc (.cells #[.slice A r.by_.length c, .slice B r.start.length d] 49)).heap.size = w.heap.size + 1 := by simp
  have hc0 : (w.alloc (.cells #[.slice A r.by_.length c, .slice B r.start.length d] 49)).cell? ⟨w.heap.size, 0, none⟩ = some (.slice A r.by_.length c) := by unfold World.cell?; rw [hg]; rfl
  have hc1 : (w.alloc (.cells #[.slice A r.by_.length c, .slice B r.start.length d] 49)).cell? ⟨w.heap.size, 1, none⟩ = some (.slice B r.start.length d) := by unfold World.cell?; rw [hg]; rfl
  have hbB : Hid (∀ k, 0 ≤ r.by_.getD k 0 ∧ r.by_.getD k 0 < 65521) := Lib.hid (fun k => by
    by_cases hk : k < r.by_.length
    · rw [List.getD_eq_getElem?_getD, List.getElem?_eq_getElem hk]; exact hbb _ (List.getElem_mem hk)
    · rw [List.getD_eq_getElem?_getD, List.getElem?_eq_none (by omega)]; decide)
  have hfb : Hid (∀ k j, 0 ≤ (firstL r k).getD j 0 ∧ (firstL r k).getD j 0 < 65521) := Lib.hid (fun k j => by
    by_cases hk : j < (firstL r k).length
    · rw [List.getD_eq_getElem?_getD, List.getElem?_eq_getElem hk]; exact firstL_bd hbs k _ (List.getElem_mem hk)
    · rw [List.getD_eq_getElem?_getD, List.getElem?_eq_none (by omega)]; decide)
  have hsx : Hid (∀ k, firstL r (k + 1) = firstL r k ++ [if k < r.start.length then r.start.getD k 0 else nextT r.by_ (firstL r k)]) := Lib.hid (fun k => rfl)
  replace h3 := Lib.hid h3
  replace g3 := Lib.hid g3
  replace hbx := Lib.hid hbx
  replace hll := Lib.hid hll
  clear ra rb hr hbb hbs hg
  generalize hN : r.by_.length = N at *
  generalize hM : r.start.length = M at *
  replace hN := Lib.hid hN
  replace hM := Lib.hid hM
  go_enter Tryd.func108, Tryd.ntmps108
  go_wp2
  generalize w.alloc (.cells #[.slice A N c, .slice B M d] 49) = X at hbx hsz hc0 hc1 ⊢
  replace hsz := Lib.hid hsz
  go_loopw [5, 6, 7, 8] (fun o ii _ _ wr => ∃ k : Nat, k ≤ n ∧ ii = .int .i64 k ∧ Hid (Below X.heap.size X wr) ∧ Hid (OwnI wr X.heap.size o (firstL r k))) (fun _ ii _ _ _ => n - (intOf ii).toNat)
  case atStart => exact ⟨0, Nat.zero_le _, rfl, Lib.hid (Below.refl _ _), Lib.hid (OwnI_nil _ _)⟩
  case round =>
    obtain ⟨k, hk, rfl, hB, hO⟩ := hrel
    rename World => wr
    by_cases hlt : k < n
    · have k1 : (k : Int) < (n : Int) := by omega
      have k0 : (0 : Int) ≤ (k : Int) := by omega
      have hfl : Hid ((firstL r k).length = k) := Lib.hid (firstL_len r k)
      obtain ⟨Ao, co, rfl⟩ := own_shape hO.out
      rw [hfl.out] at hO ⊢
      have hx0 := (hB.out.cell (World.block_lt_of_cell? X _ hc0)).trans hc0
      have hx1 := (hB.out.cell (World.block_lt_of_cell? X _ hc1)).trans hc1
      have hBs := hB.out.size
      by_cases hs : k < M
      · obtain ⟨bb, offb, rfl, hcb⟩ := g3.out k hs
        have hcb2 := (hB.out.cell (p := ⟨bb, offb + k, none⟩) (by have := World.block_lt_of_cell? w _ hcb; have := hsz.out; show bb < _; simp at *; omega)).trans ((hbx.out.cell (World.block_lt_of_cell? w _ hcb)).trans hcb)
        have hst := Lib.hid (hsx.out k)
        rw [if_pos hs] at hst
        generalize r.start.getD k 0 = x at hst hcb hcb2
        have hs1 : (k : Int) < (M : Int) := by omega
        have how : Hid ((wr.alloc (.cells #[.int .i64 x] 3)).ownsRow X.heap.size 3 1 (.slice Ao k co) k (ints (firstL r k))) := Lib.hid (by
          have := hO.out.below ((Below.refl wr.heap.size wr).alloc (Nat.le_refl _) (.cells #[.int .i64 x] 3))
          unfold OwnI at this
          rwa [hfl.out] at this)
        clear hcb
        go_wp2_with (at_builtin; (refine wpList_append_own_at _ rfl _ _ 23 rfl X.heap.size 3 i0 _ 1 8 Tryd.underlying23 hi hz0 hz1 hz2 rfl (by omega) (.slice Ao k co) k (ints (firstL r k)) rfl how.out ⟨wr.heap.size, 0, none⟩ 1 1 [.int .i64 x] rfl rfl (cell_one_new wr _ _) (by simp [Value.oneCell']) (by unfold maxLen; omega) (by omega) (by simp; omega) ?_); intro v' w1 hown1 hgrow _ _)
        have hfin := Lib.hid (own_snoc hfl.out hown1)
        rw [← hst.out] at hfin
        have hB1 := Lib.hid ((hB.out.alloc (by omega) (.cells #[.int .i64 x] 3)).grown hgrow (by simp; omega) (fun q hq => (how.out.lt q hq).1))
        clear hown1 hgrow
        go_wp2
        go_roundw
        case rel => exact ⟨k + 1, by omega, by go_num, hB1, hfin⟩
        case measure => simp [intOf] <;> omega
      · have hst := Lib.hid (hsx.out k)
        rw [if_neg hs] at hst
        have hs1 : ¬ (k : Int) < (M : Int) := by omega
        have hkN : N ≤ k := by have := hll.out; omega
        go_wp2
        obtain ⟨wo, rfl⟩ : ∃ wo : World, wo = wr := ⟨_, rfl⟩
        clear hx0 hx1
        go_loopw [7, 8] (fun s ii wr => ∃ q : Nat, q ≤ N ∧ ii = .int .i64 q ∧ s = .int .i64 (psum (fun j => r.by_.getD j 0 * (firstL r k).getD (k - 1 - j) 0 % 65521) q % 65521) ∧ Hid (Below X.heap.size X wr) ∧ Hid (OwnI wr X.heap.size (.slice Ao k co) (firstL r k))) (fun _ ii _ => N - (intOf ii).toNat)
        case atStart => exact ⟨0, Nat.zero_le _, rfl, rfl, hB, hO⟩
        case round =>
          obtain ⟨q, hq, rfl, rfl, hB, hO⟩ := hrel
          rename World => wr2
          have hx0 := (hB.out.cell (World.block_lt_of_cell? X _ hc0)).trans hc0
          by_cases hqN : q < N
          · obtain ⟨ba, offa, rfl, hca⟩ := h3.out q hqN
            have hca2 := (hB.out.cell (p := ⟨ba, offa + q, none⟩) (by have := World.block_lt_of_cell? w _ hca; have := hsz.out; show ba < _; simp at *; omega)).trans ((hbx.out.cell (World.block_lt_of_cell? w _ hca)).trans hca)
            have hre := hO.out.rd (by rw [hfl.out]; omega)
            obtain ⟨Ar, cr, er, -, -, hcl⟩ := hre.open_
            rw [hfl.out] at er hcl
            simp only [Value.slice.injEq, true_and] at er
            obtain ⟨rfl, rfl⟩ := er
            obtain ⟨p, hp⟩ : ∃ p, p = k - 1 - q := ⟨_, rfl⟩
            obtain ⟨bo, offo, rfl, hco⟩ := hcl p (by omega)
            have hpi : (k : Int) - 1 - (q : Int) = (p : Int) := by omega
            have w1 : IntKind.i64.wrap ((k : Int) - 1) = (k : Int) - 1 := IntWalk.i64_in _ ⟨by omega, by omega⟩
            have w2 : IntKind.i64.wrap ((k : Int) - 1 - (q : Int)) = (p : Int) := by rw [IntWalk.i64_in _ ⟨by omega, by omega⟩]; exact hpi
            replace hpi := Lib.hid hpi
            have hn1 := hbB.out q
            have hn2 := hfb.out k p
            have ⟨m1, m2⟩ := mul_bd hn1.1 hn1.2 hn2.1 hn2.2
            have hstep : Hid (psum (fun j => r.by_.getD j 0 * (firstL r k).getD (k - 1 - j) 0 % 65521) (q + 1) % 65521 = (psum (fun j => r.by_.getD j 0 * (firstL r k).getD (k - 1 - j) 0 % 65521) q % 65521 + r.by_.getD q 0 * (firstL r k).getD p 0) % 65521) := Lib.hid (by
              rw [psum, hp]
              generalize psum _ q = S
              generalize r.by_.getD q 0 * (firstL r k).getD (k - 1 - q) 0 = t
              omega)
            have hsb : 0 ≤ psum (fun j => r.by_.getD j 0 * (firstL r k).getD (k - 1 - j) 0 % 65521) q % 65521 ∧ psum (fun j => r.by_.getD j 0 * (firstL r k).getD (k - 1 - j) 0 % 65521) q % 65521 < 65521 := ⟨Int.emod_nonneg _ (by decide), Int.emod_lt_of_pos _ (by decide)⟩
            have hp1 : (p : Int) < (k : Int) := by omega
            have hp0 : (0 : Int) ≤ (p : Int) := by omega
            have hO2 := Lib.hid (hO.out.below ((Below.refl wr2.heap.size wr2).drew))
            have hB2 := Lib.hid hB.out.drew
            replace hp := Lib.hid hp
            clear hca hre hcl hO
            generalize psum (fun j => r.by_.getD j 0 * (firstL r k).getD (k - 1 - j) 0 % 65521) q % 65521 = S at hsb hstep ⊢
            generalize r.by_.getD q 0 = x at *
            generalize (firstL r k).getD p 0 = y at *
            have w3 : IntKind.i64.wrap (x * y) = x * y := IntWalk.i64_in _ ⟨by omega, by omega⟩
            have w4 : IntKind.i64.wrap (S + x * y) = S + x * y := IntWalk.i64_in _ ⟨by omega, by omega⟩
            have w5 : (S + x * y).tmod 65521 = (S + x * y) % 65521 := Int.tmod_eq_emod_of_nonneg (by omega)
            have q1 : (q : Int) < (N : Int) := by omega
            have q0 : (0 : Int) ≤ (q : Int) := by omega
            go_wp2
            go_still_tail 16, (by kernel_rfl)
            change wpList _ _ _ _ _ wr2.drew
            go_wp2
            go_roundw
            case rel => exact ⟨q + 1, by omega, by go_num, by rw [hstep.out], hB2, hO2⟩
            case measure => simp [intOf] <;> omega
          · obtain rfl : N = q := by omega
            have hnx : Hid (psum (fun j => r.by_.getD j 0 * (firstL r k).getD (k - 1 - j) 0 % 65521) N % 65521 = nextT r.by_ (firstL r k)) := Lib.hid (by unfold nextT; rw [hN.out, hfl.out])
            rw [hnx.out]
            generalize nextT r.by_ (firstL r k) = x at hst ⊢
            have hBs2 := hB.out.size
            have how : Hid ((wr2.alloc (.cells #[.int .i64 x] 3)).ownsRow X.heap.size 3 1 (.slice Ao k co) k (ints (firstL r k))) := Lib.hid (by
              have := hO.out.below ((Below.refl wr2.heap.size wr2).alloc (Nat.le_refl _) (.cells #[.int .i64 x] 3))
              unfold OwnI at this
              rwa [hfl.out] at this)
            clear hnx
            go_wp2_with (at_builtin; (refine wpList_append_own_at _ rfl _ _ 23 rfl X.heap.size 3 i0 _ 1 8 Tryd.underlying23 hi hz0 hz1 hz2 rfl (by omega) (.slice Ao k co) k (ints (firstL r k)) rfl how.out ⟨wr2.heap.size, 0, none⟩ 1 1 [.int .i64 x] rfl rfl (cell_one_new wr2 _ _) (by simp [Value.oneCell']) (by unfold maxLen; omega) (by omega) (by simp; omega) ?_); intro v' w1 hown1 hgrow _ _)
            have hfin := Lib.hid (own_snoc hfl.out hown1)
            rw [← hst.out] at hfin
            have hB1 := Lib.hid ((hB.out.alloc (by omega) (.cells #[.int .i64 x] 3)).grown hgrow (by simp; omega) (fun q hq => (how.out.lt q hq).1))
            clear hown1 hgrow
            go_wp2
            go_roundw
            case rel => exact ⟨k + 1, by omega, by go_num, hB1, hfin⟩
            case measure => simp [intOf] <;> omega
    · obtain rfl : n = k := by omega
      go_wp2
      go_ret
      have hs := hsz.out
      exact ⟨⟨_, rfl, hO.out.base (by omega)⟩, hbx.out.trans (hB.out.mono (by omega))⟩
end Go.Proofs.YtfljkcmijnhgkaaDoor

namespace Go.Proofs.YtfljkcmijnhgkaaDoor
open Go.RowKit Go.Shelf
set_option linter.unusedSimpArgs false

/-- A row that is a cell's whole struct. -/
theorem res_c {P : Program} {fn : Func} {p : Tmp} {ty : TypeId} (h : fn.results = #[.cell p ty]) (tmps : Array Value) (w : World) (g : Nat) (t : TypeId) (cs : Array Value) (fr : Nat × Nat) (d : TypeDesc)
    (hp : tmps.getD p undef = .pointer (some ⟨g, 0, none⟩)) (hg : w.heap[g]? = some (.cells cs t fr))
    (hu : P.underlying ty = some d) (hd : (match d with | .struct _ | .array _ _ => true | _ => false) = true) (hi : (P.info? ty).map (·.size) = some cs.size) :
    (results fn tmps).run P w = .ok (.agg cs) w := by
  have hp' : tmps[p]?.getD undef = .pointer (some ⟨g, 0, none⟩) := by simpa using hp
  simp [results, h, hp', asAddr, run_loadVar_row w g t ty cs fr d hg hu hd hi]
set_option maxRecDepth 100000 in
set_option maxHeartbeats 6400000 in
theorem Own_any (r : Rule) (v : Value) (w : World) (h : RdR w v r) (h1 : r.by_.length ≤ 1000) (h2 : r.start.length ≤ 1000) :
    Calls Tryd.prog 34 #[v] w fun e w' => (∃ u, e = .returned u ∧ OwnR w' w.heap.size u r) ∧ Below w.heap.size w w' := by
  obtain ⟨a, b, rfl, ra, rb⟩ := h
  have hbx : Below w.heap.size w ((w.alloc (.cells #[a, b] 49)).alloc (.cells #[.slice none 0 0, .slice none 0 0] 49)) := ((Below.refl _ _).alloc (Nat.le_refl _) _).alloc (by simp) _
  have hga : ((w.alloc (.cells #[a, b] 49)).alloc (.cells #[.slice none 0 0, .slice none 0 0] 49)).heap[w.heap.size]? = some (.cells #[a, b] 49 (0, 0)) := by
    rw [((Below.refl _ (w.alloc (.cells #[a, b] 49))).alloc (Nat.le_refl _) _).block w.heap.size (by simp)]; exact heap_alloc_new _ _
  have hgb : ((w.alloc (.cells #[a, b] 49)).alloc (.cells #[.slice none 0 0, .slice none 0 0] 49)).heap[w.heap.size + 1]? = some (.cells #[.slice none 0 0, .slice none 0 0] 49 (0, 0)) := by
    have h := heap_alloc_new (w.alloc (.cells #[a, b] 49)) (.cells #[.slice none 0 0, .slice none 0 0] 49); rwa [World.size_alloc] at h
  have hsz : ((w.alloc (.cells #[a, b] 49)).alloc (.cells #[.slice none 0 0, .slice none 0 0] 49)).heap.size = w.heap.size + 2 := by simp
  have hra := Lib.hid (fun W (hW : Below w.heap.size w W) => ra.below hW (Nat.le_refl _))
  have hrb := Lib.hid (fun W (hW : Below w.heap.size w W) => rb.below hW (Nat.le_refl _))
  clear ra rb
  go_enter Tryd.func34, Tryd.ntmps34
  go_wp2
  generalize (w.alloc (.cells #[a, b] 49)).alloc (.cells #[.slice none 0 0, .slice none 0 0] 49) = X at hbx hga hgb hsz ⊢
  have mk : ∀ (W : World) (g : Nat) (x y : Value), W.heap[g]? = some (.cells #[x, y] 49 (0, 0)) → W.cell? ⟨g, 0, none⟩ = some x ∧ W.cell? ⟨g, 1, none⟩ = some y := fun W g x y h => ⟨by unfold World.cell?; rw [h]; rfl, by unfold World.cell?; rw [h]; rfl⟩
  have HS : Hid (∀ W, Below X.heap.size X W → W.cell? ⟨w.heap.size, 0, none⟩ = some a ∧ W.cell? ⟨w.heap.size, 1, none⟩ = some b) := Lib.hid (fun W hW => mk W _ _ _ ((hW.block _ (by omega)).trans hga))
  have HG : Hid (∀ W, Below X.heap.size X W → W.heap[w.heap.size + 1]? = some (.cells #[.slice none 0 0, .slice none 0 0] 49 (0, 0))) := Lib.hid (fun W hW => (hW.block _ (by omega)).trans hgb)
  have HB : Hid (∀ W, Below X.heap.size X W → Below w.heap.size w W) := Lib.hid (fun W hW => Below.then_ hbx hW)
  have HS0 := HS.out X.drew (Below.refl _ X).drew
  have b_Wd : Hid (Below X.heap.size X X.drew) := Lib.hid (Below.refl _ X).drew
  clear hga hgb hbx
  replace hsz := Lib.hid hsz
  refine D_begin (fun w' => w'.cell? ⟨w.heap.size, 0, none⟩ = some a ∧ w'.cell? ⟨w.heap.size, 1, none⟩ = some b) (fun _ => True) 99 (by kernel_rfl) ?_
  change wpAnyD _ _ _ _ _ _ _ _ _ _ X.drew
  simp only [List.size_toArray, List.length_cons, List.length_nil, Nat.reduceAdd, Array.replicate_succ, Array.replicate_zero, List.push_toArray, List.append_toArray, List.nil_append, List.cons_append]
  refine D_take (i := 1) (v := ?_) rfl (by kernel_rfl) (by kernel_rfl) (by kernel_rfl) (by kernel_rfl) (fun _ _ _ h => h) (Or.inl ⟨by rfl, ?_⟩) HS0 (fun _ => trivial) ?_
  rotate_left; · intro w1 hw1; obtain ⟨hw1, hw2⟩ := hw1; go_simp; try with_reducible rfl
  try simp only [Act.put, List.getElem_toArray, List.getElem_cons_zero, List.getElem_cons_succ, List.setIfInBounds_toArray, List.set_cons_zero, List.set_cons_succ]
  refine D_take (i := 2) (v := ?_) rfl (by kernel_rfl) (by kernel_rfl) (by kernel_rfl) (by kernel_rfl) (fun _ _ _ h => h) (Or.inl ⟨by rfl, ?_⟩) HS0 (fun _ => trivial) ?_
  rotate_left; · intro w1 hw1; obtain ⟨hw1, hw2⟩ := hw1; go_simp; try with_reducible rfl
  try simp only [Act.put, List.getElem_toArray, List.getElem_cons_zero, List.getElem_cons_succ, List.setIfInBounds_toArray, List.set_cons_zero, List.set_cons_succ]
  refine D_take (i := 5) (v := ?_) rfl (by kernel_rfl) (by kernel_rfl) (by kernel_rfl) (by kernel_rfl) (fun _ _ _ h => h) (Or.inl ⟨by rfl, ?_⟩) HS0 (fun _ => trivial) ?_
  rotate_left; · intro w1 hw1; obtain ⟨hw1, hw2⟩ := hw1; go_simp; try with_reducible rfl
  try simp only [Act.put, List.getElem_toArray, List.getElem_cons_zero, List.getElem_cons_succ, List.setIfInBounds_toArray, List.set_cons_zero, List.set_cons_succ]
  refine D_take (i := 6) (v := ?_) rfl (by kernel_rfl) (by kernel_rfl) (by kernel_rfl) (by kernel_rfl) (fun _ _ _ h => h) (Or.inl ⟨by rfl, ?_⟩) HS0 (fun _ => trivial) ?_
  rotate_left; · intro w1 hw1; obtain ⟨hw1, hw2⟩ := hw1; go_simp; try with_reducible rfl
  try simp only [Act.put, List.getElem_toArray, List.getElem_cons_zero, List.getElem_cons_succ, List.setIfInBounds_toArray, List.set_cons_zero, List.set_cons_succ]
  clear HS0
  generalize X.drew = Wd at b_Wd ⊢
  refine D_two (i := 0) (j := 4) (by kernel_rfl) rfl rfl ?_ ?_
  · intro K hK
    rw [if_pos (by rfl)]
    go_simp
    have b_W1 : Hid (Below X.heap.size X (Wd.alloc (.cells #[] 3))) := Lib.hid (b_Wd.out.alloc (b_Wd.out.size) _)
    have z_W1 : (Wd.alloc (.cells #[] 3)).heap.size = Wd.heap.size + 1 := World.size_alloc _ _
    have s0_W1 : Hid ((Wd.alloc (.cells #[] 3)).ownsRow X.heap.size 3 1 (.slice (some ⟨Wd.heap.size, 0, none⟩) 0 0) 0 []) := Lib.hid (World.ownsRow_made Wd #[] 0 (b_Wd.out.size) (by unfold maxLen; omega) rfl)
    refine hK _ _ (HS.out _ b_W1.out) (fun _ _ => trivial) ?_
    try simp only [Act.put, Nat.zero_add, List.getElem_toArray, List.getElem_cons_zero, List.getElem_cons_succ, List.setIfInBounds_toArray, List.set_cons_zero, List.set_cons_succ]
    clear hK K
    generalize hg_W1 : Wd.alloc (.cells #[] 3) = W1 at b_W1 z_W1 s0_W1 ⊢
    replace hg_W1 := Lib.hid hg_W1
    replace z_W1 := Lib.hid z_W1
    refine D_two (i := 3) (j := 4) (by kernel_rfl) rfl rfl ?_ ?_
    · intro K hK
      refine step_append_rd (by rfl) _ _ (by rfl) X.heap.size (.slice (some ⟨Wd.heap.size, 0, none⟩) 0 0) a 0 [] r.by_ (by rfl) (by rfl) s0_W1.out (hra.out _ (HB.out _ b_W1.out)) (by omega) (b_W1.out.size) ?_
      intro v1 W2 hown3 hgrow3 hat3
      simp only [Nat.zero_add, List.nil_append] at hown3
      obtain ⟨A1, c1, rfl⟩ := own_shape hown3
      have b_W2 : Hid (Below X.heap.size X W2) := Lib.hid (b_W1.out.grown hgrow3 (b_W1.out.size) (fun q hq => (s0_W1.out.lt q hq).1))
      have v1_W2 := Lib.hid hown3
      clear hown3 hgrow3 hat3
      refine hK _ _ (HS.out _ b_W2.out) (fun _ _ => trivial) ?_
      try simp only [Act.put, Nat.zero_add, List.getElem_toArray, List.getElem_cons_zero, List.getElem_cons_succ, List.setIfInBounds_toArray, List.set_cons_zero, List.set_cons_succ]
      clear hK K
      refine D_one (i := 4) (by kernel_rfl) rfl ?_
      intro K hK
      rw [if_pos (by rfl)]
      go_simp
      have b_W3 : Hid (Below X.heap.size X (W2.alloc (.cells #[] 3))) := Lib.hid (b_W2.out.alloc (b_W2.out.size) _)
      have z_W3 : (W2.alloc (.cells #[] 3)).heap.size = W2.heap.size + 1 := World.size_alloc _ _
      have s4_W3 : Hid ((W2.alloc (.cells #[] 3)).ownsRow X.heap.size 3 1 (.slice (some ⟨W2.heap.size, 0, none⟩) 0 0) 0 []) := Lib.hid (World.ownsRow_made W2 #[] 0 (b_W2.out.size) (by unfold maxLen; omega) rfl)
      have v1_W3 := Lib.hid (own_below v1_W2.out ((Below.refl W2.heap.size W2).alloc (Nat.le_refl _) (.cells #[] 3)))
      refine hK _ _ (HS.out _ b_W3.out) (fun _ _ => trivial) ?_
      try simp only [Act.put, Nat.zero_add, List.getElem_toArray, List.getElem_cons_zero, List.getElem_cons_succ, List.setIfInBounds_toArray, List.set_cons_zero, List.set_cons_succ]
      clear hK K
      generalize hg_W3 : W2.alloc (.cells #[] 3) = W3 at b_W3 z_W3 s4_W3 v1_W3 ⊢
      replace hg_W3 := Lib.hid hg_W3
      replace z_W3 := Lib.hid z_W3
      have ne : Hid ((Value.slice A1 r.by_.length c1).ownBlock ≠ some W2.heap.size) := Lib.hid (fun e => by have := (v1_W2.out.lt _ e).2; omega)
      refine D_one (i := 7) (by kernel_rfl) rfl ?_
      intro K hK
      refine step_append_rd (by rfl) _ _ (by rfl) X.heap.size (.slice (some ⟨W2.heap.size, 0, none⟩) 0 0) b 0 [] r.start (by rfl) (by rfl) s4_W3.out (hrb.out _ (HB.out _ b_W3.out)) (by omega) (b_W3.out.size) ?_
      intro v2 W8 hown7 hgrow7 _
      simp only [Nat.zero_add, List.nil_append] at hown7
      obtain ⟨A2, c2, rfl⟩ := own_shape hown7
      have b_W8 : Hid (Below X.heap.size X W8) := Lib.hid (b_W3.out.grown hgrow7 (b_W3.out.size) (fun q hq => (s4_W3.out.lt q hq).1))
      have v1_W8 := Lib.hid (World.ownsRow.kept v1_W3.out hgrow7 (.inr ne.out))
      have v2_W8 := Lib.hid hown7
      clear hown7 hgrow7
      refine hK _ _ (HS.out _ b_W8.out) (fun _ _ => trivial) ?_
      try simp only [Act.put, Nat.zero_add, List.getElem_toArray, List.getElem_cons_zero, List.getElem_cons_succ, List.setIfInBounds_toArray, List.set_cons_zero, List.set_cons_succ]
      clear hK K
      refine D_one (i := 8) (by kernel_rfl) rfl ?_
      intro K hK
      rw [if_pos (by rfl)]
      go_simp
      refine hK _ _ (HS.out _ b_W8.out) (fun _ _ => trivial) ?_
      try simp only [Act.put, Nat.zero_add, List.getElem_toArray, List.getElem_cons_zero, List.getElem_cons_succ, List.setIfInBounds_toArray, List.set_cons_zero, List.set_cons_succ]
      clear hK K
      have hg8 := HG.out _ b_W8.out
      have t0 : W8.cell? ⟨w.heap.size + 1, 0, none⟩ = some (.slice none 0 0) := by unfold World.cell?; rw [hg8]; rfl
      have t1 : W8.cell? ⟨w.heap.size + 1, 1, none⟩ = some (.slice none 0 0) := by unfold World.cell?; rw [hg8]; rfl
      have t2 : W8.frozen? ⟨w.heap.size + 1, 0, none⟩ = false := by unfold World.frozen?; rw [hg8]; rfl
      have t3 : W8.frozen? ⟨w.heap.size + 1, 1, none⟩ = false := by unfold World.frozen?; rw [hg8]; rfl
      have HS9 := HS.out _ b_W8.out
      refine D_one (i := 9) (by kernel_rfl) rfl ?_
      intro K hK
      rw [if_pos (by rfl)]
      go_simp
      have hne : w.heap.size ≠ w.heap.size + 1 := by omega
      refine hK _ _ ⟨(World.cell?_of_block ((Below.heap_setCell _ _ _ _ hne).trans (Below.heap_setCell _ _ _ _ hne))).trans HS9.1, (World.cell?_of_block ((Below.heap_setCell _ _ _ _ hne).trans (Below.heap_setCell _ _ _ _ hne))).trans HS9.2⟩ (fun _ _ => trivial) ?_
      try simp only [Act.put, Nat.zero_add, List.getElem_toArray, List.getElem_cons_zero, List.getElem_cons_succ, List.setIfInBounds_toArray, List.set_cons_zero, List.set_cons_succ]
      clear hK K t0 t1 t2 t3 HS9
      refine D_done (by kernel_rfl) ?_ _
      replace hg8 := Lib.hid hg8
      go_wp2
      refine bodyPost_ret (res_c rfl _ _ (w.heap.size + 1) 49 #[.slice A1 r.by_.length c1, .slice A2 r.start.length c2] (0, 0) _ rfl (heap_set2 _ _ hg8.out) rfl rfl rfl) rfl ?_
      have hX := hsz.out
      have kp : ∀ (u : Value) (n : Nat) (xs : List Value), W8.ownsRow X.heap.size 3 1 u n xs → ((W8.setCell ⟨w.heap.size + 1, 0, none⟩ (.slice A1 r.by_.length c1)).setCell ⟨w.heap.size + 1, 1, none⟩ (.slice A2 r.start.length c2)).ownsRow w.heap.size 3 1 u n xs := fun u n xs hu => own_base (own_of_block hu (fun g hg => by
        have := (hu.lt g hg).1
        rw [Below.heap_setCell _ _ _ _ (by show g ≠ w.heap.size + 1; omega), Below.heap_setCell _ _ _ _ (by show g ≠ w.heap.size + 1; omega)])) (by omega)
      exact ⟨⟨_, rfl, _, _, rfl, kp _ _ _ v1_W8.out, kp _ _ _ v2_W8.out⟩, ((HB.out _ b_W8.out).setCell (p := ⟨w.heap.size + 1, 0, none⟩) (by simp) _).setCell (p := ⟨w.heap.size + 1, 1, none⟩) (by simp) _⟩
    · intro K hK
      rw [if_pos (by rfl)]
      go_simp
      have b_W2 : Hid (Below X.heap.size X (W1.alloc (.cells #[] 3))) := Lib.hid (b_W1.out.alloc (b_W1.out.size) _)
      have z_W2 : (W1.alloc (.cells #[] 3)).heap.size = W1.heap.size + 1 := World.size_alloc _ _
      have s4_W2 : Hid ((W1.alloc (.cells #[] 3)).ownsRow X.heap.size 3 1 (.slice (some ⟨W1.heap.size, 0, none⟩) 0 0) 0 []) := Lib.hid (World.ownsRow_made W1 #[] 0 (b_W1.out.size) (by unfold maxLen; omega) rfl)
      have s0_W2 := Lib.hid (own_below s0_W1.out ((Below.refl W1.heap.size W1).alloc (Nat.le_refl _) (.cells #[] 3)))
      refine hK _ _ (HS.out _ b_W2.out) (fun _ _ => trivial) ?_
      try simp only [Act.put, Nat.zero_add, List.getElem_toArray, List.getElem_cons_zero, List.getElem_cons_succ, List.setIfInBounds_toArray, List.set_cons_zero, List.set_cons_succ]
      clear hK K
      generalize hg_W2 : W1.alloc (.cells #[] 3) = W2 at b_W2 z_W2 s4_W2 s0_W2 ⊢
      replace hg_W2 := Lib.hid hg_W2
      replace z_W2 := Lib.hid z_W2
      refine D_one (i := 3) (by kernel_rfl) rfl ?_
      intro K hK
      refine step_append_rd (by rfl) _ _ (by rfl) X.heap.size (.slice (some ⟨Wd.heap.size, 0, none⟩) 0 0) a 0 [] r.by_ (by rfl) (by rfl) s0_W2.out (hra.out _ (HB.out _ b_W2.out)) (by omega) (b_W2.out.size) ?_
      intro v1 W3 hown3 hgrow3 hat3
      simp only [Nat.zero_add, List.nil_append] at hown3
      obtain ⟨A1, c1, rfl⟩ := own_shape hown3
      have b_W3 : Hid (Below X.heap.size X W3) := Lib.hid (b_W2.out.grown hgrow3 (b_W2.out.size) (fun q hq => (s0_W2.out.lt q hq).1))
      have s4_W3 := Lib.hid (World.ownsRow.kept s4_W2.out hgrow3 (.inr (by have := z_W1.out; have := z_W2.out; simp [Value.ownBlock]; omega)))
      have ne : Hid ((Value.slice A1 r.by_.length c1).ownBlock ≠ some W1.heap.size) := Lib.hid (fun e => by
        have := z_W1.out
        have := z_W2.out
        rcases hat3 with h | h
        · rw [h] at e; simp [Value.ownBlock] at e; omega
        · rw [h] at e; simp at e; omega)
      have v1_W3 := Lib.hid hown3
      clear hown3 hgrow3 hat3
      refine hK _ _ (HS.out _ b_W3.out) (fun _ _ => trivial) ?_
      try simp only [Act.put, Nat.zero_add, List.getElem_toArray, List.getElem_cons_zero, List.getElem_cons_succ, List.setIfInBounds_toArray, List.set_cons_zero, List.set_cons_succ]
      clear hK K
      refine D_one (i := 7) (by kernel_rfl) rfl ?_
      intro K hK
      refine step_append_rd (by rfl) _ _ (by rfl) X.heap.size (.slice (some ⟨W1.heap.size, 0, none⟩) 0 0) b 0 [] r.start (by rfl) (by rfl) s4_W3.out (hrb.out _ (HB.out _ b_W3.out)) (by omega) (b_W3.out.size) ?_
      intro v2 W8 hown7 hgrow7 _
      simp only [Nat.zero_add, List.nil_append] at hown7
      obtain ⟨A2, c2, rfl⟩ := own_shape hown7
      have b_W8 : Hid (Below X.heap.size X W8) := Lib.hid (b_W3.out.grown hgrow7 (b_W3.out.size) (fun q hq => (s4_W3.out.lt q hq).1))
      have v1_W8 := Lib.hid (World.ownsRow.kept v1_W3.out hgrow7 (.inr ne.out))
      have v2_W8 := Lib.hid hown7
      clear hown7 hgrow7
      refine hK _ _ (HS.out _ b_W8.out) (fun _ _ => trivial) ?_
      try simp only [Act.put, Nat.zero_add, List.getElem_toArray, List.getElem_cons_zero, List.getElem_cons_succ, List.setIfInBounds_toArray, List.set_cons_zero, List.set_cons_succ]
      clear hK K
      refine D_one (i := 8) (by kernel_rfl) rfl ?_
      intro K hK
      rw [if_pos (by rfl)]
      go_simp
      refine hK _ _ (HS.out _ b_W8.out) (fun _ _ => trivial) ?_
      try simp only [Act.put, Nat.zero_add, List.getElem_toArray, List.getElem_cons_zero, List.getElem_cons_succ, List.setIfInBounds_toArray, List.set_cons_zero, List.set_cons_succ]
      clear hK K
      have hg8 := HG.out _ b_W8.out
      have t0 : W8.cell? ⟨w.heap.size + 1, 0, none⟩ = some (.slice none 0 0) := by unfold World.cell?; rw [hg8]; rfl
      have t1 : W8.cell? ⟨w.heap.size + 1, 1, none⟩ = some (.slice none 0 0) := by unfold World.cell?; rw [hg8]; rfl
      have t2 : W8.frozen? ⟨w.heap.size + 1, 0, none⟩ = false := by unfold World.frozen?; rw [hg8]; rfl
      have t3 : W8.frozen? ⟨w.heap.size + 1, 1, none⟩ = false := by unfold World.frozen?; rw [hg8]; rfl
      have HS9 := HS.out _ b_W8.out
      refine D_one (i := 9) (by kernel_rfl) rfl ?_
      intro K hK
      rw [if_pos (by rfl)]
      go_simp
      have hne : w.heap.size ≠ w.heap.size + 1 := by omega
      refine hK _ _ ⟨(World.cell?_of_block ((Below.heap_setCell _ _ _ _ hne).trans (Below.heap_setCell _ _ _ _ hne))).trans HS9.1, (World.cell?_of_block ((Below.heap_setCell _ _ _ _ hne).trans (Below.heap_setCell _ _ _ _ hne))).trans HS9.2⟩ (fun _ _ => trivial) ?_
      try simp only [Act.put, Nat.zero_add, List.getElem_toArray, List.getElem_cons_zero, List.getElem_cons_succ, List.setIfInBounds_toArray, List.set_cons_zero, List.set_cons_succ]
      clear hK K t0 t1 t2 t3 HS9
      refine D_done (by kernel_rfl) ?_ _
      replace hg8 := Lib.hid hg8
      go_wp2
      refine bodyPost_ret (res_c rfl _ _ (w.heap.size + 1) 49 #[.slice A1 r.by_.length c1, .slice A2 r.start.length c2] (0, 0) _ rfl (heap_set2 _ _ hg8.out) rfl rfl rfl) rfl ?_
      have hX := hsz.out
      have kp : ∀ (u : Value) (n : Nat) (xs : List Value), W8.ownsRow X.heap.size 3 1 u n xs → ((W8.setCell ⟨w.heap.size + 1, 0, none⟩ (.slice A1 r.by_.length c1)).setCell ⟨w.heap.size + 1, 1, none⟩ (.slice A2 r.start.length c2)).ownsRow w.heap.size 3 1 u n xs := fun u n xs hu => own_base (own_of_block hu (fun g hg => by
        have := (hu.lt g hg).1
        rw [Below.heap_setCell _ _ _ _ (by show g ≠ w.heap.size + 1; omega), Below.heap_setCell _ _ _ _ (by show g ≠ w.heap.size + 1; omega)])) (by omega)
      exact ⟨⟨_, rfl, _, _, rfl, kp _ _ _ v1_W8.out, kp _ _ _ v2_W8.out⟩, ((HB.out _ b_W8.out).setCell (p := ⟨w.heap.size + 1, 0, none⟩) (by simp) _).setCell (p := ⟨w.heap.size + 1, 1, none⟩) (by simp) _⟩
  · intro K hK
    rw [if_pos (by rfl)]
    go_simp
    have b_W1 : Hid (Below X.heap.size X (Wd.alloc (.cells #[] 3))) := Lib.hid (b_Wd.out.alloc (b_Wd.out.size) _)
    have z_W1 : (Wd.alloc (.cells #[] 3)).heap.size = Wd.heap.size + 1 := World.size_alloc _ _
    have s4_W1 : Hid ((Wd.alloc (.cells #[] 3)).ownsRow X.heap.size 3 1 (.slice (some ⟨Wd.heap.size, 0, none⟩) 0 0) 0 []) := Lib.hid (World.ownsRow_made Wd #[] 0 (b_Wd.out.size) (by unfold maxLen; omega) rfl)
    refine hK _ _ (HS.out _ b_W1.out) (fun _ _ => trivial) ?_
    try simp only [Act.put, Nat.zero_add, List.getElem_toArray, List.getElem_cons_zero, List.getElem_cons_succ, List.setIfInBounds_toArray, List.set_cons_zero, List.set_cons_succ]
    clear hK K
    generalize hg_W1 : Wd.alloc (.cells #[] 3) = W1 at b_W1 z_W1 s4_W1 ⊢
    replace hg_W1 := Lib.hid hg_W1
    replace z_W1 := Lib.hid z_W1
    refine D_one (i := 0) (by kernel_rfl) rfl ?_
    intro K hK
    rw [if_pos (by rfl)]
    go_simp
    have b_W2 : Hid (Below X.heap.size X (W1.alloc (.cells #[] 3))) := Lib.hid (b_W1.out.alloc (b_W1.out.size) _)
    have z_W2 : (W1.alloc (.cells #[] 3)).heap.size = W1.heap.size + 1 := World.size_alloc _ _
    have s0_W2 : Hid ((W1.alloc (.cells #[] 3)).ownsRow X.heap.size 3 1 (.slice (some ⟨W1.heap.size, 0, none⟩) 0 0) 0 []) := Lib.hid (World.ownsRow_made W1 #[] 0 (b_W1.out.size) (by unfold maxLen; omega) rfl)
    have s4_W2 := Lib.hid (own_below s4_W1.out ((Below.refl W1.heap.size W1).alloc (Nat.le_refl _) (.cells #[] 3)))
    refine hK _ _ (HS.out _ b_W2.out) (fun _ _ => trivial) ?_
    try simp only [Act.put, Nat.zero_add, List.getElem_toArray, List.getElem_cons_zero, List.getElem_cons_succ, List.setIfInBounds_toArray, List.set_cons_zero, List.set_cons_succ]
    clear hK K
    generalize hg_W2 : W1.alloc (.cells #[] 3) = W2 at b_W2 z_W2 s0_W2 s4_W2 ⊢
    replace hg_W2 := Lib.hid hg_W2
    replace z_W2 := Lib.hid z_W2
    refine D_one (i := 3) (by kernel_rfl) rfl ?_
    intro K hK
    refine step_append_rd (by rfl) _ _ (by rfl) X.heap.size (.slice (some ⟨W1.heap.size, 0, none⟩) 0 0) a 0 [] r.by_ (by rfl) (by rfl) s0_W2.out (hra.out _ (HB.out _ b_W2.out)) (by omega) (b_W2.out.size) ?_
    intro v1 W3 hown3 hgrow3 hat3
    simp only [Nat.zero_add, List.nil_append] at hown3
    obtain ⟨A1, c1, rfl⟩ := own_shape hown3
    have b_W3 : Hid (Below X.heap.size X W3) := Lib.hid (b_W2.out.grown hgrow3 (b_W2.out.size) (fun q hq => (s0_W2.out.lt q hq).1))
    have s4_W3 := Lib.hid (World.ownsRow.kept s4_W2.out hgrow3 (.inr (by have := z_W1.out; have := z_W2.out; simp [Value.ownBlock]; omega)))
    have ne : Hid ((Value.slice A1 r.by_.length c1).ownBlock ≠ some Wd.heap.size) := Lib.hid (fun e => by
      have := z_W1.out
      have := z_W2.out
      rcases hat3 with h | h
      · rw [h] at e; simp [Value.ownBlock] at e; omega
      · rw [h] at e; simp at e; omega)
    have v1_W3 := Lib.hid hown3
    clear hown3 hgrow3 hat3
    refine hK _ _ (HS.out _ b_W3.out) (fun _ _ => trivial) ?_
    try simp only [Act.put, Nat.zero_add, List.getElem_toArray, List.getElem_cons_zero, List.getElem_cons_succ, List.setIfInBounds_toArray, List.set_cons_zero, List.set_cons_succ]
    clear hK K
    refine D_one (i := 7) (by kernel_rfl) rfl ?_
    intro K hK
    refine step_append_rd (by rfl) _ _ (by rfl) X.heap.size (.slice (some ⟨Wd.heap.size, 0, none⟩) 0 0) b 0 [] r.start (by rfl) (by rfl) s4_W3.out (hrb.out _ (HB.out _ b_W3.out)) (by omega) (b_W3.out.size) ?_
    intro v2 W8 hown7 hgrow7 _
    simp only [Nat.zero_add, List.nil_append] at hown7
    obtain ⟨A2, c2, rfl⟩ := own_shape hown7
    have b_W8 : Hid (Below X.heap.size X W8) := Lib.hid (b_W3.out.grown hgrow7 (b_W3.out.size) (fun q hq => (s4_W3.out.lt q hq).1))
    have v1_W8 := Lib.hid (World.ownsRow.kept v1_W3.out hgrow7 (.inr ne.out))
    have v2_W8 := Lib.hid hown7
    clear hown7 hgrow7
    refine hK _ _ (HS.out _ b_W8.out) (fun _ _ => trivial) ?_
    try simp only [Act.put, Nat.zero_add, List.getElem_toArray, List.getElem_cons_zero, List.getElem_cons_succ, List.setIfInBounds_toArray, List.set_cons_zero, List.set_cons_succ]
    clear hK K
    refine D_one (i := 8) (by kernel_rfl) rfl ?_
    intro K hK
    rw [if_pos (by rfl)]
    go_simp
    refine hK _ _ (HS.out _ b_W8.out) (fun _ _ => trivial) ?_
    try simp only [Act.put, Nat.zero_add, List.getElem_toArray, List.getElem_cons_zero, List.getElem_cons_succ, List.setIfInBounds_toArray, List.set_cons_zero, List.set_cons_succ]
    clear hK K
    have hg8 := HG.out _ b_W8.out
    have t0 : W8.cell? ⟨w.heap.size + 1, 0, none⟩ = some (.slice none 0 0) := by unfold World.cell?; rw [hg8]; rfl
    have t1 : W8.cell? ⟨w.heap.size + 1, 1, none⟩ = some (.slice none 0 0) := by unfold World.cell?; rw [hg8]; rfl
    have t2 : W8.frozen? ⟨w.heap.size + 1, 0, none⟩ = false := by unfold World.frozen?; rw [hg8]; rfl
    have t3 : W8.frozen? ⟨w.heap.size + 1, 1, none⟩ = false := by unfold World.frozen?; rw [hg8]; rfl
    have HS9 := HS.out _ b_W8.out
    refine D_one (i := 9) (by kernel_rfl) rfl ?_
    intro K hK
    rw [if_pos (by rfl)]
    go_simp
    have hne : w.heap.size ≠ w.heap.size + 1 := by omega
    refine hK _ _ ⟨(World.cell?_of_block ((Below.heap_setCell _ _ _ _ hne).trans (Below.heap_setCell _ _ _ _ hne))).trans HS9.1, (World.cell?_of_block ((Below.heap_setCell _ _ _ _ hne).trans (Below.heap_setCell _ _ _ _ hne))).trans HS9.2⟩ (fun _ _ => trivial) ?_
    try simp only [Act.put, Nat.zero_add, List.getElem_toArray, List.getElem_cons_zero, List.getElem_cons_succ, List.setIfInBounds_toArray, List.set_cons_zero, List.set_cons_succ]
    clear hK K t0 t1 t2 t3 HS9
    refine D_done (by kernel_rfl) ?_ _
    replace hg8 := Lib.hid hg8
    go_wp2
    refine bodyPost_ret (res_c rfl _ _ (w.heap.size + 1) 49 #[.slice A1 r.by_.length c1, .slice A2 r.start.length c2] (0, 0) _ rfl (heap_set2 _ _ hg8.out) rfl rfl rfl) rfl ?_
    have hX := hsz.out
    have kp : ∀ (u : Value) (n : Nat) (xs : List Value), W8.ownsRow X.heap.size 3 1 u n xs → ((W8.setCell ⟨w.heap.size + 1, 0, none⟩ (.slice A1 r.by_.length c1)).setCell ⟨w.heap.size + 1, 1, none⟩ (.slice A2 r.start.length c2)).ownsRow w.heap.size 3 1 u n xs := fun u n xs hu => own_base (own_of_block hu (fun g hg => by
      have := (hu.lt g hg).1
      rw [Below.heap_setCell _ _ _ _ (by show g ≠ w.heap.size + 1; omega), Below.heap_setCell _ _ _ _ (by show g ≠ w.heap.size + 1; omega)])) (by omega)
    exact ⟨⟨_, rfl, _, _, rfl, kp _ _ _ v1_W8.out, kp _ _ _ v2_W8.out⟩, ((HB.out _ b_W8.out).setCell (p := ⟨w.heap.size + 1, 0, none⟩) (by simp) _).setCell (p := ⟨w.heap.size + 1, 1, none⟩) (by simp) _⟩
end Go.Proofs.YtfljkcmijnhgkaaDoor

namespace Go.Proofs.YtfljkcmijnhgkaaDoor
open Go.RowKit Go.Shelf
set_option linter.unusedSimpArgs false

theorem run_clear_none (W : World) (ty : TypeId) (A : Option Addr) (c : Nat) : (Builtin.clear_ #[23] ty #[.slice A 0 c]).run Tryd.prog W = .ok (.tuple #[]) W := by
  have hz : (zeroValue 3).run Tryd.prog W = .ok (.int .i64 0) W := by kernel_rfl
  cases A with
  | none => simp [Builtin.clear_, run_underlying (Tryd.underlying23), hz, Result.andThen]
  | some a => simp [Builtin.clear_, run_underlying (Tryd.underlying23), hz, Result.andThen, Builtin.zeroCells, storeCells]
/-- A slice is cleared, whether it is empty or not: what the run leaves. -/
theorem clear_row {b lo hi n : Nat} {W : World} {u : Value} (h : FreshRow b lo hi W n u) : ∃ W', (∀ ty, (Builtin.clear_ #[23] ty #[u]).run Tryd.prog W = .ok (.tuple #[]) W') ∧ Btw lo hi W W' ∧
    (∀ m u2, FreshRow b lo hi W m u2 → FreshRow b lo hi W' m u2) ∧ (∀ j, W'.cell? ⟨b, j, none⟩ = W.cell? ⟨b, j, none⟩) := by
  obtain ⟨A, c, rfl, hn, h2⟩ := h
  by_cases h0 : n = 0
  · subst h0
    exact ⟨W, fun ty => run_clear_none W ty A c, Btw.refl _ _ _, fun _ _ h => h, fun _ => rfl⟩
  · have hp : 0 < n := by omega
    obtain ⟨g, o, rfl, h3, h4, h5, h6⟩ := h2 hp
    refine ⟨W.setCells g o (List.replicate n (.int .i64 0)), fun ty => Lib.run_clear_slice (P := Tryd.prog) W 23 3 ty (.int .i64 0) Tryd.underlying23 (fun _ => by kernel_rfl) rfl rfl g o n c hp (fun j hj => (h6 j hj).1) (fun j hj => (h6 j hj).2), Btw.setCells h3 h4 _ _ _, fun m u2 hu => hu.wrote g o _, fun j => World.cell?_setCells_out _ _ _ _ _ (fun e _ => absurd e.symm h5)⟩
theorem FreshRow.other {b b' lo hi n : Nat} {w : World} {u : Value} (h : FreshRow b lo hi w n u) (hb : hi ≤ b') : FreshRow b' lo hi w n u := by
  obtain ⟨A, c, rfl, hn, h⟩ := h
  refine ⟨A, c, rfl, hn, fun hp => ?_⟩
  obtain ⟨g, o, rfl, h1, h2, h5, h3⟩ := h hp
  exact ⟨g, o, rfl, h1, h2, by omega, h3⟩
theorem FreshRow.btw {b lo hi lo' hi' n : Nat} {w w' : World} {u : Value} (h : FreshRow b lo hi w n u) (hb : Btw lo' hi' w w') (hd : hi ≤ lo' ∨ hi' ≤ lo) : FreshRow b lo hi w' n u := by
  obtain ⟨A, c, rfl, hn, h⟩ := h
  refine ⟨A, c, rfl, hn, fun hp => ?_⟩
  obtain ⟨g, o, rfl, h1, h2, h5, h3⟩ := h hp
  refine ⟨g, o, rfl, h1, h2, h5, fun j hj => ?_⟩
  obtain ⟨x, hx⟩ := Option.isSome_iff_exists.1 (h3 j hj).1
  have hlt : g < w.heap.size := World.block_lt_of_cell? w _ hx
  have hd2 : g < lo' ∨ hi' ≤ g := hd.elim (fun h => .inl (Nat.lt_of_lt_of_le h2 h)) (fun h => .inr (Nat.le_trans h h1))
  have e := hb.block g hlt hd2
  exact ⟨by rw [World.cell?_of_block (a := ⟨g, o + j, none⟩) e]; exact (h3 j hj).1, by unfold World.frozen? at *; rw [show w'.heap[(⟨g, o + j, none⟩ : Addr).block]? = w.heap[g]? from e]; exact (h3 j hj).2⟩
theorem Btw.cell {lo hi : Nat} {w w' : World} (h : Btw lo hi w w') {a : Addr} {x : Value} (hc : w.cell? a = some x) (hn : a.block < lo ∨ hi ≤ a.block) : w'.cell? a = some x :=
  (World.cell?_of_block (h.block a.block (World.block_lt_of_cell? w _ hc) hn)).trans hc
/-- A box of two. -/
def Box2 (W : World) (g : Nat) (x y : Value) : Prop := W.cell? ⟨g, 0, none⟩ = some x ∧ W.cell? ⟨g, 1, none⟩ = some y
theorem Box2.below {W W' : World} {g : Nat} {x y : Value} (h : Box2 W g x y) (hb : Below W.heap.size W W') : Box2 W' g x y :=
  ⟨(hb.cell (World.block_lt_of_cell? W _ h.1)).trans h.1, (hb.cell (World.block_lt_of_cell? W _ h.2)).trans h.2⟩
theorem Box2.btw {lo hi : Nat} {W W' : World} {g : Nat} {x y : Value} (h : Box2 W g x y) (hb : Btw lo hi W W') (hn : g < lo ∨ hi ≤ g) : Box2 W' g x y := ⟨hb.cell h.1 hn, hb.cell h.2 hn⟩
theorem OwnI.freshen {w : World} {base : Nat} {v : Value} {xs : List Int} (h : OwnI w base v xs) (h1 : xs.length ≤ 1000) : FreshRow w.heap.size base w.heap.size w xs.length v :=
  own_fresh h (by omega) (fun e => by have := (World.ownsRow.lt h _ e).2; omega)
theorem sameR_self (r : Rule) : sameR r r = true := by simp [sameR]
theorem box_new (W : World) (x y : Value) (t : TypeId) : Below W.heap.size W (W.alloc (.cells #[x, y] t)) ∧ (W.alloc (.cells #[x, y] t)).cell? ⟨W.heap.size, 0, none⟩ = some x ∧ (W.alloc (.cells #[x, y] t)).cell? ⟨W.heap.size, 1, none⟩ = some y ∧ W.heap.size < (W.alloc (.cells #[x, y] t)).heap.size :=
  ⟨(Below.refl _ W).alloc (Nat.le_refl _) _, by unfold World.cell?; rw [heap_alloc_new]; rfl, by unfold World.cell?; rw [heap_alloc_new]; rfl, by simp⟩
/-- A rule's rows may be cleared. -/
def FreshR (lo hi : Nat) (w : World) (v : Value) (r : Rule) : Prop := ∃ a b, v = .agg #[a, b] ∧ FreshRow hi lo hi w r.by_.length a ∧ FreshRow hi lo hi w r.start.length b
theorem OwnR.fresh {w : World} {base : Nat} {v : Value} {r : Rule} (h : OwnR w base v r) (h1 : r.by_.length ≤ 1000) (h2 : r.start.length ≤ 1000) : FreshR base w.heap.size w v r := by
  obtain ⟨a, b, rfl, oa, ob⟩ := h
  exact ⟨a, b, rfl, own_fresh oa (by omega) (fun e => by have := (World.ownsRow.lt oa _ e).2; omega), own_fresh ob (by omega) (fun e => by have := (World.ownsRow.lt ob _ e).2; omega)⟩
theorem OwnR.rd {w : World} {base : Nat} {v : Value} {r : Rule} (h : OwnR w base v r) (h1 : r.by_.length ≤ 1000) (h2 : r.start.length ≤ 1000) : RdR w v r := by
  obtain ⟨a, b, rfl, oa, ob⟩ := h
  exact ⟨a, b, rfl, oa.rd (by omega), ob.rd (by omega)⟩
theorem OwnR.below {w w1 : World} {base : Nat} {v : Value} {r : Rule} (h : OwnR w base v r) (hb : Below w.heap.size w w1) : OwnR w1 base v r := by
  obtain ⟨a, b, rfl, oa, ob⟩ := h
  exact ⟨a, b, rfl, oa.below hb, ob.below hb⟩
theorem FreshR.kept {lo hi : Nat} {w w' : World} {v : Value} {r : Rule} (h : FreshR lo hi w v r) (hb : Below w.heap.size w w') : FreshR lo hi w' v r := by
  obtain ⟨a, b, rfl, oa, ob⟩ := h
  exact ⟨a, b, rfl, oa.kept hb, ob.kept hb⟩
theorem FreshR.btw {lo hi lo' hi' : Nat} {w w' : World} {v : Value} {r : Rule} (h : FreshR lo hi w v r) (hb : Btw lo' hi' w w') (hd : hi ≤ lo' ∨ hi' ≤ lo) : FreshR lo hi w' v r := by
  obtain ⟨a, b, rfl, oa, ob⟩ := h
  exact ⟨a, b, rfl, oa.btw hb hd, ob.btw hb hd⟩
theorem OwnR.shape {w : World} {base : Nat} {v : Value} {r : Rule} (h : OwnR w base v r) : ∃ A n c B m d, v = .agg #[.slice A n c, .slice B m d] := by
  obtain ⟨a, b, rfl, oa, ob⟩ := h
  unfold OwnI at oa ob
  obtain ⟨A, c, rfl⟩ := own_form oa
  obtain ⟨B, d, rfl⟩ := own_form ob
  exact ⟨_, _, _, _, _, _, rfl⟩
theorem RdR.shape {w : World} {v : Value} {r : Rule} (h : RdR w v r) : ∃ A n c B m d, v = .agg #[.slice A n c, .slice B m d] := by
  obtain ⟨a, b, rfl, oa, ob⟩ := h
  obtain ⟨A, c, rfl, -⟩ := oa.open_
  obtain ⟨B, d, rfl, -⟩ := ob.open_
  exact ⟨_, _, _, _, _, _, rfl⟩
set_option maxRecDepth 100000 in
set_option maxHeartbeats 1600000 in
theorem ruled_any (r s : Rule) (v u : Value) (e e' : Int) (base hi : Nat) (w : World) (hrd : RdR w v r) (hs : RdR w u s) (hr : FreshR base hi w v r) (hhi : hi ≤ w.heap.size) :
    Calls Tryd.prog 43 #[v, u, .int .i64 e, .int .i64 e'] w fun q w' => q = .returned (.bool (decide (e = e') && sameR r s)) ∧ Btw base hi w w' := by
  obtain ⟨a, b, rfl, oa, ob⟩ := hr
  have fa := oa.other hhi
  have fb := ob.other hhi
  have hrr : RdR w (.agg #[a, b]) r := hrd
  obtain ⟨a', b', rfl, ra', rb'⟩ := hs
  have hss : RdR w (.agg #[a', b']) s := ⟨a', b', rfl, ra', rb'⟩
  have hbx : Below w.heap.size w ((w.alloc (.cells #[a, b] 49)).alloc (.cells #[a', b'] 49)) := ((Below.refl _ _).alloc (Nat.le_refl _) _).alloc (by simp) _
  have hga : ((w.alloc (.cells #[a, b] 49)).alloc (.cells #[a', b'] 49)).heap[w.heap.size]? = some (.cells #[a, b] 49 (0, 0)) := by
    rw [((Below.refl _ (w.alloc (.cells #[a, b] 49))).alloc (Nat.le_refl _) _).block w.heap.size (by simp)]; exact heap_alloc_new _ _
  have hgb : ((w.alloc (.cells #[a, b] 49)).alloc (.cells #[a', b'] 49)).heap[w.heap.size + 1]? = some (.cells #[a', b'] 49 (0, 0)) := by
    have h := heap_alloc_new (w.alloc (.cells #[a, b] 49)) (.cells #[a', b'] 49); rwa [World.size_alloc] at h
  have hsz : ((w.alloc (.cells #[a, b] 49)).alloc (.cells #[a', b'] 49)).heap.size = w.heap.size + 2 := by simp
  have hsa := Lib.hid (Same_any r s _ _ _ (hrr.below hbx (Nat.le_refl _)) (hss.below hbx (Nat.le_refl _)))
  have mk : ∀ (W : World) (g : Nat) (x y : Value), W.heap[g]? = some (.cells #[x, y] 49 (0, 0)) → W.cell? ⟨g, 0, none⟩ = some x ∧ W.cell? ⟨g, 1, none⟩ = some y := fun W g x y h => ⟨by unfold World.cell?; rw [h]; rfl, by unfold World.cell?; rw [h]; rfl⟩
  obtain ⟨c0, c1⟩ := mk _ _ _ _ hga
  obtain ⟨c2, c3⟩ := mk _ _ _ _ hgb
  have hBx : Hid (Btw base hi w _) := Lib.hid (Btw.of_below (lo := base) (hi := hi) hbx)
  have fa0 := Lib.hid (fa.kept hbx)
  have fb0 := Lib.hid (fb.kept hbx)
  clear oa ob hrr hrd ra' rb' hss fa fb hga hgb mk hbx hhi
  generalize r.by_.length = n1 at *
  generalize r.start.length = n2 at *
  generalize sameR r s = d at *
  by_cases he : e = e'
  · subst he
    have hd : Hid ((decide (e = e) && d) = d) := Lib.hid (by simp)
    go_enter Tryd.func43, Tryd.ntmps43
    go_wp2_with fail
    generalize (w.alloc (.cells #[a, b] 49)).alloc (.cells #[a', b'] 49) = X at *
    refine hsa.out.mono ?_; rintro q W1 ⟨rfl, hB⟩
    replace c0 := (hB.cell (p := ⟨w.heap.size, 0, none⟩) (by show w.heap.size < _; omega)).trans c0
    replace c1 := (hB.cell (p := ⟨w.heap.size, 1, none⟩) (by show w.heap.size < _; omega)).trans c1
    have fa1 := Lib.hid (fa0.out.kept hB)
    have fb1 := Lib.hid (fb0.out.kept hB)
    have hB1 := Lib.hid (hBx.out.trans (Btw.of_below hB))
    clear hB hsa
    clear c2 c3
    obtain ⟨W2, hrun1, hT1, hf1, hb1⟩ := clear_row fa1.out
    have fb2 := hf1 _ _ fb1.out
    obtain ⟨W3, hrun2, hT2, -, -⟩ := clear_row fb2
    have d1 := (hb1 1).trans c1
    have hT := Lib.hid (hB1.out.trans (hT1.trans hT2))
    clear hT1 hT2 hf1 hb1 fb2
    go_wp2
    go_ret
    exact ⟨by rw [hd.out]; rfl, hT.out⟩
  · have hne : (e == e') = false := by rw [beq_eq_false_iff_ne]; exact he
    have hd : Hid ((decide (e = e') && d) = false) := Lib.hid (by rw [decide_eq_false he]; rfl)
    replace he := Lib.hid he
    clear hsa
    have fa1 := fa0
    have fb1 := fb0
    have hB1 := hBx
    clear c2 c3
    obtain ⟨W2, hrun1, hT1, hf1, hb1⟩ := clear_row fa1.out
    have fb2 := hf1 _ _ fb1.out
    obtain ⟨W3, hrun2, hT2, -, -⟩ := clear_row fb2
    have d1 := (hb1 1).trans c1
    have hT := Lib.hid (hB1.out.trans (hT1.trans hT2))
    clear hT1 hT2 hf1 hb1 fb2
    go_enter Tryd.func43, Tryd.ntmps43
    go_wp2
    go_ret
    exact ⟨by rw [hd.out]; rfl, hT.out⟩
end Go.Proofs.YtfljkcmijnhgkaaDoor
