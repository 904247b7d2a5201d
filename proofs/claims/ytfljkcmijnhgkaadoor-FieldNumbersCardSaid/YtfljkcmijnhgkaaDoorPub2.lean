/- Solve: its contract. -/
import Derived.Test.YtfljkcmijnhgkaaDoorSolved
import Derived.Test.YtfljkcmijnhgkaaDoorPub1
namespace Go.Proofs.YtfljkcmijnhgkaaDoor
open Go.RowKit Go.Shelf

/-- What Solve tells. -/
def solR (a : List (List Int)) (b : List Int) : Int × List Int :=
  if checkM a ≠ 0 then (checkM a, []) else if b.length ≠ a.length then (4, []) else if isRes b = false then (3, [])
  else match solvedM a b (len0 a) with | none => (6, []) | some x => (0, x)
/-- What Solve leaves. -/
def RowErr (r : Int × List Int) (w : World) (e : Ending) (w' : World) : Prop := ∃ v, e = .returned (.tuple #[v, .int .i64 r.1]) ∧ OwnI w' w.heap.size v r.2 ∧ Below w.heap.size w w'
set_option maxHeartbeats 800000 in
theorem Solve_any (a : List (List Int)) (b : List Int) (va vb : Value) (w : World) (ha : RdM w va a) (hb : RdI w vb b) :
    Calls Tryd.prog 22 #[va, vb] w (RowErr (solR a b) w) := by
  have hc := Lib.hid (Check_any a va w ha)
  by_cases h0 : checkM a = 0
  · obtain ⟨hok, h1, h2, h3, h4⟩ := checkM_ok h0
    obtain ⟨A, c, e, l1, l2, l3⟩ := ha.open_
    obtain ⟨A', c', e', -⟩ := hb.open_
    by_cases hl : b.length = a.length
    · have hi := Lib.hid (fun W (hW : Below w.heap.size w W) => is_any b vb W (hb.below hW (Nat.le_refl _)))
      have hlI : ((b.length : Int) != (a.length : Int)) = false := by rw [hl]; simp
      cases hr : isRes b
      · have hs : Hid (solR a b = (3, [])) := by rw [solR, if_neg (by simpa using h0), if_neg (by simpa using hl), if_pos hr]; exact rfl
        rw [hr] at hi
        rw [h0] at hc
        subst e e'
        clear l3 ha hb hok h0
        generalize a.length = n at *
        generalize b.length = m at *
        subst hl
        go_enter Tryd.func22, Tryd.ntmps22
        go_wp2_with fail
        refine hc.out.mono ?_; rintro e W ⟨rfl, hB⟩
        go_wp2_with fail
        refine (hi.out W hB).mono ?_; rintro e W2 ⟨rfl, hB2⟩
        go_wp2
        go_ret2
        rw [hs.out]
        exact ⟨_, rfl, OwnI_nil _ _, Below.then_ hB hB2⟩
      · have hs : Hid (solR a b = match solvedM a b (len0 a) with | none => (6, []) | some x => (0, x)) := by
          rw [solR, if_neg (by simpa using h0), if_neg (by simpa using hl), if_neg (by simp [hr])]; exact rfl
        obtain ⟨b0, off, u, rfl, hcell, hu⟩ := l3 0 (by omega)
        obtain ⟨A1, c1, rfl, f1, f2⟩ := hu.cell_
        change _ = some (Value.slice A1 (len0 a) c1) at hcell
        rw [Nat.add_zero] at hcell
        have hlt : b0 < w.heap.size := World.block_lt_of_cell? w _ hcell
        have hsv := Lib.hid (fun W (hW : Below w.heap.size w W) => solved_any a b a.length (len0 a) va vb W hok (by omega) (by omega) hl (isRes_iff.1 hr) (ha.below hW (Nat.le_refl _)) (hb.below hW (Nat.le_refl _)))
        rw [hr] at hi
        rw [h0] at hc
        subst e e'
        clear l3 hu ha hb hok f1 f2 h0 hr
        generalize solvedM a b (len0 a) = S at *
        generalize solR a b = R at *
        generalize a.length = n at *
        generalize len0 a = m at *
        generalize b.length = l at *
        subst hl
        have n1 : (0 : Int) < (l : Int) := by omega
        go_enter Tryd.func22, Tryd.ntmps22
        go_wp2_with fail
        refine hc.out.mono ?_; rintro e W ⟨rfl, hB⟩
        go_wp2_with fail
        refine (hi.out W hB).mono ?_; rintro e W2 ⟨rfl, hB2⟩
        have hB3 := Lib.hid (Below.then_ hB hB2)
        have hcell2 := (hB3.out.cell (p := ⟨b0, off, none⟩) hlt).trans hcell
        clear hB hB2
        go_wp2_with fail
        refine (hsv.out W2 hB3.out).mono ?_; rintro e W3 ⟨⟨v, rfl, hO⟩, hB4⟩
        replace hO := Lib.hid hO
        have hB5 := Lib.hid (Below.then_ hB3.out hB4)
        clear hB4
        cases S with
        | none =>
          simp only [Option.isSome_none] at hO ⊢
          go_wp2
          go_ret2
          rw [hs.out]
          exact ⟨_, rfl, OwnI_nil _ _, hB5.out⟩
        | some x =>
          simp only [Option.isSome_some, Option.getD_some] at hO ⊢
          go_wp2
          go_ret2
          rw [hs.out]
          exact ⟨_, rfl, hO.out.base hB3.out.size, hB5.out⟩
    · have hs : Hid (solR a b = (4, [])) := by rw [solR, if_neg (by simpa using h0), if_pos (by simpa using hl)]; exact rfl
      have hne : ((b.length : Int) != (a.length : Int)) = true := by rw [bne_iff_ne]; omega
      rw [h0] at hc
      subst e e'
      clear l3 ha hb hok h0
      generalize a.length = n at *
      generalize b.length = m at *
      go_enter Tryd.func22, Tryd.ntmps22
      go_wp2_with fail
      refine hc.out.mono ?_; rintro e W ⟨rfl, hB⟩
      go_wp2
      go_ret2
      rw [hs.out]
      exact ⟨_, rfl, OwnI_nil _ _, hB⟩
  · have hs : Hid (solR a b = (checkM a, [])) := by rw [solR, if_pos h0]; exact rfl
    have hne : (checkM a != 0) = true := by rw [bne_iff_ne]; exact h0
    generalize checkM a = x at *
    clear ha hb h0
    go_enter Tryd.func22, Tryd.ntmps22
    go_wp2_with fail
    refine hc.out.mono ?_; rintro e W ⟨rfl, hB⟩
    go_wp2
    go_ret2
    rw [hs.out]
    exact ⟨_, rfl, OwnI_nil _ _, hB⟩
end Go.Proofs.YtfljkcmijnhgkaaDoor
