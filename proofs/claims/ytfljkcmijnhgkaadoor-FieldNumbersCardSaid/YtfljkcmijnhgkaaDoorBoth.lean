/- both, total: their contracts. -/
import Derived.Test.YtfljkcmijnhgkaaDoorLeast
import Derived.Test.YtfljkcmijnhgkaaDoorHuge
namespace Go.Proofs.YtfljkcmijnhgkaaDoor
open Go.RowKit Go.Shelf
set_option linter.unusedSimpArgs false

def BothRel (r s : Rule) (i : Value) : Prop := i = .int .i64 0 ∨ (i = .int .i64 1 ∧ rightR r = 0) ∨ (i = .int .i64 2 ∧ rightR r = 0 ∧ rightR s = 0)
theorem bothR_eq {r s : Rule} {x : Int} (h : rightR r = x) (h0 : x ≠ 0) : bothR r s = x := by rw [bothR, h, if_pos h0]
theorem bothR_eq2 {r s : Rule} (h : rightR r = 0) : bothR r s = rightR s := by rw [bothR, if_neg (by simpa using h)]
theorem bothR_cases (r s : Rule) : bothR r s = 0 ∨ bothR r s = 2 ∨ bothR r s = 3 ∨ bothR r s = 4 := by
  have h1 := rightR_cases r
  have h2 := rightR_cases s
  unfold bothR
  split <;> assumption
theorem bothR_ok {r s : Rule} (h : bothR r s = 0) : rightR r = 0 ∧ rightR s = 0 := by
  unfold bothR at h
  split at h
  · contradiction
  · rename_i h1
    exact ⟨by simpa using h1, h⟩
set_option maxRecDepth 100000 in
set_option maxHeartbeats 1600000 in
theorem both_any (r s : Rule) (b : Nat) (a1 b1 a2 b2 : Value) (w : World) (hr : RdR w (.agg #[a1, b1]) r) (hs : RdR w (.agg #[a2, b2]) s) (hb : w.heap[b]? = some (.cells #[a1, b1, a2, b2] 49 (0, 0))) :
    Calls Tryd.prog 110 #[.slice (some ⟨b, 0, none⟩) 2 2] w fun e w' => e = .returned (.int .i64 (bothR r s)) ∧ Below w.heap.size w w' := by
  have hc : ∀ j v, (#[a1, b1, a2, b2] : Array Value)[j]? = some v → w.cell? ⟨b, j, none⟩ = some v := fun j v h => by unfold World.cell?; rw [hb]; exact h
  have c0 := hc 0 _ rfl
  have c1 := hc 1 _ rfl
  have c2 := hc 2 _ rfl
  have c3 := hc 3 _ rfl
  have hbl : b < w.heap.size := World.block_lt_of_cell? w _ c0
  have hR1 := Lib.hid (fun W (hW : Below w.heap.size w W) => Right_any r _ W (hr.below hW (Nat.le_refl _)))
  have hR2 := Lib.hid (fun W (hW : Below w.heap.size w W) => Right_any s _ W (hs.below hW (Nat.le_refl _)))
  obtain ⟨a, b', e, ra, rb⟩ := hr
  simp only [Value.agg.injEq, Array.mk.injEq, List.cons.injEq, and_true] at e
  obtain ⟨rfl, rfl⟩ := e
  obtain ⟨a, b', e, sa, sb⟩ := hs
  simp only [Value.agg.injEq, Array.mk.injEq, List.cons.injEq, and_true] at e
  obtain ⟨rfl, rfl⟩ := e
  obtain ⟨A1, d1, rfl, -⟩ := ra.open_
  obtain ⟨A2, d2, rfl, -⟩ := rb.open_
  obtain ⟨A3, d3, rfl, -⟩ := sa.open_
  obtain ⟨A4, d4, rfl, -⟩ := sb.open_
  have hcs := Lib.hid (And.intro c0 (And.intro c1 (And.intro c2 c3)))
  clear hc hb ra rb sa sb c0 c1 c2 c3
  generalize r.by_.length = n1 at *
  generalize r.start.length = n2 at *
  generalize s.by_.length = n3 at *
  generalize s.start.length = n4 at *
  go_enter Tryd.func110, Tryd.ntmps110
  go_wp2
  go_loopw [4, 5, 8] (fun _ _ i wr => BothRel r s i ∧ Hid (Below w.heap.size w wr)) (fun _ _ i _ => 2 - (intOf i).toNat)
  case atStart => exact ⟨.inl rfl, Lib.hid (Below.refl _ _)⟩
  case round =>
    obtain ⟨hi, hB⟩ := hrel
    have c0 := (hB.out.cell (p := ⟨b, 0, none⟩) hbl).trans hcs.out.1
    have c1 := (hB.out.cell (p := ⟨b, 1, none⟩) hbl).trans hcs.out.2.1
    have c2 := (hB.out.cell (p := ⟨b, 2, none⟩) hbl).trans hcs.out.2.2.1
    have c3 := (hB.out.cell (p := ⟨b, 3, none⟩) hbl).trans hcs.out.2.2.2
    rcases hi with rfl | ⟨rfl, h1⟩ | ⟨rfl, h1, h2⟩
    · have hbx : Below wr.heap.size wr (wr.alloc (.cells #[.slice A1 n1 d1, .slice A2 n2 d2] 49)) := (Below.refl _ _).alloc (Nat.le_refl _) _
      have hcall := Lib.hid (hR1.out _ (Below.then_ hB.out hbx))
      have hBx := Lib.hid (Below.then_ hB.out hbx)
      by_cases h0 : rightR r = 0
      · have hrel' : Hid (BothRel r s (.int .i64 1)) := Lib.hid (.inr (.inl ⟨rfl, h0⟩))
        rw [h0] at hcall
        replace h0 := Lib.hid h0
        go_wp2_with fail
        generalize wr.alloc (.cells #[.slice A1 n1 d1, .slice A2 n2 d2] 49) = X at *
        refine hcall.out.mono ?_; rintro e W1 ⟨rfl, hB1⟩
        have hB2 := Lib.hid (Below.then_ hBx.out hB1)
        go_wp2
        go_roundw
        case rel => exact ⟨hrel'.out, hB2⟩
        case measure => simp [intOf]
      · have hr := Lib.hid (bothR_eq (s := s) rfl h0)
        have hne : (rightR r != 0) = true := by rw [bne_iff_ne]; exact h0
        have hca := Lib.hid (rightR_cases r)
        generalize rightR r = x at *
        go_wp2_with fail
        generalize wr.alloc (.cells #[.slice A1 n1 d1, .slice A2 n2 d2] 49) = X at *
        refine hcall.out.mono ?_; rintro e W1 ⟨rfl, hB1⟩
        go_wp2
        go_ret
        exact ⟨by rw [hr.out]; rfl, Below.then_ hBx.out hB1⟩
    · have hbx : Below wr.heap.size wr (wr.alloc (.cells #[.slice A3 n3 d3, .slice A4 n4 d4] 49)) := (Below.refl _ _).alloc (Nat.le_refl _) _
      have hcall := Lib.hid (hR2.out _ (Below.then_ hB.out hbx))
      have hBx := Lib.hid (Below.then_ hB.out hbx)
      by_cases h0 : rightR s = 0
      · have hrel' : Hid (BothRel r s (.int .i64 2)) := Lib.hid (.inr (.inr ⟨rfl, h1, h0⟩))
        rw [h0] at hcall
        replace h0 := Lib.hid h0
        replace h1 := Lib.hid h1
        go_wp2_with fail
        generalize wr.alloc (.cells #[.slice A3 n3 d3, .slice A4 n4 d4] 49) = X at *
        refine hcall.out.mono ?_; rintro e W1 ⟨rfl, hB1⟩
        have hB2 := Lib.hid (Below.then_ hBx.out hB1)
        go_wp2
        go_roundw
        case rel => exact ⟨hrel'.out, hB2⟩
        case measure => simp [intOf]
      · have hr := Lib.hid (bothR_eq2 (s := s) h1)
        have hne : (rightR s != 0) = true := by rw [bne_iff_ne]; exact h0
        have hca := Lib.hid (rightR_cases s)
        replace h1 := Lib.hid h1
        generalize rightR s = x at *
        go_wp2_with fail
        generalize wr.alloc (.cells #[.slice A3 n3 d3, .slice A4 n4 d4] 49) = X at *
        refine hcall.out.mono ?_; rintro e W1 ⟨rfl, hB1⟩
        go_wp2
        go_ret
        exact ⟨by rw [hr.out]; rfl, Below.then_ hBx.out hB1⟩
    · have hr : Hid (bothR r s = 0) := Lib.hid (by rw [bothR_eq2 h1, h2])
      replace h1 := Lib.hid h1
      replace h2 := Lib.hid h2
      go_wp2
      go_ret
      exact ⟨by rw [hr.out]; rfl, hB.out⟩
set_option maxRecDepth 100000 in
set_option maxHeartbeats 400000 in
theorem total_two (x y : Int) (b : Nat) (w : World) (hx : 0 ≤ x ∧ x < 65521) (hy : 0 ≤ y ∧ y < 65521) (hb : w.heap[b]? = some (.cells #[.int .i64 x, .int .i64 y] 3 (0, 0))) :
    Calls Tryd.prog 171 #[.slice (some ⟨b, 0, none⟩) 2 2] w fun e w' => e = .returned (.int .i64 ((x + y) % 65521)) ∧ w = w' := by
  obtain ⟨x1, x2⟩ := hx
  obtain ⟨y1, y2⟩ := hy
  have c0 : w.cell? ⟨b, 0, none⟩ = some (.int .i64 x) := by unfold World.cell?; rw [hb]; rfl
  have c1 : w.cell? ⟨b, 1, none⟩ = some (.int .i64 y) := by unfold World.cell?; rw [hb]; rfl
  clear hb
  go_enter Tryd.func171, Tryd.ntmps171
  go_wp2
  go_loop [3, 5, 8] (fun t _ i => (t = .int .i64 0 ∧ i = .int .i64 0) ∨ (t = .int .i64 x ∧ i = .int .i64 1) ∨ (t = .int .i64 ((x + y) % 65521) ∧ i = .int .i64 2)) (fun _ _ i => 2 - (intOf i).toNat)
  case atStart => exact .inl ⟨rfl, rfl⟩
  case round =>
    rcases hrel with ⟨rfl, rfl⟩ | ⟨rfl, rfl⟩ | ⟨rfl, rfl⟩
    · go_wp2
      go_round
      case rel => exact .inr (.inl ⟨by congr 1; omega, rfl⟩)
      case measure => simp [intOf]
    · go_wp2
      go_round
      case rel => exact .inr (.inr ⟨rfl, rfl⟩)
      case measure => simp [intOf]
    · go_wp2
      go_ret
      exact ⟨rfl, rfl⟩
end Go.Proofs.YtfljkcmijnhgkaaDoor
