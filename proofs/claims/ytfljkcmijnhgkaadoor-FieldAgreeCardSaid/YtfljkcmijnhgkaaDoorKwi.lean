/- FieldRoads: its contract. has of the law: for a rule that is the shortest of its sequence. -/
import Derived.Test.YtfljkcmijnhgkaaDoorKwe
import Derived.Test.YtfljkcmijnhgkaaDoorKwf
import Derived.Test.YtfljkcmijnhgkaaDoorKwg
import Derived.Test.YtfljkcmijnhgkaaDoorKg
import Derived.Test.YtfljkcmijnhgkaaDoorKf
import Derived.Test.YtfljkcmijnhgkaaDoorKwa
import Derived.Test.YtfljkcmijnhgkaaDoorKn
import Derived.Test.YtfljkcmijnhgkaaDoorKh
import Derived.Test.YtfljkcmijnhgkaaDoorKb
namespace Go.Proofs.YtfljkcmijnhgkaaDoor
open Go.RowKit Go.Shelf
set_option linter.unusedSimpArgs false
theorem RdR.one {w : World} {a b : Value} {r : Rule} (h : RdR w (.agg #[a, b]) r) : RdI w a r.by_ ∧ RdI w b r.start := by
  obtain ⟨x, y, e, h1, h2⟩ := h
  obtain ⟨rfl, rfl⟩ : a = x ∧ b = y := by simpa using e
  exact ⟨h1, h2⟩
end Go.Proofs.YtfljkcmijnhgkaaDoor

namespace Go.Proofs.YtfljkcmijnhgkaaDoor
open Go.RowKit Go.Shelf
set_option linter.unusedSimpArgs false
set_option maxRecDepth 100000 in
set_option maxHeartbeats 3200000 in
theorem has_any (r : Rule) (l : List Int) (most : Nat) (v vl : Value) (w : World) (h : RdR w v r) (hl : RdI w vl l) (h0 : rightR r = 0) (hm : r.by_.length ≤ most) (_hmm : most ≤ 1000) (hll : l.length ≤ 10000) (he : firstL r l.length = l) (hs : shortR r = (r, 0)) :
    Calls Tryd.prog 60 #[v, vl, .int .i64 most] w fun e w' => e = .returned (.bool true) ∧ Below w.heap.size w w' := by
  have hR := Lib.hid h
  obtain ⟨a, b, rfl, ra, rb⟩ := h
  obtain ⟨o1, o2, o3, o4⟩ := rightR_ok h0
  obtain ⟨AL, cL, rfl, l1, l2, -⟩ := hl.open_
  have hbx := box_new w a b 49
  have hT : Hid (Below w.heap.size w (w.alloc (.cells #[a, b] 49))) := Lib.hid hbx.1
  have hc0 := hbx.2.1
  have hc1 := hbx.2.2.1
  have rA := Lib.hid (fun W (hW : Below w.heap.size w W) => ra.below hW (Nat.le_refl _))
  have rB := Lib.hid (fun W (hW : Below w.heap.size w W) => rb.below hW (Nat.le_refl _))
  have rL := Lib.hid (fun W (hW : Below w.heap.size w W) => hl.below hW (Nat.le_refl _))
  obtain ⟨A, c, rfl, g1, g2, -⟩ := ra.open_
  obtain ⟨B, d, rfl, g3, g4, -⟩ := rb.open_
  have q1 := Lib.hid (fun W (hW : Below w.heap.size w W) => (isRes_of' o3) ▸ residues_any r.by_ _ W (rA.out W hW))
  have q2 := Lib.hid (fun W (hW : Below w.heap.size w W) => (isRes_of' o4) ▸ residues_any r.start _ W (rB.out W hW))
  have q3 := Lib.hid (fun W (hW : Below w.heap.size w W) => go1_any r l.length _ W (hR.out.below hW (Nat.le_refl _)) (by omega) (by omega) o3 o4 hll)
  have q4 := Lib.hid (fun xs v u W (h1 : RdI W v xs) (h2 : RdI W u xs) => (decide_eq_true (show xs = xs from rfl)) ▸ Equal_any xs xs v u W h1 h2)
  have q5 := Lib.hid (fun W (hW : Below w.heap.size w W) => hs ▸ Short_any r _ W (hR.out.below hW (Nat.le_refl _)))
  have m1 : ¬ (most : Int) < (r.by_.length : Int) := by omega
  have h0' := Lib.hid h0
  rw [o2] at *
  replace o3 := Lib.hid o3
  replace o4 := Lib.hid o4
  replace he := Lib.hid he
  replace hs := Lib.hid hs
  clear ra rb hl h0 hR hbx o2
  generalize hN : r.by_.length = N at *
  replace hN := Lib.hid hN
  go_enter Tryd.func60, Tryd.ntmps60
  go_wp2_with fail
  generalize w.alloc (.cells #[.slice A N c, .slice B N d] 49) = X at *
  refine (q1.out X hT.out).mono ?_; rintro e X1 ⟨rfl, hN1⟩
  replace hT := Lib.hid (Below.then_ hT.out hN1)
  replace hc0 := (hN1.cell (World.block_lt_of_cell? _ _ hc0)).trans hc0
  replace hc1 := (hN1.cell (World.block_lt_of_cell? _ _ hc1)).trans hc1
  have z_X1 := hN1.size; clear hN1
  go_wp2_with fail
  refine (q2.out X1 hT.out).mono ?_; rintro e X2 ⟨rfl, hN2⟩
  replace hT := Lib.hid (Below.then_ hT.out hN2)
  replace hc0 := (hN2.cell (World.block_lt_of_cell? _ _ hc0)).trans hc0
  replace hc1 := (hN2.cell (World.block_lt_of_cell? _ _ hc1)).trans hc1
  have z_X2 := hN2.size; clear hN2
  go_wp2_with fail
  refine (q3.out X2 hT.out).mono ?_; rintro e X3 ⟨⟨u, rfl, ru⟩, hN3⟩
  replace hT := Lib.hid (Below.then_ hT.out hN3)
  replace hc0 := (hN3.cell (World.block_lt_of_cell? _ _ hc0)).trans hc0
  replace hc1 := (hN3.cell (World.block_lt_of_cell? _ _ hc1)).trans hc1
  have z_X3 := hN3.size; clear hN3
  rw [he.out] at ru
  replace ru := Lib.hid ru
  go_wp2_with fail
  refine (q4.out l _ _ X3 ru.out (rL.out _ hT.out)).mono ?_; rintro e X4 ⟨rfl, hN4⟩
  replace hT := Lib.hid (Below.then_ hT.out hN4)
  replace hc0 := (hN4.cell (World.block_lt_of_cell? _ _ hc0)).trans hc0
  replace hc1 := (hN4.cell (World.block_lt_of_cell? _ _ hc1)).trans hc1
  replace ru := Lib.hid (ru.out.below hN4 (Nat.le_refl _))
  have z_X4 := hN4.size; clear hN4
  go_wp2_with fail
  refine (q5.out X4 hT.out).mono ?_; rintro e X5 ⟨v5, rfl, or5, hN5⟩
  replace hT := Lib.hid (Below.then_ hT.out hN5)
  replace hc0 := (hN5.cell (World.block_lt_of_cell? _ _ hc0)).trans hc0
  replace hc1 := (hN5.cell (World.block_lt_of_cell? _ _ hc1)).trans hc1
  replace ru := Lib.hid (ru.out.below hN5 (Nat.le_refl _))
  have z_X5 := hN5.size; clear hN5
  obtain ⟨a5, b5, rfl, oa, ob⟩ := or5
  obtain ⟨A5, c5, rfl⟩ := own_shape oa
  obtain ⟨B5, d5, rfl⟩ := own_shape ob
  have ra5 := Lib.hid (oa.rd (by have := hN.out; show r.by_.length ≤ _; omega))
  have rb5 := Lib.hid (ob.rd (by have := hN.out; have := (rightR_ok h0'.out).2.1; show r.start.length ≤ _; omega))
  clear oa ob
  obtain ⟨hN6, Y_0, Y_1, Y_z⟩ := box_new X5 (.slice A5 r.by_.length c5) (.slice B5 r.start.length d5) 49
  replace hT := Lib.hid (Below.then_ hT.out hN6)
  replace hc0 := (hN6.cell (World.block_lt_of_cell? _ _ hc0)).trans hc0
  replace hc1 := (hN6.cell (World.block_lt_of_cell? _ _ hc1)).trans hc1
  replace ru := Lib.hid (ru.out.below hN6 (Nat.le_refl _))
  replace ra5 := Lib.hid (ra5.out.below hN6 (Nat.le_refl _))
  replace rb5 := Lib.hid (rb5.out.below hN6 (Nat.le_refl _))
  go_wp2_with fail
  generalize X5.alloc (.cells #[.slice A5 r.by_.length c5, .slice B5 r.start.length d5] 49) = Y at *
  clear hN6
  refine (q4.out r.by_ _ _ Y ra5.out (rA.out _ hT.out)).mono ?_; rintro e X6 ⟨rfl, hN7⟩
  replace hT := Lib.hid (Below.then_ hT.out hN7)
  replace hc0 := (hN7.cell (World.block_lt_of_cell? _ _ hc0)).trans hc0
  replace hc1 := (hN7.cell (World.block_lt_of_cell? _ _ hc1)).trans hc1
  replace ru := Lib.hid (ru.out.below hN7 (Nat.le_refl _))
  replace ra5 := Lib.hid (ra5.out.below hN7 (Nat.le_refl _))
  replace rb5 := Lib.hid (rb5.out.below hN7 (Nat.le_refl _))
  replace Y_0 := (hN7.cell (World.block_lt_of_cell? _ _ Y_0)).trans Y_0
  replace Y_1 := (hN7.cell (World.block_lt_of_cell? _ _ Y_1)).trans Y_1
  have z_X6 := hN7.size; clear hN7
  go_wp2_with fail
  refine (q4.out r.start _ _ X6 rb5.out (rB.out _ hT.out)).mono ?_; rintro e X7 ⟨rfl, hN8⟩
  replace hT := Lib.hid (Below.then_ hT.out hN8)
  replace hc0 := (hN8.cell (World.block_lt_of_cell? _ _ hc0)).trans hc0
  replace hc1 := (hN8.cell (World.block_lt_of_cell? _ _ hc1)).trans hc1
  replace ru := Lib.hid (ru.out.below hN8 (Nat.le_refl _))
  replace ra5 := Lib.hid (ra5.out.below hN8 (Nat.le_refl _))
  replace rb5 := Lib.hid (rb5.out.below hN8 (Nat.le_refl _))
  replace Y_0 := (hN8.cell (World.block_lt_of_cell? _ _ Y_0)).trans Y_0
  replace Y_1 := (hN8.cell (World.block_lt_of_cell? _ _ Y_1)).trans Y_1
  have z_X7 := hN8.size; clear hN8
  go_wp2
  go_ret
  exact ⟨rfl, hT.out⟩
where
  isRes_of' {xs : List Int} (h : ∀ x ∈ xs, 0 ≤ x ∧ x < 65521) : isRes xs = true := by
    rw [isRes, List.all_eq_true]; intro x hx; have := h x hx; simp [isN]; omega
end Go.Proofs.YtfljkcmijnhgkaaDoor
