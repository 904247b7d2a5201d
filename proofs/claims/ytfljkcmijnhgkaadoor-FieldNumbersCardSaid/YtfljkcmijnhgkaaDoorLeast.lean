/- Least, both, total: their contracts. -/
import Derived.Test.YtfljkcmijnhgkaaDoorFit
namespace Go.Proofs.YtfljkcmijnhgkaaDoor
open Go.RowKit Go.Shelf
set_option linter.unusedSimpArgs false

theorem ret_cell {w : World} {g : Nat} {x y : Value} (h : w.heap[g]? = some (.cells #[x, y] 49 (0, 0))) : w.cell? ⟨g, 0, none⟩ = some x ∧ w.cell? ⟨g, 1, none⟩ = some y ∧ w.frozen? ⟨g, 0, none⟩ = false ∧ w.frozen? ⟨g, 1, none⟩ = false :=
  ⟨by unfold World.cell?; rw [h]; rfl, by unfold World.cell?; rw [h]; rfl, by unfold World.frozen?; rw [h]; rfl, by unfold World.frozen?; rw [h]; rfl⟩
/-- The two stores of a result. -/
theorem own_two {W : World} {base b g : Nat} {v : Value} {xs : List Int} (h : OwnI W base v xs) (hb : b ≤ base) (hg : g < base) (x y : Value) : OwnI ((W.setCell ⟨g, 0, none⟩ x).setCell ⟨g, 1, none⟩ y) b v xs :=
  own_of_block (h.base hb) (fun k hk => by
    have := (h.lt k hk).1
    rw [Below.heap_setCell _ _ _ _ (by show k ≠ g; omega), Below.heap_setCell _ _ _ _ (by show k ≠ g; omega)])
theorem leastR_many {l : List Int} (h : 64 < l.length) : leastR l = (⟨[], []⟩, 2) := by rw [leastR, if_pos h]
theorem leastR_range {l : List Int} (h : ¬ 64 < l.length) (h2 : isRes l = false) : leastR l = (⟨[], []⟩, 3) := by rw [leastR, if_neg h, if_pos h2]
theorem leastR_none {l : List Int} (h : ¬ 64 < l.length) (h2 : isRes l = true) (h3 : fitM l 12 = none) : leastR l = (⟨[], []⟩, 11) := by rw [leastR, if_neg h, if_neg (by simp [h2]), h3]
theorem leastR_some {l : List Int} {r : Rule} (h : ¬ 64 < l.length) (h2 : isRes l = true) (h3 : fitM l 12 = some r) : leastR l = (r, 0) := by rw [leastR, if_neg h, if_neg (by simp [h2]), h3]
/-- A rule in new memory, and an error. -/
def RuleOut (r : Rule × Int) (w : World) (e : Ending) (w' : World) : Prop := ∃ v, e = .returned (.tuple #[v, .int .i64 r.2]) ∧ OwnR w' w.heap.size v r.1 ∧ Below w.heap.size w w'
set_option maxRecDepth 100000 in
set_option maxHeartbeats 1600000 in
theorem Least_any (l : List Int) (v : Value) (w : World) (h : RdI w v l) :
    Calls Tryd.prog 47 #[v] w (RuleOut (leastR l) w) := by
  have hrd := Lib.hid h
  obtain ⟨A, c, rfl, l1, l2, -⟩ := h.open_
  have hbx : Below w.heap.size w (w.alloc (.cells #[.slice none 0 0, .slice none 0 0] 49)) := (Below.refl _ _).alloc (Nat.le_refl _) _
  have hg : (w.alloc (.cells #[.slice none 0 0, .slice none 0 0] 49)).heap[w.heap.size]? = some (.cells #[.slice none 0 0, .slice none 0 0] 49 (0, 0)) := heap_alloc_new _ _
  have hsz : (w.alloc (.cells #[.slice none 0 0, .slice none 0 0] 49)).heap.size = w.heap.size + 1 := by simp
  have hE : ∀ W (g : Nat), Below w.heap.size w W → g = w.heap.size → Below w.heap.size w ((W.setCell ⟨g, 0, none⟩ (.slice none 0 0)).setCell ⟨g, 1, none⟩ (.slice none 0 0)) := fun W g hW hg => by
    subst hg; exact (hW.setCell (p := ⟨w.heap.size, 0, none⟩) (Nat.le_refl _) _).setCell (p := ⟨w.heap.size, 1, none⟩) (Nat.le_refl _) _
  replace hE := Lib.hid hE
  clear h
  by_cases q1 : 64 < l.length
  · have hr := Lib.hid (leastR_many q1)
    have q2 : (64 : Int) < (l.length : Int) := by omega
    obtain ⟨d0, d1, d2, d3⟩ := ret_cell hg
    replace hg := Lib.hid hg
    go_enter Tryd.func47, Tryd.ntmps47
    go_wp2
    refine bodyPost_ret (res_ct rfl _ _ w.heap.size 49 #[.slice none 0 0, .slice none 0 0] (0, 0) _ rfl hg.out rfl rfl rfl) rfl ?_
    rw [hr.out]
    exact ⟨_, rfl, ⟨_, _, rfl, OwnI_nil _ _, OwnI_nil _ _⟩, hbx⟩
  · have q2 : ¬ (64 : Int) < (l.length : Int) := by omega
    have hi := Lib.hid (fun W (hW : Below w.heap.size w W) => is_any l _ W (hrd.out.below hW (Nat.le_refl _)))
    cases p1 : isRes l
    · have hr := Lib.hid (leastR_range q1 p1)
      rw [p1] at hi
      clear p1
      go_enter Tryd.func47, Tryd.ntmps47
      go_wp2_with fail
      generalize w.alloc (.cells #[.slice none 0 0, .slice none 0 0] 49) = X at *
      refine (hi.out X hbx).mono ?_; rintro e W1 ⟨rfl, hB1⟩
      have hg1 := (hB1.block w.heap.size (by rw [hsz]; exact Nat.lt_succ_self _)).trans hg
      obtain ⟨d0, d1, d2, d3⟩ := ret_cell hg1
      replace hg1 := Lib.hid hg1
      clear hg hi
      go_wp2
      refine bodyPost_ret (res_ct rfl _ _ w.heap.size 49 #[.slice none 0 0, .slice none 0 0] (0, 0) _ rfl (heap_set2 _ _ hg1.out) rfl rfl rfl) rfl ?_
      rw [hr.out]
      exact ⟨_, rfl, ⟨_, _, rfl, OwnI_nil _ _, OwnI_nil _ _⟩, hE.out _ _ (Below.then_ hbx hB1) rfl⟩
    · rw [p1] at hi
      have hfi := Lib.hid (fun W (hW : Below w.heap.size w W) => fitting_any l 12 _ W (by omega) (by omega) (isRes_iff.1 p1) (hrd.out.below hW (Nat.le_refl _)))
      have hF := Lib.hid (fun (h3 : fitM l 12 = none) => leastR_none q1 p1 h3)
      have hG := Lib.hid (fun r (h3 : fitM l 12 = some r) => leastR_some (r := r) q1 p1 h3)
      unfold FitRes at hfi
      generalize hfb : (fitM l 12).isSome = fb at hfi
      replace hfb := Lib.hid hfb
      clear p1
      go_enter Tryd.func47, Tryd.ntmps47
      go_wp2_with fail
      generalize w.alloc (.cells #[.slice none 0 0, .slice none 0 0] 49) = X at *
      refine (hi.out X hbx).mono ?_; rintro e W1 ⟨rfl, hB1⟩
      have hg1 := (hB1.block w.heap.size (by rw [hsz]; exact Nat.lt_succ_self _)).trans hg
      have hB2 := Below.then_ hbx hB1
      go_wp2_with fail
      refine (hfi.out W1 hB2).mono ?_; rintro e W2 ⟨v, rfl, ⟨a, b, rfl, oa, ob⟩, hB3⟩
      have hlt1 : w.heap.size < W1.heap.size := by have := hB1.size; omega
      obtain ⟨A1, c1, rfl⟩ : ∃ A c, a = .slice A ((fitM l 12).getD ⟨[], []⟩).by_.length c := by have h := oa; unfold OwnI at h; exact own_form h
      obtain ⟨A2, c2, rfl⟩ : ∃ A c, b = .slice A ((fitM l 12).getD ⟨[], []⟩).start.length c := by have h := ob; unfold OwnI at h; exact own_form h
      generalize ((fitM l 12).getD ⟨[], []⟩).by_.length = n1 at *
      generalize ((fitM l 12).getD ⟨[], []⟩).start.length = n2 at *
      have hbl : Below W2.heap.size W2 (W2.alloc (.cells #[.slice A1 n1 c1, .slice A2 n2 c2] 49)) := (Below.refl _ _).alloc (Nat.le_refl _) _
      have hg2 := (hbl.block w.heap.size (by have := hB3.size; omega)).trans ((hB3.block w.heap.size hlt1).trans hg1)
      obtain ⟨d0, d1, d2, d3⟩ := ret_cell hg2
      replace hg2 := Lib.hid hg2
      have hgn : (W2.alloc (.cells #[.slice A1 n1 c1, .slice A2 n2 c2] 49)).heap[W2.heap.size]? = some (.cells #[.slice A1 n1 c1, .slice A2 n2 c2] 49 (0, 0)) := heap_alloc_new _ _
      obtain ⟨d4, d5, -, -⟩ := ret_cell hgn
      have hB4 := Lib.hid (Below.then_ (Below.then_ hB2 hB3) hbl)
      replace oa := Lib.hid (oa.below hbl)
      replace ob := Lib.hid (ob.below hbl)
      clear hg hg1 hi hgn hbl
      cases fb with
      | false =>
        have hr := Lib.hid (hF.out (Option.not_isSome_iff_eq_none.1 (by rw [hfb.out]; decide)))
        go_wp2
        refine bodyPost_ret (res_ct rfl _ _ w.heap.size 49 #[.slice none 0 0, .slice none 0 0] (0, 0) _ rfl (heap_set2 _ _ hg2.out) rfl rfl rfl) rfl ?_
        rw [hr.out]
        exact ⟨_, rfl, ⟨_, _, rfl, OwnI_nil _ _, OwnI_nil _ _⟩, hE.out _ _ hB4.out rfl⟩
      | true =>
        obtain ⟨r, hf⟩ := Option.isSome_iff_exists.1 hfb.out
        have hr := Lib.hid (hG.out r hf)
        rw [hf] at oa ob
        replace hf := Lib.hid hf
        go_wp2
        refine bodyPost_ret (res_ct rfl _ _ w.heap.size 49 #[.slice A1 n1 c1, .slice A2 n2 c2] (0, 0) _ rfl (heap_set2 _ _ hg2.out) rfl rfl rfl) rfl ?_
        rw [hr.out]
        exact ⟨_, rfl, ⟨_, _, rfl, own_two oa.out (Nat.le_of_lt hlt1) hlt1 _ _, own_two ob.out (Nat.le_of_lt hlt1) hlt1 _ _⟩, (hB4.out.setCell (p := ⟨w.heap.size, 0, none⟩) (Nat.le_refl _) _).setCell (p := ⟨w.heap.size, 1, none⟩) (Nat.le_refl _) _⟩
end Go.Proofs.YtfljkcmijnhgkaaDoor
