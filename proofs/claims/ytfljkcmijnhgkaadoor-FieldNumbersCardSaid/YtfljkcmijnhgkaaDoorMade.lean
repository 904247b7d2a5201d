/- made, and what it makes. -/
import Derived.Test.YtfljkcmijnhgkaaDoorOwn
import Derived.Test.YtfljkcmijnhgkaaDoorPure
import Derived.Shelf.Abstract
import Derived.Deep.RegionHeld3
import Derived.Deep.RegionLaw
import Derived.Deep.OwnRows
namespace Go.Proofs.YtfljkcmijnhgkaaDoor
open Go.RowKit Go.Shelf

/-- The same, rows before i done, k places of row i. -/
def partM (f : Nat → Nat → Int) (n m i k : Nat) : List (List Int) := (List.range n).map fun j => if j < i then (List.range m).map (f j) else if j = i then (List.range k).map (f i) else []
theorem partM_len (f : Nat → Nat → Int) (n m i k : Nat) : (partM f n m i k).length = n := by simp [partM]
theorem partM_zero (f : Nat → Nat → Int) (n m : Nat) : partM f n m 0 0 = List.replicate n [] := by
  apply List.ext_getElem?; intro j
  simp only [partM, List.getElem?_map, List.getElem?_replicate]
  by_cases hj : j < n
  · rw [List.getElem?_range hj]; simp [hj]
  · rw [List.getElem?_eq_none (by simp; omega), if_neg hj]; rfl
theorem partM_row (f : Nat → Nat → Int) (n m i : Nat) : partM f n m i m = partM f n m (i + 1) 0 := by
  apply List.map_congr_left; intro j _
  by_cases h1 : j < i
  · rw [if_pos h1, if_pos (by omega)]
  · by_cases h2 : j = i
    · subst h2; rw [if_neg h1, if_pos rfl, if_pos (by omega)]
    · rw [if_neg h1, if_neg h2, if_neg (by omega)]; split <;> rfl
theorem partM_end (f : Nat → Nat → Int) (n m : Nat) : partM f n m n 0 = mat f n m := by
  apply List.map_congr_left; intro j hj
  rw [if_pos (by simpa using hj)]
theorem partM_get (f : Nat → Nat → Int) {n m i k : Nat} (hi : i < n) : (partM f n m i k)[i]? = some ((List.range k).map (f i)) := by
  simp [partM, List.getElem?_range hi]
theorem partM_set (f : Nat → Nat → Int) {n m i k : Nat} (hi : i < n) : (partM f n m i k).set i ((List.range k).map (f i) ++ [f i k]) = partM f n m i (k + 1) := by
  apply List.ext_getElem?; intro j
  by_cases hij : i = j
  · subst hij
    rw [List.getElem?_set_self (by rw [partM_len]; exact hi), partM_get f hi, List.range_succ, List.map_append]; rfl
  · rw [List.getElem?_set_ne hij]
    simp only [partM, List.getElem?_map]
    by_cases hj : j < n
    · rw [List.getElem?_range hj]
      simp only [Option.map_some]
      by_cases h1 : j < i
      · rw [if_pos h1, if_pos h1]
      · rw [if_neg h1, if_neg h1, if_neg (Ne.symm hij), if_neg (Ne.symm hij)]
    · rw [List.getElem?_eq_none (by simp; omega)]; rfl
theorem made_step (f : Nat → Nat → Int) {n m i k B gg cap : Nat} {w wr w1 : World} {u : Value} (hB : Below B w wr) (hM : OwnM wr B (.slice (some ⟨B, 0, none⟩) n n) (partM f n m i k)) (hlt : i < n) (hc : wr.cell? ⟨B, i, none⟩ = some u)
    (hou : OwnI wr B u ((List.range k).map (f i))) (hBw : B ≤ wr.heap.size)
    (hown1 : w1.ownsRow B 3 1 (.slice (some ⟨gg, 0, none⟩) (k + 1) cap) (k + 1) (ints ((List.range k).map (f i)) ++ [.int .i64 (f i k)]))
    (hgrow : ((wr.alloc (.cells #[.int .i64 (f i k)] 3)).drew).grownBy w1 u.ownBlock) (hat : u.ownBlock = some gg ∨ gg = wr.heap.size + 1) :
    Below B w (w1.setCell ⟨B, i, none⟩ (.slice (some ⟨gg, 0, none⟩) (k + 1) cap)) ∧ OwnM (w1.setCell ⟨B, i, none⟩ (.slice (some ⟨gg, 0, none⟩) (k + 1) cap)) B (.slice (some ⟨B, 0, none⟩) n n) (partM f n m i (k + 1)) := by
  have hb1 : Below wr.heap.size wr ((wr.alloc (.cells #[.int .i64 (f i k)] 3)).drew) := ((Below.refl _ _).alloc (Nat.le_refl _) _).drew
  have hBd : Below B w ((wr.alloc (.cells #[.int .i64 (f i k)] 3)).drew) := (hB.alloc hBw _).drew
  refine ⟨(hBd.grown hgrow (by simp; omega) (fun j hj => (OwnI.base hou (Nat.le_refl _) |>.lt j hj).1)).setCell (Nat.le_refl _) _, ?_⟩
  rw [← partM_set f hlt]
  refine (hM.below hb1).upd (partM_get f hlt) ((hb1.cell (p := ⟨B, i, none⟩) (World.block_lt_of_cell? _ _ hc)).trans hc) hgrow (v' := .slice (some ⟨gg, 0, none⟩) (k + 1) cap) ?_ ?_
  · have : (List.map (f i) (List.range k) ++ [f i k]).length = k + 1 := by simp
    unfold OwnI
    rw [this, ints_append]
    exact hown1
  · rcases hat with h | h
    · exact .inr (.inl h.symm)
    · exact .inr (.inr ⟨gg, rfl, by simp; omega⟩)

set_option maxRecDepth 100000 in
set_option maxHeartbeats 1000000 in
theorem made_any (f : Nat → Nat → Int) (n m : Nat) (g : Nat) (lb : Array Value) (eg : ∀ args w, (callFunc g args).run Tryd.prog w = .ok (.enter g args) w) (w : World) (hn : n ≤ 1000000) (hm : m ≤ 1000000)
    (hf : ∀ (W : World) (i k : Nat), Below w.heap.size w W → i < n → k < m → Calls Tryd.prog g (#[.int .i64 i, .int .i64 k] ++ lb) W fun e w' => e = .returned (.int .i64 (f i k)) ∧ W = w') :
    Calls Tryd.prog 141 #[.int .i64 n, .int .i64 m, .func (.func g) #[] lb] w fun e w' => (∃ v, e = .returned v ∧ OwnM w' w.heap.size v (mat f n m)) ∧ Below w.heap.size w w' := by
  have hmk := run_make_row' (P := Tryd.prog) 22 23 _ _ Tryd.underlying22 infoR rfl .i64 .i64 n (by omega) (by omega)
  obtain ⟨i0, hi, hz0, hz1, hz2⟩ := info_parts infoI
  replace hf := Lib.hid hf
  go_enter Tryd.func141, Tryd.ntmps141
  go_wp2
  have h0 := OwnM_made w w.heap.size n (Nat.le_refl _) (by unfold maxLen; omega)
  rw [← partM_zero f n m] at h0
  have hB0 : Below w.heap.size w (w.alloc (.cells (madeCells #[.slice none 0 0] n) 23)) := (Below.refl _ _).alloc (Nat.le_refl _) _
  generalize w.alloc (.cells (madeCells #[.slice none 0 0] n) 23) = w1 at h0 hB0 ⊢
  go_loopw [8, 9, 14] (fun _ _ i wr => ∃ k : Nat, k ≤ n ∧ i = .int .i64 k ∧ Below w.heap.size w wr ∧ OwnM wr w.heap.size (.slice (some ⟨w.heap.size, 0, none⟩) n n) (partM f n m k 0)) (fun _ _ i _ => n - (intOf i).toNat)
  case atStart => exact ⟨0, Nat.zero_le _, rfl, hB0, h0⟩
  case round =>
    obtain ⟨i, hi', rfl, hB, hM⟩ := hrel
    by_cases hlt : i < n
    · go_wp2
      obtain ⟨wo, rfl⟩ : ∃ wo : World, wo = wr := ⟨_, rfl⟩
      go_loopw [9, 18] (fun _ j wr => ∃ k : Nat, k ≤ m ∧ j = .int .i64 k ∧ Below w.heap.size w wr ∧ OwnM wr w.heap.size (.slice (some ⟨w.heap.size, 0, none⟩) n n) (partM f n m i k)) (fun _ j _ => m - (intOf j).toNat)
      case atStart => exact ⟨0, Nat.zero_le _, rfl, hB, hM⟩
      case round =>
        obtain ⟨k, hk, rfl, hB, hM⟩ := hrel
        by_cases hkm : k < m
        · obtain ⟨_, hgs, u, hc, hfz, hou, hub⟩ := hM.row' (partM_get f hlt)
          have hcall := Lib.hid (hf.out wr i k hB hlt hkm)
          have q1 : (i : Int) < (n : Int) := by omega
          have q2 : (0 : Int) ≤ (i : Int) := by omega
          have hlen : ((List.range k).map (f i)).length = k := by simp
          have hgs' := World.new_ne wr _ hc
          have hou' := Lib.hid hou
          unfold OwnI at hou
          rw [hlen] at hou
          go_wp2
          have tt : ((wr.alloc (.cells #[.int .i64 (f i k)] 3)).drew).frozen? ⟨w.heap.size, i, none⟩ = false := by simp [*, frozen?_alloc_cells]
          have tc : ((wr.alloc (.cells #[.int .i64 (f i k)] 3)).drew).cell? ⟨w.heap.size, i, none⟩ = some u := by simp [*, World.cell?_alloc_some]
          go_region_law (first | (go_simp; go_at_fn g; refine (hf.out _ i k (by first | exact hB | exact hB.drew) hlt hkm).mono ?_; rintro e w' ⟨rfl, rfl⟩; dsimp only) | (refine step_append_lies _ (by rfl) _ _ _ (by rfl) w.heap.size 3 i0 _ 1 8 Tryd.underlying23 hi hz0 hz1 hz2 rfl (by omega) u k _ (by rfl) ((hou.alloc _).drew) ⟨wr.heap.size, 0, none⟩ 1 1 [.int .i64 (f i k)] (by rfl) (by rfl) (World.news_of_block (cs := #[.int .i64 (f i k)]) (t := 3) (fr := (0, 0)) (heap_alloc_new wr _)) (by simp [Value.oneCell']) (by omega) (by unfold maxLen; omega) (by omega) (by simp; omega) (wr.heap.size + 1) (by simp) ?_; intro gg cap w1 hown1 hgrow hat hlt1; have hc1 := (hgrow.cell_far ⟨w.heap.size, i, none⟩ (by simp; omega) (Ne.symm hub)).trans tc; have hf1 := (hgrow.frozen_far ⟨w.heap.size, i, none⟩ (by simp; omega) (Ne.symm hub)).trans tt))
          all_goals
            have hfin := Lib.hid (made_step f hB hM hlt hc hou'.out (by omega) hown1 hgrow hat)
            clear hown1 hgrow hat hou' hM hB
            go_wp2
            go_roundw
            case rel => exact ⟨k + 1, by omega, by go_num, hfin.out.1, hfin.out.2⟩
            case measure => simp [intOf]; omega
        · obtain rfl : k = m := by omega
          go_wp2
          go_roundw
          case rel => exact ⟨i + 1, by omega, by go_num, hB, by rw [← partM_row]; exact hM⟩
          case measure => simp [intOf]; omega
    · obtain rfl : i = n := by omega
      go_wp2
      go_ret
      exact ⟨⟨_, rfl, by rw [← partM_end]; exact hM⟩, hB⟩
end Go.Proofs.YtfljkcmijnhgkaaDoor
