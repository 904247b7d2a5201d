/- slices.Equal at []int: its contract. The reference's Same: its contract. EqRows: its contract. Rows that may be cleared; what is outside some blocks is kept. -/
import Derived.Test.YtfljkcmijnhgkaaDoorKa
import Derived.Test.YtfljkcmijnhgkaaDoorKc
import Derived.Test.YtfljkcmijnhgkaaDoorKg
import Derived.Test.YtfljkcmijnhgkaaDoorKd
import Derived.Deep.MidRow
import Derived.Lib.SliceRun
import Derived.Lib.EndianMore
namespace Go.Proofs.YtfljkcmijnhgkaaDoor
open Go.RowKit Go.Shelf
theorem ext_getD {xs ys : List Int} (hl : xs.length = ys.length) (h : ∀ j, j < xs.length → xs.getD j 0 = ys.getD j 0) : xs = ys := by
  apply List.ext_getElem hl
  intro j h1 h2
  have := h j h1
  rwa [List.getD_eq_getElem?_getD, List.getD_eq_getElem?_getD, List.getElem?_eq_getElem h1, List.getElem?_eq_getElem h2] at this
set_option maxRecDepth 100000 in
set_option maxHeartbeats 800000 in
theorem Equal_any (xs ys : List Int) (v u : Value) (w : World) (hx : RdI w v xs) (hy : RdI w u ys) :
    Calls Tryd.prog 23 #[v, u] w fun e w' => e = .returned (.bool (decide (xs = ys))) ∧ Below w.heap.size w w' := by
  obtain ⟨A, c, rfl, h1, h2, h3⟩ := hx.open_
  obtain ⟨B, d, rfl, g1, g2, g3⟩ := hy.open_
  by_cases hl : xs.length = ys.length
  · have hlen := Lib.hid hl
    replace h3 := Lib.hid h3
    replace g3 := Lib.hid g3
    clear hx hy
    rw [← hl] at g1 g2 g3 ⊢
    generalize hn : xs.length = n at *
    replace hn := Lib.hid hn
    clear hl
    go_enter Tryd.func23, Tryd.ntmps23
    go_wp2
    go_loopw [13] (fun i wr => ∃ k : Nat, k ≤ n ∧ i = .int .i64 k ∧ Hid (Below w.heap.size w wr) ∧ Hid (∀ j, j < k → xs.getD j 0 = ys.getD j 0)) (fun i _ => n - (intOf i).toNat)
    case atStart => exact ⟨0, Nat.zero_le _, rfl, Lib.hid (Below.refl _ _), Lib.hid (fun j hj => by omega)⟩
    case round =>
      obtain ⟨k, hk, rfl, hB, hE⟩ := hrel
      by_cases hlt : k < n
      · obtain ⟨b0, off, rfl, hc⟩ := h3.out k hlt
        obtain ⟨b1, off1, rfl, hc1⟩ := g3.out k hlt
        replace hc := (hB.out.cell (p := ⟨b0, off + k, none⟩) (World.block_lt_of_cell? w _ hc)).trans hc
        replace hc1 := (hB.out.cell (p := ⟨b1, off1 + k, none⟩) (World.block_lt_of_cell? w _ hc1)).trans hc1
        have k1 : (k : Int) < (n : Int) := by omega
        have k0 : (0 : Int) ≤ (k : Int) := by omega
        have hBd := Lib.hid hB.out.drew
        by_cases he : xs.getD k 0 = ys.getD k 0
        · have hE2 : Hid (∀ j, j < k + 1 → xs.getD j 0 = ys.getD j 0) := Lib.hid (fun j hj => by
            by_cases e : j = k
            · rw [e]; exact he
            · exact hE.out j (by omega))
          rw [he] at hc
          replace he := Lib.hid he
          generalize ys.getD k 0 = y at hc hc1
          go_wp2
          go_still_tail 8, (by kernel_rfl)
          change wpList _ _ _ _ _ wr.drew
          go_wp2
          go_roundw
          case rel => exact ⟨k + 1, by omega, by go_num, hBd, hE2⟩
          case measure => simp [intOf]; omega
        · have hne : (xs.getD k 0 != ys.getD k 0) = true := by rw [bne_iff_ne]; exact he
          have hr : Hid (decide (xs = ys) = false) := Lib.hid (by rw [decide_eq_false_iff_not]; intro e; exact he (by rw [e]))
          replace he := Lib.hid he
          generalize xs.getD k 0 = x at hc hne
          generalize ys.getD k 0 = y at hc1 hne
          go_wp2
          go_still_tail 8, (by kernel_rfl)
          change wpList _ _ _ _ _ wr.drew
          go_wp2
          go_ret
          exact ⟨by rw [hr.out]; rfl, hBd.out⟩
      · have hr : Hid (decide (xs = ys) = true) := Lib.hid (by rw [decide_eq_true_iff]; exact ext_getD (hn.out.trans hlen.out) (fun j hj => hE.out j (by have := hn.out; omega)))
        obtain rfl : k = n := by omega
        go_wp2
        go_ret
        exact ⟨by rw [hr.out]; rfl, hB.out⟩
  · have hne : ((xs.length : Int) != (ys.length : Int)) = true := by rw [bne_iff_ne]; omega
    have hr : Hid (decide (xs = ys) = false) := Lib.hid (by rw [decide_eq_false_iff_not]; intro e; exact hl (by rw [e]))
    clear hx hy h3 g3
    generalize xs.length = n at *
    generalize ys.length = m at *
    go_enter Tryd.func23, Tryd.ntmps23
    go_wp2
    go_ret
    exact ⟨by rw [hr.out]; rfl, Below.refl _ _⟩
set_option maxRecDepth 100000 in
set_option maxHeartbeats 800000 in
theorem list_any (xs ys : List Int) (v u : Value) (w : World) (hx : RdI w v xs) (hy : RdI w u ys) :
    Calls Tryd.prog 117 #[v, u] w fun e w' => e = .returned (.bool (decide (xs = ys))) ∧ Below w.heap.size w w' := by
  obtain ⟨A, c, rfl, h1, h2, h3⟩ := hx.open_
  obtain ⟨B, d, rfl, g1, g2, g3⟩ := hy.open_
  by_cases hl : xs.length = ys.length
  · have hlen := Lib.hid hl
    replace h3 := Lib.hid h3
    replace g3 := Lib.hid g3
    clear hx hy
    rw [← hl] at g1 g2 g3 ⊢
    generalize hn : xs.length = n at *
    replace hn := Lib.hid hn
    clear hl
    go_enter Tryd.func117, Tryd.ntmps117
    go_wp2
    go_loopw [5] (fun i wr => ∃ k : Nat, k ≤ n ∧ i = .int .i64 k ∧ Hid (Below w.heap.size w wr) ∧ Hid (∀ j, j < k → xs.getD j 0 = ys.getD j 0)) (fun i _ => n - (intOf i).toNat)
    case atStart => exact ⟨0, Nat.zero_le _, rfl, Lib.hid (Below.refl _ _), Lib.hid (fun j hj => by omega)⟩
    case round =>
      obtain ⟨k, hk, rfl, hB, hE⟩ := hrel
      by_cases hlt : k < n
      · obtain ⟨b0, off, rfl, hc⟩ := h3.out k hlt
        obtain ⟨b1, off1, rfl, hc1⟩ := g3.out k hlt
        replace hc := (hB.out.cell (p := ⟨b0, off + k, none⟩) (World.block_lt_of_cell? w _ hc)).trans hc
        replace hc1 := (hB.out.cell (p := ⟨b1, off1 + k, none⟩) (World.block_lt_of_cell? w _ hc1)).trans hc1
        have k1 : (k : Int) < (n : Int) := by omega
        have k0 : (0 : Int) ≤ (k : Int) := by omega
        have hBd := Lib.hid hB.out.drew
        by_cases he : xs.getD k 0 = ys.getD k 0
        · have hE2 : Hid (∀ j, j < k + 1 → xs.getD j 0 = ys.getD j 0) := Lib.hid (fun j hj => by
            by_cases e : j = k
            · rw [e]; exact he
            · exact hE.out j (by omega))
          rw [he] at hc
          replace he := Lib.hid he
          generalize ys.getD k 0 = y at hc hc1
          go_wp2
          go_still_tail 8, (by kernel_rfl)
          change wpList _ _ _ _ _ wr.drew
          go_wp2
          go_roundw
          case rel => exact ⟨k + 1, by omega, by go_num, hBd, hE2⟩
          case measure => simp [intOf]; omega
        · have hne : (xs.getD k 0 != ys.getD k 0) = true := by rw [bne_iff_ne]; exact he
          have hr : Hid (decide (xs = ys) = false) := Lib.hid (by rw [decide_eq_false_iff_not]; intro e; exact he (by rw [e]))
          replace he := Lib.hid he
          generalize xs.getD k 0 = x at hc hne
          generalize ys.getD k 0 = y at hc1 hne
          go_wp2
          go_still_tail 8, (by kernel_rfl)
          change wpList _ _ _ _ _ wr.drew
          go_wp2
          go_ret
          exact ⟨by rw [hr.out]; rfl, hBd.out⟩
      · have hr : Hid (decide (xs = ys) = true) := Lib.hid (by rw [decide_eq_true_iff]; exact ext_getD (hn.out.trans hlen.out) (fun j hj => hE.out j (by have := hn.out; omega)))
        obtain rfl : k = n := by omega
        go_wp2
        go_ret
        exact ⟨by rw [hr.out]; rfl, hB.out⟩
  · have hne : ((xs.length : Int) != (ys.length : Int)) = true := by rw [bne_iff_ne]; omega
    have hr : Hid (decide (xs = ys) = false) := Lib.hid (by rw [decide_eq_false_iff_not]; intro e; exact hl (by rw [e]))
    clear hx hy h3 g3
    generalize xs.length = n at *
    generalize ys.length = m at *
    go_enter Tryd.func117, Tryd.ntmps117
    go_wp2
    go_ret
    exact ⟨by rw [hr.out]; rfl, Below.refl _ _⟩
theorem EqRows_1 (xs ys : List Int) (v u : Value) (w : World) (hx : RdI w v xs) (hy : RdI w u ys) :
    Calls Tryd.prog 96 #[v, u] w fun e w' => e = .returned (.bool (decide (xs = ys))) ∧ Below w.heap.size w w' := by
  have hc := Lib.hid (Equal_any xs ys v u w hx hy)
  generalize decide (xs = ys) = d at *
  clear hx hy
  go_enter Tryd.func96, Tryd.ntmps96
  go_wp2_with fail
  refine hc.out.mono ?_; rintro e W ⟨rfl, hB⟩
  go_wp2
  go_ret
  exact ⟨rfl, hB⟩
end Go.Proofs.YtfljkcmijnhgkaaDoor

namespace Go.Proofs.YtfljkcmijnhgkaaDoor
open Go.RowKit Go.Shelf
def sameR (r s : Rule) : Bool := decide (r.by_ = s.by_) && decide (r.start = s.start)
set_option maxHeartbeats 800000 in
theorem Same_any (r s : Rule) (v u : Value) (w : World) (h : RdR w v r) (h' : RdR w u s) :
    Calls Tryd.prog 44 #[v, u] w fun e w' => e = .returned (.bool (sameR r s)) ∧ Below w.heap.size w w' := by
  obtain ⟨a, b, rfl, ra, rb⟩ := h
  obtain ⟨a', b', rfl, ra', rb'⟩ := h'
  have hbx : Below w.heap.size w ((w.alloc (.cells #[a, b] 49)).alloc (.cells #[a', b'] 49)) := ((Below.refl _ _).alloc (Nat.le_refl _) _).alloc (by simp) _
  have hgb : ((w.alloc (.cells #[a, b] 49)).alloc (.cells #[a', b'] 49)).heap[w.heap.size + 1]? = some (.cells #[a', b'] 49 (0, 0)) := by
    have h := heap_alloc_new (w.alloc (.cells #[a, b] 49)) (.cells #[a', b'] 49); rwa [World.size_alloc] at h
  have hga : ((w.alloc (.cells #[a, b] 49)).alloc (.cells #[a', b'] 49)).heap[w.heap.size]? = some (.cells #[a, b] 49 (0, 0)) := by
    rw [((Below.refl _ (w.alloc (.cells #[a, b] 49))).alloc (Nat.le_refl _) _).block w.heap.size (by simp)]; exact heap_alloc_new _ _
  have hsz : ((w.alloc (.cells #[a, b] 49)).alloc (.cells #[a', b'] 49)).heap.size = w.heap.size + 2 := by simp
  have hl1 := Lib.hid (fun W (hW : Below w.heap.size w W) => list_any r.by_ s.by_ a a' W (ra.below hW (Nat.le_refl _)) (ra'.below hW (Nat.le_refl _)))
  have hl2 := Lib.hid (fun W (hW : Below w.heap.size w W) => list_any r.start s.start b b' W (rb.below hW (Nat.le_refl _)) (rb'.below hW (Nat.le_refl _)))
  have hR : Hid (sameR r s = (decide (r.by_ = s.by_) && decide (r.start = s.start))) := Lib.hid rfl
  have mk : ∀ (W : World) (g : Nat) (x y : Value), W.heap[g]? = some (.cells #[x, y] 49 (0, 0)) → W.cell? ⟨g, 0, none⟩ = some x ∧ W.cell? ⟨g, 1, none⟩ = some y := fun W g x y h => ⟨by unfold World.cell?; rw [h]; rfl, by unfold World.cell?; rw [h]; rfl⟩
  obtain ⟨c0, c1⟩ := mk _ _ _ _ hga
  obtain ⟨c2, c3⟩ := mk _ _ _ _ hgb
  clear ra rb ra' rb' hga hgb mk
  cases p1 : decide (r.by_ = s.by_)
  · rw [p1] at hl1
    have hr : Hid (sameR r s = false) := Lib.hid (by rw [hR.out, p1]; rfl)
    clear p1
    go_enter Tryd.func44, Tryd.ntmps44
    go_wp2_with fail
    generalize (w.alloc (.cells #[a, b] 49)).alloc (.cells #[a', b'] 49) = X at *
    refine (hl1.out X hbx).mono ?_; rintro e W1 ⟨rfl, hB1⟩
    go_wp2
    go_ret
    exact ⟨by rw [hr.out]; rfl, Below.then_ hbx hB1⟩
  · rw [p1] at hl1
    have hr : Hid (sameR r s = decide (r.start = s.start)) := Lib.hid (by rw [hR.out, p1]; rfl)
    clear p1
    generalize decide (r.start = s.start) = d at *
    go_enter Tryd.func44, Tryd.ntmps44
    go_wp2_with fail
    generalize (w.alloc (.cells #[a, b] 49)).alloc (.cells #[a', b'] 49) = X at *
    refine (hl1.out X hbx).mono ?_; rintro e W1 ⟨rfl, hB1⟩
    have e1 := (hB1.cell (p := ⟨w.heap.size, 1, none⟩) (by show w.heap.size < _; omega)).trans c1
    have e3 := (hB1.cell (p := ⟨w.heap.size + 1, 1, none⟩) (by show w.heap.size + 1 < _; omega)).trans c3
    have hB2 := Below.then_ hbx hB1
    go_wp2_with fail
    refine (hl2.out W1 hB2).mono ?_; rintro e W2 ⟨rfl, hB3⟩
    go_wp2
    go_ret
    exact ⟨by rw [hr.out]; rfl, Below.then_ hB2 hB3⟩
end Go.Proofs.YtfljkcmijnhgkaaDoor

namespace Go.Proofs.YtfljkcmijnhgkaaDoor
open Go.RowKit Go.Shelf
theorem ext_getR {xs ys : List (List Int)} (hl : xs.length = ys.length) (h : ∀ j, j < xs.length → xs.getD j [] = ys.getD j []) : xs = ys := by
  apply List.ext_getElem hl
  intro j h1 h2
  have := h j h1
  rwa [List.getD_eq_getElem?_getD, List.getD_eq_getElem?_getD, List.getElem?_eq_getElem h1, List.getElem?_eq_getElem h2] at this
set_option maxRecDepth 100000 in
set_option maxHeartbeats 800000 in
theorem EqualFunc_any (xs ys : List (List Int)) (v u : Value) (w : World) (hx : RdM w v xs) (hy : RdM w u ys) :
    Calls Tryd.prog 95 #[v, u, .func (.func 96) #[] #[]] w fun e w' => e = .returned (.bool (decide (xs = ys))) ∧ Below w.heap.size w w' := by
  have eg : ∀ args w, (callFunc 96 args).run Tryd.prog w = .ok (.enter 96 args) w := enters_of Tryd.func96 (by kernel_rfl) rfl
  obtain ⟨A, c, rfl, h1, h2, h3⟩ := hx.open_
  obtain ⟨B, d, rfl, g1, g2, g3⟩ := hy.open_
  by_cases hl : xs.length = ys.length
  · have hlen := Lib.hid hl
    replace h3 := Lib.hid h3
    replace g3 := Lib.hid g3
    clear hx hy
    rw [← hl] at g1 g2 g3 ⊢
    generalize hn : xs.length = n at *
    replace hn := Lib.hid hn
    clear hl
    go_enter Tryd.func95, Tryd.ntmps95
    go_wp2
    go_loopw [17] (fun i wr => ∃ k : Nat, k ≤ n ∧ i = .int .i64 k ∧ Hid (Below w.heap.size w wr) ∧ Hid (∀ j, j < k → xs.getD j [] = ys.getD j [])) (fun i _ => n - (intOf i).toNat)
    case atStart => exact ⟨0, Nat.zero_le _, rfl, Lib.hid (Below.refl _ _), Lib.hid (fun j hj => by omega)⟩
    case round =>
      obtain ⟨k, hk, rfl, hB, hE⟩ := hrel
      by_cases hlt : k < n
      · obtain ⟨b0, off, u0, rfl, hc, hu0⟩ := h3.out k hlt
        obtain ⟨b1, off1, u1, rfl, hc1, hu1⟩ := g3.out k hlt
        replace hc := (hB.out.cell (p := ⟨b0, off + k, none⟩) (World.block_lt_of_cell? w _ hc)).trans hc
        replace hc1 := (hB.out.cell (p := ⟨b1, off1 + k, none⟩) (World.block_lt_of_cell? w _ hc1)).trans hc1
        have k1 : (k : Int) < (n : Int) := by omega
        have k0 : (0 : Int) ≤ (k : Int) := by omega
        have hcall := Lib.hid (EqRows_1 _ _ u0 u1 wr (hu0.below hB.out (Nat.le_refl _)) (hu1.below hB.out (Nat.le_refl _)))
        clear hu0 hu1
        by_cases he : xs.getD k [] = ys.getD k []
        · have hE2 : Hid (∀ j, j < k + 1 → xs.getD j [] = ys.getD j []) := Lib.hid (fun j hj => by
            by_cases e : j = k
            · rw [e]; exact he
            · exact hE.out j (by omega))
          rw [decide_eq_true he] at hcall
          replace he := Lib.hid he
          go_wp2_with fail
          refine hcall.out.mono ?_; rintro e W1 ⟨rfl, hB1⟩
          have hB2 := Lib.hid (Below.then_ hB.out hB1)
          go_wp2
          go_roundw
          case rel => exact ⟨k + 1, by omega, by go_num, hB2, hE2⟩
          case measure => simp [intOf]; omega
        · have hr : Hid (decide (xs = ys) = false) := Lib.hid (by rw [decide_eq_false_iff_not]; intro e; exact he (by rw [e]))
          rw [decide_eq_false he] at hcall
          replace he := Lib.hid he
          go_wp2_with fail
          refine hcall.out.mono ?_; rintro e W1 ⟨rfl, hB1⟩
          go_wp2
          go_ret
          exact ⟨by rw [hr.out]; rfl, Below.then_ hB.out hB1⟩
      · have hr : Hid (decide (xs = ys) = true) := Lib.hid (by rw [decide_eq_true_iff]; exact ext_getR (hn.out.trans hlen.out) (fun j hj => hE.out j (by have := hn.out; omega)))
        obtain rfl : k = n := by omega
        go_wp2
        go_ret
        exact ⟨by rw [hr.out]; rfl, hB.out⟩
  · have hne : ((xs.length : Int) != (ys.length : Int)) = true := by rw [bne_iff_ne]; omega
    have hr : Hid (decide (xs = ys) = false) := Lib.hid (by rw [decide_eq_false_iff_not]; intro e; exact hl (by rw [e]))
    clear hx hy h3 g3
    generalize xs.length = n at *
    generalize ys.length = m at *
    go_enter Tryd.func95, Tryd.ntmps95
    go_wp2
    go_ret
    exact ⟨by rw [hr.out]; rfl, Below.refl _ _⟩
theorem EqRows_any (xs ys : List (List Int)) (v u : Value) (w : World) (hx : RdM w v xs) (hy : RdM w u ys) :
    Calls Tryd.prog 24 #[v, u] w fun e w' => e = .returned (.bool (decide (xs = ys))) ∧ Below w.heap.size w w' := by
  have hc := Lib.hid (EqualFunc_any xs ys v u w hx hy)
  generalize decide (xs = ys) = d at *
  clear hx hy
  go_enter Tryd.func24, Tryd.ntmps24
  go_wp2_with fail
  refine hc.out.mono ?_; rintro e W ⟨rfl, hB⟩
  go_wp2
  go_ret
  exact ⟨rfl, hB⟩
end Go.Proofs.YtfljkcmijnhgkaaDoor

namespace Go.Proofs.YtfljkcmijnhgkaaDoor
open Go.RowKit Go.Shelf
/-- Blocks from lo on up to hi aside, all is as it was. -/
structure Btw (lo hi : Nat) (w w' : World) : Prop where
  os : w'.os = w.os
  tape : w'.tape = w.tape
  output : w'.output = w.output
  size : w.heap.size ≤ w'.heap.size
  block : ∀ k, k < w.heap.size → (k < lo ∨ hi ≤ k) → w'.heap[k]? = w.heap[k]?
namespace Btw
variable {lo hi : Nat} {w w' w'' : World}
theorem refl (lo hi : Nat) (w : World) : Btw lo hi w w := ⟨rfl, rfl, rfl, Nat.le_refl _, fun _ _ _ => rfl⟩
theorem trans (h : Btw lo hi w w') (k : Btw lo hi w' w'') : Btw lo hi w w'' :=
  ⟨k.os.trans h.os, k.tape.trans h.tape, k.output.trans h.output, Nat.le_trans h.size k.size, fun i hi hn => (k.block i (Nat.lt_of_lt_of_le hi h.size) hn).trans (h.block i hi hn)⟩
theorem of_below (h : Below w.heap.size w w') : Btw lo hi w w' := ⟨h.os, h.tape, h.output, h.size, fun k hk _ => h.block k hk⟩
theorem below (h : Btw lo hi w w') (hl : lo ≤ w.heap.size) : Below lo w w' := ⟨h.os, h.tape, h.output, h.size, fun k hk => h.block k (by omega) (.inl hk)⟩
theorem owns (h : Btw lo hi w w') {base : Nat} {e : TypeId} {size : Nat} {v : Value} {n : Nat} {xs : List Value} (ho : w.ownsRow base e size v n xs) (hb : hi ≤ base) : w'.ownsRow base e size v n xs := by
  refine ⟨ho.1, ?_⟩
  rcases ho.2 with hn | ⟨g, cap, cur, rfl, hb', hgg, rest⟩
  · exact .inl hn
  · exact .inr ⟨g, cap, cur, rfl, hb', (h.block g (Array.getElem?_eq_some_iff.1 hgg).1 (.inr (by omega))).trans hgg, rest⟩
theorem ownM (h : Btw lo hi w w') {base : Nat} {v : Value} {rs : List (List Int)} (ho : OwnM w base v rs) (hb : hi ≤ base) : OwnM w' base v rs := by
  obtain ⟨vs, h1, h2, h3⟩ := ho
  exact ⟨vs, h.owns h1 hb, fun j r u hr hu => h.owns (h2 j r u hr hu) hb, h3⟩
theorem mono (h : Btw lo hi w w') {lo' hi' : Nat} (h1 : lo' ≤ lo) (h2 : hi ≤ hi') : Btw lo' hi' w w' := ⟨h.os, h.tape, h.output, h.size, fun k hk hn => h.block k hk (by omega)⟩
end Btw
/-- A row of so many cells, which may be written, in a block from lo on up to hi that is none of b. -/
def FreshRow (b lo hi : Nat) (w : World) (n : Nat) (u : Value) : Prop :=
  ∃ A c, u = .slice A n c ∧ n ≤ 140737488355328 ∧ (0 < n → ∃ g o, A = some ⟨g, o, none⟩ ∧ lo ≤ g ∧ g < hi ∧ g ≠ b ∧ (∀ j, j < n → (w.cell? ⟨g, o + j, none⟩).isSome = true ∧ w.frozen? ⟨g, o + j, none⟩ = false))
/-- The rows of v are such rows. -/
def FreshV (lo hi : Nat) (w : World) (v : Value) (n : Nat) (ls : Nat → Nat) : Prop :=
  ∃ A c, v = .slice A n c ∧ n ≤ c ∧ n ≤ 140737488355328 ∧ (0 < n → ∃ b off, A = some ⟨b, off, none⟩ ∧ ∀ k, k < n → ∃ u, w.cell? ⟨b, off + k, none⟩ = some u ∧ FreshRow b lo hi w (ls k) u)
theorem FreshRow.kept {b lo hi n : Nat} {w w' : World} {u : Value} (h : FreshRow b lo hi w n u) (hb : Below w.heap.size w w') : FreshRow b lo hi w' n u := by
  obtain ⟨A, c, rfl, hn, h⟩ := h
  refine ⟨A, c, rfl, hn, fun hp => ?_⟩
  obtain ⟨g', o', rfl, h1, h2, h5, h3⟩ := h hp
  refine ⟨g', o', rfl, h1, h2, h5, fun j hj => ?_⟩
  obtain ⟨x, hx⟩ := Option.isSome_iff_exists.1 (h3 j hj).1
  have hlt := World.block_lt_of_cell? w _ hx
  exact ⟨by rw [hb.cell (p := ⟨g', o' + j, none⟩) hlt]; exact (h3 j hj).1, by rw [hb.frozen (p := ⟨g', o' + j, none⟩) hlt]; exact (h3 j hj).2⟩
theorem FreshV.kept {lo hi n : Nat} {w w' : World} {v : Value} {ls : Nat → Nat} (h : FreshV lo hi w v n ls) (hb : Below w.heap.size w w') : FreshV lo hi w' v n ls := by
  obtain ⟨A, c, rfl, h1, h2, h3⟩ := h
  refine ⟨A, c, rfl, h1, h2, fun hp => ?_⟩
  obtain ⟨b, off, rfl, h4⟩ := h3 hp
  refine ⟨b, off, rfl, fun k hk => ?_⟩
  obtain ⟨u, hu, hr⟩ := h4 k hk
  exact ⟨u, (hb.cell (p := ⟨b, off + k, none⟩) (World.block_lt_of_cell? w _ hu)).trans hu, hr.kept hb⟩
theorem FreshV.wider {lo hi lo' hi' n : Nat} {w : World} {v : Value} {ls : Nat → Nat} (h : FreshV lo hi w v n ls) (h1 : lo' ≤ lo) (h2 : hi ≤ hi') : FreshV lo' hi' w v n ls := by
  obtain ⟨A, c, rfl, h3, h4, h5⟩ := h
  refine ⟨A, c, rfl, h3, h4, fun hp => ?_⟩
  obtain ⟨b, off, rfl, h6⟩ := h5 hp
  refine ⟨b, off, rfl, fun k hk => ?_⟩
  obtain ⟨u, hu, A2, c2, rfl, e1, e2⟩ := h6 k hk
  refine ⟨_, hu, A2, c2, rfl, e1, fun hq => ?_⟩
  obtain ⟨g, o, rfl, f1, f2, f3⟩ := e2 hq
  exact ⟨g, o, rfl, by omega, by omega, f3⟩
theorem own_fresh {w : World} {base b : Nat} {v : Value} {xs : List Int} (h : OwnI w base v xs) (hn : xs.length ≤ 140737488355328) (hb : v.ownBlock ≠ some b) : FreshRow b base w.heap.size w xs.length v := by
  have h' := h
  unfold OwnI at h
  obtain ⟨A, c, rfl⟩ := own_form h
  refine ⟨A, c, rfl, hn, fun hp => ?_⟩
  rcases h.2 with ⟨e, e2⟩ | ⟨g, cap, cur, e, hbg, hh, hc, _⟩
  · omega
  · simp only [Value.slice.injEq] at e
    obtain ⟨rfl, -, rfl⟩ := e
    refine ⟨g, 0, rfl, hbg, (Array.getElem?_eq_some_iff.1 hh).1, fun e => hb (by rw [← e]; rfl), fun j hj => ?_⟩
    rw [Nat.zero_add]
    exact ⟨by rw [h.cellAt j (by omega)]; simp [ints, hj], h.frozenAt j⟩
/-- A matrix of the call's own may be cleared. -/
theorem OwnM.fresh {w : World} {base : Nat} {v : Value} {rs : List (List Int)} (h : OwnM w base v rs) (hn : rs.length ≤ 140737488355328) (hm : ∀ r ∈ rs, r.length ≤ 140737488355328) : FreshV base w.heap.size w v rs.length fun k => (rs.getD k []).length := by
  obtain ⟨vs, h1, h2, h3⟩ := h
  have hl : vs.length = rs.length := by have := h1.1; omega
  obtain ⟨A, c, rfl⟩ := own_form h1
  refine ⟨A, c, rfl, ?_, hn, fun hp => ?_⟩
  · rcases h1.2 with ⟨e, e2⟩ | ⟨g, cap, cur, e, hbg, hh, hc, _⟩
    · omega
    · simp only [Value.slice.injEq] at e; omega
  · obtain ⟨g, c', e, hb, hg⟩ := h1.form (by omega)
    simp only [Value.slice.injEq] at e
    obtain ⟨rfl, -, rfl⟩ := e
    refine ⟨g, 0, rfl, fun k hk => ?_⟩
    have hu : vs[k]? = some vs[k] := List.getElem?_eq_getElem (by omega)
    have hr : rs[k]? = some (rs.getD k []) := by rw [List.getD_eq_getElem?_getD, List.getElem?_eq_getElem hk]; rfl
    refine ⟨vs[k], by rw [Nat.zero_add, h1.cellAt k (by omega)]; exact hu, own_fresh (h2 k _ _ hr hu) (hm _ (List.mem_of_getElem? hr)) (fun e => ?_)⟩
    rcases own_ne (h2 k _ _ hr hu) h1 (by decide) with h | h
    · rw [h] at e; cases e
    · exact h e
end Go.Proofs.YtfljkcmijnhgkaaDoor
