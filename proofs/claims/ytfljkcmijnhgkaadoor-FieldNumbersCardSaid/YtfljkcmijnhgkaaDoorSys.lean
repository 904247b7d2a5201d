/- Systems of all columns; determinant, Det, Rank: their contracts. -/
import Derived.Test.YtfljkcmijnhgkaaDoorSolved
import Derived.Test.YtfljkcmijnhgkaaDoorPub1
namespace Go.Proofs.YtfljkcmijnhgkaaDoor
open Go.RowKit Go.Shelf

theorem solveN_any (rs : List (List Int)) (n m k sb base : Nat) (v : Value) (W W2 : World) (hM : OwnM W base v rs) (hok : okM rs n m) (hn : n ≤ 900) (hm : m ≤ 900) (hk : k ≤ m)
    (hs : W.heap[sb]? = some (.cells #[v, .bool false] 123 (0, 0))) (hsb : base ≤ sb)
    (hn2 : OwnI W2 W.heap.size (.slice (some ⟨W.heap.size, 0, none⟩) k k) (natI (List.range k))) (hb2 : Below W.heap.size W W2) :
    Calls Tryd.prog 126 #[.pointer (some ⟨sb, 0, none⟩), .slice (some ⟨W.heap.size, 0, none⟩) k k] W2 fun e w' =>
      ∃ lv, e = .returned (.tuple #[lv, .int .i64 (solveS rs (List.range k) false).det]) ∧ SolveInv W2 w' base sb W.heap.size n m v lv (solveS rs (List.range k) false) := by
  obtain ⟨vs, hV⟩ := hM.v
  obtain ⟨_, cur, hcur⟩ := hn2.block
  have hsv := solve_any rs (List.range k) n m sb W.heap.size base v false cur k vs W2 (hV.kept hb2) hok (by omega) (by omega) (by simp; omega) (fun q hq => by have := List.mem_range.1 hq; omega)
    ((hb2.block sb (lt_of_block hs)).trans hs) hsb hcur (fun u hu e => by have := (hV.ge u hu _ e).2; omega) (fun j q hj => by
      have hj' := (List.getElem?_eq_some_iff.1 hj).1
      have := (hn2.num (k := j) (by simpa [natI] using hj')).1
      rw [this, natI, List.getD_eq_getElem?_getD, List.getElem?_map, hj]; rfl)
  rwa [show (List.range k).length = k from by simp] at hsv

/-- The determinant by the program's elimination. -/
def detM (rs : List (List Int)) : Int :=
  let s := solveS rs (List.range rs.length) false
  if s.piv.length < rs.length then 0 else if s.turned then (65521 - s.det) % 65521 else s.det
def detR (rs : List (List Int)) : Int × Int := if squareM rs ≠ 0 then (0, squareM rs) else (detM rs, 0)
def rankR (rs : List (List Int)) : Int × Int := if checkM rs ≠ 0 then (0, checkM rs) else ((solveS rs (List.range (len0 rs)) false).piv.length, 0)
theorem tmod_65521 {x : Int} (h : 0 ≤ x) : x.tmod 65521 = x % 65521 := Int.tmod_eq_emod_of_nonneg h
set_option maxHeartbeats 800000 in
theorem determinant_any (rs : List (List Int)) (n : Nat) (v : Value) (w : World) (hok : okM rs n n) (hn : n ≤ 900) (h : RdM w v rs) :
    Calls Tryd.prog 102 #[v] w fun e w' => e = .returned (.int .i64 (detM rs)) ∧ Below w.heap.size w w' := by
  have hcp := Lib.hid (copied_any rs v w h (by rw [hok.1]; omega) (fun r hr => by have := (hok.2 r hr).1; omega))
  obtain ⟨A, c, rfl, l1, l2, l3⟩ := h.open_
  rw [hok.1] at l1 l2 hcp ⊢
  replace hok := Lib.hid hok
  clear h l3
  go_enter Tryd.func102, Tryd.ntmps102
  go_wp2_with fail
  refine hcp.out.mono ?_; rintro e W1 ⟨⟨v1, rfl, hO⟩, hB1⟩
  clear hcp
  obtain ⟨G, C, rfl⟩ : ∃ G C, v1 = .slice G n C := by obtain ⟨vs, h1, _⟩ := hO; rw [hok.out.1] at h1; exact own_form h1
  replace hO := Lib.hid hO
  have hbx : Below W1.heap.size W1 (W1.alloc (.cells #[.slice G n C, .bool false] 123)) := (Below.refl _ _).alloc (Nat.le_refl _) _
  have hO2 := Lib.hid (hO.out.below hbx)
  have hs2 : (W1.alloc (.cells #[.slice G n C, .bool false] 123)).heap[W1.heap.size]? = some (.cells #[.slice G n C, .bool false] 123 (0, 0)) := heap_alloc_new _ _
  have hB2 := Lib.hid (Below.then_ hB1 hbx)
  have hsb : w.heap.size ≤ W1.heap.size := hB1.size
  replace hs2 := Lib.hid hs2
  go_wp2_with fail
  generalize W1.alloc (.cells #[.slice G n C, .bool false] 123) = X at hO2 hs2 hB2 ⊢
  generalize W1.heap.size = sb at hs2 hsb ⊢
  clear hbx hB1 hO
  refine (numbers_any n X (by omega)).mono ?_; rintro e W2 ⟨rfl, hn2, hb2⟩
  have hsv := Lib.hid (solveN_any rs n n n sb w.heap.size _ X W2 hO2.out hok.out hn hn (Nat.le_refl _) hs2.out hsb hn2 hb2)
  go_wp2_with fail
  refine hsv.out.mono ?_; rintro e W4 ⟨lv, rfl, hI⟩
  obtain ⟨A6, c6, rfl⟩ := own_form hI.piv
  have hsys : W4.cell? ⟨sb, 1, none⟩ = some (.bool (solveS rs (List.range n) false).turned) := by simp [World.cell?, hI.sys]
  have hdet := hI.det
  have hfew := hI.few
  have hB4 := Lib.hid (hB2.out.trans ((hb2.mono hB2.out.size).trans hI.below))
  have hd : Hid (detM rs = if (solveS rs (List.range n) false).piv.length < n then 0 else if (solveS rs (List.range n) false).turned then (65521 - (solveS rs (List.range n) false).det) % 65521 else (solveS rs (List.range n) false).det) := by
    unfold detM; rw [hok.out.1]; exact rfl
  clear hsv hI hn2 hO2 hb2 hs2 hB2
  generalize solveS rs (List.range n) false = S at hsys hdet hfew hd ⊢
  generalize S.det = D at *
  generalize S.turned = T at *
  generalize S.piv.length = L at *
  obtain ⟨d1, d2⟩ := hdet
  by_cases hL : L < n
  · have hLI : (L : Int) < (n : Int) := by omega
    have hr : Hid (detM rs = 0) := Lib.hid (by rw [hd.out, if_pos hL])
    go_wp2
    go_ret
    exact ⟨by rw [hr.out]; rfl, hB4.out⟩
  · have hLI : ¬ (L : Int) < (n : Int) := by omega
    cases T
    · have hr : Hid (detM rs = D) := Lib.hid (by rw [hd.out, if_neg hL]; rfl)
      go_wp2
      go_ret
      exact ⟨by rw [hr.out]; rfl, hB4.out⟩
    · have hw2 : (65521 - D).tmod 65521 = -D % 65521 := by rw [tmod_65521 (by omega)]; omega
      have hr : Hid (detM rs = -D % 65521) := Lib.hid (by rw [hd.out, if_neg hL, if_pos rfl]; omega)
      go_wp2
      go_ret
      exact ⟨by rw [hr.out]; rfl, hB4.out⟩
set_option maxHeartbeats 800000 in
theorem Det_any (rs : List (List Int)) (v : Value) (w : World) (h : RdM w v rs) :
    Calls Tryd.prog 28 #[v] w fun e w' => e = .returned (.tuple #[.int .i64 (detR rs).1, .int .i64 (detR rs).2]) ∧ Below w.heap.size w w' := by
  have hc := Lib.hid (square_any rs v w h)
  by_cases h0 : squareM rs = 0
  · obtain ⟨hok, h1, h2⟩ := squareM_ok h0
    have hr : Hid (detR rs = (detM rs, 0)) := Lib.hid (by rw [detR, if_neg (by simpa using h0)])
    have hd := Lib.hid (fun W (hW : Below w.heap.size w W) => determinant_any rs rs.length v W hok (by omega) (h.below hW (Nat.le_refl _)))
    rw [h0] at hc
    clear h h0 hok
    go_enter Tryd.func28, Tryd.ntmps28
    go_wp2_with fail
    refine hc.out.mono ?_; rintro e W ⟨rfl, hb⟩
    go_wp2_with fail
    refine (hd.out W hb).mono ?_; rintro e W2 ⟨rfl, hb2⟩
    go_wp2
    go_ret2
    exact ⟨by rw [hr.out]; rfl, Below.then_ hb hb2⟩
  · have hr : Hid (detR rs = (0, squareM rs)) := Lib.hid (by rw [detR, if_pos h0])
    have hne : (squareM rs != 0) = true := by rw [bne_iff_ne]; exact h0
    generalize squareM rs = x at *
    clear h h0
    go_enter Tryd.func28, Tryd.ntmps28
    go_wp2_with fail
    refine hc.out.mono ?_; rintro e W ⟨rfl, hb⟩
    go_wp2
    go_ret2
    exact ⟨by rw [hr.out]; rfl, hb⟩
set_option maxHeartbeats 800000 in
theorem Rank_any (rs : List (List Int)) (v : Value) (w : World) (h : RdM w v rs) :
    Calls Tryd.prog 53 #[v] w fun e w' => e = .returned (.tuple #[.int .i64 (rankR rs).1, .int .i64 (rankR rs).2]) ∧ Below w.heap.size w w' := by
  have hc := Lib.hid (Check_any rs v w h)
  by_cases h0 : checkM rs = 0
  · obtain ⟨hok, h1, h2, h3, h4⟩ := checkM_ok h0
    have hr : Hid (rankR rs = (((solveS rs (List.range (len0 rs)) false).piv.length : Int), 0)) := Lib.hid (by rw [rankR, if_neg (by simpa using h0)])
    have hcp := Lib.hid (fun W (hW : Below w.heap.size w W) => copied_any rs v W (h.below hW (Nat.le_refl _)) (by omega) (fun r hr => by have := (hok.2 r hr).1; omega))
    obtain ⟨A, c, rfl, l1, l2, l3⟩ := h.open_
    obtain ⟨b0, off, u, rfl, hcell, hu⟩ := l3 0 (by omega)
    obtain ⟨A1, c1, rfl, f1, f2⟩ := hu.cell_
    change _ = some (Value.slice A1 (len0 rs) c1) at hcell
    rw [Nat.add_zero] at hcell
    have hlt : b0 < w.heap.size := World.block_lt_of_cell? w _ hcell
    rw [h0] at hc
    clear l3 hu h f1 f2 h0
    generalize rs.length = n at *
    generalize len0 rs = m at *
    have n1 : (0 : Int) < (n : Int) := by omega
    replace hok := Lib.hid hok
    go_enter Tryd.func53, Tryd.ntmps53
    go_wp2_with fail
    refine hc.out.mono ?_; rintro e W ⟨rfl, hb⟩
    go_wp2_with fail
    refine (hcp.out W hb).mono ?_; rintro e W1 ⟨⟨v1, rfl, hO⟩, hB1⟩
    obtain ⟨G, C, rfl⟩ : ∃ G C, v1 = .slice G n C := by obtain ⟨vs, h1, _⟩ := hO; rw [hok.out.1] at h1; exact own_form h1
    replace hO := Lib.hid (hO.base hb.size)
    replace hB1 := Below.then_ hb hB1
    have hbx : Below W1.heap.size W1 (W1.alloc (.cells #[.slice G n C, .bool false] 123)) := (Below.refl _ _).alloc (Nat.le_refl _) _
    have hO2 := Lib.hid (hO.out.below hbx)
    have hs2 : (W1.alloc (.cells #[.slice G n C, .bool false] 123)).heap[W1.heap.size]? = some (.cells #[.slice G n C, .bool false] 123 (0, 0)) := heap_alloc_new _ _
    have hB2 := Lib.hid (Below.then_ hB1 hbx)
    have hsb : w.heap.size ≤ W1.heap.size := hB1.size
    replace hs2 := Lib.hid hs2
    have hcell2 := (hB2.out.cell (p := ⟨b0, off, none⟩) hlt).trans hcell
    go_wp2_with fail
    generalize W1.alloc (.cells #[.slice G n C, .bool false] 123) = X at hO2 hs2 hB2 hcell2 ⊢
    generalize W1.heap.size = sb at hs2 hsb ⊢
    clear hbx hB1 hO hb
    refine (numbers_any m X (by omega)).mono ?_; rintro e W2 ⟨rfl, hn2, hb2⟩
    have hsv := Lib.hid (solveN_any rs n m m sb w.heap.size _ X W2 hO2.out hok.out (by omega) (by omega) (Nat.le_refl _) hs2.out hsb hn2 hb2)
    go_wp2_with fail
    refine hsv.out.mono ?_; rintro e W4 ⟨lv, rfl, hI⟩
    obtain ⟨A6, c6, rfl⟩ := own_form hI.piv
    have hfew := hI.few
    have hB4 := Lib.hid (hB2.out.trans ((hb2.mono hB2.out.size).trans hI.below))
    clear hsv hI hn2 hO2 hb2 hs2 hB2
    generalize solveS rs (List.range m) false = S at *
    generalize S.det = D at *
    generalize S.piv.length = L at *
    go_wp2
    go_ret2
    exact ⟨by rw [hr.out]; rfl, hB4.out⟩
  · have hr : Hid (rankR rs = (0, checkM rs)) := Lib.hid (by rw [rankR, if_pos h0])
    have hne : (checkM rs != 0) = true := by rw [bne_iff_ne]; exact h0
    generalize checkM rs = x at *
    clear h h0
    go_enter Tryd.func53, Tryd.ntmps53
    go_wp2_with fail
    refine hc.out.mono ?_; rintro e W ⟨rfl, hb⟩
    go_wp2
    go_ret2
    exact ⟨by rw [hr.out]; rfl, hb⟩
end Go.Proofs.YtfljkcmijnhgkaaDoor
