/- How sequences are put together: the functions of the table joins: their contracts. -/
import Derived.Test.YtfljkcmijnhgkaaDoorBoth
import Derived.Test.YtfljkcmijnhgkaaDoorPureB
import Derived.StillTailTactics
namespace Go.Proofs.YtfljkcmijnhgkaaDoor
open Go.RowKit Go.Shelf
set_option linter.unusedSimpArgs false

theorem getD_bd {l : List Int} (h : ∀ x ∈ l, 0 ≤ x ∧ x < 65521) (k : Nat) : 0 ≤ l.getD k 0 ∧ l.getD k 0 < 65521 := by
  by_cases hk : k < l.length
  · rw [List.getD_eq_getElem?_getD, List.getElem?_eq_getElem hk]; exact h _ (List.getElem_mem hk)
  · rw [List.getD_eq_getElem?_getD, List.getElem?_eq_none (by omega)]; decide
set_option maxHeartbeats 400000 in
theorem joins_2 (m n : Nat) (w : World) (hm : m ≤ 12) (hn : n ≤ 12) : Calls Tryd.prog 172 #[.int .i64 m, .int .i64 n] w fun e w' => e = .returned (.int .i64 ((m : Int) + (n : Int))) ∧ w = w' := by
  go_enter Tryd.func172, Tryd.ntmps172
  go_wp2
  go_ret
  exact ⟨rfl, rfl⟩
set_option maxHeartbeats 400000 in
theorem joins_6 (m n : Nat) (w : World) (hm : m ≤ 12) (hn : n ≤ 12) : Calls Tryd.prog 176 #[.int .i64 m, .int .i64 n] w fun e w' => e = .returned (.int .i64 ((m : Int) + (n : Int))) ∧ w = w' := by
  go_enter Tryd.func176, Tryd.ntmps176
  go_wp2
  go_ret
  exact ⟨rfl, rfl⟩
set_option maxHeartbeats 400000 in
theorem joins_4 (m n : Nat) (w : World) (hm : m ≤ 12) (hn : n ≤ 12) : Calls Tryd.prog 174 #[.int .i64 m, .int .i64 n] w fun e w' => e = .returned (.int .i64 ((m : Int) * (n : Int))) ∧ w = w' := by
  have hb : m * n ≤ 12 * 12 := Nat.mul_le_mul hm hn
  have hp : (m : Int) * (n : Int) = ((m * n : Nat) : Int) := by simp
  have hw : IntKind.i64.wrap ((m : Int) * (n : Int)) = (m : Int) * (n : Int) := IntWalk.i64_in _ ⟨by rw [hp]; omega, by rw [hp]; omega⟩
  have ⟨q1, q2⟩ : 0 ≤ (m : Int) * (n : Int) ∧ (m : Int) * (n : Int) ≤ 144 := by rw [hp]; omega
  clear hp
  go_enter Tryd.func174, Tryd.ntmps174
  go_wp2
  go_ret
  exact ⟨rfl, rfl⟩
set_option maxRecDepth 100000 in
set_option maxHeartbeats 800000 in
theorem joins_1 (a b : List Int) (n : Nat) (va vb : Value) (w : World) (ha : ∀ x ∈ a, 0 ≤ x ∧ x < 65521) (hb : ∀ x ∈ b, 0 ≤ x ∧ x < 65521) (h1 : n < a.length) (h2 : n < b.length) (ra : RdI w va a) (rb : RdI w vb b) :
    Calls Tryd.prog 170 #[va, vb, .int .i64 n] w fun e w' => e = .returned (.int .i64 (joinT 0 a b n)) ∧ Below w.heap.size w w' := by
  obtain ⟨A, c, rfl, l1, l2, l3⟩ := ra.open_
  obtain ⟨B, d, rfl, m1, m2, m3⟩ := rb.open_
  obtain ⟨ba, oa, rfl, ca⟩ := l3 n h1
  obtain ⟨bb, ob, rfl, cb⟩ := m3 n h2
  have hx := getD_bd ha n
  have hy := getD_bd hb n
  have hJ : Hid (joinT 0 a b n = (a.getD n 0 + b.getD n 0) % 65521) := Lib.hid rfl
  clear ra rb l3 m3 ha hb
  generalize a.getD n 0 = x at *
  generalize b.getD n 0 = y at *
  generalize a.length = la at *
  generalize b.length = lb at *
  have k1 : (n : Int) < (la : Int) := by omega
  have k2 : (n : Int) < (lb : Int) := by omega
  have k0 : (0 : Int) ≤ (n : Int) := by omega
  have hB : Below w.heap.size w (w.drew.alloc (.cells #[.int .i64 x, .int .i64 y] 3)) := (Below.refl _ _).drew.alloc (Nat.le_refl _) _
  have htt := Lib.hid (total_two x y w.drew.heap.size (w.drew.alloc (.cells #[.int .i64 x, .int .i64 y] 3)) hx hy (heap_alloc_new _ _))
  replace hB := Lib.hid hB
  replace hx := Lib.hid hx
  replace hy := Lib.hid hy
  go_enter Tryd.func170, Tryd.ntmps170
  go_wp2
  go_still_tail 8, (by kernel_rfl)
  change wpList _ _ _ _ _ w.drew
  go_wp2_with fail
  refine htt.out.mono ?_; rintro e w1 ⟨rfl, rfl⟩
  go_wp2
  go_ret
  exact ⟨by rw [hJ.out]; rfl, hB.out⟩
set_option maxRecDepth 100000 in
set_option maxHeartbeats 800000 in
theorem joins_3 (a b : List Int) (n : Nat) (va vb : Value) (w : World) (ha : ∀ x ∈ a, 0 ≤ x ∧ x < 65521) (hb : ∀ x ∈ b, 0 ≤ x ∧ x < 65521) (h1 : n < a.length) (h2 : n < b.length) (ra : RdI w va a) (rb : RdI w vb b) :
    Calls Tryd.prog 173 #[va, vb, .int .i64 n] w fun e w' => e = .returned (.int .i64 (joinT 1 a b n)) ∧ Below w.heap.size w w' := by
  obtain ⟨A, c, rfl, l1, l2, l3⟩ := ra.open_
  obtain ⟨B, d, rfl, m1, m2, m3⟩ := rb.open_
  obtain ⟨ba, oa, rfl, ca⟩ := l3 n h1
  obtain ⟨bb, ob, rfl, cb⟩ := m3 n h2
  have hx := getD_bd ha n
  have hy := getD_bd hb n
  have hJ : Hid (joinT 1 a b n = a.getD n 0 * b.getD n 0 % 65521) := Lib.hid rfl
  clear ra rb l3 m3 ha hb
  generalize a.getD n 0 = x at *
  generalize b.getD n 0 = y at *
  generalize a.length = la at *
  generalize b.length = lb at *
  have k1 : (n : Int) < (la : Int) := by omega
  have k2 : (n : Int) < (lb : Int) := by omega
  have k0 : (0 : Int) ≤ (n : Int) := by omega
  have ⟨p1, p2⟩ := mul_bd hx.1 hx.2 hy.1 hy.2
  have hw : IntKind.i64.wrap (x * y) = x * y := IntWalk.i64_in _ ⟨by omega, by omega⟩
  have hm : (x * y).tmod 65521 = x * y % 65521 := Int.tmod_eq_emod_of_nonneg p1
  have hB := (Below.refl w.heap.size w).drew
  replace hB := Lib.hid hB
  go_enter Tryd.func173, Tryd.ntmps173
  go_wp2
  go_still_tail 10, (by kernel_rfl)
  change wpList _ _ _ _ _ w.drew
  go_wp2
  go_ret
  exact ⟨by rw [hJ.out]; rfl, hB.out⟩
set_option maxRecDepth 100000 in
set_option maxHeartbeats 800000 in
theorem joins_5 (a b : List Int) (n : Nat) (va vb : Value) (w : World) (ha : ∀ x ∈ a, 0 ≤ x ∧ x < 65521) (hb : ∀ x ∈ b, 0 ≤ x ∧ x < 65521) (h1 : n < a.length) (h2 : n < b.length) (hn : n ≤ 1000) (ra : RdI w va a) (rb : RdI w vb b) :
    Calls Tryd.prog 175 #[va, vb, .int .i64 n] w fun e w' => e = .returned (.int .i64 (joinT 2 a b n)) ∧ Below w.heap.size w w' := by
  obtain ⟨A, c, rfl, l1, l2, l3⟩ := ra.open_
  obtain ⟨B, d, rfl, m1, m2, m3⟩ := rb.open_
  have hJ : Hid (joinT 2 a b n = psum (fun i => a.getD i 0 * b.getD (n - i) 0 % 65521) (n + 1) % 65521) := Lib.hid rfl
  have hbd := Lib.hid (fun q => psum_bd (f := fun i => a.getD i 0 * b.getD (n - i) 0 % 65521) (fun j => ⟨Int.emod_nonneg _ (by decide), Int.emod_lt_of_pos _ (by decide)⟩) q)
  have hxa := Lib.hid (getD_bd ha)
  have hyb := Lib.hid (getD_bd hb)
  replace l3 := Lib.hid l3
  replace m3 := Lib.hid m3
  clear ra rb ha hb
  generalize a.length = la at *
  generalize b.length = lb at *
  go_enter Tryd.func175, Tryd.ntmps175
  go_wp2
  go_loopw [7, 8, 11] (fun s _ i wr => ∃ q : Nat, q ≤ n + 1 ∧ i = .int .i64 q ∧ s = .int .i64 (psum (fun i => a.getD i 0 * b.getD (n - i) 0 % 65521) q) ∧ Hid (Below w.heap.size w wr)) (fun _ _ i _ => n + 1 - (intOf i).toNat)
  case atStart => exact ⟨0, Nat.zero_le _, rfl, rfl, Lib.hid (Below.refl _ _)⟩
  case round =>
    obtain ⟨q, hq, rfl, rfl, hB⟩ := hrel
    have ⟨p1, p2⟩ := hbd.out q
    by_cases hlt : q < n + 1
    · obtain ⟨ba, oa, rfl, ca⟩ := l3.out q (by omega)
      obtain ⟨bb, ob, rfl, cb⟩ := m3.out (n - q) (by omega)
      replace ca := (hB.out.cell (p := ⟨ba, oa + q, none⟩) (World.block_lt_of_cell? w _ ca)).trans ca
      replace cb := (hB.out.cell (p := ⟨bb, ob + (n - q), none⟩) (World.block_lt_of_cell? w _ cb)).trans cb
      have hx := hxa.out q
      have hy := hyb.out (n - q)
      have hs : Hid (psum (fun i => a.getD i 0 * b.getD (n - i) 0 % 65521) (q + 1) = psum (fun i => a.getD i 0 * b.getD (n - i) 0 % 65521) q + a.getD q 0 * b.getD (n - q) 0 % 65521) := Lib.hid rfl
      generalize psum (fun i => a.getD i 0 * b.getD (n - i) 0 % 65521) q = S at p1 p2 hs ⊢
      generalize a.getD q 0 = x at *
      generalize b.getD (n - q) 0 = y at *
      generalize hj : n - q = j at *
      have ⟨m1', m2'⟩ := mul_bd hx.1 hx.2 hy.1 hy.2
      have hw : IntKind.i64.wrap (x * y) = x * y := IntWalk.i64_in _ ⟨by omega, by omega⟩
      have hm : (x * y).tmod 65521 = x * y % 65521 := Int.tmod_eq_emod_of_nonneg m1'
      have hsb : IntKind.i64.wrap ((n : Int) - (q : Int)) = (j : Int) := by rw [show (n : Int) - q = j from by omega]; exact IntWalk.i64_in _ ⟨by omega, by omega⟩
      have hsw : IntKind.i64.wrap (S + x * y % 65521) = S + x * y % 65521 := IntWalk.i64_in _ ⟨by omega, by omega⟩
      have k1 : (q : Int) < (la : Int) := by omega
      have k0 : (0 : Int) ≤ (q : Int) := by omega
      have k3 : (j : Int) < (lb : Int) := by omega
      have k2 : (0 : Int) ≤ (j : Int) := by omega
      have k4 : (q : Int) < (n : Int) + 1 := by omega
      have hB2 := Lib.hid hB.out.drew
      replace hj := Lib.hid hj
      go_wp2
      go_still_tail 14, (by kernel_rfl)
      change wpList _ _ _ _ _ wr.drew
      go_wp2
      go_roundw
      case rel => exact ⟨q + 1, by omega, by go_num, congrArg (Value.int .i64) hs.out.symm, hB2⟩
      case measure => simp [intOf]; omega
    · obtain rfl : q = n + 1 := by omega
      have k4 : ¬ ((n : Int) + 1 < (n : Int) + 1) := by omega
      generalize psum (fun i => a.getD i 0 * b.getD (n - i) 0 % 65521) (n + 1) = S at p1 p2 hJ ⊢
      go_wp2
      go_ret
      exact ⟨by rw [hJ.out]; rfl, hB.out⟩
end Go.Proofs.YtfljkcmijnhgkaaDoor
