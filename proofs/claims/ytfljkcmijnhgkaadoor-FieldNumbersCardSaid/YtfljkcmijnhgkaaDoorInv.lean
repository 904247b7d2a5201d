/- Norm, Inv, Pow: their contracts. -/
import Derived.Test.YtfljkcmijnhgkaaDoorClear
import Derived.Test.YtfljkcmijnhgkaaDoorIs
namespace Go.Proofs.YtfljkcmijnhgkaaDoor
open Go.RowKit Go.Shelf

theorem Norm_any (n : Int) (w : World) (h1 : -9223372036854775808 ≤ n) (h2 : n ≤ 9223372036854775807) :
    Calls Tryd.prog 72 #[.int .i64 n] w fun r w' => r = .returned (.int .i64 (n % 65521)) ∧ w = w' := by
  have ht : n.tmod 65521 = n % 65521 ∨ n.tmod 65521 + 65521 = n % 65521 ∧ n.tmod 65521 < 0 := by
    have h3 := Int.tmod_add_mul_tdiv n 65521
    rcases Int.lt_or_le n 0 with hn | hn
    · have h4 : n.tmod 65521 ≤ 0 := by
        have := Int.tmod_nonneg 65521 (show 0 ≤ -n by omega)
        rw [Int.neg_tmod] at this; omega
      have h5 : -65521 < n.tmod 65521 := by
        have := Int.tmod_lt_of_pos (-n) (show (0 : Int) < 65521 by decide)
        rw [Int.neg_tmod] at this; omega
      omega
    · exact .inl (Int.tmod_eq_emod_of_nonneg hn)
  have hb : 0 ≤ n % 65521 ∧ n % 65521 < 65521 := by omega
  generalize hT : n.tmod 65521 = t at *
  generalize n % 65521 = r at *
  rcases ht with rfl | ⟨ht, hn⟩
  · go_enter Tryd.func72, Tryd.ntmps72
    have hn : ¬ t < 0 := by omega
    go_wp2
    go_ret
    exact ⟨rfl, rfl⟩
  · have e2 : IntKind.i64.wrap (t + 65521) = t + 65521 := IntWalk.i64_in _ ⟨by omega, by omega⟩
    go_enter Tryd.func72, Tryd.ntmps72
    go_wp2
    go_ret
    exact ⟨by rw [← ht]; rfl, rfl⟩
theorem RdI_one (w : World) (x : Int) : RdI (w.alloc (.cells #[.int .i64 x] 3)) (.slice (some ⟨w.heap.size, 0, none⟩) 1 1) [x] := by
  refine ⟨_, _, rfl, Nat.le_refl _, by simp [ints], fun _ => ⟨_, _, rfl, fun j u h => ?_⟩⟩
  cases j with
  | zero =>
    simp only [ints, List.map_cons, List.getElem?_cons_zero, Option.some.injEq] at h
    subst h
    simp only [World.cell?, heap_alloc_new]; rfl
  | succ j => simp [ints] at h
def invR (n : Int) : Int × Int := if isN n = false then (0, 3) else if n = 0 then (0, 7) else (invN n, 0)
def powNR (n e : Int) : Int × Int := if isN n = false ∨ e < 0 then (0, 3) else (n ^ e.toNat % 65521, 0)
theorem isN_iff {n : Int} : isN n = true ↔ 0 ≤ n ∧ n < 65521 := by simp [isN]
theorem Inv_any (n : Int) (w : World) :
    Calls Tryd.prog 70 #[.int .i64 n] w fun e w' => e = .returned (.tuple #[.int .i64 (invR n).1, .int .i64 (invR n).2]) ∧ Below w.heap.size w w' := by
  have hbx : Below w.heap.size w (w.alloc (.cells #[.int .i64 n] 3)) := (Below.refl _ _).alloc (Nat.le_refl _) _
  have hi := Lib.hid (is_any [n] _ _ (RdI_one w n))
  have hl : isRes [n] = isN n := by simp [isRes]
  rw [hl] at hi
  cases hn : isN n
  · rw [hn] at hi
    have hr : Hid (invR n = (0, 3)) := Lib.hid (by rw [invR, if_pos hn])
    go_enter Tryd.func70, Tryd.ntmps70
    go_wp2_with fail
    generalize w.alloc (.cells #[.int .i64 n] 3) = X at *
    refine hi.out.mono ?_; rintro e W ⟨rfl, hB⟩
    go_wp2
    go_ret2
    exact ⟨by rw [hr.out]; rfl, Below.then_ hbx hB⟩
  · rw [hn] at hi
    by_cases h0 : n = 0
    · have hr : Hid (invR n = (0, 7)) := Lib.hid (by rw [invR, if_neg (by simp [hn]), if_pos h0])
      subst h0
      clear hn hl
      go_enter Tryd.func70, Tryd.ntmps70
      go_wp2_with fail
      generalize w.alloc (.cells #[.int .i64 0] 3) = X at *
      refine hi.out.mono ?_; rintro e W ⟨rfl, hB⟩
      go_wp2
      go_ret2
      exact ⟨by rw [hr.out]; rfl, Below.then_ hbx hB⟩
    · have hr : Hid (invR n = (invN n, 0)) := Lib.hid (by rw [invR, if_neg (by simp [hn]), if_neg h0])
      have hq := isN_iff.1 hn
      have hc := Lib.hid (fun W => inverse_any n W hq.1 hq.2)
      have hne : (n == 0) = false := by rw [beq_eq_false_iff_ne]; exact h0
      clear hn hl
      go_enter Tryd.func70, Tryd.ntmps70
      go_wp2_with fail
      generalize w.alloc (.cells #[.int .i64 n] 3) = X at *
      refine hi.out.mono ?_; rintro e W ⟨rfl, hB⟩
      go_wp2_with fail
      refine (hc.out W).mono ?_; rintro e W2 ⟨rfl, rfl⟩
      go_wp2
      go_ret2
      exact ⟨by rw [hr.out]; rfl, Below.then_ hbx hB⟩
theorem Pow_any (n e : Int) (w : World) (he : e ≤ 9223372036854775807) :
    Calls Tryd.prog 71 #[.int .i64 n, .int .i64 e] w fun r w' => r = .returned (.tuple #[.int .i64 (powNR n e).1, .int .i64 (powNR n e).2]) ∧ Below w.heap.size w w' := by
  have hbx : Below w.heap.size w (w.alloc (.cells #[.int .i64 n] 3)) := (Below.refl _ _).alloc (Nat.le_refl _) _
  have hi := Lib.hid (is_any [n] _ _ (RdI_one w n))
  have hl : isRes [n] = isN n := by simp [isRes]
  rw [hl] at hi
  cases hn : isN n
  · rw [hn] at hi
    have hr : Hid (powNR n e = (0, 3)) := Lib.hid (by rw [powNR, if_pos (.inl hn)])
    go_enter Tryd.func71, Tryd.ntmps71
    go_wp2_with fail
    generalize w.alloc (.cells #[.int .i64 n] 3) = X at *
    refine hi.out.mono ?_; rintro e W ⟨rfl, hB⟩
    go_wp2
    go_ret2
    exact ⟨by rw [hr.out]; rfl, Below.then_ hbx hB⟩
  · rw [hn] at hi
    by_cases h0 : e < 0
    · have hr : Hid (powNR n e = (0, 3)) := Lib.hid (by rw [powNR, if_pos (.inr h0)])
      clear hn hl
      go_enter Tryd.func71, Tryd.ntmps71
      go_wp2_with fail
      generalize w.alloc (.cells #[.int .i64 n] 3) = X at *
      refine hi.out.mono ?_; rintro e W ⟨rfl, hB⟩
      go_wp2
      go_ret2
      exact ⟨by rw [hr.out]; rfl, Below.then_ hbx hB⟩
    · have hr : Hid (powNR n e = (n ^ e.toNat % 65521, 0)) := Lib.hid (by rw [powNR, if_neg (by simp [hn]; omega)])
      have hq := isN_iff.1 hn
      have hc := Lib.hid (fun W => power_any n e W hq.1 hq.2 (by omega) he)
      clear hn hl
      generalize n ^ e.toNat % 65521 = R at *
      go_enter Tryd.func71, Tryd.ntmps71
      go_wp2_with fail
      generalize w.alloc (.cells #[.int .i64 n] 3) = X at *
      refine hi.out.mono ?_; rintro e W ⟨rfl, hB⟩
      go_wp2_with fail
      refine (hc.out W).mono ?_; rintro e W2 ⟨rfl, rfl⟩
      go_wp2
      go_ret2
      exact ⟨by rw [hr.out]; rfl, Below.then_ hbx hB⟩
end Go.Proofs.YtfljkcmijnhgkaaDoor
