/- The reference's numbers, and FieldNumbers: their contracts. -/
import Derived.Test.YtfljkcmijnhgkaaDoorKn
namespace Go.Proofs.YtfljkcmijnhgkaaDoor
open Go.RowKit Go.Shelf
set_option linter.unusedSimpArgs false

theorem residue_any (n : Int) (w : World) : Calls Tryd.prog 132 #[.int .i64 n] w fun e w' => e = .returned (.bool (isN n)) ∧ w = w' := by
  have H : Hid (isN n = (decide (0 ≤ n) && decide (n < 65521))) := Lib.hid rfl
  by_cases h1 : 0 ≤ n
  · have h3 : decide (0 ≤ n) = true := by simpa using h1
    go_enter Tryd.func132, Tryd.ntmps132
    go_wp2
    go_ret
    refine ⟨?_, rfl⟩
    rw [H.out, h3]; rfl
  · have h3 : decide (0 ≤ n) = false := by simpa using h1
    go_enter Tryd.func132, Tryd.ntmps132
    go_wp2
    go_ret
    refine ⟨?_, rfl⟩
    rw [H.out, h3]; rfl
theorem refNorm_any (n : Int) (w : World) (h1 : -9223372036854775808 ≤ n) (h2 : n ≤ 9223372036854775807) :
    Calls Tryd.prog 73 #[.int .i64 n] w fun r w' => r = .returned (.int .i64 (n % 65521)) ∧ w = w' := by
  have ht : n.tmod 65521 = n % 65521 ∨ n.tmod 65521 + 65521 = n % 65521 ∧ n.tmod 65521 < 0 := by
    have h3 := Int.tmod_add_mul_tdiv n 65521
    rcases Int.lt_or_le n 0 with hn | hn
    · have h4 : n.tmod 65521 ≤ 0 := by
        have := Int.tmod_nonneg 65521 (show 0 ≤ -n by omega)
        rw [Int.neg_tmod] at this; omega
      have h5 : -65521 < n.tmod 65521 := by
        have := Int.tmod_lt_of_pos (-n) (show (0 : Int) < 65521 by decide)
        rw [Int.neg_tmod] at this; omega
      omega
    · exact .inl (Int.tmod_eq_emod_of_nonneg hn)
  have hb : 0 ≤ n % 65521 ∧ n % 65521 < 65521 := by omega
  generalize hT : n.tmod 65521 = t at *
  generalize n % 65521 = r at *
  rcases ht with rfl | ⟨ht, hn⟩
  · go_enter Tryd.func73, Tryd.ntmps73
    have hn : ¬ t < 0 := by omega
    go_wp2
    go_ret
    exact ⟨rfl, rfl⟩
  · have e2 : IntKind.i64.wrap (t + 65521) = t + 65521 := IntWalk.i64_in _ ⟨by omega, by omega⟩
    go_enter Tryd.func73, Tryd.ntmps73
    go_wp2
    go_ret
    exact ⟨by rw [← ht]; rfl, rfl⟩
set_option maxHeartbeats 400000 in
theorem refPow_any (n e : Int) (w : World) (hn : 0 ≤ n) (hn2 : n < 65521) (he : 0 ≤ e) (he2 : e ≤ 9223372036854775807) :
    Calls Tryd.prog 69 #[.int .i64 n, .int .i64 e] w fun r w' => r = .returned (.int .i64 (n ^ e.toNat % 65521)) ∧ w = w' := by
  go_enter Tryd.func69, Tryd.ntmps69
  go_wp2
  go_loop [0, 1, 5] (fun x y o => ∃ (a b c : Int), x = .int .i64 a ∧ y = .int .i64 b ∧ o = .int .i64 c ∧ 0 ≤ a ∧ a < 65521 ∧ 0 ≤ b ∧ b ≤ e ∧ 0 ≤ c ∧ c < 65521 ∧ c * a ^ b.toNat % 65521 = n ^ e.toNat % 65521) (fun _ y _ => (intOf y).toNat)
  case atStart => exact ⟨n, e, 1, rfl, rfl, rfl, hn, hn2, he, by omega, by omega, by omega, by simp⟩
  case round =>
    obtain ⟨a, b, c, rfl, rfl, rfl, ha, ha2, hb, hb2, hc, hc2, H⟩ := hrel
    replace H := Lib.hid H
    have ⟨m1, m2⟩ := mul_bd ha ha2 ha ha2
    have ⟨m3, m4⟩ := mul_bd hc hc2 ha ha2
    by_cases hb0 : 0 < b
    · by_cases hodd : b % 2 = 1
      · have hr := Lib.hid (pow_odd c a b hb0 hodd)
        have ho : (b % 2 == 1) = true := by rw [beq_iff_eq]; exact hodd
        replace hodd := Lib.hid hodd
        go_wp2
        go_round
        case rel => exact ⟨_, _, _, rfl, rfl, rfl, by omega, by omega, by omega, by omega, by omega, by omega, by rw [hr.out]; exact H.out⟩
        case measure => simp [intOf]; omega
      · have hev : b % 2 = 0 := by omega
        have hr := Lib.hid (pow_even c a b hb0 hev)
        have ho : (b % 2 == 1) = false := by rw [beq_eq_false_iff_ne]; exact hodd
        replace hev := Lib.hid hev
        replace hodd := Lib.hid hodd
        go_wp2
        go_round
        case rel => exact ⟨_, _, _, rfl, rfl, rfl, by omega, by omega, by omega, by omega, by omega, by omega, by rw [hr.out]; exact H.out⟩
        case measure => simp [intOf]; omega
    · have hbz : b = 0 := by omega
      subst hbz
      go_wp2
      go_ret
      refine ⟨?_, rfl⟩
      rw [← H.out]
      simp; omega
theorem refInv_any (n : Int) (w : World) (hn : 0 ≤ n) (hn2 : n < 65521) :
    Calls Tryd.prog 68 #[.int .i64 n] w fun r w' => r = .returned (.int .i64 (invN n)) ∧ w = w' := by
  have hc := refPow_any n 65519 w hn hn2 (by decide) (by decide)
  rw [inv_eq n hn] at hc
  replace hc := Lib.hid hc
  go_enter Tryd.func68, Tryd.ntmps68
  go_wp2_with fail
  refine hc.out.mono ?_; rintro e w' ⟨rfl, rfl⟩
  go_wp2
  go_ret
  exact ⟨rfl, rfl⟩
theorem Inverts_any (n : Int) (w : World) : Calls Tryd.prog 66 #[.int .i64 n] w fun r w' => r = .returned (.int .i64 (invR n).2) ∧ w = w' := by
  have hc := Lib.hid (residue_any n w)
  cases hn : isN n
  · rw [hn] at hc
    have hr : Hid (invR n = (0, 3)) := Lib.hid (by rw [invR, if_pos hn])
    go_enter Tryd.func66, Tryd.ntmps66
    go_wp2_with fail
    refine hc.out.mono ?_; rintro e w' ⟨rfl, rfl⟩
    go_wp2
    go_ret
    exact ⟨by rw [hr.out]; rfl, rfl⟩
  · rw [hn] at hc
    by_cases h0 : n = 0
    · have hr : Hid (invR n = (0, 7)) := Lib.hid (by rw [invR, if_neg (by simp [hn]), if_pos h0])
      subst h0
      clear hn
      go_enter Tryd.func66, Tryd.ntmps66
      go_wp2_with fail
      refine hc.out.mono ?_; rintro e w' ⟨rfl, rfl⟩
      go_wp2
      go_ret
      exact ⟨by rw [hr.out]; rfl, rfl⟩
    · have hr : Hid (invR n = (invN n, 0)) := Lib.hid (by rw [invR, if_neg (by simp [hn]), if_neg h0])
      have hne : (n == 0) = false := by rw [beq_eq_false_iff_ne]; exact h0
      clear hn
      go_enter Tryd.func66, Tryd.ntmps66
      go_wp2_with fail
      refine hc.out.mono ?_; rintro e w' ⟨rfl, rfl⟩
      go_wp2
      go_ret
      exact ⟨by rw [hr.out]; rfl, rfl⟩
theorem Powers_any (n x : Int) (w : World) : Calls Tryd.prog 67 #[.int .i64 n, .int .i64 x] w fun r w' => r = .returned (.int .i64 (powNR n x).2) ∧ w = w' := by
  have hc := Lib.hid (residue_any n w)
  cases hn : isN n
  · rw [hn] at hc
    have hr : Hid (powNR n x = (0, 3)) := Lib.hid (by rw [powNR, if_pos (.inl hn)])
    go_enter Tryd.func67, Tryd.ntmps67
    go_wp2_with fail
    refine hc.out.mono ?_; rintro e w' ⟨rfl, rfl⟩
    go_wp2
    go_ret
    exact ⟨by rw [hr.out]; rfl, rfl⟩
  · rw [hn] at hc
    by_cases h0 : x < 0
    · have hr : Hid (powNR n x = (0, 3)) := Lib.hid (by rw [powNR, if_pos (.inr h0)])
      clear hn
      go_enter Tryd.func67, Tryd.ntmps67
      go_wp2_with fail
      refine hc.out.mono ?_; rintro e w' ⟨rfl, rfl⟩
      go_wp2
      go_ret
      exact ⟨by rw [hr.out]; rfl, rfl⟩
    · have hr : Hid ((powNR n x).2 = 0) := Lib.hid (by rw [powNR, if_neg (by simp [hn]; omega)])
      clear hn
      go_enter Tryd.func67, Tryd.ntmps67
      go_wp2_with fail
      refine hc.out.mono ?_; rintro e w' ⟨rfl, rfl⟩
      go_wp2
      go_ret
      exact ⟨by rw [hr.out]; rfl, rfl⟩
theorem invR_no {n : Int} (h : (invR n).2 ≠ 0) : (invR n).1 = 0 := by
  unfold invR at *
  split
  · rfl
  · split
    · rfl
    · rename_i h1 h2; rw [if_neg h1, if_neg h2] at h; exact absurd rfl h
theorem invR_ok {n : Int} (h : (invR n).2 = 0) : isN n = true ∧ (invR n).1 = invN n := by
  unfold invR at *
  split at h
  · cases h
  · split at h
    · cases h
    · rename_i h1 h2; rw [if_neg h1, if_neg h2]; exact ⟨by simpa using h1, rfl⟩
theorem powNR_no {n e : Int} (h : (powNR n e).2 ≠ 0) : (powNR n e).1 = 0 := by
  unfold powNR at *
  split
  · rfl
  · rename_i h1; rw [if_neg h1] at h; exact absurd rfl h
theorem powNR_ok {n e : Int} (h : (powNR n e).2 = 0) : isN n = true ∧ 0 ≤ e ∧ (powNR n e).1 = n ^ e.toNat % 65521 := by
  unfold powNR at *
  split at h
  · cases h
  · rename_i h1; rw [if_neg h1]; exact ⟨by cases hh : isN n <;> simp_all, by simp at h1; omega, rfl⟩
set_option maxRecDepth 100000 in
set_option maxHeartbeats 1600000 in
theorem FieldNumbers_any (n x : Int) (w : World) (h1 : -9223372036854775808 ≤ n) (h2 : n ≤ 9223372036854775807) (h4 : x ≤ 9223372036854775807) (hJ : Joins w) :
    Calls Tryd.prog 10 #[.int .i64 n, .int .i64 x] w fun e w' => e = .returned (.bool true) ∧ Below w.heap.size w w' := by
  have c1 := Lib.hid (fun W => Inverts_any n W)
  have c2 := Lib.hid (fun W => Powers_any n x W)
  have c5 := Lib.hid (fun W => Inv_any n W)
  have c6 := Lib.hid (fun W => Pow_any n x W h4)
  have c7 := Lib.hid (fun W => Norm_any n W h1 h2)
  have c8 := Lib.hid (fun W => refNorm_any n W h1 h2)
  have c9 := Lib.hid (fun W (hW : Below w.heap.size w W) => awake_any W (hJ.below hW))
  have i1 := @invR_no n
  have i2 := @invR_ok n
  have p1 := @powNR_no n x
  have p2 := @powNR_ok n x
  have c3 := Lib.hid (fun W h h' => refInv_any n W h h')
  have c4 := Lib.hid (fun W h h' h'' => refPow_any n x W h h' h'' h4)
  generalize (invR n).1 = a at *
  generalize (invR n).2 = e1 at *
  generalize (powNR n x).1 = b at *
  generalize (powNR n x).2 = e2 at *
  generalize n % 65521 = z at *
  clear hJ h1 h2 h4
  by_cases hw : e1 = 0
  · obtain ⟨hn, ha⟩ := i2 hw
    have hq := isN_iff.1 hn
    replace c3 := Lib.hid (fun W => c3.out W hq.1 hq.2)
    rw [← ha] at c3
    subst hw
    clear i1 i2 hn ha
    by_cases hu : e2 = 0
    · obtain ⟨-, hx, hb⟩ := p2 hu
      replace c4 := Lib.hid (fun W => c4.out W hq.1 hq.2 hx)
      rw [← hb] at c4
      subst hu
      clear p1 p2 hb hx hq
      go_enter Tryd.func10, Tryd.ntmps10
      go_wp2_with fail
      refine (c1.out _).mono ?_; rintro e W ⟨rfl, rfl⟩
      go_wp2_with fail
      refine (c2.out _).mono ?_; rintro e W ⟨rfl, rfl⟩
      go_wp2_with fail
      refine (c3.out _).mono ?_; rintro e W ⟨rfl, rfl⟩
      go_wp2_with fail
      refine (c4.out _).mono ?_; rintro e W ⟨rfl, rfl⟩
      go_wp2_with fail
      refine (c5.out _).mono ?_; rintro e W1 ⟨rfl, hB1⟩
      go_wp2_with fail
      refine (c6.out _).mono ?_; rintro e W2 ⟨rfl, hB2⟩
      go_wp2_with fail
      refine (c7.out _).mono ?_; rintro e W ⟨rfl, rfl⟩
      go_wp2_with fail
      refine (c8.out _).mono ?_; rintro e W ⟨rfl, rfl⟩
      have hB3 := Lib.hid (Below.then_ hB1 hB2)
      clear hB1 hB2
      go_wp2_with fail
      refine (c9.out _ hB3.out).mono ?_; rintro e W3 ⟨rfl, hB4⟩
      go_wp2
      go_ret
      exact ⟨rfl, Below.then_ hB3.out hB4⟩
    · have hb := p1 hu
      have hne : (e2 == 0) = false := by rw [beq_eq_false_iff_ne]; exact hu
      subst hb
      clear p1 p2 hq
      go_enter Tryd.func10, Tryd.ntmps10
      go_wp2_with fail
      refine (c1.out _).mono ?_; rintro e W ⟨rfl, rfl⟩
      go_wp2_with fail
      refine (c2.out _).mono ?_; rintro e W ⟨rfl, rfl⟩
      go_wp2_with fail
      refine (c3.out _).mono ?_; rintro e W ⟨rfl, rfl⟩
      go_wp2_with fail
      refine (c5.out _).mono ?_; rintro e W1 ⟨rfl, hB1⟩
      go_wp2_with fail
      refine (c6.out _).mono ?_; rintro e W2 ⟨rfl, hB2⟩
      go_wp2_with fail
      refine (c7.out _).mono ?_; rintro e W ⟨rfl, rfl⟩
      go_wp2_with fail
      refine (c8.out _).mono ?_; rintro e W ⟨rfl, rfl⟩
      have hB3 := Lib.hid (Below.then_ hB1 hB2)
      clear hB1 hB2
      go_wp2_with fail
      refine (c9.out _ hB3.out).mono ?_; rintro e W3 ⟨rfl, hB4⟩
      go_wp2
      go_ret
      exact ⟨rfl, Below.then_ hB3.out hB4⟩
  · have ha := i1 hw
    have hnw : (e1 == 0) = false := by rw [beq_eq_false_iff_ne]; exact hw
    subst ha
    clear i1 i2
    by_cases hu : e2 = 0
    · obtain ⟨hn, hx, hb⟩ := p2 hu
      have hq := isN_iff.1 hn
      replace c4 := Lib.hid (fun W => c4.out W hq.1 hq.2 hx)
      rw [← hb] at c4
      subst hu
      clear p1 p2 hb hx hq hn
      go_enter Tryd.func10, Tryd.ntmps10
      go_wp2_with fail
      refine (c1.out _).mono ?_; rintro e W ⟨rfl, rfl⟩
      go_wp2_with fail
      refine (c2.out _).mono ?_; rintro e W ⟨rfl, rfl⟩
      go_wp2_with fail
      refine (c4.out _).mono ?_; rintro e W ⟨rfl, rfl⟩
      go_wp2_with fail
      refine (c5.out _).mono ?_; rintro e W1 ⟨rfl, hB1⟩
      go_wp2_with fail
      refine (c6.out _).mono ?_; rintro e W2 ⟨rfl, hB2⟩
      go_wp2_with fail
      refine (c7.out _).mono ?_; rintro e W ⟨rfl, rfl⟩
      go_wp2_with fail
      refine (c8.out _).mono ?_; rintro e W ⟨rfl, rfl⟩
      have hB3 := Lib.hid (Below.then_ hB1 hB2)
      clear hB1 hB2
      go_wp2_with fail
      refine (c9.out _ hB3.out).mono ?_; rintro e W3 ⟨rfl, hB4⟩
      go_wp2
      go_ret
      exact ⟨rfl, Below.then_ hB3.out hB4⟩
    · have hb := p1 hu
      have hne : (e2 == 0) = false := by rw [beq_eq_false_iff_ne]; exact hu
      subst hb
      clear p1 p2
      go_enter Tryd.func10, Tryd.ntmps10
      go_wp2_with fail
      refine (c1.out _).mono ?_; rintro e W ⟨rfl, rfl⟩
      go_wp2_with fail
      refine (c2.out _).mono ?_; rintro e W ⟨rfl, rfl⟩
      go_wp2_with fail
      refine (c5.out _).mono ?_; rintro e W1 ⟨rfl, hB1⟩
      go_wp2_with fail
      refine (c6.out _).mono ?_; rintro e W2 ⟨rfl, hB2⟩
      go_wp2_with fail
      refine (c7.out _).mono ?_; rintro e W ⟨rfl, rfl⟩
      go_wp2_with fail
      refine (c8.out _).mono ?_; rintro e W ⟨rfl, rfl⟩
      have hB3 := Lib.hid (Below.then_ hB1 hB2)
      clear hB1 hB2
      go_wp2_with fail
      refine (c9.out _ hB3.out).mono ?_; rintro e W3 ⟨rfl, hB4⟩
      go_wp2
      go_ret
      exact ⟨rfl, Below.then_ hB3.out hB4⟩
end Go.Proofs.YtfljkcmijnhgkaaDoor
