/- The reference's Check, square, Power, Mul: their contracts. The law's helpers great and told: their contracts. -/
import Derived.Test.YtfljkcmijnhgkaaDoorKq
import Derived.Test.YtfljkcmijnhgkaaDoorKo
import Derived.Test.YtfljkcmijnhgkaaDoorKg
import Derived.Test.YtfljkcmijnhgkaaDoorKh
import Derived.Test.YtfljkcmijnhgkaaDoorKb
namespace Go.Proofs.YtfljkcmijnhgkaaDoor
open Go.RowKit Go.Shelf
set_option linter.unusedSimpArgs false

theorem isRes_at {xs : List Int} (h : ∀ j, j < xs.length → isN (xs.getD j 0) = true) : isRes xs = true := by
  rw [isRes, List.all_eq_true]
  intro x hx
  obtain ⟨j, hj, rfl⟩ := List.getElem_of_mem hx
  have := h j hj
  rwa [List.getD_eq_getElem?_getD, List.getElem?_eq_getElem hj] at this
theorem isRes_not {xs : List Int} {j : Nat} (hj : j < xs.length) (h : isN (xs.getD j 0) = false) : isRes xs = false := by
  rw [← Bool.not_eq_true, isRes, List.all_eq_true]
  intro hc
  have := hc _ (List.getElem_mem hj)
  rw [List.getD_eq_getElem?_getD, List.getElem?_eq_getElem hj] at h
  simp only [Option.getD_some] at h
  rw [h] at this; cases this
set_option maxHeartbeats 800000 in
theorem refResidues_any (xs : List Int) (v : Value) (w : World) (h : RdI w v xs) : Calls Tryd.prog 91 #[v] w fun e w' => e = .returned (.bool (isRes xs)) ∧ w = w' := by
  obtain ⟨A, c, rfl, h1, h2, h3⟩ := h.open_
  replace h3 := Lib.hid h3
  clear h
  generalize hn : xs.length = n at *
  replace hn := Lib.hid hn
  go_enter Tryd.func91, Tryd.ntmps91
  go_wp2
  go_loop [4, 7] (fun _ i => ∃ k : Nat, k ≤ n ∧ i = .int .i64 k ∧ Hid (∀ j, j < k → isN (xs.getD j 0) = true)) (fun _ i => n - (intOf i).toNat)
  case atStart => exact ⟨0, Nat.zero_le _, rfl, Lib.hid (fun j hj => by omega)⟩
  case round =>
    obtain ⟨k, hk, rfl, hE⟩ := hrel
    by_cases hlt : k < n
    · obtain ⟨b, off, rfl, hc⟩ := h3.out k hlt
      have k1 : (k : Int) < (n : Int) := by omega
      have k0 : (0 : Int) ≤ (k : Int) := by omega
      cases hi : isN (xs.getD k 0) with
      | true =>
        have hE2 : Hid (∀ j, j < k + 1 → isN (xs.getD j 0) = true) := Lib.hid (fun j hj => by
          by_cases e : j = k
          · rw [e]; exact hi
          · exact hE.out j (by omega))
        have hcall := Lib.hid (residue_any (xs.getD k 0) w)
        rw [hi] at hcall
        replace hi := Lib.hid hi
        generalize xs.getD k 0 = x at hc hcall
        go_wp2_with fail
        refine hcall.out.mono ?_; rintro e w' ⟨rfl, rfl⟩
        go_wp2
        go_round
        case rel => exact ⟨k + 1, by omega, by go_num, hE2⟩
        case measure => simp [intOf]; omega
      | false =>
        have hr := Lib.hid (isRes_not (xs := xs) (by rw [hn.out]; exact hlt) hi)
        have hcall := Lib.hid (residue_any (xs.getD k 0) w)
        rw [hi] at hcall
        replace hi := Lib.hid hi
        generalize xs.getD k 0 = x at hc hcall
        go_wp2_with fail
        refine hcall.out.mono ?_; rintro e w' ⟨rfl, rfl⟩
        go_wp2
        go_ret
        exact ⟨by rw [hr.out]; rfl, rfl⟩
    · have hr := Lib.hid (isRes_at (xs := xs) (fun j hj => hE.out j (by have := hn.out; omega)))
      obtain rfl : k = n := by omega
      go_wp2
      go_ret
      exact ⟨by rw [hr.out]; rfl, rfl⟩
theorem any_at {rs : List (List Int)} {q : List Int → Bool} (h : ∀ j, j < rs.length → q (rs.getD j []) = false) : rs.any q = false := by
  rw [← Bool.not_eq_true, List.any_eq_true]
  rintro ⟨x, hx, hq⟩
  obtain ⟨j, hj, rfl⟩ := List.getElem_of_mem hx
  have := h j hj
  rw [List.getD_eq_getElem?_getD, List.getElem?_eq_getElem hj] at this
  simp only [Option.getD_some] at this
  rw [this] at hq; cases hq
theorem any_hit {rs : List (List Int)} {q : List Int → Bool} {j : Nat} (hj : j < rs.length) (h : q (rs.getD j []) = true) : rs.any q = true := by
  rw [List.any_eq_true]
  refine ⟨_, List.getElem_mem hj, ?_⟩
  rw [List.getD_eq_getElem?_getD, List.getElem?_eq_getElem hj] at h
  exact h
set_option maxRecDepth 100000 in
set_option maxHeartbeats 1600000 in
theorem refCheck_any (rs : List (List Int)) (v : Value) (w : World) (h : RdM w v rs) :
    Calls Tryd.prog 65 #[v] w fun e w' => e = .returned (.int .i64 (checkM rs)) ∧ Below w.heap.size w w' := by
  obtain ⟨A, c, rfl, h1, h2, h3⟩ := h.open_
  by_cases hn : rs.length < 1
  · have hr := Lib.hid (checkM_many (rs := rs) (.inl hn))
    clear h h3
    go_enter Tryd.func65, Tryd.ntmps65
    go_wp2
    go_ret
    exact ⟨by rw [hr.out]; rfl, Below.refl _ _⟩
  by_cases hm : rs.length > 12
  · have hr := Lib.hid (checkM_many (rs := rs) (.inr (.inl hm)))
    clear h h3
    go_enter Tryd.func65, Tryd.ntmps65
    go_wp2
    go_ret
    exact ⟨by rw [hr.out]; rfl, Below.refl _ _⟩
  obtain ⟨b, off, u, rfl, hc, hu⟩ := h3 0 (by omega)
  obtain ⟨A0, c0, rfl, l1, l2⟩ := hu.cell_
  change _ = some (Value.slice A0 (len0 rs) c0) at hc
  have l3 : len0 rs ≤ c0 := l1
  have l4 : len0 rs ≤ 140737488355328 := l2
  clear hu l1 l2 h
  rw [Nat.add_zero] at hc
  have hn' : (0 : Int) < (rs.length : Int) := by omega
  have hcl : b < w.heap.size := World.block_lt_of_cell? w _ hc
  replace h3 := Lib.hid h3
  generalize hl : len0 rs = m at hc l3 l4
  by_cases hm0 : m < 1 ∨ m > 12
  · have hr := Lib.hid (checkM_many (rs := rs) (by omega))
    clear hl
    by_cases hm1 : m < 1
    all_goals
      go_enter Tryd.func65, Tryd.ntmps65
      go_wp2
      go_ret
      exact ⟨by rw [hr.out]; rfl, Below.refl _ _⟩
  have hr := checkM_pass (rs := rs) (by omega)
  rw [hl] at hr
  replace hr := Lib.hid hr
  replace hl := Lib.hid hl
  generalize hN : rs.length = n at *
  replace hN := Lib.hid hN
  go_enter Tryd.func65, Tryd.ntmps65
  go_wp2
  go_loopw [4, 31] (fun _ i wr => ∃ k : Nat, k ≤ n ∧ i = .int .i64 k ∧ Hid (Below w.heap.size w wr) ∧ Hid (∀ j, j < k → (!((rs.getD j []).length == m)) = false)) (fun _ i _ => n - (intOf i).toNat)
  case atStart => exact ⟨0, Nat.zero_le _, rfl, Lib.hid (Below.refl _ _), Lib.hid (fun j hj => by omega)⟩
  case round =>
    obtain ⟨k, hk, rfl, hB, hE⟩ := hrel
    by_cases hlt : k < n
    · obtain ⟨b1, off1, u1, eb, hc1, hu1⟩ := h3.out k hlt
      simp only [Option.some.injEq, Addr.mk.injEq, and_true] at eb
      obtain ⟨rfl, rfl⟩ := eb
      obtain ⟨A1, c1, rfl, f1, f2⟩ := hu1.cell_
      replace hc1 := (hB.out.cell (World.block_lt_of_cell? w _ hc1)).trans hc1
      have hc' := (hB.out.cell (p := ⟨b, off, none⟩) hcl).trans hc
      have k1 : (k : Int) < (n : Int) := by omega
      have k0 : (0 : Int) ≤ (k : Int) := by omega
      clear hu1
      by_cases he : (rs.getD k []).length = m
      · have hE2 : Hid (∀ j, j < k + 1 → (!((rs.getD j []).length == m)) = false) := Lib.hid (fun j hj => by
          by_cases e : j = k
          · rw [e, he]; simp
          · exact hE.out j (by omega))
        rw [he] at hc1 f1 f2
        replace he := Lib.hid he
        go_wp2
        go_roundw
        case rel => exact ⟨k + 1, by omega, by go_num, hB, hE2⟩
        case measure => simp [intOf]; omega
      · have hr4 : Hid (checkM rs = 4) := Lib.hid (by rw [hr.out, if_pos (any_hit (by rw [hN.out]; exact hlt) (by simpa using he))])
        generalize (rs.getD k []).length = L at *
        have hne : ((L : Int) != (m : Int)) = true := by rw [bne_iff_ne]; omega
        replace he := Lib.hid he
        go_wp2
        go_ret
        exact ⟨by rw [hr4.out]; rfl, hB.out⟩
    · obtain rfl : n = k := by omega
      have hr2 : Hid (checkM rs = if (rs.any fun r => !isRes r) = true then 3 else 0) := Lib.hid (by rw [hr.out, if_neg (by rw [any_at (fun j hj => hE.out j (by have := hN.out; omega))]; simp)])
      go_wp2
      obtain ⟨wo, rfl⟩ : ∃ wo : World, wo = wr := ⟨_, rfl⟩
      go_loopw [6, 45] (fun _ i wr => ∃ k : Nat, k ≤ n ∧ i = .int .i64 k ∧ Hid (Below w.heap.size w wr) ∧ Hid (∀ j, j < k → (!isRes (rs.getD j [])) = false)) (fun _ i _ => n - (intOf i).toNat)
      case atStart => exact ⟨0, Nat.zero_le _, rfl, hB, Lib.hid (fun j hj => by omega)⟩
      case round =>
        obtain ⟨k, hk, rfl, hB, hE⟩ := hrel
        by_cases hlt : k < n
        · obtain ⟨b1, off1, u1, eb, hc1, hu1⟩ := h3.out k hlt
          simp only [Option.some.injEq, Addr.mk.injEq, and_true] at eb
          obtain ⟨rfl, rfl⟩ := eb
          replace hc1 := (hB.out.cell (World.block_lt_of_cell? w _ hc1)).trans hc1
          have hcall := Lib.hid (refResidues_any (rs.getD k []) u1 wr (hu1.below hB.out (Nat.le_refl _)))
          have k1 : (k : Int) < (n : Int) := by omega
          have k0 : (0 : Int) ≤ (k : Int) := by omega
          clear hu1
          cases he : isRes (rs.getD k []) with
          | true =>
            have hE2 : Hid (∀ j, j < k + 1 → (!isRes (rs.getD j [])) = false) := Lib.hid (fun j hj => by
              by_cases e : j = k
              · rw [e, he]; rfl
              · exact hE.out j (by omega))
            rw [he] at hcall
            replace he := Lib.hid he
            go_wp2_with fail
            refine hcall.out.mono ?_; rintro e w' ⟨rfl, rfl⟩
            go_wp2
            go_roundw
            case rel => exact ⟨k + 1, by omega, by go_num, hB, hE2⟩
            case measure => simp [intOf]; omega
          | false =>
            have hr3 : Hid (checkM rs = 3) := Lib.hid (by rw [hr2.out, if_pos (any_hit (by rw [hN.out]; exact hlt) (by simpa using he))])
            rw [he] at hcall
            replace he := Lib.hid he
            go_wp2_with fail
            refine hcall.out.mono ?_; rintro e w' ⟨rfl, rfl⟩
            go_wp2
            go_ret
            exact ⟨by rw [hr3.out]; rfl, hB.out⟩
        · have hr0 : Hid (checkM rs = 0) := Lib.hid (by rw [hr2.out, if_neg (by rw [any_at (fun j hj => hE.out j (by have := hN.out; omega))]; simp)])
          obtain rfl : n = k := by omega
          go_wp2
          go_ret
          exact ⟨by rw [hr0.out]; rfl, hB.out⟩
set_option maxRecDepth 100000 in
set_option maxHeartbeats 800000 in
theorem refpower_any (a : List (List Int)) (m : Nat) (va : Value) (e : Nat) (w : World) (ha : okM a m m) (hm : m ≤ 1000) (hm0 : 0 < m) (he : e ≤ 9223372036854775807) (ra : RdM w va a) :
    Calls Tryd.prog 129 #[va, .int .i64 e] w fun r w' => (∃ v, r = .returned v ∧ OwnM w' w.heap.size v (powMat a e)) ∧ Below w.heap.size w w' := by
  have hP : powMat a e = powF 64 (idM m) a e := by rw [powMat, ha.1]
  obtain ⟨A, c, e1, h1, h2, _⟩ := ra.open_
  rw [ha.1] at e1 h1 h2
  have ra0 := ra
  rw [e1] at ra0
  subst e1
  have hid := Lib.hid (Identity_any m w (by omega))
  replace ra0 := Lib.hid ra0
  replace hP := Lib.hid hP
  have ha0 := Lib.hid ha
  clear ra ha
  go_enter Tryd.func129, Tryd.ntmps129
  go_wp2_with (go_at_call 150; refine hid.out.mono ?_; rintro r W1 ⟨⟨v1, rfl, ho1⟩, hb1⟩)
  replace ho1 := Lib.hid ho1
  go_loopw [0, 1, 5] (fun x y o wr => ∃ (f n : Nat) (x' o' : List (List Int)), y = .int .i64 n ∧ n < 2 ^ f ∧ n ≤ e ∧ Below w.heap.size w wr ∧ Hid (okM x' m m ∧ okM o' m m ∧ RdM wr x x' ∧ OwnM wr w.heap.size o o' ∧ powF f o' x' n = powMat a e)) (fun _ y _ _ => (intOf y).toNat)
  case atStart =>
    refine ⟨64, e, a, idM m, rfl, by have : (2 : Nat) ^ 64 = 18446744073709551616 := by decide
                                     omega, Nat.le_refl _, hb1, Lib.hid ⟨ha0.out, okM_id m, ra0.out.below hb1 (Nat.le_refl _), ho1.out, hP.out.symm⟩⟩
  case round =>
    obtain ⟨f, n, x', o', rfl, hf, hne, hB, H⟩ := hrel
    obtain ⟨ox, oo, rx, ro, hH⟩ := H.out
    clear H
    have rx' := Lib.hid rx
    have ro' := Lib.hid (ro.rdOk oo hm hm)
    have ro := Lib.hid ro
    clear rx
    by_cases h0 : n = 0
    · subst h0
      rw [powF_zero] at hH
      replace hH := Lib.hid hH
      go_wp2
      go_ret
      exact ⟨⟨_, rfl, by rw [← hH.out]; exact ro.out⟩, hB⟩
    · obtain ⟨f, rfl⟩ : ∃ g, f = g + 1 := ⟨f - 1, by
        cases f with
        | zero => omega
        | succ f => omega⟩
      have hf' : n / 2 < 2 ^ f := by rw [Nat.pow_succ] at hf; omega
      have hsq := Lib.hid (fun W (hW : Below wr.heap.size wr W) => refProduct_any x' x' m m m u0 u0 W ox ox hm hm hm hm0 (rx'.out.below hW (Nat.le_refl _)) (rx'.out.below hW (Nat.le_refl _)))
      by_cases hodd : n % 2 = 1
      · rw [powF_odd _ _ hodd] at hH
        replace hH := Lib.hid hH
        have hmul := Lib.hid (refProduct_any o' x' m m m u5 u0 wr oo ox hm hm hm hm0 ro'.out rx'.out)
        have hb2 : ((n : Int) % 2 == 1) = true := by rw [beq_iff_eq]; omega
        have hn0 : (0 : Int) < (n : Int) := by omega
        clear hf
        go_wp2_with fail
        refine hmul.out.mono ?_; rintro r W1 ⟨⟨v1, rfl, ho1⟩, hb1⟩
        replace ho1 := Lib.hid ho1
        go_wp2_with fail
        refine (hsq.out W1 hb1).mono ?_; rintro r W2 ⟨⟨v2, rfl, ho2⟩, hb2⟩
        replace ho2 := Lib.hid ho2
        go_wp2
        go_roundw
        case rel => exact ⟨f, n / 2, _, _, by go_num, hf', by omega, (hB.trans (hb1.mono hB.size)).trans (hb2.mono (Below.then_ hB hb1).size), Lib.hid ⟨okM_prod ox ox hm0, okM_prod oo ox hm0, ho2.out.rdOk (okM_prod ox ox hm0) hm hm, (ho1.out.base hB.size).below hb2, hH.out⟩⟩
        case measure => simp [intOf]; omega
      · have hev : n % 2 = 0 := by omega
        rw [powF_even _ _ hev (by omega)] at hH
        replace hH := Lib.hid hH
        have hb2 : ((n : Int) % 2 == 1) = false := by rw [beq_eq_false_iff_ne]; omega
        have hn0 : (0 : Int) < (n : Int) := by omega
        clear hf
        go_wp2_with fail
        refine (hsq.out wr (Below.refl _ _)).mono ?_; rintro r W2 ⟨⟨v2, rfl, ho2⟩, hb2⟩
        replace ho2 := Lib.hid ho2
        go_wp2
        go_roundw
        case rel => exact ⟨f, n / 2, _, _, by go_num, hf', by omega, hB.trans (hb2.mono hB.size), Lib.hid ⟨okM_prod ox ox hm0, oo, ho2.out.rdOk (okM_prod ox ox hm0) hm hm, ro.out.below hb2, hH.out⟩⟩
        case measure => simp [intOf]; omega
set_option maxHeartbeats 800000 in
theorem refsquare_any (rs : List (List Int)) (v : Value) (w : World) (h : RdM w v rs) :
    Calls Tryd.prog 122 #[v] w fun e w' => e = .returned (.int .i64 (squareM rs)) ∧ Below w.heap.size w w' := by
  have hc := Lib.hid (refCheck_any rs v w h)
  by_cases h0 : checkM rs = 0
  · obtain ⟨hok, h1, h2, h3, h4⟩ := checkM_ok h0
    have hs : squareM rs = if rs.length ≠ len0 rs then 7 else 0 := by rw [squareM, if_neg (by simpa using h0)]
    obtain ⟨A, c, rfl, l1, l2, l3⟩ := h.open_
    obtain ⟨b, off, u, rfl, hcell, hu⟩ := l3 0 (by omega)
    obtain ⟨A1, c1, rfl, f1, f2⟩ := hu.cell_
    change _ = some (Value.slice A1 (len0 rs) c1) at hcell
    rw [Nat.add_zero] at hcell
    have hlt : b < w.heap.size := World.block_lt_of_cell? w _ hcell
    rw [h0] at hc
    generalize rs.length = n at *
    generalize len0 rs = m at *
    clear l3 hu h hok f1 f2 h0
    have n1 : (0 : Int) < (n : Int) := by omega
    by_cases hnm : n = m
    · subst hnm
      have hs' : Hid (squareM rs = 0) := by rw [hs, if_neg (by simp)]; exact rfl
      clear hs
      go_enter Tryd.func122, Tryd.ntmps122
      go_wp2_with fail
      refine hc.out.mono ?_; rintro e W ⟨rfl, hb⟩
      have hcell' := (hb.cell (p := ⟨b, off, none⟩) hlt).trans hcell
      go_wp2
      go_ret
      exact ⟨by rw [hs'.out]; rfl, hb⟩
    · have hs' : Hid (squareM rs = 7) := by rw [hs, if_pos hnm]; exact rfl
      clear hs
      have hne : ((n : Int) != (m : Int)) = true := by rw [bne_iff_ne]; omega
      go_enter Tryd.func122, Tryd.ntmps122
      go_wp2_with fail
      refine hc.out.mono ?_; rintro e W ⟨rfl, hb⟩
      have hcell' := (hb.cell (p := ⟨b, off, none⟩) hlt).trans hcell
      go_wp2
      go_ret
      exact ⟨by rw [hs'.out]; rfl, hb⟩
  · have hs : Hid (squareM rs = checkM rs) := by unfold squareM; rw [if_pos h0]; exact rfl
    have hne : (checkM rs != 0) = true := by rw [bne_iff_ne]; exact h0
    have hca := Lib.hid (checkM_cases rs)
    generalize checkM rs = x at *
    clear h h0
    go_enter Tryd.func122, Tryd.ntmps122
    go_wp2_with fail
    refine hc.out.mono ?_; rintro e W ⟨rfl, hb⟩
    go_wp2
    go_ret
    exact ⟨by rw [hs.out]; rfl, hb⟩

set_option maxHeartbeats 800000 in
theorem refPower_any (a : List (List Int)) (n : Int) (v : Value) (w : World) (h : RdM w v a) (hn : n ≤ 9223372036854775807) :
    Calls Tryd.prog 62 #[v, .int .i64 n] w (MatErr (powR a n) w) := by
  have hc := Lib.hid (refsquare_any a v w h)
  by_cases h0 : squareM a = 0
  · obtain ⟨hok, h1, h2⟩ := squareM_ok h0
    rw [h0] at hc
    by_cases hneg : n < 0
    · have hr : Hid (powR a n = (3, [])) := by unfold powR; rw [if_neg (by simpa using h0), if_pos hneg]; exact rfl
      clear hok h0 h
      go_enter Tryd.func62, Tryd.ntmps62
      go_wp2_with fail
      refine hc.out.mono ?_; rintro e W ⟨rfl, hb⟩
      go_wp2
      go_ret2
      rw [hr.out]
      exact ⟨_, rfl, OwnM_nil _ _, hb⟩
    · obtain ⟨k, rfl⟩ := Int.eq_ofNat_of_zero_le (show 0 ≤ n by omega)
      have hr : Hid (powR a k = (0, powMat a k)) := by unfold powR; rw [if_neg (by simpa using h0), if_neg hneg]; exact rfl
      have hp := Lib.hid (fun W (hW : Below w.heap.size w W) => refpower_any a a.length v k W hok (by omega) (by omega) (by omega) (h.below hW (Nat.le_refl _)))
      clear hok h0 h
      go_enter Tryd.func62, Tryd.ntmps62
      go_wp2_with fail
      refine hc.out.mono ?_; rintro e W ⟨rfl, hb⟩
      go_wp2_with fail
      refine (hp.out W hb).mono ?_; rintro e W2 ⟨⟨v2, rfl, ho⟩, hb2⟩
      replace ho := Lib.hid ho
      go_wp2
      go_ret2
      rw [hr.out]
      exact ⟨_, rfl, ho.out.base hb.size, Below.then_ hb hb2⟩
  · have hr : Hid (powR a n = (squareM a, [])) := by unfold powR; rw [if_pos h0]; exact rfl
    have hne : (squareM a != 0) = true := by rw [bne_iff_ne]; exact h0
    have hca := Lib.hid (squareM_cases a)
    generalize squareM a = x at *
    clear h h0
    go_enter Tryd.func62, Tryd.ntmps62
    go_wp2_with fail
    refine hc.out.mono ?_; rintro e W ⟨rfl, hb⟩
    go_wp2
    go_ret2
    rw [hr.out]
    exact ⟨_, rfl, OwnM_nil _ _, hb⟩
set_option maxRecDepth 100000 in
set_option maxHeartbeats 800000 in
theorem refMul_any (a b : List (List Int)) (va vb : Value) (w : World) (ha : RdM w va a) (hb : RdM w vb b) :
    Calls Tryd.prog 61 #[va, vb] w (MatErr (mulR a b) w) := by
  have hca := Lib.hid (refCheck_any a va w ha)
  have hcb := Lib.hid (fun W (hW : Below w.heap.size w W) => refCheck_any b vb W (hb.below hW (Nat.le_refl _)))
  obtain ⟨A, c, e, l1, l2, l3⟩ := ha.open_
  obtain ⟨A', c', e', m1, m2, -⟩ := hb.open_
  by_cases h0 : checkM a = 0
  · by_cases h1 : checkM b = 0
    · obtain ⟨hok, p1, p2, p3, p4⟩ := checkM_ok h0
      obtain ⟨hokb, q1, q2, q3, q4⟩ := checkM_ok h1
      obtain ⟨b0, off, u, e2, hcell, hu⟩ := l3 0 (by omega)
      obtain ⟨A1, c1, rfl, f1, f2⟩ := hu.cell_
      change _ = some (Value.slice A1 (len0 a) c1) at hcell
      rw [Nat.add_zero] at hcell
      have hlt : b0 < w.heap.size := World.block_lt_of_cell? w _ hcell
      subst e2
      have hpr := Lib.hid (fun (h : len0 a = b.length) W (hW : Below w.heap.size w W) => refProduct_any a b a.length b.length (len0 b) va vb W (h ▸ hok) hokb (by omega) (by omega) (by omega) (by omega) (ha.below hW (Nat.le_refl _)) (hb.below hW (Nat.le_refl _)))
      have hmul : Hid (mulR a b = if len0 a ≠ b.length then (7, []) else (0, prodM a b)) := Lib.hid (by rw [mulR, if_neg (by simpa using h0), if_neg (by simpa using h1)])
      rw [h0] at hca
      rw [h1] at hcb
      subst e e'
      clear l3 hu ha hb hok hokb f1 f2 h0 h1
      generalize a.length = n at *
      generalize b.length = l at *
      generalize len0 a = m at *
      have n1 : (0 : Int) < (n : Int) := by omega
      by_cases hml : m = l
      · have hr : Hid (mulR a b = (0, prodM a b)) := Lib.hid (by rw [hmul.out, if_neg (by simpa using hml)])
        subst hml
        go_enter Tryd.func61, Tryd.ntmps61
        go_wp2_with fail
        refine hca.out.mono ?_; rintro e W1 ⟨rfl, hB1⟩
        go_wp2_with fail
        refine (hcb.out W1 hB1).mono ?_; rintro e W2 ⟨rfl, hB2⟩
        have hB2' := Below.then_ hB1 hB2
        have hcell2 := (hB2'.cell (p := ⟨b0, off, none⟩) hlt).trans hcell
        go_wp2_with fail
        refine (hpr.out (by trivial) W2 hB2').mono ?_; rintro e W3 ⟨⟨v, rfl, hO⟩, hB3⟩
        replace hO := Lib.hid hO
        go_wp2
        go_ret2
        rw [hr.out]
        exact ⟨_, rfl, hO.out.base hB2'.size, Below.then_ hB2' hB3⟩
      · have hr : Hid (mulR a b = (7, [])) := Lib.hid (by rw [hmul.out, if_pos (by simpa using hml)])
        have hne : ((m : Int) != (l : Int)) = true := by rw [bne_iff_ne]; omega
        go_enter Tryd.func61, Tryd.ntmps61
        go_wp2_with fail
        refine hca.out.mono ?_; rintro e W1 ⟨rfl, hB1⟩
        go_wp2_with fail
        refine (hcb.out W1 hB1).mono ?_; rintro e W2 ⟨rfl, hB2⟩
        have hB2' := Below.then_ hB1 hB2
        have hcell2 := (hB2'.cell (p := ⟨b0, off, none⟩) hlt).trans hcell
        go_wp2
        go_ret2
        rw [hr.out]
        exact ⟨_, rfl, OwnM_nil _ _, hB2'⟩
    · have hr : Hid (mulR a b = (checkM b, [])) := Lib.hid (by rw [mulR, if_neg (by simpa using h0), if_pos h1])
      have hne : (checkM b != 0) = true := by rw [bne_iff_ne]; exact h1
      rw [h0] at hca
      subst e e'
      generalize checkM b = x at *
      clear ha hb l3 h0 h1
      go_enter Tryd.func61, Tryd.ntmps61
      go_wp2_with fail
      refine hca.out.mono ?_; rintro e W1 ⟨rfl, hB1⟩
      go_wp2_with fail
      refine (hcb.out W1 hB1).mono ?_; rintro e W2 ⟨rfl, hB2⟩
      go_wp2
      go_ret2
      rw [hr.out]
      exact ⟨_, rfl, OwnM_nil _ _, Below.then_ hB1 hB2⟩
  · have hr : Hid (mulR a b = (checkM a, [])) := Lib.hid (by rw [mulR, if_pos h0])
    have hne : (checkM a != 0) = true := by rw [bne_iff_ne]; exact h0
    subst e e'
    generalize checkM a = x at *
    clear ha hb l3 h0 hcb
    go_enter Tryd.func61, Tryd.ntmps61
    go_wp2_with fail
    refine hca.out.mono ?_; rintro e W1 ⟨rfl, hB1⟩
    go_wp2
    go_ret2
    rw [hr.out]
    exact ⟨_, rfl, OwnM_nil _ _, hB1⟩
end Go.Proofs.YtfljkcmijnhgkaaDoor

namespace Go.Proofs.YtfljkcmijnhgkaaDoor
open Go.RowKit Go.Shelf
set_option linter.unusedSimpArgs false

def greatM (rs : List (List Int)) : Bool := decide (20 < rs.length) || rs.any fun r => decide (20 < r.length)
theorem great_1 (xs : List Int) (u : Value) (w : World) (hu : RdI w u xs) :
    Calls Tryd.prog 90 (#[u] ++ #[]) w fun e w' => e = .returned (.bool (decide (20 < xs.length))) ∧ w = w' := by
  obtain ⟨A, c, rfl, h1, h2⟩ := hu.cell_
  clear hu
  generalize xs.length = n at *
  go_enter Tryd.func90, Tryd.ntmps90
  go_wp2
  go_ret
  refine ⟨?_, rfl⟩
  show Ending.returned (Value.bool _) = _
  congr 2
  rw [Bool.eq_iff_iff]; simp; omega
set_option maxHeartbeats 800000 in
theorem great_any (rs : List (List Int)) (v : Value) (w : World) (h : RdM w v rs) :
    Calls Tryd.prog 17 #[v] w fun e w' => e = .returned (.bool (greatM rs)) ∧ Below w.heap.size w w' := by
  have h' := h
  obtain ⟨A, c, rfl, h1, h2, -⟩ := h'.open_
  obtain ⟨vs, hv, hvl, hvr⟩ := h
  have hc := ContainsFunc_row vs (fun j => decide (20 < (rs.getD j []).length)) _ 90 #[] (enters_of Tryd.func90 (by kernel_rfl) rfl) w hv (fun W j u hB hu =>
    (great_1 _ u W ((row_of hvl hvr hu).below hB (Nat.le_refl _))).mono (fun e w' ⟨he, hw⟩ => ⟨he, hw ▸ hB⟩))
  rw [hvl, any_range (fun r : List Int => decide (20 < r.length))] at hc
  have hG : Hid (greatM rs = (decide (20 < rs.length) || rs.any fun r => decide (20 < r.length))) := Lib.hid rfl
  replace hc := Lib.hid hc
  clear h' hv hvl hvr
  generalize (rs.any fun r => decide (20 < r.length)) = d at *
  generalize rs.length = n at *
  by_cases h : 20 < n
  · have hr : Hid (greatM rs = true) := Lib.hid (by rw [hG.out]; simp [h])
    have q : (20 : Int) < (n : Int) := by omega
    go_enter Tryd.func17, Tryd.ntmps17
    go_wp2
    go_ret
    exact ⟨by rw [hr.out]; rfl, Below.refl _ _⟩
  · have hr : Hid (greatM rs = d) := Lib.hid (by rw [hG.out]; simp [h])
    have q : ¬ (20 : Int) < (n : Int) := by omega
    go_enter Tryd.func17, Tryd.ntmps17
    go_wp2_with fail
    refine hc.out.mono ?_; rintro e W ⟨rfl, hb⟩
    go_wp2
    go_ret
    exact ⟨by rw [hr.out]; rfl, hb⟩
/-- Row k is cleared. -/
theorem FreshV.wrote {lo hi n c b off : Nat} {w : World} {ls : Nat → Nat} (h : FreshV lo hi w (.slice (some ⟨b, off, none⟩) n c) n ls) {g : Nat} (hg : g ≠ b) (o : Nat) (vs : List Value) : FreshV lo hi (w.setCells g o vs) (.slice (some ⟨b, off, none⟩) n c) n ls := by
  obtain ⟨A, c', e, h1, h2, h3⟩ := h
  refine ⟨A, c', e, h1, h2, fun hp => ?_⟩
  obtain ⟨b', off', rfl, h4⟩ := h3 hp
  simp only [Value.slice.injEq, Option.some.injEq, Addr.mk.injEq, and_true, true_and] at e
  obtain ⟨⟨rfl, rfl⟩, rfl⟩ := e
  refine ⟨_, _, rfl, fun k hk => ?_⟩
  obtain ⟨u, hu, hr⟩ := h4 k hk
  exact ⟨u, (World.cell?_setCells_out _ _ _ _ _ (fun e _ => absurd e.symm hg)).trans hu, hr.wrote g o vs⟩
set_option maxRecDepth 100000 in
set_option maxHeartbeats 800000 in
theorem told_any (rs ws : List (List Int)) (v u : Value) (e e' : Int) (lo hi : Nat) (ls : Nat → Nat) (w : World) (hr : RdM w v rs) (hu : RdM w u ws) (hf : FreshV lo hi w v rs.length ls) (hp : ∀ k, k < rs.length → 0 < ls k) :
    Calls Tryd.prog 55 #[v, u, .int .i64 e, .int .i64 e'] w fun r w' => r = .returned (.bool (decide (e = e') && decide (rs = ws))) ∧ Btw lo hi w w' := by
  have hq := Lib.hid (EqRows_any rs ws v u w hr hu)
  have hcl := fun (W : World) (b o n c : Nat) hn hc hf ty => Lib.run_clear_slice (P := Tryd.prog) W 23 3 ty (.int .i64 0) Tryd.underlying23 (fun _ => by kernel_rfl) rfl rfl b o n c hn hc hf
  replace hp := Lib.hid hp
  replace hcl := Lib.hid hcl
  have hf' := hf
  obtain ⟨A, c, rfl, f1, f2, -⟩ := hf'
  clear hr hu
  generalize decide (rs = ws) = d at *
  generalize rs.length = n at *
  have fin : ∀ (x : Bool) (W : World), Btw lo hi w W → FreshV lo hi W (.slice A n c) n ls → True := fun _ _ _ _ => trivial
  clear fin
  by_cases he : e = e'
  · subst he
    go_enter Tryd.func55, Tryd.ntmps55
    go_wp2_with fail
    refine hq.out.mono ?_; rintro r W ⟨rfl, hB⟩
    replace hf := Lib.hid (hf.kept hB)
    replace hB := Lib.hid (Btw.of_below (lo := lo) (hi := hi) hB)
    go_wp2
    go_loopw [11, 22] (fun _ i wr => ∃ k : Nat, k ≤ n ∧ i = .int .i64 k ∧ Hid (Btw lo hi w wr) ∧ Hid (FreshV lo hi wr (.slice A n c) n ls)) (fun _ i _ => n - (intOf i).toNat)
    case atStart => exact ⟨0, Nat.zero_le _, rfl, hB, hf⟩
    case round =>
      obtain ⟨k, hk, rfl, hB, hM⟩ := hrel
      by_cases hlt : k < n
      · obtain ⟨A', c', ev, _, _, h3⟩ := hM.out
        simp only [Value.slice.injEq, true_and] at ev
        obtain ⟨rfl, rfl⟩ := ev
        obtain ⟨b, off, rfl, h4⟩ := h3 (by omega)
        obtain ⟨u1, hu1, A2, c2, rfl, l1, h5⟩ := h4 k hlt
        have hp1 := hp.out k hlt
        obtain ⟨g, o, rfl, g1, g2, g3, g4⟩ := h5 hp1
        have hrun := fun ty => hcl.out wr g o (ls k) c2 hp1 (fun j hj => (g4 j hj).1) (fun j hj => (g4 j hj).2) ty
        have hM2 := Lib.hid (hM.out.wrote g3 o (List.replicate (ls k) (.int .i64 0)))
        have hB2 := Lib.hid (hB.out.trans (Btw.setCells g1 g2 (List.replicate (ls k) (.int .i64 0)) o wr))
        clear h3 h4 h5 g4
        have k1 : (k : Int) < (n : Int) := by omega
        have k0 : (0 : Int) ≤ (k : Int) := by omega
        go_wp2
        go_roundw
        case rel => exact ⟨k + 1, by omega, by go_num, hB2, hM2⟩
        case measure => simp [intOf]; omega
      · obtain rfl : n = k := by omega
        go_wp2
        go_ret
        exact ⟨by simp, hB.out⟩
  · have hne : (e == e') = false := by rw [beq_eq_false_iff_ne]; exact he
    have hd : Hid ((decide (e = e') && d) = false) := Lib.hid (by rw [decide_eq_false he]; rfl)
    replace he := Lib.hid he
    replace hf := Lib.hid hf
    have hB := Lib.hid (Btw.refl lo hi w)
    go_enter Tryd.func55, Tryd.ntmps55
    go_wp2
    obtain ⟨W, rfl⟩ : ∃ W : World, W = w := ⟨_, rfl⟩
    go_loopw [11, 22] (fun _ i wr => ∃ k : Nat, k ≤ n ∧ i = .int .i64 k ∧ Hid (Btw lo hi W wr) ∧ Hid (FreshV lo hi wr (.slice A n c) n ls)) (fun _ i _ => n - (intOf i).toNat)
    case atStart => exact ⟨0, Nat.zero_le _, rfl, hB, hf⟩
    case round =>
      obtain ⟨k, hk, rfl, hB, hM⟩ := hrel
      by_cases hlt : k < n
      · obtain ⟨A', c', ev, _, _, h3⟩ := hM.out
        simp only [Value.slice.injEq, true_and] at ev
        obtain ⟨rfl, rfl⟩ := ev
        obtain ⟨b, off, rfl, h4⟩ := h3 (by omega)
        obtain ⟨u1, hu1, A2, c2, rfl, l1, h5⟩ := h4 k hlt
        have hp1 := hp.out k hlt
        obtain ⟨g, o, rfl, g1, g2, g3, g4⟩ := h5 hp1
        have hrun := fun ty => hcl.out wr g o (ls k) c2 hp1 (fun j hj => (g4 j hj).1) (fun j hj => (g4 j hj).2) ty
        have hM2 := Lib.hid (hM.out.wrote g3 o (List.replicate (ls k) (.int .i64 0)))
        have hB2 := Lib.hid (hB.out.trans (Btw.setCells g1 g2 (List.replicate (ls k) (.int .i64 0)) o wr))
        clear h3 h4 h5 g4
        have k1 : (k : Int) < (n : Int) := by omega
        have k0 : (0 : Int) ≤ (k : Int) := by omega
        go_wp2
        go_roundw
        case rel => exact ⟨k + 1, by omega, by go_num, hB2, hM2⟩
        case measure => simp [intOf]; omega
      · obtain rfl : n = k := by omega
        go_wp2
        go_ret
        exact ⟨by rw [hd.out]; rfl, hB.out⟩
end Go.Proofs.YtfljkcmijnhgkaaDoor
