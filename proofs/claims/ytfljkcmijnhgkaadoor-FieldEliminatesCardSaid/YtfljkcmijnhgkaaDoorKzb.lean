/- The reference's Char: its contract. -/
import Derived.Test.YtfljkcmijnhgkaaDoorKza
import Derived.Test.YtfljkcmijnhgkaaDoorKw
namespace Go.Proofs.YtfljkcmijnhgkaaDoor
open Go.RowKit Go.Shelf
set_option linter.unusedSimpArgs false

/-- The matrix x - A, its rows laid up to i, and of that one its numbers up to k. -/
def lsE (rs : List (List Int)) (x i k : Nat) (a b : Nat) : Int := if a < i then lessE rs x a b else if a = i ∧ b < k then (65521 - gM rs a b) % 65521 else 0
theorem lsE_zero (rs : List (List Int)) (x n : Nat) : mat (lsE rs x 0 0) n n = mat (fun _ _ => 0) n n := mat_congr fun a b _ _ => by rw [lsE, if_neg (by omega), if_neg (by omega)]
theorem lsE_end (rs : List (List Int)) (x n : Nat) : mat (lsE rs x n 0) n n = lessM rs n x := mat_congr fun a b ha _ => by rw [lsE, if_pos ha]
theorem lsE_put (rs : List (List Int)) (x i k : Nat) (a b : Nat) : (if a = i ∧ b = k then (65521 - gM rs i k) % 65521 else lsE rs x i k a b) = lsE rs x i (k + 1) a b := by
  unfold lsE
  by_cases h : a = i ∧ b = k
  · obtain ⟨rfl, rfl⟩ := h
    rw [if_pos ⟨rfl, rfl⟩, if_neg (by omega), if_pos (by omega)]
  · rw [if_neg h]
    by_cases h2 : a < i
    · rw [if_pos h2, if_pos h2]
    · rw [if_neg h2, if_neg h2]
      by_cases h3 : a = i ∧ b < k
      · rw [if_pos h3, if_pos (by omega)]
      · rw [if_neg h3, if_neg (by omega)]
theorem lsE_diag (rs : List (List Int)) (x i n : Nat) (a b : Nat) (hb : b < n) : (if a = i ∧ b = i then ((65521 - gM rs i i) % 65521 + x) % 65521 else lsE rs x i n a b) = lsE rs x (i + 1) 0 a b := by
  by_cases h : a = i ∧ b = i
  · obtain ⟨rfl, rfl⟩ := h
    rw [if_pos ⟨rfl, rfl⟩, lsE, if_pos (by omega), lessE, if_pos rfl]
  · rw [if_neg h, lsE, lsE]
    by_cases h2 : a < i
    · rw [if_pos h2, if_pos (by omega)]
    · rw [if_neg h2]
      by_cases h3 : a = i
      · rw [if_pos ⟨h3, hb⟩, if_pos (by omega), lessE, if_neg (by omega)]
      · rw [if_neg (by omega), if_neg (by omega), if_neg (by omega)]
theorem charB_snoc (rs : List (List Int)) {n k : Nat} (h : k < n) : (charB rs n).take k ++ [charE rs n k] = (charB rs n).take (k + 1) := by
  have hl : k < (charB rs n).length := by rw [charB_len]; exact h
  rw [List.take_succ_eq_append_getElem hl]
  simp [charB]
set_option maxRecDepth 100000 in
set_option maxHeartbeats 12800000 in
theorem refChar_any (rs : List (List Int)) (v : Value) (w : World) (h : RdM w v rs) :
    Calls Tryd.prog 52 #[v] w (RowErr (refCharR rs) w) := by
  have hR := Lib.hid h
  have hch := Lib.hid (refsquare_any rs v w h)
  by_cases h0 : squareM rs = 0
  · obtain ⟨hok, p1, p2⟩ := squareM_ok h0
    have hr : Hid (refCharR rs = (0, refCharL rs)) := Lib.hid (by rw [refCharR, if_neg (by simpa using h0)])
    obtain ⟨iI, hiI, hI0, hI1, hI2⟩ := info_parts infoI
    obtain ⟨iR, hiR, hR0, hR1, hR2⟩ := info_parts infoR
    obtain ⟨A, cA, rfl, -, -, hrows⟩ := h.open_
    have hL : Hid (refCharL rs = (solvedM (vdR rs.length) (charB rs rs.length) rs.length).getD []) := Lib.hid rfl
    have hsol := Lib.hid (fun rv bv W hrv hbv => Solution_any (vdR rs.length) (charB rs rs.length) rs.length rs.length rv bv W hrv hbv (okM_vdR _) (charB_len _ _) (charB_bd _ _) (by omega) (by omega))
    have hvl := Lib.hid (show (vdR rs.length).length = rs.length from mat_len _ _ _)
    have hvr := Lib.hid (fun r (hr : r ∈ vdR rs.length) => ((okM_vdR rs.length).2 r hr).1)
    have hbl := Lib.hid (charB_len rs rs.length)
    have hvt := Lib.hid (fun k (hk : k < rs.length) => show (vdR rs.length).take k ++ [(List.range rs.length).map fun i => (k : Int) ^ (rs.length - 1 - i) % 65521] = (vdR rs.length).take (k + 1) from mat_take _ hk)
    have hbt := Lib.hid (fun k (hk : k < rs.length) => charB_snoc rs hk)
    have hnum := Lib.hid hok.num
    have hrlen := Lib.hid (fun i (hi : i < rs.length) => hok.row hi)
    have hzr := Lib.hid (fun W => zeros_any rs.length rs.length W (by omega) (by omega))
    have hmk := run_make_row' (P := Tryd.prog) 23 3 _ _ Tryd.underlying23 infoI rfl .i64 .i64 rs.length (by omega) (by omega)
    have hdt := Lib.hid (fun x u W hu => (rdet_det (okM_lessM rs rs.length x)) ▸ refdet_any (lessM rs rs.length x) rs.length u W hu (okM_lessM _ _ _) (by omega))
    have hdb := Lib.hid (fun x => detM_bd _ (okM_lessM rs rs.length x))
    have hcE : Hid (∀ x : Nat, charE rs rs.length x = ((x : Int) ^ rs.length % 65521 - detM (lessM rs rs.length x)) % 65521) := Lib.hid (fun x => rfl)
    rw [h0] at hch
    have hlsn : Hid (∀ x, mat (lsE rs x rs.length 0) rs.length rs.length = lessM rs rs.length x) := Lib.hid (fun x => lsE_end rs x _)
    have hlen : Hid (∀ x, (lessM rs rs.length x).length = rs.length ∧ ∀ r ∈ lessM rs rs.length x, r.length = rs.length) := Lib.hid (fun x => ⟨(okM_lessM rs _ x).1, fun r hr => ((okM_lessM rs _ x).2 r hr).1⟩)
    replace hrows := Lib.hid hrows
    clear h0 hok hR h
    generalize refCharR rs = RES at *
    generalize refCharL rs = RL at *
    generalize hn : rs.length = n at *
    replace hn := Lib.hid hn
    generalize vdR n = RS at *
    generalize charB rs n = BS at *
    go_enter Tryd.func52, Tryd.ntmps52
    go_wp2_with fail
    refine hch.out.mono ?_; rintro e W0 ⟨rfl, hB0⟩
    replace hB0 := Lib.hid hB0
    clear hch
    go_wp2
    go_loopw [6, 7, 8, 9, 10, 11, 12, 13] (fun rv bv ii _ _ _ _ _ wr => ∃ x : Nat, x ≤ n ∧ ii = .int .i64 x ∧ Hid (Below w.heap.size w wr) ∧ Hid (∃ vs, FitSt w.heap.size wr rv bv (RS.take x) (BS.take x) vs)) (fun _ _ ii _ _ _ _ _ _ => n - (intOf ii).toNat)
    case atStart => exact ⟨0, Nat.zero_le _, rfl, hB0, Lib.hid ⟨[], by rw [List.take_zero, List.take_zero]; exact ⟨OwnMv_nil _ _, OwnI_nil _ _, fun u hu => by cases hu⟩⟩⟩
    case round =>
      obtain ⟨x, hx, rfl, hB, hM⟩ := hrel
      rename Value => bv
      rename_i rv
      by_cases hxn : x < n
      · have hkl : (RS.take x).length = x := by rw [List.length_take, hvl.out]; omega
        have hblx : (BS.take x).length = x := by rw [List.length_take, hbl.out]; omega
        have hvt1 := Lib.hid (hvt.out x hxn)
        have hbt1 := Lib.hid (hbt.out x hxn)
        obtain ⟨vs, hSt⟩ := hM.out
        obtain ⟨A1, c1, rfl⟩ := own_shape hSt.m.outer
        obtain ⟨B1, d1, rfl⟩ := own_shape hSt.b
        rw [hkl, hblx] at hSt ⊢
        have hrvl : Hid (∀ q, (Value.slice A1 x c1).ownBlock = some q → w.heap.size ≤ q ∧ q < wr.heap.size) := Lib.hid (fun q hq => by
          have := hSt.m.outer; rw [hkl] at this; exact this.lt q hq)
        have hbvl : Hid (∀ q, (Value.slice B1 x d1).ownBlock = some q → w.heap.size ≤ q ∧ q < wr.heap.size) := Lib.hid (fun q hq => by
          have := hSt.b; unfold OwnI at this; rw [hblx] at this; exact this.lt q hq)
        have hvsl : Hid (∀ u ∈ vs, ∀ q, u.ownBlock = some q → q < wr.heap.size) := Lib.hid (fun u hu q hq => (hSt.m.ge u hu q hq).2)
        replace hSt := Lib.hid hSt
        replace hkl := Lib.hid hkl
        replace hblx := Lib.hid hblx
        have hBs := hB.out.size
        have x1 : (x : Int) < (n : Int) := by omega
        have x0 : (0 : Int) ≤ (x : Int) := by omega
        clear hM
        go_wp2_with fail
        refine (hzr.out wr).mono ?_; rintro e W1 ⟨⟨lv, rfl, hO⟩, hb1⟩
        obtain ⟨vs2, hOv⟩ := hO.v
        obtain ⟨A2, c2, rfl⟩ := own_shape hOv.outer
        rw [mat_len] at hOv ⊢
        have hvl2 : Hid (vs2.length = n) := Lib.hid (by rw [hOv.len, mat_len])
        have hlo : Hid (∀ u ∈ vs2, ∀ k, u.ownBlock = some k → wr.heap.size ≤ k ∧ k < W1.heap.size) := Lib.hid hOv.ge
        have hlz : Hid (OwnMv W1 wr.heap.size (.slice A2 n c2) (mat (lsE rs x 0 0) n n) vs2) := Lib.hid (by rw [lsE_zero]; exact hOv)
        have hb1' := Lib.hid hb1
        have hz1 := hb1.size
        clear hO hOv hb1
        go_wp2
        go_loopw [10, 11] (fun ii _ wr2 => ∃ i : Nat, i ≤ n ∧ ii = .int .i64 i ∧ Hid (KeptBut vs2 W1 wr2) ∧ Hid (OwnMv wr2 wr.heap.size (.slice A2 n c2) (mat (lsE rs x i 0) n n) vs2)) (fun ii _ _ => n - (intOf ii).toNat)
        case atStart => exact ⟨0, Nat.zero_le _, rfl, Lib.hid (KeptBut.refl _ _), hlz⟩
        case round =>
          obtain ⟨i, hi, rfl, hK, hM⟩ := hrel
          rename World => wr2
          by_cases hin : i < n
          · have i1 : (i : Int) < (n : Int) := by omega
            have i0 : (0 : Int) ≤ (i : Int) := by omega
            obtain ⟨wo, rfl⟩ : ∃ wo : World, wo = wr2 := ⟨_, rfl⟩
            go_wp2
            go_loopw [11] (fun ii wr2 => ∃ k : Nat, k ≤ n ∧ ii = .int .i64 k ∧ Hid (KeptBut vs2 W1 wr2) ∧ Hid (OwnMv wr2 wr.heap.size (.slice A2 n c2) (mat (lsE rs x i k) n n) vs2)) (fun ii _ => n - (intOf ii).toNat)
            case atStart => exact ⟨0, Nat.zero_le _, rfl, hK, hM⟩
            case round =>
              obtain ⟨k, hk, rfl, hK, hM⟩ := hrel
              rename World => wr3
              have hr := mat_get? (lsE rs x i k) (n := n) (m := n) hin
              have hiv : i < vs2.length := by have := hvl2.out; omega
              have hu : vs2[i]? = some vs2[i] := List.getElem?_eq_getElem hiv
              obtain ⟨g, c', e, _, _, hcg, _⟩ := hM.out.at_ hr hu
              rw [mat_len] at e
              simp only [Value.slice.injEq, true_and] at e
              obtain ⟨rfl, rfl⟩ := e
              have hlr : ((List.range n).map (lsE rs x i k i)).length = n := by simp
              by_cases hkn : k < n
              · have k1 : (k : Int) < (n : Int) := by omega
                have k0 : (0 : Int) ≤ (k : Int) := by omega
                have hBw := hB.out.trans ((hb1'.out.trans (hK.out.below (B := wr.heap.size) hz1 (fun u hu k hk => (hlo.out u hu k hk).1))).mono hBs)
                obtain ⟨ba, offa, ua, rfl, hca, hua⟩ := hrows.out i hin
                obtain ⟨Aa, ca, rfl, -, -, e3⟩ := hua.open_
                rw [hrlen.out i hin] at e3 hca
                obtain ⟨ba2, offa2, rfl, hca2⟩ := e3 k hkn
                change _ = some (Value.int .i64 (gM rs i k)) at hca2
                replace hca := (hBw.cell (World.block_lt_of_cell? w _ hca)).trans hca
                replace hca2 := (hBw.cell (World.block_lt_of_cell? w _ hca2)).trans hca2
                obtain ⟨g1, c1', e1, _, _, hc1, hf1⟩ := hM.out.num hr hu (k := k) (by rw [hlr]; exact hkn)
                rw [hlr] at e1
                rw [e1] at hcg hu
                have hput := (hM.out.kept ((Below.refl wr3.heap.size wr3).drew)).put hr hu (k := k) ((65521 - gM rs i k) % 65521)
                rw [mat_put (lsE rs x i k) (lsE rs x i (k + 1)) _ (fun a b _ _ => lsE_put rs x i k a b)] at hput
                have hput2 := Lib.hid hput.1
                have hK2 := Lib.hid (hK.out.drew.trans hput.2)
                have hgb := hnum.out i k
                clear hput hr hu hM e1 hlr e3 hua hBw hiv
                generalize ((List.range n).map (lsE rs x i k i)).getD k 0 = y0 at *
                generalize gM rs i k = y at *
                have w6 : (65521 - y).tmod 65521 = (65521 - y) % 65521 := Int.tmod_eq_emod_of_nonneg (by omega)
                have w7 : (65521 - y) % 65521 = -y % 65521 := by omega
                rw [w7] at hput2 hK2
                replace w7 := Lib.hid w7
                go_wp2
                go_still_tail 15, (by kernel_rfl)
                change wpList _ _ _ _ _ wr3.drew
                replace hc1 : wr3.drew.cell? _ = _ := hc1
                replace hf1 : wr3.drew.frozen? _ = _ := hf1
                clear hcg hca hca2 hK
                generalize wr3.drew = wd at hc1 hf1 hput2 hK2 ⊢
                go_wp2
                go_roundw
                case rel => exact ⟨k + 1, by omega, by go_num, hK2, hput2⟩
                case measure => simp [intOf] <;> omega
              · obtain rfl : n = k := by omega
                obtain ⟨g1, c1', e1, _, _, hc1, hf1⟩ := hM.out.num hr hu (k := i) (by rw [hlr]; exact hin)
                rw [hlr] at e1
                rw [e1] at hcg hu
                have hget : ((List.range n).map (lsE rs x i n i)).getD i 0 = (65521 - gM rs i i) % 65521 := by
                  rw [List.getD_eq_getElem?_getD, List.getElem?_map, List.getElem?_range hin]
                  show lsE rs x i n i i = _
                  rw [lsE, if_neg (by omega), if_pos ⟨rfl, hin⟩]
                rw [hget] at hc1
                have hput := (hM.out.kept ((Below.refl wr3.heap.size wr3).drew)).put hr hu (k := i) (((65521 - gM rs i i) % 65521 + x) % 65521)
                rw [mat_put (lsE rs x i n) (lsE rs x (i + 1) 0) _ (fun a b _ hb => lsE_diag rs x i n a b hb)] at hput
                have hput2 := Lib.hid hput.1
                have hK2 := Lib.hid (hK.out.drew.trans hput.2)
                have hyb : 0 ≤ (65521 - gM rs i i) % 65521 ∧ (65521 - gM rs i i) % 65521 < 65521 := ⟨Int.emod_nonneg _ (by decide), Int.emod_lt_of_pos _ (by decide)⟩
                clear hput hr hu hM e1 hlr hget hiv
                generalize (65521 - gM rs i i) % 65521 = y at *
                have w6 : (y + (x : Int)).tmod 65521 = (y + (x : Int)) % 65521 := Int.tmod_eq_emod_of_nonneg (by omega)
                go_wp2
                go_still_tail 16, (by kernel_rfl)
                change wpList _ _ _ _ _ wr3.drew
                replace hc1 : wr3.drew.cell? _ = _ := hc1
                replace hf1 : wr3.drew.frozen? _ = _ := hf1
                clear hcg hK
                generalize wr3.drew = wd at hc1 hf1 hput2 hK2 ⊢
                go_wp2
                go_roundw
                case rel => exact ⟨i + 1, by omega, by go_num, hK2, hput2⟩
                case measure => simp [intOf] <;> omega
          · obtain rfl : n = i := by omega
            -- the matrix is laid; now the row
            have hMl := Lib.hid (show OwnMv wr2 wr.heap.size (.slice A2 n c2) (lessM rs n x) vs2 from by rw [← hlsn.out x]; exact hM.out)
            have hbW := Lib.hid (hb1'.out.trans (hK.out.below (B := wr.heap.size) hz1 (fun u hu k hk => (hlo.out u hu k hk).1)))
            have hlo2 : Hid (∀ u ∈ vs2, ∀ k, u.ownBlock = some k → wr.heap.size ≤ k) := Lib.hid (fun u hu k hk => (hlo.out u hu k hk).1)
            have hlvb : Hid (∀ k, (Value.slice A2 n c2).ownBlock = some k → wr.heap.size ≤ k) := Lib.hid (fun k hk => by
              have := hMl.out.outer; exact (this.lt k hk).1)
            have hz2 := hbW.out.size
            clear hM hK hlo hb1' hz1 hlz
            have h0 := Lib.hid (OwnI_made wr2 wr2.heap.size n (Nat.le_refl _) (by unfold maxLen; omega))
            have hBm : Hid (Below wr2.heap.size wr2 (wr2.alloc (.cells (madeCells #[.int .i64 0] n) 3))) := Lib.hid ((Below.refl _ _).alloc (Nat.le_refl _) _)
            go_wp2
            generalize wr2.alloc (.cells (madeCells #[.int .i64 0] n) 3) = w1 at h0 hBm ⊢
            go_loopw [13] (fun jj wr4 => ∃ j : Nat, j ≤ n ∧ jj = .int .i64 j ∧ Hid (Below wr2.heap.size wr2 wr4) ∧ Hid (OwnI wr4 wr2.heap.size (.slice (some ⟨wr2.heap.size, 0, none⟩) n n) (rowP (fun i => (x : Int) ^ (n - 1 - i) % 65521) n j))) (fun jj _ => n - (intOf jj).toNat)
            case atStart => exact ⟨0, Nat.zero_le _, rfl, hBm, Lib.hid (by rw [rowP_zero]; exact h0.out)⟩
            case round =>
              obtain ⟨j, hj, rfl, hBj, hX⟩ := hrel
              rename World => wr4
              by_cases hjn : j < n
              · obtain ⟨hxc, hxf⟩ := hX.out.num (k := j) (by rw [rowP_len]; exact hjn)
                have hput := hX.out.put j ((x : Int) ^ (n - 1 - j) % 65521)
                rw [rowP_set (fun i => (x : Int) ^ (n - 1 - i) % 65521) hjn] at hput
                have hBj2 : Hid (Below wr2.heap.size wr2 (wr4.setCell ⟨wr2.heap.size, j, none⟩ (.int .i64 ((x : Int) ^ (n - 1 - j) % 65521)))) := Lib.hid (hBj.out.setCell (Nat.le_refl _) _)
                have hpw := Lib.hid (fun W => refPow_any (x : Int) ((n - 1 - j : Nat) : Int) W (by omega) (by omega) (by omega) (by omega))
                rw [Int.toNat_natCast] at hpw
                have e1 : ((n : Int) - 1 - (j : Int)) = ((n - 1 - j : Nat) : Int) := by omega
                replace hput := Lib.hid hput
                clear hX hBj
                generalize (x : Int) ^ (n - 1 - j) % 65521 = y at *
                generalize (rowP (fun i => (x : Int) ^ (n - 1 - i) % 65521) n j).getD j 0 = z at hxc
                have q1 : (j : Int) < (n : Int) := by omega
                have q0 : (0 : Int) ≤ (j : Int) := by omega
                have w9 : IntKind.i64.wrap ((n - 1 - j : Nat) : Int) = ((n - 1 - j : Nat) : Int) := IntWalk.i64_in _ ⟨by omega, by omega⟩
                generalize n - 1 - j = p at *
                go_wp2_with fail
                refine (hpw.out _).mono ?_; rintro e W' ⟨rfl, rfl⟩
                go_wp2
                go_roundw
                case rel => exact ⟨j + 1, by omega, by go_num, hBj2, hput⟩
                case measure => simp [intOf] <;> omega
              · obtain rfl : n = j := by omega
                rw [rowP_end] at hX
                obtain ⟨row, hrow⟩ : ∃ row, row = (List.range n).map fun i => (x : Int) ^ (n - 1 - i) % 65521 := ⟨_, rfl⟩
                rw [← hrow] at hX hvt1
                replace hrow := Lib.hid hrow
                have hrl : Hid (row.length = n) := Lib.hid (by rw [hrow.out]; simp)
                have hb4 := hbW.out.trans (hBj.out.mono hz2)
                have hal : Below wr4.heap.size wr4 (wr4.alloc (.cells #[.slice (some ⟨wr2.heap.size, 0, none⟩) n n] 23)) := (Below.refl _ _).alloc (Nat.le_refl _) _
                have hbA : Below wr.heap.size wr (wr4.alloc (.cells #[.slice (some ⟨wr2.heap.size, 0, none⟩) n n] 23)) := Below.then_ hb4 hal
                have stA := Lib.hid (hSt.out.kept hbA)
                have mlA := Lib.hid ((hMl.out.kept hBj.out).kept hal)
                have xA := Lib.hid (hX.out.below hal)
                have tA := Lib.hid (hB.out.trans (hbA.mono hBs))
                have zA := hbA.size
                have hpw := Lib.hid (fun W => refPow_any (x : Int) (n : Int) W (by omega) (by omega) (by omega) (by omega))
                rw [Int.toNat_natCast] at hpw
                have ownA : Hid ((wr4.alloc (.cells #[.slice (some ⟨wr2.heap.size, 0, none⟩) n n] 23)).ownsRow w.heap.size 23 1 (.slice A1 x c1) x vs) := Lib.hid (by have := stA.out.m.outer; rwa [hkl.out] at this)
                clear hX hBj hb4 hal hbA hSt hMl hbW hB
                go_wp2_with (at_builtin; (refine wpList_append_lies _ rfl _ _ 22 rfl w.heap.size 23 iR _ 1 24 Tryd.underlying22 hiR hR0 hR1 hR2 rfl (by omega) (.slice A1 x c1) x vs rfl ownA.out ⟨wr4.heap.size, 0, none⟩ 1 1 [.slice (some ⟨wr2.heap.size, 0, none⟩) n n] rfl rfl (cell_one_new wr4 _ _) (by simp [Value.oneCell']) (by omega) (by unfold maxLen; omega) (by omega) (tA.out.size) _ rfl ?_); intro g3 cap3 W5 hown3 hgrow3 hat3 hlt3)
                have st5 := Lib.hid (stA.out.row xA.out (by omega) (fun q hq => by
                  have e : wr2.heap.size = q := (by simpa [Value.ownBlock] using hq)
                  exact ⟨fun u hu hc => by have := hvsl.out u hu q hc; omega, fun hc => by have := (hbvl.out q hc).2; omega⟩) (by rw [hkl.out]) hown3 hgrow3)
                have t5 := Lib.hid (tA.out.grown hgrow3 tA.out.size (fun q hq => (hrvl.out q hq).1))
                have ml5 := Lib.hid (mlA.out.grownBy hgrow3 (by
                  rcases hq : (Value.slice A2 n c2).ownBlock with _ | q
                  · exact .inl rfl
                  · exact .inr (fun e => by have := hlvb.out q hq; have := (hrvl.out q e.symm).2; omega)) (fun u hu => by
                  rcases hq : u.ownBlock with _ | q
                  · exact .inl rfl
                  · exact .inr (fun e => by have := hlo2.out u hu q hq; have := (hrvl.out q e.symm).2; omega)))
                have z5 : wr.heap.size ≤ W5.heap.size := Nat.le_trans zA hgrow3.size
                clear hown3 hgrow3 hat3 hlt3 stA mlA xA tA ownA zA
                refine (hpw.out _).mono ?_; rintro e W' ⟨rfl, rfl⟩
                have hdx := Lib.hid (hdt.out x (.slice A2 n c2) W5 (ml5.out.m.rd (by rw [(hlen.out x).1]; omega) (fun r hr => by have := (hlen.out x).2 r hr; omega)))
                go_wp2_with fail
                refine hdx.out.mono ?_; rintro e W6 ⟨rfl, hb6⟩
                have st6 := Lib.hid (st5.out.kept hb6)
                have t6 := Lib.hid (Below.then_ t5.out hb6)
                have hdd := hdb.out x
                have hce := hcE.out x
                clear st5 t5 ml5 hdx hb6 hpw
                generalize hyy : (x : Int) ^ n % 65521 = y at *
                have hyb : 0 ≤ y ∧ y < 65521 := by rw [← hyy]; exact ⟨Int.emod_nonneg _ (by decide), Int.emod_lt_of_pos _ (by decide)⟩
                generalize detM (lessM rs n x) = dd at *
                have hnm := Lib.hid (fun W => refNorm_any (y - dd) W (by omega) (by omega))
                rw [← hce] at hnm
                replace hce := Lib.hid hce
                replace hyy := Lib.hid hyy
                generalize charE rs n x = z at *
                have w1 : IntKind.i64.wrap (y - dd) = y - dd := IntWalk.i64_in _ ⟨by omega, by omega⟩
                go_wp2_with fail
                refine (hnm.out _).mono ?_; rintro e W' ⟨rfl, rfl⟩
                have hal2 : Below W6.heap.size W6 (W6.alloc (.cells #[.int .i64 z] 3)) := (Below.refl _ _).alloc (Nat.le_refl _) _
                have st7 := Lib.hid (st6.out.kept hal2)
                have t7 := Lib.hid (Below.then_ t6.out hal2)
                have own7 : Hid ((W6.alloc (.cells #[.int .i64 z] 3)).ownsRow w.heap.size 3 1 (.slice B1 x d1) x (ints (BS.take x))) := Lib.hid (by have := st7.out.b; unfold OwnI at this; rwa [hblx.out] at this)
                clear st6 t6 hal2 hnm
                go_wp2_with (at_builtin; (refine wpList_append_lies _ rfl _ _ 23 rfl w.heap.size 3 iI _ 1 8 Tryd.underlying23 hiI hI0 hI1 hI2 rfl (by omega) (.slice B1 x d1) x (ints (BS.take x)) rfl own7.out ⟨W6.heap.size, 0, none⟩ 1 1 [.int .i64 z] rfl rfl (cell_one_new W6 _ _) (by simp [Value.oneCell']) (by omega) (by unfold maxLen; omega) (by omega) (t7.out.size) _ rfl ?_); intro g4 cap4 W8 hown4 hgrow4 hat4 hlt4)
                have st8 := Lib.hid (st7.out.num (by rw [hblx.out]) hown4 hgrow4 hat4 rfl)
                have t8 := Lib.hid (t7.out.grown hgrow4 t7.out.size (fun q hq => (hbvl.out q hq).1))
                rw [hvt1.out, hbt1.out] at st8
                clear hown4 hgrow4 hat4 hlt4 st7 t7 own7
                go_roundw
                case rel => exact ⟨x + 1, by omega, by go_num, t8, Lib.hid ⟨_, st8.out⟩⟩
                case measure => simp [intOf] <;> omega
      · obtain rfl : n = x := by omega
        obtain ⟨vs, hSt⟩ := hM.out
        rw [List.take_of_length_le (by rw [hvl.out]; exact Nat.le_refl _), List.take_of_length_le (by rw [hbl.out]; exact Nat.le_refl _)] at hSt
        have hs := Lib.hid (hsol.out _ _ wr (hSt.m.m.rd (by rw [hvl.out]; omega) (fun r hr => by have := hvr.out r hr; omega)) (hSt.b.rd (by rw [hbl.out]; omega)))
        have hBs := hB.out.size
        clear hSt hM
        go_wp2_with fail
        refine hs.out.mono ?_; rintro e W3 ⟨⟨p, rfl, hO⟩, hB4⟩
        rw [← hL.out] at hO
        replace hO := Lib.hid hO
        replace hB4 := Lib.hid hB4
        go_wp2
        go_ret2
        rw [hr.out]
        exact ⟨_, rfl, hO.out.base hBs, hB.out.trans (hB4.out.mono hBs)⟩
  · have hr : Hid (refCharR rs = (squareM rs, [])) := Lib.hid (by rw [refCharR, if_pos h0])
    have hne : (squareM rs != 0) = true := by rw [bne_iff_ne]; exact h0
    generalize refCharR rs = RES at *
    generalize squareM rs = x at *
    clear hR h h0
    go_enter Tryd.func52, Tryd.ntmps52
    go_wp2_with fail
    refine hch.out.mono ?_; rintro e W1 ⟨rfl, hB1⟩
    go_wp2
    go_ret2
    rw [hr.out]
    exact ⟨_, rfl, OwnI_nil _ _, hB1⟩
end Go.Proofs.YtfljkcmijnhgkaaDoor
