/- inverse, clear: their contracts. -/
import Derived.Test.YtfljkcmijnhgkaaDoorOwnV
import Derived.Test.YtfljkcmijnhgkaaDoorPure
import Derived.StillTailTactics
namespace Go.Proofs.YtfljkcmijnhgkaaDoor
open Go.RowKit

set_option maxHeartbeats 400000 in
theorem power_any (n e : Int) (w : World) (hn : 0 ≤ n) (hn2 : n < 65521) (he : 0 ≤ e) (he2 : e ≤ 9223372036854775807) :
    Calls Tryd.prog 133 #[.int .i64 n, .int .i64 e] w fun r w' => r = .returned (.int .i64 (n ^ e.toNat % 65521)) ∧ w = w' := by
  go_enter Tryd.func133, Tryd.ntmps133
  go_wp2
  go_loop [0, 1, 5] (fun x y o => ∃ (a b c : Int), x = .int .i64 a ∧ y = .int .i64 b ∧ o = .int .i64 c ∧ 0 ≤ a ∧ a < 65521 ∧ 0 ≤ b ∧ b ≤ e ∧ 0 ≤ c ∧ c < 65521 ∧ c * a ^ b.toNat % 65521 = n ^ e.toNat % 65521) (fun _ y _ => (intOf y).toNat)
  case atStart => exact ⟨n, e, 1, rfl, rfl, rfl, hn, hn2, he, by omega, by omega, by omega, by simp⟩
  case round =>
    obtain ⟨a, b, c, rfl, rfl, rfl, ha, ha2, hb, hb2, hc, hc2, H⟩ := hrel
    replace H := Lib.hid H
    have ⟨m1, m2⟩ := mul_bd ha ha2 ha ha2
    have ⟨m3, m4⟩ := mul_bd hc hc2 ha ha2
    have e1 := i64_and_one hb (by omega)
    go_wp2
    · have hodd : b % 2 = 1 := by simp_all
      have := pow_odd c a b (by assumption) hodd
      go_round
      case rel => exact ⟨_, _, _, rfl, rfl, rfl, by omega, by omega, by omega, by omega, by omega, by omega, by rw [this]; exact H.out⟩
      case measure => simp [intOf]; omega
    · have hodd : b % 2 = 0 := by have : ¬ (b % 2 = 1) := by simp_all
                                  omega
      have := pow_even c a b (by assumption) hodd
      go_round
      case rel => exact ⟨_, _, _, rfl, rfl, rfl, by omega, by omega, by omega, by omega, by omega, by omega, by rw [this]; exact H.out⟩
      case measure => simp [intOf]; omega
    · go_ret
      have hb0 : b = 0 := by omega
      subst hb0
      refine ⟨?_, rfl⟩
      rw [← H.out]
      simp; omega
theorem pow_cast (n : Int) (h : 0 ≤ n) (k : Nat) : n ^ k % 65521 = ((n.toNat ^ k % 65521 : Nat) : Int) := by
  obtain ⟨m, rfl⟩ := Int.eq_ofNat_of_zero_le h
  simp [Int.natCast_pow]
theorem inv_eq (n : Int) (h : 0 ≤ n) : n ^ (65519 : Int).toNat % 65521 = invN n := by
  have e : (65519 : Int).toNat = 65519 := rfl
  rw [e, pow_cast n h, invN]
theorem invN_bd (n : Int) : 0 ≤ invN n ∧ invN n < 65521 := by
  unfold invN
  have := Nat.mod_lt (n.toNat ^ 65519) (show 0 < 65521 by decide)
  omega
set_option maxHeartbeats 400000 in
theorem inverse_any (n : Int) (w : World) (hn : 0 ≤ n) (hn2 : n < 65521) :
    Calls Tryd.prog 101 #[.int .i64 n] w fun r w' => r = .returned (.int .i64 (invN n)) ∧ w = w' := by
  have hc := power_any n 65519 w hn hn2 (by decide) (by decide)
  rw [inv_eq n hn] at hc
  replace hc := Lib.hid hc
  go_enter Tryd.func101, Tryd.ntmps101
  go_wp2_with (go_at_call 133; refine hc.out.mono ?_; rintro e w' ⟨rfl, rfl⟩)
  go_ret
  exact ⟨rfl, rfl⟩

/-! ### clear -/
def scP (own : List Int) (b : Int) (k : Nat) : List Int := (List.range own.length).map fun j => if j < k then own.getD j 0 * b % 65521 else own.getD j 0
theorem scP_zero (own : List Int) (b : Int) : scP own b 0 = own := by
  apply List.ext_getElem (by simp [scP])
  intro j h1 h2
  simp [scP, List.getD_eq_getElem?_getD, h2]
theorem scP_end (own : List Int) (b : Int) : scP own b own.length = scaleR own b := by
  apply List.map_congr_left; intro j hj
  rw [if_pos (by simpa using hj)]
theorem scP_len (own : List Int) (b : Int) (k : Nat) : (scP own b k).length = own.length := by simp [scP]
theorem scP_get (own : List Int) (b : Int) {k : Nat} (hk : k < own.length) : (scP own b k).getD k 0 = own.getD k 0 := by
  rw [List.getD_eq_getElem?_getD, scP, List.getElem?_map, List.getElem?_range hk]; simp
theorem scP_set (own : List Int) (b : Int) {k : Nat} : (scP own b k).set k (own.getD k 0 * b % 65521) = scP own b (k + 1) := by
  apply List.ext_getElem (by simp [scP])
  intro j h1 h2
  rw [List.getElem_set]
  have hj : j < own.length := by simpa [scP] using h2
  by_cases e : k = j
  · subst e; rw [if_pos rfl]; simp [scP]
  · rw [if_neg e]
    simp only [scP, List.getElem_map, List.getElem_range]
    by_cases h : j < k
    · rw [if_pos h, if_pos (by omega)]
    · rw [if_neg h, if_neg (by omega)]
def sbP (r own : List Int) (off : Int) (k : Nat) : List Int := (List.range r.length).map fun j => if j < k then (r.getD j 0 + off * own.getD j 0) % 65521 else r.getD j 0
theorem sbP_zero (r own : List Int) (b : Int) : sbP r own b 0 = r := by
  apply List.ext_getElem (by simp [sbP])
  intro j h1 h2
  simp [sbP, List.getD_eq_getElem?_getD, h2]
theorem sbP_end (r own : List Int) (b : Int) : sbP r own b r.length = subR r own b := by
  apply List.map_congr_left; intro j hj
  rw [if_pos (by simpa using hj)]
theorem sbP_len (r own : List Int) (b : Int) (k : Nat) : (sbP r own b k).length = r.length := by simp [sbP]
theorem sbP_get (r own : List Int) (b : Int) {k : Nat} (hk : k < r.length) : (sbP r own b k).getD k 0 = r.getD k 0 := by
  rw [List.getD_eq_getElem?_getD, sbP, List.getElem?_map, List.getElem?_range hk]; simp
theorem sbP_set (r own : List Int) (b : Int) {k : Nat} : (sbP r own b k).set k ((r.getD k 0 + b * own.getD k 0) % 65521) = sbP r own b (k + 1) := by
  apply List.ext_getElem (by simp [sbP])
  intro j h1 h2
  rw [List.getElem_set]
  have hj : j < r.length := by simpa [sbP] using h2
  by_cases e : k = j
  · subst e; rw [if_pos rfl]; simp [sbP]
  · rw [if_neg e]
    simp only [sbP, List.getElem_map, List.getElem_range]
    by_cases h : j < k
    · rw [if_pos h, if_pos (by omega)]
    · rw [if_neg h, if_neg (by omega)]
/-- Rows before i cleared. -/
def clP (rs : List (List Int)) (row col i : Nat) : List (List Int) :=
  (List.range rs.length).map fun j => if j = row then ownR rs row col else if j < i ∧ gM rs j col ≠ 0 then subR (rs.getD j []) (ownR rs row col) (65521 - gM rs j col) else rs.getD j []
theorem clP_zero (rs : List (List Int)) {row col : Nat} : clP rs row col 0 = rs.set row (ownR rs row col) := by
  apply List.ext_getElem (by simp [clP])
  intro j h1 h2
  rw [List.getElem_set]
  have hj : j < rs.length := by simpa [clP] using h1
  simp only [clP, List.getElem_map, List.getElem_range]
  by_cases e : row = j
  · rw [if_pos e.symm, if_pos e]
  · rw [if_neg (Ne.symm e), if_neg e, if_neg (by omega), List.getD_eq_getElem?_getD, List.getElem?_eq_getElem hj]; rfl
theorem clP_end (rs : List (List Int)) (row col : Nat) : clP rs row col rs.length = clearM rs row col := by
  apply List.map_congr_left; intro j hj
  have : j < rs.length := by simpa using hj
  by_cases e : j = row
  · rw [if_pos e, if_pos e]
  · rw [if_neg e, if_neg e]
    by_cases h : gM rs j col = 0
    · rw [if_neg (by simp [h]), if_pos h]
    · rw [if_pos ⟨this, h⟩, if_neg h]
theorem clP_len (rs : List (List Int)) (row col i : Nat) : (clP rs row col i).length = rs.length := by simp [clP]
theorem clP_own (rs : List (List Int)) {row col i : Nat} (hr : row < rs.length) : (clP rs row col i)[row]? = some (ownR rs row col) := by
  rw [clP, List.getElem?_map, List.getElem?_range hr]; simp
theorem clP_get (rs : List (List Int)) {row col i : Nat} (hi : i < rs.length) (hne : i ≠ row) : (clP rs row col i)[i]? = some (rs.getD i []) := by
  rw [clP, List.getElem?_map, List.getElem?_range hi, Option.map_some, if_neg hne, if_neg (by omega)]
theorem clP_skip (rs : List (List Int)) {row col i : Nat} (h : i = row ∨ gM rs i col = 0) : clP rs row col i = clP rs row col (i + 1) := by
  apply List.map_congr_left; intro j _
  by_cases e : j = row
  · rw [if_pos e, if_pos e]
  · rw [if_neg e, if_neg e]
    by_cases h2 : j = i
    · subst h2
      rw [if_neg (by omega), if_neg (by omega)]
    · by_cases h3 : gM rs j col = 0
      · rw [if_neg (by omega), if_neg (by omega)]
      · by_cases h4 : j < i
        · rw [if_pos ⟨h4, h3⟩, if_pos ⟨by omega, h3⟩]
        · rw [if_neg (by omega), if_neg (by omega)]
theorem clP_set (rs : List (List Int)) {row col i : Nat} (hne : i ≠ row) (h0 : gM rs i col ≠ 0) :
    (clP rs row col i).set i (subR (rs.getD i []) (ownR rs row col) (65521 - gM rs i col)) = clP rs row col (i + 1) := by
  apply List.ext_getElem (by simp [clP])
  intro j h1 h2
  rw [List.getElem_set]
  have hj : j < rs.length := by simpa [clP] using h2
  simp only [clP, List.getElem_map, List.getElem_range]
  by_cases e : i = j
  · subst e
    rw [if_pos rfl, if_neg hne, if_pos ⟨by omega, h0⟩]
  · rw [if_neg e]
    by_cases e2 : j = row
    · rw [if_pos e2, if_pos e2]
    · rw [if_neg e2, if_neg e2]
      by_cases h3 : gM rs j col = 0
      · rw [if_neg (by omega), if_neg (by omega)]
      · by_cases h4 : j < i
        · rw [if_pos ⟨h4, h3⟩, if_pos ⟨by omega, h3⟩]
        · rw [if_neg (by omega), if_neg (by omega)]
theorem list_set_set {α : Type} (l : List α) (i : Nat) (a b : α) : (l.set i a).set i b = l.set i b := by simp
theorem list_set_same {α : Type} {l : List α} {i : Nat} {a : α} (h : l[i]? = some a) : l.set i a = l := by
  apply List.ext_getElem?; intro j
  by_cases e : i = j
  · subst e; rw [List.getElem?_set_self (List.getElem?_eq_some_iff.1 h).1, h]
  · rw [List.getElem?_set_ne e]
theorem ownR_bd (rs : List (List Int)) (row col k : Nat) : 0 ≤ (ownR rs row col).getD k 0 ∧ (ownR rs row col).getD k 0 < 65521 := by
  unfold ownR scaleR
  rw [List.getD_eq_getElem?_getD, List.getElem?_map]
  cases (List.range (rs.getD row []).length)[k]? with
  | none => simp
  | some x => exact ⟨Int.emod_nonneg _ (by decide), Int.emod_lt_of_pos _ (by decide)⟩
theorem ownR_len (rs : List (List Int)) (row col : Nat) : (ownR rs row col).length = (rs.getD row []).length := by simp [ownR, scaleR]
/-- The block of a system is none of its rows' blocks. -/
theorem sys_ne {w : World} {base sb : Nat} {v : Value} {rs : List (List Int)} {vs : List Value} {cs : Array Value} (h : OwnMv w base v rs vs) (hs : w.heap[sb]? = some (.cells cs 123 (0, 0))) : ∀ u ∈ vs, u.ownBlock ≠ some sb := by
  intro u hu e
  obtain ⟨j, hj, rfl⟩ := List.getElem_of_mem hu
  have hr := h.rows j _ _ (List.getElem?_eq_getElem (by have := h.len; omega)) (List.getElem?_eq_getElem hj)
  unfold OwnI at hr
  rcases hr.2 with ⟨e2, _⟩ | ⟨g, cap, cur, e2, _, hh, _⟩
  · rw [e2] at e; simp [Value.ownBlock] at e
  · rw [e2] at e
    have : g = sb := by simpa [Value.ownBlock] using e
    subst this
    rw [hs] at hh
    injection hh with hh
    injection hh with _ ht
    exact absurd ht (by decide)
set_option maxRecDepth 100000 in
set_option maxHeartbeats 1600000 in
theorem clear_any (rs : List (List Int)) (n m row col sb base : Nat) (v : Value) (vs : List Value) (t : Bool) (w : World) (h : OwnMv w base v rs vs) (hok : okM rs n m) (hn : n ≤ 1000) (hm : m ≤ 1000) (hrow : row < n) (hcol : col < m)
    (hs : w.heap[sb]? = some (.cells #[v, .bool t] 123 (0, 0))) :
    Calls Tryd.prog 148 #[.pointer (some ⟨sb, 0, none⟩), .agg #[.int .i64 row, .int .i64 col]] w fun e w' => e = .returned (.tuple #[]) ∧ OwnMv w' base v (clearM rs row col) vs ∧ KeptBut vs w w' := by
  have hne := sys_ne h hs
  have hl := h.len
  have hr : rs[row]? = some (rs.getD row []) := by rw [List.getD_eq_getElem?_getD, List.getElem?_eq_getElem (by rw [hok.1]; exact hrow)]; rfl
  obtain ⟨u, hu⟩ : ∃ u, vs[row]? = some u := ⟨_, List.getElem?_eq_getElem (by rw [hl, hok.1]; exact hrow)⟩
  obtain ⟨g, c, rfl, hbg, hglt, hcg, _⟩ := h.at_ hr hu
  obtain ⟨g1, c1, rfl, hbg1, hg1lt, hc1, _⟩ := h.num hr hu (k := col) (by rw [hok.row hrow]; exact hcol)
  rw [hok.1] at *
  rw [hok.row hrow] at *
  change w.cell? ⟨g1, col, none⟩ = some (.int .i64 (gM rs row col)) at hc1
  have hnum := hok.num row col
  have hb0 : Below w.heap.size w (w.alloc (.cells #[.int .i64 row, .int .i64 col] 132)) := (Below.refl _ _).alloc (Nat.le_refl _) _
  have hsz : (w.alloc (.cells #[.int .i64 row, .int .i64 col] 132)).heap.size = w.heap.size + 1 := World.size_alloc _ _
  have b0 : (w.alloc (.cells #[.int .i64 row, .int .i64 col] 132)).cell? ⟨w.heap.size, 0, none⟩ = some (.int .i64 row) := by simp only [World.cell?, heap_alloc_new]; rfl
  have b1 : (w.alloc (.cells #[.int .i64 row, .int .i64 col] 132)).cell? ⟨w.heap.size, 1, none⟩ = some (.int .i64 col) := by simp only [World.cell?, heap_alloc_new]; rfl
  have hslt : sb < w.heap.size := lt_of_block hs
  have s0 := (hb0.cell (p := ⟨sb, 0, none⟩) hslt).trans (show w.cell? ⟨sb, 0, none⟩ = some (Value.slice (some ⟨g, 0, none⟩) n c) by simp [World.cell?, hs])
  have s1 := (hb0.cell (p := ⟨g, row, none⟩) hglt).trans hcg
  have s2 := (hb0.cell (p := ⟨g1, col, none⟩) hg1lt).trans hc1
  have h' := Lib.hid (h.kept hb0)
  have hne' := Lib.hid hne
  have hbx : Hid (∀ u ∈ vs, u.ownBlock ≠ some w.heap.size) := Lib.hid (fun u hu e => by have := (h.ge u hu _ e).2; omega)
  have hou : Hid (∀ u ∈ vs, u.ownBlock ≠ some g) := Lib.hid (h.outer_ne rfl)
  have hok' := Lib.hid hok
  have hu' := Lib.hid hu
  have hr' := Lib.hid hr
  have hs' := Lib.hid (hb0.block sb hslt |>.trans hs)
  clear hok h hne hu hr hcg hc1 hs
  have r1 : (row : Int) < (n : Int) := by omega
  have r0 : (0 : Int) ≤ (row : Int) := by omega
  have c1' : (col : Int) < (m : Int) := by omega
  have c0' : (0 : Int) ≤ (col : Int) := by omega
  go_enter Tryd.func148, Tryd.ntmps148
  go_wp2
  generalize hW : w.alloc (.cells #[.int .i64 row, .int .i64 col] 132) = W at hb0 hsz b0 b1 s0 s1 s2 h' hs' ⊢
  go_still_tail 8, (by kernel_rfl)
  have hbd : Below W.heap.size W W.drew := (Below.refl _ _).drew
  replace h' := Lib.hid (h'.out.kept hbd)
  replace b0 : W.drew.cell? _ = _ := b0
  replace b1 : W.drew.cell? _ = _ := b1
  replace s0 : W.drew.cell? _ = _ := s0
  replace s1 : W.drew.cell? _ = _ := s1
  replace s2 : W.drew.cell? _ = _ := s2
  replace hsz : W.drew.heap.size = _ := hsz
  replace hs' : Hid (W.drew.heap[sb]? = _) := hs'
  replace hb0 := Lib.hid (hb0.drew)
  clear hbd
  change wpList _ _ _ _ _ W.drew
  generalize W.drew = W1 at h' b0 b1 s0 s1 s2 hsz hs' hb0 ⊢
  clear hW
  replace hsz := Lib.hid hsz
  go_wp2_with (go_at_call 101; refine (inverse_any _ _ hnum.1 hnum.2).mono ?_; rintro e w' ⟨rfl, rfl⟩)
  have hib := invN_bd (gM rs row col)
  have hown : Hid (ownR rs row col = scaleR (rs.getD row []) (invN (gM rs row col))) := Lib.hid rfl
  generalize invN (gM rs row col) = iv at hib hown ⊢
  have hlen : Hid ((rs.getD row []).length = m) := Lib.hid (hok'.out.row hrow)
  clear s1 s2 hnum
  go_loopw [6, 27] (fun _ i wr => ∃ k : Nat, k ≤ m ∧ i = .int .i64 k ∧ KeptBut vs W1 wr ∧ Hid (OwnMv wr base (.slice (some ⟨g, 0, none⟩) n c) (rs.set row (scP (rs.getD row []) iv k)) vs)) (fun _ i _ => m - (intOf i).toNat)
  case atStart => exact ⟨0, Nat.zero_le _, rfl, KeptBut.refl _ _, Lib.hid (by rw [scP_zero, list_set_same hr'.out]; exact h'.out)⟩
  case round =>
    obtain ⟨k, hk, rfl, hK, hO⟩ := hrel
    by_cases hlt : k < m
    · have hrr : (rs.set row (scP (rs.getD row []) iv k))[row]? = some (scP (rs.getD row []) iv k) := by rw [List.getElem?_set_self (by rw [hok'.out.1]; exact hrow)]
      obtain ⟨g', c', e, _, hlt1, hc1, hf1⟩ := hO.out.num hrr hu'.out (k := k) (by rw [scP_len, hlen.out]; exact hlt)
      rw [scP_len, hlen.out] at e
      simp only [Value.slice.injEq, Option.some.injEq, Addr.mk.injEq, and_true, true_and] at e
      obtain ⟨rfl, rfl⟩ := e
      rw [scP_get _ _ (by rw [hlen.out]; exact hlt)] at hc1
      change wr.cell? _ = some (.int .i64 (gM rs row k)) at hc1
      have hn1 := hok'.out.num row k
      have ⟨m1, m2⟩ := mul_bd hn1.1 hn1.2 hib.1 hib.2
      have hput := hO.out.put hrr hu'.out (k := k) (gM rs row k * iv % 65521)
      have e2 : (rs.set row (scP (rs.getD row []) iv k)).set row ((scP (rs.getD row []) iv k).set k (gM rs row k * iv % 65521)) = rs.set row (scP (rs.getD row []) iv (k + 1)) := by
        rw [list_set_set]; congr 1; exact scP_set _ _
      rw [e2] at hput
      replace hput := Lib.hid hput
      clear e2 hrr
      have hkk := Lib.hid hK
      generalize gM rs row k = x at hn1 m1 m2 hc1 hput
      have q1 : (k : Int) < (m : Int) := by omega
      have q0 : (0 : Int) ≤ (k : Int) := by omega
      go_wp2
      go_roundw
      case rel => exact ⟨k + 1, by omega, by go_num, hkk.out.trans hput.out.2, Lib.hid hput.out.1⟩
      case measure => simp [intOf]; omega
    · obtain rfl : m = k := by omega
      have hO' : OwnMv wr base (.slice (some ⟨g, 0, none⟩) n c) (clP rs row col 0) vs := by
        have := hO.out
        rw [clP_zero, hown.out, ← scP_end, hlen.out]; exact this
      replace hO' := Lib.hid hO'
      clear hO
      have t0 := hK.cell s0 hne'.out
      go_wp2
      obtain ⟨wo, rfl⟩ : ∃ wo : World, wo = wr := ⟨_, rfl⟩
      replace hK := Lib.hid hK
      clear t0
      go_loopw [46] (fun i wr => ∃ i' : Nat, i' ≤ n ∧ i = .int .i64 i' ∧ Hid (KeptBut vs W1 wr) ∧ Hid (OwnMv wr base (.slice (some ⟨g, 0, none⟩) n c) (clP rs row col i') vs)) (fun i _ => n - (intOf i).toNat)
      case atStart => exact ⟨0, Nat.zero_le _, rfl, hK, hO'⟩
      case round =>
        obtain ⟨i, hi, rfl, hK, hO⟩ := hrel
        by_cases hin : i < n
        · obtain ⟨ui, hui⟩ : ∃ u, vs[i]? = some u := ⟨_, List.getElem?_eq_getElem (by rw [hl]; exact hin)⟩
          have i1 : (i : Int) < (n : Int) := by omega
          have i0 : (0 : Int) ≤ (i : Int) := by omega
          have t1 := hK.out.cell b0 hbx.out
          have t2 := hK.out.cell b1 hbx.out
          by_cases hir : i = row
          · subst hir
            obtain ⟨g', c', e, _, _, hcg, _⟩ := hO.out.at_ (clP_own rs (by rw [hok'.out.1]; exact hin)) hui
            simp only [Value.slice.injEq, Option.some.injEq, Addr.mk.injEq, and_true] at e
            obtain ⟨rfl, -, -⟩ := e
            rw [clP_skip rs (.inl rfl)] at hO
            replace hui := Lib.hid hui
            go_wp2
            go_roundw
            case rel => exact ⟨i + 1, by omega, by go_num, hK, hO⟩
            case measure => simp [intOf]; omega
          · obtain ⟨g', c', e, _, _, hcg, _⟩ := hO.out.at_ (clP_get rs (by rw [hok'.out.1]; exact hin) hir) hui
            simp only [Value.slice.injEq, Option.some.injEq, Addr.mk.injEq, and_true] at e
            obtain ⟨rfl, -, -⟩ := e
            obtain ⟨g2, c2, rfl, _, _, hcc, _⟩ := hO.out.num (clP_get rs (by rw [hok'.out.1]; exact hin) hir) hui (k := col) (by rw [hok'.out.row hin]; exact hcol)
            rw [hok'.out.row hin] at hui hcg
            change wr.cell? _ = some (.int .i64 (gM rs i col)) at hcc
            have hir' : ((i : Int) == (row : Int)) = false := by rw [beq_eq_false_iff_ne]; omega
            by_cases hz : gM rs i col = 0
            · rw [clP_skip rs (.inr hz)] at hO
              rw [hz] at hcc
              replace hui := Lib.hid hui
              replace hz := Lib.hid hz
              go_wp2
              go_roundw
              case rel => exact ⟨i + 1, by omega, by go_num, hK, hO⟩
              case measure => simp [intOf]; omega
            · have hz' : ((gM rs i col) == 0) = false := by rw [beq_eq_false_iff_ne]; exact hz
              have hzb := hok'.out.num i col
              have hzp : 0 < gM rs i col := by omega
              have hset : Hid ((clP rs row col i).set i (subR (rs.getD i []) (ownR rs row col) (65521 - gM rs i col)) = clP rs row col (i + 1)) := Lib.hid (clP_set rs hir hz)
              replace hz := Lib.hid hz
              have hui' := Lib.hid hui
              clear hui
              go_wp2
              obtain ⟨wi, rfl⟩ : ∃ wi : World, wi = wr := ⟨_, rfl⟩
              clear t1 t2 hcg hcc
              go_loopw [10, 71] (fun _ j wr => ∃ k : Nat, k ≤ m ∧ j = .int .i64 k ∧ Hid (KeptBut vs W1 wr) ∧ Hid (OwnMv wr base (.slice (some ⟨g, 0, none⟩) n c) ((clP rs row col i).set i (sbP (rs.getD i []) (ownR rs row col) (65521 - gM rs i col) k)) vs)) (fun _ j _ => m - (intOf j).toNat)
              case atStart => exact ⟨0, Nat.zero_le _, rfl, hK, Lib.hid (by rw [sbP_zero, list_set_same (clP_get rs (by rw [hok'.out.1]; exact hin) hir)]; exact hO.out)⟩
              case round =>
                obtain ⟨k, hk, rfl, hK, hO⟩ := hrel
                by_cases hlt : k < m
                · have hri : ((clP rs row col i).set i (sbP (rs.getD i []) (ownR rs row col) (65521 - gM rs i col) k))[i]? = some (sbP (rs.getD i []) (ownR rs row col) (65521 - gM rs i col) k) := List.getElem?_set_self (by rw [clP_len, hok'.out.1]; exact hin)
                  have hro : ((clP rs row col i).set i (sbP (rs.getD i []) (ownR rs row col) (65521 - gM rs i col) k))[row]? = some (ownR rs row col) := by rw [List.getElem?_set_ne hir]; exact clP_own rs (by rw [hok'.out.1]; exact hrow)
                  obtain ⟨g', c', e, -, -, hx, hf⟩ := hO.out.num hri hui'.out (k := k) (by rw [sbP_len, hok'.out.row hin]; exact hlt)
                  simp only [Value.slice.injEq, Option.some.injEq, Addr.mk.injEq, and_true] at e
                  obtain ⟨rfl, -, -⟩ := e
                  rw [sbP_get _ _ _ (by rw [hok'.out.row hin]; exact hlt)] at hx
                  change wr.cell? _ = some (.int .i64 (gM rs i k)) at hx
                  obtain ⟨g', c', e, -, -, hy, -⟩ := hO.out.num hro hu'.out (k := k) (by rw [ownR_len, hlen.out]; exact hlt)
                  simp only [Value.slice.injEq, Option.some.injEq, Addr.mk.injEq, and_true] at e
                  obtain ⟨rfl, -, -⟩ := e
                  have hput := hO.out.put hri hui'.out (k := k) ((gM rs i k + (65521 - gM rs i col) * (ownR rs row col).getD k 0) % 65521)
                  rw [list_set_set, show (sbP (rs.getD i []) (ownR rs row col) (65521 - gM rs i col) k).set k ((gM rs i k + (65521 - gM rs i col) * (ownR rs row col).getD k 0) % 65521) = sbP (rs.getD i []) (ownR rs row col) (65521 - gM rs i col) (k + 1) from sbP_set _ _ _] at hput
                  replace hput := Lib.hid hput
                  have hyb := ownR_bd rs row col k
                  have hxb := hok'.out.num i k
                  have ⟨m1, m2⟩ := mul_bd (a := 65521 - gM rs i col) (b := (ownR rs row col).getD k 0) (by omega) (by omega) hyb.1 hyb.2
                  clear hri hro
                  generalize (ownR rs row col).getD k 0 = y at hy hyb m1 m2 hput
                  generalize gM rs i k = x at hx hxb hput
                  have q1 : (k : Int) < (m : Int) := by omega
                  have q0 : (0 : Int) ≤ (k : Int) := by omega
                  go_wp2
                  go_still_tail 15, (by kernel_rfl)
                  change wpList _ _ _ _ _ wr.drew
                  go_wp2
                  go_roundw

                  case rel => exact ⟨k + 1, by omega, by go_num, Lib.hid (hK.out.trans hput.out.2).drew, Lib.hid (hput.out.1.kept (Below.refl _ _).drew)⟩
                  case measure => simp [intOf]; omega
                · obtain rfl : m = k := by omega
                  go_wp2
                  go_roundw
                  case rel => exact ⟨i + 1, by omega, by go_num, hK, Lib.hid (by have := hO.out; rw [show sbP (rs.getD i []) (ownR rs row col) (65521 - gM rs i col) m = subR (rs.getD i []) (ownR rs row col) (65521 - gM rs i col) from by rw [← sbP_end, hok'.out.row hin], hset.out] at this; exact this)⟩
                  case measure => simp [intOf]; omega
        · obtain rfl : n = i := by omega
          go_wp2
          go_end0
          have h1 := hO.out
          rw [show clP rs row col n = clearM rs row col from by rw [← clP_end, hok'.out.1]] at h1
          exact ⟨rfl, h1, (KeptBut.of_below hb0.out).trans hK.out⟩
end Go.Proofs.YtfljkcmijnhgkaaDoor
