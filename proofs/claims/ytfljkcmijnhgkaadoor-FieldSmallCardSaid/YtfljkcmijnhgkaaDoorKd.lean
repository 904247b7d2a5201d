/- inverse, clear: their contracts. A region of open order: an operation that reads a cell may be taken first although the region's own last stores write that cell, if they wait for it. What solve does, round by round. -/
import Derived.Test.YtfljkcmijnhgkaaDoorKa
import Derived.StillTailTactics
import Derived.OrdersHeld
import Derived.WalkKit
import Derived.Deep.LoopGhost
namespace Go.Proofs.YtfljkcmijnhgkaaDoor
open Go.RowKit
set_option maxHeartbeats 400000 in
theorem power_any (n e : Int) (w : World) (hn : 0 ≤ n) (hn2 : n < 65521) (he : 0 ≤ e) (he2 : e ≤ 9223372036854775807) :
    Calls Tryd.prog 133 #[.int .i64 n, .int .i64 e] w fun r w' => r = .returned (.int .i64 (n ^ e.toNat % 65521)) ∧ w = w' := by
  go_enter Tryd.func133, Tryd.ntmps133
  go_wp2
  go_loop [0, 1, 5] (fun x y o => ∃ (a b c : Int), x = .int .i64 a ∧ y = .int .i64 b ∧ o = .int .i64 c ∧ 0 ≤ a ∧ a < 65521 ∧ 0 ≤ b ∧ b ≤ e ∧ 0 ≤ c ∧ c < 65521 ∧ c * a ^ b.toNat % 65521 = n ^ e.toNat % 65521) (fun _ y _ => (intOf y).toNat)
  case atStart => exact ⟨n, e, 1, rfl, rfl, rfl, hn, hn2, he, by omega, by omega, by omega, by simp⟩
  case round =>
    obtain ⟨a, b, c, rfl, rfl, rfl, ha, ha2, hb, hb2, hc, hc2, H⟩ := hrel
    replace H := Lib.hid H
    have ⟨m1, m2⟩ := mul_bd ha ha2 ha ha2
    have ⟨m3, m4⟩ := mul_bd hc hc2 ha ha2
    have e1 := i64_and_one hb (by omega)
    go_wp2
    · have hodd : b % 2 = 1 := by simp_all
      have := pow_odd c a b (by assumption) hodd
      go_round
      case rel => exact ⟨_, _, _, rfl, rfl, rfl, by omega, by omega, by omega, by omega, by omega, by omega, by rw [this]; exact H.out⟩
      case measure => simp [intOf]; omega
    · have hodd : b % 2 = 0 := by have : ¬ (b % 2 = 1) := by simp_all
                                  omega
      have := pow_even c a b (by assumption) hodd
      go_round
      case rel => exact ⟨_, _, _, rfl, rfl, rfl, by omega, by omega, by omega, by omega, by omega, by omega, by rw [this]; exact H.out⟩
      case measure => simp [intOf]; omega
    · go_ret
      have hb0 : b = 0 := by omega
      subst hb0
      refine ⟨?_, rfl⟩
      rw [← H.out]
      simp; omega
theorem pow_cast (n : Int) (h : 0 ≤ n) (k : Nat) : n ^ k % 65521 = ((n.toNat ^ k % 65521 : Nat) : Int) := by
  obtain ⟨m, rfl⟩ := Int.eq_ofNat_of_zero_le h
  simp [Int.natCast_pow]
theorem inv_eq (n : Int) (h : 0 ≤ n) : n ^ (65519 : Int).toNat % 65521 = invN n := by
  have e : (65519 : Int).toNat = 65519 := rfl
  rw [e, pow_cast n h, invN]
theorem invN_bd (n : Int) : 0 ≤ invN n ∧ invN n < 65521 := by
  unfold invN
  have := Nat.mod_lt (n.toNat ^ 65519) (show 0 < 65521 by decide)
  omega
set_option maxHeartbeats 400000 in
theorem inverse_any (n : Int) (w : World) (hn : 0 ≤ n) (hn2 : n < 65521) :
    Calls Tryd.prog 101 #[.int .i64 n] w fun r w' => r = .returned (.int .i64 (invN n)) ∧ w = w' := by
  have hc := power_any n 65519 w hn hn2 (by decide) (by decide)
  rw [inv_eq n hn] at hc
  replace hc := Lib.hid hc
  go_enter Tryd.func101, Tryd.ntmps101
  go_wp2_with (go_at_call 133; refine hc.out.mono ?_; rintro e w' ⟨rfl, rfl⟩)
  go_ret
  exact ⟨rfl, rfl⟩

def scP (own : List Int) (b : Int) (k : Nat) : List Int := (List.range own.length).map fun j => if j < k then own.getD j 0 * b % 65521 else own.getD j 0
theorem scP_zero (own : List Int) (b : Int) : scP own b 0 = own := by
  apply List.ext_getElem (by simp [scP])
  intro j h1 h2
  simp [scP, List.getD_eq_getElem?_getD, h2]
theorem scP_end (own : List Int) (b : Int) : scP own b own.length = scaleR own b := by
  apply List.map_congr_left; intro j hj
  rw [if_pos (by simpa using hj)]
theorem scP_len (own : List Int) (b : Int) (k : Nat) : (scP own b k).length = own.length := by simp [scP]
theorem scP_get (own : List Int) (b : Int) {k : Nat} (hk : k < own.length) : (scP own b k).getD k 0 = own.getD k 0 := by
  rw [List.getD_eq_getElem?_getD, scP, List.getElem?_map, List.getElem?_range hk]; simp
theorem scP_set (own : List Int) (b : Int) {k : Nat} : (scP own b k).set k (own.getD k 0 * b % 65521) = scP own b (k + 1) := by
  apply List.ext_getElem (by simp [scP])
  intro j h1 h2
  rw [List.getElem_set]
  have hj : j < own.length := by simpa [scP] using h2
  by_cases e : k = j
  · subst e; rw [if_pos rfl]; simp [scP]
  · rw [if_neg e]
    simp only [scP, List.getElem_map, List.getElem_range]
    by_cases h : j < k
    · rw [if_pos h, if_pos (by omega)]
    · rw [if_neg h, if_neg (by omega)]
def sbP (r own : List Int) (off : Int) (k : Nat) : List Int := (List.range r.length).map fun j => if j < k then (r.getD j 0 + off * own.getD j 0) % 65521 else r.getD j 0
theorem sbP_zero (r own : List Int) (b : Int) : sbP r own b 0 = r := by
  apply List.ext_getElem (by simp [sbP])
  intro j h1 h2
  simp [sbP, List.getD_eq_getElem?_getD, h2]
theorem sbP_end (r own : List Int) (b : Int) : sbP r own b r.length = subR r own b := by
  apply List.map_congr_left; intro j hj
  rw [if_pos (by simpa using hj)]
theorem sbP_len (r own : List Int) (b : Int) (k : Nat) : (sbP r own b k).length = r.length := by simp [sbP]
theorem sbP_get (r own : List Int) (b : Int) {k : Nat} (hk : k < r.length) : (sbP r own b k).getD k 0 = r.getD k 0 := by
  rw [List.getD_eq_getElem?_getD, sbP, List.getElem?_map, List.getElem?_range hk]; simp
theorem sbP_set (r own : List Int) (b : Int) {k : Nat} : (sbP r own b k).set k ((r.getD k 0 + b * own.getD k 0) % 65521) = sbP r own b (k + 1) := by
  apply List.ext_getElem (by simp [sbP])
  intro j h1 h2
  rw [List.getElem_set]
  have hj : j < r.length := by simpa [sbP] using h2
  by_cases e : k = j
  · subst e; rw [if_pos rfl]; simp [sbP]
  · rw [if_neg e]
    simp only [sbP, List.getElem_map, List.getElem_range]
    by_cases h : j < k
    · rw [if_pos h, if_pos (by omega)]
    · rw [if_neg h, if_neg (by omega)]
/-- Rows before i cleared. -/
def clP (rs : List (List Int)) (row col i : Nat) : List (List Int) :=
  (List.range rs.length).map fun j => if j = row then ownR rs row col else if j < i ∧ gM rs j col ≠ 0 then subR (rs.getD j []) (ownR rs row col) (65521 - gM rs j col) else rs.getD j []
theorem clP_zero (rs : List (List Int)) {row col : Nat} : clP rs row col 0 = rs.set row (ownR rs row col) := by
  apply List.ext_getElem (by simp [clP])
  intro j h1 h2
  rw [List.getElem_set]
  have hj : j < rs.length := by simpa [clP] using h1
  simp only [clP, List.getElem_map, List.getElem_range]
  by_cases e : row = j
  · rw [if_pos e.symm, if_pos e]
  · rw [if_neg (Ne.symm e), if_neg e, if_neg (by omega), List.getD_eq_getElem?_getD, List.getElem?_eq_getElem hj]; rfl
theorem clP_end (rs : List (List Int)) (row col : Nat) : clP rs row col rs.length = clearM rs row col := by
  apply List.map_congr_left; intro j hj
  have : j < rs.length := by simpa using hj
  by_cases e : j = row
  · rw [if_pos e, if_pos e]
  · rw [if_neg e, if_neg e]
    by_cases h : gM rs j col = 0
    · rw [if_neg (by simp [h]), if_pos h]
    · rw [if_pos ⟨this, h⟩, if_neg h]
theorem clP_len (rs : List (List Int)) (row col i : Nat) : (clP rs row col i).length = rs.length := by simp [clP]
theorem clP_own (rs : List (List Int)) {row col i : Nat} (hr : row < rs.length) : (clP rs row col i)[row]? = some (ownR rs row col) := by
  rw [clP, List.getElem?_map, List.getElem?_range hr]; simp
theorem clP_get (rs : List (List Int)) {row col i : Nat} (hi : i < rs.length) (hne : i ≠ row) : (clP rs row col i)[i]? = some (rs.getD i []) := by
  rw [clP, List.getElem?_map, List.getElem?_range hi, Option.map_some, if_neg hne, if_neg (by omega)]
theorem clP_skip (rs : List (List Int)) {row col i : Nat} (h : i = row ∨ gM rs i col = 0) : clP rs row col i = clP rs row col (i + 1) := by
  apply List.map_congr_left; intro j _
  by_cases e : j = row
  · rw [if_pos e, if_pos e]
  · rw [if_neg e, if_neg e]
    by_cases h2 : j = i
    · subst h2
      rw [if_neg (by omega), if_neg (by omega)]
    · by_cases h3 : gM rs j col = 0
      · rw [if_neg (by omega), if_neg (by omega)]
      · by_cases h4 : j < i
        · rw [if_pos ⟨h4, h3⟩, if_pos ⟨by omega, h3⟩]
        · rw [if_neg (by omega), if_neg (by omega)]
theorem clP_set (rs : List (List Int)) {row col i : Nat} (hne : i ≠ row) (h0 : gM rs i col ≠ 0) :
    (clP rs row col i).set i (subR (rs.getD i []) (ownR rs row col) (65521 - gM rs i col)) = clP rs row col (i + 1) := by
  apply List.ext_getElem (by simp [clP])
  intro j h1 h2
  rw [List.getElem_set]
  have hj : j < rs.length := by simpa [clP] using h2
  simp only [clP, List.getElem_map, List.getElem_range]
  by_cases e : i = j
  · subst e
    rw [if_pos rfl, if_neg hne, if_pos ⟨by omega, h0⟩]
  · rw [if_neg e]
    by_cases e2 : j = row
    · rw [if_pos e2, if_pos e2]
    · rw [if_neg e2, if_neg e2]
      by_cases h3 : gM rs j col = 0
      · rw [if_neg (by omega), if_neg (by omega)]
      · by_cases h4 : j < i
        · rw [if_pos ⟨h4, h3⟩, if_pos ⟨by omega, h3⟩]
        · rw [if_neg (by omega), if_neg (by omega)]
theorem list_set_set {α : Type} (l : List α) (i : Nat) (a b : α) : (l.set i a).set i b = l.set i b := by simp
theorem list_set_same {α : Type} {l : List α} {i : Nat} {a : α} (h : l[i]? = some a) : l.set i a = l := by
  apply List.ext_getElem?; intro j
  by_cases e : i = j
  · subst e; rw [List.getElem?_set_self (List.getElem?_eq_some_iff.1 h).1, h]
  · rw [List.getElem?_set_ne e]
theorem ownR_bd (rs : List (List Int)) (row col k : Nat) : 0 ≤ (ownR rs row col).getD k 0 ∧ (ownR rs row col).getD k 0 < 65521 := by
  unfold ownR scaleR
  rw [List.getD_eq_getElem?_getD, List.getElem?_map]
  cases (List.range (rs.getD row []).length)[k]? with
  | none => simp
  | some x => exact ⟨Int.emod_nonneg _ (by decide), Int.emod_lt_of_pos _ (by decide)⟩
theorem ownR_len (rs : List (List Int)) (row col : Nat) : (ownR rs row col).length = (rs.getD row []).length := by simp [ownR, scaleR]
/-- The block of a system is none of its rows' blocks. -/
theorem sys_ne {w : World} {base sb : Nat} {v : Value} {rs : List (List Int)} {vs : List Value} {cs : Array Value} (h : OwnMv w base v rs vs) (hs : w.heap[sb]? = some (.cells cs 123 (0, 0))) : ∀ u ∈ vs, u.ownBlock ≠ some sb := by
  intro u hu e
  obtain ⟨j, hj, rfl⟩ := List.getElem_of_mem hu
  have hr := h.rows j _ _ (List.getElem?_eq_getElem (by have := h.len; omega)) (List.getElem?_eq_getElem hj)
  unfold OwnI at hr
  rcases hr.2 with ⟨e2, _⟩ | ⟨g, cap, cur, e2, _, hh, _⟩
  · rw [e2] at e; simp [Value.ownBlock] at e
  · rw [e2] at e
    have : g = sb := by simpa [Value.ownBlock] using e
    subst this
    rw [hs] at hh
    injection hh with hh
    injection hh with _ ht
    exact absurd ht (by decide)
set_option maxRecDepth 100000 in
set_option maxHeartbeats 1600000 in
theorem clear_any (rs : List (List Int)) (n m row col sb base : Nat) (v : Value) (vs : List Value) (t : Bool) (w : World) (h : OwnMv w base v rs vs) (hok : okM rs n m) (hn : n ≤ 1000) (hm : m ≤ 1000) (hrow : row < n) (hcol : col < m)
    (hs : w.heap[sb]? = some (.cells #[v, .bool t] 123 (0, 0))) :
    Calls Tryd.prog 148 #[.pointer (some ⟨sb, 0, none⟩), .agg #[.int .i64 row, .int .i64 col]] w fun e w' => e = .returned (.tuple #[]) ∧ OwnMv w' base v (clearM rs row col) vs ∧ KeptBut vs w w' := by
  have hne := sys_ne h hs
  have hl := h.len
  have hr : rs[row]? = some (rs.getD row []) := by rw [List.getD_eq_getElem?_getD, List.getElem?_eq_getElem (by rw [hok.1]; exact hrow)]; rfl
  obtain ⟨u, hu⟩ : ∃ u, vs[row]? = some u := ⟨_, List.getElem?_eq_getElem (by rw [hl, hok.1]; exact hrow)⟩
  obtain ⟨g, c, rfl, hbg, hglt, hcg, _⟩ := h.at_ hr hu
  obtain ⟨g1, c1, rfl, hbg1, hg1lt, hc1, _⟩ := h.num hr hu (k := col) (by rw [hok.row hrow]; exact hcol)
  rw [hok.1] at *
  rw [hok.row hrow] at *
  change w.cell? ⟨g1, col, none⟩ = some (.int .i64 (gM rs row col)) at hc1
  have hnum := hok.num row col
  have hb0 : Below w.heap.size w (w.alloc (.cells #[.int .i64 row, .int .i64 col] 132)) := (Below.refl _ _).alloc (Nat.le_refl _) _
  have hsz : (w.alloc (.cells #[.int .i64 row, .int .i64 col] 132)).heap.size = w.heap.size + 1 := World.size_alloc _ _
  have b0 : (w.alloc (.cells #[.int .i64 row, .int .i64 col] 132)).cell? ⟨w.heap.size, 0, none⟩ = some (.int .i64 row) := by simp only [World.cell?, heap_alloc_new]; rfl
  have b1 : (w.alloc (.cells #[.int .i64 row, .int .i64 col] 132)).cell? ⟨w.heap.size, 1, none⟩ = some (.int .i64 col) := by simp only [World.cell?, heap_alloc_new]; rfl
  have hslt : sb < w.heap.size := lt_of_block hs
  have s0 := (hb0.cell (p := ⟨sb, 0, none⟩) hslt).trans (show w.cell? ⟨sb, 0, none⟩ = some (Value.slice (some ⟨g, 0, none⟩) n c) by simp [World.cell?, hs])
  have s1 := (hb0.cell (p := ⟨g, row, none⟩) hglt).trans hcg
  have s2 := (hb0.cell (p := ⟨g1, col, none⟩) hg1lt).trans hc1
  have h' := Lib.hid (h.kept hb0)
  have hne' := Lib.hid hne
  have hbx : Hid (∀ u ∈ vs, u.ownBlock ≠ some w.heap.size) := Lib.hid (fun u hu e => by have := (h.ge u hu _ e).2; omega)
  have hou : Hid (∀ u ∈ vs, u.ownBlock ≠ some g) := Lib.hid (h.outer_ne rfl)
  have hok' := Lib.hid hok
  have hu' := Lib.hid hu
  have hr' := Lib.hid hr
  have hs' := Lib.hid (hb0.block sb hslt |>.trans hs)
  clear hok h hne hu hr hcg hc1 hs
  have r1 : (row : Int) < (n : Int) := by omega
  have r0 : (0 : Int) ≤ (row : Int) := by omega
  have c1' : (col : Int) < (m : Int) := by omega
  have c0' : (0 : Int) ≤ (col : Int) := by omega
  go_enter Tryd.func148, Tryd.ntmps148
  go_wp2
  generalize hW : w.alloc (.cells #[.int .i64 row, .int .i64 col] 132) = W at hb0 hsz b0 b1 s0 s1 s2 h' hs' ⊢
  go_still_tail 8, (by kernel_rfl)
  have hbd : Below W.heap.size W W.drew := (Below.refl _ _).drew
  replace h' := Lib.hid (h'.out.kept hbd)
  replace b0 : W.drew.cell? _ = _ := b0
  replace b1 : W.drew.cell? _ = _ := b1
  replace s0 : W.drew.cell? _ = _ := s0
  replace s1 : W.drew.cell? _ = _ := s1
  replace s2 : W.drew.cell? _ = _ := s2
  replace hsz : W.drew.heap.size = _ := hsz
  replace hs' : Hid (W.drew.heap[sb]? = _) := hs'
  replace hb0 := Lib.hid (hb0.drew)
  clear hbd
  change wpList _ _ _ _ _ W.drew
  generalize W.drew = W1 at h' b0 b1 s0 s1 s2 hsz hs' hb0 ⊢
  clear hW
  replace hsz := Lib.hid hsz
  go_wp2_with (go_at_call 101; refine (inverse_any _ _ hnum.1 hnum.2).mono ?_; rintro e w' ⟨rfl, rfl⟩)
  have hib := invN_bd (gM rs row col)
  have hown : Hid (ownR rs row col = scaleR (rs.getD row []) (invN (gM rs row col))) := Lib.hid rfl
  generalize invN (gM rs row col) = iv at hib hown ⊢
  have hlen : Hid ((rs.getD row []).length = m) := Lib.hid (hok'.out.row hrow)
  clear s1 s2 hnum
  go_loopw [6, 27] (fun _ i wr => ∃ k : Nat, k ≤ m ∧ i = .int .i64 k ∧ KeptBut vs W1 wr ∧ Hid (OwnMv wr base (.slice (some ⟨g, 0, none⟩) n c) (rs.set row (scP (rs.getD row []) iv k)) vs)) (fun _ i _ => m - (intOf i).toNat)
  case atStart => exact ⟨0, Nat.zero_le _, rfl, KeptBut.refl _ _, Lib.hid (by rw [scP_zero, list_set_same hr'.out]; exact h'.out)⟩
  case round =>
    obtain ⟨k, hk, rfl, hK, hO⟩ := hrel
    by_cases hlt : k < m
    · have hrr : (rs.set row (scP (rs.getD row []) iv k))[row]? = some (scP (rs.getD row []) iv k) := by rw [List.getElem?_set_self (by rw [hok'.out.1]; exact hrow)]
      obtain ⟨g', c', e, _, hlt1, hc1, hf1⟩ := hO.out.num hrr hu'.out (k := k) (by rw [scP_len, hlen.out]; exact hlt)
      rw [scP_len, hlen.out] at e
      simp only [Value.slice.injEq, Option.some.injEq, Addr.mk.injEq, and_true, true_and] at e
      obtain ⟨rfl, rfl⟩ := e
      rw [scP_get _ _ (by rw [hlen.out]; exact hlt)] at hc1
      change wr.cell? _ = some (.int .i64 (gM rs row k)) at hc1
      have hn1 := hok'.out.num row k
      have ⟨m1, m2⟩ := mul_bd hn1.1 hn1.2 hib.1 hib.2
      have hput := hO.out.put hrr hu'.out (k := k) (gM rs row k * iv % 65521)
      have e2 : (rs.set row (scP (rs.getD row []) iv k)).set row ((scP (rs.getD row []) iv k).set k (gM rs row k * iv % 65521)) = rs.set row (scP (rs.getD row []) iv (k + 1)) := by
        rw [list_set_set]; congr 1; exact scP_set _ _
      rw [e2] at hput
      replace hput := Lib.hid hput
      clear e2 hrr
      have hkk := Lib.hid hK
      generalize gM rs row k = x at hn1 m1 m2 hc1 hput
      have q1 : (k : Int) < (m : Int) := by omega
      have q0 : (0 : Int) ≤ (k : Int) := by omega
      go_wp2
      go_roundw
      case rel => exact ⟨k + 1, by omega, by go_num, hkk.out.trans hput.out.2, Lib.hid hput.out.1⟩
      case measure => simp [intOf]; omega
    · obtain rfl : m = k := by omega
      have hO' : OwnMv wr base (.slice (some ⟨g, 0, none⟩) n c) (clP rs row col 0) vs := by
        have := hO.out
        rw [clP_zero, hown.out, ← scP_end, hlen.out]; exact this
      replace hO' := Lib.hid hO'
      clear hO
      have t0 := hK.cell s0 hne'.out
      go_wp2
      obtain ⟨wo, rfl⟩ : ∃ wo : World, wo = wr := ⟨_, rfl⟩
      replace hK := Lib.hid hK
      clear t0
      go_loopw [46] (fun i wr => ∃ i' : Nat, i' ≤ n ∧ i = .int .i64 i' ∧ Hid (KeptBut vs W1 wr) ∧ Hid (OwnMv wr base (.slice (some ⟨g, 0, none⟩) n c) (clP rs row col i') vs)) (fun i _ => n - (intOf i).toNat)
      case atStart => exact ⟨0, Nat.zero_le _, rfl, hK, hO'⟩
      case round =>
        obtain ⟨i, hi, rfl, hK, hO⟩ := hrel
        by_cases hin : i < n
        · obtain ⟨ui, hui⟩ : ∃ u, vs[i]? = some u := ⟨_, List.getElem?_eq_getElem (by rw [hl]; exact hin)⟩
          have i1 : (i : Int) < (n : Int) := by omega
          have i0 : (0 : Int) ≤ (i : Int) := by omega
          have t1 := hK.out.cell b0 hbx.out
          have t2 := hK.out.cell b1 hbx.out
          by_cases hir : i = row
          · subst hir
            obtain ⟨g', c', e, _, _, hcg, _⟩ := hO.out.at_ (clP_own rs (by rw [hok'.out.1]; exact hin)) hui
            simp only [Value.slice.injEq, Option.some.injEq, Addr.mk.injEq, and_true] at e
            obtain ⟨rfl, -, -⟩ := e
            rw [clP_skip rs (.inl rfl)] at hO
            replace hui := Lib.hid hui
            go_wp2
            go_roundw
            case rel => exact ⟨i + 1, by omega, by go_num, hK, hO⟩
            case measure => simp [intOf]; omega
          · obtain ⟨g', c', e, _, _, hcg, _⟩ := hO.out.at_ (clP_get rs (by rw [hok'.out.1]; exact hin) hir) hui
            simp only [Value.slice.injEq, Option.some.injEq, Addr.mk.injEq, and_true] at e
            obtain ⟨rfl, -, -⟩ := e
            obtain ⟨g2, c2, rfl, _, _, hcc, _⟩ := hO.out.num (clP_get rs (by rw [hok'.out.1]; exact hin) hir) hui (k := col) (by rw [hok'.out.row hin]; exact hcol)
            rw [hok'.out.row hin] at hui hcg
            change wr.cell? _ = some (.int .i64 (gM rs i col)) at hcc
            have hir' : ((i : Int) == (row : Int)) = false := by rw [beq_eq_false_iff_ne]; omega
            by_cases hz : gM rs i col = 0
            · rw [clP_skip rs (.inr hz)] at hO
              rw [hz] at hcc
              replace hui := Lib.hid hui
              replace hz := Lib.hid hz
              go_wp2
              go_roundw
              case rel => exact ⟨i + 1, by omega, by go_num, hK, hO⟩
              case measure => simp [intOf]; omega
            · have hz' : ((gM rs i col) == 0) = false := by rw [beq_eq_false_iff_ne]; exact hz
              have hzb := hok'.out.num i col
              have hzp : 0 < gM rs i col := by omega
              have hset : Hid ((clP rs row col i).set i (subR (rs.getD i []) (ownR rs row col) (65521 - gM rs i col)) = clP rs row col (i + 1)) := Lib.hid (clP_set rs hir hz)
              replace hz := Lib.hid hz
              have hui' := Lib.hid hui
              clear hui
              go_wp2
              obtain ⟨wi, rfl⟩ : ∃ wi : World, wi = wr := ⟨_, rfl⟩
              clear t1 t2 hcg hcc
              go_loopw [10, 71] (fun _ j wr => ∃ k : Nat, k ≤ m ∧ j = .int .i64 k ∧ Hid (KeptBut vs W1 wr) ∧ Hid (OwnMv wr base (.slice (some ⟨g, 0, none⟩) n c) ((clP rs row col i).set i (sbP (rs.getD i []) (ownR rs row col) (65521 - gM rs i col) k)) vs)) (fun _ j _ => m - (intOf j).toNat)
              case atStart => exact ⟨0, Nat.zero_le _, rfl, hK, Lib.hid (by rw [sbP_zero, list_set_same (clP_get rs (by rw [hok'.out.1]; exact hin) hir)]; exact hO.out)⟩
              case round =>
                obtain ⟨k, hk, rfl, hK, hO⟩ := hrel
                by_cases hlt : k < m
                · have hri : ((clP rs row col i).set i (sbP (rs.getD i []) (ownR rs row col) (65521 - gM rs i col) k))[i]? = some (sbP (rs.getD i []) (ownR rs row col) (65521 - gM rs i col) k) := List.getElem?_set_self (by rw [clP_len, hok'.out.1]; exact hin)
                  have hro : ((clP rs row col i).set i (sbP (rs.getD i []) (ownR rs row col) (65521 - gM rs i col) k))[row]? = some (ownR rs row col) := by rw [List.getElem?_set_ne hir]; exact clP_own rs (by rw [hok'.out.1]; exact hrow)
                  obtain ⟨g', c', e, -, -, hx, hf⟩ := hO.out.num hri hui'.out (k := k) (by rw [sbP_len, hok'.out.row hin]; exact hlt)
                  simp only [Value.slice.injEq, Option.some.injEq, Addr.mk.injEq, and_true] at e
                  obtain ⟨rfl, -, -⟩ := e
                  rw [sbP_get _ _ _ (by rw [hok'.out.row hin]; exact hlt)] at hx
                  change wr.cell? _ = some (.int .i64 (gM rs i k)) at hx
                  obtain ⟨g', c', e, -, -, hy, -⟩ := hO.out.num hro hu'.out (k := k) (by rw [ownR_len, hlen.out]; exact hlt)
                  simp only [Value.slice.injEq, Option.some.injEq, Addr.mk.injEq, and_true] at e
                  obtain ⟨rfl, -, -⟩ := e
                  have hput := hO.out.put hri hui'.out (k := k) ((gM rs i k + (65521 - gM rs i col) * (ownR rs row col).getD k 0) % 65521)
                  rw [list_set_set, show (sbP (rs.getD i []) (ownR rs row col) (65521 - gM rs i col) k).set k ((gM rs i k + (65521 - gM rs i col) * (ownR rs row col).getD k 0) % 65521) = sbP (rs.getD i []) (ownR rs row col) (65521 - gM rs i col) (k + 1) from sbP_set _ _ _] at hput
                  replace hput := Lib.hid hput
                  have hyb := ownR_bd rs row col k
                  have hxb := hok'.out.num i k
                  have ⟨m1, m2⟩ := mul_bd (a := 65521 - gM rs i col) (b := (ownR rs row col).getD k 0) (by omega) (by omega) hyb.1 hyb.2
                  clear hri hro
                  generalize (ownR rs row col).getD k 0 = y at hy hyb m1 m2 hput
                  generalize gM rs i k = x at hx hxb hput
                  have q1 : (k : Int) < (m : Int) := by omega
                  have q0 : (0 : Int) ≤ (k : Int) := by omega
                  go_wp2
                  go_still_tail 15, (by kernel_rfl)
                  change wpList _ _ _ _ _ wr.drew
                  go_wp2
                  go_roundw

                  case rel => exact ⟨k + 1, by omega, by go_num, Lib.hid (hK.out.trans hput.out.2).drew, Lib.hid (hput.out.1.kept (Below.refl _ _).drew)⟩
                  case measure => simp [intOf]; omega
                · obtain rfl : m = k := by omega
                  go_wp2
                  go_roundw
                  case rel => exact ⟨i + 1, by omega, by go_num, hK, Lib.hid (by have := hO.out; rw [show sbP (rs.getD i []) (ownR rs row col) (65521 - gM rs i col) m = subR (rs.getD i []) (ownR rs row col) (65521 - gM rs i col) from by rw [← sbP_end, hok'.out.row hin], hset.out] at this; exact this)⟩
                  case measure => simp [intOf]; omega
        · obtain rfl : n = i := by omega
          go_wp2
          go_end0
          have h1 := hO.out
          rw [show clP rs row col n = clearM rs row col from by rw [← clP_end, hok'.out.1]] at h1
          exact ⟨rfl, h1, (KeptBut.of_below hb0.out).trans hK.out⟩
end Go.Proofs.YtfljkcmijnhgkaaDoor

namespace Go.Proofs.YtfljkcmijnhgkaaDoor
open Go
section
variable {P : Program} {ops : Array Oper} {Q : Exit → Act → World → Prop} {md : Region.Mode} {S T : World → Prop} {d : Nat}
/-- Whatever order is picked: S holds behind every operation, and T as long as operation d has not come up. -/
def wpAnyD (P : Program) (md : Region.Mode) (ops : Array Oper) (Q : Exit → Act → World → Prop) (S T : World → Prop) (d : Nat) : Nat → Array Bool → Act → World → Prop
  | 0, listed, a, w => Region.ready md ops listed = [] ∧ Q .normal a w
  | fuel + 1, listed, a, w =>
    (Region.ready md ops listed = [] → Q .normal a w) ∧
    ∀ i ∈ Region.ready md ops listed, wpOp P ops Q i (fun a' w' => (S w' ∧ (i ≠ d → listed.getD d true = false → T w')) ∧ wpAnyD P md ops Q S T d fuel (listed.setIfInBounds i true) a' w') a w

theorem wpAny_of_D : ∀ (fuel : Nat) (listed : Array Bool) (a : Act) (w : World), wpAnyD P md ops Q S T d fuel listed a w → wpAny P md ops Q fuel listed a w
  | 0, _, _, _, h => h
  | fuel + 1, _, _, _, h => ⟨h.1, fun i hi => wpOp_mono (fun a' w' h' => wpAny_of_D fuel _ a' w' h'.2) (h.2 i hi)⟩

theorem wpAnyD_first {U : World → Prop} {i : Nat} {oi : Oper} {v : Value} (hi : ops[i]? = some oi) (hsel : ∀ (j : Nat) (o : Oper) cs b, ops[j]? = some o → o.op ≠ .select cs b)
    (hQ : ∀ c a w, Q (.panic c) (a.put oi.dst v) w → Q (.panic c) a w) (hid : i ≠ d) :
    ∀ (fuel : Nat) (listed : Array Bool) (a : Act) (w : World),
      (∀ j oj, ops[j]? = some oj → j ≠ i → listed.getD j true = false → (∀ e ∈ oj.after, Region.binds md e = true → e.on ≠ i) → oi.apart ops oj = true) →
      i ∈ Region.ready md ops listed → YieldsIf P ops U oi v a → S w →
      ((∀ w, S w → U w) ∨ ((∀ w, S w → T w → U w) ∧ (∀ od, ops[d]? = some od → ∃ e ∈ od.after, Region.binds md e = true ∧ e.on = i) ∧ listed.getD d true = false)) → (listed.getD d true = false → T w) →
      wpAnyD P md ops Q S T d fuel (listed.setIfInBounds i true) (a.put oi.dst v) w → wpAnyD P md ops Q S T d (fuel + 1) listed a w := by
  have hget : ∀ (l : Array Bool), (l.setIfInBounds i true).getD d true = l.getD d true := fun l => getD_set_ne true hid
  intro fuel
  induction fuel with
  | zero =>
    intro listed a w _ hr hy hS hD hT H
    have hUw : U w := by
      rcases hD with h | ⟨h, _, h3⟩
      · exact h w hS
      · exact h w hS (hT h3)
    refine ⟨fun h => (by rw [h] at hr; cases hr), fun j hj => ?_⟩
    by_cases hji : j = i
    · subst hji; exact hy.wpOp hi hUw ⟨⟨hS, fun _ h => hT h⟩, H⟩
    · have := ready_mono hj hji
      rw [H.1] at this
      cases this
  | succ fuel ih =>
    intro listed a w hfree hr hy hS hD hT H
    have hUw : U w := by
      rcases hD with h | ⟨h, _, h3⟩
      · exact h w hS
      · exact h w hS (hT h3)
    refine ⟨fun h => (by rw [h] at hr; cases hr), fun j hj => ?_⟩
    by_cases hji : j = i
    · subst hji; exact hy.wpOp hi hUw ⟨⟨hS, fun _ h => hT h⟩, H⟩
    · have h1 := H.2 j (ready_mono hj hji)
      obtain ⟨hjun, oj, hoj, hall⟩ := mem_ready.1 hj
      have hiun := (mem_ready.1 hr).1
      have hnot : ∀ e ∈ oj.after, Region.binds md e = true → e.on ≠ i := fun e he hb heq => by
        have h1 := hall e he hb
        rw [heq] at h1
        rcases Nat.lt_or_ge i listed.size with h' | h'
        · simp [h'] at hiun h1; rw [hiun] at h1; cases h1
        · simp [Array.getElem?_eq_none h'] at h1
      have h2 := wpOp_putIf hoj (hfree j oj hoj hji hjun hnot) (fun cs b => hsel i oi cs b hi) (fun cs b => hsel j oj cs b hoj) hQ hy h1
      have hfree' : ∀ k ok, ops[k]? = some ok → k ≠ i → (listed.setIfInBounds j true).getD k true = false →
          (∀ e ∈ ok.after, Region.binds md e = true → e.on ≠ i) → oi.apart ops ok = true := fun k ok hk hki hun hno => by
        refine hfree k ok hk hki ?_ hno
        by_cases hjk : j = k
        · subst hjk; exact hjun
        · rw [getD_set_ne true hjk] at hun; exact hun
      refine wpOp_mono (fun a' w' h3 => ?_) h2
      have hS' := h3.2.1.1
      have hT' : j ≠ d → listed.getD d true = false → T w' := fun h4 h5 => h3.2.1.2 h4 (by rw [hget]; exact h5)
      refine ⟨⟨hS', hT'⟩, ih (listed.setIfInBounds j true) a' w' hfree' (ready_mono hr (Ne.symm hji)) h3.1 hS' ?_ (fun h5 => ?_) ?_⟩
      · rcases hD with h | ⟨h, h4, h5⟩
        · exact .inl h
        · have hjd : j ≠ d := fun e => by
            subst e
            obtain ⟨e, he, hb, hon⟩ := h4 oj hoj
            exact hnot e he hb hon
          exact .inr ⟨h, h4, by rw [getD_set_ne true hjd]; exact h5⟩
      · have hjd : j ≠ d := fun e => by
          subst e
          have hjs : j < listed.size := by
            rcases Nat.lt_or_ge j listed.size with h | h
            · exact h
            · simp [Array.getElem?_eq_none h] at hjun
          simp [hjs] at h5
        rw [getD_set_ne true hjd] at h5
        exact hT' hjd h5
      · rw [Array.setIfInBounds_comm _ _ hji]
        exact h3.2.2

/-- d waits for i, by an edge of its own. -/
def waits (md : Region.Mode) (ops : Array Oper) (d i : Nat) : Bool := match ops[d]? with
  | some od => od.after.any fun e => Region.binds md e && e.on == i
  | none => true
theorem waits_spec {d i : Nat} (h : waits md ops d i = true) : ∀ od, ops[d]? = some od → ∃ e ∈ od.after, Region.binds md e = true ∧ e.on = i := by
  intro od hod
  unfold waits at h
  rw [hod] at h
  obtain ⟨e, he, hb⟩ := Array.any_eq_true'.1 h
  simp only [Bool.and_eq_true, beq_iff_eq] at hb
  exact ⟨e, he, hb.1, hb.2⟩
variable {i fuel : Nat} {oi : Oper} {v : Value} {listed : Array Bool} {a : Act} {w : World}
/-- An operation that yields in every world in which S holds is taken first. -/
theorem D_take (hi : ops[i]? = some oi) (hs : Region.noSelect ops = true) (hf : Region.free md ops listed i = true) (hr : (Region.ready md ops listed).contains i = true) (hid : Nat.beq i d = false)
    (hQ : ∀ c a w, Q (.panic c) (a.put oi.dst v) w → Q (.panic c) a w) (hy : YieldsIf P ops S oi v a) (hS : S w) (hT : listed.getD d true = false → T w)
    (h : wpAnyD P md ops Q S T d fuel (listed.setIfInBounds i true) (a.put oi.dst v) w) : wpAnyD P md ops Q S T d (fuel + 1) listed a w :=
  wpAnyD_first (U := S) hi (Region.noSelect_spec hs) hQ (fun e => by subst e; simp at hid) fuel listed a w (Region.free_spec hi hf) (by simpa using hr) hy hS (.inl fun _ h => h) hT h
/-- One that yields in every world in which S and T hold, and for which d waits. -/
theorem D_load (hi : ops[i]? = some oi) (hs : Region.noSelect ops = true) (hf : Region.free md ops listed i = true) (hr : (Region.ready md ops listed).contains i = true) (hid : Nat.beq i d = false)
    (hw : waits md ops d i = true) (hd : listed.getD d true = false)
    (hQ : ∀ c a w, Q (.panic c) (a.put oi.dst v) w → Q (.panic c) a w) (hy : YieldsIf P ops (fun w => S w ∧ T w) oi v a) (hS : S w) (hT : T w)
    (h : wpAnyD P md ops Q S T d fuel (listed.setIfInBounds i true) (a.put oi.dst v) w) : wpAnyD P md ops Q S T d (fuel + 1) listed a w :=
  wpAnyD_first (U := fun w => S w ∧ T w) hi (Region.noSelect_spec hs) hQ (fun e => by subst e; simp at hid) fuel listed a w (Region.free_spec hi hf) (by simpa using hr) hy hS (.inr ⟨fun _ h1 h2 => ⟨h1, h2⟩, waits_spec hw, hd⟩) (fun _ => hT) h
/-- The only one that may come up is carried out. -/
theorem D_one (hr : Region.ready md ops listed = [i]) (hi : ops[i]? = some oi)
    (h : ∀ K : Act → World → Prop, (∀ a' w', S w' → (i ≠ d → listed.getD d true = false → T w') → wpAnyD P md ops Q S T d fuel (listed.setIfInBounds i true) a' w' → K a' w') →
      if Region.wanted oi (yielded ops a.tmps) = true then Oper.wp P oi a w K Q else K (a.put oi.dst undef) w) : wpAnyD P md ops Q S T d (fuel + 1) listed a w := by
  refine ⟨fun h0 => (by rw [hr] at h0; cases h0), fun j hj => ?_⟩
  rw [hr] at hj
  obtain rfl : j = i := by simpa using hj
  have h2 := h (fun a' w' => (S w' ∧ (j ≠ d → listed.getD d true = false → T w')) ∧ wpAnyD P md ops Q S T d fuel (listed.setIfInBounds j true) a' w') (fun a' w' h1 h2 h3 => ⟨⟨h1, h2⟩, h3⟩)
  unfold wpOp
  simp only [hi]
  split
  · rename_i hw; rw [if_pos hw] at h2; exact .inl h2
  · rename_i hw; rw [if_neg hw] at h2; exact h2
/-- All have come up. -/
theorem D_done (hr : Region.ready md ops listed = []) (h : Q .normal a w) : ∀ fuel, wpAnyD P md ops Q S T d fuel listed a w
  | 0 => ⟨hr, h⟩
  | _ + 1 => ⟨fun _ => h, by rw [hr]; simp⟩
/-- The beginning. -/
theorem D_begin {id : Nat} (S T : World → Prop) (d : Nat) (hm : P.follows .mixedOrders = true)
    (h : wpAnyD P .any ops Q S T d ops.size (Array.replicate ops.size false) a { w with drawn := w.drawn + 1 }) : (Code.region id ops true).wp P Q a w :=
  wp_region_any hm (wpAny_of_D _ _ _ _ h)
end
end Go.Proofs.YtfljkcmijnhgkaaDoor

namespace Go.Proofs.YtfljkcmijnhgkaaDoor
open Go.RowKit
theorem infoP : (Tryd.prog.info? 132).map (fun i => (i.zero, i.size, i.bytes)) = some (some (.agg #[.int .i64 0, .int .i64 0]), 2, 16) := by kernel_rfl
def pivCells (l : List (Nat × Nat)) : List Value := l.flatMap fun p => [.int .i64 p.1, .int .i64 p.2]
theorem pivCells_snoc (l : List (Nat × Nat)) (p : Nat × Nat) : pivCells (l ++ [p]) = pivCells l ++ [.int .i64 p.1, .int .i64 p.2] := by simp [pivCells]

/-- The state between two columns. -/
structure SolveInv (w wr : World) (base sb cb n m : Nat) (v lv : Value) (s : Sys) : Prop where
  ok : okM s.rows n m
  few : s.piv.length ≤ n
  det : 0 ≤ s.det ∧ s.det < 65521
  mem : ∃ vs, OwnMv wr base v s.rows vs ∧ (∀ u ∈ vs, u.ownBlock ≠ some cb)
  sys : wr.heap[sb]? = some (.cells #[v, .bool s.turned] 123 (0, 0))
  piv : wr.ownsRow base 132 2 lv s.piv.length (pivCells s.piv)
  cols : wr.heap[cb]? = w.heap[cb]?
  below : Below base w wr

theorem own_form {w : World} {base n : Nat} {e : TypeId} {size : Nat} {v : Value} {xs : List Value} (h : w.ownsRow base e size v n xs) : ∃ A c, v = .slice A n c := by
  rcases h.2 with ⟨rfl, rfl⟩ | ⟨g, cap, cur, rfl, _⟩
  · exact ⟨none, 0, rfl⟩
  · exact ⟨_, cap, rfl⟩
theorem own_of_block {w w' : World} {base n : Nat} {e : TypeId} {size : Nat} {v : Value} {xs : List Value} (h : w.ownsRow base e size v n xs) (hb : ∀ g, v.ownBlock = some g → w'.heap[g]? = w.heap[g]?) : w'.ownsRow base e size v n xs := by
  refine ⟨h.1, ?_⟩
  rcases h.2 with h | ⟨g, cap, cur, rfl, h1, h2, h3⟩
  · exact .inl h
  · exact .inr ⟨g, cap, cur, rfl, h1, (hb g rfl).trans h2, h3⟩
theorem okM_swap {rs : List (List Int)} {n m i j : Nat} (h : okM rs n m) (hi : i < n) (hj : j < n) : okM (swapM rs i j) n m := by
  have g : ∀ k, k < n → rs.getD k [] ∈ rs := fun k hk => by
    rw [List.getD_eq_getElem?_getD, List.getElem?_eq_getElem (by rw [h.1]; exact hk)]
    exact List.getElem_mem _
  refine ⟨by simp [swapM, h.1], fun r hr => ?_⟩
  unfold swapM at hr
  rcases List.mem_or_eq_of_mem_set hr with hr | rfl
  · rcases List.mem_or_eq_of_mem_set hr with hr | rfl
    · exact h.2 r hr
    · exact h.2 _ (g j hj)
  · exact h.2 _ (g i hi)
theorem okM_clear {rs : List (List Int)} {n m row col : Nat} (h : okM rs n m) (hrow : row < n) : okM (clearM rs row col) n m := by
  refine ⟨by simp [clearM, h.1], fun r hr => ?_⟩
  obtain ⟨i, hi, rfl⟩ := List.mem_map.1 hr
  have hi' : i < n := by have := List.mem_range.1 hi; rw [h.1] at this; exact this
  split
  · refine ⟨by rw [ownR_len, h.row hrow], fun x hx => ?_⟩
    unfold ownR scaleR at hx
    obtain ⟨j, _, rfl⟩ := List.mem_map.1 hx
    exact ⟨Int.emod_nonneg _ (by decide), Int.emod_lt_of_pos _ (by decide)⟩
  · split
    · refine ⟨h.row hi', fun x hx => ?_⟩
      have : rs.getD i [] ∈ rs := by
        rw [List.getD_eq_getElem?_getD, List.getElem?_eq_getElem (by rw [h.1]; exact hi')]
        exact List.getElem_mem _
      exact (h.2 _ this).2 x hx
    · refine ⟨by rw [← h.row hi']; simp [subR], fun x hx => ?_⟩
      unfold subR at hx
      obtain ⟨j, _, rfl⟩ := List.mem_map.1 hx
      exact ⟨Int.emod_nonneg _ (by decide), Int.emod_lt_of_pos _ (by decide)⟩
theorem swap_self (rs : List (List Int)) (i : Nat) : swapM rs i i = rs := by
  apply List.ext_getElem?; intro j
  by_cases hi : i < rs.length
  · have e : rs[i]? = some (rs.getD i []) := by rw [List.getD_eq_getElem?_getD, List.getElem?_eq_getElem hi]; rfl
    rw [swapM, list_set_same e, list_set_same e]
  · rw [swapM, List.set_eq_of_length_le (by simp; omega), List.set_eq_of_length_le (by omega)]
/-- What a round that has found its pivot leaves. -/
theorem solve_fin {w W1 W2 W3 : World} {base sb cb n m i k L : Nat} {v lv lv' : Value} {s : Sys} {vs2 : List Value} {cs : Array Value} (hL : s.piv.length = L) (hok : okM s.rows n m)
    (hLi : L ≤ i) (hin : i < n) (hO : OwnMv W2 base v (clearM (swapM s.rows i L) L k) vs2) (hcb : ∀ u ∈ vs2, u.ownBlock ≠ some cb) (hsbv : ∀ u ∈ vs2, u.ownBlock ≠ some sb)
    (hs : W1.heap[sb]? = some (.cells #[v, .bool (if i = L then s.turned else !s.turned)] 123 (0, 0))) (hp : W1.ownsRow base 132 2 lv L (pivCells s.piv))
    (hdo : v.ownBlock = none ∨ v.ownBlock ≠ lv.ownBlock) (hdr : ∀ u ∈ vs2, u.ownBlock = none ∨ u.ownBlock ≠ lv.ownBlock)
    (hcc : W1.heap[cb]? = w.heap[cb]?) (hcw : w.heap[cb]? = some (.cells cs 3 (0, 0))) (hB : Below base w W1) (hBw : base ≤ w.heap.size) (hK : KeptBut vs2 W1 W2)
    (hg : (W2.alloc (.cells #[.int .i64 L, .int .i64 k] 132)).grownBy W3 lv.ownBlock) (ho : W3.ownsRow base 132 2 lv' (L + 1) (pivCells s.piv ++ [.int .i64 L, .int .i64 k])) :
    SolveInv w W3 base sb cb n m v lv' (pivS s k i) := by
  have hLn : L < n := by omega
  have hb1 : Below W2.heap.size W2 (W2.alloc (.cells #[.int .i64 L, .int .i64 k] 132)) := (Below.refl _ _).alloc (Nat.le_refl _) _
  have hvs : ∀ u ∈ vs2, ∀ g, u.ownBlock = some g → base ≤ g := fun u hu g e => (hO.ge u hu g e).1
  have hBB : Below base w W2 := hB.trans (hK.below (by have := hB.size; omega) hvs)
  have hlvb : ∀ b t cs', t ≠ 132 → W1.heap[b]? = some (.cells cs' t (0, 0)) → some b ≠ lv.ownBlock := by
    intro b t cs' ht hb e
    rcases hp.2 with ⟨e2, _⟩ | ⟨g, cap, cur, e2, _, hh, _⟩
    · rw [e2] at e; cases e
    · rw [e2] at e
      have : b = g := by simpa [Value.ownBlock] using e
      subst this
      rw [hb] at hh
      injection hh with hh
      injection hh with _ h2
      exact ht h2
  have hslt := lt_of_block hs
  have hclt := lt_of_block (hcc.trans hcw)
  have h3 : ∀ b, b < W1.heap.size → (∀ u ∈ vs2, u.ownBlock ≠ some b) → some b ≠ lv.ownBlock → W3.heap[b]? = W1.heap[b]? := fun b hb hn hne =>
    (hg.block b (by have := hK.size; simp; omega) hne).trans ((hb1.block b (by have := hK.size; omega)).trans (hK.block b hb hn))
  refine ⟨okM_clear (okM_swap hok hin (by rw [hL]; exact hLn)) (by rw [hL]; exact hLn), by simp only [pivS, List.length_append, List.length_singleton]; omega, ?_, ?_, ?_, ?_, ?_, ?_⟩
  · exact ⟨Int.emod_nonneg _ (by decide), Int.emod_lt_of_pos _ (by decide)⟩
  · refine ⟨vs2, ?_, hcb⟩
    simp only [pivS, hL]
    exact (hO.kept hb1).grownBy hg hdo hdr
  · simp only [pivS, hL]
    rw [h3 sb hslt hsbv (hlvb sb _ _ (by decide) hs)]
    exact hs
  · simp only [pivS, hL, List.length_append, List.length_singleton, pivCells_snoc]
    exact ho
  · rw [h3 cb hclt hcb (hlvb cb _ _ (by decide) (hcc.trans hcw))]
    exact hcc
  · exact (hBB.alloc (by have := hBB.size; omega) _).grown hg (by have := hBB.size; simp; omega) (fun j hj => (hp.lt j hj).1)
theorem findP_none {rs : List (List Int)} {k : Nat} : ∀ {f i : Nat}, (∀ j, i ≤ j → j < i + f → gM rs j k = 0) → findP rs k f i = none
  | 0, _, _ => rfl
  | f + 1, i, h => by rw [findP, if_pos (h i (Nat.le_refl _) (by omega))]; exact findP_none (fun j h1 h2 => h j (by omega) (by omega))
theorem findP_some {rs : List (List Int)} {k p : Nat} : ∀ {f i : Nat}, i ≤ p → p < i + f → (∀ j, i ≤ j → j < p → gM rs j k = 0) → gM rs p k ≠ 0 → findP rs k f i = some p
  | 0, _, h1, h2, _, _ => by omega
  | f + 1, i, h1, h2, h3, h4 => by
    by_cases e : i = p
    · subst e; rw [findP, if_neg h4]
    · rw [findP, if_pos (h3 i (Nat.le_refl _) (by omega))]
      exact findP_some (by omega) (by omega) (fun j a b => h3 j (by omega) b) h4
theorem swap_row {rs : List (List Int)} {i j : Nat} (hj : j < rs.length) : (swapM rs i j).getD j [] = rs.getD i [] := by
  rw [swapM, List.getD_eq_getElem?_getD, List.getElem?_set_self (by simpa using hj)]; rfl
theorem swap_get {rs : List (List Int)} {i j : Nat} (hj : j < rs.length) : (swapM rs i j)[j]? = some (rs.getD i []) := by
  rw [swapM, List.getElem?_set_self (by simpa using hj)]
theorem swap_fin {w W : World} {base g n C sb i L : Nat} {v u x : Value} {rs : List (List Int)} {vs : List Value} {t : Bool} (hO : OwnMv W base v rs vs) (hv : v = .slice (some ⟨g, 0, none⟩) n C) (hr : rs[i]? = some (rs.getD i [])) (hrL : rs[L]? = some (rs.getD L []))
    (hu : vs[i]? = some u) (hx : vs[L]? = some x) (hij : i ≠ L) (hs : W.heap[sb]? = some (.cells #[v, .bool t] 123 (0, 0))) (hsb : base ≤ sb) (hsg : sb ≠ g) (hg : base ≤ g) (hB : Below base w W) :
    OwnMv (((W.setCell ⟨g, i, none⟩ x).setCell ⟨g, L, none⟩ u).setCell ⟨sb, 1, none⟩ (.bool !t)).drew base v (swapM rs i L) ((vs.set i x).set L u) ∧
    (((W.setCell ⟨g, i, none⟩ x).setCell ⟨g, L, none⟩ u).setCell ⟨sb, 1, none⟩ (.bool !t)).drew.heap[sb]? = some (.cells #[v, .bool !t] 123 (0, 0)) ∧
    Below base w (((W.setCell ⟨g, i, none⟩ x).setCell ⟨g, L, none⟩ u).setCell ⟨sb, 1, none⟩ (.bool !t)).drew ∧
    (∀ b, b ≠ g → b ≠ sb → (((W.setCell ⟨g, i, none⟩ x).setCell ⟨g, L, none⟩ u).setCell ⟨sb, 1, none⟩ (.bool !t)).drew.heap[b]? = W.heap[b]?) := by
  have h1 := hO.swap hv hr hrL hu hx hij
  have hs2 : ((W.setCell ⟨g, i, none⟩ x).setCell ⟨g, L, none⟩ u).heap[sb]? = some (.cells #[v, .bool t] 123 (0, 0)) := by
    rw [Below.heap_setCell _ _ _ _ hsg, Below.heap_setCell _ _ _ _ hsg]; exact hs
  have hne := sys_ne h1 hs2
  have hg3 : ((W.setCell ⟨g, i, none⟩ x).setCell ⟨g, L, none⟩ u).grownBy (((W.setCell ⟨g, i, none⟩ x).setCell ⟨g, L, none⟩ u).setCell ⟨sb, 1, none⟩ (.bool !t)).drew (some sb) :=
    ⟨rfl, rfl, rfl, by simp, fun k _ hk => Below.heap_setCell _ _ _ _ (fun e => hk (by rw [e]))⟩
  refine ⟨h1.grownBy hg3 (.inr (by rw [hv]; simp [Value.ownBlock]; omega)) (fun y hy => .inr (hne y hy)), ?_, ?_, fun b h2 h3 => ?_⟩
  · have := heap_setCell_same ((W.setCell ⟨g, i, none⟩ x).setCell ⟨g, L, none⟩ u) sb 1 #[v, .bool t] 123 (.bool !t) hs2
    exact this
  · exact (((hB.setCell hg _).setCell hg _).setCell hsb _).drew
  · show (((W.setCell ⟨g, i, none⟩ x).setCell ⟨g, L, none⟩ u).setCell ⟨sb, 1, none⟩ (.bool !t)).heap[b]? = _
    rw [Below.heap_setCell _ _ _ _ h3, Below.heap_setCell _ _ _ _ h2, Below.heap_setCell _ _ _ _ h2]
/-- A block of one type is none of an own row's of another one. -/
theorem own_type {w : World} {base n b : Nat} {e t : TypeId} {size : Nat} {v : Value} {xs : List Value} {cs : Array Value} {fr : Nat × Nat} (h : w.ownsRow base e size v n xs) (hb : w.heap[b]? = some (.cells cs t fr)) (hne : t ≠ e) : v.ownBlock ≠ some b := by
  intro hk
  rcases h.2 with ⟨rfl, _⟩ | ⟨g, cap, cur, rfl, _, hh, _⟩
  · simp [Value.ownBlock] at hk
  · have : g = b := by simpa [Value.ownBlock] using hk
    subst this
    rw [hb] at hh
    injection hh with hh
    injection hh with _ ht
    exact hne ht
end Go.Proofs.YtfljkcmijnhgkaaDoor
