/- Clone, copied, numbers, Reverse: their contracts. numbers, Reverse: their contracts. solved: its contract. Solve: its contract. Systems of all columns; determinant, Det, Rank: their contracts. -/
import Derived.Test.YtfljkcmijnhgkaaDoorKa
import Derived.Deep.OwnRows
import Derived.Test.YtfljkcmijnhgkaaDoorKe
import Derived.Test.YtfljkcmijnhgkaaDoorKd
import Derived.Test.YtfljkcmijnhgkaaDoorKc
namespace Go.Proofs.YtfljkcmijnhgkaaDoor
open Go.RowKit
theorem OwnI_nil (w : World) (base : Nat) : OwnI w base (.slice none 0 0) [] := World.ownsRow_nil _ _ _ _
set_option maxRecDepth 100000 in
set_option maxHeartbeats 400000 in
theorem Clone_any (xs : List Int) (v : Value) (w : World) (h : RdI w v xs) (hn : xs.length ≤ 1000000) :
    Calls Tryd.prog 57 #[v] w fun e w' => (∃ v', e = .returned v' ∧ OwnI w' w.heap.size v' xs) ∧ Below w.heap.size w w' := by
  obtain ⟨i0, hi, hz0, hz1, hz2⟩ := info_parts infoI
  have h' := h
  obtain ⟨A, c, rfl, h1, h2, h3⟩ := h'
  rw [ints_len] at *
  cases A with
  | none =>
    have hx : xs = [] := by
      rcases Nat.eq_zero_or_pos xs.length with e | e
      · exact List.eq_nil_of_length_eq_zero e
      · obtain ⟨b, off, e2, _⟩ := h3 e; cases e2
    subst hx
    clear h h3
    have heq := fun w => Lib.run_eql_slice_nil (P := Tryd.prog) w 23 3 none 0 c 0 0 Tryd.underlying23
    go_enter Tryd.func57, Tryd.ntmps57
    go_wp2
    go_ret
    exact ⟨⟨_, rfl, OwnI_nil _ _⟩, Below.refl _ _⟩
  | some ad =>
    have heq := fun w => Lib.run_eql_slice_nil (P := Tryd.prog) w 23 3 (some ad) xs.length c 0 0 Tryd.underlying23
    have hnews : Hid (∀ j u, (ints xs)[j]? = some u → (w.alloc (.cells #[] 3)).cell? (ad.add j) = some u) := Lib.hid (fun j u hj => by
      have hj' := (List.getElem?_eq_some_iff.1 hj).1
      rw [ints_len] at hj'
      obtain ⟨b, off, e, h4⟩ := h3 (by omega)
      cases e
      have hc := h4 j u hj
      have : (⟨b, off, none⟩ : Addr).add j = ⟨b, off + j, none⟩ := by unfold Addr.add; split <;> simp_all
      rw [this]
      exact (((Below.refl w.heap.size w).alloc (Nat.le_refl _) (.cells #[] 3)).cell (p := ⟨b, off + j, none⟩) (World.block_lt_of_cell? w _ hc)).trans hc)
    have hown : (w.alloc (.cells #[] 3)).ownsRow w.heap.size 3 1 (.slice (some ⟨w.heap.size, 0, none⟩) 0 0) 0 [] := World.ownsRow_made w #[] 0 (Nat.le_refl _) (by unfold maxLen; omega) rfl
    replace hown := Lib.hid hown
    have hone : Hid (∀ u ∈ ints xs, u.oneCell' = true) := Lib.hid (fun u hu => by obtain ⟨x, _, rfl⟩ := List.mem_map.1 hu; rfl)
    have hlen : Hid ((ints xs).length = xs.length * 1) := Lib.hid (by rw [ints_len]; omega)
    clear h h3
    go_enter Tryd.func57, Tryd.ntmps57
    go_wp2_with (at_builtin; (refine wpList_append_own_at _ rfl _ _ 23 rfl w.heap.size 3 i0 _ 1 8 Tryd.underlying23 hi hz0 hz1 hz2 rfl (by omega) (.slice (some ⟨w.heap.size, 0, none⟩) 0 0) 0 [] rfl hown.out ad xs.length c (ints xs) rfl hlen.out hnews.out hone.out (by unfold maxLen; omega) (by omega) (by simp) ?_); intro v' w1 hown1 hgrow _ _)
    simp only [Nat.zero_add, List.nil_append] at hown1
    replace hown1 := Lib.hid hown1
    replace hgrow := Lib.hid hgrow
    go_wp2
    go_ret
    exact ⟨⟨_, rfl, hown1.out⟩, ((Below.refl _ _).alloc (Nat.le_refl _) _).grown hgrow.out (by simp) (fun k hk => by simp [Value.ownBlock] at hk; omega)⟩

/-- Rows before i copied. -/
def cpP (rs : List (List Int)) (i : Nat) : List (List Int) := (List.range rs.length).map fun j => if j < i then rs.getD j [] else []
theorem cpP_zero (rs : List (List Int)) : cpP rs 0 = List.replicate rs.length [] := by
  apply List.ext_getElem (by simp [cpP])
  intro j h1 h2
  simp [cpP]
theorem cpP_end (rs : List (List Int)) : cpP rs rs.length = rs := by
  apply List.ext_getElem (by simp [cpP])
  intro j h1 h2
  simp [cpP, List.getD_eq_getElem?_getD, h2]
theorem cpP_get (rs : List (List Int)) {i : Nat} (hi : i < rs.length) : (cpP rs i)[i]? = some [] := by
  rw [cpP, List.getElem?_map, List.getElem?_range hi, Option.map_some, if_neg (by omega)]
theorem cpP_set (rs : List (List Int)) (i : Nat) : (cpP rs i).set i (rs.getD i []) = cpP rs (i + 1) := by
  apply List.ext_getElem (by simp [cpP])
  intro j h1 h2
  rw [List.getElem_set]
  simp only [cpP, List.getElem_map, List.getElem_range]
  by_cases e : i = j
  · subst e; rw [if_pos rfl, if_pos (by omega)]
  · rw [if_neg e]
    by_cases h : j < i
    · rw [if_pos h, if_pos (by omega)]
    · rw [if_neg h, if_neg (by omega)]
set_option maxRecDepth 100000 in
set_option maxHeartbeats 800000 in
theorem copied_any (rs : List (List Int)) (v : Value) (w : World) (h : RdM w v rs) (hn : rs.length ≤ 1000000) (hm : ∀ r ∈ rs, r.length ≤ 1000000) :
    Calls Tryd.prog 125 #[v] w fun e w' => (∃ v', e = .returned v' ∧ OwnM w' w.heap.size v' rs) ∧ Below w.heap.size w w' := by
  have hr := h
  obtain ⟨A, c, rfl, h1, h2, h3⟩ := h.open_
  have hmk := run_make_row' (P := Tryd.prog) 22 23 _ _ Tryd.underlying22 infoR rfl .i64 .i64 rs.length (by omega) (by omega)
  have h0 := OwnM_made w w.heap.size rs.length (Nat.le_refl _) (by unfold maxLen; omega)
  rw [← cpP_zero rs] at h0
  have hB0 : Below w.heap.size w (w.alloc (.cells (madeCells #[.slice none 0 0] rs.length) 23)) := (Below.refl _ _).alloc (Nat.le_refl _) _
  have hml : Hid (∀ i, i < rs.length → (rs.getD i []).length ≤ 1000000) := Lib.hid (fun i hi => hm _ (by rw [List.getD_eq_getElem?_getD, List.getElem?_eq_getElem hi]; exact List.getElem_mem _))
  replace h3 := Lib.hid h3
  replace h0 := Lib.hid h0
  generalize hN : rs.length = n at *
  replace hN := Lib.hid hN
  clear h hr hm
  go_enter Tryd.func125, Tryd.ntmps125
  go_wp2
  generalize w.alloc (.cells (madeCells #[.slice none 0 0] n) 23) = w1 at h0 hB0 ⊢
  go_loopw [4, 10] (fun _ i wr => ∃ k : Nat, k ≤ n ∧ i = .int .i64 k ∧ Below w.heap.size w wr ∧ Hid (OwnM wr w.heap.size (.slice (some ⟨w.heap.size, 0, none⟩) n n) (cpP rs k))) (fun _ i _ => n - (intOf i).toNat)
  case atStart => exact ⟨0, Nat.zero_le _, rfl, hB0, h0⟩
  case round =>
    obtain ⟨k, hk, rfl, hB, hM⟩ := hrel
    by_cases hlt : k < n
    · obtain ⟨b, off, u, rfl, hc, hu⟩ := h3.out k hlt
      have hc' := (hB.cell (p := ⟨b, off + k, none⟩) (World.block_lt_of_cell? w _ hc)).trans hc
      have hcl := Lib.hid (Clone_any (rs.getD k []) u wr (hu.below hB (Nat.le_refl _)) (hml.out k hlt))
      have hg0 := cpP_get rs (i := k) (by rw [hN.out]; exact hlt)
      obtain ⟨_, hgs, u0, hc0, hf0, ho0, hub⟩ := hM.out.row' hg0
      replace ho0 := Lib.hid ho0
      replace hg0 := Lib.hid hg0
      replace hub := Lib.hid hub
      clear hc hu
      have k1 : (k : Int) < (n : Int) := by omega
      have k0 : (0 : Int) ≤ (k : Int) := by omega
      go_wp2_with fail
      refine hcl.out.mono ?_; rintro e w2 ⟨⟨v2, rfl, ho2⟩, hb2⟩
      have hc2 := (hb2.cell (p := ⟨w.heap.size, k, none⟩) (World.block_lt_of_cell? wr _ hc0)).trans hc0
      have hf2 := (hb2.frozen (p := ⟨w.heap.size, k, none⟩) (World.block_lt_of_cell? wr _ hc0)).trans hf0
      have hup := hM.out.upd hg0.out hc0 (grown_of_below hb2 _) (ho2.base hB.size) (by
        cases e : v2.ownBlock with
        | none => exact .inl rfl
        | some q => exact .inr (.inr ⟨q, rfl, (World.ownsRow.lt ho2 q e).1⟩))
      rw [cpP_set] at hup
      replace hup := Lib.hid hup
      obtain ⟨A2, c2, rfl⟩ : ∃ A2 c2, v2 = .slice A2 (rs.getD k []).length c2 := by
        rcases ho2.2 with ⟨e, e2⟩ | ⟨g, cap, cur, e, _⟩
        · exact ⟨none, 0, by rw [e, e2]⟩
        · exact ⟨_, cap, e⟩
      replace ho2 := Lib.hid ho2
      go_wp2
      go_roundw
      case rel => exact ⟨k + 1, by omega, by go_num, (Below.then_ hB hb2).setCell (Nat.le_refl _) _, hup⟩
      case measure => simp [intOf]; omega
    · obtain rfl : n = k := by omega
      go_wp2
      go_ret
      exact ⟨⟨_, rfl, by have := hM.out; rwa [← hN.out, cpP_end, hN.out] at this⟩, hB⟩
end Go.Proofs.YtfljkcmijnhgkaaDoor

namespace Go.Proofs.YtfljkcmijnhgkaaDoor
open Go.RowKit
def natI (l : List Nat) : List Int := l.map fun (k : Nat) => (k : Int)
def nmP (n k : Nat) : List Int := (List.range n).map fun j => if j < k then (j : Int) else 0
theorem nmP_zero (n : Nat) : nmP n 0 = List.replicate n 0 := by
  apply List.ext_getElem (by simp [nmP])
  intro j h1 h2
  simp [nmP]
theorem nmP_end (n : Nat) : nmP n n = natI (List.range n) := by
  apply List.map_congr_left; intro j hj
  rw [if_pos (by simpa using hj)]
theorem nmP_len (n k : Nat) : (nmP n k).length = n := by simp [nmP]
theorem nmP_set (n k : Nat) : (nmP n k).set k (k : Int) = nmP n (k + 1) := by
  apply List.ext_getElem (by simp [nmP])
  intro j h1 h2
  rw [List.getElem_set]
  simp only [nmP, List.getElem_map, List.getElem_range]
  by_cases e : k = j
  · subst e; rw [if_pos rfl, if_pos (by omega)]
  · rw [if_neg e]
    by_cases h : j < k
    · rw [if_pos h, if_pos (by omega)]
    · rw [if_neg h, if_neg (by omega)]
theorem OwnI_made (w : World) (base n : Nat) (hb : base ≤ w.heap.size) (hn : n ≤ maxLen) : OwnI (w.alloc (.cells (madeCells #[.int .i64 0] n) 3)) base (.slice (some ⟨w.heap.size, 0, none⟩) n n) (List.replicate n 0) := by
  have hr := World.ownsRow_lit (base := base) (e := 3) (size := 1) w (madeCells #[.int .i64 0] n) n hb hn (by rw [size_madeCells]; omega)
  rw [toList_madeCells_one] at hr
  unfold OwnI
  rw [List.length_replicate, show ints (List.replicate n 0) = List.replicate n (.int .i64 0) from by simp [ints]]
  exact hr
/-- A number is stored into a row of the call's own. -/
theorem OwnI.put {w : World} {base g n c : Nat} {xs : List Int} (h : OwnI w base (.slice (some ⟨g, 0, none⟩) n c) xs) (k : Nat) (x : Int) : OwnI (w.setCell ⟨g, k, none⟩ (.int .i64 x)) base (.slice (some ⟨g, 0, none⟩) n c) (xs.set k x) := by
  unfold OwnI at h ⊢
  have hn : xs.length = n := by
    rcases h.2 with ⟨e, _⟩ | ⟨_, _, _, e, _⟩
    · simp at e
    · simp only [Value.slice.injEq] at e; exact e.2.1.symm
  subst hn
  have := (h.stored k (.int .i64 x)).1
  rw [List.length_set, show ints (xs.set k x) = (ints xs).set k (.int .i64 x) from by simp [ints, List.map_set]]
  exact this
theorem OwnI.num {w : World} {base g n c : Nat} {xs : List Int} (h : OwnI w base (.slice (some ⟨g, 0, none⟩) n c) xs) {k : Nat} (hk : k < xs.length) : w.cell? ⟨g, k, none⟩ = some (.int .i64 (xs.getD k 0)) ∧ w.frozen? ⟨g, k, none⟩ = false := by
  unfold OwnI at h
  have hn : xs.length = n := by
    rcases h.2 with ⟨e, _⟩ | ⟨_, _, _, e, _⟩
    · simp at e
    · simp only [Value.slice.injEq] at e; exact e.2.1.symm
  subst hn
  exact ⟨by rw [h.cellAt k (by omega), ints_get, List.getElem?_eq_getElem hk]; simp [List.getD_eq_getElem?_getD, hk], h.frozenAt k⟩
theorem OwnI.block {w : World} {base g n c : Nat} {xs : List Int} (h : OwnI w base (.slice (some ⟨g, 0, none⟩) n c) xs) : base ≤ g ∧ ∃ cur, w.heap[g]? = some (.cells cur 3 (0, 0)) := by
  unfold OwnI at h
  rcases h.2 with ⟨e, _⟩ | ⟨g', _, cur, e, hb, hh, _⟩
  · simp at e
  · simp only [Value.slice.injEq, Option.some.injEq, Addr.mk.injEq, and_true] at e
    obtain ⟨rfl, -, -⟩ := e
    exact ⟨hb, cur, hh⟩
set_option maxRecDepth 100000 in
set_option maxHeartbeats 400000 in
theorem numbers_any (n : Nat) (w : World) (hn : n ≤ 1000000) :
    Calls Tryd.prog 114 #[.int .i64 n] w fun e w' => e = .returned (.slice (some ⟨w.heap.size, 0, none⟩) n n) ∧ OwnI w' w.heap.size (.slice (some ⟨w.heap.size, 0, none⟩) n n) (natI (List.range n)) ∧ Below w.heap.size w w' := by
  have hmk := run_make_row' (P := Tryd.prog) 23 3 _ _ Tryd.underlying23 infoI rfl .i64 .i64 n (by omega) (by omega)
  have h0 := OwnI_made w w.heap.size n (Nat.le_refl _) (by unfold maxLen; omega)
  rw [← nmP_zero n] at h0
  replace h0 := Lib.hid h0
  have hB0 : Below w.heap.size w (w.alloc (.cells (madeCells #[.int .i64 0] n) 3)) := (Below.refl _ _).alloc (Nat.le_refl _) _
  go_enter Tryd.func114, Tryd.ntmps114
  go_wp2
  generalize w.alloc (.cells (madeCells #[.int .i64 0] n) 3) = w1 at h0 hB0 ⊢
  go_loopw [4, 8] (fun _ i wr => ∃ k : Nat, k ≤ n ∧ i = .int .i64 k ∧ Below w.heap.size w wr ∧ Hid (OwnI wr w.heap.size (.slice (some ⟨w.heap.size, 0, none⟩) n n) (nmP n k))) (fun _ i _ => n - (intOf i).toNat)
  case atStart => exact ⟨0, Nat.zero_le _, rfl, hB0, h0⟩
  case round =>
    obtain ⟨k, hk, rfl, hB, hM⟩ := hrel
    by_cases hlt : k < n
    · obtain ⟨hc, hf⟩ := hM.out.num (k := k) (by rw [nmP_len]; exact hlt)
      have hup := hM.out.put k (k : Int)
      rw [nmP_set] at hup
      replace hup := Lib.hid hup
      generalize (nmP n k).getD k 0 = x at hc
      have k1 : (k : Int) < (n : Int) := by omega
      have k0 : (0 : Int) ≤ (k : Int) := by omega
      go_wp2
      go_roundw
      case rel => exact ⟨k + 1, by omega, by go_num, hB.setCell (Nat.le_refl _) _, hup⟩
      case measure => simp [intOf]; omega
    · obtain rfl : n = k := by omega
      go_wp2
      go_ret
      exact ⟨rfl, by have := hM.out; rwa [nmP_end] at this, hB⟩
def rvP (xs : List Int) (k : Nat) : List Int := (List.range xs.length).map fun j => if j < k ∨ xs.length - k ≤ j then xs.getD (xs.length - 1 - j) 0 else xs.getD j 0
theorem rvP_zero (xs : List Int) : rvP xs 0 = xs := by
  apply List.ext_getElem (by simp [rvP])
  intro j h1 h2
  simp only [rvP, List.getElem_map, List.getElem_range]
  rw [if_neg (by omega), List.getD_eq_getElem?_getD, List.getElem?_eq_getElem h2]; rfl
theorem rvP_len (xs : List Int) (k : Nat) : (rvP xs k).length = xs.length := by simp [rvP]
theorem rvP_end (xs : List Int) {k : Nat} (h : xs.length ≤ 2 * k + 1) : rvP xs k = xs.reverse := by
  apply List.ext_getElem (by simp [rvP])
  intro j h1 h2
  have hj : j < xs.length := by simpa using h2
  simp only [rvP, List.getElem_map, List.getElem_range, List.getElem_reverse]
  by_cases hc : j < k ∨ xs.length - k ≤ j
  · rw [if_pos hc, List.getD_eq_getElem?_getD, List.getElem?_eq_getElem (by omega)]; rfl
  · rw [if_neg hc, List.getD_eq_getElem?_getD, List.getElem?_eq_getElem hj]
    simp only [Option.getD_some]
    congr 1; omega
theorem rvP_get (xs : List Int) {k j : Nat} (hj : j < xs.length) (h1 : k ≤ j) (h2 : j < xs.length - k) : (rvP xs k).getD j 0 = xs.getD j 0 := by
  rw [List.getD_eq_getElem?_getD, rvP, List.getElem?_map, List.getElem?_range hj, Option.map_some, if_neg (by omega)]; rfl
theorem rvP_set (xs : List Int) {k : Nat} (h : k < xs.length - 1 - k) : ((rvP xs k).set k (xs.getD (xs.length - 1 - k) 0)).set (xs.length - 1 - k) (xs.getD k 0) = rvP xs (k + 1) := by
  apply List.ext_getElem (by simp [rvP])
  intro j h1 h2
  have hj : j < xs.length := by simpa [rvP] using h2
  rw [List.getElem_set]
  by_cases e : xs.length - 1 - k = j
  · rw [if_pos e]
    simp only [rvP, List.getElem_map, List.getElem_range]
    rw [if_pos (by omega)]; congr 1; omega
  · rw [if_neg e, List.getElem_set]
    by_cases e2 : k = j
    · subst e2
      rw [if_pos rfl]
      simp only [rvP, List.getElem_map, List.getElem_range]
      rw [if_pos (by omega)]
    · rw [if_neg e2]
      simp only [rvP, List.getElem_map, List.getElem_range]
      by_cases hc : j < k ∨ xs.length - k ≤ j
      · rw [if_pos hc, if_pos (by omega)]
      · rw [if_neg hc, if_neg (by omega)]
theorem OwnI.len {w : World} {base g n c : Nat} {xs : List Int} (h : OwnI w base (.slice (some ⟨g, 0, none⟩) n c) xs) : xs.length = n := by
  unfold OwnI at h
  rcases h.2 with ⟨e, _⟩ | ⟨_, _, _, e, _⟩
  · simp at e
  · simp only [Value.slice.injEq] at e; exact e.2.1.symm
set_option maxRecDepth 100000 in
set_option maxHeartbeats 400000 in
theorem Reverse_any (xs : List Int) (n base g c : Nat) (w : World) (h : OwnI w base (.slice (some ⟨g, 0, none⟩) n c) xs) (hn : n ≤ 1000000) :
    Calls Tryd.prog 76 #[.slice (some ⟨g, 0, none⟩) n c] w fun e w' => e = .returned (.tuple #[]) ∧ OwnI w' base (.slice (some ⟨g, 0, none⟩) n c) xs.reverse ∧ KeptBut [.slice (some ⟨g, 0, none⟩) n c] w w' := by
  have hl := h.len
  by_cases h0 : n = 0
  · subst h0
    have hx : xs = [] := List.eq_nil_of_length_eq_zero hl
    subst hx
    replace h := Lib.hid h
    clear hl
    go_enter Tryd.func76, Tryd.ntmps76
    go_wp2
    refine wp_loop_rounds 1 ?_
    rw [rounds_succ]
    go_wp2
    go_end0
    exact ⟨rfl, h.out, KeptBut.refl _ _⟩
  · replace h := Lib.hid h
    replace hl := Lib.hid hl
    go_enter Tryd.func76, Tryd.ntmps76
    go_wp2
    go_loopw [2, 3] (fun i j wr => ∃ k q : Nat, q + k + 1 = n ∧ k ≤ q + 1 ∧ i = .int .i64 k ∧ j = .int .i64 q ∧ Hid (OwnI wr base (.slice (some ⟨g, 0, none⟩) n c) (rvP xs k)) ∧ Hid (KeptBut [.slice (some ⟨g, 0, none⟩) n c] w wr)) (fun i _ _ => n - (intOf i).toNat)
    case atStart => exact ⟨0, n - 1, by omega, by omega, rfl, by congr 1; omega, Lib.hid (by rw [rvP_zero]; exact h.out), Lib.hid (KeptBut.refl _ _)⟩
    case round =>
      obtain ⟨k, q, hq, hkq, rfl, rfl, hM, hK⟩ := hrel
      by_cases hlt : k < q
      · obtain ⟨hc, hf⟩ := hM.out.num (k := k) (by rw [rvP_len, hl.out]; omega)
        obtain ⟨hc2, hf2⟩ := hM.out.num (k := q) (by rw [rvP_len, hl.out]; omega)
        have hup := (hM.out.put k (xs.getD q 0)).put q (xs.getD k 0)
        have hset := rvP_set xs (k := k) (by rw [hl.out]; omega)
        rw [show xs.length - 1 - k = q from by rw [hl.out]; omega] at hset
        rw [hset] at hup
        rw [rvP_get xs (by rw [hl.out]; omega) (Nat.le_refl _) (by rw [hl.out]; omega)] at hc
        rw [rvP_get xs (by rw [hl.out]; omega) (by omega) (by rw [hl.out]; omega)] at hc2
        replace hup := Lib.hid hup
        clear hset
        generalize xs.getD k 0 = x at *
        generalize xs.getD q 0 = y at *
        have hne : ¬ k = q := by omega
        have k1 : (k : Int) < (n : Int) := by omega
        have k0 : (0 : Int) ≤ (k : Int) := by omega
        have q1 : (q : Int) < (n : Int) := by omega
        have q0 : (0 : Int) ≤ (q : Int) := by omega
        obtain ⟨p, rfl⟩ : ∃ p, q = p + 1 := ⟨q - 1, by omega⟩
        go_wp2
        go_region
        all_goals
          go_wp2
          go_roundw
          case rel => exact ⟨k + 1, p, by omega, by omega, by go_num, rfl, Lib.hid (hup.out.below (Below.refl _ _).drew), Lib.hid (((hK.out.setCell (List.mem_singleton.2 rfl) rfl _).setCell (List.mem_singleton.2 rfl) rfl _).drew)⟩
          case measure => simp [intOf]; omega
      · go_wp2
        go_end0
        exact ⟨rfl, by have := hM.out; rwa [rvP_end _ (by rw [hl.out]; omega)] at this, hK.out⟩
end Go.Proofs.YtfljkcmijnhgkaaDoor

namespace Go.Proofs.YtfljkcmijnhgkaaDoor
open Go.RowKit
set_option linter.unusedSimpArgs false
/-- Rows before i have their right side. -/
def auP (rs : List (List Int)) (b : List Int) (i : Nat) : List (List Int) := (List.range rs.length).map fun j => if j < i then rs.getD j [] ++ [b.getD j 0] else rs.getD j []
theorem auP_zero (rs : List (List Int)) (b : List Int) : auP rs b 0 = rs := by
  apply List.ext_getElem (by simp [auP])
  intro j h1 h2
  simp [auP, List.getD_eq_getElem?_getD, h2]
theorem auP_end (rs : List (List Int)) (b : List Int) : auP rs b rs.length = augM rs b := by
  apply List.map_congr_left; intro j hj
  rw [if_pos (by simpa using hj)]
theorem auP_get (rs : List (List Int)) (b : List Int) {i : Nat} (hi : i < rs.length) : (auP rs b i)[i]? = some (rs.getD i []) := by
  rw [auP, List.getElem?_map, List.getElem?_range hi, Option.map_some, if_neg (by omega)]
theorem auP_set (rs : List (List Int)) (b : List Int) (i : Nat) : (auP rs b i).set i (rs.getD i [] ++ [b.getD i 0]) = auP rs b (i + 1) := by
  apply List.ext_getElem (by simp [auP])
  intro j h1 h2
  rw [List.getElem_set]
  simp only [auP, List.getElem_map, List.getElem_range]
  by_cases e : i = j
  · subst e; rw [if_pos rfl, if_pos (by omega)]
  · rw [if_neg e]
    by_cases h : j < i
    · rw [if_pos h, if_pos (by omega)]
    · rw [if_neg h, if_neg (by omega)]
theorem okM_aug {rs : List (List Int)} {b : List Int} {n m : Nat} (h : okM rs n m) (hb : ∀ x ∈ b, 0 ≤ x ∧ x < 65521) (hl : b.length = n) : okM (augM rs b) n (m + 1) := by
  refine ⟨by simp [augM, h.1], fun r hr => ?_⟩
  obtain ⟨i, hi, rfl⟩ := List.mem_map.1 hr
  have hi' : i < n := by have := List.mem_range.1 hi; rw [h.1] at this; exact this
  refine ⟨by rw [List.length_append, h.row hi']; rfl, fun x hx => ?_⟩
  rcases List.mem_append.1 hx with hx | hx
  · have : rs.getD i [] ∈ rs := by
      rw [List.getD_eq_getElem?_getD, List.getElem?_eq_getElem (by rw [h.1]; exact hi')]
      exact List.getElem_mem _
    exact (h.2 _ this).2 x hx
  · rw [List.mem_singleton.1 hx, List.getD_eq_getElem?_getD, List.getElem?_eq_getElem (by omega)]
    exact hb _ (List.getElem_mem _)
theorem SolveInv.kept {w wr w2 : World} {base sb cb n m : Nat} {v lv : Value} {s : Sys} (h : SolveInv w wr base sb cb n m v lv s) (hb : Below wr.heap.size wr w2) (hbw : base ≤ wr.heap.size) (hcb : cb < wr.heap.size) : SolveInv w w2 base sb cb n m v lv s := by
  obtain ⟨vs, h1, h2⟩ := h.mem
  exact ⟨h.ok, h.few, h.det, ⟨vs, h1.kept hb, h2⟩, (hb.block sb (lt_of_block h.sys)).trans h.sys, own_below h.piv hb, (hb.block cb hcb).trans h.cols, h.below.trans (hb.mono hbw)⟩
def xP (s : Sys) (m i : Nat) : List Int := (s.piv.take i).foldl (fun x p => x.set p.2 (gM s.rows p.1 m)) (List.replicate m 0)
theorem xP_len (s : Sys) (m i : Nat) : (xP s m i).length = m := by
  unfold xP
  have : ∀ (l : List (Nat × Nat)) (x : List Int), (l.foldl (fun x p => x.set p.2 (gM s.rows p.1 m)) x).length = x.length := by
    intro l
    induction l with
    | nil => intro x; rfl
    | cons p l ih => intro x; rw [List.foldl_cons, ih]; simp
  rw [this]; simp
theorem xP_succ (s : Sys) (m : Nat) {i : Nat} {p : Nat × Nat} (hp : s.piv[i]? = some p) : xP s m (i + 1) = (xP s m i).set p.2 (gM s.rows p.1 m) := by
  unfold xP
  rw [List.take_add_one, hp, List.foldl_append]; rfl
theorem pivCells_get {l : List (Nat × Nat)} {i : Nat} {p : Nat × Nat} (h : l[i]? = some p) : (pivCells l)[i * 2]? = some (.int .i64 p.1) ∧ (pivCells l)[i * 2 + 1]? = some (.int .i64 p.2) := by
  induction l generalizing i with
  | nil => cases h
  | cons q l ih =>
    cases i with
    | zero =>
      simp only [List.getElem?_cons_zero, Option.some.injEq] at h
      subst h
      exact ⟨rfl, rfl⟩
    | succ i =>
      have h' : l[i]? = some p := by simpa using h
      have := ih h'
      have e : pivCells (q :: l) = .int .i64 q.1 :: .int .i64 q.2 :: pivCells l := by simp [pivCells]
      rw [e, show (i + 1) * 2 = i * 2 + 2 from by omega]
      exact ⟨by simpa using this.1, by simpa using this.2⟩
theorem solvedM_some {rs : List (List Int)} {b : List Int} {m n L : Nat} {S : Sys} (h : sysM rs b m = S) (hn : S.rows.length = n) (hL : S.piv.length = L) (hz : ∀ i, L ≤ i → i < n → gM S.rows i m = 0) : solvedM rs b m = some (fillX S m) := by
  have : restOk S m = true := by
    unfold restOk
    rw [List.all_eq_true, hn, hL]
    intro i hi
    have hi := List.mem_range.1 hi
    by_cases h : i < L
    · simp [h]
    · simp [hz i (by omega) hi]
  rw [solvedM, h, if_pos this]
theorem solvedM_none {rs : List (List Int)} {b : List Int} {m n L i : Nat} {S : Sys} (h : sysM rs b m = S) (hn : S.rows.length = n) (hL : S.piv.length = L) (h1 : L ≤ i) (h2 : i < n) (hz : gM S.rows i m ≠ 0) : solvedM rs b m = none := by
  have : restOk S m = false := by
    rw [← Bool.not_eq_true]
    intro h3
    unfold restOk at h3
    rw [List.all_eq_true, hn, hL] at h3
    have := h3 i (List.mem_range.2 h2)
    simp at this
    omega
  rw [solvedM, h, if_neg (by simp [this])]
theorem natI_rev (l : List Nat) : (natI l).reverse = natI l.reverse := by simp [natI]
theorem stepS_piv {cols : List Nat} {s : Sys} {k : Nat} (hk : k ∈ cols) (h : ∀ p ∈ s.piv, p.1 < s.piv.length ∧ p.2 ∈ cols) : ∀ p ∈ (stepS s k).piv, p.1 < (stepS s k).piv.length ∧ p.2 ∈ cols := by
  unfold stepS
  split
  · exact h
  · intro p hp
    simp only [pivS, List.mem_append, List.mem_singleton, List.length_append, List.length_singleton] at hp ⊢
    rcases hp with hp | rfl
    · exact ⟨by have := (h p hp).1; omega, (h p hp).2⟩
    · exact ⟨by simp, hk⟩
theorem foldS_piv {cols : List Nat} : ∀ (l : List Nat) (s : Sys), (∀ k ∈ l, k ∈ cols) → (∀ p ∈ s.piv, p.1 < s.piv.length ∧ p.2 ∈ cols) → ∀ p ∈ (l.foldl stepS s).piv, p.1 < (l.foldl stepS s).piv.length ∧ p.2 ∈ cols
  | [], _, _, h => h
  | k :: l, s, hl, h => foldS_piv l (stepS s k) (fun x hx => hl x (List.mem_cons_of_mem _ hx)) (stepS_piv (hl k List.mem_cons_self) h)
theorem solveS_piv (rs : List (List Int)) (cols : List Nat) (t : Bool) : ∀ p ∈ (solveS rs cols t).piv, p.1 < (solveS rs cols t).piv.length ∧ p.2 ∈ cols :=
  foldS_piv cols _ (fun _ h => h) (fun _ h => by cases h)
set_option maxRecDepth 100000 in
set_option maxHeartbeats 1600000 in
theorem solved_any (rs : List (List Int)) (b : List Int) (n m : Nat) (va vb : Value) (w : World) (hok : okM rs n m) (hn : n ≤ 900) (hm : m ≤ 900) (hbl : b.length = n) (hbr : ∀ x ∈ b, 0 ≤ x ∧ x < 65521)
    (ra : RdM w va rs) (rb : RdI w vb b) :
    Calls Tryd.prog 94 #[va, vb, .int .i64 m] w fun e w' =>
      (∃ v, e = .returned (.tuple #[v, .bool (solvedM rs b m).isSome]) ∧ OwnI w' w.heap.size v ((solvedM rs b m).getD [])) ∧ Below w.heap.size w w' := by
  have hcp := Lib.hid (copied_any rs va w ra (by rw [hok.1]; omega) (fun r hr => by have := (hok.2 r hr).1; omega))
  obtain ⟨i0, hi0, hz0, hz1, hz2⟩ := info_parts infoI
  have hmk := run_make_row' (P := Tryd.prog) 23 3 _ _ Tryd.underlying23 infoI rfl .i64 .i64 m (by omega) (by omega)
  obtain ⟨B, cb, rfl, hb1, hb2, hb3⟩ := rb.open_
  have hbl2 := Lib.hid hbl
  rw [hbl] at hb1 hb2 hb3 ⊢
  replace hb3 := Lib.hid hb3
  have hok' := Lib.hid hok
  replace hbr := Lib.hid hbr
  clear ra rb hok hbl
  go_enter Tryd.func94, Tryd.ntmps94
  go_wp2_with fail
  refine hcp.out.mono ?_; rintro e W1 ⟨⟨v, rfl, hO⟩, hB1⟩
  clear hcp
  obtain ⟨G, C, rfl⟩ : ∃ G C, v = .slice G n C := by obtain ⟨vs, h1, _⟩ := hO; rw [hok'.out.1] at h1; exact own_form h1
  replace hO := Lib.hid hO
  go_wp2
  have hbx : Below W1.heap.size W1 (W1.alloc (.cells #[.slice G n C, .bool false] 123)) := (Below.refl _ _).alloc (Nat.le_refl _) _
  have hO2 := Lib.hid (hO.out.below hbx)
  have hs2 : (W1.alloc (.cells #[.slice G n C, .bool false] 123)).heap[W1.heap.size]? = some (.cells #[.slice G n C, .bool false] 123 (0, 0)) := heap_alloc_new _ _
  have hB2 := Lib.hid (Below.then_ hB1 hbx)
  have hsb : w.heap.size ≤ W1.heap.size := hB1.size
  replace hs2 := Lib.hid hs2
  generalize W1.alloc (.cells #[.slice G n C, .bool false] 123) = X at hO2 hs2 hB2 ⊢
  generalize W1.heap.size = sb at hs2 hsb ⊢
  clear hbx hB1 hO
  go_loopw [9, 24] (fun _ i wr => ∃ k : Nat, k ≤ n ∧ i = .int .i64 k ∧ Hid (Below w.heap.size w wr) ∧ Hid (OwnM wr w.heap.size (.slice G n C) (auP rs b k)) ∧ Hid (wr.heap[sb]? = some (.cells #[.slice G n C, .bool false] 123 (0, 0)))) (fun _ i _ => n - (intOf i).toNat)
  case atStart => exact ⟨0, Nat.zero_le _, rfl, hB2, Lib.hid (by rw [auP_zero]; exact hO2.out), hs2⟩
  case round =>
    obtain ⟨k, hk, rfl, hB, hM, hs⟩ := hrel
    by_cases hlt : k < n
    · obtain ⟨g, c', u, e, hgb, hgs, hc, hf, hou, hub⟩ := hM.out.row (auP_get rs b (i := k) (by rw [hok'.out.1]; exact hlt))
      simp only [Value.slice.injEq] at e
      obtain ⟨rfl, -, -⟩ := e
      obtain ⟨b0, off0, rfl, hbc⟩ := hb3.out k hlt
      have hbc' := (hB.out.cell (p := ⟨b0, off0 + k, none⟩) (World.block_lt_of_cell? w _ hbc)).trans hbc
      have hbcw := hbc
      have hsys : wr.cell? ⟨sb, 0, none⟩ = some (.slice (some ⟨g, 0, none⟩) n C) := by simp [World.cell?, hs.out]
      have hm1 : (rs.getD k []).length = m := hok'.out.row hlt
      have hou2 := hou
      unfold OwnI at hou2
      rw [hm1] at hou2
      have hsbg : sb ≠ g := fun e => by
        obtain ⟨vs, h1, _⟩ := hM.out
        exact own_type h1 hs.out (by decide) (by rw [e]; rfl)
      have hsbu : some sb ≠ u.ownBlock := fun e => own_type hou2 hs.out (by decide) e.symm
      obtain ⟨A5, c5, rfl⟩ := own_form hou2
      replace hou := Lib.hid hou
      replace hou2 := Lib.hid hou2
      have k1 : (k : Int) < (n : Int) := by omega
      have k0 : (0 : Int) ≤ (k : Int) := by omega
      generalize hbv : b.getD k 0 = x at hbc'
      replace hbv := Lib.hid hbv
      go_wp2
      refine D_begin (fun w' => w'.cell? ⟨sb, 0, none⟩ = some (.slice (some ⟨g, 0, none⟩) n C) ∧ w'.cell? ⟨b0, off0 + k, none⟩ = some (.int .i64 x)) (fun w' => w'.cell? ⟨g, k, none⟩ = some (.slice A5 m c5)) 15 (by kernel_rfl) ?_
      change wpAnyD _ _ _ _ _ _ _ _ _ _ wr.drew
      have HS : wr.drew.cell? ⟨sb, 0, none⟩ = some (.slice (some ⟨g, 0, none⟩) n C) ∧ wr.drew.cell? ⟨b0, off0 + k, none⟩ = some (.int .i64 x) := ⟨hsys, hbc'⟩
      have HT : wr.drew.cell? ⟨g, k, none⟩ = some (.slice A5 m c5) := hc
      simp only [List.size_toArray, List.length_cons, List.length_nil, Nat.reduceAdd, Array.replicate_succ, Array.replicate_zero, List.push_toArray, List.append_toArray, List.nil_append, List.cons_append]
      refine D_take (i := 0) (v := ?_) rfl (by kernel_rfl) (by kernel_rfl) (by kernel_rfl) (by kernel_rfl) (fun _ _ _ h => h) (Or.inl ⟨by rfl, ?_⟩) HS (fun _ => HT) ?_
      rotate_left; · intro w1 hw1; obtain ⟨hw1, hw2⟩ := hw1; go_simp; try with_reducible rfl
      try simp only [Act.put, List.setIfInBounds_toArray, List.set_cons_zero, List.set_cons_succ]
      refine D_take (i := 1) (v := ?_) rfl (by kernel_rfl) (by kernel_rfl) (by kernel_rfl) (by kernel_rfl) (fun _ _ _ h => h) (Or.inl ⟨by rfl, ?_⟩) HS (fun _ => HT) ?_
      rotate_left; · intro w1 hw1; obtain ⟨hw1, hw2⟩ := hw1; go_simp; try with_reducible rfl
      try simp only [Act.put, List.setIfInBounds_toArray, List.set_cons_zero, List.set_cons_succ]
      refine D_take (i := 2) (v := ?_) rfl (by kernel_rfl) (by kernel_rfl) (by kernel_rfl) (by kernel_rfl) (fun _ _ _ h => h) (Or.inl ⟨by rfl, ?_⟩) HS (fun _ => HT) ?_
      rotate_left; · intro w1 hw1; obtain ⟨hw1, hw2⟩ := hw1; go_simp; try with_reducible rfl
      try simp only [Act.put, List.setIfInBounds_toArray, List.set_cons_zero, List.set_cons_succ]
      refine D_take (i := 3) (v := ?_) rfl (by kernel_rfl) (by kernel_rfl) (by kernel_rfl) (by kernel_rfl) (fun _ _ _ h => h) (Or.inl ⟨by rfl, ?_⟩) HS (fun _ => HT) ?_
      rotate_left; · intro w1 hw1; obtain ⟨hw1, hw2⟩ := hw1; go_simp; try with_reducible rfl
      try simp only [Act.put, List.setIfInBounds_toArray, List.set_cons_zero, List.set_cons_succ]
      refine D_take (i := 4) (v := ?_) rfl (by kernel_rfl) (by kernel_rfl) (by kernel_rfl) (by kernel_rfl) (fun _ _ _ h => h) (Or.inl ⟨by rfl, ?_⟩) HS (fun _ => HT) ?_
      rotate_left; · intro w1 hw1; obtain ⟨hw1, hw2⟩ := hw1; go_simp; try with_reducible rfl
      try simp only [Act.put, List.setIfInBounds_toArray, List.set_cons_zero, List.set_cons_succ]
      refine D_take (i := 5) (v := ?_) rfl (by kernel_rfl) (by kernel_rfl) (by kernel_rfl) (by kernel_rfl) (fun _ _ _ h => h) (Or.inl ⟨by rfl, ?_⟩) HS (fun _ => HT) ?_
      rotate_left; · intro w1 hw1; obtain ⟨hw1, hw2⟩ := hw1; go_simp; try with_reducible rfl
      try simp only [Act.put, List.setIfInBounds_toArray, List.set_cons_zero, List.set_cons_succ]
      refine D_take (i := 6) (v := ?_) rfl (by kernel_rfl) (by kernel_rfl) (by kernel_rfl) (by kernel_rfl) (fun _ _ _ h => h) (Or.inl ⟨by rfl, ?_⟩) HS (fun _ => HT) ?_
      rotate_left; · intro w1 hw1; obtain ⟨hw1, hw2⟩ := hw1; go_simp; try with_reducible rfl
      try simp only [Act.put, List.setIfInBounds_toArray, List.set_cons_zero, List.set_cons_succ]
      refine D_load (i := 7) (v := ?_) rfl (by kernel_rfl) (by kernel_rfl) (by kernel_rfl) (by kernel_rfl) (by kernel_rfl) (by kernel_rfl) (fun _ _ _ h => h) (Or.inl ⟨by rfl, ?_⟩) HS HT ?_
      rotate_left; · intro w1 hw1; obtain ⟨⟨hw1, hw2⟩, hw3⟩ := hw1; go_simp; try with_reducible rfl
      try simp only [Act.put, List.setIfInBounds_toArray, List.set_cons_zero, List.set_cons_succ]
      refine D_take (i := 8) (v := ?_) rfl (by kernel_rfl) (by kernel_rfl) (by kernel_rfl) (by kernel_rfl) (fun _ _ _ h => h) (Or.inl ⟨by rfl, ?_⟩) HS (fun _ => HT) ?_
      rotate_left; · intro w1 hw1; obtain ⟨hw1, hw2⟩ := hw1; go_simp; try with_reducible rfl
      try simp only [Act.put, List.setIfInBounds_toArray, List.set_cons_zero, List.set_cons_succ]
      refine D_take (i := 9) (v := ?_) rfl (by kernel_rfl) (by kernel_rfl) (by kernel_rfl) (by kernel_rfl) (fun _ _ _ h => h) (Or.inl ⟨by rfl, ?_⟩) HS (fun _ => HT) ?_
      rotate_left; · intro w1 hw1; obtain ⟨hw1, hw2⟩ := hw1; go_simp; try with_reducible rfl
      try simp only [Act.put, List.setIfInBounds_toArray, List.set_cons_zero, List.set_cons_succ]
      refine D_take (i := 10) (v := ?_) rfl (by kernel_rfl) (by kernel_rfl) (by kernel_rfl) (by kernel_rfl) (fun _ _ _ h => h) (Or.inl ⟨by rfl, ?_⟩) HS (fun _ => HT) ?_
      rotate_left; · intro w1 hw1; obtain ⟨hw1, hw2⟩ := hw1; go_simp; try with_reducible rfl
      try simp only [Act.put, List.setIfInBounds_toArray, List.set_cons_zero, List.set_cons_succ]
      refine D_take (i := 11) (v := ?_) rfl (by kernel_rfl) (by kernel_rfl) (by kernel_rfl) (by kernel_rfl) (fun _ _ _ h => h) (Or.inl ⟨by rfl, ?_⟩) HS (fun _ => HT) ?_
      rotate_left; · intro w1 hw1; obtain ⟨hw1, hw2⟩ := hw1; go_simp; try with_reducible rfl
      try simp only [Act.put, List.setIfInBounds_toArray, List.set_cons_zero, List.set_cons_succ]
      refine D_one (i := 12) (by kernel_rfl) rfl ?_
      intro K hK
      rw [if_pos (by rfl)]
      go_simp
      have hbX : Below wr.heap.size wr (wr.alloc (.cells #[.int .i64 x] 3)).drew := ((Below.refl _ _).alloc (Nat.le_refl _) _).drew
      have HS1 := And.intro ((hbX.cell (p := ⟨sb, 0, none⟩) (World.block_lt_of_cell? wr _ hsys)).trans hsys) ((hbX.cell (p := ⟨b0, off0 + k, none⟩) (World.block_lt_of_cell? wr _ hbc')).trans hbc')
      have HT1 := (hbX.cell (p := ⟨g, k, none⟩) (World.block_lt_of_cell? wr _ hc)).trans hc
      have HF1 := (hbX.frozen (p := ⟨g, k, none⟩) (World.block_lt_of_cell? wr _ hc)).trans hf
      refine hK _ _ HS1 (fun _ _ => HT1) ?_
      try simp only [List.setIfInBounds_toArray, List.set_cons_zero, List.set_cons_succ]
      clear hK K
      refine D_one (i := 13) (by kernel_rfl) rfl ?_
      intro K hK
      refine step_append_lies _ (by rfl) _ _ _ (by rfl) w.heap.size 3 i0 _ 1 8 Tryd.underlying23 hi0 hz0 hz1 hz2 rfl (by omega) (.slice A5 m c5) m (ints (rs.getD k [])) (by rfl) (own_below hou2.out hbX) ⟨wr.heap.size, 0, none⟩ 1 1 [.int .i64 x] (by rfl) (by rfl) (World.news_of_block (cs := #[.int .i64 x]) (t := 3) (fr := (0, 0)) (heap_alloc_new wr _)) (by simp [Value.oneCell']) (by omega) (by unfold maxLen; omega) (by omega) (by have := hB.out.size; simp; omega) (wr.heap.size + 1) (by simp) ?_
      intro gg cap w1 hown1 hgrow hat hlt1
      have hgb' : g < ((wr.alloc (.cells #[.int .i64 x] 3)).drew).heap.size := by simp; omega
      have HT2 := (hgrow.cell_far ⟨g, k, none⟩ hgb' (Ne.symm hub)).trans HT1
      have HF2 := (hgrow.frozen_far ⟨g, k, none⟩ hgb' (Ne.symm hub)).trans HF1
      have hslt : sb < wr.heap.size := World.block_lt_of_cell? wr _ hsys
      have hb0w : b0 < w.heap.size := World.block_lt_of_cell? w _ hbcw
      have hb0r : b0 < wr.heap.size := World.block_lt_of_cell? wr _ hbc'
      have hbu : some b0 ≠ (Value.slice A5 m c5).ownBlock := fun e => by have := (hou2.out.lt b0 e.symm).1; omega
      have HS2 := And.intro ((hgrow.cell_far ⟨sb, 0, none⟩ (by simp; omega) hsbu).trans HS1.1) ((hgrow.cell_far ⟨b0, off0 + k, none⟩ (by simp; omega) hbu).trans HS1.2)
      refine hK _ _ HS2 (fun _ _ => HT2) ?_
      try simp only [Act.put, List.setIfInBounds_toArray, List.set_cons_zero, List.set_cons_succ]
      clear hK K
      refine D_take (i := 14) (v := ?_) rfl (by kernel_rfl) (by kernel_rfl) (by kernel_rfl) (by kernel_rfl) (fun _ _ _ h => h) (Or.inl ⟨by rfl, ?_⟩) HS2 (fun _ => HT2) ?_
      rotate_left; · intro w1 hw1; obtain ⟨hw1, hw2⟩ := hw1; go_simp; try with_reducible rfl
      try simp only [Act.put, List.setIfInBounds_toArray, List.set_cons_zero, List.set_cons_succ]
      refine D_one (i := 15) (by kernel_rfl) rfl ?_
      intro K hK
      rw [if_pos (by rfl)]
      go_simp
      have hgw : b0 ≠ g := by omega
      refine hK _ _ ⟨(World.cell?_of_block (w := w1) (a := ⟨sb, 0, none⟩) (Below.heap_setCell _ _ _ _ hsbg)).trans HS2.1, (World.cell?_of_block (w := w1) (a := ⟨b0, off0 + k, none⟩) (Below.heap_setCell _ _ _ _ hgw)).trans HS2.2⟩ (fun h _ => absurd rfl h) ?_
      clear hK K
      refine D_done (by kernel_rfl) ?_ _
      have hM1 := (hM.out.below hbX).upd (auP_get rs b (i := k) (by rw [hok'.out.1]; exact hlt)) HT1 hgrow (v' := .slice (some ⟨gg, 0, none⟩) (m + 1) cap) (r' := rs.getD k [] ++ [b.getD k 0]) (by
        unfold OwnI
        rw [List.length_append, hm1, ints_append, hbv.out]
        exact hown1) (by
        rcases hat with h | h
        · exact .inr (.inl h.symm)
        · exact .inr (.inr ⟨gg, rfl, by simp; omega⟩))
      rw [auP_set] at hM1
      have hB3 : Below w.heap.size w (w1.setCell ⟨g, k, none⟩ (.slice (some ⟨gg, 0, none⟩) (m + 1) cap)) :=
        ((Below.then_ hB.out hbX).grown hgrow (by have := hB.out.size; simp; omega) (fun j hj => (hou2.out.lt j hj).1)).setCell hgb _
      have hs3 : (w1.setCell ⟨g, k, none⟩ (.slice (some ⟨gg, 0, none⟩) (m + 1) cap)).heap[sb]? = some (.cells #[.slice (some ⟨g, 0, none⟩) n C, .bool false] 123 (0, 0)) := by
        rw [Below.heap_setCell _ _ _ _ hsbg, hgrow.block sb (by simp; omega) hsbu, hbX.block sb hslt]
        exact hs.out
      replace hM1 := Lib.hid hM1
      replace hB3 := Lib.hid hB3
      replace hs3 := Lib.hid hs3
      clear HS HT HS1 HT1 HF1 HS2 HT2 HF2 hown1 hgrow hat
      go_wp2
      go_roundw
      case rel => exact ⟨k + 1, by omega, by go_num, hB3, hM1, hs3⟩
      case measure => simp [intOf]; omega
    · obtain rfl : n = k := by omega
      have hM' : OwnM wr w.heap.size (.slice G n C) (augM rs b) := by rw [← auP_end, hok'.out.1]; exact hM.out
      have hka : Hid (okM (augM rs b) n (m + 1)) := Lib.hid (okM_aug hok'.out hbr.out hbl2.out)
      obtain ⟨vs, hV⟩ := hM'.v
      replace hV := Lib.hid hV
      have hnum := Lib.hid (numbers_any m wr (by omega))
      clear hM hM' hO2 hs2 hB2
      go_wp2_with fail
      refine hnum.out.mono ?_; rintro e W2 ⟨rfl, hn2, hb2⟩
      have hrev := Lib.hid (Reverse_any _ m wr.heap.size wr.heap.size m W2 hn2 (by omega))
      go_wp2_with fail
      refine hrev.out.mono ?_; rintro e W3 ⟨rfl, hn3, hk3⟩
      rw [natI_rev] at hn3
      have hb3 : Below wr.heap.size wr W3 := hb2.trans (hk3.below hb2.size (fun u hu k hk => by
        rw [List.mem_singleton.1 hu] at hk; simp [Value.ownBlock] at hk; omega))
      obtain ⟨_, cur, hcur⟩ := hn3.block
      have hV3 := hV.out.kept hb3
      have hsv := solve_any (augM rs b) (List.range m).reverse n (m + 1) sb wr.heap.size w.heap.size (.slice G n C) false cur m vs W3 hV3 hka.out (by omega) (by omega) (by simp; omega) (fun k hk => by have := List.mem_range.1 (List.mem_reverse.1 hk); omega)
        ((hb3.block sb (lt_of_block hs.out)).trans hs.out) hsb hcur (fun u hu e => by have := (hV.out.ge u hu _ e).2; omega) (fun j k hj => by
          have hj' := (List.getElem?_eq_some_iff.1 hj).1
          have := (hn3.num (k := j) (by simpa [natI] using hj')).1
          rw [this, natI, List.getD_eq_getElem?_getD, List.getElem?_map, hj]; rfl)
      rw [show (List.range m).reverse.length = m from by simp] at hsv
      have hcbl : wr.heap.size < W3.heap.size := lt_of_block hcur
      have hpv := solveS_piv (augM rs b) (List.range m).reverse false
      have hX0 : Hid (sysM rs b m = solveS (augM rs b) (List.range m).reverse false) := Lib.hid rfl
      generalize solveS (augM rs b) (List.range m).reverse false = S at hsv hpv hX0
      replace hpv := Lib.hid hpv
      replace hsv := Lib.hid hsv
      have hB3 := Lib.hid (hB.out.trans (hb3.mono hB.out.size))
      clear hnum hrev hn2 hk3 hb2 hcur hn3 hV3 hb3
      go_wp2_with fail
      refine hsv.out.mono ?_; rintro e W4 ⟨lv, rfl, hI⟩
      obtain ⟨A6, c6, rfl⟩ := own_form hI.piv
      have hI4 := Lib.hid hI
      have hb5 : Below W4.heap.size W4 (W4.alloc (.cells (madeCells #[.int .i64 0] m) 3)) := (Below.refl _ _).alloc (Nat.le_refl _) _
      have hx5 := OwnI_made W4 W4.heap.size m (Nat.le_refl _) (by unfold maxLen; omega)
      have hB4 : Below w.heap.size w W4 := hB3.out.trans hI.below
      have hfew := hI.few
      replace hx5 := Lib.hid hx5
      replace hb5 := Lib.hid hb5
      have hcb4 : Hid (wr.heap.size < W4.heap.size) := Lib.hid (Nat.lt_of_lt_of_le hcbl hI.below.size)
      replace hB4 := Lib.hid hB4
      generalize hL : S.piv.length = L at hfew ⊢
      replace hL := Lib.hid hL
      clear hI hsv
      go_wp2
      generalize W4.alloc (.cells (madeCells #[.int .i64 0] m) 3) = W5 at hx5 hb5 ⊢
      obtain ⟨wo, rfl⟩ : ∃ wo : World, wo = wr := ⟨_, rfl⟩
      go_loopw [15, 56] (fun _ i wr => ∃ k : Nat, k ≤ L ∧ i = .int .i64 k ∧ Hid (Below W4.heap.size W4 wr) ∧ Hid (OwnI wr W4.heap.size (.slice (some ⟨W4.heap.size, 0, none⟩) m m) (xP S m k))) (fun _ i _ => L - (intOf i).toNat)
      case atStart => exact ⟨0, Nat.zero_le _, rfl, hb5, hx5⟩
      case round =>
        obtain ⟨i, hi, rfl, hbw, hx⟩ := hrel
        have hI5 := Lib.hid (hI4.out.kept hbw.out hB4.out.size hcb4.out)
        by_cases hil : i < L
        · obtain ⟨p, hp⟩ : ∃ p, S.piv[i]? = some p := ⟨_, List.getElem?_eq_getElem (by rw [hL.out]; exact hil)⟩
          obtain ⟨gl, cl, e, hgl1, hgl2⟩ := hI5.out.piv.form (by rw [hL.out]; omega)
          simp only [Value.slice.injEq] at e
          obtain ⟨rfl, -, -⟩ := e
          have hpc := pivCells_get hp
          have c1 := hI5.out.piv.cellAt (i * 2) (by rw [hL.out]; omega)
          have c2 := hI5.out.piv.cellAt (i * 2 + 1) (by rw [hL.out]; omega)
          rw [hpc.1] at c1
          rw [hpc.2] at c2
          replace hp := Lib.hid hp
          have i1 : (i : Int) < (L : Int) := by omega
          have i0 : (0 : Int) ≤ (i : Int) := by omega
          clear hpc
          have hpp := hpv.out p (List.mem_of_getElem? hp.out)
          rw [hL.out] at hpp
          have hp2 : p.2 < m := by have := List.mem_range.1 (List.mem_reverse.1 hpp.2); omega
          have hp1 : p.1 < n := by omega
          obtain ⟨vs6, hV6, _⟩ := hI5.out.mem
          obtain ⟨u6, hu6⟩ : ∃ u, vs6[p.1]? = some u := ⟨_, List.getElem?_eq_getElem (by rw [hV6.len, hI5.out.ok.1]; exact hp1)⟩
          have hr6 : S.rows[p.1]? = some (S.rows.getD p.1 []) := by rw [List.getD_eq_getElem?_getD, List.getElem?_eq_getElem (by rw [hI5.out.ok.1]; exact hp1)]; rfl
          obtain ⟨g6, c6', e, -, -, hcu, -⟩ := hV6.at_ hr6 hu6
          simp only [Value.slice.injEq] at e
          obtain ⟨rfl, -, -⟩ := e
          obtain ⟨g7, c7, rfl, -, -, hcn, -⟩ := hV6.num hr6 hu6 (k := m) (by rw [hI5.out.ok.row hp1]; omega)
          rw [hI5.out.ok.row hp1] at hcu
          change wr.cell? _ = some (.int .i64 (gM S.rows p.1 m)) at hcn
          have hsys : wr.cell? ⟨sb, 0, none⟩ = some (.slice (some ⟨g6, 0, none⟩) n C) := by simp [World.cell?, hI5.out.sys]
          obtain ⟨hxc, hxf⟩ := hx.out.num (k := p.2) (by rw [xP_len]; exact hp2)
          have hb6 : Below wr.heap.size wr (wr.alloc (.cells #[.int .i64 p.1, .int .i64 p.2] 132)) := (Below.refl _ _).alloc (Nat.le_refl _) _
          have d0 : (wr.alloc (.cells #[.int .i64 p.1, .int .i64 p.2] 132)).cell? ⟨wr.heap.size, 0, none⟩ = some (.int .i64 p.1) := by simp only [World.cell?, heap_alloc_new]; rfl
          have d1 : (wr.alloc (.cells #[.int .i64 p.1, .int .i64 p.2] 132)).cell? ⟨wr.heap.size, 1, none⟩ = some (.int .i64 p.2) := by simp only [World.cell?, heap_alloc_new]; rfl
          have d2 := (hb6.cell (p := ⟨sb, 0, none⟩) (World.block_lt_of_cell? wr _ hsys)).trans hsys
          have d3 := (hb6.cell (p := ⟨g6, p.1, none⟩) (World.block_lt_of_cell? wr _ hcu)).trans hcu
          have d4 := (hb6.cell (p := ⟨g7, m, none⟩) (World.block_lt_of_cell? wr _ hcn)).trans hcn
          have d5 := (hb6.cell (p := ⟨W4.heap.size, p.2, none⟩) (World.block_lt_of_cell? wr _ hxc)).trans hxc
          have d6 := (hb6.frozen (p := ⟨W4.heap.size, p.2, none⟩) (World.block_lt_of_cell? wr _ hxc)).trans hxf
          have hfin := Lib.hid (((hx.out.below hb6).put p.2 (gM S.rows p.1 m)))
          rw [← xP_succ S m hp.out] at hfin
          have hbf := Lib.hid ((hbw.out.trans (hb6.mono hbw.out.size)).setCell (p := ⟨W4.heap.size, p.2, none⟩) (Nat.le_refl _) (.int .i64 (gM S.rows p.1 m)))
          clear hcu hcn hsys hxc hxf hpp
          generalize (xP S m i).getD p.2 0 = x0 at d5
          generalize gM S.rows p.1 m = y at d4 hfin hbf
          obtain ⟨pr, pc⟩ := p
          replace hp1 : pr < n := hp1
          replace hp2 : pc < m := hp2
          have j1 : (pr : Int) < (n : Int) := by omega
          have j0 : (0 : Int) ≤ (pr : Int) := by omega
          have j3 : (pc : Int) < (m : Int) := by omega
          have j2 : (0 : Int) ≤ (pc : Int) := by omega
          have j5 : (m : Int) < (m : Int) + 1 := by omega
          have j4 : (0 : Int) ≤ (m : Int) := by omega
          go_wp2
          generalize wr.alloc (.cells #[.int .i64 pr, .int .i64 pc] 132) = W6 at d0 d1 d2 d3 d4 d5 d6 hfin hbf ⊢
          go_still_tail 13, (by kernel_rfl)
          change wpList _ _ _ _ _ W6.drew
          go_wp2
          go_roundw
          case rel => exact ⟨i + 1, by omega, by go_num, Lib.hid hbf.out.drew, Lib.hid (hfin.out.below (Below.refl _ _).drew)⟩
          case measure => simp [intOf]; omega
        · obtain rfl : L = i := by omega
          have hxf : Hid (OwnI wr W4.heap.size (.slice (some ⟨W4.heap.size, 0, none⟩) m m) (fillX S m)) := Lib.hid (by
            have := hx.out
            rwa [xP, ← hL.out, List.take_length] at this)
          obtain ⟨vs6, hV6, _⟩ := hI5.out.mem
          replace hV6 := Lib.hid hV6
          have hsys : wr.cell? ⟨sb, 0, none⟩ = some (.slice G n C) := by simp [World.cell?, hI5.out.sys]
          have hBE : Hid (Below w.heap.size w wr) := Lib.hid (hB4.out.trans (hbw.out.mono hB4.out.size))
          have hW4 : w.heap.size ≤ W4.heap.size := hB4.out.size
          obtain ⟨g, hGg⟩ : ∃ g, G = some ⟨g, 0, none⟩ ∨ (G = none ∧ C = 0) := by
            rcases hV6.out.outer.2 with ⟨e, e2⟩ | ⟨g, cap, cur, e, _⟩
            · simp only [Value.slice.injEq] at e
              exact ⟨0, .inr ⟨e.1, e.2.2⟩⟩
            · simp only [Value.slice.injEq] at e
              exact ⟨g, .inl e.1⟩
          have hnC : n ≤ C := by
            rcases hV6.out.outer.2 with ⟨e, e2⟩ | ⟨g, cap, cur, e, _, _, h, _⟩
            · rw [hI5.out.ok.1] at e2; omega
            · simp only [Value.slice.injEq] at e
              rw [hI5.out.ok.1] at h; omega
          clear hx
          have hrl : Hid (S.rows.length = n) := Lib.hid hI5.out.ok.1
          by_cases hCL : C = L
          · subst hCL
            have hres : Hid (solvedM rs b m = some (fillX S m)) := Lib.hid (solvedM_some hX0.out hrl.out hL.out (fun i h1 h2 => by omega))
            obtain rfl : n = C := by omega
            go_wp2
            refine wp_loop_rounds 1 ?_
            rw [rounds_succ]
            go_wp2
            go_ret2
            rw [hres.out]
            exact ⟨⟨_, rfl, hxf.out.base hW4⟩, hBE.out⟩
          · rcases hGg with rfl | ⟨_, h0⟩
            · have l1 : (L : Int) < (C : Int) := by omega
              go_wp2
              go_loop [17, 80] (fun _ i => ∃ k : Nat, k ≤ n - L ∧ i = .int .i64 k ∧ Hid (∀ j, L ≤ j → j < L + k → gM S.rows j m = 0)) (fun _ i => n - L - (intOf i).toNat)
              case atStart => exact ⟨0, Nat.zero_le _, rfl, Lib.hid (fun j h1 h2 => by omega)⟩
              case round =>
                obtain ⟨k, hk, rfl, hz⟩ := hrel
                by_cases hkl : k < n - L
                · obtain ⟨u8, hu8⟩ : ∃ u, vs6[L + k]? = some u := ⟨_, List.getElem?_eq_getElem (by rw [hV6.out.len, hrl.out]; omega)⟩
                  have hr8 : S.rows[L + k]? = some (S.rows.getD (L + k) []) := by rw [List.getD_eq_getElem?_getD, List.getElem?_eq_getElem (by rw [hrl.out]; omega)]; rfl
                  obtain ⟨g6, c6', e, -, -, hcu, -⟩ := hV6.out.at_ hr8 hu8
                  simp only [Value.slice.injEq, Option.some.injEq, Addr.mk.injEq, and_true] at e
                  obtain ⟨rfl, -, -⟩ := e
                  obtain ⟨g7, c7, rfl, -, -, hcn, -⟩ := hV6.out.num hr8 hu8 (k := m) (by rw [hI5.out.ok.row (by omega)]; omega)
                  rw [hI5.out.ok.row (show L + k < n by omega)] at hcu
                  change wr.cell? _ = some (.int .i64 (gM S.rows (L + k) m)) at hcn
                  replace hu8 := Lib.hid hu8
                  replace hr8 := Lib.hid hr8
                  have j5 : (m : Int) < (m : Int) + 1 := by omega
                  have j4 : (0 : Int) ≤ (m : Int) := by omega
                  have j1 : (k : Int) < ((n - L : Nat) : Int) := by omega
                  have j0 : (0 : Int) ≤ (k : Int) := by omega
                  by_cases hne : gM S.rows (L + k) m = 0
                  · rw [hne] at hcn
                    replace hne := Lib.hid hne
                    go_wp2
                    go_round
                    case rel => exact ⟨k + 1, by omega, by go_num, Lib.hid (fun j h1 h2 => by
                      by_cases e : j = L + k
                      · rw [e]; exact hne.out
                      · exact hz.out j h1 (by omega))⟩
                    case measure => simp [intOf]; omega
                  · have hne' : (gM S.rows (L + k) m != 0) = true := by rw [bne_iff_ne]; exact hne
                    have hres : Hid (solvedM rs b m = none) := Lib.hid (solvedM_none hX0.out hrl.out hL.out (show L ≤ L + k by omega) (by omega) hne)
                    replace hne := Lib.hid hne
                    go_wp2
                    go_ret2
                    rw [hres.out]
                    exact ⟨⟨_, rfl, OwnI_nil _ _⟩, hBE.out⟩
                · have hres : Hid (solvedM rs b m = some (fillX S m)) := Lib.hid (solvedM_some hX0.out hrl.out hL.out (fun i h1 h2 => hz.out i h1 (by omega)))
                  obtain rfl : k = n - L := by omega
                  go_wp2
                  go_ret2
                  rw [hres.out]
                  exact ⟨⟨_, rfl, hxf.out.base hW4⟩, hBE.out⟩
            · omega
end Go.Proofs.YtfljkcmijnhgkaaDoor

namespace Go.Proofs.YtfljkcmijnhgkaaDoor
open Go.RowKit Go.Shelf
/-- What Solve tells. -/
def solR (a : List (List Int)) (b : List Int) : Int × List Int :=
  if checkM a ≠ 0 then (checkM a, []) else if b.length ≠ a.length then (4, []) else if isRes b = false then (3, [])
  else match solvedM a b (len0 a) with | none => (6, []) | some x => (0, x)
/-- What Solve leaves. -/
def RowErr (r : Int × List Int) (w : World) (e : Ending) (w' : World) : Prop := ∃ v, e = .returned (.tuple #[v, .int .i64 r.1]) ∧ OwnI w' w.heap.size v r.2 ∧ Below w.heap.size w w'
set_option maxHeartbeats 800000 in
theorem Solve_any (a : List (List Int)) (b : List Int) (va vb : Value) (w : World) (ha : RdM w va a) (hb : RdI w vb b) :
    Calls Tryd.prog 22 #[va, vb] w (RowErr (solR a b) w) := by
  have hc := Lib.hid (Check_any a va w ha)
  by_cases h0 : checkM a = 0
  · obtain ⟨hok, h1, h2, h3, h4⟩ := checkM_ok h0
    obtain ⟨A, c, e, l1, l2, l3⟩ := ha.open_
    obtain ⟨A', c', e', -⟩ := hb.open_
    by_cases hl : b.length = a.length
    · have hi := Lib.hid (fun W (hW : Below w.heap.size w W) => is_any b vb W (hb.below hW (Nat.le_refl _)))
      have hlI : ((b.length : Int) != (a.length : Int)) = false := by rw [hl]; simp
      cases hr : isRes b
      · have hs : Hid (solR a b = (3, [])) := by rw [solR, if_neg (by simpa using h0), if_neg (by simpa using hl), if_pos hr]; exact rfl
        rw [hr] at hi
        rw [h0] at hc
        subst e e'
        clear l3 ha hb hok h0
        generalize a.length = n at *
        generalize b.length = m at *
        subst hl
        go_enter Tryd.func22, Tryd.ntmps22
        go_wp2_with fail
        refine hc.out.mono ?_; rintro e W ⟨rfl, hB⟩
        go_wp2_with fail
        refine (hi.out W hB).mono ?_; rintro e W2 ⟨rfl, hB2⟩
        go_wp2
        go_ret2
        rw [hs.out]
        exact ⟨_, rfl, OwnI_nil _ _, Below.then_ hB hB2⟩
      · have hs : Hid (solR a b = match solvedM a b (len0 a) with | none => (6, []) | some x => (0, x)) := by
          rw [solR, if_neg (by simpa using h0), if_neg (by simpa using hl), if_neg (by simp [hr])]; exact rfl
        obtain ⟨b0, off, u, rfl, hcell, hu⟩ := l3 0 (by omega)
        obtain ⟨A1, c1, rfl, f1, f2⟩ := hu.cell_
        change _ = some (Value.slice A1 (len0 a) c1) at hcell
        rw [Nat.add_zero] at hcell
        have hlt : b0 < w.heap.size := World.block_lt_of_cell? w _ hcell
        have hsv := Lib.hid (fun W (hW : Below w.heap.size w W) => solved_any a b a.length (len0 a) va vb W hok (by omega) (by omega) hl (isRes_iff.1 hr) (ha.below hW (Nat.le_refl _)) (hb.below hW (Nat.le_refl _)))
        rw [hr] at hi
        rw [h0] at hc
        subst e e'
        clear l3 hu ha hb hok f1 f2 h0 hr
        generalize solvedM a b (len0 a) = S at *
        generalize solR a b = R at *
        generalize a.length = n at *
        generalize len0 a = m at *
        generalize b.length = l at *
        subst hl
        have n1 : (0 : Int) < (l : Int) := by omega
        go_enter Tryd.func22, Tryd.ntmps22
        go_wp2_with fail
        refine hc.out.mono ?_; rintro e W ⟨rfl, hB⟩
        go_wp2_with fail
        refine (hi.out W hB).mono ?_; rintro e W2 ⟨rfl, hB2⟩
        have hB3 := Lib.hid (Below.then_ hB hB2)
        have hcell2 := (hB3.out.cell (p := ⟨b0, off, none⟩) hlt).trans hcell
        clear hB hB2
        go_wp2_with fail
        refine (hsv.out W2 hB3.out).mono ?_; rintro e W3 ⟨⟨v, rfl, hO⟩, hB4⟩
        replace hO := Lib.hid hO
        have hB5 := Lib.hid (Below.then_ hB3.out hB4)
        clear hB4
        cases S with
        | none =>
          simp only [Option.isSome_none] at hO ⊢
          go_wp2
          go_ret2
          rw [hs.out]
          exact ⟨_, rfl, OwnI_nil _ _, hB5.out⟩
        | some x =>
          simp only [Option.isSome_some, Option.getD_some] at hO ⊢
          go_wp2
          go_ret2
          rw [hs.out]
          exact ⟨_, rfl, hO.out.base hB3.out.size, hB5.out⟩
    · have hs : Hid (solR a b = (4, [])) := by rw [solR, if_neg (by simpa using h0), if_pos (by simpa using hl)]; exact rfl
      have hne : ((b.length : Int) != (a.length : Int)) = true := by rw [bne_iff_ne]; omega
      rw [h0] at hc
      subst e e'
      clear l3 ha hb hok h0
      generalize a.length = n at *
      generalize b.length = m at *
      go_enter Tryd.func22, Tryd.ntmps22
      go_wp2_with fail
      refine hc.out.mono ?_; rintro e W ⟨rfl, hB⟩
      go_wp2
      go_ret2
      rw [hs.out]
      exact ⟨_, rfl, OwnI_nil _ _, hB⟩
  · have hs : Hid (solR a b = (checkM a, [])) := by rw [solR, if_pos h0]; exact rfl
    have hne : (checkM a != 0) = true := by rw [bne_iff_ne]; exact h0
    generalize checkM a = x at *
    clear ha hb h0
    go_enter Tryd.func22, Tryd.ntmps22
    go_wp2_with fail
    refine hc.out.mono ?_; rintro e W ⟨rfl, hB⟩
    go_wp2
    go_ret2
    rw [hs.out]
    exact ⟨_, rfl, OwnI_nil _ _, hB⟩
end Go.Proofs.YtfljkcmijnhgkaaDoor

namespace Go.Proofs.YtfljkcmijnhgkaaDoor
open Go.RowKit Go.Shelf
theorem solveN_any (rs : List (List Int)) (n m k sb base : Nat) (v : Value) (W W2 : World) (hM : OwnM W base v rs) (hok : okM rs n m) (hn : n ≤ 900) (hm : m ≤ 900) (hk : k ≤ m)
    (hs : W.heap[sb]? = some (.cells #[v, .bool false] 123 (0, 0))) (hsb : base ≤ sb)
    (hn2 : OwnI W2 W.heap.size (.slice (some ⟨W.heap.size, 0, none⟩) k k) (natI (List.range k))) (hb2 : Below W.heap.size W W2) :
    Calls Tryd.prog 126 #[.pointer (some ⟨sb, 0, none⟩), .slice (some ⟨W.heap.size, 0, none⟩) k k] W2 fun e w' =>
      ∃ lv, e = .returned (.tuple #[lv, .int .i64 (solveS rs (List.range k) false).det]) ∧ SolveInv W2 w' base sb W.heap.size n m v lv (solveS rs (List.range k) false) := by
  obtain ⟨vs, hV⟩ := hM.v
  obtain ⟨_, cur, hcur⟩ := hn2.block
  have hsv := solve_any rs (List.range k) n m sb W.heap.size base v false cur k vs W2 (hV.kept hb2) hok (by omega) (by omega) (by simp; omega) (fun q hq => by have := List.mem_range.1 hq; omega)
    ((hb2.block sb (lt_of_block hs)).trans hs) hsb hcur (fun u hu e => by have := (hV.ge u hu _ e).2; omega) (fun j q hj => by
      have hj' := (List.getElem?_eq_some_iff.1 hj).1
      have := (hn2.num (k := j) (by simpa [natI] using hj')).1
      rw [this, natI, List.getD_eq_getElem?_getD, List.getElem?_map, hj]; rfl)
  rwa [show (List.range k).length = k from by simp] at hsv

/-- The determinant by the program's elimination. -/
def detM (rs : List (List Int)) : Int :=
  let s := solveS rs (List.range rs.length) false
  if s.piv.length < rs.length then 0 else if s.turned then (65521 - s.det) % 65521 else s.det
def detR (rs : List (List Int)) : Int × Int := if squareM rs ≠ 0 then (0, squareM rs) else (detM rs, 0)
def rankR (rs : List (List Int)) : Int × Int := if checkM rs ≠ 0 then (0, checkM rs) else ((solveS rs (List.range (len0 rs)) false).piv.length, 0)
theorem tmod_65521 {x : Int} (h : 0 ≤ x) : x.tmod 65521 = x % 65521 := Int.tmod_eq_emod_of_nonneg h
set_option maxHeartbeats 800000 in
theorem determinant_any (rs : List (List Int)) (n : Nat) (v : Value) (w : World) (hok : okM rs n n) (hn : n ≤ 900) (h : RdM w v rs) :
    Calls Tryd.prog 102 #[v] w fun e w' => e = .returned (.int .i64 (detM rs)) ∧ Below w.heap.size w w' := by
  have hcp := Lib.hid (copied_any rs v w h (by rw [hok.1]; omega) (fun r hr => by have := (hok.2 r hr).1; omega))
  obtain ⟨A, c, rfl, l1, l2, l3⟩ := h.open_
  rw [hok.1] at l1 l2 hcp ⊢
  replace hok := Lib.hid hok
  clear h l3
  go_enter Tryd.func102, Tryd.ntmps102
  go_wp2_with fail
  refine hcp.out.mono ?_; rintro e W1 ⟨⟨v1, rfl, hO⟩, hB1⟩
  clear hcp
  obtain ⟨G, C, rfl⟩ : ∃ G C, v1 = .slice G n C := by obtain ⟨vs, h1, _⟩ := hO; rw [hok.out.1] at h1; exact own_form h1
  replace hO := Lib.hid hO
  have hbx : Below W1.heap.size W1 (W1.alloc (.cells #[.slice G n C, .bool false] 123)) := (Below.refl _ _).alloc (Nat.le_refl _) _
  have hO2 := Lib.hid (hO.out.below hbx)
  have hs2 : (W1.alloc (.cells #[.slice G n C, .bool false] 123)).heap[W1.heap.size]? = some (.cells #[.slice G n C, .bool false] 123 (0, 0)) := heap_alloc_new _ _
  have hB2 := Lib.hid (Below.then_ hB1 hbx)
  have hsb : w.heap.size ≤ W1.heap.size := hB1.size
  replace hs2 := Lib.hid hs2
  go_wp2_with fail
  generalize W1.alloc (.cells #[.slice G n C, .bool false] 123) = X at hO2 hs2 hB2 ⊢
  generalize W1.heap.size = sb at hs2 hsb ⊢
  clear hbx hB1 hO
  refine (numbers_any n X (by omega)).mono ?_; rintro e W2 ⟨rfl, hn2, hb2⟩
  have hsv := Lib.hid (solveN_any rs n n n sb w.heap.size _ X W2 hO2.out hok.out hn hn (Nat.le_refl _) hs2.out hsb hn2 hb2)
  go_wp2_with fail
  refine hsv.out.mono ?_; rintro e W4 ⟨lv, rfl, hI⟩
  obtain ⟨A6, c6, rfl⟩ := own_form hI.piv
  have hsys : W4.cell? ⟨sb, 1, none⟩ = some (.bool (solveS rs (List.range n) false).turned) := by simp [World.cell?, hI.sys]
  have hdet := hI.det
  have hfew := hI.few
  have hB4 := Lib.hid (hB2.out.trans ((hb2.mono hB2.out.size).trans hI.below))
  have hd : Hid (detM rs = if (solveS rs (List.range n) false).piv.length < n then 0 else if (solveS rs (List.range n) false).turned then (65521 - (solveS rs (List.range n) false).det) % 65521 else (solveS rs (List.range n) false).det) := by
    unfold detM; rw [hok.out.1]; exact rfl
  clear hsv hI hn2 hO2 hb2 hs2 hB2
  generalize solveS rs (List.range n) false = S at hsys hdet hfew hd ⊢
  generalize S.det = D at *
  generalize S.turned = T at *
  generalize S.piv.length = L at *
  obtain ⟨d1, d2⟩ := hdet
  by_cases hL : L < n
  · have hLI : (L : Int) < (n : Int) := by omega
    have hr : Hid (detM rs = 0) := Lib.hid (by rw [hd.out, if_pos hL])
    go_wp2
    go_ret
    exact ⟨by rw [hr.out]; rfl, hB4.out⟩
  · have hLI : ¬ (L : Int) < (n : Int) := by omega
    cases T
    · have hr : Hid (detM rs = D) := Lib.hid (by rw [hd.out, if_neg hL]; rfl)
      go_wp2
      go_ret
      exact ⟨by rw [hr.out]; rfl, hB4.out⟩
    · have hw2 : (65521 - D).tmod 65521 = -D % 65521 := by rw [tmod_65521 (by omega)]; omega
      have hr : Hid (detM rs = -D % 65521) := Lib.hid (by rw [hd.out, if_neg hL, if_pos rfl]; omega)
      go_wp2
      go_ret
      exact ⟨by rw [hr.out]; rfl, hB4.out⟩
set_option maxHeartbeats 800000 in
theorem Det_any (rs : List (List Int)) (v : Value) (w : World) (h : RdM w v rs) :
    Calls Tryd.prog 28 #[v] w fun e w' => e = .returned (.tuple #[.int .i64 (detR rs).1, .int .i64 (detR rs).2]) ∧ Below w.heap.size w w' := by
  have hc := Lib.hid (square_any rs v w h)
  by_cases h0 : squareM rs = 0
  · obtain ⟨hok, h1, h2⟩ := squareM_ok h0
    have hr : Hid (detR rs = (detM rs, 0)) := Lib.hid (by rw [detR, if_neg (by simpa using h0)])
    have hd := Lib.hid (fun W (hW : Below w.heap.size w W) => determinant_any rs rs.length v W hok (by omega) (h.below hW (Nat.le_refl _)))
    rw [h0] at hc
    clear h h0 hok
    go_enter Tryd.func28, Tryd.ntmps28
    go_wp2_with fail
    refine hc.out.mono ?_; rintro e W ⟨rfl, hb⟩
    go_wp2_with fail
    refine (hd.out W hb).mono ?_; rintro e W2 ⟨rfl, hb2⟩
    go_wp2
    go_ret2
    exact ⟨by rw [hr.out]; rfl, Below.then_ hb hb2⟩
  · have hr : Hid (detR rs = (0, squareM rs)) := Lib.hid (by rw [detR, if_pos h0])
    have hne : (squareM rs != 0) = true := by rw [bne_iff_ne]; exact h0
    generalize squareM rs = x at *
    clear h h0
    go_enter Tryd.func28, Tryd.ntmps28
    go_wp2_with fail
    refine hc.out.mono ?_; rintro e W ⟨rfl, hb⟩
    go_wp2
    go_ret2
    exact ⟨by rw [hr.out]; rfl, hb⟩
set_option maxHeartbeats 800000 in
theorem Rank_any (rs : List (List Int)) (v : Value) (w : World) (h : RdM w v rs) :
    Calls Tryd.prog 53 #[v] w fun e w' => e = .returned (.tuple #[.int .i64 (rankR rs).1, .int .i64 (rankR rs).2]) ∧ Below w.heap.size w w' := by
  have hc := Lib.hid (Check_any rs v w h)
  by_cases h0 : checkM rs = 0
  · obtain ⟨hok, h1, h2, h3, h4⟩ := checkM_ok h0
    have hr : Hid (rankR rs = (((solveS rs (List.range (len0 rs)) false).piv.length : Int), 0)) := Lib.hid (by rw [rankR, if_neg (by simpa using h0)])
    have hcp := Lib.hid (fun W (hW : Below w.heap.size w W) => copied_any rs v W (h.below hW (Nat.le_refl _)) (by omega) (fun r hr => by have := (hok.2 r hr).1; omega))
    obtain ⟨A, c, rfl, l1, l2, l3⟩ := h.open_
    obtain ⟨b0, off, u, rfl, hcell, hu⟩ := l3 0 (by omega)
    obtain ⟨A1, c1, rfl, f1, f2⟩ := hu.cell_
    change _ = some (Value.slice A1 (len0 rs) c1) at hcell
    rw [Nat.add_zero] at hcell
    have hlt : b0 < w.heap.size := World.block_lt_of_cell? w _ hcell
    rw [h0] at hc
    clear l3 hu h f1 f2 h0
    generalize rs.length = n at *
    generalize len0 rs = m at *
    have n1 : (0 : Int) < (n : Int) := by omega
    replace hok := Lib.hid hok
    go_enter Tryd.func53, Tryd.ntmps53
    go_wp2_with fail
    refine hc.out.mono ?_; rintro e W ⟨rfl, hb⟩
    go_wp2_with fail
    refine (hcp.out W hb).mono ?_; rintro e W1 ⟨⟨v1, rfl, hO⟩, hB1⟩
    obtain ⟨G, C, rfl⟩ : ∃ G C, v1 = .slice G n C := by obtain ⟨vs, h1, _⟩ := hO; rw [hok.out.1] at h1; exact own_form h1
    replace hO := Lib.hid (hO.base hb.size)
    replace hB1 := Below.then_ hb hB1
    have hbx : Below W1.heap.size W1 (W1.alloc (.cells #[.slice G n C, .bool false] 123)) := (Below.refl _ _).alloc (Nat.le_refl _) _
    have hO2 := Lib.hid (hO.out.below hbx)
    have hs2 : (W1.alloc (.cells #[.slice G n C, .bool false] 123)).heap[W1.heap.size]? = some (.cells #[.slice G n C, .bool false] 123 (0, 0)) := heap_alloc_new _ _
    have hB2 := Lib.hid (Below.then_ hB1 hbx)
    have hsb : w.heap.size ≤ W1.heap.size := hB1.size
    replace hs2 := Lib.hid hs2
    have hcell2 := (hB2.out.cell (p := ⟨b0, off, none⟩) hlt).trans hcell
    go_wp2_with fail
    generalize W1.alloc (.cells #[.slice G n C, .bool false] 123) = X at hO2 hs2 hB2 hcell2 ⊢
    generalize W1.heap.size = sb at hs2 hsb ⊢
    clear hbx hB1 hO hb
    refine (numbers_any m X (by omega)).mono ?_; rintro e W2 ⟨rfl, hn2, hb2⟩
    have hsv := Lib.hid (solveN_any rs n m m sb w.heap.size _ X W2 hO2.out hok.out (by omega) (by omega) (Nat.le_refl _) hs2.out hsb hn2 hb2)
    go_wp2_with fail
    refine hsv.out.mono ?_; rintro e W4 ⟨lv, rfl, hI⟩
    obtain ⟨A6, c6, rfl⟩ := own_form hI.piv
    have hfew := hI.few
    have hB4 := Lib.hid (hB2.out.trans ((hb2.mono hB2.out.size).trans hI.below))
    clear hsv hI hn2 hO2 hb2 hs2 hB2
    generalize solveS rs (List.range m) false = S at *
    generalize S.det = D at *
    generalize S.piv.length = L at *
    go_wp2
    go_ret2
    exact ⟨by rw [hr.out]; rfl, hB4.out⟩
  · have hr : Hid (rankR rs = (0, checkM rs)) := Lib.hid (by rw [rankR, if_pos h0])
    have hne : (checkM rs != 0) = true := by rw [bne_iff_ne]; exact h0
    generalize checkM rs = x at *
    clear h h0
    go_enter Tryd.func53, Tryd.ntmps53
    go_wp2_with fail
    refine hc.out.mono ?_; rintro e W ⟨rfl, hb⟩
    go_wp2
    go_ret2
    exact ⟨by rw [hr.out]; rfl, hb⟩
end Go.Proofs.YtfljkcmijnhgkaaDoor
