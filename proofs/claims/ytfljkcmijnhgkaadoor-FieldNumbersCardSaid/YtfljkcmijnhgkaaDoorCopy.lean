/- Clone, copied, numbers, Reverse: their contracts. -/
import Derived.Test.YtfljkcmijnhgkaaDoorOwnV
import Derived.Test.YtfljkcmijnhgkaaDoorPure
import Derived.Deep.OwnRows
namespace Go.Proofs.YtfljkcmijnhgkaaDoor
open Go.RowKit

theorem OwnI_nil (w : World) (base : Nat) : OwnI w base (.slice none 0 0) [] := World.ownsRow_nil _ _ _ _
set_option maxRecDepth 100000 in
set_option maxHeartbeats 400000 in
theorem Clone_any (xs : List Int) (v : Value) (w : World) (h : RdI w v xs) (hn : xs.length ≤ 1000000) :
    Calls Tryd.prog 57 #[v] w fun e w' => (∃ v', e = .returned v' ∧ OwnI w' w.heap.size v' xs) ∧ Below w.heap.size w w' := by
  obtain ⟨i0, hi, hz0, hz1, hz2⟩ := info_parts infoI
  have h' := h
  obtain ⟨A, c, rfl, h1, h2, h3⟩ := h'
  rw [ints_len] at *
  cases A with
  | none =>
    have hx : xs = [] := by
      rcases Nat.eq_zero_or_pos xs.length with e | e
      · exact List.eq_nil_of_length_eq_zero e
      · obtain ⟨b, off, e2, _⟩ := h3 e; cases e2
    subst hx
    clear h h3
    have heq := fun w => Lib.run_eql_slice_nil (P := Tryd.prog) w 23 3 none 0 c 0 0 Tryd.underlying23
    go_enter Tryd.func57, Tryd.ntmps57
    go_wp2
    go_ret
    exact ⟨⟨_, rfl, OwnI_nil _ _⟩, Below.refl _ _⟩
  | some ad =>
    have heq := fun w => Lib.run_eql_slice_nil (P := Tryd.prog) w 23 3 (some ad) xs.length c 0 0 Tryd.underlying23
    have hnews : Hid (∀ j u, (ints xs)[j]? = some u → (w.alloc (.cells #[] 3)).cell? (ad.add j) = some u) := Lib.hid (fun j u hj => by
      have hj' := (List.getElem?_eq_some_iff.1 hj).1
      rw [ints_len] at hj'
      obtain ⟨b, off, e, h4⟩ := h3 (by omega)
      cases e
      have hc := h4 j u hj
      have : (⟨b, off, none⟩ : Addr).add j = ⟨b, off + j, none⟩ := by unfold Addr.add; split <;> simp_all
      rw [this]
      exact (((Below.refl w.heap.size w).alloc (Nat.le_refl _) (.cells #[] 3)).cell (p := ⟨b, off + j, none⟩) (World.block_lt_of_cell? w _ hc)).trans hc)
    have hown : (w.alloc (.cells #[] 3)).ownsRow w.heap.size 3 1 (.slice (some ⟨w.heap.size, 0, none⟩) 0 0) 0 [] := World.ownsRow_made w #[] 0 (Nat.le_refl _) (by unfold maxLen; omega) rfl
    replace hown := Lib.hid hown
    have hone : Hid (∀ u ∈ ints xs, u.oneCell' = true) := Lib.hid (fun u hu => by obtain ⟨x, _, rfl⟩ := List.mem_map.1 hu; rfl)
    have hlen : Hid ((ints xs).length = xs.length * 1) := Lib.hid (by rw [ints_len]; omega)
    clear h h3
    go_enter Tryd.func57, Tryd.ntmps57
    go_wp2_with (at_builtin; (refine wpList_append_own_at _ rfl _ _ 23 rfl w.heap.size 3 i0 _ 1 8 Tryd.underlying23 hi hz0 hz1 hz2 rfl (by omega) (.slice (some ⟨w.heap.size, 0, none⟩) 0 0) 0 [] rfl hown.out ad xs.length c (ints xs) rfl hlen.out hnews.out hone.out (by unfold maxLen; omega) (by omega) (by simp) ?_); intro v' w1 hown1 hgrow _ _)
    simp only [Nat.zero_add, List.nil_append] at hown1
    replace hown1 := Lib.hid hown1
    replace hgrow := Lib.hid hgrow
    go_wp2
    go_ret
    exact ⟨⟨_, rfl, hown1.out⟩, ((Below.refl _ _).alloc (Nat.le_refl _) _).grown hgrow.out (by simp) (fun k hk => by simp [Value.ownBlock] at hk; omega)⟩

/-- Rows before i copied. -/
def cpP (rs : List (List Int)) (i : Nat) : List (List Int) := (List.range rs.length).map fun j => if j < i then rs.getD j [] else []
theorem cpP_zero (rs : List (List Int)) : cpP rs 0 = List.replicate rs.length [] := by
  apply List.ext_getElem (by simp [cpP])
  intro j h1 h2
  simp [cpP]
theorem cpP_end (rs : List (List Int)) : cpP rs rs.length = rs := by
  apply List.ext_getElem (by simp [cpP])
  intro j h1 h2
  simp [cpP, List.getD_eq_getElem?_getD, h2]
theorem cpP_len (rs : List (List Int)) (i : Nat) : (cpP rs i).length = rs.length := by simp [cpP]
theorem cpP_get (rs : List (List Int)) {i : Nat} (hi : i < rs.length) : (cpP rs i)[i]? = some [] := by
  rw [cpP, List.getElem?_map, List.getElem?_range hi, Option.map_some, if_neg (by omega)]
theorem cpP_set (rs : List (List Int)) (i : Nat) : (cpP rs i).set i (rs.getD i []) = cpP rs (i + 1) := by
  apply List.ext_getElem (by simp [cpP])
  intro j h1 h2
  rw [List.getElem_set]
  simp only [cpP, List.getElem_map, List.getElem_range]
  by_cases e : i = j
  · subst e; rw [if_pos rfl, if_pos (by omega)]
  · rw [if_neg e]
    by_cases h : j < i
    · rw [if_pos h, if_pos (by omega)]
    · rw [if_neg h, if_neg (by omega)]
set_option maxRecDepth 100000 in
set_option maxHeartbeats 800000 in
theorem copied_any (rs : List (List Int)) (v : Value) (w : World) (h : RdM w v rs) (hn : rs.length ≤ 1000000) (hm : ∀ r ∈ rs, r.length ≤ 1000000) :
    Calls Tryd.prog 125 #[v] w fun e w' => (∃ v', e = .returned v' ∧ OwnM w' w.heap.size v' rs) ∧ Below w.heap.size w w' := by
  have hr := h
  obtain ⟨A, c, rfl, h1, h2, h3⟩ := h.open_
  have hmk := run_make_row' (P := Tryd.prog) 22 23 _ _ Tryd.underlying22 infoR rfl .i64 .i64 rs.length (by omega) (by omega)
  have h0 := OwnM_made w w.heap.size rs.length (Nat.le_refl _) (by unfold maxLen; omega)
  rw [← cpP_zero rs] at h0
  have hB0 : Below w.heap.size w (w.alloc (.cells (madeCells #[.slice none 0 0] rs.length) 23)) := (Below.refl _ _).alloc (Nat.le_refl _) _
  have hml : Hid (∀ i, i < rs.length → (rs.getD i []).length ≤ 1000000) := Lib.hid (fun i hi => hm _ (by rw [List.getD_eq_getElem?_getD, List.getElem?_eq_getElem hi]; exact List.getElem_mem _))
  replace h3 := Lib.hid h3
  replace h0 := Lib.hid h0
  generalize hN : rs.length = n at *
  replace hN := Lib.hid hN
  clear h hr hm
  go_enter Tryd.func125, Tryd.ntmps125
  go_wp2
  generalize w.alloc (.cells (madeCells #[.slice none 0 0] n) 23) = w1 at h0 hB0 ⊢
  go_loopw [4, 10] (fun _ i wr => ∃ k : Nat, k ≤ n ∧ i = .int .i64 k ∧ Below w.heap.size w wr ∧ Hid (OwnM wr w.heap.size (.slice (some ⟨w.heap.size, 0, none⟩) n n) (cpP rs k))) (fun _ i _ => n - (intOf i).toNat)
  case atStart => exact ⟨0, Nat.zero_le _, rfl, hB0, h0⟩
  case round =>
    obtain ⟨k, hk, rfl, hB, hM⟩ := hrel
    by_cases hlt : k < n
    · obtain ⟨b, off, u, rfl, hc, hu⟩ := h3.out k hlt
      have hc' := (hB.cell (p := ⟨b, off + k, none⟩) (World.block_lt_of_cell? w _ hc)).trans hc
      have hcl := Lib.hid (Clone_any (rs.getD k []) u wr (hu.below hB (Nat.le_refl _)) (hml.out k hlt))
      have hg0 := cpP_get rs (i := k) (by rw [hN.out]; exact hlt)
      obtain ⟨_, hgs, u0, hc0, hf0, ho0, hub⟩ := hM.out.row' hg0
      replace ho0 := Lib.hid ho0
      replace hg0 := Lib.hid hg0
      replace hub := Lib.hid hub
      clear hc hu
      have k1 : (k : Int) < (n : Int) := by omega
      have k0 : (0 : Int) ≤ (k : Int) := by omega
      go_wp2_with fail
      refine hcl.out.mono ?_; rintro e w2 ⟨⟨v2, rfl, ho2⟩, hb2⟩
      have hc2 := (hb2.cell (p := ⟨w.heap.size, k, none⟩) (World.block_lt_of_cell? wr _ hc0)).trans hc0
      have hf2 := (hb2.frozen (p := ⟨w.heap.size, k, none⟩) (World.block_lt_of_cell? wr _ hc0)).trans hf0
      have hup := hM.out.upd hg0.out hc0 (grown_of_below hb2 _) (ho2.base hB.size) (by
        cases e : v2.ownBlock with
        | none => exact .inl rfl
        | some q => exact .inr (.inr ⟨q, rfl, (World.ownsRow.lt ho2 q e).1⟩))
      rw [cpP_set] at hup
      replace hup := Lib.hid hup
      obtain ⟨A2, c2, rfl⟩ : ∃ A2 c2, v2 = .slice A2 (rs.getD k []).length c2 := by
        rcases ho2.2 with ⟨e, e2⟩ | ⟨g, cap, cur, e, _⟩
        · exact ⟨none, 0, by rw [e, e2]⟩
        · exact ⟨_, cap, e⟩
      replace ho2 := Lib.hid ho2
      go_wp2
      go_roundw
      case rel => exact ⟨k + 1, by omega, by go_num, (Below.then_ hB hb2).setCell (Nat.le_refl _) _, hup⟩
      case measure => simp [intOf]; omega
    · obtain rfl : n = k := by omega
      go_wp2
      go_ret
      exact ⟨⟨_, rfl, by have := hM.out; rwa [← hN.out, cpP_end, hN.out] at this⟩, hB⟩
end Go.Proofs.YtfljkcmijnhgkaaDoor
