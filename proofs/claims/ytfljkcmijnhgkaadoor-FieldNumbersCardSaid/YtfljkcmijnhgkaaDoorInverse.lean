/- Inverse: the walk. -/
import Derived.Test.YtfljkcmijnhgkaaDoorInvs
namespace Go.Proofs.YtfljkcmijnhgkaaDoor
open Go.RowKit Go.Shelf
set_option linter.unusedSimpArgs false

theorem Btw.grown {lo hi : Nat} {w w' : World} {row : Option Nat} (hg : w.grownBy w' row) (hr : ∀ k, row = some k → lo ≤ k ∧ k < hi) : Btw lo hi w w' :=
  ⟨hg.os, hg.tape, hg.output, hg.size, fun k hk hn => hg.block k hk (fun e => by have := hr k e.symm; omega)⟩
theorem Btw.setCell {lo hi : Nat} {w w' : World} (h : Btw lo hi w w') {p : Addr} (h1 : lo ≤ p.block) (h2 : p.block < hi) (u : Value) : Btw lo hi w (w'.setCell p u) :=
  h.trans ⟨rfl, rfl, rfl, by simp [World.setCell], fun k _ hk => Below.heap_setCell _ _ _ _ (by omega)⟩
/-- A result that is a matrix in new memory, and an error. -/
def FreshRes (r : Int × List (List Int)) (w : World) (e : Ending) (w' : World) : Prop :=
  ∃ v, e = .returned (.tuple #[v, .int .i64 r.1]) ∧ RdM w' v r.2 ∧ FreshV w.heap.size w'.heap.size w' v r.2.length (fun k => (r.2.getD k []).length) ∧ Below w.heap.size w w'
theorem RdM_nil (w : World) : RdM w (.slice none 0 0) [] := ⟨[], ⟨none, 0, rfl, Nat.le_refl _, by simp, fun h => by simp at h⟩, rfl, fun j r u h => by simp at h⟩
theorem FreshV_nil (lo hi : Nat) (w : World) (ls : Nat → Nat) : FreshV lo hi w (.slice none 0 0) 0 ls := ⟨none, 0, rfl, Nat.le_refl _, by omega, fun h => by omega⟩
theorem MatErr.fresh {r : Int × List (List Int)} {w : World} {e : Ending} {w' : World} (h : MatErr r w e w') (hn : r.2.length ≤ 140737488355328) (hm : ∀ x ∈ r.2, x.length ≤ 140737488355328) : FreshRes r w e w' := by
  obtain ⟨v, rfl, hO, hB⟩ := h
  exact ⟨v, rfl, hO.rd hn hm, hO.fresh hn hm, hB⟩
set_option maxRecDepth 100000 in
set_option maxHeartbeats 3200000 in
theorem Inverse_any (rs : List (List Int)) (v : Value) (w : World) (h : RdM w v rs) :
    Calls Tryd.prog 54 #[v] w (FreshRes (invMR rs) w) := by
  have hsq := Lib.hid (square_any rs v w h)
  by_cases h0 : squareM rs = 0
  · obtain ⟨hok, h1, h2⟩ := squareM_ok h0
    rw [h0] at hsq
    have hcp := Lib.hid (fun W (hW : Below w.heap.size w W) => copied_any rs v W (h.below hW (Nat.le_refl _)) (by omega) (fun r hr => by have := (hok.2 r hr).1; omega))
    obtain ⟨i0, hi0, hz0, hz1, hz2⟩ := info_parts infoI
    obtain ⟨A, c, rfl, l1, l2, -⟩ := h.open_
    have hR : Hid (invMR rs = if (invS rs).piv.length < rs.length then (6, []) else (0, (invS rs).rows.map (·.drop rs.length))) := Lib.hid (by rw [invMR, if_neg (by simpa using h0)])
    have hS0 : Hid (invS rs = solveS (idAug rs) (List.range rs.length) false) := Lib.hid rfl
    have hrl : Hid (rs.length = rs.length) := Lib.hid rfl
    clear h h0
    generalize hN : rs.length = n at hsq hok h1 h2 hcp l1 l2 hR hS0 ⊢
    clear hrl
    replace hN := Lib.hid hN
    replace hok := Lib.hid hok
    go_enter Tryd.func54, Tryd.ntmps54
    go_wp2_with fail
    refine hsq.out.mono ?_; rintro e W0 ⟨rfl, hB0⟩
    clear hsq
    go_wp2_with fail
    refine (hcp.out W0 hB0).mono ?_; rintro e W1 ⟨⟨v1, rfl, hO⟩, hB1⟩
    clear hcp
    obtain ⟨G, C, rfl⟩ : ∃ G C, v1 = .slice G n C := by obtain ⟨vs, h1, _⟩ := hO; rw [hN.out] at h1; exact own_form h1
    have hbx : Below W1.heap.size W1 (W1.alloc (.cells #[.slice G n C, .bool false] 123)) := (Below.refl _ _).alloc (Nat.le_refl _) _
    have hO2 := Lib.hid ((hO.below hbx).base hB0.size)
    have hs2 : (W1.alloc (.cells #[.slice G n C, .bool false] 123)).heap[W1.heap.size]? = some (.cells #[.slice G n C, .bool false] 123 (0, 0)) := heap_alloc_new _ _
    have hB2 := Lib.hid (Below.then_ (Below.then_ hB0 hB1) hbx)
    have hsb : w.heap.size ≤ W1.heap.size := Nat.le_trans hB0.size hB1.size
    obtain ⟨g, hg, hgs⟩ : ∃ g, G = some ⟨g, 0, none⟩ ∧ g < W1.heap.size := by
      obtain ⟨vs, h3, _⟩ := hO
      obtain ⟨g, c', e, _, h4⟩ := h3.form (by rw [hN.out]; omega)
      simp only [Value.slice.injEq] at e
      exact ⟨g, e.1, h4⟩
    subst hg
    replace hs2 := Lib.hid hs2
    have hXs : W1.heap.size < (W1.alloc (.cells #[.slice (some ⟨g, 0, none⟩) n C, .bool false] 123)).heap.size := by simp
    clear hO
    go_wp2_with fail
    generalize W1.alloc (.cells #[.slice (some ⟨g, 0, none⟩) n C, .bool false] 123) = X at hO2 hs2 hB2 hXs ⊢
    have hgX : g < X.heap.size := by omega
    generalize W1.heap.size = sb at hs2 hsb hXs ⊢
    clear hbx hB1 hB0 hgs
    refine (identity_any n X (by omega)).mono ?_; rintro e W3 ⟨⟨vI, rfl, hOI⟩, hBI⟩
    obtain ⟨GI, CI, rfl⟩ : ∃ G C, vI = .slice G n C := by obtain ⟨vs, h1, _⟩ := hOI; rw [(okM_id n).1] at h1; exact own_form h1
    have hBI2 := Lib.hid hBI
    have hOI2 := Lib.hid hOI
    have hw3 : Hid (X.heap.size ≤ W3.heap.size) := Lib.hid hBI.size
    clear hBI hOI
    go_wp2
    go_loopw [7, 8, 25] (fun _ _ i wr => ∃ k : Nat, k ≤ n ∧ i = .int .i64 k ∧ Hid (Below w.heap.size w wr) ∧ Hid (wr.heap[sb]? = some (.cells #[.slice (some ⟨g, 0, none⟩) n C, .bool false] 123 (0, 0))) ∧ Hid (Btw 0 X.heap.size W3 wr) ∧ Hid (∃ vs, OwnMv wr w.heap.size (.slice (some ⟨g, 0, none⟩) n C) (iaP rs k) vs ∧ ∀ j u, k ≤ j → vs[j]? = some u → ∀ b, u.ownBlock = some b → b < X.heap.size)) (fun _ _ i _ => n - (intOf i).toNat)
    case atStart =>
      refine ⟨0, Nat.zero_le _, rfl, Lib.hid (Below.then_ hB2.out hBI2.out), Lib.hid ((hBI2.out.block _ hXs).trans hs2.out), Lib.hid (Btw.refl _ _ _), Lib.hid ?_⟩
      obtain ⟨vs, hv⟩ := hO2.out.v
      exact ⟨vs, by rw [iaP_zero]; exact hv.kept hBI2.out, fun j u _ hu b hb => (hv.ge u (List.mem_of_getElem? hu) b hb).2⟩
    case round =>
      obtain ⟨k, hk, rfl, hB, hs, hT, hM⟩ := hrel
      by_cases hlt : k < n
      · obtain ⟨vs, hV, hlo⟩ := hM.out
        have hrow := iaP_get rs (i := k) (by rw [hN.out]; exact hlt)
        obtain ⟨u, hu⟩ : ∃ u, vs[k]? = some u := ⟨_, List.getElem?_eq_getElem (by rw [hV.len]; simp [iaP, hN.out]; exact hlt)⟩
        obtain ⟨g', c', e, hgb, hgs, hc, hf⟩ := hV.at_ hrow hu
        simp only [Value.slice.injEq, Option.some.injEq, Addr.mk.injEq, and_true] at e
        obtain ⟨rfl, -, -⟩ := e
        have hou := hV.rows k _ _ hrow hu
        have hm1 : (rs.getD k []).length = n := hok.out.row hlt
        have hou2 := hou
        unfold OwnI at hou2
        rw [hm1] at hou2
        obtain ⟨A5, c5, rfl⟩ := own_form hou2
        have hub : ∀ b, (Value.slice A5 n c5).ownBlock = some b → w.heap.size ≤ b ∧ b < X.heap.size := fun b hb => ⟨(hou2.lt b hb).1, hlo k _ (Nat.le_refl _) hu b hb⟩
        have hOr := hT.out.ownM hOI2.out (Nat.le_refl _)
        have hir : (idM n)[k]? = some ((idM n).getD k []) := by rw [List.getD_eq_getElem?_getD, List.getElem?_eq_getElem (by rw [(okM_id n).1]; exact hlt)]; rfl
        obtain ⟨gI, cI, uI, e, hIb, hIs, hIc, -, hIo, -⟩ := hOr.row hir
        rw [(okM_id n).1] at e
        simp only [Value.slice.injEq] at e
        obtain ⟨rfl, -, rfl⟩ := e
        have hil : ((idM n).getD k []).length = n := (okM_id n).row hlt
        obtain ⟨bI, oI, cI', rfl, hI1, hI2, hnews⟩ := (hIo.rd (by omega)).src (by omega)
        rw [hil] at hI1 hI2 hIc
        have hnews := Lib.hid hnews
        have hsys : wr.cell? ⟨sb, 0, none⟩ = some (.slice (some ⟨g, 0, none⟩) n C) := by simp [World.cell?, hs.out]
        have hslt : sb < wr.heap.size := World.block_lt_of_cell? wr _ hsys
        have hsbg : sb ≠ g := fun e => by
          have h1 := hV.outer
          exact own_type h1 hs.out (by decide) (by rw [e]; rfl)
        have hsbu : some sb ≠ (Value.slice A5 n c5).ownBlock := fun e => own_type hou2 hs.out (by decide) e.symm
        have hug : (Value.slice A5 n c5).ownBlock ≠ some g := hV.outer_ne (g := g) rfl _ (List.mem_of_getElem? hu)
        have hV' := Lib.hid hV
        have hlo' := Lib.hid hlo
        have hou2' := Lib.hid hou2
        have hub' := Lib.hid hub
        have hwrX : X.heap.size ≤ wr.heap.size := Nat.le_trans hw3.out hT.out.size
        have hbwr := hB.out.size
        have k1 : (k : Int) < (n : Int) := by omega
        have k0 : (0 : Int) ≤ (k : Int) := by omega
        clear hV hlo hou hou2 hub hOr hIo hM
        go_wp2
        refine D_begin (fun w' => w'.cell? ⟨sb, 0, none⟩ = some (.slice (some ⟨g, 0, none⟩) n C)) (fun w' => w'.cell? ⟨g, k, none⟩ = some (.slice A5 n c5)) 11 (by kernel_rfl) ?_
        change wpAnyD _ _ _ _ _ _ _ _ _ _ wr.drew
        have HS : wr.drew.cell? ⟨sb, 0, none⟩ = some (.slice (some ⟨g, 0, none⟩) n C) := hsys
        have HT : wr.drew.cell? ⟨g, k, none⟩ = some (.slice A5 n c5) := hc
        simp only [List.size_toArray, List.length_cons, List.length_nil, Nat.reduceAdd, Array.replicate_succ, Array.replicate_zero, List.push_toArray, List.append_toArray, List.nil_append, List.cons_append]
        refine D_take (i := 0) (v := ?_) rfl (by kernel_rfl) (by kernel_rfl) (by kernel_rfl) (by kernel_rfl) (fun _ _ _ h => h) (Or.inl ⟨by rfl, ?_⟩) HS (fun _ => HT) ?_
        rotate_left; · intro w1 hw1; go_simp; try with_reducible rfl
        try simp only [Act.put, List.getElem_toArray, List.getElem_cons_zero, List.getElem_cons_succ, List.setIfInBounds_toArray, List.set_cons_zero, List.set_cons_succ]
        refine D_take (i := 1) (v := ?_) rfl (by kernel_rfl) (by kernel_rfl) (by kernel_rfl) (by kernel_rfl) (fun _ _ _ h => h) (Or.inl ⟨by rfl, ?_⟩) HS (fun _ => HT) ?_
        rotate_left; · intro w1 hw1; go_simp; try with_reducible rfl
        try simp only [Act.put, List.getElem_toArray, List.getElem_cons_zero, List.getElem_cons_succ, List.setIfInBounds_toArray, List.set_cons_zero, List.set_cons_succ]
        refine D_take (i := 2) (v := ?_) rfl (by kernel_rfl) (by kernel_rfl) (by kernel_rfl) (by kernel_rfl) (fun _ _ _ h => h) (Or.inl ⟨by rfl, ?_⟩) HS (fun _ => HT) ?_
        rotate_left; · intro w1 hw1; go_simp; try with_reducible rfl
        try simp only [Act.put, List.getElem_toArray, List.getElem_cons_zero, List.getElem_cons_succ, List.setIfInBounds_toArray, List.set_cons_zero, List.set_cons_succ]
        refine D_take (i := 3) (v := ?_) rfl (by kernel_rfl) (by kernel_rfl) (by kernel_rfl) (by kernel_rfl) (fun _ _ _ h => h) (Or.inl ⟨by rfl, ?_⟩) HS (fun _ => HT) ?_
        rotate_left; · intro w1 hw1; go_simp; try with_reducible rfl
        try simp only [Act.put, List.getElem_toArray, List.getElem_cons_zero, List.getElem_cons_succ, List.setIfInBounds_toArray, List.set_cons_zero, List.set_cons_succ]
        refine D_take (i := 4) (v := ?_) rfl (by kernel_rfl) (by kernel_rfl) (by kernel_rfl) (by kernel_rfl) (fun _ _ _ h => h) (Or.inl ⟨by rfl, ?_⟩) HS (fun _ => HT) ?_
        rotate_left; · intro w1 hw1; go_simp; try with_reducible rfl
        try simp only [Act.put, List.getElem_toArray, List.getElem_cons_zero, List.getElem_cons_succ, List.setIfInBounds_toArray, List.set_cons_zero, List.set_cons_succ]
        refine D_take (i := 5) (v := ?_) rfl (by kernel_rfl) (by kernel_rfl) (by kernel_rfl) (by kernel_rfl) (fun _ _ _ h => h) (Or.inl ⟨by rfl, ?_⟩) HS (fun _ => HT) ?_
        rotate_left; · intro w1 hw1; go_simp; try with_reducible rfl
        try simp only [Act.put, List.getElem_toArray, List.getElem_cons_zero, List.getElem_cons_succ, List.setIfInBounds_toArray, List.set_cons_zero, List.set_cons_succ]
        refine D_take (i := 6) (v := ?_) rfl (by kernel_rfl) (by kernel_rfl) (by kernel_rfl) (by kernel_rfl) (fun _ _ _ h => h) (Or.inl ⟨by rfl, ?_⟩) HS (fun _ => HT) ?_
        rotate_left; · intro w1 hw1; go_simp; try with_reducible rfl
        try simp only [Act.put, List.getElem_toArray, List.getElem_cons_zero, List.getElem_cons_succ, List.setIfInBounds_toArray, List.set_cons_zero, List.set_cons_succ]
        refine D_load (i := 7) (v := ?_) rfl (by kernel_rfl) (by kernel_rfl) (by kernel_rfl) (by kernel_rfl) (by kernel_rfl) (by kernel_rfl) (fun _ _ _ h => h) (Or.inl ⟨by rfl, ?_⟩) HS HT ?_
        rotate_left; · intro w1 hw1; obtain ⟨hw1, hw3⟩ := hw1; go_simp; try with_reducible rfl
        try simp only [Act.put, List.getElem_toArray, List.getElem_cons_zero, List.getElem_cons_succ, List.setIfInBounds_toArray, List.set_cons_zero, List.set_cons_succ]
        refine D_take (i := 8) (v := ?_) rfl (by kernel_rfl) (by kernel_rfl) (by kernel_rfl) (by kernel_rfl) (fun _ _ _ h => h) (Or.inl ⟨by rfl, ?_⟩) HS (fun _ => HT) ?_
        rotate_left; · intro w1 hw1; go_simp; try with_reducible rfl
        try simp only [Act.put, List.getElem_toArray, List.getElem_cons_zero, List.getElem_cons_succ, List.setIfInBounds_toArray, List.set_cons_zero, List.set_cons_succ]
        refine D_one (i := 9) (by kernel_rfl) rfl ?_
        intro K hK
        refine step_append_lies _ (by rfl) _ _ _ (by rfl) w.heap.size 3 i0 _ 1 8 Tryd.underlying23 hi0 hz0 hz1 hz2 rfl (by omega) (.slice A5 n c5) n (ints (rs.getD k [])) (by rfl) (own_below hou2'.out (Below.refl _ _).drew) ⟨bI, oI, none⟩ n cI' (ints ((idM n).getD k [])) (by rfl) (by rw [ints_len, hil]; omega) hnews.out (ints_one _) (by omega) (by unfold maxLen; omega) (by omega) hbwr wr.heap.size rfl ?_
        intro gg cap w1 hown1 hgrow hat hlt1
        have HT2 := (hgrow.cell_far ⟨g, k, none⟩ hgs (Ne.symm hug)).trans HT
        have HF2 := (hgrow.frozen_far ⟨g, k, none⟩ hgs (Ne.symm hug)).trans hf
        have HS2 := (hgrow.cell_far ⟨sb, 0, none⟩ hslt hsbu).trans HS
        refine hK _ _ HS2 (fun _ _ => HT2) ?_
        try simp only [Act.put, List.getElem_toArray, List.getElem_cons_zero, List.getElem_cons_succ, List.setIfInBounds_toArray, List.set_cons_zero, List.set_cons_succ]
        clear hK K
        refine D_take (i := 10) (v := ?_) rfl (by kernel_rfl) (by kernel_rfl) (by kernel_rfl) (by kernel_rfl) (fun _ _ _ h => h) (Or.inl ⟨by rfl, ?_⟩) HS2 (fun _ => HT2) ?_
        rotate_left; · intro w1 hw1; go_simp; try with_reducible rfl
        try simp only [Act.put, List.getElem_toArray, List.getElem_cons_zero, List.getElem_cons_succ, List.setIfInBounds_toArray, List.set_cons_zero, List.set_cons_succ]
        refine D_one (i := 11) (by kernel_rfl) rfl ?_
        intro K hK
        rw [if_pos (by rfl)]
        go_simp
        refine hK _ _ ((World.cell?_of_block (w := w1) (a := ⟨sb, 0, none⟩) (Below.heap_setCell _ _ _ _ hsbg)).trans HS2) (fun h _ => absurd rfl h) ?_
        clear hK K
        refine D_done (by kernel_rfl) ?_ _
        have hgrow2 : wr.grownBy w1 (Value.slice A5 n c5).ownBlock := ⟨hgrow.os, hgrow.tape, hgrow.output, hgrow.size, hgrow.block⟩
        have hM1 := hV'.out.upd hrow hu hgrow2 (v' := .slice (some ⟨gg, 0, none⟩) (n + n) cap) (r' := rs.getD k [] ++ (idM n).getD k []) (by
          unfold OwnI
          rw [List.length_append, hm1, hil, ints_append]
          exact hown1) (by
          rcases hat with h | h
          · exact .inr (.inl h.symm)
          · exact .inr (.inr ⟨gg, rfl, by rw [h]; exact Nat.le_refl _⟩))
        have hst : (iaP rs k).set k (rs.getD k [] ++ (idM n).getD k []) = iaP rs (k + 1) := by have := iaP_set rs k; rwa [hN.out] at this
        rw [hst] at hM1
        have hM2 : Hid (∃ vs, OwnMv (w1.setCell ⟨g, k, none⟩ (.slice (some ⟨gg, 0, none⟩) (n + n) cap)) w.heap.size (.slice (some ⟨g, 0, none⟩) n C) (iaP rs (k + 1)) vs ∧ ∀ j u, k + 1 ≤ j → vs[j]? = some u → ∀ b, u.ownBlock = some b → b < X.heap.size) :=
          Lib.hid ⟨_, hM1, fun j u hj hu b hb => by
            rw [List.getElem?_set_ne (by omega)] at hu
            exact hlo'.out j u (by omega) hu b hb⟩
        have hB3 : Below w.heap.size w (w1.setCell ⟨g, k, none⟩ (.slice (some ⟨gg, 0, none⟩) (n + n) cap)) :=
          (hB.out.grown hgrow2 hbwr (fun j hj => (hub'.out j hj).1)).setCell hgb _
        have hT3 : Btw 0 X.heap.size W3 (w1.setCell ⟨g, k, none⟩ (.slice (some ⟨gg, 0, none⟩) (n + n) cap)) :=
          (hT.out.trans (Btw.grown hgrow2 (fun j hj => ⟨Nat.zero_le _, (hub'.out j hj).2⟩))).setCell (Nat.zero_le _) hgX _
        have hs3 : (w1.setCell ⟨g, k, none⟩ (.slice (some ⟨gg, 0, none⟩) (n + n) cap)).heap[sb]? = some (.cells #[.slice (some ⟨g, 0, none⟩) n C, .bool false] 123 (0, 0)) := by
          rw [Below.heap_setCell _ _ _ _ hsbg, hgrow2.block sb hslt hsbu]
          exact hs.out
        replace hB3 := Lib.hid hB3
        replace hT3 := Lib.hid hT3
        replace hs3 := Lib.hid hs3
        clear HS HT HS2 HT2 HF2 hown1 hgrow hgrow2 hat hM1 hst
        go_wp2
        go_roundw
        case rel => exact ⟨k + 1, by omega, by go_num, hB3, hs3, hT3, hM2⟩
        case measure => simp [intOf]; omega
      · obtain rfl : n = k := by omega
        have hM' : Hid (OwnM wr w.heap.size (.slice (some ⟨g, 0, none⟩) n C) (idAug rs)) := Lib.hid (by
          obtain ⟨vs, hV, _⟩ := hM.out
          rw [← iaP_end, hN.out]; exact hV.m)
        have hka : Hid (okM (idAug rs) n (n + n)) := Lib.hid (okM_idAug hok.out)
        have hnum := Lib.hid (numbers_any n wr (by omega))
        clear hM hO2 hs2 hB2 hOI2 hBI2 hT
        go_wp2_with fail
        refine hnum.out.mono ?_; rintro e W5 ⟨rfl, hn2, hb2⟩
        have hsv := Lib.hid (solveN_any (idAug rs) n (n + n) n sb w.heap.size _ wr W5 hM'.out hka.out (by omega) (by omega) (by omega) hs.out hsb hn2 hb2)
        have hBE := Lib.hid (hB.out.trans (hb2.mono hB.out.size))
        clear hnum hM' hka hs hn2 hb2 hB
        generalize solveS (idAug rs) (List.range n) false = S at hsv hS0
        go_wp2_with fail
        refine hsv.out.mono ?_; rintro e W6 ⟨lv, rfl, hI⟩
        obtain ⟨A6, c6, rfl⟩ := own_form hI.piv
        obtain ⟨vs, hV, -⟩ := hI.mem
        have hs6 := Lib.hid hI.sys
        have hok6 := Lib.hid hI.ok
        have hB6 := Lib.hid (hBE.out.trans hI.below)
        have hfew := hI.few
        have hV6 := Lib.hid hV
        clear hsv hI hV hBE
        have hRS : Hid (invMR rs = if S.piv.length < n then (6, []) else (0, S.rows.map (·.drop n))) := Lib.hid (by rw [hR.out, hS0.out])
        generalize S.piv.length = L at hfew hRS ⊢
        clear hR hS0
        by_cases hL : L < n
        · have hLI : (L : Int) < (n : Int) := by omega
          have hr : Hid (invMR rs = (6, [])) := Lib.hid (by rw [hRS.out, if_pos hL])
          go_wp2
          go_ret2
          rw [hr.out]
          exact ⟨_, rfl, RdM_nil _, FreshV_nil _ _ _ _, hB6.out⟩
        · have hLI : ¬ (L : Int) < (n : Int) := by omega
          have hr : Hid (invMR rs = (0, S.rows.map (·.drop n))) := Lib.hid (by rw [hRS.out, if_neg hL])
          have hsys : W6.cell? ⟨sb, 0, none⟩ = some (.slice (some ⟨g, 0, none⟩) n C) := by simp [World.cell?, hs6.out]
          have hsbg : sb ≠ g := fun e => own_type hV6.out.outer hs6.out (by decide) (by rw [e]; rfl)
          have hlen6 : Hid (vs.length = n) := Lib.hid (by rw [hV6.out.len, hok6.out.1])
          have hbw6 := hB6.out.size
          have hgb : Hid (w.heap.size ≤ g ∧ g < W6.heap.size) := Lib.hid (by
            obtain ⟨g', c', e, h3, h4⟩ := hV6.out.outer.form (by rw [hok6.out.1]; omega)
            simp only [Value.slice.injEq, Option.some.injEq, Addr.mk.injEq, and_true] at e
            obtain ⟨rfl, -, -⟩ := e
            exact ⟨h3, h4⟩)
          have ho6 : Hid (W6.ownsRow w.heap.size 23 1 (.slice (some ⟨g, 0, none⟩) n C) n (cutP n vs 0)) := Lib.hid (by
            rw [cutP_zero]; have := hV6.out.outer; rwa [hok6.out.1] at this)
          clear hRS
          go_wp2
          obtain ⟨wo, rfl⟩ : ∃ wo : World, wo = wr := ⟨_, rfl⟩
          go_loopw [11, 55] (fun _ i wr => ∃ k : Nat, k ≤ n ∧ i = .int .i64 k ∧ Hid (Below w.heap.size w wr) ∧ Hid (W6.grownBy wr (some g)) ∧ Hid (wr.ownsRow w.heap.size 23 1 (.slice (some ⟨g, 0, none⟩) n C) n (cutP n vs k))) (fun _ i _ => n - (intOf i).toNat)
          case atStart => exact ⟨0, Nat.zero_le _, rfl, hB6, Lib.hid ⟨rfl, rfl, rfl, Nat.le_refl _, fun _ _ _ => rfl⟩, ho6⟩
          case round =>
            obtain ⟨k, hk, rfl, hB, hG, hO⟩ := hrel
            have hsy : wr.cell? ⟨sb, 0, none⟩ = some (.slice (some ⟨g, 0, none⟩) n C) := hG.out.cell hsys (by simpa using hsbg)
            by_cases hlt : k < n
            · have hrow : S.rows[k]? = some (S.rows.getD k []) := by rw [List.getD_eq_getElem?_getD, List.getElem?_eq_getElem (by rw [hok6.out.1]; exact hlt)]; rfl
              have hu : vs[k]? = some (vs.getD k undef) := by rw [List.getD_eq_getElem?_getD, List.getElem?_eq_getElem (by rw [hlen6.out]; exact hlt)]; rfl
              have hrl : (S.rows.getD k []).length = n + n := hok6.out.row hlt
              have hou := hV6.out.rows k _ _ hrow hu
              have hc1 := hO.out.cellAt k (by omega)
              rw [cutP_get n vs (by rw [hlen6.out]; exact hlt)] at hc1
              have hf1 := hO.out.frozenAt k
              have hst := (own_below hO.out (Below.refl _ _).drew).stored k (cutV n (vs.getD k undef))
              rw [cutP_set] at hst
              obtain ⟨hst1, hst2⟩ := hst
              unfold OwnI at hou
              rw [hrl] at hou
              obtain ⟨g1, c1, e1, hcp1⟩ : ∃ g1 c1, vs.getD k undef = .slice (some ⟨g1, 0, none⟩) (n + n) c1 ∧ n + n ≤ c1 := by
                rcases hou.2 with ⟨_, e2⟩ | ⟨g', cap, cur, e, _, _, h, _⟩
                · omega
                · exact ⟨g', cap, e, h⟩
              have ecut : cutV n (.slice (some ⟨g1, 0, none⟩) (n + n) c1) = .slice (some ⟨g1, n, none⟩) n (c1 - n) := by
                simp only [cutV, Nat.zero_add, Nat.add_sub_cancel]
              rw [e1] at hc1 hst1 hst2
              rw [ecut] at hst1 hst2
              have hst1' := Lib.hid hst1
              have hG2 : Hid (W6.grownBy (wr.drew.setCell ⟨g, k, none⟩ (.slice (some ⟨g1, n, none⟩) n (c1 - n))) (some g)) := Lib.hid
                ⟨hst2.os.trans hG.out.os, hst2.tape.trans hG.out.tape, hst2.output.trans hG.out.output, Nat.le_trans hG.out.size hst2.size, fun i hi hne => (hst2.block i (Nat.lt_of_lt_of_le hi hG.out.size) hne).trans (hG.out.block i hi hne)⟩
              have hB2 : Hid (Below w.heap.size w (wr.drew.setCell ⟨g, k, none⟩ (.slice (some ⟨g1, n, none⟩) n (c1 - n)))) := Lib.hid (hB.out.drew.setCell hgb.out.1 _)
              clear hou hst1 hst2 hu hrow hrl e1 ecut
              have k1 : (k : Int) < (n : Int) := by omega
              have k0 : (0 : Int) ≤ (k : Int) := by omega
              have k2 : c1 ≠ n := by omega
              have k3 : ¬ ((n : Int) + (n : Int) < (n : Int)) := by omega
              go_wp2
              go_still_tail 11, (by kernel_rfl)
              change wpList _ _ _ _ _ wr.drew
              go_wp2
              go_roundw
              case rel => exact ⟨k + 1, by omega, by go_num, hB2, hG2, hst1'⟩
              case measure => simp [intOf]; omega
            · obtain rfl : n = k := by omega
              have hO' : Hid (wr.ownsRow w.heap.size 23 1 (.slice (some ⟨g, 0, none⟩) n C) n (vs.map (cutV n))) := Lib.hid (by
                have := hO.out; rwa [← hlen6.out, cutP_end, hlen6.out] at this)
              have hfin := hV6.out.cut (n := n) hO'.out hG.out (by omega) (fun r hr => (hok6.out.2 r hr).1) (by omega) (by omega)
              replace hfin := Lib.hid hfin
              have hsz := hG.out.size
              go_wp2
              go_ret2
              rw [hr.out]
              exact ⟨_, rfl, hfin.out.1, by
                have := hfin.out.2.wider (Nat.le_refl _) hsz
                simpa using this, hB.out⟩
  · have hr : Hid (invMR rs = (squareM rs, [])) := Lib.hid (by rw [invMR, if_pos (by simpa using h0)])
    have hne : (squareM rs != 0) = true := by rw [bne_iff_ne]; exact h0
    have hca := squareM_cases rs
    generalize squareM rs = x at *
    clear h h0
    go_enter Tryd.func54, Tryd.ntmps54
    go_wp2_with fail
    refine hsq.out.mono ?_; rintro e W0 ⟨rfl, hB0⟩
    go_wp2
    go_ret2
    rw [hr.out]
    exact ⟨_, rfl, RdM_nil _, FreshV_nil _ _ _ _, hB0⟩
end Go.Proofs.YtfljkcmijnhgkaaDoor
