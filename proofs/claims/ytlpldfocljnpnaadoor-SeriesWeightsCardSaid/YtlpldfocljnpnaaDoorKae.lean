/- The reference's Solution The reference's determinant is the program's; inverses, found column by column, are the program's. A span of lists of residues, as layer 17's program makes it. A row is chosen A queue Automata of layer 17 as lists Layer 17 Layer 17 Layer 17 -/
import Derived.Test.YtlpldfocljnpnaaDoorKad
import Derived.Test.YtlpldfocljnpnaaDoorKac
import Derived.Deep.AppendLies
import Derived.Deep.RegionHeld3
import Derived.Deep.DeepCutAuto
import Derived.Test.YtlpldfocljnpnaaDoorKab
import Derived.Test.YtlpldfocljnpnaaDoorKaa
set_option maxRecDepth 100000
set_option maxHeartbeats 6400000
set_option linter.unusedSimpArgs false
namespace Go.Proofs.YtlpldfocljnpnaaDoor
open Go.RowKit
section
variable {P : Program} {ops : Array Oper} {Q : Exit → Act → World → Prop} {md : Region.Mode} {S T : World → Prop} {d : Nat} {i j fuel : Nat} {oi oj : Oper} {listed : Array Bool} {a : Act} {w : World}
theorem D_two (hr : Region.ready md ops listed = [i, j]) (hi : ops[i]? = some oi) (hj : ops[j]? = some oj)
  (h : ∀ K : Act → World → Prop, (∀ a' w', S w' → (i ≠ d → listed.getD d true = false → T w') → wpAnyD P md ops Q S T d fuel (listed.setIfInBounds i true) a' w' → K a' w') →
   if Region.wanted oi (yielded ops a.tmps) = true then Oper.wp P oi a w K Q else K (a.put oi.dst undef) w)
  (h2 : ∀ K : Act → World → Prop, (∀ a' w', S w' → (j ≠ d → listed.getD d true = false → T w') → wpAnyD P md ops Q S T d fuel (listed.setIfInBounds j true) a' w' → K a' w') →
   if Region.wanted oj (yielded ops a.tmps) = true then Oper.wp P oj a w K Q else K (a.put oj.dst undef) w) : wpAnyD P md ops Q S T d (fuel + 1) listed a w := by
 refine ⟨fun h0 => (by rw [hr] at h0; cases h0), fun q hq => ?_⟩
 rw [hr] at hq
 rcases List.mem_cons.1 hq with rfl | hq
 ·have h3 := h (fun a' w' => (S w' ∧ (q ≠ d → listed.getD d true = false → T w')) ∧ wpAnyD P md ops Q S T d fuel (listed.setIfInBounds q true) a' w') (fun a' w' h1 h2 h3 => ⟨⟨h1, h2⟩, h3⟩)
  unfold wpOp
  simp only [hi]
  split
  ·rename_i hw; rw [if_pos hw] at h3; exact .inl h3
  ·rename_i hw; rw [if_neg hw] at h3; exact h3
 ·obtain rfl : q = j := by simpa using hq
  have h3 := h2 (fun a' w' => (S w' ∧ (q ≠ d → listed.getD d true = false → T w')) ∧ wpAnyD P md ops Q S T d fuel (listed.setIfInBounds q true) a' w') (fun a' w' h1 h2 h3 => ⟨⟨h1, h2⟩, h3⟩)
  unfold wpOp
  simp only [hj]
  split
  ·rename_i hw; rw [if_pos hw] at h3; exact .inl h3
  ·rename_i hw; rw [if_neg hw] at h3; exact h3
end
theorem augM_len (rs : List (List Int)) (b : List Int) : (augM rs b).length = rs.length := by simp [augM]
theorem augM_take (rs : List (List Int)) (b : List Int) {k : Nat} (hk : k < rs.length) : (augM rs b).take k ++ [rs.getD k [] ++ [b.getD k 0]] = (augM rs b).take (k + 1) := by
 rw [List.take_add_one, augM, List.getElem?_map, List.getElem?_range hk]; rfl
theorem stepS_rows {s : Sys} {k : Nat} (h : ∀ (i : Nat) (p : Nat × Nat), s.piv[i]? = some p → p.1 = i) : ∀ (i : Nat) (p : Nat × Nat), (stepS s k).piv[i]? = some p → p.1 = i := by
 intro i p hp
 cases hf : findP s.rows k (s.rows.length - s.piv.length) s.piv.length with
 | none =>
  rw [show stepS s k = s from by rw [stepS, hf]] at hp
  exact h i p hp
 | some a =>
  rw [show stepS s k = pivS s k a from by rw [stepS, hf]] at hp
  simp only [pivS] at hp
  by_cases hi : i < s.piv.length
  ·rw [List.getElem?_append_left hi] at hp; exact h i p hp
  ·have hlt := (List.getElem?_eq_some_iff.1 hp).1
   have : i = s.piv.length := by simp at hlt; omega
   subst this
   rw [List.getElem?_append_right (Nat.le_refl _), Nat.sub_self] at hp
   cases hp; rfl
theorem foldS_rows : ∀ (l : List Nat) (s : Sys), (∀ (i : Nat) (p : Nat × Nat), s.piv[i]? = some p → p.1 = i) → ∀ (i : Nat) (p : Nat × Nat), (l.foldl stepS s).piv[i]? = some p → p.1 = i
 | [], _, h => h
 | _ :: l, _, h => foldS_rows l _ (stepS_rows h)
theorem solveS_rows (rs : List (List Int)) (cols : List Nat) (t : Bool) : ∀ (i : Nat) (p : Nat × Nat), (solveS rs cols t).piv[i]? = some p → p.1 = i :=
 foldS_rows cols _ (fun i p h => by simp at h)
theorem Solution_any (rs : List (List Int)) (b : List Int) (n m : Nat) (v u : Value) (w : World) (hv : RdM w v rs) (hu : RdI w u b) (hok : okM rs n m) (hbl : b.length = n) (hbb : ∀ x ∈ b, 0 ≤ x ∧ x < 65521) (hn : n ≤ 900) (hm : m ≤ 900) :
  Calls Tryd.prog 116 #[v, u, .int .i64 m] w fun e w' => (∃ p, e = .returned (.tuple #[p, .bool (solvedM rs b m).isSome]) ∧ OwnI w' w.heap.size p ((solvedM rs b m).getD [])) ∧ Below w.heap.size w w' := by
 obtain ⟨iI, hiI, hI0, hI1, hI2⟩ := info_parts infoI
 obtain ⟨iR, hiR, hR0, hR1, hR2⟩ := info_parts infoR
 obtain ⟨A, c, rfl, h1, h2, h3⟩ := hv.open_
 obtain ⟨B, d, rfl, g1, g2, g3⟩ := hu.open_
 have hr0 := hok.1
 rw [hok.1] at h1 h2 h3 ⊢
 rw [hbl] at g1 g2 g3 ⊢
 replace h3 := Lib.hid h3
 replace g3 := Lib.hid g3
 replace hr0 := Lib.hid hr0
 have hok' := Lib.hid hok
 replace hbb := Lib.hid hbb
 replace hbl := Lib.hid hbl
 clear hv hu hok
 go_enter Tryd.func116, Tryd.ntmps116
 go_wp2
 go_loopw [8, 9] (fun o ii wr => ∃ k : Nat, k ≤ n ∧ ii = .int .i64 k ∧ Hid (Below w.heap.size w wr) ∧ Hid (∃ vs, OwnMv wr w.heap.size o ((augM rs b).take k) vs)) (fun _ ii _ => n - (intOf ii).toNat)
 case atStart => exact ⟨0, Nat.zero_le _, rfl, Lib.hid (Below.refl _ _), Lib.hid ⟨[], by rw [List.take_zero]; exact OwnMv_nil _ _⟩⟩
 case round =>
  obtain ⟨k, hk, rfl, hB, hM⟩ := hrel
  by_cases hlt : k < n
  ·obtain ⟨ba, offa, ua, rfl, hca, hua⟩ := h3.out k hlt
   obtain ⟨bb, offb, rfl, hcb⟩ := g3.out k hlt
   have hrl : Hid ((rs.getD k []).length = m) := Lib.hid (hok'.out.row hlt)
   obtain ⟨Aa, da, rfl, q1, q2, -⟩ := hua.open_
   have hud := Lib.hid hua
   rw [hrl.out] at q1 q2 hca hud
   clear hua
   have htk := Lib.hid (augM_take rs b (k := k) (by rw [hr0.out]; exact hlt))
   have hkl : ((augM rs b).take k).length = k := by rw [List.length_take, augM_len, hr0.out]; omega
   obtain ⟨vs, hMv⟩ := hM.out
   have hvl := hMv.len
   rw [hkl] at hvl
   obtain ⟨A1, c1, rfl⟩ := own_shape hMv.outer
   have hk2 := Lib.hid hkl
   rw [hkl] at hMv ⊢
   replace hMv := Lib.hid hMv
   have hBs := hB.out.size
   clear hM hkl hvl
   generalize hx : b.getD k 0 = x at hcb htk
   clear hx
   generalize hrw : rs.getD k [] = row at *
   clear hrw
   have k1 : (k : Int) < (n : Int) := by omega
   have k0 : (0 : Int) ≤ (k : Int) := by omega
   have HSw : ∀ W, Below w.heap.size w W → W.cell? ⟨ba, offa + k, none⟩ = some (.slice Aa m da) ∧ W.cell? ⟨bb, offb + k, none⟩ = some (.int .i64 x) := fun W hb2 =>
    ⟨(hb2.cell (p := ⟨ba, offa + k, none⟩) (World.block_lt_of_cell? w _ hca)).trans hca, (hb2.cell (p := ⟨bb, offb + k, none⟩) (World.block_lt_of_cell? w _ hcb)).trans hcb⟩
   have HS : ∀ W, Below wr.heap.size wr W → W.cell? ⟨ba, offa + k, none⟩ = some (.slice Aa m da) ∧ W.cell? ⟨bb, offb + k, none⟩ = some (.int .i64 x) := fun W hW =>
    HSw W (hB.out.trans (hW.mono hBs))
   replace HSw := Lib.hid HSw
   replace HS := Lib.hid HS
   have hnewsW : Hid (∀ W, Below wr.heap.size wr W → RdI W (.slice Aa m da) row) := Lib.hid (fun W hW => hud.out.below (B := w.heap.size) (hB.out.trans (hW.mono hBs)) (Nat.le_refl _))
   clear hud hca hcb
   have HS0 := HS.out wr.drew (Below.refl wr.heap.size wr).drew
   go_wp2
   refine D_begin (fun w' => w'.cell? ⟨ba, offa + k, none⟩ = some (.slice Aa m da) ∧ w'.cell? ⟨bb, offb + k, none⟩ = some (.int .i64 x)) (fun _ => True) 99 (by kernel_rfl) ?_
   change wpAnyD _ _ _ _ _ _ _ _ _ _ wr.drew
   simp only [List.size_toArray, List.length_cons, List.length_nil, Nat.reduceAdd, Array.replicate_succ, Array.replicate_zero, List.push_toArray, List.append_toArray, List.nil_append, List.cons_append]
   refine Dt 0 rfl ?_ HS0 (fun _ => trivial) ?_ ?_
   rotate_left; · intro w1 hw1; obtain ⟨hw1, hw2⟩ := hw1; go_simp; try with_reducible rfl
   try simp only [Act.put, s_1, s_2, s_3, s_4, s_5, s_6]
   refine Dt 2 rfl ?_ HS0 (fun _ => trivial) ?_ ?_
   rotate_left; · intro w1 hw1; obtain ⟨hw1, hw2⟩ := hw1; go_simp; try with_reducible rfl
   try simp only [Act.put, s_1, s_2, s_3, s_4, s_5, s_6]
   refine Dt 3 rfl ?_ HS0 (fun _ => trivial) ?_ ?_
   rotate_left; · intro w1 hw1; obtain ⟨hw1, hw2⟩ := hw1; go_simp; try with_reducible rfl
   try simp only [Act.put, s_1, s_2, s_3, s_4, s_5, s_6]
   refine Dt 4 rfl ?_ HS0 (fun _ => trivial) ?_ ?_
   rotate_left; · intro w1 hw1; obtain ⟨hw1, hw2⟩ := hw1; go_simp; try with_reducible rfl
   try simp only [Act.put, s_1, s_2, s_3, s_4, s_5, s_6]
   refine Dt 5 rfl ?_ HS0 (fun _ => trivial) ?_ ?_
   rotate_left; · intro w1 hw1; obtain ⟨hw1, hw2⟩ := hw1; go_simp; try with_reducible rfl
   try simp only [Act.put, s_1, s_2, s_3, s_4, s_5, s_6]
   refine Dt 7 rfl ?_ HS0 (fun _ => trivial) ?_ ?_
   rotate_left; · intro w1 hw1; obtain ⟨hw1, hw2⟩ := hw1; go_simp; try with_reducible rfl
   try simp only [Act.put, s_1, s_2, s_3, s_4, s_5, s_6]
   refine Dt 8 rfl ?_ HS0 (fun _ => trivial) ?_ ?_
   rotate_left; · intro w1 hw1; obtain ⟨hw1, hw2⟩ := hw1; go_simp; try with_reducible rfl
   try simp only [Act.put, s_1, s_2, s_3, s_4, s_5, s_6]
   refine Dt 9 rfl ?_ HS0 (fun _ => trivial) ?_ ?_
   rotate_left; · intro w1 hw1; obtain ⟨hw1, hw2⟩ := hw1; go_simp; try with_reducible rfl
   try simp only [Act.put, s_1, s_2, s_3, s_4, s_5, s_6]
   refine Dt 10 rfl ?_ HS0 (fun _ => trivial) ?_ ?_
   rotate_left; · intro w1 hw1; obtain ⟨hw1, hw2⟩ := hw1; go_simp; try with_reducible rfl
   try simp only [Act.put, s_1, s_2, s_3, s_4, s_5, s_6]
   have hbd : Below wr.heap.size wr wr.drew := (Below.refl wr.heap.size wr).drew
   have hds : Hid (wr.drew.heap.size = wr.heap.size) := Lib.hid rfl
   clear HS0
   generalize wr.drew = Wd at hbd hds ⊢
   replace hbd := Lib.hid hbd
   have b_Wd := hbd
   refine D_two (i := 1) (j := 11) (by kernel_rfl) rfl rfl ?_ ?_
   ·intro K hK
    rw [if_pos (by rfl)]
    go_simp
    have b_W1 : Hid (Below wr.heap.size wr (Wd.alloc (.cells #[] 3))) := Lib.hid (b_Wd.out.alloc (by have := b_Wd.out.size; omega) _)
    have z_W1 : (Wd.alloc (.cells #[] 3)).heap.size = Wd.heap.size + 1 := World.size_alloc _ _
    have o_W1 : Hid ((Wd.alloc (.cells #[] 3)).ownsRow wr.heap.size 3 1 (.slice (some ⟨Wd.heap.size, 0, none⟩) 0 0) 0 []) := Lib.hid (World.ownsRow_made Wd #[] 0 (b_Wd.out.size) (by unfold maxLen; omega) rfl)
    refine hK _ _ (HS.out _ b_W1.out) (fun _ _ => trivial) ?_
    try simp only [Act.put, Nat.zero_add, List.getElem_toArray, List.getElem_cons_zero, List.getElem_cons_succ, List.setIfInBounds_toArray, List.set_cons_zero, List.set_cons_succ]
    clear hK K
    generalize hg_W1 : Wd.alloc (.cells #[] 3) = W1 at b_W1 z_W1 o_W1 ⊢
    replace hg_W1 := Lib.hid hg_W1
    replace z_W1 := Lib.hid z_W1
    refine D_two (i := 6) (j := 11) (by kernel_rfl) rfl rfl ?_ ?_
    ·intro K hK
     refine step_append_rd (by rfl) _ _ (by rfl) wr.heap.size (.slice (some ⟨Wd.heap.size, 0, none⟩) 0 0) (.slice Aa m da) 0 [] row (by rfl) (by rfl) o_W1.out (hnewsW.out _ b_W1.out) (by rw [hrl.out]; omega) (b_W1.out.size) ?_
     intro v6 W2 hown6 hgrow6 hat6
     simp only [Nat.zero_add, List.nil_append] at hown6
     rw [hrl.out] at hown6
     obtain ⟨A6, cap, rfl⟩ := own_shape hown6
     have b_W2 : Hid (Below wr.heap.size wr W2) := Lib.hid (b_W1.out.grown hgrow6 (b_W1.out.size) (fun q hq => (o_W1.out.lt q hq).1))
     have o_W2 := Lib.hid hown6
     clear hown6 hgrow6 hat6
     refine hK _ _ (HS.out _ b_W2.out) (fun _ _ => trivial) ?_
     try simp only [Act.put, Nat.zero_add, List.getElem_toArray, List.getElem_cons_zero, List.getElem_cons_succ, List.setIfInBounds_toArray, List.set_cons_zero, List.set_cons_succ]
     clear hK K
     refine D_one (i := 11) (by kernel_rfl) rfl ?_
     intro K hK
     rw [if_pos (by rfl)]
     go_simp
     have b_W3 : Hid (Below wr.heap.size wr (W2.alloc (.cells #[.int .i64 x] 3))) := Lib.hid (b_W2.out.alloc (by have := b_W2.out.size; omega) _)
     have z_W3 : (W2.alloc (.cells #[.int .i64 x] 3)).heap.size = W2.heap.size + 1 := World.size_alloc _ _
     have s_W3 : Hid (∀ j u, [Value.int .i64 x][j]? = some u → (W2.alloc (.cells #[.int .i64 x] 3)).cell? ((⟨W2.heap.size, 0, none⟩ : Addr).add j) = some u) := Lib.hid (cell_one_new W2 _ _)
     refine hK _ _ (HS.out _ b_W3.out) (fun _ _ => trivial) ?_
     try simp only [Act.put, Nat.zero_add, List.getElem_toArray, List.getElem_cons_zero, List.getElem_cons_succ, List.setIfInBounds_toArray, List.set_cons_zero, List.set_cons_succ]
     clear hK K
     have o_W3 : Hid ((W2.alloc (.cells #[.int .i64 x] 3)).ownsRow wr.heap.size 3 1 (.slice A6 m cap) m (ints row)) := Lib.hid (own_below o_W2.out ((Below.refl _ _).alloc (Nat.le_refl _) _))
     generalize hg_W3 : W2.alloc (.cells #[.int .i64 x] 3) = W3 at b_W3 z_W3 s_W3 o_W3 ⊢
     replace hg_W3 := Lib.hid hg_W3
     replace z_W3 := Lib.hid z_W3
     refine D_one (i := 12) (by kernel_rfl) rfl ?_
     intro K hK
     refine step_append_lies _ (by rfl) _ _ _ (by rfl) wr.heap.size 3 iI _ 1 8 Tryd.underlying22 hiI hI0 hI1 hI2 rfl (by omega) (.slice A6 m cap) m (ints row) (by rfl) o_W3.out ⟨W2.heap.size, 0, none⟩ 1 1 [.int .i64 x] (by rfl) (by rfl) s_W3.out (by simp [Value.oneCell']) (by omega) (by unfold maxLen; omega) (by omega) (b_W3.out.size) W3.heap.size rfl ?_
     intro g2 cap2 W4 hown4 hgrow4 hat4 hlt4
     have b_W4 : Hid (Below wr.heap.size wr W4) := Lib.hid (b_W3.out.grown hgrow4 (b_W3.out.size) (fun q hq => (o_W3.out.lt q hq).1))
     have o_W4 : Hid (OwnI W4 wr.heap.size (.slice (some ⟨g2, 0, none⟩) (m + 1) cap2) (row ++ [x])) := Lib.hid (by
      unfold OwnI
      rw [List.length_append, hrl.out, ints_append, List.length_singleton]
      exact hown4)
     clear hown4 hgrow4 hat4 hlt4
     refine hK _ _ (HS.out _ b_W4.out) (fun _ _ => trivial) ?_
     try simp only [Act.put, Nat.zero_add, List.getElem_toArray, List.getElem_cons_zero, List.getElem_cons_succ, List.setIfInBounds_toArray, List.set_cons_zero, List.set_cons_succ]
     clear hK K
     refine D_one (i := 13) (by kernel_rfl) rfl ?_
     intro K hK
     rw [if_pos (by rfl)]
     go_simp
     have b_W5 : Hid (Below wr.heap.size wr (W4.alloc (.cells #[.slice (some ⟨g2, 0, none⟩) (m + 1) cap2] 22))) := Lib.hid (b_W4.out.alloc b_W4.out.size _)
     refine hK _ _ (HS.out _ b_W5.out) (fun _ _ => trivial) ?_
     try simp only [Act.put, Nat.zero_add, List.getElem_toArray, List.getElem_cons_zero, List.getElem_cons_succ, List.setIfInBounds_toArray, List.set_cons_zero, List.set_cons_succ]
     clear hK K
     have o_W5 : Hid ((W4.alloc (.cells #[.slice (some ⟨g2, 0, none⟩) (m + 1) cap2] 22)).ownsRow w.heap.size 22 1 (.slice A1 k c1) k vs) := Lib.hid (by
      have := (hMv.out.kept b_W5.out).outer
      rwa [hk2.out] at this)
     refine D_one (i := 14) (by kernel_rfl) rfl ?_
     intro K hK
     refine step_append_lies _ (by rfl) _ _ _ (by rfl) w.heap.size 22 iR _ 1 24 Tryd.underlying59 hiR hR0 hR1 hR2 rfl (by omega) (.slice A1 k c1) k vs (by rfl) o_W5.out ⟨W4.heap.size, 0, none⟩ 1 1 [.slice (some ⟨g2, 0, none⟩) (m + 1) cap2] (by rfl) (by rfl) (cell_one_new W4 _ _) (by simp [Value.oneCell']) (by omega) (by unfold maxLen; omega) (by omega) (by have := b_W5.out.size; omega) (W4.alloc (.cells #[.slice (some ⟨g2, 0, none⟩) (m + 1) cap2] 22)).heap.size rfl ?_
     intro g3 cap3 W6 hown6 hgrow6 hat6 hlt6
     have hfin := snoc_round hB.out hMv.out b_W4.out o_W4.out (by rw [hk2.out]) hown6 hgrow6
     rw [htk.out] at hfin
     replace hfin := Lib.hid hfin
     clear hown6 hgrow6 hat6 hlt6
     refine hK _ _ (HSw.out _ hfin.out.1) (fun _ _ => trivial) ?_
     try simp only [Act.put, Nat.zero_add, List.getElem_toArray, List.getElem_cons_zero, List.getElem_cons_succ, List.setIfInBounds_toArray, List.set_cons_zero, List.set_cons_succ]
     clear hK K
     refine D_one (i := 15) (by kernel_rfl) rfl ?_
     intro K hK
     rw [if_pos (by rfl)]
     go_simp
     refine hK _ _ (HSw.out _ hfin.out.1) (fun _ _ => trivial) ?_
     try simp only [Act.put, Nat.zero_add, List.getElem_toArray, List.getElem_cons_zero, List.getElem_cons_succ, List.setIfInBounds_toArray, List.set_cons_zero, List.set_cons_succ]
     clear hK K
     refine D_done (by kernel_rfl) ?_ _
     go_wp2
     go_roundw
     case rel => exact ⟨k + 1, by omega, by go_num, Lib.hid hfin.out.1, Lib.hid hfin.out.2⟩
     case measure => simp [intOf] <;> omega
    ·intro K hK
     rw [if_pos (by rfl)]
     go_simp
     have b_W2 : Hid (Below wr.heap.size wr (W1.alloc (.cells #[.int .i64 x] 3))) := Lib.hid (b_W1.out.alloc (by have := b_W1.out.size; omega) _)
     have z_W2 : (W1.alloc (.cells #[.int .i64 x] 3)).heap.size = W1.heap.size + 1 := World.size_alloc _ _
     have s_W2 : Hid (∀ j u, [Value.int .i64 x][j]? = some u → (W1.alloc (.cells #[.int .i64 x] 3)).cell? ((⟨W1.heap.size, 0, none⟩ : Addr).add j) = some u) := Lib.hid (cell_one_new W1 _ _)
     refine hK _ _ (HS.out _ b_W2.out) (fun _ _ => trivial) ?_
     try simp only [Act.put, Nat.zero_add, List.getElem_toArray, List.getElem_cons_zero, List.getElem_cons_succ, List.setIfInBounds_toArray, List.set_cons_zero, List.set_cons_succ]
     clear hK K
     have o_W2 : Hid ((W1.alloc (.cells #[.int .i64 x] 3)).ownsRow wr.heap.size 3 1 (.slice (some ⟨Wd.heap.size, 0, none⟩) 0 0) 0 []) := Lib.hid (own_below o_W1.out ((Below.refl _ _).alloc (Nat.le_refl _) _))
     generalize hg_W2 : W1.alloc (.cells #[.int .i64 x] 3) = W2 at b_W2 z_W2 s_W2 o_W2 ⊢
     replace hg_W2 := Lib.hid hg_W2
     replace z_W2 := Lib.hid z_W2
     refine D_one (i := 6) (by kernel_rfl) rfl ?_
     intro K hK
     refine step_append_rd (by rfl) _ _ (by rfl) wr.heap.size (.slice (some ⟨Wd.heap.size, 0, none⟩) 0 0) (.slice Aa m da) 0 [] row (by rfl) (by rfl) o_W2.out (hnewsW.out _ b_W2.out) (by rw [hrl.out]; omega) (b_W2.out.size) ?_
     intro v6 W3 hown6 hgrow6 hat6
     simp only [Nat.zero_add, List.nil_append] at hown6
     rw [hrl.out] at hown6
     obtain ⟨A6, cap, rfl⟩ := own_shape hown6
     have b_W3 : Hid (Below wr.heap.size wr W3) := Lib.hid (b_W2.out.grown hgrow6 (b_W2.out.size) (fun q hq => (o_W2.out.lt q hq).1))
     have s_W3 : Hid (∀ j u, [Value.int .i64 x][j]? = some u → W3.cell? ((⟨W1.heap.size, 0, none⟩ : Addr).add j) = some u) := Lib.hid (fun j u hj => ((hgrow6.cell_far _ (by have := z_W1.out; have := z_W2.out; rw [add_off]; show W1.heap.size < _; omega) (by have := z_W1.out; have := z_W2.out; rw [add_off]; show some W1.heap.size ≠ some Wd.heap.size; simp; omega)).trans (s_W2.out j u hj)))
     have o_W3 := Lib.hid hown6
     clear hown6 hgrow6 hat6
     refine hK _ _ (HS.out _ b_W3.out) (fun _ _ => trivial) ?_
     try simp only [Act.put, Nat.zero_add, List.getElem_toArray, List.getElem_cons_zero, List.getElem_cons_succ, List.setIfInBounds_toArray, List.set_cons_zero, List.set_cons_succ]
     clear hK K
     refine D_one (i := 12) (by kernel_rfl) rfl ?_
     intro K hK
     refine step_append_lies _ (by rfl) _ _ _ (by rfl) wr.heap.size 3 iI _ 1 8 Tryd.underlying22 hiI hI0 hI1 hI2 rfl (by omega) (.slice A6 m cap) m (ints row) (by rfl) o_W3.out ⟨W1.heap.size, 0, none⟩ 1 1 [.int .i64 x] (by rfl) (by rfl) s_W3.out (by simp [Value.oneCell']) (by omega) (by unfold maxLen; omega) (by omega) (b_W3.out.size) W3.heap.size rfl ?_
     intro g2 cap2 W4 hown4 hgrow4 hat4 hlt4
     have b_W4 : Hid (Below wr.heap.size wr W4) := Lib.hid (b_W3.out.grown hgrow4 (b_W3.out.size) (fun q hq => (o_W3.out.lt q hq).1))
     have o_W4 : Hid (OwnI W4 wr.heap.size (.slice (some ⟨g2, 0, none⟩) (m + 1) cap2) (row ++ [x])) := Lib.hid (by
      unfold OwnI
      rw [List.length_append, hrl.out, ints_append, List.length_singleton]
      exact hown4)
     clear hown4 hgrow4 hat4 hlt4
     refine hK _ _ (HS.out _ b_W4.out) (fun _ _ => trivial) ?_
     try simp only [Act.put, Nat.zero_add, List.getElem_toArray, List.getElem_cons_zero, List.getElem_cons_succ, List.setIfInBounds_toArray, List.set_cons_zero, List.set_cons_succ]
     clear hK K
     refine D_one (i := 13) (by kernel_rfl) rfl ?_
     intro K hK
     rw [if_pos (by rfl)]
     go_simp
     have b_W5 : Hid (Below wr.heap.size wr (W4.alloc (.cells #[.slice (some ⟨g2, 0, none⟩) (m + 1) cap2] 22))) := Lib.hid (b_W4.out.alloc b_W4.out.size _)
     refine hK _ _ (HS.out _ b_W5.out) (fun _ _ => trivial) ?_
     try simp only [Act.put, Nat.zero_add, List.getElem_toArray, List.getElem_cons_zero, List.getElem_cons_succ, List.setIfInBounds_toArray, List.set_cons_zero, List.set_cons_succ]
     clear hK K
     have o_W5 : Hid ((W4.alloc (.cells #[.slice (some ⟨g2, 0, none⟩) (m + 1) cap2] 22)).ownsRow w.heap.size 22 1 (.slice A1 k c1) k vs) := Lib.hid (by
      have := (hMv.out.kept b_W5.out).outer
      rwa [hk2.out] at this)
     refine D_one (i := 14) (by kernel_rfl) rfl ?_
     intro K hK
     refine step_append_lies _ (by rfl) _ _ _ (by rfl) w.heap.size 22 iR _ 1 24 Tryd.underlying59 hiR hR0 hR1 hR2 rfl (by omega) (.slice A1 k c1) k vs (by rfl) o_W5.out ⟨W4.heap.size, 0, none⟩ 1 1 [.slice (some ⟨g2, 0, none⟩) (m + 1) cap2] (by rfl) (by rfl) (cell_one_new W4 _ _) (by simp [Value.oneCell']) (by omega) (by unfold maxLen; omega) (by omega) (by have := b_W5.out.size; omega) (W4.alloc (.cells #[.slice (some ⟨g2, 0, none⟩) (m + 1) cap2] 22)).heap.size rfl ?_
     intro g3 cap3 W6 hown6 hgrow6 hat6 hlt6
     have hfin := snoc_round hB.out hMv.out b_W4.out o_W4.out (by rw [hk2.out]) hown6 hgrow6
     rw [htk.out] at hfin
     replace hfin := Lib.hid hfin
     clear hown6 hgrow6 hat6 hlt6
     refine hK _ _ (HSw.out _ hfin.out.1) (fun _ _ => trivial) ?_
     try simp only [Act.put, Nat.zero_add, List.getElem_toArray, List.getElem_cons_zero, List.getElem_cons_succ, List.setIfInBounds_toArray, List.set_cons_zero, List.set_cons_succ]
     clear hK K
     refine D_one (i := 15) (by kernel_rfl) rfl ?_
     intro K hK
     rw [if_pos (by rfl)]
     go_simp
     refine hK _ _ (HSw.out _ hfin.out.1) (fun _ _ => trivial) ?_
     try simp only [Act.put, Nat.zero_add, List.getElem_toArray, List.getElem_cons_zero, List.getElem_cons_succ, List.setIfInBounds_toArray, List.set_cons_zero, List.set_cons_succ]
     clear hK K
     refine D_done (by kernel_rfl) ?_ _
     go_wp2
     go_roundw
     case rel => exact ⟨k + 1, by omega, by go_num, Lib.hid hfin.out.1, Lib.hid hfin.out.2⟩
     case measure => simp [intOf] <;> omega
   ·intro K hK
    rw [if_pos (by rfl)]
    go_simp
    have b_W1 : Hid (Below wr.heap.size wr (Wd.alloc (.cells #[.int .i64 x] 3))) := Lib.hid (b_Wd.out.alloc (by have := b_Wd.out.size; omega) _)
    have z_W1 : (Wd.alloc (.cells #[.int .i64 x] 3)).heap.size = Wd.heap.size + 1 := World.size_alloc _ _
    have s_W1 : Hid (∀ j u, [Value.int .i64 x][j]? = some u → (Wd.alloc (.cells #[.int .i64 x] 3)).cell? ((⟨Wd.heap.size, 0, none⟩ : Addr).add j) = some u) := Lib.hid (cell_one_new Wd _ _)
    refine hK _ _ (HS.out _ b_W1.out) (fun _ _ => trivial) ?_
    try simp only [Act.put, Nat.zero_add, List.getElem_toArray, List.getElem_cons_zero, List.getElem_cons_succ, List.setIfInBounds_toArray, List.set_cons_zero, List.set_cons_succ]
    clear hK K
    generalize hg_W1 : Wd.alloc (.cells #[.int .i64 x] 3) = W1 at b_W1 z_W1 s_W1 ⊢
    replace hg_W1 := Lib.hid hg_W1
    replace z_W1 := Lib.hid z_W1
    refine D_one (i := 1) (by kernel_rfl) rfl ?_
    intro K hK
    rw [if_pos (by rfl)]
    go_simp
    have b_W2 : Hid (Below wr.heap.size wr (W1.alloc (.cells #[] 3))) := Lib.hid (b_W1.out.alloc (by have := b_W1.out.size; omega) _)
    have z_W2 : (W1.alloc (.cells #[] 3)).heap.size = W1.heap.size + 1 := World.size_alloc _ _
    have o_W2 : Hid ((W1.alloc (.cells #[] 3)).ownsRow wr.heap.size 3 1 (.slice (some ⟨W1.heap.size, 0, none⟩) 0 0) 0 []) := Lib.hid (World.ownsRow_made W1 #[] 0 (b_W1.out.size) (by unfold maxLen; omega) rfl)
    refine hK _ _ (HS.out _ b_W2.out) (fun _ _ => trivial) ?_
    try simp only [Act.put, Nat.zero_add, List.getElem_toArray, List.getElem_cons_zero, List.getElem_cons_succ, List.setIfInBounds_toArray, List.set_cons_zero, List.set_cons_succ]
    clear hK K
    have s_W2 : Hid (∀ j u, [Value.int .i64 x][j]? = some u → (W1.alloc (.cells #[] 3)).cell? ((⟨Wd.heap.size, 0, none⟩ : Addr).add j) = some u) := Lib.hid (fun j u hj => (((Below.refl W1.heap.size W1).alloc (Nat.le_refl _) _).cell (by have := z_W1.out; rw [add_off]; show Wd.heap.size < _; omega)).trans (s_W1.out j u hj))
    generalize hg_W2 : W1.alloc (.cells #[] 3) = W2 at b_W2 z_W2 s_W2 o_W2 ⊢
    replace hg_W2 := Lib.hid hg_W2
    replace z_W2 := Lib.hid z_W2
    refine D_one (i := 6) (by kernel_rfl) rfl ?_
    intro K hK
    refine step_append_rd (by rfl) _ _ (by rfl) wr.heap.size (.slice (some ⟨W1.heap.size, 0, none⟩) 0 0) (.slice Aa m da) 0 [] row (by rfl) (by rfl) o_W2.out (hnewsW.out _ b_W2.out) (by rw [hrl.out]; omega) (b_W2.out.size) ?_
    intro v6 W3 hown6 hgrow6 hat6
    simp only [Nat.zero_add, List.nil_append] at hown6
    rw [hrl.out] at hown6
    obtain ⟨A6, cap, rfl⟩ := own_shape hown6
    have b_W3 : Hid (Below wr.heap.size wr W3) := Lib.hid (b_W2.out.grown hgrow6 (b_W2.out.size) (fun q hq => (o_W2.out.lt q hq).1))
    have s_W3 : Hid (∀ j u, [Value.int .i64 x][j]? = some u → W3.cell? ((⟨Wd.heap.size, 0, none⟩ : Addr).add j) = some u) := Lib.hid (fun j u hj => ((hgrow6.cell_far _ (by have := z_W1.out; have := z_W2.out; rw [add_off]; show Wd.heap.size < _; omega) (by have := z_W1.out; have := z_W2.out; rw [add_off]; show some Wd.heap.size ≠ some W1.heap.size; simp; omega)).trans (s_W2.out j u hj)))
    have o_W3 := Lib.hid hown6
    clear hown6 hgrow6 hat6
    refine hK _ _ (HS.out _ b_W3.out) (fun _ _ => trivial) ?_
    try simp only [Act.put, Nat.zero_add, List.getElem_toArray, List.getElem_cons_zero, List.getElem_cons_succ, List.setIfInBounds_toArray, List.set_cons_zero, List.set_cons_succ]
    clear hK K
    refine D_one (i := 12) (by kernel_rfl) rfl ?_
    intro K hK
    refine step_append_lies _ (by rfl) _ _ _ (by rfl) wr.heap.size 3 iI _ 1 8 Tryd.underlying22 hiI hI0 hI1 hI2 rfl (by omega) (.slice A6 m cap) m (ints row) (by rfl) o_W3.out ⟨Wd.heap.size, 0, none⟩ 1 1 [.int .i64 x] (by rfl) (by rfl) s_W3.out (by simp [Value.oneCell']) (by omega) (by unfold maxLen; omega) (by omega) (b_W3.out.size) W3.heap.size rfl ?_
    intro g2 cap2 W4 hown4 hgrow4 hat4 hlt4
    have b_W4 : Hid (Below wr.heap.size wr W4) := Lib.hid (b_W3.out.grown hgrow4 (b_W3.out.size) (fun q hq => (o_W3.out.lt q hq).1))
    have o_W4 : Hid (OwnI W4 wr.heap.size (.slice (some ⟨g2, 0, none⟩) (m + 1) cap2) (row ++ [x])) := Lib.hid (by
     unfold OwnI
     rw [List.length_append, hrl.out, ints_append, List.length_singleton]
     exact hown4)
    clear hown4 hgrow4 hat4 hlt4
    refine hK _ _ (HS.out _ b_W4.out) (fun _ _ => trivial) ?_
    try simp only [Act.put, Nat.zero_add, List.getElem_toArray, List.getElem_cons_zero, List.getElem_cons_succ, List.setIfInBounds_toArray, List.set_cons_zero, List.set_cons_succ]
    clear hK K
    refine D_one (i := 13) (by kernel_rfl) rfl ?_
    intro K hK
    rw [if_pos (by rfl)]
    go_simp
    have b_W5 : Hid (Below wr.heap.size wr (W4.alloc (.cells #[.slice (some ⟨g2, 0, none⟩) (m + 1) cap2] 22))) := Lib.hid (b_W4.out.alloc b_W4.out.size _)
    refine hK _ _ (HS.out _ b_W5.out) (fun _ _ => trivial) ?_
    try simp only [Act.put, Nat.zero_add, List.getElem_toArray, List.getElem_cons_zero, List.getElem_cons_succ, List.setIfInBounds_toArray, List.set_cons_zero, List.set_cons_succ]
    clear hK K
    have o_W5 : Hid ((W4.alloc (.cells #[.slice (some ⟨g2, 0, none⟩) (m + 1) cap2] 22)).ownsRow w.heap.size 22 1 (.slice A1 k c1) k vs) := Lib.hid (by
     have := (hMv.out.kept b_W5.out).outer
     rwa [hk2.out] at this)
    refine D_one (i := 14) (by kernel_rfl) rfl ?_
    intro K hK
    refine step_append_lies _ (by rfl) _ _ _ (by rfl) w.heap.size 22 iR _ 1 24 Tryd.underlying59 hiR hR0 hR1 hR2 rfl (by omega) (.slice A1 k c1) k vs (by rfl) o_W5.out ⟨W4.heap.size, 0, none⟩ 1 1 [.slice (some ⟨g2, 0, none⟩) (m + 1) cap2] (by rfl) (by rfl) (cell_one_new W4 _ _) (by simp [Value.oneCell']) (by omega) (by unfold maxLen; omega) (by omega) (by have := b_W5.out.size; omega) (W4.alloc (.cells #[.slice (some ⟨g2, 0, none⟩) (m + 1) cap2] 22)).heap.size rfl ?_
    intro g3 cap3 W6 hown6 hgrow6 hat6 hlt6
    have hfin := snoc_round hB.out hMv.out b_W4.out o_W4.out (by rw [hk2.out]) hown6 hgrow6
    rw [htk.out] at hfin
    replace hfin := Lib.hid hfin
    clear hown6 hgrow6 hat6 hlt6
    refine hK _ _ (HSw.out _ hfin.out.1) (fun _ _ => trivial) ?_
    try simp only [Act.put, Nat.zero_add, List.getElem_toArray, List.getElem_cons_zero, List.getElem_cons_succ, List.setIfInBounds_toArray, List.set_cons_zero, List.set_cons_succ]
    clear hK K
    refine D_one (i := 15) (by kernel_rfl) rfl ?_
    intro K hK
    rw [if_pos (by rfl)]
    go_simp
    refine hK _ _ (HSw.out _ hfin.out.1) (fun _ _ => trivial) ?_
    try simp only [Act.put, Nat.zero_add, List.getElem_toArray, List.getElem_cons_zero, List.getElem_cons_succ, List.setIfInBounds_toArray, List.set_cons_zero, List.set_cons_succ]
    clear hK K
    refine D_done (by kernel_rfl) ?_ _
    go_wp2
    go_roundw
    case rel => exact ⟨k + 1, by omega, by go_num, Lib.hid hfin.out.1, Lib.hid hfin.out.2⟩
    case measure => simp [intOf] <;> omega
  ·obtain rfl : n = k := by omega
   obtain ⟨vs, hMv⟩ := hM.out
   have htl : (augM rs b).take n = augM rs b := List.take_of_length_le (by rw [augM_len, hr0.out]; exact Nat.le_refl _)
   rw [htl] at hMv
   obtain ⟨A1, c1, rfl⟩ := own_shape hMv.outer
   have hkl : (augM rs b).length = n := by rw [augM_len, hr0.out]
   rw [hkl] at hMv ⊢
   have hred := Lib.hid (reduce_any (augM rs b) n (m + 1) m w.heap.size _ vs wr hMv (okM_aug hok'.out hbb.out hbl.out) (by omega) (by omega) (by omega) hB.out.size)
   have hX0 : Hid (sysM rs b m = solveS (augM rs b) (List.range m).reverse false) := Lib.hid rfl
   have hprow := Lib.hid (solveS_rows (augM rs b) (List.range m).reverse false)
   have hpcol := Lib.hid (solveS_piv (augM rs b) (List.range m).reverse false)
   generalize solveS (augM rs b) (List.range m).reverse false = S at hred hX0 hprow hpcol
   have hmk := run_make_row' (P := Tryd.prog) 22 3 _ _ Tryd.underlying22 infoI rfl .i64 .i64 m (by omega) (by omega)
   replace hkl := Lib.hid hkl
   clear hM htl hMv
   go_wp2_with fail
   refine hred.out.mono ?_; rintro e W ⟨p, rfl, hI⟩
   clear hred
   obtain ⟨vs2, hO, hlo⟩ := hI.mem
   obtain ⟨Ap, cp, rfl⟩ := own_shape hI.piv
   have hpl : (natI (S.piv.map (·.2))).length = S.piv.length := by simp [natI]
   have hpv := Lib.hid hI.piv
   have hokS := Lib.hid hI.ok
   have hfew := hI.few
   have hBr := hB.out.size
   have hBW := Lib.hid (hB.out.trans hI.below |> fun h => h)
   rw [hpl] at hpv ⊢
   generalize hL : S.piv.length = L at *
   replace hL := Lib.hid hL
   replace hpl := Lib.hid hpl
   replace hO := Lib.hid hO
   have hvl : vs2.length = n := by rw [hO.out.len, hokS.out.1]
   obtain ⟨M, hM, hmM⟩ : ∃ M, Hid (m + 1 = M) ∧ m < M := ⟨m + 1, Lib.hid rfl, by omega⟩
   have hrow : Hid (∀ x, x < n → ∃ g gx cx, A1 = some ⟨g, 0, none⟩ ∧ W.cell? ⟨g, x, none⟩ = some (.slice (some ⟨gx, 0, none⟩) M cx) ∧ W.cell? ⟨gx, m, none⟩ = some (.int .i64 (gM S.rows x m))) := Lib.hid (fun x hx => by
    have hr : S.rows[x]? = some (S.rows.getD x []) := by rw [List.getD_eq_getElem?_getD, List.getElem?_eq_getElem (by rw [hokS.out.1]; exact hx)]; rfl
    have hu : vs2[x]? = some vs2[x] := List.getElem?_eq_getElem (by omega)
    obtain ⟨g, c2, e, hb, -, hcell, hf⟩ := hO.out.at_ hr hu
    obtain ⟨gx, cx, e2, -, -, hc2, -⟩ := hO.out.num hr hu (k := m) (by rw [hokS.out.row hx]; omega)
    simp only [Value.slice.injEq] at e
    obtain ⟨rfl, -, -⟩ := e
    rw [hokS.out.row hx, hM.out] at e2
    rw [e2] at hcell
    exact ⟨g, gx, cx, rfl, hcell, hc2⟩)
   clear hI hlo hvl
   go_wp2
   go_loop [11] (fun ii => ∃ i : Nat, L ≤ i ∧ i ≤ n ∧ ii = .int .i64 i ∧ Hid (∀ x, L ≤ x → x < i → gM S.rows x m = 0)) (fun ii => n - (intOf ii).toNat)
   case atStart => exact ⟨L, Nat.le_refl _, hfew, rfl, Lib.hid (fun x h1 h2 => by omega)⟩
   case round =>
    obtain ⟨i, hi1, hi2, rfl, hz⟩ := hrel
    by_cases hin : i < n
    ·obtain ⟨g, gx, cx, rfl, hc1, hc2⟩ := hrow.out i hin
     have i1 : (i : Int) < (n : Int) := by omega
     have i0 : (0 : Int) ≤ (i : Int) := by omega
     have mm : (m : Int) < (M : Int) := by omega
     have m0 : (0 : Int) ≤ (m : Int) := by omega
     by_cases hg : gM S.rows i m = 0
     ·have hz2 : Hid (∀ x, L ≤ x → x < i + 1 → gM S.rows x m = 0) := Lib.hid (fun x h1 h2 => by
       by_cases e : x = i
       ·rw [e]; exact hg
       ·exact hz.out x h1 (by omega))
      rw [hg] at hc2
      replace hg := Lib.hid hg
      go_wp2
      go_round
      case rel => exact ⟨i + 1, by omega, by omega, by go_num, hz2⟩
      case measure => simp [intOf] <;> omega
     ·have hres : Hid (solvedM rs b m = none) := Lib.hid (solvedM_none hX0.out hokS.out.1 hL.out hi1 hin hg)
      have hne : (gM S.rows i m != 0) = true := by rw [bne_iff_ne]; exact hg
      replace hg := Lib.hid hg
      generalize gM S.rows i m = y at hc2 hne
      go_wp2
      go_ret2
      refine ⟨⟨_, by rw [hres.out]; rfl, ?_⟩, hBW.out⟩
      rw [hres.out]
      exact OwnI_nil _ _
    ·obtain rfl : n = i := by omega
     have hres : Hid (solvedM rs b m = some (fillX S m)) := Lib.hid (solvedM_some hX0.out hokS.out.1 hL.out (fun x h1 h2 => hz.out x h1 h2))
     have h0 := Lib.hid (OwnI_made W W.heap.size m (Nat.le_refl _) (by unfold maxLen; omega))
     have hB0 : Hid (Below W.heap.size W (W.alloc (.cells (madeCells #[.int .i64 0] m) 3))) := Lib.hid ((Below.refl _ _).alloc (Nat.le_refl _) _)
     clear hz
     go_wp2
     generalize W.alloc (.cells (madeCells #[.int .i64 0] m) 3) = w1 at h0 hB0 ⊢
     go_loopw [13] (fun ii wr => ∃ i : Nat, i ≤ L ∧ ii = .int .i64 i ∧ Hid (Below W.heap.size W wr) ∧ Hid (OwnI wr W.heap.size (.slice (some ⟨W.heap.size, 0, none⟩) m m) (xP S m i))) (fun ii _ => L - (intOf ii).toNat)
     case atStart => exact ⟨0, Nat.zero_le _, rfl, hB0, Lib.hid (by have := h0.out; rwa [show xP S m 0 = List.replicate m 0 from rfl])⟩
     case round =>
      obtain ⟨i, hi, rfl, hB2, hX⟩ := hrel
      rename World => wr2
      by_cases hlt : i < L
      ·obtain ⟨g, gx, cx, rfl, hc1, hc2⟩ := hrow.out i (by omega)
       obtain ⟨pp, hpi⟩ : ∃ pp, S.piv[i]? = some pp := ⟨S.piv[i]'(by rw [hL.out]; exact hlt), List.getElem?_eq_getElem _⟩
       have hp1 := hprow.out i pp hpi
       have hp2 : pp.2 < m := by
        have := (hpcol.out pp (List.mem_of_getElem? hpi)).2
        simpa using this
       obtain ⟨q1, q2⟩ := pp
       simp only at hp1 hp2
       subst hp1
       obtain ⟨g5, e5, hcp⟩ : ∃ g5, Ap = some ⟨g5, 0, none⟩ ∧ W.cell? ⟨g5, q1, none⟩ = some (.int .i64 q2) := by
        have hown := hpv.out
        unfold OwnI at hown
        rw [hpl.out] at hown
        obtain ⟨g5, c5, e5, -, -⟩ := hown.form (by omega)
        simp only [Value.slice.injEq] at e5
        obtain ⟨rfl, -, -⟩ := e5
        refine ⟨g5, rfl, ?_⟩
        rw [hown.cellAt q1 (by omega), ints_get]
        simp [natI, hpi]
       subst e5
       have hc1' := (hB2.out.cell (World.block_lt_of_cell? W _ hc1)).trans hc1
       have hc2' := (hB2.out.cell (World.block_lt_of_cell? W _ hc2)).trans hc2
       have hcp' := (hB2.out.cell (World.block_lt_of_cell? W _ hcp)).trans hcp
       obtain ⟨hxc, hxf⟩ := hX.out.num (k := q2) (by rw [xP_len]; exact hp2)
       have hput := (hX.out.below ((Below.refl wr2.heap.size wr2).drew)).put q2 (gM S.rows q1 m)
       rw [show (xP S m q1).set q2 (gM S.rows q1 m) = xP S m (q1 + 1) from (xP_succ S m hpi).symm] at hput
       have hB3 : Hid (Below W.heap.size W (wr2.drew.setCell ⟨W.heap.size, q2, none⟩ (.int .i64 (gM S.rows q1 m)))) := Lib.hid (hB2.out.drew.setCell (Nat.le_refl _) _)
       replace hput := Lib.hid hput
       clear hc1 hc2 hcp hpi
       generalize gM S.rows q1 m = y at hc2' hput hB3
       generalize (xP S m q1).getD q2 0 = z at hxc
       have q11 : (q1 : Int) < (L : Int) := by omega
       have q12 : (q1 : Int) < (n : Int) := by omega
       have q10 : (0 : Int) ≤ (q1 : Int) := by omega
       have q21 : (q2 : Int) < (m : Int) := by omega
       have q20 : (0 : Int) ≤ (q2 : Int) := by omega
       have mm : (m : Int) < (M : Int) := by omega
       have m0 : (0 : Int) ≤ (m : Int) := by omega
       go_wp2
       go_still_tail 13, (by kernel_rfl)
       change wpList _ _ _ _ _ wr2.drew
       replace hxc : wr2.drew.cell? _ = _ := hxc
       replace hxf : wr2.drew.frozen? _ = _ := hxf
       clear hc1' hc2' hcp' hX hB2
       generalize wr2.drew = wd at hxc hxf hput hB3 ⊢
       go_wp2
       go_roundw
       case rel => exact ⟨q1 + 1, by omega, by go_num, hB3, hput⟩
       case measure => simp [intOf] <;> omega
      ·obtain rfl : L = i := by omega
       go_wp2
       go_ret2
       have hsz := hBW.out.size
       refine ⟨⟨_, by rw [hres.out]; rfl, ?_⟩, hBW.out.trans (hB2.out.mono hsz)⟩
       rw [hres.out]
       have := hX.out
       rw [xP, show S.piv.take L = S.piv from List.take_of_length_le (by rw [hL.out]; exact Nat.le_refl _)] at this
       exact this.base hsz
end Go.Proofs.YtlpldfocljnpnaaDoor
namespace Go.Proofs.YtlpldfocljnpnaaDoor
theorem getD_map_range {α : Type} (f : Nat → α) (d : α) {n i : Nat} (h : i < n) : ((List.range n).map f).getD i d = f i := by
 rw [List.getD_eq_getElem?_getD, List.getElem?_map, List.getElem?_range h]; rfl
end Go.Proofs.YtlpldfocljnpnaaDoor
namespace Go.Proofs.YtlpldfocljnpnaaDoor
def plusL (n : Nat) (times : List Int) (rows : List (List Int)) : List Int := (List.range n).map fun i => psum (fun k => times.getD k 0 * (rows.getD k []).getD i 0) rows.length % 65521
abbrev SpL := List (Nat × List Int × List Int)
def addTo (by_ m : List Int) (n : Int) : List Int := (List.range by_.length).map fun k => if k < m.length then (by_.getD k 0 + n * m.getD k 0) % 65521 else by_.getD k 0
def splitL : SpL → List Int → List Int → List Int × List Int
 | [], left, by_ => (left, by_)
 | (c, r, m) :: t, left, by_ =>
  if left.getD c 0 = 0 then splitL t left by_
  else splitL t (plusL left.length [1, 65521 - left.getD c 0] [left, r]) (addTo by_ m (left.getD c 0))
def firstN (l : List Int) : Option Nat := (List.range l.length).find? fun i => decide (l.getD i 0 ≠ 0)
def addSp (s : SpL) (row : List Int) : Option SpL :=
 let q := splitL s row (List.replicate s.length 0)
 match firstN q.1 with
 | none => none
 | some at_ => some (s ++ [(at_, q.1.map fun x => x * invN (q.1.getD at_ 0) % 65521, plusL q.2.length [65521 - invN (q.1.getD at_ 0)] [q.2] ++ [invN (q.1.getD at_ 0)])])
def toSp (s : SpL) : List SpRow := s.map fun p => ⟨p.1, rowF p.2.1, rowF p.2.2⟩
theorem plusL_len (n : Nat) (times : List Int) (rows : List (List Int)) : (plusL n times rows).length = n := by simp [plusL]
theorem plusL_bd (n : Nat) (times : List Int) (rows : List (List Int)) : ∀ u ∈ plusL n times rows, 0 ≤ u ∧ u < 65521 := fun u hu => by
 obtain ⟨i, _, rfl⟩ := List.mem_map.1 hu
 exact ⟨Int.emod_nonneg _ (by decide), Int.emod_lt_of_pos _ (by decide)⟩
theorem plusL_row {n : Nat} {times : List Int} {rows : List (List Int)} {j : Nat} (hj : j < n) : rowF (plusL n times rows) j = S rows.length (fun k => toF (times.getD k 0) * rowsF rows k j) := by
 unfold rowF
 rw [plusL, getD_map_range _ _ hj, toF_emod, toF_psum]
 exact S_congr fun k _ => by rw [toF_mul]; rfl
theorem plus_two {left r : List Int} {n : Int} {N : Nat} (hl : left.length = N) (hr : r.length = N) (j : Nat) : rowF (plusL left.length [1, 65521 - n] [left, r]) j = rowF left j - toF n * rowF r j := by
 by_cases hj : j < N
 ·rw [plusL_row (by omega)]
  show S 2 _ = _
  rw [S, S, S]
  show 0 + toF 1 * rowF left j + toF (65521 - n) * rowF r j = _
  rw [toF_sub, toF_p, toF_one]; grind
 ·rw [rowF_out (N := left.length) (plusL_len _ _ _) (by omega), rowF_out hl (by omega), rowF_out hr (by omega)]; grind
theorem addTo_len (by_ m : List Int) (n : Int) : (addTo by_ m n).length = by_.length := by simp [addTo]
theorem addTo_row {by_ m : List Int} (n : Int) (hm : m.length ≤ by_.length) (k : Nat) : rowF (addTo by_ m n) k = rowF by_ k + toF n * rowF m k := by
 by_cases hk : k < by_.length
 ·unfold rowF
  rw [addTo, getD_map_range _ _ hk]
  by_cases h2 : k < m.length
  ·rw [if_pos h2, toF_emod, toF_add, toF_mul]
  ·rw [if_neg h2, show m.getD k 0 = 0 by rw [List.getD_eq_getElem?_getD, List.getElem?_eq_none (by omega)]; rfl, toF_zero]; grind
 ·rw [rowF_out (N := by_.length) (addTo_len _ _ _) (by omega), rowF_out rfl (by omega), rowF_out (N := m.length) rfl (by omega)]; grind
def okSp (s : SpL) (N d : Nat) : Prop := ∀ p ∈ s, p.2.1.length = N ∧ p.2.2.length ≤ d
theorem splitL_spF {N d : Nat} : ∀ (s : SpL), okSp s N d → ∀ (left by_ : List Int), left.length = N → by_.length = d →
  (splitL s left by_).1.length = N ∧ (splitL s left by_).2.length = d ∧ (∀ j, rowF (splitL s left by_).1 j = (splF (toSp s) (rowF left) (rowF by_)).1 j) ∧ (∀ k, rowF (splitL s left by_).2 k = (splF (toSp s) (rowF left) (rowF by_)).2 k)
 | [], _, left, by_, hl, hb => ⟨hl, hb, fun _ => rfl, fun _ => rfl⟩
 | (c, r, m) :: t, h, left, by_, hl, hb => by
  have hp := h _ List.mem_cons_self
  have ht : okSp t N d := fun p hq => h p (List.mem_cons_of_mem _ hq)
  have e : splF (toSp ((c, r, m) :: t)) (rowF left) (rowF by_) = splF (toSp t) (fun j => rowF left j - rowF left c * rowF r j) (fun k => rowF by_ k + rowF left c * rowF m k) := rfl
  rw [splitL, e]
  by_cases h0 : left.getD c 0 = 0
  ·rw [if_pos h0]
   have hc : rowF left c = 0 := by rw [rowF, h0]; rfl
   rw [show (fun j => rowF left j - rowF left c * rowF r j) = rowF left from funext fun j => by rw [hc]; grind, show (fun k => rowF by_ k + rowF left c * rowF m k) = rowF by_ from funext fun k => by rw [hc]; grind]
   exact splitL_spF t ht left by_ hl hb
  ·rw [if_neg h0]
   have := splitL_spF t ht (plusL left.length [1, 65521 - left.getD c 0] [left, r]) (addTo by_ m (left.getD c 0)) ((plusL_len _ _ _).trans hl) ((addTo_len _ _ _).trans hb)
   rw [show rowF (plusL left.length [1, 65521 - left.getD c 0] [left, r]) = (fun j => rowF left j - rowF left c * rowF r j) from funext fun j => plus_two hl hp.1 j, show rowF (addTo by_ m (left.getD c 0)) = (fun k => rowF by_ k + rowF left c * rowF m k) from funext fun k => addTo_row _ (by rw [hb]; exact hp.2) k] at this
   exact this
theorem splitL_bd : ∀ (s : SpL) (left by_ : List Int), (∀ u ∈ left, 0 ≤ u ∧ u < 65521) → (∀ u ∈ by_, 0 ≤ u ∧ u < 65521) → (∀ u ∈ (splitL s left by_).1, 0 ≤ u ∧ u < 65521) ∧ (∀ u ∈ (splitL s left by_).2, 0 ≤ u ∧ u < 65521)
 | [], _, _, h1, h2 => ⟨h1, h2⟩
 | (c, r, m) :: t, left, by_, h1, h2 => by
  rw [splitL]
  by_cases h0 : left.getD c 0 = 0
  ·rw [if_pos h0]; exact splitL_bd t left by_ h1 h2
  ·rw [if_neg h0]
   refine splitL_bd t _ _ (plusL_bd _ _ _) fun u hu => ?_
   obtain ⟨k, hk, rfl⟩ := List.mem_map.1 hu
   show 0 ≤ (if k < m.length then (by_.getD k 0 + left.getD c 0 * m.getD k 0) % 65521 else by_.getD k 0) ∧ (if k < m.length then (by_.getD k 0 + left.getD c 0 * m.getD k 0) % 65521 else by_.getD k 0) < 65521
   split
   ·exact ⟨Int.emod_nonneg _ (by decide), Int.emod_lt_of_pos _ (by decide)⟩
   ·have hk' : k < by_.length := List.mem_range.1 hk
    rw [List.getD_eq_getElem?_getD, List.getElem?_eq_getElem hk']; exact h2 _ (List.getElem_mem hk')
end Go.Proofs.YtlpldfocljnpnaaDoor
namespace Go.Proofs.YtlpldfocljnpnaaDoor
theorem firstN_none {l : List Int} (h : firstN l = none) (j : Nat) : l.getD j 0 = 0 := by
 by_cases hj : j < l.length
 ·have := List.find?_eq_none.1 h j (List.mem_range.2 hj)
  simpa using this
 ·rw [List.getD_eq_getElem?_getD, List.getElem?_eq_none (by omega)]; rfl
theorem firstN_some {l : List Int} {i : Nat} (h : firstN l = some i) : i < l.length ∧ l.getD i 0 ≠ 0 := by
 have h1 := List.mem_of_find?_eq_some h
 have h2 := List.find?_some h
 exact ⟨List.mem_range.1 h1, by simpa using h2⟩
theorem SpOk.congr {ch ch' : Nat → Nat → Fp} {d : Nat} (e : ∀ k, k < d → ch' k = ch k) : ∀ {t : List SpRow}, SpOk ch d t → SpOk ch' d t
 | [], _ => trivial
 | s :: t, h => ⟨h.1, h.2.1, fun j => by rw [h.2.2.1 j]; exact S_congr fun k hk => by rw [e k hk], SpOk.congr e h.2.2.2⟩
theorem Gen.congr {ch ch' : Nat → Nat → Fp} {d : Nat} (e : ∀ k, k < d → ch' k = ch k) {t : List SpRow} (h : Gen ch d t) : Gen ch' d t := fun k hk => by rw [e k hk]; exact h k hk
theorem Indep.congr {ch ch' : Nat → Nat → Fp} {d : Nat} (e : ∀ k, k < d → ch' k = ch k) (h : Indep ch d) : Indep ch' d := fun x hx => h x fun j => by
 rw [← hx j]; exact S_congr fun k hk => by rw [e k hk]
theorem InSp.congr {ch ch' : Nat → Nat → Fp} {d : Nat} (e : ∀ k, k < d → ch' k = ch k) {row : Nat → Fp} (h : InSp ch d row) : InSp ch' d row := by
 obtain ⟨x, hx⟩ := h
 exact ⟨x, fun j => by rw [hx j]; exact S_congr fun k hk => by rw [e k hk]⟩
structure SpInv (ch : List (List Int)) (s : SpL) (N : Nat) : Prop where
 len : s.length = ch.length
 rows : okRows ch N
 shape : okSp s N ch.length
 ok : SpOk (rowsF ch) ch.length (toSp s)
 gen : Gen (rowsF ch) ch.length (toSp s)
 ind : Indep (rowsF ch) ch.length
theorem SpInv.start (N : Nat) : SpInv [] [] N := ⟨rfl, fun x hx => (by cases hx), fun p hp => (by cases hp), trivial, fun k hk => absurd hk (Nat.not_lt_zero k), fun x _ k hk => absurd hk (Nat.not_lt_zero k)⟩
theorem rowsF_snoc_left {ch : List (List Int)} {row : List Int} {k : Nat} (hk : k < ch.length) : rowsF (ch ++ [row]) k = rowsF ch k := by
 funext j
 unfold rowsF
 rw [List.getD_eq_getElem?_getD (l := ch ++ [row]), List.getElem?_append_left hk, ← List.getD_eq_getElem?_getD]
theorem rowsF_snoc_last (ch : List (List Int)) (row : List Int) : rowsF (ch ++ [row]) ch.length = rowF row := by
 funext j
 unfold rowsF
 rw [List.getD_eq_getElem?_getD (l := ch ++ [row]), List.getElem?_append_right (Nat.le_refl _), Nat.sub_self]; rfl
theorem rowF_zeros (n : Nat) : rowF (List.replicate n 0) = fun _ => 0 := by
 funext j
 unfold rowF
 rw [show (List.replicate n (0 : Int)).getD j 0 = 0 by rw [List.getD_eq_getElem?_getD, List.getElem?_replicate]; split <;> rfl]; rfl
section
variable {ch : List (List Int)} {s : SpL} {N : Nat} {row : List Int}
theorem SpInv.made0 (h : SpInv ch s N) : ∀ u ∈ toSp s, ∀ k, ch.length ≤ k → u.made k = 0 := fun u hu k hk => by
 obtain ⟨p, hp, rfl⟩ := List.mem_map.1 hu
 exact rowF_out (N := p.2.2.length) rfl (by have := (h.shape p hp).2; omega)
theorem SpInv.split (h : SpInv ch s N) (hr : row.length = N) : (splitL s row (List.replicate s.length 0)).1.length = N ∧ (splitL s row (List.replicate s.length 0)).2.length = ch.length ∧ (∀ j, rowF (splitL s row (List.replicate s.length 0)).1 j = (splF (toSp s) (rowF row) (fun _ => 0)).1 j) ∧ ∀ k, rowF (splitL s row (List.replicate s.length 0)).2 k = (splF (toSp s) (rowF row) (fun _ => 0)).2 k := by
 have := splitL_spF s h.shape row (List.replicate s.length 0) hr (by rw [List.length_replicate, h.len])
 rwa [rowF_zeros] at this
theorem SpInv.add_none (h : SpInv ch s N) (hr : row.length = N) (e : addSp s row = none) : InSp (rowsF ch) ch.length (rowF row) := by
 obtain ⟨h1, h2, h3, h4⟩ := h.split hr
 refine (left_iff h.ok h.gen (rowF row)).1 fun j => ?_
 rw [← h3 j]
 unfold addSp at e
 dsimp only at e
 cases ef : firstN (splitL s row (List.replicate s.length 0)).1 with
 | none => rw [rowF, firstN_none ef j]; rfl
 | some i => rw [ef] at e; cases e
theorem SpInv.add_some (h : SpInv ch s N) (hr : row.length = N) (hb : ∀ u ∈ row, 0 ≤ u ∧ u < 65521) {s' : SpL} (e : addSp s row = some s') : ¬ InSp (rowsF ch) ch.length (rowF row) ∧ SpInv (ch ++ [row]) s' N := by
 obtain ⟨h1, h2, h3, h4⟩ := h.split hr
 have hbd := splitL_bd s row (List.replicate s.length 0) hb (fun u hu => by rw [List.eq_of_mem_replicate hu]; decide)
 unfold addSp at e
 dsimp only at e
 cases ef : firstN (splitL s row (List.replicate s.length 0)).1 with
 | none => rw [ef] at e; cases e
 | some i =>
  rw [ef] at e
  obtain ⟨hi, hne⟩ := firstN_some ef
  have hs' := (Option.some.inj e).symm
  clear e
  generalize splitL s row (List.replicate s.length 0) = q at *
  have hq : 0 ≤ q.1.getD i 0 ∧ q.1.getD i 0 < 65521 := by rw [List.getD_eq_getElem?_getD, List.getElem?_eq_getElem hi]; exact hbd.1 _ (List.getElem_mem hi)
  have hat : (splF (toSp s) (rowF row) (fun _ => 0)).1 i ≠ 0 := by
   rw [← h3 i]; intro e0; exact hne ((toF_eq_zero hq).1 e0)
  have hinv : toF (invN (q.1.getD i 0)) = inv ((splF (toSp s) (rowF row) (fun _ => 0)).1 i) := by rw [toF_inv hq, ← h3 i]; rfl
  have hnot : ¬ InSp (rowsF ch) ch.length (rowF row) := fun hin => hat (left_none h.ok h.gen hin i)
  refine ⟨hnot, ?_⟩
  have hc : ∀ k, k < ch.length → rowsF (ch ++ [row]) k = rowsF ch k := fun k hk => rowsF_snoc_left hk
  have ok' := h.ok.congr hc
  have gen' := h.gen.congr hc
  have ind' := h.ind.congr hc
  have hl := rowsF_snoc_last ch row
  have hat' : (splF (toSp s) (rowsF (ch ++ [row]) ch.length) (fun _ => 0)).1 i ≠ 0 := by rw [hl]; exact hat
  have hnew : toSp s' = toSp s ++ [newRow (toSp s) (rowsF (ch ++ [row]) ch.length) ch.length i] := by
   rw [hs', toSp, List.map_append]
   congr 1
   show [SpRow.mk _ _ _] = [newRow _ _ _ _]
   rw [newRow, hl]
   congr 2
   ·funext j
    show rowF (q.1.map fun x => x * invN (q.1.getD i 0) % 65521) j = _
    rw [← h3 j, ← hinv]
    by_cases hj : j < q.1.length
    ·unfold rowF
     generalize invN (q.1.getD i 0) = v
     rw [List.getD_eq_getElem?_getD, List.getElem?_map, List.getD_eq_getElem?_getD (l := q.1), List.getElem?_eq_getElem hj]
     show toF (q.1[j] * v % 65521) = toF q.1[j] * toF v
     rw [toF_emod, toF_mul]
    ·rw [rowF_out (N := q.1.length) (by simp) (by omega), rowF_out rfl (by omega)]; grind
   ·funext k
    show rowF (plusL q.2.length [65521 - invN (q.1.getD i 0)] [q.2] ++ [invN (q.1.getD i 0)]) k = _
    rw [← hinv, ← h4 k]
    by_cases hk : k < q.2.length
    ·rw [if_neg (by omega)]
     have : rowF (plusL q.2.length [65521 - invN (q.1.getD i 0)] [q.2] ++ [invN (q.1.getD i 0)]) k = rowF (plusL q.2.length [65521 - invN (q.1.getD i 0)] [q.2]) k := by
      unfold rowF; rw [List.getD_eq_getElem?_getD, List.getElem?_append_left (by rw [plusL_len]; exact hk), ← List.getD_eq_getElem?_getD]
     rw [this, plusL_row hk]
     show S 1 _ = _
     rw [S, S]
     show 0 + toF (65521 - _) * rowF q.2 k = _
     rw [toF_sub, toF_p]; grind
    ·by_cases e2 : k = ch.length
     ·subst e2
      rw [if_pos rfl]
      unfold rowF
      rw [List.getD_eq_getElem?_getD, List.getElem?_append_right (by rw [plusL_len]; omega), plusL_len, h2, Nat.sub_self]; rfl
     ·rw [if_neg e2, rowF_out (N := q.2.length + 1) (by rw [List.length_append, plusL_len]; rfl) (by omega), rowF_out (x := q.2) rfl (by omega)]; grind
  refine ⟨by rw [hs', List.length_append, List.length_append, h.len]; rfl, fun x hx => ?_, fun p hp => ?_, ?_, ?_, ?_⟩
  ·rcases List.mem_append.1 hx with hx | hx
   ·exact h.rows x hx
   ·rw [List.mem_singleton.1 hx]; exact ⟨hr, hb⟩
  ·rw [List.length_append, List.length_singleton]
   rw [hs'] at hp
   rcases List.mem_append.1 hp with hp | hp
   ·have := h.shape p hp; exact ⟨this.1, by omega⟩
   ·rw [List.mem_singleton.1 hp]
    exact ⟨by simp [h1], by simp [plusL_len, h2]⟩
  ·rw [List.length_append, List.length_singleton, hnew]
   exact new_ok ok' h.made0 hat'
  ·rw [List.length_append, List.length_singleton, hnew]
   exact new_gen ok' gen' hat'
  ·rw [List.length_append, List.length_singleton]
   refine indep_add ind' fun hin => hnot ?_
   rw [hl] at hin
   exact hin.congr fun k hk => (hc k hk).symm
end
end Go.Proofs.YtlpldfocljnpnaaDoor
namespace Go.Proofs.YtlpldfocljnpnaaDoor
inductive Bfs {α : Type} (new : List α → α → Bool) (kids : α → List α) : List α → List α → List α → Prop
 | done (out : List α) : Bfs new kids out [] out
 | skip {out todo r : List α} {c : α} : new out c = false → Bfs new kids out todo r → Bfs new kids out (c :: todo) r
 | take {out todo r : List α} {c : α} : new out c = true → Bfs new kids (out ++ [c]) (todo ++ kids c) r → Bfs new kids out (c :: todo) r
section
variable {α : Type} {new : List α → α → Bool} {kids : α → List α}
theorem Bfs.at_done {out r : List α} (h : Bfs new kids out [] r) : r = out := by cases h; rfl
theorem Bfs.at_skip {out todo r : List α} {c : α} (h : Bfs new kids out (c :: todo) r) (e : new out c = false) : Bfs new kids out todo r := by
 cases h with
 | skip _ h => exact h
 | take e2 _ => rw [e] at e2; cases e2
theorem Bfs.at_take {out todo r : List α} {c : α} (h : Bfs new kids out (c :: todo) r) (e : new out c = true) : Bfs new kids (out ++ [c]) (todo ++ kids c) r := by
 cases h with
 | skip e2 _ => rw [e] at e2; cases e2
 | take _ h => exact h
theorem Bfs.one {out todo r : List α} (h : Bfs new kids out todo r) : ∀ {r' : List α}, Bfs new kids out todo r' → r' = r := by
 induction h with
 | done => intro r' h; exact h.at_done
 | skip e _ ih => intro r' h; exact ih (h.at_skip e)
 | take e _ ih => intro r' h; exact ih (h.at_take e)
theorem Bfs.keeps {inv : List α → Prop} (hi : ∀ out c, inv out → new out c = true → inv (out ++ [c])) {out todo r : List α} (h : Bfs new kids out todo r) : inv out → inv r := by
 induction h with
 | done => exact id
 | skip _ _ ih => exact ih
 | take e _ ih => intro h0; exact ih (hi _ _ h0 e)
theorem Bfs.begins {out todo r : List α} (h : Bfs new kids out todo r) : ∃ t, r = out ++ t := by
 induction h with
 | done => exact ⟨[], (List.append_nil _).symm⟩
 | skip _ _ ih => exact ih
 | take _ _ ih =>
  obtain ⟨t, ht⟩ := ih
  exact ⟨_, by rw [ht, List.append_assoc]⟩
theorem Bfs.covers {P : List α → α → Prop} {inv : List α → Prop} {good : α → Prop} (hg : ∀ c, good c → ∀ x ∈ kids c, good x) (hi : ∀ out c, inv out → good c → new out c = true → inv (out ++ [c])) (hm : ∀ out t c, P out c → P (out ++ t) c) (hself : ∀ out c, P (out ++ [c]) c) (hs : ∀ out c, inv out → good c → new out c = false → P out c) {out todo r : List α} (h : Bfs new kids out todo r) : inv out → (∀ c ∈ todo, good c) → inv r ∧ (∀ c ∈ todo, P r c) ∧ ∃ t, r = out ++ t ∧ ∀ c ∈ t, good c ∧ ∀ x ∈ kids c, P r x := by
 induction h with
 | done out => exact fun h0 _ => ⟨h0, fun c hc => (by cases hc), [], (List.append_nil _).symm, fun c hc => (by cases hc)⟩
 | skip e _ ih =>
  intro h0 hgd
  obtain ⟨h1, h2, t, h3, h4⟩ := ih h0 (fun c hc => hgd c (List.mem_cons_of_mem _ hc))
  refine ⟨h1, fun c hc => ?_, t, h3, h4⟩
  rcases List.mem_cons.1 hc with rfl | hc
  ·rw [h3]; exact hm _ t _ (hs _ _ h0 (hgd _ List.mem_cons_self) e)
  ·exact h2 c hc
 | @take out todo r c e _ ih =>
  intro h0 hgd
  have hc := hgd c List.mem_cons_self
  obtain ⟨h1, h2, t, h3, h4⟩ := ih (hi _ _ h0 hc e) (fun x hx => by
   rcases List.mem_append.1 hx with hx | hx
   ·exact hgd x (List.mem_cons_of_mem _ hx)
   ·exact hg c hc x hx)
  refine ⟨h1, fun x hx => ?_, c :: t, by rw [h3, List.append_assoc]; rfl, fun x hx => ?_⟩
  ·rcases List.mem_cons.1 hx with rfl | hx
   ·rw [h3]; exact hm _ t _ (hself _ _)
   ·exact h2 x (List.mem_append_left _ hx)
  ·rcases List.mem_cons.1 hx with rfl | hx
   ·exact ⟨hc, fun y hy => h2 y (List.mem_append_right _ hy)⟩
   ·exact h4 x hx
theorem Bfs.ex {inv : List α → Prop} {N K : Nat} (hk : ∀ c, (kids c).length ≤ K) (hi : ∀ out c, inv out → new out c = true → inv (out ++ [c])) (hN : ∀ out, inv out → out.length ≤ N) : ∀ (n : Nat) (out todo : List α), inv out → (N - out.length) * (K + 1) + todo.length ≤ n → ∃ r, Bfs new kids out todo r := by
 intro n
 induction n with
 | zero =>
  intro out todo h0 hn
  obtain rfl : todo = [] := List.eq_nil_of_length_eq_zero (by omega)
  exact ⟨out, .done out⟩
 | succ n ih =>
  intro out todo h0 hn
  cases todo with
  | nil => exact ⟨out, .done out⟩
  | cons c todo =>
   cases e : new out c with
   | false =>
    obtain ⟨r, hr⟩ := ih out todo h0 (by simp only [List.length_cons] at hn; omega)
    exact ⟨r, .skip e hr⟩
   | true =>
    have h1 := hi out c h0 e
    have h2 := hN _ h1
    rw [List.length_append, List.length_singleton] at h2
    obtain ⟨r, hr⟩ := ih (out ++ [c]) (todo ++ kids c) h1 (by
     have h3 := hk c
     rw [List.length_append, List.length_singleton, List.length_append]
     simp only [List.length_cons] at hn
     obtain ⟨d, hd⟩ : ∃ d, N - out.length = d + 1 := ⟨N - out.length - 1, by omega⟩
     rw [hd, Nat.add_mul] at hn
     rw [show N - (out.length + 1) = d by omega]
     omega)
    exact ⟨r, .take e hr⟩
end
theorem Indep.le {ch : Nat → Nat → Fp} {d N : Nat} (h : Indep ch d) (hz : ∀ k j, N ≤ j → ch k j = 0) : d ≤ N := Classical.byContradiction fun hn => by
 obtain ⟨x, ⟨i, hi, hx⟩, hs⟩ := depend d (List.range N) ch (by rw [List.length_range]; omega)
 refine hx (h x (fun j => ?_) i hi)
 by_cases hj : j < N
 ·exact hs j (List.mem_range.2 hj)
 ·exact S_zero fun k _ => by rw [hz k j (by omega)]; grind
theorem SpInv.le {ch : List (List Int)} {s : SpL} {N : Nat} (h : SpInv ch s N) : ch.length ≤ N := h.ind.le fun _ _ hj => rowsF_out h.rows hj
end Go.Proofs.YtlpldfocljnpnaaDoor
namespace Go.Proofs.YtlpldfocljnpnaaDoor
structure Aut where
 letters : Int
 start : List Int
 end_ : List Int
 steps : List (List (List Int))
def dotL (a b : List Int) : Int := psum (fun i => a.getD i 0 * b.getD i 0 % 65521) a.length % 65521
def dotR (a b : List Int) : Int := psum (fun i => a.getD i 0 * b.getD i 0) a.length % 65521
theorem dotL_bd (a b : List Int) : 0 ≤ dotL a b ∧ dotL a b < 65521 := ⟨Int.emod_nonneg _ (by decide), Int.emod_lt_of_pos _ (by decide)⟩
theorem dotR_bd (a b : List Int) : 0 ≤ dotR a b ∧ dotR a b < 65521 := ⟨Int.emod_nonneg _ (by decide), Int.emod_lt_of_pos _ (by decide)⟩
theorem dotL_F (a b : List Int) : toF (dotL a b) = S a.length (fun i => rowF a i * rowF b i) := by
 rw [dotL, toF_emod, toF_psum]
 exact S_congr fun i _ => by rw [toF_emod, toF_mul]; rfl
theorem dotR_F (a b : List Int) : toF (dotR a b) = S a.length (fun i => rowF a i * rowF b i) := by
 rw [dotR, toF_emod, toF_psum]
 exact S_congr fun i _ => by rw [toF_mul]; rfl
theorem dotR_eq (a b : List Int) : dotR a b = dotL a b := toF_inj (dotR_bd a b) (dotL_bd a b) (by rw [dotR_F, dotL_F])
def alongL (n : Nat) (row : List Int) (m : List (List Int)) : List Int := plusL n row m
def backL (m : List (List Int)) (col : List Int) : List Int := m.map fun r => dotL r col
theorem alongL_F {n : Nat} {row : List Int} {m : List (List Int)} {j : Nat} (hj : j < n) : rowF (alongL n row m) j = S m.length (fun k => rowF row k * rowsF m k j) := plusL_row hj
theorem backL_F {m : List (List Int)} {col : List Int} {i : Nat} (hi : i < m.length) : rowF (backL m col) i = S (m[i]).length (fun j => rowsF m i j * rowF col j) := by
 unfold rowF
 rw [backL, List.getD_eq_getElem?_getD, List.getElem?_map, List.getElem?_eq_getElem hi]
 show toF (dotL m[i] col) = _
 rw [dotL_F]
 refine S_congr fun j _ => ?_
 unfold rowsF
 rw [List.getD_eq_getElem?_getD (l := m), List.getElem?_eq_getElem hi]; rfl
theorem backL_len (m : List (List Int)) (col : List Int) : (backL m col).length = m.length := by simp [backL]
theorem backL_bd (m : List (List Int)) (col : List Int) : ∀ u ∈ backL m col, 0 ≤ u ∧ u < 65521 := fun u hu => by
 obtain ⟨r, _, rfl⟩ := List.mem_map.1 hu; exact dotL_bd r col
theorem alongL_len (n : Nat) (row : List Int) (m : List (List Int)) : (alongL n row m).length = n := plusL_len _ _ _
theorem alongL_bd (n : Nat) (row : List Int) (m : List (List Int)) : ∀ u ∈ alongL n row m, 0 ≤ u ∧ u < 65521 := plusL_bd _ _ _
theorem along_back {n : Nat} {row col : List Int} {m : List (List Int)} (hr : row.length = n) (hm : okM m n n) : dotL (alongL n row m) col = dotL row (backL m col) := by
 refine toF_inj (dotL_bd _ _) (dotL_bd _ _) ?_
 have hl : m.length = n := hm.1
 rw [dotL_F, dotL_F, alongL_len, hr]
 rw [S_congr (n := n) (f := fun i => rowF (alongL n row m) i * rowF col i) (g := fun i => S n (fun k => rowF row k * (rowsF m k i * rowF col i))) (fun i hi => by
  rw [alongL_F hi, hl, ← S_mul']; exact S_congr fun k _ => by grind), S_swap]
 refine S_congr fun k hk => ?_
 rw [S_mul]
 congr 1
 have hk' : k < m.length := by omega
 rw [backL_F hk']
 have hlen : (m[k]).length = n := by
  have := hm.row hk
  rw [List.getD_eq_getElem?_getD, List.getElem?_eq_getElem hk'] at this
  exact this
 rw [hlen]
structure okA (a : Aut) (k n : Nat) : Prop where
 letters : a.letters = k
 pos : 1 ≤ k ∧ k ≤ 4
 start : a.start.length = n ∧ ∀ u ∈ a.start, 0 ≤ u ∧ u < 65521
 end_ : a.end_.length = n ∧ ∀ u ∈ a.end_, 0 ≤ u ∧ u < 65521
 steps : a.steps.length = k
 mats : ∀ m ∈ a.steps, okM m n n
def rowW (a : Aut) (w : List Nat) : List Int := w.foldl (fun r x => alongL a.start.length r (a.steps.getD x [])) a.start
def wtW (a : Aut) (w : List Nat) : Int := dotL (rowW a w) a.end_
theorem rowW_snoc (a : Aut) (w : List Nat) (x : Nat) : rowW a (w ++ [x]) = alongL a.start.length (rowW a w) (a.steps.getD x []) := by
 rw [rowW, List.foldl_append]; rfl
end Go.Proofs.YtlpldfocljnpnaaDoor
namespace Go.Proofs.YtlpldfocljnpnaaDoor
open Go.RowKit Go.Shelf
def RdS {α : Type} (R : World → Value → α → Prop) (w : World) (v : Value) (xs : List α) : Prop := ∃ vs : List Value, RdV w v vs ∧ vs.length = xs.length ∧ ∀ (j : Nat) (x : α) (u : Value), xs[j]? = some x → vs[j]? = some u → R w u x
theorem RdS.below {α : Type} {R : World → Value → α → Prop} (hR : ∀ {w w' : World} {u : Value} {x : α}, R w u x → ∀ {B : Nat}, Below B w w' → w.heap.size ≤ B → R w' u x) {w w' : World} {v : Value} {xs : List α} (h : RdS R w v xs) {B : Nat} (hb : Below B w w') (hB : w.heap.size ≤ B) : RdS R w' v xs := by
 obtain ⟨vs, h1, h2, h3⟩ := h
 exact ⟨vs, h1.below hb hB, h2, fun j r u hr hu => hR (h3 j r u hr hu) hb hB⟩
theorem RdS.open_ {α : Type} {R : World → Value → α → Prop} {w : World} {v : Value} {xs : List α} (d : α) (h : RdS R w v xs) : ∃ (A : Option Addr) (c : Nat), v = .slice A xs.length c ∧ xs.length ≤ c ∧ xs.length ≤ 140737488355328 ∧
  (∀ k, k < xs.length → ∃ b off u, A = some ⟨b, off, none⟩ ∧ w.cell? ⟨b, off + k, none⟩ = some u ∧ R w u (xs.getD k d)) := by
 obtain ⟨vs, ⟨A, c, e, h1, h2, h3⟩, hl, h4⟩ := h
 refine ⟨A, c, hl ▸ e, by omega, by omega, fun k hk => ?_⟩
 obtain ⟨b, off, e2, h5⟩ := h3 (by omega)
 have hu : vs[k]? = some vs[k] := List.getElem?_eq_getElem (by omega)
 exact ⟨b, off, vs[k], e2, h5 k _ hu, h4 k _ _ (by rw [List.getD_eq_getElem?_getD, List.getElem?_eq_getElem hk]; simp) hu⟩
def RdT (w : World) (v : Value) (ms : List (List (List Int))) : Prop := RdS RdM w v ms
theorem RdT.below {w w' : World} {v : Value} {ms : List (List (List Int))} (h : RdT w v ms) {B : Nat} (hb : Below B w w') (hB : w.heap.size ≤ B) : RdT w' v ms := RdS.below (R := RdM) (fun h _ hb hB => RdM.below h hb hB) h hb hB
structure RdA (w : World) (s e t : Value) (a : Aut) : Prop where
 start : RdI w s a.start
 end_ : RdI w e a.end_
 steps : RdT w t a.steps
theorem RdA.below {w w' : World} {s e t : Value} {a : Aut} (h : RdA w s e t a) {B : Nat} (hb : Below B w w') (hB : w.heap.size ≤ B) : RdA w' s e t a := ⟨h.start.below hb hB, h.end_.below hb hB, h.steps.below hb hB⟩
theorem RdT.get {w : World} {v : Value} {ms : List (List (List Int))} (h : RdT w v ms) {x : Nat} (hx : x < ms.length) : ∃ (b off c : Nat) (u : Value), v = .slice (some ⟨b, off, none⟩) ms.length c ∧ w.cell? ⟨b, off + x, none⟩ = some u ∧ RdM w u (ms.getD x []) := by
 obtain ⟨A, c, e, h1, h2, h3⟩ := RdS.open_ ([] : List (List Int)) h
 obtain ⟨b, off, u, rfl, h4, h5⟩ := h3 x hx
 exact ⟨b, off, c, u, e, h4, h5⟩
theorem dot_any (a b : List Int) (va vb : Value) (w : World) (ra : RdI w va a) (rb : RdI w vb b) (hl : a.length ≤ b.length) (h1000 : a.length ≤ 1000000) (ba : ∀ u ∈ a, 0 ≤ u ∧ u < 65521) (bb : ∀ u ∈ b, 0 ≤ u ∧ u < 65521) :
  Calls Tryd.prog 82 #[va, vb] w fun e w' => e = .returned (.int .i64 (dotL a b)) ∧ w = w' := by
 obtain ⟨A, c, rfl, h1, h2, h3⟩ := ra.open_
 obtain ⟨B, d, rfl, g1, g2, g3⟩ := rb.open_
 have hE : Hid (dotL a b = psum (fun i => a.getD i 0 * b.getD i 0 % 65521) a.length % 65521) := Lib.hid rfl
 have hbd := Lib.hid (fun j => psum_bd (f := fun j => a.getD j 0 * b.getD j 0 % 65521) (fun j => ⟨Int.emod_nonneg _ (by decide), Int.emod_lt_of_pos _ (by decide)⟩) j)
 have na := Lib.hid (getD_bd ba)
 have nb := Lib.hid (getD_bd bb)
 replace h3 := Lib.hid h3
 replace g3 := Lib.hid g3
 clear ra rb ba bb
 generalize b.length = m at *
 generalize a.length = n at *
 go_enter Tryd.func82, Tryd.ntmps82
 go_wp2
 go_loop [5, 6, 7, 10] (fun s _ _ j => ∃ q : Nat, q ≤ n ∧ j = .int .i64 q ∧ s = .int .i64 (psum (fun i => a.getD i 0 * b.getD i 0 % 65521) q)) (fun _ _ _ j => n - (intOf j).toNat)
 case atStart => exact ⟨0, Nat.zero_le _, rfl, rfl⟩
 case round =>
  obtain ⟨q, hq, rfl, rfl⟩ := hrel
  have ⟨p1, p2⟩ := hbd.out q
  by_cases hlt : q < n
  ·obtain ⟨b2, off2, rfl, hc2⟩ := h3.out q (by omega)
   obtain ⟨b3, off3, rfl, hc3⟩ := g3.out q (by omega)
   have n1 := na.out q
   have n2 := nb.out q
   have hs := Lib.hid (show psum (fun i => a.getD i 0 * b.getD i 0 % 65521) (q + 1) = psum (fun i => a.getD i 0 * b.getD i 0 % 65521) q + a.getD q 0 * b.getD q 0 % 65521 from rfl)
   have ⟨m1, m2⟩ := mul_bd n1.1 n1.2 n2.1 n2.2
   generalize psum (fun i => a.getD i 0 * b.getD i 0 % 65521) q = S at p1 p2 hs ⊢
   generalize a.getD q 0 = x at n1 m1 m2 hc2 hs
   generalize b.getD q 0 = y at n2 m1 m2 hc3 hs
   have q1 : (q : Int) < (n : Int) := by omega
   have q2 : (q : Int) < (m : Int) := by omega
   have q0 : (0 : Int) ≤ (q : Int) := by omega
   go_wp2
   go_round
   case rel => exact ⟨q + 1, by omega, by go_num, congrArg (Value.int .i64) hs.out.symm⟩
   case measure => simp [intOf]; omega
  ·obtain rfl : q = n := by omega
   generalize psum (fun i => a.getD i 0 * b.getD i 0 % 65521) q = S at p1 p2 hE ⊢
   go_wp2
   go_ret
   exact ⟨by rw [hE.out]; rfl, rfl⟩
def plE (times : List Int) (rows : List (List Int)) (j k : Nat) : Int := psum (fun q => times.getD q 0 * (rows.getD q []).getD j 0) k % 65521
def plP (n : Nat) (times : List Int) (rows : List (List Int)) (k i : Nat) : List Int := (List.range n).map fun j => plE times rows j (if j < i then k + 1 else k)
theorem plP_len (n : Nat) (times : List Int) (rows : List (List Int)) (k i : Nat) : (plP n times rows k i).length = n := by simp [plP]
theorem plP_zero (n : Nat) (times : List Int) (rows : List (List Int)) : plP n times rows 0 0 = List.replicate n 0 := by
 apply List.ext_getElem (by simp [plP])
 intro j h1 h2
 simp [plP, plE, psum]
theorem plP_get {n : Nat} (times : List Int) (rows : List (List Int)) {k i j : Nat} (h : j < n) : (plP n times rows k i).getD j 0 = plE times rows j (if j < i then k + 1 else k) := getD_map_range _ _ h
theorem plE_succ (times : List Int) (rows : List (List Int)) (j k : Nat) : plE times rows j (k + 1) = (plE times rows j k + times.getD k 0 * (rows.getD k []).getD j 0) % 65521 := by
 unfold plE
 rw [psum, Int.emod_add_emod]
theorem plE_bd (times : List Int) (rows : List (List Int)) (j k : Nat) : 0 ≤ plE times rows j k ∧ plE times rows j k < 65521 := ⟨Int.emod_nonneg _ (by decide), Int.emod_lt_of_pos _ (by decide)⟩
theorem plP_set {n : Nat} (times : List Int) (rows : List (List Int)) {k i : Nat} : (plP n times rows k i).set i (plE times rows i (k + 1)) = plP n times rows k (i + 1) := by
 apply List.ext_getElem (by simp [plP])
 intro j h1 h2
 rw [List.getElem_set]
 simp only [plP, List.getElem_map, List.getElem_range]
 by_cases e : i = j
 ·subst e; rw [if_pos rfl, if_pos (by omega)]
 ·rw [if_neg e]
  by_cases h : j < i
  ·rw [if_pos h, if_pos (by omega)]
  ·rw [if_neg h, if_neg (by omega)]
theorem plP_row {n : Nat} (times : List Int) (rows : List (List Int)) (k : Nat) {m : Nat} (hm : (rows.getD k []).length = m) : plP n times rows k m = plP n times rows (k + 1) 0 := by
 refine List.map_congr_left fun j _ => ?_
 rw [if_neg (Nat.not_lt_zero j)]
 split
 ·rfl
 ·rw [plE_succ, show (rows.getD k []).getD j 0 = 0 by rw [List.getD_eq_getElem?_getD, List.getElem?_eq_none (by omega)]; rfl, Int.mul_zero, Int.add_zero]
  exact (Int.emod_eq_of_lt (plE_bd _ _ _ _).1 (plE_bd _ _ _ _).2).symm
theorem plP_end (n : Nat) (times : List Int) (rows : List (List Int)) : plP n times rows rows.length 0 = plusL n times rows := rfl
theorem mul_bd' {a b : Int} (ha : 0 ≤ a) (ha2 : a ≤ 65521) (hb : 0 ≤ b) (hb2 : b < 65521) : 0 ≤ a * b ∧ a * b ≤ 4293001441 := by
 have h1 : 0 ≤ a * b := Int.mul_nonneg ha hb
 have h2 : a * b ≤ 65521 * 65520 := Int.mul_le_mul (by omega) (by omega) hb (by omega)
 exact ⟨h1, by omega⟩
theorem plus_any (n : Nat) (times : List Int) (rows : List (List Int)) (vt vr : Value) (w : World) (hn : n ≤ 1000000) (rt : RdI w vt times) (rr : RdM w vr rows) (hl : rows.length ≤ times.length) (hm : ∀ r ∈ rows, r.length ≤ n ∧ ∀ u ∈ r, 0 ≤ u ∧ u < 65521) (bt : ∀ u ∈ times, 0 ≤ u ∧ u ≤ 65521) :
  Calls Tryd.prog 93 #[.int .i64 n, vt, vr] w fun e w' => (∃ v, e = .returned v ∧ OwnI w' w.heap.size v (plusL n times rows)) ∧ Below w.heap.size w w' := by
 obtain ⟨A, c, rfl, h1, h2, h3⟩ := rt.open_
 obtain ⟨B, d, rfl, g1, g2, g3⟩ := rr.open_
 have hmk := run_make_row' (P := Tryd.prog) 22 3 _ _ Tryd.underlying22 infoI rfl .i64 .i64 n (by omega) (by omega)
 have h0 := OwnI_made w w.heap.size n (Nat.le_refl _) (by unfold maxLen; omega)
 rw [← plP_zero n times rows] at h0
 replace h0 := Lib.hid h0
 have hB0 : Below w.heap.size w (w.alloc (.cells (madeCells #[.int .i64 0] n) 3)) := (Below.refl _ _).alloc (Nat.le_refl _) _
 have na : ∀ q, 0 ≤ times.getD q 0 ∧ times.getD q 0 ≤ 65521 := fun q => by
  by_cases hi : q < times.length
  ·rw [List.getD_eq_getElem?_getD, List.getElem?_eq_getElem hi]; exact bt _ (List.getElem_mem hi)
  ·rw [List.getD_eq_getElem?_getD, List.getElem?_eq_none (by omega)]; decide
 have hrow : ∀ k, k < rows.length → (rows.getD k []).length ≤ n ∧ ∀ u ∈ rows.getD k [], 0 ≤ u ∧ u < 65521 := fun k hk => by
  rw [List.getD_eq_getElem?_getD, List.getElem?_eq_getElem hk]; exact hm _ (List.getElem_mem hk)
 replace hrow := Lib.hid hrow
 replace na := Lib.hid na
 replace h3 := Lib.hid h3
 replace g3 := Lib.hid g3
 clear rt rr hm bt
 go_enter Tryd.func93, Tryd.ntmps93
 go_wp2
 generalize w.alloc (.cells (madeCells #[.int .i64 0] n) 3) = w1 at h0 hB0 ⊢
 go_loopw [8, 9, 10, 11, 16, 21, 22, 23] (fun _ _ _ _ k _ _ _ wr => ∃ q : Nat, q ≤ rows.length ∧ k = .int .i64 q ∧ Hid (Below w.heap.size w wr) ∧ Hid (OwnI wr w.heap.size (.slice (some ⟨w.heap.size, 0, none⟩) n n) (plP n times rows q 0))) (fun _ _ _ _ k _ _ _ _ => rows.length - (intOf k).toNat)
 case atStart => exact ⟨0, Nat.zero_le _, rfl, Lib.hid hB0, h0⟩
 case round =>
  obtain ⟨q, hq, rfl, hB, hM⟩ := hrel
  by_cases hlt : q < rows.length
  ·obtain ⟨b2, off2, u2, rfl, hc2, hu2⟩ := g3.out q hlt
   replace hc2 := (hB.out.cell (p := ⟨b2, off2 + q, none⟩) (World.block_lt_of_cell? w _ hc2)).trans hc2
   obtain ⟨A4, c4, rfl, e1, e2, e3⟩ := hu2.open_
   obtain ⟨hrl, hrb⟩ := hrow.out q hlt
   have hpr := Lib.hid (@plP_row n times rows q _ rfl)
   obtain ⟨b5, off5, rfl, hct⟩ := h3.out q (by omega)
   have nt := na.out q
   have q1 : (q : Int) < (rows.length : Int) := by omega
   have q2 : (q : Int) < (times.length : Int) := by omega
   have q0 : (0 : Int) ≤ (q : Int) := by omega
   have hrb' := Lib.hid (getD_bd hrb)
   have hsuc := Lib.hid (fun j => plE_succ times rows j q)
   clear hrb hu2
   replace e3 := Lib.hid e3
   generalize times.getD q 0 = tq at *
   generalize rows.getD q [] = row at *
   generalize hml : row.length = m at *
   replace hml := Lib.hid hml
   go_wp2
   obtain ⟨wo, rfl⟩ : ∃ wo : World, wo = wr := ⟨_, rfl⟩
   go_loopw [10, 11, 23] (fun _ _ i wr => ∃ k : Nat, k ≤ m ∧ i = .int .i64 k ∧ Hid (Below w.heap.size w wr) ∧ Hid (OwnI wr w.heap.size (.slice (some ⟨w.heap.size, 0, none⟩) n n) (plP n times rows q k))) (fun _ _ i _ => m - (intOf i).toNat)
   case atStart => exact ⟨0, Nat.zero_le _, rfl, hB, hM⟩
   case round =>
    obtain ⟨k, hk, rfl, hB, hM⟩ := hrel
    by_cases hkm : k < m
    ·obtain ⟨b4, off4, rfl, hc4⟩ := e3.out k hkm
     replace hc4 := (hB.out.cell (p := ⟨b4, off4 + k, none⟩) (World.block_lt_of_cell? w _ hc4)).trans hc4
     replace hct := (hB.out.cell (p := ⟨b5, off5 + q, none⟩) (World.block_lt_of_cell? w _ hct)).trans hct
     have nv := hrb'.out k
     obtain ⟨hc, hf⟩ := hM.out.num (k := k) (by rw [plP_len]; omega)
     rw [plP_get times rows (show k < n by omega), if_neg (Nat.lt_irrefl k)] at hc
     have hset := plP_set (n := n) times rows (k := q) (i := k)
     rw [hsuc.out k] at hset
     replace hset := Lib.hid hset
     have hbe := plE_bd times rows k q
     generalize row.getD k 0 = v at *
     generalize plE times rows k q = o at *
     have ⟨m1, m2⟩ := mul_bd' nt.1 nt.2 nv.1 nv.2
     have k1 : (k : Int) < (n : Int) := by omega
     have k2 : (k : Int) < (m : Int) := by omega
     have k0 : (0 : Int) ≤ (k : Int) := by omega
     have hup2 := Lib.hid (fun (wd : World) (h : OwnI wd w.heap.size (.slice (some ⟨w.heap.size, 0, none⟩) n n) (plP n times rows q k)) => h.put k ((o + tq * v) % 65521))
     have hMd := Lib.hid (hM.out.below (Below.refl wr.heap.size wr).drew)
     have hBd := Lib.hid (hB.out.drew)
     go_wp2
     go_still_tail 15, (by kernel_rfl)
     change wpList _ _ _ _ _ wr.drew
     replace hc : wr.drew.cell? _ = _ := hc
     replace hf : wr.drew.frozen? _ = _ := hf
     clear hc2 hc4 hct hM hB
     have hput := Lib.hid (hup2.out _ hMd.out)
     clear hMd
     generalize wr.drew = wd at hc hf hput hBd ⊢
     go_wp2
     go_roundw
     case rel => exact ⟨k + 1, by omega, by go_num, Lib.hid (hBd.out.setCell (Nat.le_refl _) _), Lib.hid (by have := hput.out; rw [hset.out] at this; exact this)⟩
     case measure => simp [intOf]; omega
    ·obtain rfl : k = m := by omega
     go_wp2
     go_roundw
     case rel => exact ⟨q + 1, by omega, by go_num, hB, by rw [hpr.out] at hM; exact hM⟩
     case measure => simp [intOf]; omega
  ·obtain rfl : q = rows.length := by omega
   go_wp2
   go_ret
   exact ⟨⟨_, rfl, by have := hM.out; rwa [plP_end] at this⟩, hB.out⟩
end Go.Proofs.YtlpldfocljnpnaaDoor
namespace Go.Proofs.YtlpldfocljnpnaaDoor
open Go.RowKit Go.Shelf
def mxH (f : Nat → Nat → Int) (n i : Nat) : List (List Int) := (List.range n).map fun j => if j < i then (List.range n).map (f j) else []
def mxP (f : Nat → Nat → Int) (n i k : Nat) : List (List Int) := (List.range n).map fun j => if j < i then (List.range n).map (f j) else if j = i then (List.range n).map (fun q => if q < k then f i q else 0) else []
theorem mxP_len (f : Nat → Nat → Int) (n i k : Nat) : (mxP f n i k).length = n := by simp [mxP]
theorem mxH_zero (f : Nat → Nat → Int) (n : Nat) : mxH f n 0 = List.replicate n [] := by
 apply List.ext_getElem (by simp [mxH])
 intro j h1 h2
 simp [mxH]
theorem mxH_end (f : Nat → Nat → Int) (n : Nat) : mxH f n n = mat f n n := by
 refine List.map_congr_left fun j hj => ?_
 rw [if_pos (List.mem_range.1 hj)]
theorem mxH_get (f : Nat → Nat → Int) {n i : Nat} (hi : i < n) : (mxH f n i)[i]? = some [] := by simp [mxH, List.getElem?_range hi]
theorem mxP_get (f : Nat → Nat → Int) {n i : Nat} (k : Nat) (hi : i < n) : (mxP f n i k)[i]? = some ((List.range n).map (fun q => if q < k then f i q else 0)) := by simp [mxP, List.getElem?_range hi]
theorem mxH_set (f : Nat → Nat → Int) {n i : Nat} : (mxH f n i).set i (List.replicate n 0) = mxP f n i 0 := by
 apply List.ext_getElem (by simp [mxH, mxP])
 intro j h1 h2
 rw [List.getElem_set]
 by_cases e : i = j
 ·subst e
  rw [if_pos rfl]
  simp only [mxP, List.getElem_map, List.getElem_range]
  rw [if_neg (Nat.lt_irrefl i), if_pos trivial]
  apply List.ext_getElem (by simp)
  intro q q1 q2
  simp
 ·rw [if_neg e]
  simp only [mxH, mxP, List.getElem_map, List.getElem_range]
  rw [if_neg (show ¬ j = i from Ne.symm e)]
theorem mxP_set (f : Nat → Nat → Int) {n i k : Nat} : (mxP f n i k).set i (((List.range n).map (fun q => if q < k then f i q else 0)).set k (f i k)) = mxP f n i (k + 1) := by
 apply List.ext_getElem (by simp [mxP])
 intro j h1 h2
 rw [List.getElem_set]
 by_cases e : i = j
 ·subst e
  rw [if_pos rfl]
  simp only [mxP, List.getElem_map, List.getElem_range]
  rw [if_neg (Nat.lt_irrefl i), if_pos trivial]
  apply List.ext_getElem (by simp)
  intro q q1 q2
  rw [List.getElem_set]
  simp only [List.getElem_map, List.getElem_range]
  by_cases e2 : k = q
  ·subst e2; rw [if_pos rfl, if_pos (by omega)]
  ·rw [if_neg e2]
   by_cases h : q < k
   ·rw [if_pos h, if_pos (by omega)]
   ·rw [if_neg h, if_neg (by omega)]
 ·rw [if_neg e]
  simp only [mxP, List.getElem_map, List.getElem_range]
  rw [if_neg (show ¬ j = i from Ne.symm e), if_neg (show ¬ j = i from Ne.symm e)]
theorem mxP_end (f : Nat → Nat → Int) (n i : Nat) : mxP f n i n = mxH f n (i + 1) := by
 refine List.map_congr_left fun j _ => ?_
 by_cases h : j < i
 ·rw [if_pos h, if_pos (by omega)]
 ·rw [if_neg h]
  by_cases e : j = i
  ·subst e
   rw [if_pos rfl, if_pos (by omega)]
   exact List.map_congr_left fun q hq => by rw [if_pos (List.mem_range.1 hq)]
  ·rw [if_neg e, if_neg (by omega)]
theorem mtx_any (f : Nat → Nat → Int) (n : Nat) (g : Nat) (lb : Array Value) (eg : ∀ args w, (callFunc g args).run Tryd.prog w = .ok (.enter g args) w) (w : World) (hn : n ≤ 1000000)
  (hf : ∀ (W : World) (i k : Nat), Below w.heap.size w W → i < n → k < n → Calls Tryd.prog g (#[.int .i64 i, .int .i64 k] ++ lb) W fun e w' => e = .returned (.int .i64 (f i k)) ∧ Below W.heap.size W w') :
  Calls Tryd.prog 63 #[.int .i64 n, .func (.func g) #[] lb] w fun e w' => (∃ v, e = .returned v ∧ OwnM w' w.heap.size v (mat f n n)) ∧ Below w.heap.size w w' := by
 have hmk := run_make_row' (P := Tryd.prog) 59 22 _ _ Tryd.underlying59 infoR rfl .i64 .i64 n (by omega) (by omega)
 have hmk2 := run_make_row' (P := Tryd.prog) 22 3 _ _ Tryd.underlying22 infoI rfl .i64 .i64 n (by omega) (by omega)
 replace hf := Lib.hid hf
 go_enter Tryd.func63, Tryd.ntmps63
 go_wp2
 have h0 := OwnM_made w w.heap.size n (Nat.le_refl _) (by unfold maxLen; omega)
 rw [← mxH_zero f n] at h0
 have hB0 : Below w.heap.size w (w.alloc (.cells (madeCells #[.slice none 0 0] n) 22)) := (Below.refl _ _).alloc (Nat.le_refl _) _
 generalize w.alloc (.cells (madeCells #[.slice none 0 0] n) 22) = w1 at h0 hB0 ⊢
 go_loopw [6, 7, 12, 21] (fun _ _ i _ wr => ∃ k : Nat, k ≤ n ∧ i = .int .i64 k ∧ Hid (Below w.heap.size w wr) ∧ Hid (OwnM wr w.heap.size (.slice (some ⟨w.heap.size, 0, none⟩) n n) (mxH f n k))) (fun _ _ i _ _ => n - (intOf i).toNat)
 case atStart => exact ⟨0, Nat.zero_le _, rfl, Lib.hid hB0, Lib.hid h0⟩
 case round =>
  obtain ⟨i, hi', rfl, hB, hM⟩ := hrel
  by_cases hlt : i < n
  ·obtain ⟨_, hgs, u, hc, hfz, hou, hub⟩ := hM.out.row' (mxH_get f hlt)
   have hal : Below wr.heap.size wr (wr.alloc (.cells (madeCells #[.int .i64 0] n) 3)) := (Below.refl _ _).alloc (Nat.le_refl _) _
   have hc2 := (hal.cell (p := ⟨w.heap.size, i, none⟩) hgs).trans hc
   have hfz2 := (hal.frozen (p := ⟨w.heap.size, i, none⟩) hgs).trans hfz
   have hno := OwnI_made wr w.heap.size n (by omega) (by unfold maxLen; omega)
   have hup := Lib.hid (hM.out.upd (v' := .slice (some ⟨wr.heap.size, 0, none⟩) n n) (mxH_get f hlt) hc (World.grownBy_alloc wr (.cells (madeCells #[.int .i64 0] n) 3) u.ownBlock) hno (.inr (.inr ⟨wr.heap.size, rfl, Nat.le_refl _⟩)))
   rw [mxH_set f] at hup
   have hBa := Lib.hid ((hB.out.trans (hal.mono hB.out.size)).setCell (p := ⟨w.heap.size, i, none⟩) (Nat.le_refl _) (.slice (some ⟨wr.heap.size, 0, none⟩) n n))
   have q1 : (i : Int) < (n : Int) := by omega
   have q2 : (0 : Int) ≤ (i : Int) := by omega
   clear hou hno hM hB hc hfz
   go_wp2
   rw [World.setCell_alloc_past _ _ _ _ hgs] at hup hBa
   generalize (wr.setCell ⟨w.heap.size, i, none⟩ (.slice (some ⟨wr.heap.size, 0, none⟩) n n)).alloc (.cells (madeCells #[.int .i64 0] n) 3) = wo at hup hBa ⊢
   clear hc2 hfz2 hal
   go_loopw [7, 21] (fun _ j wr => ∃ k : Nat, k ≤ n ∧ j = .int .i64 k ∧ Hid (Below w.heap.size w wr) ∧ Hid (OwnM wr w.heap.size (.slice (some ⟨w.heap.size, 0, none⟩) n n) (mxP f n i k))) (fun _ j _ => n - (intOf j).toNat)
   case atStart => exact ⟨0, Nat.zero_le _, rfl, hBa, hup⟩
   case round =>
    obtain ⟨k, hk, rfl, hB, hM⟩ := hrel
    by_cases hkm : k < n
    ·obtain ⟨vs, hMv⟩ := hM.out.v
     have hr := mxP_get f k hlt
     have hiv : i < vs.length := by rw [hMv.len, mxP_len]; exact hlt
     have hu : vs[i]? = some vs[i] := List.getElem?_eq_getElem hiv
     obtain ⟨g0, c0, e0, hg0, -, hc, hf0⟩ := hMv.at_ hr hu
     simp only [Value.slice.injEq, Option.some.injEq, Addr.mk.injEq, and_true] at e0
     obtain ⟨rfl, -, -⟩ := e0
     obtain ⟨g1, c1, e1, -, -, hc1, hf1⟩ := hMv.num hr hu (k := k) (by simp; exact hkm)
     rw [List.length_map, List.length_range] at e1
     rw [e1] at hc hu
     have hcl := Lib.hid (fun W (hW : Below w.heap.size w W) => hf.out W i k hW hlt hkm)
     have k1 : (k : Int) < (n : Int) := by omega
     have k0 : (0 : Int) ≤ (k : Int) := by omega
     have hgne : g1 ≠ w.heap.size := fun e => hMv.outer_ne rfl _ (List.mem_of_getElem? hu) (congrArg some e)
     have hM2 := Lib.hid hMv
     have hB2 := Lib.hid hB.out
     have hr2 := Lib.hid hr
     have hu2 := Lib.hid hu
     clear hr hu hMv hM hB e1 hiv hc1 hf1
     go_wp2
     refine D_begin (fun w' => w'.cell? ⟨w.heap.size, i, none⟩ = some (.slice (some ⟨g1, 0, none⟩) n c1)) (fun _ => True) 10 (by kernel_rfl) ?_
     change wpAnyD _ _ _ _ _ _ _ _ _ _ wr.drew
     simp only [List.size_toArray, List.length_cons, List.length_nil, Nat.reduceAdd, Array.replicate_succ, Array.replicate_zero, List.push_toArray, List.append_toArray, List.nil_append, List.cons_append]
     have hD1 : Below wr.heap.size wr wr.drew := (Below.refl _ _).drew
     replace hc := (hD1.cell (World.block_lt_of_cell? _ _ hc)).trans hc
     replace hM2 := Lib.hid (hM2.out.kept hD1)
     replace hB2 := Lib.hid (Below.then_ hB2.out hD1)
     have z_D1 := hD1.size; clear hD1
     generalize wr.drew = D1 at *
     refine Dt 0 rfl ?_ (by first | exact hc | exact hcS) (fun _ => trivial) ?_ ?_
     rotate_left; · intro w1 hw1; go_simp; try with_reducible rfl
     try simp only [Act.put, s_1, s_2, s_3, s_4, s_5, s_6]
     refine Dt 1 rfl ?_ (by first | exact hc | exact hcS) (fun _ => trivial) ?_ ?_
     rotate_left; · intro w1 hw1; go_simp; try with_reducible rfl
     try simp only [Act.put, s_1, s_2, s_3, s_4, s_5, s_6]
     refine Dt 4 rfl ?_ (by first | exact hc | exact hcS) (fun _ => trivial) ?_ ?_
     rotate_left; · intro w1 hw1; go_simp; try with_reducible rfl
     try simp only [Act.put, s_1, s_2, s_3, s_4, s_5, s_6]
     refine Dt 5 rfl ?_ (by first | exact hc | exact hcS) (fun _ => trivial) ?_ ?_
     rotate_left; · intro w1 hw1; go_simp; try with_reducible rfl
     try simp only [Act.put, s_1, s_2, s_3, s_4, s_5, s_6]
     refine Dt 6 rfl ?_ (by first | exact hc | exact hcS) (fun _ => trivial) ?_ ?_
     rotate_left; · intro w1 hw1; go_simp; try with_reducible rfl
     try simp only [Act.put, s_1, s_2, s_3, s_4, s_5, s_6]
     refine Dt 7 rfl ?_ (by first | exact hc | exact hcS) (fun _ => trivial) ?_ ?_
     rotate_left; · intro w1 hw1; go_simp; try with_reducible rfl
     try simp only [Act.put, s_1, s_2, s_3, s_4, s_5, s_6]
     refine Dt 2 rfl ?_ (by first | exact hc | exact hcS) (fun _ => trivial) ?_ ?_
     rotate_left; · intro w1 hw1; go_simp; try with_reducible rfl
     try simp only [Act.put, s_1, s_2, s_3, s_4, s_5, s_6]
     refine Dt 3 rfl ?_ (by first | exact hc | exact hcS) (fun _ => trivial) ?_ ?_
     rotate_left; · intro w1 hw1; go_simp; try with_reducible rfl
     try simp only [Act.put, s_1, s_2, s_3, s_4, s_5, s_6]
     refine D_one (i := 8) (by kernel_rfl) rfl ?_
     intro K hK
     rw [if_pos (by rfl)]
     go_wp2_with fail
     go_at_fn g
     refine (hcl.out D1 hB2.out).mono ?_; rintro e D1_1 ⟨rfl, hE1⟩
     replace hc := (hE1.cell (World.block_lt_of_cell? _ _ hc)).trans hc
     replace hM2 := Lib.hid (hM2.out.kept hE1)
     replace hB2 := Lib.hid (Below.then_ hB2.out hE1)
     obtain ⟨g9, c9, e9, -, -, hc1, hf1⟩ := hM2.out.num hr2.out hu2.out (k := k) (by simp; exact hkm)
     simp only [Value.slice.injEq, Option.some.injEq, Addr.mk.injEq, and_true] at e9
     obtain ⟨rfl, -, -⟩ := e9
     generalize ((List.range n).map (fun q => if q < k then f i q else 0)).getD k 0 = old at hc1
     have z_1 := hE1.size; clear hE1
     refine hK _ _ (by first | exact hc | exact hcS) (fun _ _ => trivial) ?_
     clear hK K
     try simp only [Act.put, s_1, s_2, s_3, s_4, s_5, s_6]
     refine Dt 9 rfl ?_ (by first | exact hc | exact hcS) (fun _ => trivial) ?_ ?_
     rotate_left; · intro w1 hw1; go_simp; try with_reducible rfl
     try simp only [Act.put, s_1, s_2, s_3, s_4, s_5, s_6]
     refine D_one (i := 10) (by kernel_rfl) rfl ?_
     intro K hK
     rw [if_pos (by rfl)]
     go_simp
     have hcS : ((D1_1.setCell ⟨g1, k, none⟩ (.int .i64 (f i k)))).cell? ⟨w.heap.size, i, none⟩ = some (.slice (some ⟨g1, 0, none⟩) n c1) := (World.cell?_of_block (Below.heap_setCell _ _ _ _ (fun e => hgne e.symm))).trans hc
     have hput := hM2.out.put hr2.out hu2.out (k := k) (f i k)
     rw [mxP_set f] at hput
     have hO := Lib.hid hput.1.m
     have hKq := Lib.hid (hB2.out.trans (hput.2.below (B := w.heap.size) (hB2.out.size) (fun u hu k hk => (hM2.out.ge u hu k hk).1)))
     clear hput hM2 hB2 hc1 hf1
     refine hK _ _ (by first | exact hc | exact hcS) (fun h _ => absurd rfl h) ?_
     clear hK K
     try simp only [Act.put, s_1, s_2, s_3, s_4, s_5, s_6]
     refine D_done (by kernel_rfl) ?_ _
     go_wp2
     go_roundw
     case rel => exact ⟨k + 1, by omega, by go_num, hKq, hO⟩
     case measure => simp [intOf]; omega
    ·obtain rfl : k = n := by omega
     go_wp2
     go_roundw
     case rel => exact ⟨i + 1, by omega, by go_num, hB, by rw [← mxP_end]; exact hM⟩
     case measure => simp [intOf]; omega
  ·obtain rfl : i = n := by omega
   go_wp2
   go_ret
   exact ⟨⟨_, rfl, by rw [← mxH_end]; exact hM.out⟩, hB.out⟩
theorem box4 (w : World) (a b c d : Value) (T : TypeId) : Below w.heap.size w (w.alloc (.cells #[a, b, c, d] T)) ∧ (w.alloc (.cells #[a, b, c, d] T)).heap[w.heap.size]? = some (.cells #[a, b, c, d] T (0, 0)) ∧ (w.alloc (.cells #[a, b, c, d] T)).heap.size = w.heap.size + 1 :=
 ⟨(Below.refl _ _).alloc (Nat.le_refl _) _, heap_alloc_new _ _, by simp⟩
theorem cells4 {W : World} {g : Nat} {a b c d : Value} {T : TypeId} {fr : Nat × Nat} (h : W.heap[g]? = some (.cells #[a, b, c, d] T fr)) : W.cell? ⟨g, 0, none⟩ = some a ∧ W.cell? ⟨g, 1, none⟩ = some b ∧ W.cell? ⟨g, 2, none⟩ = some c ∧ W.cell? ⟨g, 3, none⟩ = some d := by
 unfold World.cell?; rw [h]; exact ⟨rfl, rfl, rfl, rfl⟩
theorem states_any (l : Int) (A : Option Addr) (n c : Nat) (e t : Value) (w : World) :
  Calls Tryd.prog 108 #[.agg #[.int .i64 l, .slice A n c, e, t]] w fun r w' => r = .returned (.int .i64 n) ∧ Below w.heap.size w w' := by
 have hB := Lib.hid (box4 w (.int .i64 l) (.slice A n c) e t 77).1
 go_enter Tryd.func108, Tryd.ntmps108
 go_wp2
 go_ret
 exact ⟨rfl, hB.out⟩
end Go.Proofs.YtlpldfocljnpnaaDoor
namespace Go.Proofs.YtlpldfocljnpnaaDoor
open Go.RowKit Go.Shelf
theorem heap_keep {W W' : World} {g : Nat} {o : Obj} (h : W.heap[g]? = some o) (hb : Below W.heap.size W W') : W'.heap[g]? = some o := (hb.block g (lt_of_block h)).trans h
theorem okA.row_ok {a : Aut} {k n : Nat} (ok : okA a k n) {x : Nat} (hx : x < k) : (a.steps.getD x []).length = n ∧ ∀ r ∈ a.steps.getD x [], r.length = n ∧ ∀ u ∈ r, 0 ≤ u ∧ u < 65521 := by
 have h := ok.mats (a.steps.getD x []) (by rw [List.getD_eq_getElem?_getD, List.getElem?_eq_getElem (by rw [ok.steps]; exact hx)]; exact List.getElem_mem _)
 exact ⟨h.1, h.2⟩
theorem forth_any {a : Aut} {k n : Nat} (ok : okA a k n) (hn : n ≤ 1000) (row : List Int) (x : Nat) (hx : x < k) (hr : row.length = n) (hb : ∀ u ∈ row, 0 ≤ u ∧ u < 65521) (s e t vr : Value) (w : World) (ra : RdA w s e t a) (rr : RdI w vr row) :
  Calls Tryd.prog 90 #[.agg #[.int .i64 a.letters, s, e, t], vr, .int .i64 x] w fun r w' => (∃ v, r = .returned v ∧ OwnI w' w.heap.size v (alongL n row (a.steps.getD x []))) ∧ Below w.heap.size w w' := by
 obtain ⟨b, off, c, u, rfl, hc, hu⟩ := ra.steps.get (x := x) (by rw [ok.steps]; exact hx)
 obtain ⟨A, d, rfl, s1, s2⟩ := ra.start.cell_
 have hsl := ok.start.1
 have hkl := ok.steps
 have hro := ok.row_ok hx
 obtain ⟨hbx, hgx, hzx⟩ := box4 w (.int .i64 a.letters) (.slice A a.start.length d) e (.slice (some ⟨b, off, none⟩) a.steps.length c) 77
 have hcb : b < w.heap.size := World.block_lt_of_cell? w _ hc
 have hc1 := (hbx.cell (p := ⟨b, off + x, none⟩) hcb).trans hc
 have hpl := Lib.hid (fun W (hW : Below w.heap.size w W) => plus_any n row (a.steps.getD x []) vr u W (by omega) (rr.below hW (Nat.le_refl _)) (hu.below hW (Nat.le_refl _)) (by rw [hro.1, hr]; exact Nat.le_refl _) (fun r hr => ⟨Nat.le_of_eq (hro.2 r hr).1, (hro.2 r hr).2⟩) (fun u hu => ⟨(hb u hu).1, by have := (hb u hu).2; omega⟩))
 have hst := Lib.hid (fun W => (states_any a.letters A a.start.length d e (.slice (some ⟨b, off, none⟩) a.steps.length c) W).mono (R' := fun r w' => r = .returned (.int .i64 n) ∧ Below W.heap.size W w') (fun _ _ ⟨h1, h2⟩ => ⟨by rw [h1, hsl], h2⟩))
 have hal := Lib.hid (show plusL n row (a.steps.getD x []) = alongL n row (a.steps.getD x []) from rfl)
 have x1 : (x : Int) < (a.steps.length : Int) := by omega
 have x0 : (0 : Int) ≤ (x : Int) := by omega
 replace hsl := Lib.hid hsl
 replace hkl := Lib.hid hkl
 clear ra rr hro hu hr hb hzx hc
 replace hbx := Lib.hid hbx
 go_enter Tryd.func90, Tryd.ntmps90
 go_wp2
 generalize w.alloc (.cells #[.int .i64 a.letters, .slice A a.start.length d, e, .slice (some ⟨b, off, none⟩) a.steps.length c] 77) = X at *
 have HS : X.drew.heap[w.heap.size]? = some (.cells #[.int .i64 a.letters, .slice A a.start.length d, e, .slice (some ⟨b, off, none⟩) a.steps.length c] 77 (0, 0)) ∧ X.drew.cell? ⟨b, off + x, none⟩ = some u := ⟨hgx, hc1⟩
 have hT := Lib.hid (hbx.out.drew)
 refine D_begin (fun w' => w'.heap[w.heap.size]? = some (.cells #[.int .i64 a.letters, .slice A a.start.length d, e, .slice (some ⟨b, off, none⟩) a.steps.length c] 77 (0, 0)) ∧ w'.cell? ⟨b, off + x, none⟩ = some u) (fun _ => True) 10 (by kernel_rfl) ?_
 change wpAnyD _ _ _ _ _ _ _ _ _ _ X.drew
 simp only [List.size_toArray, List.length_cons, List.length_nil, Nat.reduceAdd, Array.replicate_succ, Array.replicate_zero, List.push_toArray, List.append_toArray, List.nil_append, List.cons_append]
 refine Dt 0 rfl ?_ HS (fun _ => trivial) ?_ ?_
 rotate_left; · intro w1 hw1; obtain ⟨hw1, hw2⟩ := hw1; obtain ⟨q0, q1, q2, q3⟩ := cells4 hw1; go_simp; try with_reducible rfl
 try simp only [Act.put, s_1, s_2, s_3, s_4, s_5, s_6]
 refine Dt 2 rfl ?_ HS (fun _ => trivial) ?_ ?_
 rotate_left; · intro w1 hw1; obtain ⟨hw1, hw2⟩ := hw1; obtain ⟨q0, q1, q2, q3⟩ := cells4 hw1; go_simp; try with_reducible rfl
 try simp only [Act.put, s_1, s_2, s_3, s_4, s_5, s_6]
 refine Dt 3 rfl ?_ HS (fun _ => trivial) ?_ ?_
 rotate_left; · intro w1 hw1; obtain ⟨hw1, hw2⟩ := hw1; obtain ⟨q0, q1, q2, q3⟩ := cells4 hw1; go_simp; try with_reducible rfl
 try simp only [Act.put, s_1, s_2, s_3, s_4, s_5, s_6]
 refine Dt 4 rfl ?_ HS (fun _ => trivial) ?_ ?_
 rotate_left; · intro w1 hw1; obtain ⟨hw1, hw2⟩ := hw1; obtain ⟨q0, q1, q2, q3⟩ := cells4 hw1; go_simp; try with_reducible rfl
 try simp only [Act.put, s_1, s_2, s_3, s_4, s_5, s_6]
 refine Dt 5 rfl ?_ HS (fun _ => trivial) ?_ ?_
 rotate_left; · intro w1 hw1; obtain ⟨hw1, hw2⟩ := hw1; obtain ⟨q0, q1, q2, q3⟩ := cells4 hw1; go_simp; try with_reducible rfl
 try simp only [Act.put, s_1, s_2, s_3, s_4, s_5, s_6]
 refine Dt 6 rfl ?_ HS (fun _ => trivial) ?_ ?_
 rotate_left; · intro w1 hw1; obtain ⟨hw1, hw2⟩ := hw1; obtain ⟨q0, q1, q2, q3⟩ := cells4 hw1; go_simp; try with_reducible rfl
 try simp only [Act.put, s_1, s_2, s_3, s_4, s_5, s_6]
 refine Dt 7 rfl ?_ HS (fun _ => trivial) ?_ ?_
 rotate_left; · intro w1 hw1; obtain ⟨hw1, hw2⟩ := hw1; obtain ⟨q0, q1, q2, q3⟩ := cells4 hw1; go_simp; try with_reducible rfl
 try simp only [Act.put, s_1, s_2, s_3, s_4, s_5, s_6]
 refine Dt 8 rfl ?_ HS (fun _ => trivial) ?_ ?_
 rotate_left; · intro w1 hw1; obtain ⟨hw1, hw2⟩ := hw1; obtain ⟨q0, q1, q2, q3⟩ := cells4 hw1; go_simp; try with_reducible rfl
 try simp only [Act.put, s_1, s_2, s_3, s_4, s_5, s_6]
 obtain ⟨HS1, HS2⟩ := HS
 refine D_one (i := 1) (by kernel_rfl) rfl ?_
 intro K hK
 rw [if_pos (by rfl)]
 go_wp2_with fail
 refine (hst.out X.drew).mono ?_; rintro e W1 ⟨rfl, hN_W1⟩
 replace hT := Lib.hid (Below.then_ hT.out hN_W1)
 replace HS1 := heap_keep HS1 hN_W1
 replace HS2 := (hN_W1.cell (World.block_lt_of_cell? _ _ HS2)).trans HS2
 have z_W1 := hN_W1.size; clear hN_W1
 refine hK _ _ ⟨HS1, HS2⟩ (fun _ _ => trivial) ?_
 clear hK K
 try simp only [Act.put, s_1, s_2, s_3, s_4, s_5, s_6]
 refine D_one (i := 9) (by kernel_rfl) rfl ?_
 intro K hK
 rw [if_pos (by rfl)]
 go_wp2_with fail
 refine (hpl.out W1 hT.out).mono ?_; rintro e W2 ⟨⟨v, rfl, hO⟩, hN_W2⟩
 replace hT := Lib.hid (Below.then_ hT.out hN_W2)
 replace HS1 := heap_keep HS1 hN_W2
 replace HS2 := (hN_W2.cell (World.block_lt_of_cell? _ _ HS2)).trans HS2
 have z_W2 := hN_W2.size; clear hN_W2
 refine hK _ _ ⟨HS1, HS2⟩ (fun _ _ => trivial) ?_
 clear hK K
 try simp only [Act.put, s_1, s_2, s_3, s_4, s_5, s_6]
 refine D_one (i := 10) (by kernel_rfl) rfl ?_
 intro K hK
 rw [if_pos (by rfl)]
 go_simp
 refine hK _ _ ⟨HS1, HS2⟩ (fun _ _ => trivial) ?_
 clear hK K
 try simp only [Act.put, s_1, s_2, s_3, s_4, s_5, s_6]
 refine D_done (by kernel_rfl) ?_ _
 go_wp2
 go_ret
 exact ⟨⟨_, rfl, by rw [← hal.out]; exact hO.base (Nat.le_trans hbx.out.size z_W1)⟩, hT.out⟩
end Go.Proofs.YtlpldfocljnpnaaDoor
