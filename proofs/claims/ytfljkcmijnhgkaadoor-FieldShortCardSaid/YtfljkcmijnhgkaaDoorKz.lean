/- The reference's Twin and Rank: their contracts. The reference's det: its contract. -/
import Derived.Test.YtfljkcmijnhgkaaDoorKu
import Derived.Test.YtfljkcmijnhgkaaDoorKr
import Derived.Test.YtfljkcmijnhgkaaDoorKy
import Derived.Deep.DeepCutAuto
namespace Go.Proofs.YtfljkcmijnhgkaaDoor
open Go.RowKit Go.Shelf
set_option linter.unusedSimpArgs false

set_option maxRecDepth 100000 in
set_option maxHeartbeats 1600000 in
theorem Twin_any (rs : List (List Int)) (v : Value) (w : World) (h : RdM w v rs) (hn : rs.length ≤ 100000) (hm : ∀ r ∈ rs, r.length ≤ 100000) :
    Calls Tryd.prog 121 #[v] w fun e w' => (∃ v', e = .returned v' ∧ OwnM w' w.heap.size v' rs) ∧ Below w.heap.size w w' := by
  obtain ⟨i0, hi, hz0, hz1, hz2⟩ := info_parts infoR
  obtain ⟨A, c, rfl, h1, h2, h3⟩ := h.open_
  have hml : Hid (∀ i, i < rs.length → (rs.getD i []).length ≤ 100000) := Lib.hid (fun i hi => hm _ (by rw [List.getD_eq_getElem?_getD, List.getElem?_eq_getElem hi]; exact List.getElem_mem _))
  replace h3 := Lib.hid h3
  generalize hN : rs.length = n at *
  replace hN := Lib.hid hN
  clear h hm
  go_enter Tryd.func121, Tryd.ntmps121
  go_wp2
  go_loopw [3, 5, 8] (fun o _ i wr => ∃ k : Nat, k ≤ n ∧ i = .int .i64 k ∧ Hid (Below w.heap.size w wr) ∧ Hid (∃ vs, OwnMv wr w.heap.size o (rs.take k) vs)) (fun _ _ i _ => n - (intOf i).toNat)
  case atStart => exact ⟨0, Nat.zero_le _, rfl, Lib.hid (Below.refl _ _), Lib.hid ⟨[], by rw [List.take_zero]; exact OwnMv_nil _ _⟩⟩
  case round =>
    obtain ⟨k, hk, rfl, hB, hM⟩ := hrel
    by_cases hlt : k < n
    · obtain ⟨b, off, u, rfl, hc, hu⟩ := h3.out k hlt
      have hc' := (hB.out.cell (p := ⟨b, off + k, none⟩) (World.block_lt_of_cell? w _ hc)).trans hc
      have hal : Below wr.heap.size wr (wr.alloc (.cells #[] 3)) := (Below.refl _ _).alloc (Nat.le_refl _) _
      have hud := Lib.hid (hu.below (Below.then_ hB.out hal) (Nat.le_refl _))
      have hlen := Lib.hid (hml.out k hlt)
      have htk : Hid (rs.take k ++ [rs.getD k []] = rs.take (k + 1)) := Lib.hid (by rw [List.take_add_one, List.getElem?_eq_getElem (by rw [hN.out]; exact hlt)]; simp [List.getD_eq_getElem?_getD, hN.out, hlt])
      have hkl : (rs.take k).length = k := by rw [List.length_take, hN.out]; omega
      obtain ⟨vs, hMv⟩ := hM.out
      obtain ⟨A1, c1, rfl⟩ := own_shape hMv.outer
      have hk2 := Lib.hid hkl
      rw [hkl] at hMv ⊢
      replace hMv := Lib.hid hMv
      have hBs := hB.out.size
      obtain ⟨Au, cu, rfl, -, -⟩ := hu.cell_
      clear hc hu hM hkl
      have k1 : (k : Int) < (n : Int) := by omega
      have k0 : (0 : Int) ≤ (k : Int) := by omega
      have hown0 : Hid ((wr.alloc (.cells #[] 3)).ownsRow wr.heap.size 3 1 (.slice (some ⟨wr.heap.size, 0, none⟩) 0 0) 0 []) := Lib.hid (World.ownsRow_made wr #[] 0 (Nat.le_refl _) (by unfold maxLen; omega) rfl)
      generalize hrow : rs.getD k [] = row at *
      replace hrow := Lib.hid hrow
      have hwal : Hid (∀ W3, (wr.alloc (.cells #[] 3)).grownBy W3 (Value.slice (some ⟨wr.heap.size, 0, none⟩) 0 0).ownBlock → Below wr.heap.size wr W3) := Lib.hid (fun W3 hg => hal.grown hg hal.size (fun q hq => (hown0.out.lt q hq).1))
      have hw3 : Hid (∀ W3 x, (wr.alloc (.cells #[] 3)).grownBy W3 (Value.slice (some ⟨wr.heap.size, 0, none⟩) 0 0).ownBlock → (W3.alloc (.cells #[x] 23)).ownsRow w.heap.size 23 1 (.slice A1 k c1) k vs ∧ w.heap.size ≤ (W3.alloc (.cells #[x] 23)).heap.size) := Lib.hid (fun W3 x hg => by
        have hb := Below.then_ (hwal.out W3 hg) ((Below.refl _ W3).alloc (Nat.le_refl _) (.cells #[x] 23))
        have := (hMv.out.kept hb).outer
        rw [hk2.out] at this
        exact ⟨this, by have := hb.size; omega⟩)
      go_wp2_with (at_builtin; (first
        | (refine wpList_append_rd rfl _ _ rfl wr.heap.size (.slice (some ⟨wr.heap.size, 0, none⟩) 0 0) (.slice Au row.length cu) 0 [] row rfl rfl hown0.out hud.out (by have := hlen.out; omega) hal.size ?_; intro v3 W3 hown hgrow hat; obtain ⟨A3, c3, rfl⟩ := own_shape hown)
        | (refine wpList_append_own_at _ rfl _ _ 22 rfl w.heap.size 23 i0 _ 1 24 Tryd.underlying22 hi hz0 hz1 hz2 rfl (by omega) (.slice A1 k c1) k vs rfl (hw3.out _ _ (by assumption)).1 ⟨_, 0, none⟩ 1 1 [_] rfl rfl (cell_one_new _ _ _) (by simp [Value.oneCell']) (by unfold maxLen; omega) (by omega) (hw3.out _ _ (by assumption)).2 ?_; intro v' w1 hown1 hgrow1 _ _)))
      rw [Nat.zero_add, List.nil_append] at hown
      replace hown1 := Lib.hid hown1
      replace hgrow1 := Lib.hid hgrow1
      go_roundw
      case rel =>
        obtain ⟨g1, g2⟩ := snoc_round hB.out hMv.out (hwal.out _ hgrow) (show OwnI _ _ _ row from hown) (by rw [hk2.out]) hown1.out hgrow1.out
        exact ⟨k + 1, by omega, by go_num, Lib.hid g1, Lib.hid (by rw [← htk.out]; exact g2)⟩
      case measure => simp [intOf]; omega
    · obtain rfl : n = k := by omega
      go_wp2
      go_ret
      refine ⟨⟨_, rfl, ?_⟩, hB.out⟩
      obtain ⟨vs, hMv⟩ := hM.out
      rw [List.take_of_length_le (by rw [hN.out]; exact Nat.le_refl _)] at hMv
      exact hMv.m
theorem rankR_ref {rs : List (List Int)} (h : checkM rs = 0) : rankR rs = ((((natI (pivK (solveS rs (List.range (len0 rs)).reverse false))).length : Nat) : Int), 0) := by
  obtain ⟨hok, -⟩ := checkM_ok h
  rw [rankR, if_neg (by simpa using h), rank_turn hok]; simp [natI, pivK]
set_option maxRecDepth 100000 in
set_option maxHeartbeats 1600000 in
theorem refRank_any (rs : List (List Int)) (v : Value) (w : World) (h : RdM w v rs) :
    Calls Tryd.prog 49 #[v] w fun e w' => e = .returned (.tuple #[.int .i64 (rankR rs).1, .int .i64 (rankR rs).2]) ∧ Below w.heap.size w w' := by
  have hR := Lib.hid h
  obtain ⟨A, c, rfl, l1, l2, l3⟩ := h.open_
  have hch := Lib.hid (refCheck_any rs _ w h)
  by_cases h0 : checkM rs = 0
  · obtain ⟨hok, p1, p2, p3, p4⟩ := checkM_ok h0
    have hr := Lib.hid (rankR_ref h0)
    obtain ⟨b0, off, u, rfl, hc0, hu⟩ := l3 0 (by omega)
    obtain ⟨A1, c1, rfl, -, -⟩ := hu.cell_
    rw [Nat.add_zero] at hc0
    change w.cell? _ = some (.slice A1 (len0 rs) c1) at hc0
    have htw := Lib.hid (fun W (hW : Below w.heap.size w W) => Twin_any rs _ W (hR.out.below hW (Nat.le_refl _)) (by omega) (fun r hr => by have := (hok.2 r hr).1; omega))
    have hrd := Lib.hid (fun v vs base W hO (hb : base ≤ W.heap.size) => reduce_any rs rs.length (len0 rs) (len0 rs) base v vs W hO hok (by omega) (by omega) (Nat.le_refl _) hb)
    rw [h0] at hch
    have n2 : 0 < rs.length := by omega
    clear h0 hok l3 hu hR h p1 p2
    generalize rankR rs = RES at *
    have hbound := Lib.hid p4
    generalize hP : solveS rs (List.range (len0 rs)).reverse false = SS at *
    clear hP
    generalize len0 rs = m at *
    generalize rs.length = n at *
    go_enter Tryd.func49, Tryd.ntmps49
    go_wp2_with fail
    refine hch.out.mono ?_; rintro e W1 ⟨rfl, hB1⟩
    have hc1 := (hB1.cell (World.block_lt_of_cell? w _ hc0)).trans hc0
    replace hB1 := Lib.hid hB1
    go_wp2
    refine D_begin (fun w' => w'.cell? ⟨b0, off, none⟩ = some (.slice A1 m c1)) (fun _ => True) 99 (by kernel_rfl) ?_
    change wpAnyD _ _ _ _ _ _ _ _ _ _ W1.drew
    simp only [List.size_toArray, List.length_cons, List.length_nil, Nat.reduceAdd, Array.replicate_succ, Array.replicate_zero, List.push_toArray, List.append_toArray, List.nil_append, List.cons_append]
    have HS : W1.drew.cell? ⟨b0, off, none⟩ = some (.slice A1 m c1) := hc1
    replace hB1 := Lib.hid hB1.out.drew
    have hlt : b0 < w.heap.size := World.block_lt_of_cell? w _ hc0
    clear hc1 hc0
    generalize W1.drew = Wd at *
    have hz := hB1.out.size
    refine D_take (i := 0) (v := ?_) rfl (by kernel_rfl) (by kernel_rfl) (by kernel_rfl) (by kernel_rfl) (fun _ _ _ h => h) (Or.inl ⟨by rfl, ?_⟩) HS (fun _ => trivial) ?_
    rotate_left; · intro w1 hw1; go_simp; try with_reducible rfl
    try simp only [Act.put, List.getElem_toArray, List.getElem_cons_zero, List.getElem_cons_succ, List.setIfInBounds_toArray, List.set_cons_zero, List.set_cons_succ]
    refine D_take (i := 2) (v := ?_) rfl (by kernel_rfl) (by kernel_rfl) (by kernel_rfl) (by kernel_rfl) (fun _ _ _ h => h) (Or.inl ⟨by rfl, ?_⟩) HS (fun _ => trivial) ?_
    rotate_left; · intro w1 hw1; go_simp; try with_reducible rfl
    try simp only [Act.put, List.getElem_toArray, List.getElem_cons_zero, List.getElem_cons_succ, List.setIfInBounds_toArray, List.set_cons_zero, List.set_cons_succ]
    refine D_take (i := 3) (v := ?_) rfl (by kernel_rfl) (by kernel_rfl) (by kernel_rfl) (by kernel_rfl) (fun _ _ _ h => h) (Or.inl ⟨by rfl, ?_⟩) HS (fun _ => trivial) ?_
    rotate_left; · intro w1 hw1; go_simp; try with_reducible rfl
    try simp only [Act.put, List.getElem_toArray, List.getElem_cons_zero, List.getElem_cons_succ, List.setIfInBounds_toArray, List.set_cons_zero, List.set_cons_succ]
    refine D_take (i := 4) (v := ?_) rfl (by kernel_rfl) (by kernel_rfl) (by kernel_rfl) (by kernel_rfl) (fun _ _ _ h => h) (Or.inl ⟨by rfl, ?_⟩) HS (fun _ => trivial) ?_
    rotate_left; · intro w1 hw1; go_simp; try with_reducible rfl
    try simp only [Act.put, List.getElem_toArray, List.getElem_cons_zero, List.getElem_cons_succ, List.setIfInBounds_toArray, List.set_cons_zero, List.set_cons_succ]
    refine D_take (i := 5) (v := ?_) rfl (by kernel_rfl) (by kernel_rfl) (by kernel_rfl) (by kernel_rfl) (fun _ _ _ h => h) (Or.inl ⟨by rfl, ?_⟩) HS (fun _ => trivial) ?_
    rotate_left; · intro w1 hw1; go_simp; try with_reducible rfl
    try simp only [Act.put, List.getElem_toArray, List.getElem_cons_zero, List.getElem_cons_succ, List.setIfInBounds_toArray, List.set_cons_zero, List.set_cons_succ]
    refine D_one (i := 1) (by kernel_rfl) rfl ?_
    intro K hK
    rw [if_pos (by rfl)]
    go_wp2_with fail
    refine (htw.out Wd hB1.out).mono ?_; rintro e W2 ⟨⟨tv, rfl, hO⟩, hB2⟩
    obtain ⟨vs, hOv⟩ := hO.v
    have HS2 := (hB2.cell (World.block_lt_of_cell? Wd _ HS)).trans HS
    have hB3 := Lib.hid (Below.then_ hB1.out hB2)
    have hz2 := hB2.size
    refine hK _ _ HS2 (fun _ _ => trivial) ?_
    clear hK K hO
    try simp only [Act.put, List.getElem_toArray, List.getElem_cons_zero, List.getElem_cons_succ, List.setIfInBounds_toArray, List.set_cons_zero, List.set_cons_succ]
    refine D_one (i := 6) (by kernel_rfl) rfl ?_
    intro K hK
    rw [if_pos (by rfl)]
    go_wp2_with fail
    refine (hrd.out tv vs Wd.heap.size W2 hOv hz2).mono ?_; rintro e W3 ⟨p, rfl, hI⟩
    have hB5 := Lib.hid (hB3.out.trans (hI.below.mono (by omega)))
    have HS3 : W3.cell? ⟨b0, off, none⟩ = some (.slice A1 m c1) := (hI.below.cell (by show b0 < Wd.heap.size; omega)).trans HS2
    obtain ⟨Ap, np, cp, rfl, hnp⟩ : ∃ A n c, p = .slice A n c ∧ n = (natI (pivK SS)).length := by
      have := hI.piv
      unfold OwnI at this
      obtain ⟨A, c, e⟩ := own_form this
      exact ⟨A, _, c, e, rfl⟩
    replace hnp := Lib.hid hnp
    clear hI hB2 hOv
    refine hK _ _ HS3 (fun _ _ => trivial) ?_
    clear hK K
    try simp only [Act.put, List.getElem_toArray, List.getElem_cons_zero, List.getElem_cons_succ, List.setIfInBounds_toArray, List.set_cons_zero, List.set_cons_succ]
    refine D_take (i := 7) (v := ?_) rfl (by kernel_rfl) (by kernel_rfl) (by kernel_rfl) (by kernel_rfl) (fun _ _ _ h => h) (Or.inl ⟨by rfl, ?_⟩) HS3 (fun _ => trivial) ?_
    rotate_left; · intro w1 hw1; go_simp; try with_reducible rfl
    try simp only [Act.put, List.getElem_toArray, List.getElem_cons_zero, List.getElem_cons_succ, List.setIfInBounds_toArray, List.set_cons_zero, List.set_cons_succ]
    refine D_take (i := 8) (v := ?_) rfl (by kernel_rfl) (by kernel_rfl) (by kernel_rfl) (by kernel_rfl) (fun _ _ _ h => h) (Or.inl ⟨by rfl, ?_⟩) HS3 (fun _ => trivial) ?_
    rotate_left; · intro w1 hw1; go_simp; try with_reducible rfl
    try simp only [Act.put, List.getElem_toArray, List.getElem_cons_zero, List.getElem_cons_succ, List.setIfInBounds_toArray, List.set_cons_zero, List.set_cons_succ]
    refine D_take (i := 9) (v := ?_) rfl (by kernel_rfl) (by kernel_rfl) (by kernel_rfl) (by kernel_rfl) (fun _ _ _ h => h) (Or.inl ⟨by rfl, ?_⟩) HS3 (fun _ => trivial) ?_
    rotate_left; · intro w1 hw1; go_simp; try with_reducible rfl
    try simp only [Act.put, List.getElem_toArray, List.getElem_cons_zero, List.getElem_cons_succ, List.setIfInBounds_toArray, List.set_cons_zero, List.set_cons_succ]
    refine D_done (by kernel_rfl) ?_ _
    go_wp2
    go_ret2
    exact ⟨by rw [hr.out, hnp.out]; rfl, hB5.out⟩
  · have hr : Hid (rankR rs = (0, checkM rs)) := Lib.hid (by rw [rankR, if_pos h0])
    have hne : (checkM rs != 0) = true := by rw [bne_iff_ne]; exact h0
    generalize rankR rs = RES at *
    generalize checkM rs = x at *
    clear hR h h0 l3
    generalize rs.length = n at *
    go_enter Tryd.func49, Tryd.ntmps49
    go_wp2_with fail
    refine hch.out.mono ?_; rintro e W1 ⟨rfl, hB1⟩
    go_wp2
    go_ret2
    exact ⟨by rw [hr.out]; rfl, hB1⟩
end Go.Proofs.YtfljkcmijnhgkaaDoor

namespace Go.Proofs.YtfljkcmijnhgkaaDoor
open Go.RowKit Go.Shelf
set_option linter.unusedSimpArgs false

/-- A row, what stands from c up to k less multiples of another one. -/
def sbF (r own : List Int) (off : Int) (c k : Nat) : List Int := (List.range r.length).map fun j => if c ≤ j ∧ j < k then (r.getD j 0 + off * own.getD j 0) % 65521 else r.getD j 0
theorem sbF_len (r own : List Int) (off : Int) (c k : Nat) : (sbF r own off c k).length = r.length := by simp [sbF]
theorem list_getD_all (r : List Int) : ((List.range r.length).map fun j => r.getD j 0) = r := by
  apply List.ext_getElem?; intro j
  rw [List.getElem?_map]
  by_cases hj : j < r.length
  · rw [List.getElem?_range hj, Option.map_some, List.getD_eq_getElem?_getD, List.getElem?_eq_getElem hj]; rfl
  · rw [List.getElem?_eq_none (by simpa using hj), List.getElem?_eq_none (by omega)]; rfl
theorem sbF_start (r own : List Int) (off : Int) (c : Nat) : sbF r own off c c = r := by
  unfold sbF
  rw [show (fun j => if c ≤ j ∧ j < c then (r.getD j 0 + off * own.getD j 0) % 65521 else r.getD j 0) = fun j => r.getD j 0 from funext fun j => if_neg (by omega)]
  exact list_getD_all r
theorem sbF_get (r own : List Int) (off : Int) (c : Nat) {k : Nat} (h : k < r.length) : (sbF r own off c k).getD k 0 = r.getD k 0 := by
  rw [sbF, List.getD_eq_getElem?_getD, List.getElem?_map, List.getElem?_range h]; simp
theorem sbF_set (r own : List Int) (off : Int) {c k : Nat} (hc : c ≤ k) (h : k < r.length) : (sbF r own off c k).set k ((r.getD k 0 + off * own.getD k 0) % 65521) = sbF r own off c (k + 1) := by
  apply List.ext_getElem?; intro j
  rw [List.getElem?_set]
  simp only [sbF, List.getElem?_map, List.length_map, List.length_range]
  by_cases hj : j < r.length
  · rw [List.getElem?_range hj]
    by_cases e : k = j
    · subst e; simp [hc, h]
    · simp only [if_neg e, Option.map_some]
      by_cases h2 : c ≤ j ∧ j < k
      · rw [if_pos h2, if_pos (by omega)]
      · rw [if_neg h2, if_neg (by omega)]
  · rw [List.getElem?_eq_none (l := List.range r.length) (by simpa using hj), if_neg (by omega)]; rfl
/-- How often the pivot's row goes off row i. -/
def elT (rs : List (List Int)) (c i : Nat) (iv : Int) : Int := gM rs i c * iv % 65521
def elP (rs : List (List Int)) (c : Nat) (iv : Int) (i : Nat) : List (List Int) :=
  (List.range rs.length).map fun j => if c < j ∧ j < i then sbF (rs.getD j []) (rs.getD c []) (65521 - elT rs c j iv) c (rs.getD j []).length else rs.getD j []
theorem elP_len (rs : List (List Int)) (c : Nat) (iv : Int) (i : Nat) : (elP rs c iv i).length = rs.length := by simp [elP]
theorem elP_start (rs : List (List Int)) (c : Nat) (iv : Int) : elP rs c iv (c + 1) = rs := by
  apply List.ext_getElem?; intro j
  simp only [elP, List.getElem?_map]
  by_cases hj : j < rs.length
  · rw [List.getElem?_range hj, Option.map_some, if_neg (by omega), List.getD_eq_getElem?_getD, List.getElem?_eq_getElem hj]; rfl
  · rw [List.getElem?_eq_none (by simpa using hj), List.getElem?_eq_none (by omega)]; rfl
theorem elP_get (rs : List (List Int)) {c i j : Nat} (iv : Int) (hj : j < rs.length) (h : ¬ (c < j ∧ j < i)) : (elP rs c iv i)[j]? = some (rs.getD j []) := by
  simp only [elP, List.getElem?_map]
  rw [List.getElem?_range hj, Option.map_some, if_neg h]
theorem elP_set (rs : List (List Int)) {c i : Nat} (iv : Int) (hc : c < i) (hi : i < rs.length) : (elP rs c iv i).set i (sbF (rs.getD i []) (rs.getD c []) (65521 - elT rs c i iv) c (rs.getD i []).length) = elP rs c iv (i + 1) := by
  apply List.ext_getElem?; intro j
  rw [List.getElem?_set]
  simp only [elP, List.getElem?_map, List.length_map, List.length_range]
  by_cases hj : j < rs.length
  · rw [List.getElem?_range hj]
    by_cases e : i = j
    · subst e; simp [hc, hi]
    · simp only [if_neg e, Option.map_some]
      by_cases h2 : c < j ∧ j < i
      · rw [if_pos h2, if_pos (by omega)]
      · rw [if_neg h2, if_neg (by omega)]
  · rw [List.getElem?_eq_none (l := List.range rs.length) (by simpa using hj), if_neg (by omega)]; rfl
theorem okM_elP {rs : List (List Int)} {n m : Nat} (h : okM rs n m) (c : Nat) (iv : Int) (i : Nat) : okM (elP rs c iv i) n m := by
  refine ⟨by rw [elP_len, h.1], fun r hr => ?_⟩
  obtain ⟨j, hj, rfl⟩ := List.mem_map.1 hr
  have hj := List.mem_range.1 hj
  have hjr : rs.getD j [] ∈ rs := by rw [List.getD_eq_getElem?_getD, List.getElem?_eq_getElem hj]; exact List.getElem_mem _
  split
  · refine ⟨by rw [sbF_len]; exact (h.2 _ hjr).1, fun x hx => ?_⟩
    obtain ⟨q, hq, rfl⟩ := List.mem_map.1 hx
    have hq := List.mem_range.1 hq
    split
    · exact ⟨Int.emod_nonneg _ (by decide), Int.emod_lt_of_pos _ (by decide)⟩
    · rw [List.getD_eq_getElem?_getD (l := rs.getD j []), List.getElem?_eq_getElem hq]; exact (h.2 _ hjr).2 _ (List.getElem_mem _)
  · exact h.2 _ hjr
/-- The reference's determinant: from the first column on. -/
def rdet : Nat → Nat → List (List Int) → Int → Int
  | 0, _, _, out => out
  | f + 1, c, rs, out => match findP rs c (rs.length - c) c with
    | none => 0
    | some a => rdet f (c + 1) (elP (swapM rs a c) c (invN (gM (swapM rs a c) c c)) (swapM rs a c).length) ((if a = c then out else (65521 - out) % 65521) * gM (swapM rs a c) c c % 65521)
theorem rdet_none {rs : List (List Int)} {n j : Nat} {o : Int} (hl : rs.length = n) (hj : j < n) (h : ∀ x, j ≤ x → x < n → gM rs x j = 0) : rdet (n - j) j rs o = 0 := by
  rw [show n - j = (n - (j + 1)) + 1 by omega, rdet, hl, findP_none (fun x h1 h2 => h x h1 (by omega))]
theorem rdet_some {rs : List (List Int)} {n j a : Nat} {o : Int} (hl : rs.length = n) (hj : j < n) (h1 : j ≤ a) (h2 : a < n) (h3 : gM rs a j ≠ 0) (h4 : ∀ x, j ≤ x → x < a → gM rs x j = 0) :
    rdet (n - j) j rs o = rdet (n - (j + 1)) (j + 1) (elP (swapM rs a j) j (invN (gM (swapM rs a j) j j)) n) ((if a = j then o else (65521 - o) % 65521) * gM (swapM rs a j) j j % 65521) := by
  rw [show n - j = (n - (j + 1)) + 1 by omega, rdet, hl, findP_some h1 (by omega) h4 h3]
  have : (swapM rs a j).length = n := by simp [swapM, hl]
  simp only [this]
set_option maxRecDepth 100000 in
set_option maxHeartbeats 6400000 in
theorem refdet_any (rs0 : List (List Int)) (n : Nat) (v : Value) (w : World) (h : RdM w v rs0) (hok0 : okM rs0 n n) (hn : n ≤ 900) :
    Calls Tryd.prog 123 #[v] w fun e w' => e = .returned (.int .i64 (rdet n 0 rs0 1)) ∧ Below w.heap.size w w' := by
  have htw := Lib.hid (Twin_any rs0 v w h (by rw [hok0.1]; omega) (fun r hr => by have := (hok0.2 r hr).1; omega))
  obtain ⟨RES, hRES⟩ : ∃ RES, RES = rdet n 0 rs0 1 := ⟨_, rfl⟩
  rw [← hRES]
  replace hRES := Lib.hid hRES
  obtain ⟨A0, c0, rfl, -, -, -⟩ := h.open_
  replace hok0 := Lib.hid hok0
  clear h
  go_enter Tryd.func123, Tryd.ntmps123
  go_wp2_with fail
  refine htw.out.mono ?_; rintro e W1 ⟨⟨tv, rfl, hO⟩, hB1⟩
  obtain ⟨vs0, hOv⟩ := hO.v
  obtain ⟨A, c, rfl⟩ := own_shape hOv.outer
  rw [hok0.out.1] at hOv ⊢
  generalize hbase : w.heap.size = base at *
  have h1 := Lib.hid (show ∃ vs, OwnMv W1 base (.slice A n c) rs0 vs from ⟨_, hOv⟩)
  replace hB1 := Lib.hid hB1
  have hbw : Hid (base ≤ w.heap.size) := Lib.hid (by omega)
  have hbe : Hid (w.heap.size = base) := Lib.hid hbase
  clear hO hOv hbase
  go_wp2
  go_loopw [3, 4, 5, 6, 7, 8, 9, 10] (fun oo cc _ _ _ _ _ _ wr => ∃ (j : Nat) (rs : List (List Int)) (o : Int), j ≤ n ∧ cc = .int .i64 j ∧ oo = .int .i64 o ∧ (0 ≤ o ∧ o < 65521) ∧ Hid (okM rs n n) ∧ Hid (rdet (n - j) j rs o = RES) ∧ Hid (∃ vs, OwnMv wr base (.slice A n c) rs vs) ∧ Hid (Below base w wr)) (fun _ cc _ _ _ _ _ _ _ => n - (intOf cc).toNat)
  case atStart => exact ⟨0, rs0, 1, Nat.zero_le _, rfl, rfl, by decide, hok0, Lib.hid (by rw [Nat.sub_zero]; exact hRES.out.symm), h1, hB1⟩
  case round =>
    obtain ⟨j, rs, o, hj, rfl, rfl, ho, hok, hres, hI, hB⟩ := hrel
    by_cases hjn : j < n
    · obtain ⟨vs, hO⟩ := hI.out
      have hvl : vs.length = n := by rw [hO.len, hok.out.1]
      replace hO := Lib.hid hO
      have j1 : (j : Int) < (n : Int) := by omega
      have j0 : (0 : Int) ≤ (j : Int) := by omega
      have hrow : Hid (∀ x, x < n → ∃ g gx cx, A = some ⟨g, 0, none⟩ ∧ base ≤ g ∧ vs[x]? = some (.slice (some ⟨gx, 0, none⟩) n cx) ∧ wr.cell? ⟨g, x, none⟩ = some (.slice (some ⟨gx, 0, none⟩) n cx) ∧ wr.frozen? ⟨g, x, none⟩ = false ∧ wr.cell? ⟨gx, j, none⟩ = some (.int .i64 (gM rs x j))) := Lib.hid (fun x hx => by
        have hr : rs[x]? = some (rs.getD x []) := by rw [List.getD_eq_getElem?_getD, List.getElem?_eq_getElem (by rw [hok.out.1]; exact hx)]; rfl
        have hu : vs[x]? = some vs[x] := List.getElem?_eq_getElem (by omega)
        obtain ⟨g, c1, e, hb, -, hcell, hf⟩ := hO.out.at_ hr hu
        obtain ⟨gx, cx, e2, -, -, hc2, -⟩ := hO.out.num hr hu (k := j) (by rw [hok.out.row hx]; exact hjn)
        simp only [Value.slice.injEq] at e
        obtain ⟨rfl, -, -⟩ := e
        rw [hok.out.row hx] at e2
        rw [e2] at hu hcell
        exact ⟨g, gx, cx, rfl, hb, hu, hcell, hf, hc2⟩)
      clear hI hvl
      go_wp2
      go_loop [5, 6] (fun at_ ii => ∃ (q : Nat) (c' z : Int), j ≤ q ∧ q ≤ n ∧ c' = (q : Int) - 1 ∧ ii = .int .i64 c' ∧ at_ = .int .i64 z ∧ Hid (seen rs j n q z) ∧ -1 ≤ z ∧ z < n) (fun _ ii => (intOf ii + 1).toNat)
      case atStart => exact ⟨n, _, -1, by omega, Nat.le_refl _, rfl, rfl, rfl, Lib.hid (.inl ⟨rfl, fun x h1 h2 => by omega⟩), by omega, by omega⟩
      case round =>
        obtain ⟨q, c', z, hj1, hj2, hc', rfl, rfl, hz, hzl, hzn⟩ := hrel
        by_cases hjL : j < q
        · obtain ⟨x, rfl⟩ : ∃ x, q = x + 1 := ⟨q - 1, by omega⟩
          obtain rfl : c' = (x : Int) := by omega
          obtain ⟨g, gx, cx, eA, -, -, hcg, -, hcx⟩ := hrow.out x (by omega)
          subst eA
          have x1 : (x : Int) < (n : Int) := by omega
          have x0 : (0 : Int) ≤ (x : Int) := by omega
          have xL : (j : Int) ≤ (x : Int) := by omega
          clear hc'
          by_cases hg : gM rs x j = 0
          · have hz2 : Hid (seen rs j n x z) := Lib.hid (by
              rcases hz.out with ⟨e, h2⟩ | ⟨a, e, h1, h2, h3, h4⟩
              · exact .inl ⟨e, fun y h3 h4 => by
                  by_cases e2 : y = x
                  · rw [e2]; exact hg
                  · exact h2 y (by omega) h4⟩
              · exact .inr ⟨a, e, by omega, h2, h3, fun y h5 h6 => by
                  by_cases e2 : y = x
                  · rw [e2]; exact hg
                  · exact h4 y (by omega) h6⟩)
            rw [hg] at hcx
            replace hg := Lib.hid hg
            go_wp2
            go_round
            case rel => exact ⟨x, _, z, by omega, by omega, rfl, by go_num, rfl, hz2, hzl, hzn⟩
            case measure => simp [intOf] <;> omega
          · have hz2 : Hid (seen rs j n x x) := Lib.hid (.inr ⟨x, rfl, Nat.le_refl _, by omega, hg, fun y h5 h6 => by omega⟩)
            have hne : (gM rs x j != 0) = true := by rw [bne_iff_ne]; exact hg
            replace hg := Lib.hid hg
            generalize gM rs x j = y at hcx hne
            go_wp2
            go_round
            case rel => exact ⟨x, _, x, by omega, by omega, rfl, by go_num, rfl, hz2, by omega, by omega⟩
            case measure => simp [intOf] <;> omega
        · obtain rfl : q = j := by omega
          have hcl : ¬ (q : Int) ≤ c' := by omega
          rcases hz.out with ⟨rfl, hzz⟩ | ⟨a, rfl, ha1, ha2, ha3, ha4⟩
          · have hfin : Hid (RES = 0) := Lib.hid (by rw [← hres.out]; exact rdet_none hok.out.1 hjn hzz)
            have hBw := Lib.hid hB.out
            replace hzz := Lib.hid hzz
            clear hc'
            go_wp2
            go_ret
            exact ⟨by rw [hfin.out]; rfl, by rw [hbe.out]; exact hBw.out⟩
          · have hstep := Lib.hid (rdet_some (o := o) hok.out.1 hjn ha1 ha2 ha3 ha4)
            rw [hres.out] at hstep
            obtain ⟨g, ga, ca, eA, hgb, hva, hca, hfa, -⟩ := hrow.out a ha2
            obtain ⟨g2, gL, cL, eA2, -, hvL, hcL, hfL, -⟩ := hrow.out q hjn
            subst eA
            simp only [Option.some.injEq, Addr.mk.injEq, and_true] at eA2
            subst eA2
            replace ha3 := Lib.hid ha3
            replace ha4 := Lib.hid ha4
            have a1 : (a : Int) < (n : Int) := by omega
            have a0 : (0 : Int) ≤ (a : Int) := by omega
            have al : ¬ ((a : Int) < 0) := by omega
            have hoW : Hid (∃ vs1, OwnMv wr base (.slice (some ⟨g, 0, none⟩) n c) rs vs1) := Lib.hid ⟨vs, hO.out⟩
            clear hz hc' hres hrow
            go_upto_if 40 with fail
            go_cut [3] (fun s3 wx => ∃ o1, s3 = .int .i64 o1 ∧ (0 ≤ o1 ∧ o1 < 65521) ∧ Hid (o1 = if a = q then o else (65521 - o) % 65521) ∧ Hid (∃ vs1, OwnMv wx base (.slice (some ⟨g, 0, none⟩) n c) (swapM rs a q) vs1) ∧ Hid (Below base w wx))
            case first =>
              by_cases haq : a = q
              · subst haq
                have hs : Hid (∃ vs1, OwnMv wr base (.slice (some ⟨g, 0, none⟩) n c) (swapM rs a a) vs1) := Lib.hid (by rw [swap_self]; exact hoW.out)
                have ho1 : Hid (o = if a = a then o else (65521 - o) % 65521) := Lib.hid (by rw [if_pos rfl])
                clear hca hcL hfa hfL
                go_wp2_with fail
                go_meet
                exact ⟨o, rfl, ho, ho1, hs, hB⟩
              · have haq' : ((a : Int) != (q : Int)) = true := by rw [bne_iff_ne]; omega
                have ho1 : Hid (-o % 65521 = if a = q then o else (65521 - o) % 65521) := Lib.hid (by rw [if_neg haq]; omega)
                obtain ⟨vs1, hO1, -, -⟩ := swap_both (hO.out.kept (Below.refl wr.heap.size wr).drew) (by rw [hok.out.1]; exact ha2) (by rw [hok.out.1]; exact hjn) hva hvL
                have hO1 : OwnMv ((wr.setCell ⟨g, q, none⟩ (.slice (some ⟨ga, 0, none⟩) n ca)).drew.setCell ⟨g, a, none⟩ (.slice (some ⟨gL, 0, none⟩) n cL)) base (.slice (some ⟨g, 0, none⟩) n c) (swapM rs a q) vs1 := hO1
                have hBX : Hid (Below base w ((wr.setCell ⟨g, q, none⟩ (.slice (some ⟨ga, 0, none⟩) n ca)).drew.setCell ⟨g, a, none⟩ (.slice (some ⟨gL, 0, none⟩) n cL))) := Lib.hid ((hB.out.drew.setCell (p := ⟨g, q, none⟩) hgb (.slice (some ⟨ga, 0, none⟩) n ca)).setCell (p := ⟨g, a, none⟩) hgb (.slice (some ⟨gL, 0, none⟩) n cL))
                obtain ⟨y, hy⟩ : ∃ y, (wr.setCell ⟨g, q, none⟩ (.slice (some ⟨ga, 0, none⟩) n ca)).drew.cell? ⟨g, a, none⟩ = some y := by
                  have h1 := World.isSome_setCells g [Value.slice (some ⟨ga, 0, none⟩) n ca] q wr.drew ⟨g, a, none⟩ (by rw [show wr.drew.cell? ⟨g, a, none⟩ = _ from hca]; rfl)
                  exact Option.isSome_iff_exists.1 h1
                have hfy : (wr.setCell ⟨g, q, none⟩ (.slice (some ⟨ga, 0, none⟩) n ca)).drew.frozen? ⟨g, a, none⟩ = false := (World.frozen?_setCells g [Value.slice (some ⟨ga, 0, none⟩) n ca] q wr.drew ⟨g, a, none⟩).trans hfa
                have hm1 : (65521 - o).tmod 65521 = (65521 - o) % 65521 := Int.tmod_eq_emod_of_nonneg (by omega)
                have hm2 : 0 ≤ -o % 65521 ∧ -o % 65521 < 65521 := ⟨Int.emod_nonneg _ (by decide), Int.emod_lt_of_pos _ (by decide)⟩
                replace haq := Lib.hid haq
                replace hO1 := Lib.hid hO1
                clear hva hvL hO hB hoW
                go_wp2
                refine D_begin (fun _ => True) (fun w' => w'.cell? ⟨g, a, none⟩ = some (.slice (some ⟨ga, 0, none⟩) n ca) ∧ w'.cell? ⟨g, q, none⟩ = some (.slice (some ⟨gL, 0, none⟩) n cL)) 13 (by kernel_rfl) ?_
                change wpAnyD _ _ _ _ _ _ _ _ _ _ wr.drew
                simp only [List.size_toArray, List.length_cons, List.length_nil, Nat.reduceAdd, Array.replicate_succ, Array.replicate_zero, List.push_toArray, List.append_toArray, List.nil_append, List.cons_append]
                have HT : wr.drew.cell? ⟨g, a, none⟩ = some (.slice (some ⟨ga, 0, none⟩) n ca) ∧ wr.drew.cell? ⟨g, q, none⟩ = some (.slice (some ⟨gL, 0, none⟩) n cL) := ⟨hca, hcL⟩
                refine D_take (i := 0) (v := ?_) rfl (by kernel_rfl) (by kernel_rfl) (by kernel_rfl) (by kernel_rfl) (fun _ _ _ h => h) (Or.inl ⟨by rfl, ?_⟩) trivial (fun _ => HT) ?_
                rotate_left; · intro w1 hw1; go_simp; try with_reducible rfl
                try simp only [Act.put, List.getElem_toArray, List.getElem_cons_zero, List.getElem_cons_succ, List.setIfInBounds_toArray, List.set_cons_zero, List.set_cons_succ]
                refine D_take (i := 1) (v := ?_) rfl (by kernel_rfl) (by kernel_rfl) (by kernel_rfl) (by kernel_rfl) (fun _ _ _ h => h) (Or.inl ⟨by rfl, ?_⟩) trivial (fun _ => HT) ?_
                rotate_left; · intro w1 hw1; go_simp; try with_reducible rfl
                try simp only [Act.put, List.getElem_toArray, List.getElem_cons_zero, List.getElem_cons_succ, List.setIfInBounds_toArray, List.set_cons_zero, List.set_cons_succ]
                refine D_take (i := 2) (v := ?_) rfl (by kernel_rfl) (by kernel_rfl) (by kernel_rfl) (by kernel_rfl) (fun _ _ _ h => h) (Or.inl ⟨by rfl, ?_⟩) trivial (fun _ => HT) ?_
                rotate_left; · intro w1 hw1; go_simp; try with_reducible rfl
                try simp only [Act.put, List.getElem_toArray, List.getElem_cons_zero, List.getElem_cons_succ, List.setIfInBounds_toArray, List.set_cons_zero, List.set_cons_succ]
                refine D_take (i := 3) (v := ?_) rfl (by kernel_rfl) (by kernel_rfl) (by kernel_rfl) (by kernel_rfl) (fun _ _ _ h => h) (Or.inl ⟨by rfl, ?_⟩) trivial (fun _ => HT) ?_
                rotate_left; · intro w1 hw1; go_simp; try with_reducible rfl
                try simp only [Act.put, List.getElem_toArray, List.getElem_cons_zero, List.getElem_cons_succ, List.setIfInBounds_toArray, List.set_cons_zero, List.set_cons_succ]
                refine D_take (i := 4) (v := ?_) rfl (by kernel_rfl) (by kernel_rfl) (by kernel_rfl) (by kernel_rfl) (fun _ _ _ h => h) (Or.inl ⟨by rfl, ?_⟩) trivial (fun _ => HT) ?_
                rotate_left; · intro w1 hw1; go_simp; try with_reducible rfl
                try simp only [Act.put, List.getElem_toArray, List.getElem_cons_zero, List.getElem_cons_succ, List.setIfInBounds_toArray, List.set_cons_zero, List.set_cons_succ]
                refine D_take (i := 5) (v := ?_) rfl (by kernel_rfl) (by kernel_rfl) (by kernel_rfl) (by kernel_rfl) (fun _ _ _ h => h) (Or.inl ⟨by rfl, ?_⟩) trivial (fun _ => HT) ?_
                rotate_left; · intro w1 hw1; go_simp; try with_reducible rfl
                try simp only [Act.put, List.getElem_toArray, List.getElem_cons_zero, List.getElem_cons_succ, List.setIfInBounds_toArray, List.set_cons_zero, List.set_cons_succ]
                refine D_take (i := 6) (v := ?_) rfl (by kernel_rfl) (by kernel_rfl) (by kernel_rfl) (by kernel_rfl) (fun _ _ _ h => h) (Or.inl ⟨by rfl, ?_⟩) trivial (fun _ => HT) ?_
                rotate_left; · intro w1 hw1; go_simp; try with_reducible rfl
                try simp only [Act.put, List.getElem_toArray, List.getElem_cons_zero, List.getElem_cons_succ, List.setIfInBounds_toArray, List.set_cons_zero, List.set_cons_succ]
                refine D_take (i := 8) (v := ?_) rfl (by kernel_rfl) (by kernel_rfl) (by kernel_rfl) (by kernel_rfl) (fun _ _ _ h => h) (Or.inl ⟨by rfl, ?_⟩) trivial (fun _ => HT) ?_
                rotate_left; · intro w1 hw1; go_simp; try with_reducible rfl
                try simp only [Act.put, List.getElem_toArray, List.getElem_cons_zero, List.getElem_cons_succ, List.setIfInBounds_toArray, List.set_cons_zero, List.set_cons_succ]
                refine D_take (i := 9) (v := ?_) rfl (by kernel_rfl) (by kernel_rfl) (by kernel_rfl) (by kernel_rfl) (fun _ _ _ h => h) (Or.inl ⟨by rfl, ?_⟩) trivial (fun _ => HT) ?_
                rotate_left; · intro w1 hw1; go_simp; try with_reducible rfl
                try simp only [Act.put, List.getElem_toArray, List.getElem_cons_zero, List.getElem_cons_succ, List.setIfInBounds_toArray, List.set_cons_zero, List.set_cons_succ]
                refine D_take (i := 10) (v := ?_) rfl (by kernel_rfl) (by kernel_rfl) (by kernel_rfl) (by kernel_rfl) (fun _ _ _ h => h) (Or.inl ⟨by rfl, ?_⟩) trivial (fun _ => HT) ?_
                rotate_left; · intro w1 hw1; go_simp; try with_reducible rfl
                try simp only [Act.put, List.getElem_toArray, List.getElem_cons_zero, List.getElem_cons_succ, List.setIfInBounds_toArray, List.set_cons_zero, List.set_cons_succ]
                refine D_load (i := 7) (v := ?_) rfl (by kernel_rfl) (by kernel_rfl) (by kernel_rfl) (by kernel_rfl) (by kernel_rfl) (by kernel_rfl) (fun _ _ _ h => h) (Or.inl ⟨by rfl, ?_⟩) trivial HT ?_
                rotate_left; · intro w1 hw1; obtain ⟨-, hw3, hw4⟩ := hw1; go_simp; try with_reducible rfl
                try simp only [Act.put, List.getElem_toArray, List.getElem_cons_zero, List.getElem_cons_succ, List.setIfInBounds_toArray, List.set_cons_zero, List.set_cons_succ]
                refine D_load (i := 11) (v := ?_) rfl (by kernel_rfl) (by kernel_rfl) (by kernel_rfl) (by kernel_rfl) (by kernel_rfl) (by kernel_rfl) (fun _ _ _ h => h) (Or.inl ⟨by rfl, ?_⟩) trivial HT ?_
                rotate_left; · intro w1 hw1; obtain ⟨-, hw3, hw4⟩ := hw1; go_simp; try with_reducible rfl
                try simp only [Act.put, List.getElem_toArray, List.getElem_cons_zero, List.getElem_cons_succ, List.setIfInBounds_toArray, List.set_cons_zero, List.set_cons_succ]
                refine D_take (i := 12) (v := ?_) rfl (by kernel_rfl) (by kernel_rfl) (by kernel_rfl) (by kernel_rfl) (fun _ _ _ h => h) (Or.inl ⟨by rfl, ?_⟩) trivial (fun _ => HT) ?_
                rotate_left; · intro w1 hw1; go_simp; try with_reducible rfl
                try simp only [Act.put, List.getElem_toArray, List.getElem_cons_zero, List.getElem_cons_succ, List.setIfInBounds_toArray, List.set_cons_zero, List.set_cons_succ]
                have HT2 := HT.2
                have hfL2 : wr.drew.frozen? ⟨g, q, none⟩ = false := hfL
                refine D_one (i := 13) (by kernel_rfl) rfl ?_
                intro K hK
                rw [if_pos (by rfl)]
                go_simp
                refine hK _ _ trivial (fun h => absurd rfl h) ?_
                try simp only [Act.put, List.getElem_toArray, List.getElem_cons_zero, List.getElem_cons_succ, List.setIfInBounds_toArray, List.set_cons_zero, List.set_cons_succ]
                clear hK K HT HT2 hfL2
                generalize hX1 : (wr.setCell ⟨g, q, none⟩ (.slice (some ⟨ga, 0, none⟩) n ca)).drew = X1 at hO1 hBX hy hfy ⊢
                clear hX1
                refine D_take (i := 14) (v := ?_) rfl (by kernel_rfl) (by kernel_rfl) (by kernel_rfl) (by kernel_rfl) (fun _ _ _ h => h) (Or.inl ⟨by rfl, ?_⟩) trivial (fun h => absurd h (by decide)) ?_
                rotate_left; · intro w1 hw1; go_simp; try with_reducible rfl
                try simp only [Act.put, List.getElem_toArray, List.getElem_cons_zero, List.getElem_cons_succ, List.setIfInBounds_toArray, List.set_cons_zero, List.set_cons_succ]
                refine D_one (i := 15) (by kernel_rfl) rfl ?_
                intro K hK
                rw [if_pos (by rfl)]
                go_simp
                refine hK _ _ trivial (fun _ h => absurd h (by decide)) ?_
                try simp only [Act.put, List.getElem_toArray, List.getElem_cons_zero, List.getElem_cons_succ, List.setIfInBounds_toArray, List.set_cons_zero, List.set_cons_succ]
                clear hK K
                refine D_done (by kernel_rfl) ?_ _
                generalize hX2 : X1.setCell ⟨g, a, none⟩ (.slice (some ⟨gL, 0, none⟩) n cL) = X at hO1 hBX ⊢
                clear hX2 hy hfy hca hfa hcL hfL
                go_wp2_with fail
                go_meet
                exact ⟨_, rfl, hm2, ho1, Lib.hid ⟨vs1, hO1.out⟩, hBX⟩
            case rest =>
              obtain ⟨o1, rfl, hob, hoe, hO1, hBX⟩ := hcut
              rename World => X
              rw [← hoe.out] at hstep
              obtain ⟨vs1, hO1⟩ := hO1.out
              replace hO1 := Lib.hid hO1
              have hokR := Lib.hid (okM_swap hok.out ha2 hjn)
              generalize hRe : swapM rs a q = R at hO1 hokR hstep
              replace hRe := Lib.hid hRe
              clear hca hfa hcL hfL hoW hO hB hoe
              have hrj : Hid (R[q]? = some (R.getD q [])) := Lib.hid (by rw [List.getD_eq_getElem?_getD, List.getElem?_eq_getElem (by rw [hokR.out.1]; exact hjn)]; rfl)
              have hlen : Hid ((R.getD q []).length = n) := Lib.hid (hokR.out.row hjn)
              obtain ⟨uj, huj⟩ : ∃ u, vs1[q]? = some u := ⟨_, List.getElem?_eq_getElem (by rw [hO1.out.len, hokR.out.1]; exact hjn)⟩
              obtain ⟨g3, c3, e3, -, -, hcj, -⟩ := hO1.out.at_ hrj.out huj
              simp only [Value.slice.injEq, Option.some.injEq, Addr.mk.injEq, and_true] at e3
              obtain ⟨rfl, -, -⟩ := e3
              obtain ⟨gj, cj, rfl, -, -, hcjk, -⟩ := hO1.out.num hrj.out huj (k := q) (by rw [hlen.out]; exact hjn)
              rw [hlen.out] at huj hcj
              change X.cell? _ = some (.int .i64 (gM R q q)) at hcjk
              have hvj := Lib.hid huj
              have hnum := hokR.out.num q q
              have ⟨mm1, mm2⟩ := mul_bd hob.1 hob.2 hnum.1 hnum.2
              have hinv := Lib.hid (fun W => refInv_any (gM R q q) W hnum.1 hnum.2)
              have hib := invN_bd (gM R q q)
              generalize hpv : gM R q q = pv at *
              replace hpv := Lib.hid hpv
              have w4 : IntKind.i64.wrap (o1 * pv) = o1 * pv := IntWalk.i64_in _ ⟨by omega, by omega⟩
              have w6 : (o1 * pv).tmod 65521 = (o1 * pv) % 65521 := Int.tmod_eq_emod_of_nonneg (by omega)
              have hnb : 0 ≤ o1 * pv % 65521 ∧ o1 * pv % 65521 < 65521 := ⟨Int.emod_nonneg _ (by decide), Int.emod_lt_of_pos _ (by decide)⟩
              clear huj mm1 mm2
              go_wp2_with fail
              refine (hinv.out _).mono ?_; rintro e W' ⟨rfl, rfl⟩
              generalize hive : invN pv = iv at hib hstep ⊢
              replace hive := Lib.hid hive
              clear hcj hcjk hnum hinv
              have hE0 : Hid (OwnMv X base (.slice (some ⟨g, 0, none⟩) n c) (elP R q iv (q + 1)) vs1) := Lib.hid (by rw [elP_start]; exact hO1.out)
              go_wp2
              go_loopw [8, 9, 10] (fun ii _ _ wr => ∃ i' : Nat, q + 1 ≤ i' ∧ i' ≤ n ∧ ii = .int .i64 i' ∧ Hid (KeptBut vs1 X wr) ∧ Hid (OwnMv wr base (.slice (some ⟨g, 0, none⟩) n c) (elP R q iv i') vs1)) (fun ii _ _ _ => n - (intOf ii).toNat)
              case atStart => exact ⟨q + 1, Nat.le_refl _, by omega, by go_num, Lib.hid (KeptBut.refl _ _), hE0⟩
              case round =>
                obtain ⟨i, hi0, hi', rfl, hK, hO⟩ := hrel
                rename World => wr3
                by_cases hin : i < n
                · obtain ⟨ui, hui⟩ : ∃ u, vs1[i]? = some u := ⟨_, List.getElem?_eq_getElem (by rw [hO1.out.len, hokR.out.1]; exact hin)⟩
                  have i1 : (i : Int) < (n : Int) := by omega
                  have i0 : (0 : Int) ≤ (i : Int) := by omega
                  have hgi := elP_get R (c := q) (i := i) (j := i) iv (by rw [hokR.out.1]; exact hin) (by omega)
                  obtain ⟨g', c', e, _, _, hcg, _⟩ := hO.out.at_ hgi hui
                  simp only [Value.slice.injEq, Option.some.injEq, Addr.mk.injEq, and_true] at e
                  obtain ⟨rfl, -, -⟩ := e
                  obtain ⟨g4, c4, rfl, _, _, hcc, _⟩ := hO.out.num hgi hui (k := q) (by rw [hokR.out.row hin]; exact hjn)
                  rw [hokR.out.row hin] at hui hcg
                  change wr3.cell? _ = some (.int .i64 (gM R i q)) at hcc
                  have hzb := hokR.out.num i q
                  have ⟨m1, m2⟩ := mul_bd hzb.1 hzb.2 hib.1 hib.2
                  have hT : Hid (gM R i q * iv % 65521 = elT R q i iv) := Lib.hid rfl
                  have hset := Lib.hid (elP_set R (c := q) (i := i) iv (by omega) (by rw [hokR.out.1]; exact hin))
                  have w7 : IntKind.i64.wrap (gM R i q * iv) = gM R i q * iv := IntWalk.i64_in _ ⟨by omega, by omega⟩
                  have w8 : (gM R i q * iv).tmod 65521 = gM R i q * iv % 65521 := Int.tmod_eq_emod_of_nonneg (by omega)
                  have htb : 0 ≤ elT R q i iv ∧ elT R q i iv < 65521 := ⟨Int.emod_nonneg _ (by decide), Int.emod_lt_of_pos _ (by decide)⟩
                  rw [hT.out] at w8
                  generalize elT R q i iv = t at *
                  generalize gM R i q = x0 at *
                  have hui' := Lib.hid hui
                  clear hui hT hgi m1 m2
                  go_wp2
                  obtain ⟨wi, rfl⟩ : ∃ wi : World, wi = wr3 := ⟨_, rfl⟩
                  clear hcg hcc w7 w8
                  go_loopw [10] (fun ii wr => ∃ k : Nat, q ≤ k ∧ k ≤ n ∧ ii = .int .i64 k ∧ Hid (KeptBut vs1 X wr) ∧ Hid (OwnMv wr base (.slice (some ⟨g, 0, none⟩) n c) ((elP R q iv i).set i (sbF (R.getD i []) (R.getD q []) (65521 - t) q k)) vs1)) (fun ii _ => n - (intOf ii).toNat)
                  case atStart => exact ⟨q, Nat.le_refl _, by omega, rfl, hK, Lib.hid (by rw [sbF_start, list_set_same (elP_get R iv (by rw [hokR.out.1]; exact hin) (by omega))]; exact hO.out)⟩
                  case round =>
                    obtain ⟨k, hk0, hkn, rfl, hK, hO⟩ := hrel
                    rename World => wr4
                    have hri : ((elP R q iv i).set i (sbF (R.getD i []) (R.getD q []) (65521 - t) q k))[i]? = some (sbF (R.getD i []) (R.getD q []) (65521 - t) q k) := List.getElem?_set_self (by rw [elP_len, hokR.out.1]; exact hin)
                    obtain ⟨g5, c5, e5, -, -, hcg, -⟩ := hO.out.at_ hri hui'.out
                    simp only [Value.slice.injEq, Option.some.injEq, Addr.mk.injEq, and_true] at e5
                    obtain ⟨rfl, -, -⟩ := e5
                    by_cases hlt : k < n
                    · have hro : ((elP R q iv i).set i (sbF (R.getD i []) (R.getD q []) (65521 - t) q k))[q]? = some (R.getD q []) := by rw [List.getElem?_set_ne (by omega)]; exact elP_get R iv (by rw [hokR.out.1]; exact hjn) (by omega)
                      obtain ⟨g5, c5, e5, -, -, hcj, -⟩ := hO.out.at_ hro hvj.out
                      simp only [Value.slice.injEq, Option.some.injEq, Addr.mk.injEq, and_true] at e5
                      obtain ⟨rfl, -, -⟩ := e5
                      obtain ⟨g', c', e, -, -, hx, hf⟩ := hO.out.num hri hui'.out (k := k) (by rw [sbF_len, hokR.out.row hin]; exact hlt)
                      simp only [Value.slice.injEq, Option.some.injEq, Addr.mk.injEq, and_true] at e
                      obtain ⟨rfl, -, -⟩ := e
                      rw [sbF_get _ _ _ _ (by rw [hokR.out.row hin]; exact hlt)] at hx
                      change wr4.cell? _ = some (.int .i64 (gM R i k)) at hx
                      obtain ⟨g', c', e, -, -, hy, -⟩ := hO.out.num hro hvj.out (k := k) (by rw [hlen.out]; exact hlt)
                      simp only [Value.slice.injEq, Option.some.injEq, Addr.mk.injEq, and_true] at e
                      obtain ⟨rfl, -, -⟩ := e
                      change wr4.cell? _ = some (.int .i64 (gM R q k)) at hy
                      have hput := hO.out.put hri hui'.out (k := k) ((gM R i k + (65521 - t) * gM R q k) % 65521)
                      rw [list_set_set, show (sbF (R.getD i []) (R.getD q []) (65521 - t) q k).set k ((gM R i k + (65521 - t) * gM R q k) % 65521) = sbF (R.getD i []) (R.getD q []) (65521 - t) q (k + 1) from sbF_set _ _ _ hk0 (by rw [hokR.out.row hin]; exact hlt)] at hput
                      replace hput := Lib.hid hput
                      have hyb := hokR.out.num q k
                      have hxb := hokR.out.num i k
                      have ⟨m1, m2⟩ : 0 ≤ (65521 - t) * gM R q k ∧ (65521 - t) * gM R q k ≤ 65521 * 65520 := ⟨Int.mul_nonneg (by omega) hyb.1, Int.mul_le_mul (by omega) (by omega) hyb.1 (by omega)⟩
                      clear hri hro
                      generalize gM R q k = y at hy hyb m1 m2 hput
                      generalize gM R i k = x at hx hxb hput
                      have q1 : (k : Int) < (n : Int) := by omega
                      have q0 : (0 : Int) ≤ (k : Int) := by omega
                      go_wp2
                      go_still_tail 25, (by kernel_rfl)
                      change wpList _ _ _ _ _ wr4.drew
                      go_wp2
                      go_roundw
                      case rel => exact ⟨k + 1, by omega, by omega, by go_num, Lib.hid (hK.out.trans hput.out.2).drew, Lib.hid (hput.out.1.kept (Below.refl _ _).drew)⟩
                      case measure => simp [intOf] <;> omega
                    · obtain rfl : n = k := by omega
                      go_wp2
                      go_roundw
                      case rel => exact ⟨i + 1, by omega, by omega, by go_num, hK, Lib.hid (by have := hO.out; rw [hokR.out.row hin] at hset; rw [hset.out] at this; exact this)⟩
                      case measure => simp [intOf] <;> omega
                · obtain rfl : n = i := by omega
                  have hBe := Lib.hid (hBX.out.trans (hK.out.below (by have := hBX.out.size; have := hbw.out; omega) (fun u hu k hk => (hO1.out.ge u hu k hk).1)))
                  have hokE := Lib.hid (okM_elP hokR.out q iv n)
                  go_wp2
                  go_roundw
                  case rel => exact ⟨q + 1, _, _, by omega, by go_num, rfl, hnb, hokE, Lib.hid hstep.out.symm, Lib.hid ⟨vs1, hO.out⟩, hBe⟩
                  case measure => simp [intOf] <;> omega
    · obtain rfl : n = j := by omega
      have hfin : Hid (RES = o) := Lib.hid (by rw [← hres.out, Nat.sub_self]; rfl)
      have hBw := Lib.hid hB.out
      go_wp2
      go_ret
      exact ⟨by rw [hfin.out]; rfl, by rw [hbe.out]; exact hBw.out⟩
end Go.Proofs.YtfljkcmijnhgkaaDoor
