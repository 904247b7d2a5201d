/- Dup, DupRows, zeros, Identity: their contracts. The reference's zeros and Identity: their contracts. The reference's Product and power: their contracts. -/
import Derived.Test.YtfljkcmijnhgkaaDoorKf
import Derived.Test.YtfljkcmijnhgkaaDoorKa
import Derived.Test.YtfljkcmijnhgkaaDoorKc
namespace Go.Proofs.YtfljkcmijnhgkaaDoor
open Go.RowKit
set_option linter.unusedSimpArgs false

theorem own_shape {w : World} {b : Nat} {e : TypeId} {s : Nat} {v : Value} {n : Nat} {xs : List Value} (h : w.ownsRow b e s v n xs) : ∃ A c, v = .slice A n c := by
  rcases h.2 with ⟨e, e2⟩ | ⟨g, cap, cur, e, _⟩
  · exact ⟨none, 0, by rw [e, e2]⟩
  · exact ⟨_, cap, e⟩
/-- A row of the call's own comes behind the others. -/
theorem OwnMv.snoc {w w1 : World} {base n : Nat} {v v' : Value} {rs : List (List Int)} {vs : List Value} {r : List Int} {u : Value} (h : OwnMv w base v rs vs) (ho : OwnI w base u r)
    (hu : ∀ x ∈ vs, x.ownBlock = none ∨ x.ownBlock ≠ u.ownBlock) (h1 : w1.ownsRow base 23 1 v' n (vs ++ [u])) (hn : n = rs.length + 1) (hg : w.grownBy w1 v.ownBlock) : OwnMv w1 base v' (rs ++ [r]) (vs ++ [u]) := by
  subst hn
  have hl := h.len
  have hrow : ∀ (x : Value) (s : List Int), OwnI w base x s → OwnI w1 base x s := fun x s hx => OwnI.base (World.ownsRow.kept hx hg (own_ne hx h.outer (by decide))) (Nat.le_refl _)
  refine ⟨by rw [List.length_append]; exact h1, fun j s x hs hx => ?_, fun i j x y hij hx hy => ?_⟩
  · by_cases hj : j < rs.length
    · rw [List.getElem?_append_left hj] at hs
      rw [List.getElem?_append_left (by omega)] at hx
      exact hrow x s (h.rows j s x hs hx)
    · have hj2 := (List.getElem?_eq_some_iff.1 hs).1
      have : j = rs.length := by simp at hj2; omega
      subst this
      rw [List.getElem?_append_right (Nat.le_refl _), Nat.sub_self] at hs
      rw [List.getElem?_append_right (by omega), hl, Nat.sub_self] at hx
      cases hs; cases hx
      exact hrow _ _ ho
  · by_cases hi : i < vs.length
    · rw [List.getElem?_append_left hi] at hx
      by_cases hj : j < vs.length
      · rw [List.getElem?_append_left hj] at hy
        exact h.apart i j x y hij hx hy
      · have hj2 := (List.getElem?_eq_some_iff.1 hy).1
        have : j = vs.length := by simp at hj2; omega
        subst this
        rw [List.getElem?_append_right (Nat.le_refl _), Nat.sub_self] at hy
        cases hy
        exact hu x (List.mem_of_getElem? hx)
    · have hi2 := (List.getElem?_eq_some_iff.1 hx).1
      have : i = vs.length := by simp at hi2; omega
      subst this
      rw [List.getElem?_append_right (Nat.le_refl _), Nat.sub_self] at hx
      cases hx
      have hj : j < vs.length := by
        have hj2 := (List.getElem?_eq_some_iff.1 hy).1
        simp at hj2; omega
      rw [List.getElem?_append_left hj] at hy
      rcases hu y (List.mem_of_getElem? hy) with e | e
      · by_cases hx0 : u.ownBlock = none
        · exact .inl hx0
        · exact .inr (by rw [e]; exact hx0)
      · exact .inr (Ne.symm e)
theorem run_append_of_nil {P : Program} (w : World) (base : Nat) (t ty e : TypeId) (i : TypeInfo) (size : Nat) (ht : P.underlying t = some (.slice e)) (hi : P.info? e = some i)
    (v : Value) (n : Nat) (xs : List Value) (hown : w.ownsRow base e size v n xs) (c : Nat) : (Builtin.append_ #[t, t] ty #[v, .slice none 0 c]).run P w = .ok v w := by
  rcases hown.2 with ⟨rfl, rfl⟩ | ⟨g, cap, cur, rfl, _, _, hnc, _⟩
  · simp [Builtin.append_, run_underlying ht, sizeOf, typeInfo, hi, Builtin.lenOf, Builtin.firstCells]
  · simp [Builtin.append_, run_underlying ht, sizeOf, typeInfo, hi, Builtin.lenOf, Builtin.firstCells, hnc, storeCells]
set_option maxRecDepth 100000 in
set_option maxHeartbeats 400000 in
theorem Dup_any (xs : List Int) (v : Value) (w : World) (h : RdI w v xs) (hn : xs.length ≤ 1000000) :
    Calls Tryd.prog 20 #[v] w fun e w' => (∃ v', e = .returned v' ∧ OwnI w' w.heap.size v' xs) ∧ Below w.heap.size w w' := by
  obtain ⟨i0, hi, hz0, hz1, hz2⟩ := info_parts infoI
  have h' := h
  obtain ⟨A, c, rfl, h1, h2, h3⟩ := h'
  rw [ints_len] at *
  have hown : (w.alloc (.cells #[] 3)).ownsRow w.heap.size 3 1 (.slice (some ⟨w.heap.size, 0, none⟩) 0 0) 0 [] := World.ownsRow_made w #[] 0 (Nat.le_refl _) (by unfold maxLen; omega) rfl
  cases A with
  | none =>
    have hx : xs = [] := by
      rcases Nat.eq_zero_or_pos xs.length with e | e
      · exact List.eq_nil_of_length_eq_zero e
      · obtain ⟨b, off, e2, _⟩ := h3 e; cases e2
    subst hx
    have hap := fun ty => run_append_of_nil (P := Tryd.prog) (w.alloc (.cells #[] 3)) w.heap.size 23 ty 3 i0 1 Tryd.underlying23 hi _ _ _ hown c
    replace hown := Lib.hid hown
    clear h h3
    go_enter Tryd.func20, Tryd.ntmps20
    go_wp2
    go_ret
    exact ⟨⟨_, rfl, hown.out⟩, (Below.refl _ _).alloc (Nat.le_refl _) _⟩
  | some ad =>
    have hnews : Hid (∀ j u, (ints xs)[j]? = some u → (w.alloc (.cells #[] 3)).cell? (ad.add j) = some u) := Lib.hid (fun j u hj => by
      have hj' := (List.getElem?_eq_some_iff.1 hj).1
      rw [ints_len] at hj'
      obtain ⟨b, off, e, h4⟩ := h3 (by omega)
      cases e
      have hc := h4 j u hj
      have : (⟨b, off, none⟩ : Addr).add j = ⟨b, off + j, none⟩ := by unfold Addr.add; split <;> simp_all
      rw [this]
      exact (((Below.refl w.heap.size w).alloc (Nat.le_refl _) (.cells #[] 3)).cell (p := ⟨b, off + j, none⟩) (World.block_lt_of_cell? w _ hc)).trans hc)
    replace hown := Lib.hid hown
    have hone : Hid (∀ u ∈ ints xs, u.oneCell' = true) := Lib.hid (fun u hu => by obtain ⟨x, _, rfl⟩ := List.mem_map.1 hu; rfl)
    have hlen : Hid ((ints xs).length = xs.length * 1) := Lib.hid (by rw [ints_len]; omega)
    clear h h3
    go_enter Tryd.func20, Tryd.ntmps20
    go_wp2_with (at_builtin; (refine wpList_append_own_at _ rfl _ _ 23 rfl w.heap.size 3 i0 _ 1 8 Tryd.underlying23 hi hz0 hz1 hz2 rfl (by omega) (.slice (some ⟨w.heap.size, 0, none⟩) 0 0) 0 [] rfl hown.out ad xs.length c (ints xs) rfl hlen.out hnews.out hone.out (by unfold maxLen; omega) (by omega) (by simp) ?_); intro v' w1 hown1 hgrow _ _)
    simp only [Nat.zero_add, List.nil_append] at hown1
    replace hown1 := Lib.hid hown1
    replace hgrow := Lib.hid hgrow
    go_wp2
    go_ret
    exact ⟨⟨_, rfl, hown1.out⟩, ((Below.refl _ _).alloc (Nat.le_refl _) _).grown hgrow.out (by simp) (fun k hk => by simp [Value.ownBlock] at hk; omega)⟩
theorem OwnMv_nil (w : World) (base : Nat) : OwnMv w base (.slice none 0 0) [] [] := ⟨World.ownsRow_nil _ _ _ _, fun j r u h => by simp at h, fun i j u u' _ h => by simp at h⟩
/-- What a round of append leaves. -/
theorem snoc_round {w wr w2 w1 : World} {n : Nat} {o v2 v' : Value} {rs : List (List Int)} {r : List Int} {vs : List Value} (hB : Below w.heap.size w wr) (hM : OwnMv wr w.heap.size o rs vs) (hb2 : Below wr.heap.size wr w2) (ho2 : OwnI w2 wr.heap.size v2 r) (hn : n = rs.length + 1)
    (hown1 : w1.ownsRow w.heap.size 23 1 v' n (vs ++ [v2])) (hgrow : (w2.alloc (.cells #[v2] 23)).grownBy w1 o.ownBlock) :
    Below w.heap.size w w1 ∧ ∃ vs', OwnMv w1 w.heap.size v' (rs ++ [r]) vs' := by
  have ha : Below w2.heap.size w2 (w2.alloc (.cells #[v2] 23)) := (Below.refl _ _).alloc (Nat.le_refl _) _
  have hb3 : Below wr.heap.size wr (w2.alloc (.cells #[v2] 23)) := Below.then_ hb2 ha
  have hM3 := hM.kept hb3
  refine ⟨(Below.then_ hB hb3).grown hgrow (by have := hB.size; have := hb3.size; omega) (fun k hk => (hM3.outer.lt k hk).1), _, hM3.snoc ((ho2.below ha).base hB.size) (fun x hx => ?_) hown1 hn hgrow⟩
  by_cases hx0 : x.ownBlock = none
  · exact .inl hx0
  · obtain ⟨k, hk⟩ := Option.ne_none_iff_exists'.1 hx0
    refine .inr fun e => ?_
    have h1 := (hM.ge x hx k hk).2
    have h2 := (World.ownsRow.lt ho2 k (by rw [← e]; exact hk)).1
    omega
set_option maxRecDepth 100000 in
set_option maxHeartbeats 800000 in
theorem DupRows_any (rs : List (List Int)) (v : Value) (w : World) (h : RdM w v rs) (hn : rs.length ≤ 1000000) (hm : ∀ r ∈ rs, r.length ≤ 1000000) :
    Calls Tryd.prog 19 #[v] w fun e w' => (∃ v', e = .returned v' ∧ OwnM w' w.heap.size v' rs) ∧ Below w.heap.size w w' := by
  obtain ⟨i0, hi, hz0, hz1, hz2⟩ := info_parts infoR
  obtain ⟨A, c, rfl, h1, h2, h3⟩ := h.open_
  have hml : Hid (∀ i, i < rs.length → (rs.getD i []).length ≤ 1000000) := Lib.hid (fun i hi => hm _ (by rw [List.getD_eq_getElem?_getD, List.getElem?_eq_getElem hi]; exact List.getElem_mem _))
  replace h3 := Lib.hid h3
  generalize hN : rs.length = n at *
  replace hN := Lib.hid hN
  clear h hm
  go_enter Tryd.func19, Tryd.ntmps19
  go_wp2
  go_loopw [3, 5, 8] (fun o _ i wr => ∃ k : Nat, k ≤ n ∧ i = .int .i64 k ∧ Hid (Below w.heap.size w wr) ∧ Hid (∃ vs, OwnMv wr w.heap.size o (rs.take k) vs)) (fun _ _ i _ => n - (intOf i).toNat)
  case atStart => exact ⟨0, Nat.zero_le _, rfl, Lib.hid (Below.refl _ _), Lib.hid ⟨[], by rw [List.take_zero]; exact OwnMv_nil _ _⟩⟩
  case round =>
    obtain ⟨k, hk, rfl, hB, hM⟩ := hrel
    by_cases hlt : k < n
    · obtain ⟨b, off, u, rfl, hc, hu⟩ := h3.out k hlt
      have hc' := (hB.out.cell (p := ⟨b, off + k, none⟩) (World.block_lt_of_cell? w _ hc)).trans hc
      have hcl := Lib.hid (Dup_any (rs.getD k []) u wr (hu.below hB.out (Nat.le_refl _)) (hml.out k hlt))
      have htk : Hid (rs.take k ++ [rs.getD k []] = rs.take (k + 1)) := Lib.hid (by rw [List.take_add_one, List.getElem?_eq_getElem (by rw [hN.out]; exact hlt)]; simp [List.getD_eq_getElem?_getD, hN.out, hlt])
      have hkl : (rs.take k).length = k := by rw [List.length_take, hN.out]; omega
      obtain ⟨vs, hMv⟩ := hM.out
      have hvl := hMv.len
      rw [hkl] at hvl
      obtain ⟨A1, c1, rfl⟩ := own_shape hMv.outer
      have hk2 := Lib.hid hkl
      have hvl2 := Lib.hid hvl
      rw [hkl] at hMv ⊢
      replace hMv := Lib.hid hMv
      have hBs := hB.out.size
      clear hc hu hM hkl hvl
      have k1 : (k : Int) < (n : Int) := by omega
      have k0 : (0 : Int) ≤ (k : Int) := by omega
      go_wp2_with fail
      refine hcl.out.mono ?_; rintro e w2 ⟨⟨v2, rfl, ho2⟩, hb2⟩
      obtain ⟨A2, c2, rfl⟩ := own_shape ho2
      replace ho2 := Lib.hid ho2
      have hbs2 := hb2.size
      replace hb2 := Lib.hid hb2
      generalize (rs.getD k []).length = L at *
      have hw3 : Hid ((w2.alloc (.cells #[.slice A2 L c2] 23)).ownsRow w.heap.size 23 1 (.slice A1 k c1) k vs) := Lib.hid (by
        have := (hMv.out.kept (Below.then_ hb2.out ((Below.refl _ w2).alloc (Nat.le_refl _) (.cells #[.slice A2 L c2] 23)))).outer
        rwa [hk2.out] at this)
      go_wp2_with (at_builtin; (refine wpList_append_own_at _ rfl _ _ 22 rfl w.heap.size 23 i0 _ 1 24 Tryd.underlying22 hi hz0 hz1 hz2 rfl (by omega) (.slice A1 k c1) k vs rfl hw3.out ⟨w2.heap.size, 0, none⟩ 1 1 [.slice A2 L c2] rfl rfl (cell_one_new w2 _ _) (by simp [Value.oneCell']) (by unfold maxLen; omega) (by omega) (by simp; omega) ?_); intro v' w1 hown1 hgrow _ _)
      replace hown1 := Lib.hid hown1
      replace hgrow := Lib.hid hgrow
      go_wp2
      go_roundw
      case rel =>
        obtain ⟨g1, g2⟩ := snoc_round hB.out hMv.out hb2.out ho2.out (by rw [hk2.out]) hown1.out hgrow.out
        exact ⟨k + 1, by omega, by go_num, Lib.hid g1, Lib.hid (by rw [← htk.out]; exact g2)⟩
      case measure => simp [intOf]; omega
    · obtain rfl : n = k := by omega
      go_wp2
      go_ret
      refine ⟨⟨_, rfl, ?_⟩, hB.out⟩
      obtain ⟨vs, hMv⟩ := hM.out
      rw [List.take_of_length_le (by rw [hN.out]; exact Nat.le_refl _)] at hMv
      exact hMv.m
end Go.Proofs.YtfljkcmijnhgkaaDoor

namespace Go.Proofs.YtfljkcmijnhgkaaDoor
open Go.RowKit
set_option linter.unusedSimpArgs false

theorem mat_get? (f : Nat → Nat → Int) {n m i : Nat} (hi : i < n) : (mat f n m)[i]? = some ((List.range m).map (f i)) := by simp [mat, List.getElem?_range hi]
theorem mat_congr {f g : Nat → Nat → Int} {n m : Nat} (h : ∀ i k, i < n → k < m → f i k = g i k) : mat f n m = mat g n m := by
  apply List.map_congr_left; intro i hi
  apply List.map_congr_left; intro k hk
  exact h i k (by simpa using hi) (by simpa using hk)
theorem mat_put (f g : Nat → Nat → Int) {n m i k : Nat} (x : Int) (h : ∀ a b, a < n → b < m → (if a = i ∧ b = k then x else f a b) = g a b) :
    (mat f n m).set i (((List.range m).map (f i)).set k x) = mat g n m := by
  apply List.ext_getElem (by simp [mat])
  intro a h1 h2
  have ha : a < n := by simpa [mat] using h2
  rw [List.getElem_set]
  by_cases e : i = a
  · subst e
    rw [if_pos rfl]
    simp only [mat, List.getElem_map, List.getElem_range]
    apply List.ext_getElem (by simp)
    intro b h3 h4
    have hb : b < m := by simpa using h4
    rw [List.getElem_set]
    simp only [List.getElem_map, List.getElem_range]
    rw [← h i b ha hb]
    by_cases e2 : k = b
    · subst e2; rw [if_pos rfl, if_pos ⟨rfl, rfl⟩]
    · rw [if_neg e2, if_neg (fun e => e2 e.2.symm)]
  · rw [if_neg e]
    simp only [mat, List.getElem_map, List.getElem_range]
    apply List.map_congr_left; intro b hb
    rw [← h a b ha (by simpa using hb), if_neg (fun e2 => e e2.1.symm)]
theorem zeros_snoc (m k : Nat) : mat (fun _ _ => 0) k m ++ [List.replicate m 0] = mat (fun _ _ => 0) (k + 1) m := by
  rw [mat, mat, List.range_succ, List.map_append]
  congr 1
  rw [List.map_singleton, List.cons.injEq]
  refine ⟨?_, rfl⟩
  apply List.ext_getElem (by simp)
  intro a h1 h2
  simp
set_option maxRecDepth 100000 in
set_option maxHeartbeats 800000 in
theorem zeros_any (n m : Nat) (w : World) (hn : n ≤ 1000000) (hm : m ≤ 1000000) :
    Calls Tryd.prog 124 #[.int .i64 n, .int .i64 m] w fun e w' => (∃ v, e = .returned v ∧ OwnM w' w.heap.size v (mat (fun _ _ => 0) n m)) ∧ Below w.heap.size w w' := by
  obtain ⟨i0, hi, hz0, hz1, hz2⟩ := info_parts infoR
  have hmk := run_make_row' (P := Tryd.prog) 23 3 _ _ Tryd.underlying23 infoI rfl .i64 .i64 m (by omega) (by omega)
  go_enter Tryd.func124, Tryd.ntmps124
  go_wp2
  go_loopw [5, 6] (fun o i wr => ∃ k : Nat, k ≤ n ∧ i = .int .i64 k ∧ Hid (Below w.heap.size w wr) ∧ Hid (∃ vs, OwnMv wr w.heap.size o (mat (fun _ _ => 0) k m) vs)) (fun _ i _ => n - (intOf i).toNat)
  case atStart => exact ⟨0, Nat.zero_le _, rfl, Lib.hid (Below.refl _ _), Lib.hid ⟨[], OwnMv_nil _ _⟩⟩
  case round =>
    obtain ⟨k, hk, rfl, hB, hM⟩ := hrel
    by_cases hlt : k < n
    · obtain ⟨vs, hMv⟩ := hM.out
      have hvl := hMv.len
      rw [mat_len] at hvl
      obtain ⟨A1, c1, rfl⟩ := own_shape hMv.outer
      rw [mat_len] at hMv ⊢
      replace hMv := Lib.hid hMv
      have hvl2 := Lib.hid hvl
      have hBs := hB.out.size
      clear hM hvl
      have k1 : (k : Int) < (n : Int) := by omega
      have k0 : (0 : Int) ≤ (k : Int) := by omega
      have hb2 : Hid (Below wr.heap.size wr (wr.alloc (.cells (madeCells #[.int .i64 0] m) 3))) := Lib.hid ((Below.refl _ _).alloc (Nat.le_refl _) _)
      have ho2 := Lib.hid (OwnI_made wr wr.heap.size m (Nat.le_refl _) (by unfold maxLen; omega))
      have hs2 : (wr.alloc (.cells (madeCells #[.int .i64 0] m) 3)).heap.size = wr.heap.size + 1 := World.size_alloc _ _
      have hw3 : Hid (((wr.alloc (.cells (madeCells #[.int .i64 0] m) 3)).alloc (.cells #[.slice (some ⟨wr.heap.size, 0, none⟩) m m] 23)).ownsRow w.heap.size 23 1 (.slice A1 k c1) k vs) := Lib.hid (by
        have := (hMv.out.kept (Below.then_ hb2.out ((Below.refl _ (wr.alloc (.cells (madeCells #[.int .i64 0] m) 3))).alloc (Nat.le_refl _) (.cells #[.slice (some ⟨wr.heap.size, 0, none⟩) m m] 23)))).outer
        rwa [mat_len] at this)
      have hnw : Hid (∀ j u, [Value.slice (some ⟨wr.heap.size, 0, none⟩) m m][j]? = some u → ((wr.alloc (.cells (madeCells #[.int .i64 0] m) 3)).alloc (.cells #[.slice (some ⟨wr.heap.size, 0, none⟩) m m] 23)).cell? ((⟨wr.heap.size + 1, 0, none⟩ : Addr).add j) = some u) := Lib.hid (by
        have := cell_one_new (wr.alloc (.cells (madeCells #[.int .i64 0] m) 3)) (.slice (some ⟨wr.heap.size, 0, none⟩) m m) 23
        rwa [hs2] at this)
      have hbs : w.heap.size ≤ ((wr.alloc (.cells (madeCells #[.int .i64 0] m) 3)).alloc (.cells #[.slice (some ⟨wr.heap.size, 0, none⟩) m m] 23)).heap.size := by rw [World.size_alloc, hs2]; omega
      replace hbs := Lib.hid hbs
      go_wp2_with (at_builtin; (refine wpList_append_own_at _ rfl _ _ 22 rfl w.heap.size 23 i0 _ 1 24 Tryd.underlying22 hi hz0 hz1 hz2 rfl (by omega) (.slice A1 k c1) k vs rfl hw3.out ⟨wr.heap.size + 1, 0, none⟩ 1 1 [.slice (some ⟨wr.heap.size, 0, none⟩) m m] rfl rfl hnw.out (by simp [Value.oneCell']) (by unfold maxLen; omega) (by omega) hbs.out ?_); intro v' w1 hown1 hgrow _ _)
      replace hown1 := Lib.hid hown1
      replace hgrow := Lib.hid hgrow
      go_wp2
      go_roundw
      case rel =>
        obtain ⟨g1, g2⟩ := snoc_round hB.out hMv.out hb2.out ho2.out (by rw [mat_len]) hown1.out hgrow.out
        exact ⟨k + 1, by omega, by go_num, Lib.hid g1, Lib.hid (by rw [zeros_snoc] at g2; exact g2)⟩
      case measure => simp [intOf]; omega
    · obtain rfl : n = k := by omega
      go_wp2
      go_ret
      obtain ⟨vs, hMv⟩ := hM.out
      exact ⟨⟨_, rfl, hMv.m⟩, hB.out⟩
/-- The first k rows of the identity. -/
def idP (k : Nat) (a b : Nat) : Int := if a = b ∧ a < k then 1 else 0
set_option maxRecDepth 100000 in
set_option maxHeartbeats 800000 in
theorem Identity_any (n : Nat) (w : World) (hn : n ≤ 1000) :
    Calls Tryd.prog 150 #[.int .i64 n] w fun e w' => (∃ v, e = .returned v ∧ OwnM w' w.heap.size v (idM n)) ∧ Below w.heap.size w w' := by
  have hz := Lib.hid (zeros_any n n w (by omega) (by omega))
  go_enter Tryd.func150, Tryd.ntmps150
  go_wp2_with fail
  refine hz.out.mono ?_; rintro e W ⟨⟨v, rfl, ho⟩, hB0⟩
  obtain ⟨vs, hv⟩ := ho.v
  clear hz ho
  have hvl := hv.len
  rw [mat_len] at hvl
  have hge := Lib.hid hv.ge
  replace hv := Lib.hid hv
  replace hB0 := Lib.hid hB0
  go_wp2
  go_loopw [4] (fun i wr => ∃ k : Nat, k ≤ n ∧ i = .int .i64 k ∧ Hid (KeptBut vs W wr) ∧ Hid (OwnMv wr w.heap.size v (mat (idP k) n n) vs)) (fun i _ => n - (intOf i).toNat)
  case atStart => exact ⟨0, Nat.zero_le _, rfl, Lib.hid (KeptBut.refl _ _), Lib.hid (by rw [show mat (idP 0) n n = mat (fun _ _ => 0) n n from mat_congr (fun i k _ _ => by rw [idP, if_neg (by omega)])]; exact hv.out)⟩
  case round =>
    obtain ⟨k, hk, rfl, hK, hM⟩ := hrel
    by_cases hlt : k < n
    · have hr := mat_get? (idP k) (n := n) (m := n) hlt
      have hu : vs[k]? = some vs[k] := List.getElem?_eq_getElem (by omega)
      obtain ⟨g, c, rfl, _, _, hc, hf⟩ := hM.out.at_ hr hu
      rw [mat_len] at *
      obtain ⟨g1, c1, e1, _, _, hc1, hf1⟩ := hM.out.num hr hu (k := k) (by simp; exact hlt)
      have hlr : ((List.range n).map (idP k k)).length = n := by simp
      rw [hlr] at e1
      rw [e1] at hc hu
      have hput := hM.out.put hr hu (k := k) 1
      rw [mat_put (idP k) (idP (k + 1)) 1 (fun a b _ _ => by
        unfold idP
        by_cases e : a = k ∧ b = k
        · rw [if_pos e, if_pos (by omega)]
        · rw [if_neg e]
          by_cases e2 : a = b ∧ a < k
          · rw [if_pos e2, if_pos (by omega)]
          · rw [if_neg e2, if_neg (by omega)])] at hput
      have hput2 := Lib.hid hput.1
      have hK2 := Lib.hid (hK.out.trans hput.2)
      clear hput hr hu hM e1 hlr
      generalize ((List.range n).map (idP k k)).getD k 0 = x at hc1
      have k1 : (k : Int) < (n : Int) := by omega
      have k0 : (0 : Int) ≤ (k : Int) := by omega
      clear hvl
      go_wp2
      go_roundw
      case rel => exact ⟨k + 1, by omega, by go_num, hK2, hput2⟩
      case measure => simp [intOf]; omega
    · obtain rfl : n = k := by omega
      go_wp2
      go_ret
      refine ⟨⟨_, rfl, ?_⟩, hB0.out.trans (hK.out.below hB0.out.size (fun u hu q hq => (hge.out u hu q hq).1))⟩
      rw [idM, ← mat_congr (f := idP n) (fun i k hi _ => by
        unfold idP
        by_cases e : i = k
        · rw [if_pos ⟨e, hi⟩, if_pos e]
        · rw [if_neg (fun h => e h.1), if_neg e])]
      exact hM.out.m
end Go.Proofs.YtfljkcmijnhgkaaDoor

namespace Go.Proofs.YtfljkcmijnhgkaaDoor
open Go.RowKit
set_option linter.unusedSimpArgs false

/-- A number of the product, so many terms taken. -/
def prS (a b : List (List Int)) (i k j : Nat) : Int := psum (fun j => gM a i j * gM b j k % 65521) j % 65521
/-- What is told so far. -/
def prP (a b : List (List Int)) (l i k j : Nat) (x y : Nat) : Int := if x < i ∨ (x = i ∧ y < k) then prS a b x y l else if x = i ∧ y = k then prS a b x y j else 0
theorem prS_step (a b : List (List Int)) (i k j : Nat) : prS a b i k (j + 1) = (prS a b i k j + gM a i j * gM b j k) % 65521 := by
  unfold prS
  rw [psum]
  generalize psum _ j = S
  generalize gM a i j * gM b j k = t
  omega
theorem prP_bd (a b : List (List Int)) (l i k j x y : Nat) : 0 ≤ prP a b l i k j x y ∧ prP a b l i k j x y < 65521 := by
  unfold prP prS
  split
  · exact ⟨Int.emod_nonneg _ (by decide), Int.emod_lt_of_pos _ (by decide)⟩
  · split
    · exact ⟨Int.emod_nonneg _ (by decide), Int.emod_lt_of_pos _ (by decide)⟩
    · omega
theorem prP_zero (a b : List (List Int)) (l n m : Nat) : mat (prP a b l 0 0 0) n m = mat (fun _ _ => 0) n m := mat_congr fun i k _ _ => by
  unfold prP
  rw [if_neg (by omega)]
  split
  · simp [prS, psum]
  · rfl
theorem prP_row (a b : List (List Int)) (l i n m : Nat) : mat (prP a b l i m 0) n m = mat (prP a b l (i + 1) 0 0) n m := mat_congr fun x y _ hy => by
  unfold prP
  by_cases h : x < i ∨ (x = i ∧ y < m)
  · rw [if_pos h, if_pos (by omega)]
  · rw [if_neg h, if_neg (by omega), if_neg (by omega)]
    split
    · simp [prS, psum]
    · rfl
theorem prP_col (a b : List (List Int)) (l i k n m : Nat) : mat (prP a b l i k l) n m = mat (prP a b l i (k + 1) 0) n m := mat_congr fun x y _ _ => by
  unfold prP
  by_cases h : x < i ∨ (x = i ∧ y < k)
  · rw [if_pos h, if_pos (by omega)]
  · rw [if_neg h]
    by_cases h2 : x = i ∧ y = k
    · rw [if_pos h2, if_pos (by omega)]
    · rw [if_neg h2, if_neg (by omega)]
      split
      · simp [prS, psum]
      · rfl
theorem prP_end (a b : List (List Int)) (l n m : Nat) (ha : okM a n l) : mat (prP a b l n 0 0) n m = mat (prodE a b) n m := mat_congr fun x y hx _ => by
  unfold prP
  rw [if_pos (by omega), prodE, ha.row hx]; rfl
theorem prP_put (a b : List (List Int)) (l i k j : Nat) (x y : Nat) : (if x = i ∧ y = k then (prS a b i k j + gM a i j * gM b j k) % 65521 else prP a b l i k j x y) = prP a b l i k (j + 1) x y := by
  unfold prP
  by_cases h : x = i ∧ y = k
  · obtain ⟨rfl, rfl⟩ := h
    rw [if_pos ⟨rfl, rfl⟩, if_neg (by omega), if_pos ⟨rfl, rfl⟩, prS_step]
  · rw [if_neg h, if_neg h, if_neg h]
set_option maxRecDepth 100000 in
set_option maxHeartbeats 1600000 in
theorem refProduct_any (a b : List (List Int)) (n l m : Nat) (va vb : Value) (w : World) (ha : okM a n l) (hb : okM b l m) (hn : n ≤ 1000) (hl : l ≤ 1000) (hm : m ≤ 1000) (hl0 : 0 < l)
    (ra : RdM w va a) (rb : RdM w vb b) :
    Calls Tryd.prog 128 #[va, vb] w fun e w' => (∃ v, e = .returned v ∧ OwnM w' w.heap.size v (prodM a b)) ∧ Below w.heap.size w w' := by
  have hP : prodM a b = mat (prodE a b) n m := by rw [prodM, ha.1, hb.len0 hl0]
  obtain ⟨A, c, rfl, h1, h2, h3⟩ := ra.open_
  obtain ⟨B, d, rfl, g1, g2, g3⟩ := rb.open_
  rw [ha.1] at *
  rw [hb.1] at *
  obtain ⟨b0, off0, u, rfl, hc0, hu⟩ := g3 0 (by omega)
  obtain ⟨A1, c1, rfl, f1, f2⟩ := hu.cell_
  rw [hb.row hl0, Nat.add_zero] at *
  have hl1 : (0 : Int) < (l : Int) := by omega
  have hz := Lib.hid (zeros_any n m w (by omega) (by omega))
  have na := Lib.hid ha.num
  have nb := Lib.hid hb.num
  have ha' := Lib.hid ha
  have rowa := Lib.hid (fun j (hj : j < n) => ha.row hj)
  have rowb := Lib.hid (fun j (hj : j < l) => hb.row hj)
  replace hP := Lib.hid hP
  replace h3 := Lib.hid h3
  replace g3 := Lib.hid g3
  have hc0' := Lib.hid hc0
  clear ra rb hu ha hb
  go_enter Tryd.func128, Tryd.ntmps128
  go_wp2_with fail
  refine hz.out.mono ?_; rintro e W ⟨⟨v, rfl, ho⟩, hB0⟩
  obtain ⟨vs, hv⟩ := ho.v
  clear hz ho hc0
  have hvl : Hid (vs.length = n) := Lib.hid (by have := hv.len; rwa [mat_len] at this)
  have hge := Lib.hid hv.ge
  replace hv := Lib.hid hv
  replace hB0 := Lib.hid hB0
  have toB : Hid (∀ wr, KeptBut vs W wr → Below w.heap.size w wr) := Lib.hid (fun wr hK => hB0.out.trans (hK.below hB0.out.size (fun u hu q hq => (hge.out u hu q hq).1)))
  go_wp2
  go_loopw [6, 7, 8] (fun i _ _ wr => ∃ k : Nat, k ≤ n ∧ i = .int .i64 k ∧ Hid (KeptBut vs W wr) ∧ Hid (OwnMv wr w.heap.size v (mat (prP a b l k 0 0) n m) vs)) (fun i _ _ _ => n - (intOf i).toNat)
  case atStart => exact ⟨0, Nat.zero_le _, rfl, Lib.hid (KeptBut.refl _ _), Lib.hid (by rw [prP_zero]; exact hv.out)⟩
  case round =>
    obtain ⟨i, hi, rfl, hK, hM⟩ := hrel
    by_cases hin : i < n
    · have i1 : (i : Int) < (n : Int) := by omega
      have i0 : (0 : Int) ≤ (i : Int) := by omega
      obtain ⟨wo, rfl⟩ : ∃ wo : World, wo = wr := ⟨_, rfl⟩
      go_wp2
      go_loopw [7, 8] (fun k _ wr => ∃ k' : Nat, k' ≤ m ∧ k = .int .i64 k' ∧ Hid (KeptBut vs W wr) ∧ Hid (OwnMv wr w.heap.size v (mat (prP a b l i k' 0) n m) vs)) (fun k _ _ => m - (intOf k).toNat)
      case atStart => exact ⟨0, Nat.zero_le _, rfl, hK, hM⟩
      case round =>
        obtain ⟨k, hk, rfl, hK, hM⟩ := hrel
        have hcw := ((toB.out wr hK.out).cell (p := ⟨b0, off0, none⟩) (World.block_lt_of_cell? w _ hc0'.out)).trans hc0'.out
        by_cases hkm : k < m
        · have k1 : (k : Int) < (m : Int) := by omega
          have k0 : (0 : Int) ≤ (k : Int) := by omega
          obtain ⟨wo2, rfl⟩ : ∃ wo2 : World, wo2 = wr := ⟨_, rfl⟩
          go_wp2
          clear hcw
          go_loopw [8] (fun j wr => ∃ j' : Nat, j' ≤ l ∧ j = .int .i64 j' ∧ Hid (KeptBut vs W wr) ∧ Hid (OwnMv wr w.heap.size v (mat (prP a b l i k j') n m) vs)) (fun j _ => l - (intOf j).toNat)
          case atStart => exact ⟨0, Nat.zero_le _, rfl, hK, hM⟩
          case round =>
            obtain ⟨j, hj, rfl, hK, hM⟩ := hrel
            by_cases hjl : j < l
            · have hBw := toB.out wr hK.out
              obtain ⟨ba, offa, ua, rfl, hca, hua⟩ := h3.out i hin
              obtain ⟨Aa, ca, rfl, -, -, e3⟩ := hua.open_
              rw [rowa.out i hin] at e3 hca
              obtain ⟨ba2, offa2, rfl, hca2⟩ := e3 j hjl
              obtain ⟨bb, offb, ub, eb, hcb, hub⟩ := g3.out j hjl
              simp only [Option.some.injEq, Addr.mk.injEq, and_true] at eb
              obtain ⟨rfl, rfl⟩ := eb
              obtain ⟨Ab, cb, rfl, -, -, e4⟩ := hub.open_
              rw [rowb.out j hjl] at e4 hcb
              obtain ⟨bb2, offb2, rfl, hcb2⟩ := e4 k hkm
              change _ = some (Value.int .i64 (gM a i j)) at hca2
              change _ = some (Value.int .i64 (gM b j k)) at hcb2
              replace hca := (hBw.cell (World.block_lt_of_cell? w _ hca)).trans hca
              replace hca2 := (hBw.cell (World.block_lt_of_cell? w _ hca2)).trans hca2
              replace hcb := (hBw.cell (World.block_lt_of_cell? w _ hcb)).trans hcb
              replace hcb2 := (hBw.cell (World.block_lt_of_cell? w _ hcb2)).trans hcb2
              clear e3 e4 hua hub hBw
              have hr := mat_get? (prP a b l i k j) (n := n) (m := m) hin
              have hiv : i < vs.length := by have := hvl.out; omega
              have hu : vs[i]? = some vs[i] := List.getElem?_eq_getElem hiv
              obtain ⟨g, c', rfl, _, _, hc, hf⟩ := hM.out.at_ hr hu
              rw [mat_len] at *
              obtain ⟨g1, c1', e1, _, _, hc1, hf1⟩ := hM.out.num hr hu (k := k) (by simp; exact hkm)
              have hlr : ((List.range m).map (prP a b l i k j i)).length = m := by simp
              rw [hlr] at e1
              rw [e1] at hc hu
              have hget : ((List.range m).map (prP a b l i k j i)).getD k 0 = prS a b i k j := by
                rw [List.getD_eq_getElem?_getD, List.getElem?_map, List.getElem?_range hkm]
                show prP a b l i k j i k = _
                rw [prP, if_neg (by omega), if_pos ⟨rfl, rfl⟩]
              rw [hget] at hc1
              have hput := (hM.out.kept ((Below.refl wr.heap.size wr).drew)).put hr hu (k := k) ((prS a b i k j + gM a i j * gM b j k) % 65521)
              rw [mat_put (prP a b l i k j) (prP a b l i k (j + 1)) _ (fun x y _ _ => prP_put a b l i k j x y)] at hput
              have hput2 := Lib.hid hput.1
              have hK2 := Lib.hid (hK.out.drew.trans hput.2)
              have ⟨s1, s2⟩ : 0 ≤ prS a b i k j ∧ prS a b i k j < 65521 := ⟨Int.emod_nonneg _ (by decide), Int.emod_lt_of_pos _ (by decide)⟩
              have ⟨n1, n2⟩ := na.out i j
              have ⟨n3, n4⟩ := nb.out j k
              have ⟨m1, m2⟩ := mul_bd n1 n2 n3 n4
              clear hput hr hu hM e1 hlr hget hiv
              generalize prS a b i k j = S at *
              generalize gM a i j = x at *
              generalize gM b j k = y at *
              have j1 : (j : Int) < (l : Int) := by omega
              have j0 : (0 : Int) ≤ (j : Int) := by omega
              go_wp2
              go_still_tail 30, (by kernel_rfl)
              change wpList _ _ _ _ _ wr.drew
              replace hc1 : wr.drew.cell? _ = _ := hc1
              replace hf1 : wr.drew.frozen? _ = _ := hf1
              clear hc hca hca2 hcb hcb2 hf hK
              generalize wr.drew = wd at hc1 hf1 hput2 hK2 ⊢
              go_wp2
              go_roundw
              case rel => exact ⟨j + 1, by omega, by go_num, hK2, hput2⟩
              case measure => simp [intOf]; omega
            · obtain rfl : j = l := by omega
              go_wp2
              go_roundw
              case rel => exact ⟨k + 1, by omega, by go_num, hK, by rw [← prP_col]; exact hM⟩
              case measure => simp [intOf]; omega
        · obtain rfl : k = m := by omega
          go_wp2
          go_roundw
          case rel => exact ⟨i + 1, by omega, by go_num, hK, by rw [← prP_row]; exact hM⟩
          case measure => simp [intOf]; omega
    · obtain rfl : i = n := by omega
      go_wp2
      go_ret
      refine ⟨⟨_, rfl, ?_⟩, toB.out wr hK.out⟩
      rw [hP.out, ← prP_end a b l i m ha'.out]
      exact hM.out.m
end Go.Proofs.YtfljkcmijnhgkaaDoor
