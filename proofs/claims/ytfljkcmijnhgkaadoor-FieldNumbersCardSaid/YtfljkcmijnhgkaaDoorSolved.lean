/- solved: its contract. -/
import Derived.Test.YtfljkcmijnhgkaaDoorSolve
import Derived.Test.YtfljkcmijnhgkaaDoorNum
import Derived.Test.YtfljkcmijnhgkaaDoorReg
namespace Go.Proofs.YtfljkcmijnhgkaaDoor
open Go.RowKit
set_option linter.unusedSimpArgs false

/-- Rows before i have their right side. -/
def auP (rs : List (List Int)) (b : List Int) (i : Nat) : List (List Int) := (List.range rs.length).map fun j => if j < i then rs.getD j [] ++ [b.getD j 0] else rs.getD j []
theorem auP_zero (rs : List (List Int)) (b : List Int) : auP rs b 0 = rs := by
  apply List.ext_getElem (by simp [auP])
  intro j h1 h2
  simp [auP, List.getD_eq_getElem?_getD, h2]
theorem auP_end (rs : List (List Int)) (b : List Int) : auP rs b rs.length = augM rs b := by
  apply List.map_congr_left; intro j hj
  rw [if_pos (by simpa using hj)]
theorem auP_get (rs : List (List Int)) (b : List Int) {i : Nat} (hi : i < rs.length) : (auP rs b i)[i]? = some (rs.getD i []) := by
  rw [auP, List.getElem?_map, List.getElem?_range hi, Option.map_some, if_neg (by omega)]
theorem auP_set (rs : List (List Int)) (b : List Int) (i : Nat) : (auP rs b i).set i (rs.getD i [] ++ [b.getD i 0]) = auP rs b (i + 1) := by
  apply List.ext_getElem (by simp [auP])
  intro j h1 h2
  rw [List.getElem_set]
  simp only [auP, List.getElem_map, List.getElem_range]
  by_cases e : i = j
  · subst e; rw [if_pos rfl, if_pos (by omega)]
  · rw [if_neg e]
    by_cases h : j < i
    · rw [if_pos h, if_pos (by omega)]
    · rw [if_neg h, if_neg (by omega)]
theorem okM_aug {rs : List (List Int)} {b : List Int} {n m : Nat} (h : okM rs n m) (hb : ∀ x ∈ b, 0 ≤ x ∧ x < 65521) (hl : b.length = n) : okM (augM rs b) n (m + 1) := by
  refine ⟨by simp [augM, h.1], fun r hr => ?_⟩
  obtain ⟨i, hi, rfl⟩ := List.mem_map.1 hr
  have hi' : i < n := by have := List.mem_range.1 hi; rw [h.1] at this; exact this
  refine ⟨by rw [List.length_append, h.row hi']; rfl, fun x hx => ?_⟩
  rcases List.mem_append.1 hx with hx | hx
  · have : rs.getD i [] ∈ rs := by
      rw [List.getD_eq_getElem?_getD, List.getElem?_eq_getElem (by rw [h.1]; exact hi')]
      exact List.getElem_mem _
    exact (h.2 _ this).2 x hx
  · rw [List.mem_singleton.1 hx, List.getD_eq_getElem?_getD, List.getElem?_eq_getElem (by omega)]
    exact hb _ (List.getElem_mem _)
theorem SolveInv.kept {w wr w2 : World} {base sb cb n m : Nat} {v lv : Value} {s : Sys} (h : SolveInv w wr base sb cb n m v lv s) (hb : Below wr.heap.size wr w2) (hbw : base ≤ wr.heap.size) (hcb : cb < wr.heap.size) : SolveInv w w2 base sb cb n m v lv s := by
  obtain ⟨vs, h1, h2⟩ := h.mem
  exact ⟨h.ok, h.few, h.det, ⟨vs, h1.kept hb, h2⟩, (hb.block sb (lt_of_block h.sys)).trans h.sys, own_below h.piv hb, (hb.block cb hcb).trans h.cols, h.below.trans (hb.mono hbw)⟩
def xP (s : Sys) (m i : Nat) : List Int := (s.piv.take i).foldl (fun x p => x.set p.2 (gM s.rows p.1 m)) (List.replicate m 0)
theorem xP_len (s : Sys) (m i : Nat) : (xP s m i).length = m := by
  unfold xP
  have : ∀ (l : List (Nat × Nat)) (x : List Int), (l.foldl (fun x p => x.set p.2 (gM s.rows p.1 m)) x).length = x.length := by
    intro l
    induction l with
    | nil => intro x; rfl
    | cons p l ih => intro x; rw [List.foldl_cons, ih]; simp
  rw [this]; simp
theorem xP_succ (s : Sys) (m : Nat) {i : Nat} {p : Nat × Nat} (hp : s.piv[i]? = some p) : xP s m (i + 1) = (xP s m i).set p.2 (gM s.rows p.1 m) := by
  unfold xP
  rw [List.take_add_one, hp, List.foldl_append]; rfl
theorem pivCells_get {l : List (Nat × Nat)} {i : Nat} {p : Nat × Nat} (h : l[i]? = some p) : (pivCells l)[i * 2]? = some (.int .i64 p.1) ∧ (pivCells l)[i * 2 + 1]? = some (.int .i64 p.2) := by
  induction l generalizing i with
  | nil => cases h
  | cons q l ih =>
    cases i with
    | zero =>
      simp only [List.getElem?_cons_zero, Option.some.injEq] at h
      subst h
      exact ⟨rfl, rfl⟩
    | succ i =>
      have h' : l[i]? = some p := by simpa using h
      have := ih h'
      have e : pivCells (q :: l) = .int .i64 q.1 :: .int .i64 q.2 :: pivCells l := by simp [pivCells]
      rw [e, show (i + 1) * 2 = i * 2 + 2 from by omega]
      exact ⟨by simpa using this.1, by simpa using this.2⟩
theorem pivCells_len (l : List (Nat × Nat)) : (pivCells l).length = 2 * l.length := by
  induction l with
  | nil => rfl
  | cons q l ih =>
    have e : pivCells (q :: l) = .int .i64 q.1 :: .int .i64 q.2 :: pivCells l := by simp [pivCells]
    rw [e]; simp [ih]; omega
theorem solvedM_some {rs : List (List Int)} {b : List Int} {m n L : Nat} {S : Sys} (h : sysM rs b m = S) (hn : S.rows.length = n) (hL : S.piv.length = L) (hz : ∀ i, L ≤ i → i < n → gM S.rows i m = 0) : solvedM rs b m = some (fillX S m) := by
  have : restOk S m = true := by
    unfold restOk
    rw [List.all_eq_true, hn, hL]
    intro i hi
    have hi := List.mem_range.1 hi
    by_cases h : i < L
    · simp [h]
    · simp [hz i (by omega) hi]
  rw [solvedM, h, if_pos this]
theorem solvedM_none {rs : List (List Int)} {b : List Int} {m n L i : Nat} {S : Sys} (h : sysM rs b m = S) (hn : S.rows.length = n) (hL : S.piv.length = L) (h1 : L ≤ i) (h2 : i < n) (hz : gM S.rows i m ≠ 0) : solvedM rs b m = none := by
  have : restOk S m = false := by
    rw [← Bool.not_eq_true]
    intro h3
    unfold restOk at h3
    rw [List.all_eq_true, hn, hL] at h3
    have := h3 i (List.mem_range.2 h2)
    simp at this
    omega
  rw [solvedM, h, if_neg (by simp [this])]
theorem natI_rev (l : List Nat) : (natI l).reverse = natI l.reverse := by simp [natI]
theorem stepS_piv {cols : List Nat} {s : Sys} {k : Nat} (hk : k ∈ cols) (h : ∀ p ∈ s.piv, p.1 < s.piv.length ∧ p.2 ∈ cols) : ∀ p ∈ (stepS s k).piv, p.1 < (stepS s k).piv.length ∧ p.2 ∈ cols := by
  unfold stepS
  split
  · exact h
  · intro p hp
    simp only [pivS, List.mem_append, List.mem_singleton, List.length_append, List.length_singleton] at hp ⊢
    rcases hp with hp | rfl
    · exact ⟨by have := (h p hp).1; omega, (h p hp).2⟩
    · exact ⟨by simp, hk⟩
theorem foldS_piv {cols : List Nat} : ∀ (l : List Nat) (s : Sys), (∀ k ∈ l, k ∈ cols) → (∀ p ∈ s.piv, p.1 < s.piv.length ∧ p.2 ∈ cols) → ∀ p ∈ (l.foldl stepS s).piv, p.1 < (l.foldl stepS s).piv.length ∧ p.2 ∈ cols
  | [], _, _, h => h
  | k :: l, s, hl, h => foldS_piv l (stepS s k) (fun x hx => hl x (List.mem_cons_of_mem _ hx)) (stepS_piv (hl k List.mem_cons_self) h)
theorem solveS_piv (rs : List (List Int)) (cols : List Nat) (t : Bool) : ∀ p ∈ (solveS rs cols t).piv, p.1 < (solveS rs cols t).piv.length ∧ p.2 ∈ cols :=
  foldS_piv cols _ (fun _ h => h) (fun _ h => by cases h)
set_option maxRecDepth 100000 in
set_option maxHeartbeats 1600000 in
theorem solved_any (rs : List (List Int)) (b : List Int) (n m : Nat) (va vb : Value) (w : World) (hok : okM rs n m) (hn : n ≤ 900) (hm : m ≤ 900) (hbl : b.length = n) (hbr : ∀ x ∈ b, 0 ≤ x ∧ x < 65521)
    (ra : RdM w va rs) (rb : RdI w vb b) :
    Calls Tryd.prog 94 #[va, vb, .int .i64 m] w fun e w' =>
      (∃ v, e = .returned (.tuple #[v, .bool (solvedM rs b m).isSome]) ∧ OwnI w' w.heap.size v ((solvedM rs b m).getD [])) ∧ Below w.heap.size w w' := by
  have hcp := Lib.hid (copied_any rs va w ra (by rw [hok.1]; omega) (fun r hr => by have := (hok.2 r hr).1; omega))
  obtain ⟨i0, hi0, hz0, hz1, hz2⟩ := info_parts infoI
  have hmk := run_make_row' (P := Tryd.prog) 23 3 _ _ Tryd.underlying23 infoI rfl .i64 .i64 m (by omega) (by omega)
  obtain ⟨B, cb, rfl, hb1, hb2, hb3⟩ := rb.open_
  have hbl2 := Lib.hid hbl
  rw [hbl] at hb1 hb2 hb3 ⊢
  replace hb3 := Lib.hid hb3
  have hok' := Lib.hid hok
  replace hbr := Lib.hid hbr
  clear ra rb hok hbl
  go_enter Tryd.func94, Tryd.ntmps94
  go_wp2_with fail
  refine hcp.out.mono ?_; rintro e W1 ⟨⟨v, rfl, hO⟩, hB1⟩
  clear hcp
  obtain ⟨G, C, rfl⟩ : ∃ G C, v = .slice G n C := by obtain ⟨vs, h1, _⟩ := hO; rw [hok'.out.1] at h1; exact own_form h1
  replace hO := Lib.hid hO
  go_wp2
  have hbx : Below W1.heap.size W1 (W1.alloc (.cells #[.slice G n C, .bool false] 123)) := (Below.refl _ _).alloc (Nat.le_refl _) _
  have hO2 := Lib.hid (hO.out.below hbx)
  have hs2 : (W1.alloc (.cells #[.slice G n C, .bool false] 123)).heap[W1.heap.size]? = some (.cells #[.slice G n C, .bool false] 123 (0, 0)) := heap_alloc_new _ _
  have hB2 := Lib.hid (Below.then_ hB1 hbx)
  have hsb : w.heap.size ≤ W1.heap.size := hB1.size
  replace hs2 := Lib.hid hs2
  generalize W1.alloc (.cells #[.slice G n C, .bool false] 123) = X at hO2 hs2 hB2 ⊢
  generalize W1.heap.size = sb at hs2 hsb ⊢
  clear hbx hB1 hO
  go_loopw [9, 24] (fun _ i wr => ∃ k : Nat, k ≤ n ∧ i = .int .i64 k ∧ Hid (Below w.heap.size w wr) ∧ Hid (OwnM wr w.heap.size (.slice G n C) (auP rs b k)) ∧ Hid (wr.heap[sb]? = some (.cells #[.slice G n C, .bool false] 123 (0, 0)))) (fun _ i _ => n - (intOf i).toNat)
  case atStart => exact ⟨0, Nat.zero_le _, rfl, hB2, Lib.hid (by rw [auP_zero]; exact hO2.out), hs2⟩
  case round =>
    obtain ⟨k, hk, rfl, hB, hM, hs⟩ := hrel
    by_cases hlt : k < n
    · obtain ⟨g, c', u, e, hgb, hgs, hc, hf, hou, hub⟩ := hM.out.row (auP_get rs b (i := k) (by rw [hok'.out.1]; exact hlt))
      simp only [Value.slice.injEq] at e
      obtain ⟨rfl, -, -⟩ := e
      obtain ⟨b0, off0, rfl, hbc⟩ := hb3.out k hlt
      have hbc' := (hB.out.cell (p := ⟨b0, off0 + k, none⟩) (World.block_lt_of_cell? w _ hbc)).trans hbc
      have hbcw := hbc
      have hsys : wr.cell? ⟨sb, 0, none⟩ = some (.slice (some ⟨g, 0, none⟩) n C) := by simp [World.cell?, hs.out]
      have hm1 : (rs.getD k []).length = m := hok'.out.row hlt
      have hou2 := hou
      unfold OwnI at hou2
      rw [hm1] at hou2
      have hsbg : sb ≠ g := fun e => by
        obtain ⟨vs, h1, _⟩ := hM.out
        exact own_type h1 hs.out (by decide) (by rw [e]; rfl)
      have hsbu : some sb ≠ u.ownBlock := fun e => own_type hou2 hs.out (by decide) e.symm
      obtain ⟨A5, c5, rfl⟩ := own_form hou2
      replace hou := Lib.hid hou
      replace hou2 := Lib.hid hou2
      have k1 : (k : Int) < (n : Int) := by omega
      have k0 : (0 : Int) ≤ (k : Int) := by omega
      generalize hbv : b.getD k 0 = x at hbc'
      replace hbv := Lib.hid hbv
      go_wp2
      refine D_begin (fun w' => w'.cell? ⟨sb, 0, none⟩ = some (.slice (some ⟨g, 0, none⟩) n C) ∧ w'.cell? ⟨b0, off0 + k, none⟩ = some (.int .i64 x)) (fun w' => w'.cell? ⟨g, k, none⟩ = some (.slice A5 m c5)) 15 (by kernel_rfl) ?_
      change wpAnyD _ _ _ _ _ _ _ _ _ _ wr.drew
      have HS : wr.drew.cell? ⟨sb, 0, none⟩ = some (.slice (some ⟨g, 0, none⟩) n C) ∧ wr.drew.cell? ⟨b0, off0 + k, none⟩ = some (.int .i64 x) := ⟨hsys, hbc'⟩
      have HT : wr.drew.cell? ⟨g, k, none⟩ = some (.slice A5 m c5) := hc
      simp only [List.size_toArray, List.length_cons, List.length_nil, Nat.reduceAdd, Array.replicate_succ, Array.replicate_zero, List.push_toArray, List.append_toArray, List.nil_append, List.cons_append]
      refine D_take (i := 0) (v := ?_) rfl (by kernel_rfl) (by kernel_rfl) (by kernel_rfl) (by kernel_rfl) (fun _ _ _ h => h) (Or.inl ⟨by rfl, ?_⟩) HS (fun _ => HT) ?_
      rotate_left; · intro w1 hw1; obtain ⟨hw1, hw2⟩ := hw1; go_simp; try with_reducible rfl
      try simp only [Act.put, List.setIfInBounds_toArray, List.set_cons_zero, List.set_cons_succ]
      refine D_take (i := 1) (v := ?_) rfl (by kernel_rfl) (by kernel_rfl) (by kernel_rfl) (by kernel_rfl) (fun _ _ _ h => h) (Or.inl ⟨by rfl, ?_⟩) HS (fun _ => HT) ?_
      rotate_left; · intro w1 hw1; obtain ⟨hw1, hw2⟩ := hw1; go_simp; try with_reducible rfl
      try simp only [Act.put, List.setIfInBounds_toArray, List.set_cons_zero, List.set_cons_succ]
      refine D_take (i := 2) (v := ?_) rfl (by kernel_rfl) (by kernel_rfl) (by kernel_rfl) (by kernel_rfl) (fun _ _ _ h => h) (Or.inl ⟨by rfl, ?_⟩) HS (fun _ => HT) ?_
      rotate_left; · intro w1 hw1; obtain ⟨hw1, hw2⟩ := hw1; go_simp; try with_reducible rfl
      try simp only [Act.put, List.setIfInBounds_toArray, List.set_cons_zero, List.set_cons_succ]
      refine D_take (i := 3) (v := ?_) rfl (by kernel_rfl) (by kernel_rfl) (by kernel_rfl) (by kernel_rfl) (fun _ _ _ h => h) (Or.inl ⟨by rfl, ?_⟩) HS (fun _ => HT) ?_
      rotate_left; · intro w1 hw1; obtain ⟨hw1, hw2⟩ := hw1; go_simp; try with_reducible rfl
      try simp only [Act.put, List.setIfInBounds_toArray, List.set_cons_zero, List.set_cons_succ]
      refine D_take (i := 4) (v := ?_) rfl (by kernel_rfl) (by kernel_rfl) (by kernel_rfl) (by kernel_rfl) (fun _ _ _ h => h) (Or.inl ⟨by rfl, ?_⟩) HS (fun _ => HT) ?_
      rotate_left; · intro w1 hw1; obtain ⟨hw1, hw2⟩ := hw1; go_simp; try with_reducible rfl
      try simp only [Act.put, List.setIfInBounds_toArray, List.set_cons_zero, List.set_cons_succ]
      refine D_take (i := 5) (v := ?_) rfl (by kernel_rfl) (by kernel_rfl) (by kernel_rfl) (by kernel_rfl) (fun _ _ _ h => h) (Or.inl ⟨by rfl, ?_⟩) HS (fun _ => HT) ?_
      rotate_left; · intro w1 hw1; obtain ⟨hw1, hw2⟩ := hw1; go_simp; try with_reducible rfl
      try simp only [Act.put, List.setIfInBounds_toArray, List.set_cons_zero, List.set_cons_succ]
      refine D_take (i := 6) (v := ?_) rfl (by kernel_rfl) (by kernel_rfl) (by kernel_rfl) (by kernel_rfl) (fun _ _ _ h => h) (Or.inl ⟨by rfl, ?_⟩) HS (fun _ => HT) ?_
      rotate_left; · intro w1 hw1; obtain ⟨hw1, hw2⟩ := hw1; go_simp; try with_reducible rfl
      try simp only [Act.put, List.setIfInBounds_toArray, List.set_cons_zero, List.set_cons_succ]
      refine D_load (i := 7) (v := ?_) rfl (by kernel_rfl) (by kernel_rfl) (by kernel_rfl) (by kernel_rfl) (by kernel_rfl) (by kernel_rfl) (fun _ _ _ h => h) (Or.inl ⟨by rfl, ?_⟩) HS HT ?_
      rotate_left; · intro w1 hw1; obtain ⟨⟨hw1, hw2⟩, hw3⟩ := hw1; go_simp; try with_reducible rfl
      try simp only [Act.put, List.setIfInBounds_toArray, List.set_cons_zero, List.set_cons_succ]
      refine D_take (i := 8) (v := ?_) rfl (by kernel_rfl) (by kernel_rfl) (by kernel_rfl) (by kernel_rfl) (fun _ _ _ h => h) (Or.inl ⟨by rfl, ?_⟩) HS (fun _ => HT) ?_
      rotate_left; · intro w1 hw1; obtain ⟨hw1, hw2⟩ := hw1; go_simp; try with_reducible rfl
      try simp only [Act.put, List.setIfInBounds_toArray, List.set_cons_zero, List.set_cons_succ]
      refine D_take (i := 9) (v := ?_) rfl (by kernel_rfl) (by kernel_rfl) (by kernel_rfl) (by kernel_rfl) (fun _ _ _ h => h) (Or.inl ⟨by rfl, ?_⟩) HS (fun _ => HT) ?_
      rotate_left; · intro w1 hw1; obtain ⟨hw1, hw2⟩ := hw1; go_simp; try with_reducible rfl
      try simp only [Act.put, List.setIfInBounds_toArray, List.set_cons_zero, List.set_cons_succ]
      refine D_take (i := 10) (v := ?_) rfl (by kernel_rfl) (by kernel_rfl) (by kernel_rfl) (by kernel_rfl) (fun _ _ _ h => h) (Or.inl ⟨by rfl, ?_⟩) HS (fun _ => HT) ?_
      rotate_left; · intro w1 hw1; obtain ⟨hw1, hw2⟩ := hw1; go_simp; try with_reducible rfl
      try simp only [Act.put, List.setIfInBounds_toArray, List.set_cons_zero, List.set_cons_succ]
      refine D_take (i := 11) (v := ?_) rfl (by kernel_rfl) (by kernel_rfl) (by kernel_rfl) (by kernel_rfl) (fun _ _ _ h => h) (Or.inl ⟨by rfl, ?_⟩) HS (fun _ => HT) ?_
      rotate_left; · intro w1 hw1; obtain ⟨hw1, hw2⟩ := hw1; go_simp; try with_reducible rfl
      try simp only [Act.put, List.setIfInBounds_toArray, List.set_cons_zero, List.set_cons_succ]
      refine D_one (i := 12) (by kernel_rfl) rfl ?_
      intro K hK
      rw [if_pos (by rfl)]
      go_simp
      have hbX : Below wr.heap.size wr (wr.alloc (.cells #[.int .i64 x] 3)).drew := ((Below.refl _ _).alloc (Nat.le_refl _) _).drew
      have HS1 := And.intro ((hbX.cell (p := ⟨sb, 0, none⟩) (World.block_lt_of_cell? wr _ hsys)).trans hsys) ((hbX.cell (p := ⟨b0, off0 + k, none⟩) (World.block_lt_of_cell? wr _ hbc')).trans hbc')
      have HT1 := (hbX.cell (p := ⟨g, k, none⟩) (World.block_lt_of_cell? wr _ hc)).trans hc
      have HF1 := (hbX.frozen (p := ⟨g, k, none⟩) (World.block_lt_of_cell? wr _ hc)).trans hf
      refine hK _ _ HS1 (fun _ _ => HT1) ?_
      try simp only [List.setIfInBounds_toArray, List.set_cons_zero, List.set_cons_succ]
      clear hK K
      refine D_one (i := 13) (by kernel_rfl) rfl ?_
      intro K hK
      refine step_append_lies _ (by rfl) _ _ _ (by rfl) w.heap.size 3 i0 _ 1 8 Tryd.underlying23 hi0 hz0 hz1 hz2 rfl (by omega) (.slice A5 m c5) m (ints (rs.getD k [])) (by rfl) (own_below hou2.out hbX) ⟨wr.heap.size, 0, none⟩ 1 1 [.int .i64 x] (by rfl) (by rfl) (World.news_of_block (cs := #[.int .i64 x]) (t := 3) (fr := (0, 0)) (heap_alloc_new wr _)) (by simp [Value.oneCell']) (by omega) (by unfold maxLen; omega) (by omega) (by have := hB.out.size; simp; omega) (wr.heap.size + 1) (by simp) ?_
      intro gg cap w1 hown1 hgrow hat hlt1
      have hgb' : g < ((wr.alloc (.cells #[.int .i64 x] 3)).drew).heap.size := by simp; omega
      have HT2 := (hgrow.cell_far ⟨g, k, none⟩ hgb' (Ne.symm hub)).trans HT1
      have HF2 := (hgrow.frozen_far ⟨g, k, none⟩ hgb' (Ne.symm hub)).trans HF1
      have hslt : sb < wr.heap.size := World.block_lt_of_cell? wr _ hsys
      have hb0w : b0 < w.heap.size := World.block_lt_of_cell? w _ hbcw
      have hb0r : b0 < wr.heap.size := World.block_lt_of_cell? wr _ hbc'
      have hbu : some b0 ≠ (Value.slice A5 m c5).ownBlock := fun e => by have := (hou2.out.lt b0 e.symm).1; omega
      have HS2 := And.intro ((hgrow.cell_far ⟨sb, 0, none⟩ (by simp; omega) hsbu).trans HS1.1) ((hgrow.cell_far ⟨b0, off0 + k, none⟩ (by simp; omega) hbu).trans HS1.2)
      refine hK _ _ HS2 (fun _ _ => HT2) ?_
      try simp only [Act.put, List.setIfInBounds_toArray, List.set_cons_zero, List.set_cons_succ]
      clear hK K
      refine D_take (i := 14) (v := ?_) rfl (by kernel_rfl) (by kernel_rfl) (by kernel_rfl) (by kernel_rfl) (fun _ _ _ h => h) (Or.inl ⟨by rfl, ?_⟩) HS2 (fun _ => HT2) ?_
      rotate_left; · intro w1 hw1; obtain ⟨hw1, hw2⟩ := hw1; go_simp; try with_reducible rfl
      try simp only [Act.put, List.setIfInBounds_toArray, List.set_cons_zero, List.set_cons_succ]
      refine D_one (i := 15) (by kernel_rfl) rfl ?_
      intro K hK
      rw [if_pos (by rfl)]
      go_simp
      have hgw : b0 ≠ g := by omega
      refine hK _ _ ⟨(World.cell?_of_block (w := w1) (a := ⟨sb, 0, none⟩) (Below.heap_setCell _ _ _ _ hsbg)).trans HS2.1, (World.cell?_of_block (w := w1) (a := ⟨b0, off0 + k, none⟩) (Below.heap_setCell _ _ _ _ hgw)).trans HS2.2⟩ (fun h _ => absurd rfl h) ?_
      clear hK K
      refine D_done (by kernel_rfl) ?_ _
      have hM1 := (hM.out.below hbX).upd (auP_get rs b (i := k) (by rw [hok'.out.1]; exact hlt)) HT1 hgrow (v' := .slice (some ⟨gg, 0, none⟩) (m + 1) cap) (r' := rs.getD k [] ++ [b.getD k 0]) (by
        unfold OwnI
        rw [List.length_append, hm1, ints_append, hbv.out]
        exact hown1) (by
        rcases hat with h | h
        · exact .inr (.inl h.symm)
        · exact .inr (.inr ⟨gg, rfl, by simp; omega⟩))
      rw [auP_set] at hM1
      have hB3 : Below w.heap.size w (w1.setCell ⟨g, k, none⟩ (.slice (some ⟨gg, 0, none⟩) (m + 1) cap)) :=
        ((Below.then_ hB.out hbX).grown hgrow (by have := hB.out.size; simp; omega) (fun j hj => (hou2.out.lt j hj).1)).setCell hgb _
      have hs3 : (w1.setCell ⟨g, k, none⟩ (.slice (some ⟨gg, 0, none⟩) (m + 1) cap)).heap[sb]? = some (.cells #[.slice (some ⟨g, 0, none⟩) n C, .bool false] 123 (0, 0)) := by
        rw [Below.heap_setCell _ _ _ _ hsbg, hgrow.block sb (by simp; omega) hsbu, hbX.block sb hslt]
        exact hs.out
      replace hM1 := Lib.hid hM1
      replace hB3 := Lib.hid hB3
      replace hs3 := Lib.hid hs3
      clear HS HT HS1 HT1 HF1 HS2 HT2 HF2 hown1 hgrow hat
      go_wp2
      go_roundw
      case rel => exact ⟨k + 1, by omega, by go_num, hB3, hM1, hs3⟩
      case measure => simp [intOf]; omega
    · obtain rfl : n = k := by omega
      have hM' : OwnM wr w.heap.size (.slice G n C) (augM rs b) := by rw [← auP_end, hok'.out.1]; exact hM.out
      have hka : Hid (okM (augM rs b) n (m + 1)) := Lib.hid (okM_aug hok'.out hbr.out hbl2.out)
      obtain ⟨vs, hV⟩ := hM'.v
      replace hV := Lib.hid hV
      have hnum := Lib.hid (numbers_any m wr (by omega))
      clear hM hM' hO2 hs2 hB2
      go_wp2_with fail
      refine hnum.out.mono ?_; rintro e W2 ⟨rfl, hn2, hb2⟩
      have hrev := Lib.hid (Reverse_any _ m wr.heap.size wr.heap.size m W2 hn2 (by omega))
      go_wp2_with fail
      refine hrev.out.mono ?_; rintro e W3 ⟨rfl, hn3, hk3⟩
      rw [natI_rev] at hn3
      have hb3 : Below wr.heap.size wr W3 := hb2.trans (hk3.below hb2.size (fun u hu k hk => by
        rw [List.mem_singleton.1 hu] at hk; simp [Value.ownBlock] at hk; omega))
      obtain ⟨_, cur, hcur⟩ := hn3.block
      have hV3 := hV.out.kept hb3
      have hsv := solve_any (augM rs b) (List.range m).reverse n (m + 1) sb wr.heap.size w.heap.size (.slice G n C) false cur m vs W3 hV3 hka.out (by omega) (by omega) (by simp; omega) (fun k hk => by have := List.mem_range.1 (List.mem_reverse.1 hk); omega)
        ((hb3.block sb (lt_of_block hs.out)).trans hs.out) hsb hcur (fun u hu e => by have := (hV.out.ge u hu _ e).2; omega) (fun j k hj => by
          have hj' := (List.getElem?_eq_some_iff.1 hj).1
          have := (hn3.num (k := j) (by simpa [natI] using hj')).1
          rw [this, natI, List.getD_eq_getElem?_getD, List.getElem?_map, hj]; rfl)
      rw [show (List.range m).reverse.length = m from by simp] at hsv
      have hcbl : wr.heap.size < W3.heap.size := lt_of_block hcur
      have hpv := solveS_piv (augM rs b) (List.range m).reverse false
      have hX0 : Hid (sysM rs b m = solveS (augM rs b) (List.range m).reverse false) := Lib.hid rfl
      generalize solveS (augM rs b) (List.range m).reverse false = S at hsv hpv hX0
      replace hpv := Lib.hid hpv
      replace hsv := Lib.hid hsv
      have hB3 := Lib.hid (hB.out.trans (hb3.mono hB.out.size))
      clear hnum hrev hn2 hk3 hb2 hcur hn3 hV3 hb3
      go_wp2_with fail
      refine hsv.out.mono ?_; rintro e W4 ⟨lv, rfl, hI⟩
      obtain ⟨A6, c6, rfl⟩ := own_form hI.piv
      have hI4 := Lib.hid hI
      have hb5 : Below W4.heap.size W4 (W4.alloc (.cells (madeCells #[.int .i64 0] m) 3)) := (Below.refl _ _).alloc (Nat.le_refl _) _
      have hx5 := OwnI_made W4 W4.heap.size m (Nat.le_refl _) (by unfold maxLen; omega)
      have hB4 : Below w.heap.size w W4 := hB3.out.trans hI.below
      have hfew := hI.few
      replace hx5 := Lib.hid hx5
      replace hb5 := Lib.hid hb5
      have hcb4 : Hid (wr.heap.size < W4.heap.size) := Lib.hid (Nat.lt_of_lt_of_le hcbl hI.below.size)
      replace hB4 := Lib.hid hB4
      generalize hL : S.piv.length = L at hfew ⊢
      replace hL := Lib.hid hL
      clear hI hsv
      go_wp2
      generalize W4.alloc (.cells (madeCells #[.int .i64 0] m) 3) = W5 at hx5 hb5 ⊢
      obtain ⟨wo, rfl⟩ : ∃ wo : World, wo = wr := ⟨_, rfl⟩
      go_loopw [15, 56] (fun _ i wr => ∃ k : Nat, k ≤ L ∧ i = .int .i64 k ∧ Hid (Below W4.heap.size W4 wr) ∧ Hid (OwnI wr W4.heap.size (.slice (some ⟨W4.heap.size, 0, none⟩) m m) (xP S m k))) (fun _ i _ => L - (intOf i).toNat)
      case atStart => exact ⟨0, Nat.zero_le _, rfl, hb5, hx5⟩
      case round =>
        obtain ⟨i, hi, rfl, hbw, hx⟩ := hrel
        have hI5 := Lib.hid (hI4.out.kept hbw.out hB4.out.size hcb4.out)
        by_cases hil : i < L
        · obtain ⟨p, hp⟩ : ∃ p, S.piv[i]? = some p := ⟨_, List.getElem?_eq_getElem (by rw [hL.out]; exact hil)⟩
          obtain ⟨gl, cl, e, hgl1, hgl2⟩ := hI5.out.piv.form (by rw [hL.out]; omega)
          simp only [Value.slice.injEq] at e
          obtain ⟨rfl, -, -⟩ := e
          have hpc := pivCells_get hp
          have c1 := hI5.out.piv.cellAt (i * 2) (by rw [hL.out]; omega)
          have c2 := hI5.out.piv.cellAt (i * 2 + 1) (by rw [hL.out]; omega)
          rw [hpc.1] at c1
          rw [hpc.2] at c2
          replace hp := Lib.hid hp
          have i1 : (i : Int) < (L : Int) := by omega
          have i0 : (0 : Int) ≤ (i : Int) := by omega
          clear hpc
          have hpp := hpv.out p (List.mem_of_getElem? hp.out)
          rw [hL.out] at hpp
          have hp2 : p.2 < m := by have := List.mem_range.1 (List.mem_reverse.1 hpp.2); omega
          have hp1 : p.1 < n := by omega
          obtain ⟨vs6, hV6, _⟩ := hI5.out.mem
          obtain ⟨u6, hu6⟩ : ∃ u, vs6[p.1]? = some u := ⟨_, List.getElem?_eq_getElem (by rw [hV6.len, hI5.out.ok.1]; exact hp1)⟩
          have hr6 : S.rows[p.1]? = some (S.rows.getD p.1 []) := by rw [List.getD_eq_getElem?_getD, List.getElem?_eq_getElem (by rw [hI5.out.ok.1]; exact hp1)]; rfl
          obtain ⟨g6, c6', e, -, -, hcu, -⟩ := hV6.at_ hr6 hu6
          simp only [Value.slice.injEq] at e
          obtain ⟨rfl, -, -⟩ := e
          obtain ⟨g7, c7, rfl, -, -, hcn, -⟩ := hV6.num hr6 hu6 (k := m) (by rw [hI5.out.ok.row hp1]; omega)
          rw [hI5.out.ok.row hp1] at hcu
          change wr.cell? _ = some (.int .i64 (gM S.rows p.1 m)) at hcn
          have hsys : wr.cell? ⟨sb, 0, none⟩ = some (.slice (some ⟨g6, 0, none⟩) n C) := by simp [World.cell?, hI5.out.sys]
          obtain ⟨hxc, hxf⟩ := hx.out.num (k := p.2) (by rw [xP_len]; exact hp2)
          have hb6 : Below wr.heap.size wr (wr.alloc (.cells #[.int .i64 p.1, .int .i64 p.2] 132)) := (Below.refl _ _).alloc (Nat.le_refl _) _
          have d0 : (wr.alloc (.cells #[.int .i64 p.1, .int .i64 p.2] 132)).cell? ⟨wr.heap.size, 0, none⟩ = some (.int .i64 p.1) := by simp only [World.cell?, heap_alloc_new]; rfl
          have d1 : (wr.alloc (.cells #[.int .i64 p.1, .int .i64 p.2] 132)).cell? ⟨wr.heap.size, 1, none⟩ = some (.int .i64 p.2) := by simp only [World.cell?, heap_alloc_new]; rfl
          have d2 := (hb6.cell (p := ⟨sb, 0, none⟩) (World.block_lt_of_cell? wr _ hsys)).trans hsys
          have d3 := (hb6.cell (p := ⟨g6, p.1, none⟩) (World.block_lt_of_cell? wr _ hcu)).trans hcu
          have d4 := (hb6.cell (p := ⟨g7, m, none⟩) (World.block_lt_of_cell? wr _ hcn)).trans hcn
          have d5 := (hb6.cell (p := ⟨W4.heap.size, p.2, none⟩) (World.block_lt_of_cell? wr _ hxc)).trans hxc
          have d6 := (hb6.frozen (p := ⟨W4.heap.size, p.2, none⟩) (World.block_lt_of_cell? wr _ hxc)).trans hxf
          have hfin := Lib.hid (((hx.out.below hb6).put p.2 (gM S.rows p.1 m)))
          rw [← xP_succ S m hp.out] at hfin
          have hbf := Lib.hid ((hbw.out.trans (hb6.mono hbw.out.size)).setCell (p := ⟨W4.heap.size, p.2, none⟩) (Nat.le_refl _) (.int .i64 (gM S.rows p.1 m)))
          clear hcu hcn hsys hxc hxf hpp
          generalize (xP S m i).getD p.2 0 = x0 at d5
          generalize gM S.rows p.1 m = y at d4 hfin hbf
          obtain ⟨pr, pc⟩ := p
          replace hp1 : pr < n := hp1
          replace hp2 : pc < m := hp2
          have j1 : (pr : Int) < (n : Int) := by omega
          have j0 : (0 : Int) ≤ (pr : Int) := by omega
          have j3 : (pc : Int) < (m : Int) := by omega
          have j2 : (0 : Int) ≤ (pc : Int) := by omega
          have j5 : (m : Int) < (m : Int) + 1 := by omega
          have j4 : (0 : Int) ≤ (m : Int) := by omega
          go_wp2
          generalize wr.alloc (.cells #[.int .i64 pr, .int .i64 pc] 132) = W6 at d0 d1 d2 d3 d4 d5 d6 hfin hbf ⊢
          go_still_tail 13, (by kernel_rfl)
          change wpList _ _ _ _ _ W6.drew
          go_wp2
          go_roundw
          case rel => exact ⟨i + 1, by omega, by go_num, Lib.hid hbf.out.drew, Lib.hid (hfin.out.below (Below.refl _ _).drew)⟩
          case measure => simp [intOf]; omega
        · obtain rfl : L = i := by omega
          have hxf : Hid (OwnI wr W4.heap.size (.slice (some ⟨W4.heap.size, 0, none⟩) m m) (fillX S m)) := Lib.hid (by
            have := hx.out
            rwa [xP, ← hL.out, List.take_length] at this)
          obtain ⟨vs6, hV6, _⟩ := hI5.out.mem
          replace hV6 := Lib.hid hV6
          have hsys : wr.cell? ⟨sb, 0, none⟩ = some (.slice G n C) := by simp [World.cell?, hI5.out.sys]
          have hBE : Hid (Below w.heap.size w wr) := Lib.hid (hB4.out.trans (hbw.out.mono hB4.out.size))
          have hW4 : w.heap.size ≤ W4.heap.size := hB4.out.size
          obtain ⟨g, hGg⟩ : ∃ g, G = some ⟨g, 0, none⟩ ∨ (G = none ∧ C = 0) := by
            rcases hV6.out.outer.2 with ⟨e, e2⟩ | ⟨g, cap, cur, e, _⟩
            · simp only [Value.slice.injEq] at e
              exact ⟨0, .inr ⟨e.1, e.2.2⟩⟩
            · simp only [Value.slice.injEq] at e
              exact ⟨g, .inl e.1⟩
          have hnC : n ≤ C := by
            rcases hV6.out.outer.2 with ⟨e, e2⟩ | ⟨g, cap, cur, e, _, _, h, _⟩
            · rw [hI5.out.ok.1] at e2; omega
            · simp only [Value.slice.injEq] at e
              rw [hI5.out.ok.1] at h; omega
          clear hx
          have hrl : Hid (S.rows.length = n) := Lib.hid hI5.out.ok.1
          by_cases hCL : C = L
          · subst hCL
            have hres : Hid (solvedM rs b m = some (fillX S m)) := Lib.hid (solvedM_some hX0.out hrl.out hL.out (fun i h1 h2 => by omega))
            obtain rfl : n = C := by omega
            go_wp2
            refine wp_loop_rounds 1 ?_
            rw [rounds_succ]
            go_wp2
            go_ret2
            rw [hres.out]
            exact ⟨⟨_, rfl, hxf.out.base hW4⟩, hBE.out⟩
          · rcases hGg with rfl | ⟨_, h0⟩
            · have l1 : (L : Int) < (C : Int) := by omega
              go_wp2
              go_loop [17, 80] (fun _ i => ∃ k : Nat, k ≤ n - L ∧ i = .int .i64 k ∧ Hid (∀ j, L ≤ j → j < L + k → gM S.rows j m = 0)) (fun _ i => n - L - (intOf i).toNat)
              case atStart => exact ⟨0, Nat.zero_le _, rfl, Lib.hid (fun j h1 h2 => by omega)⟩
              case round =>
                obtain ⟨k, hk, rfl, hz⟩ := hrel
                by_cases hkl : k < n - L
                · obtain ⟨u8, hu8⟩ : ∃ u, vs6[L + k]? = some u := ⟨_, List.getElem?_eq_getElem (by rw [hV6.out.len, hrl.out]; omega)⟩
                  have hr8 : S.rows[L + k]? = some (S.rows.getD (L + k) []) := by rw [List.getD_eq_getElem?_getD, List.getElem?_eq_getElem (by rw [hrl.out]; omega)]; rfl
                  obtain ⟨g6, c6', e, -, -, hcu, -⟩ := hV6.out.at_ hr8 hu8
                  simp only [Value.slice.injEq, Option.some.injEq, Addr.mk.injEq, and_true] at e
                  obtain ⟨rfl, -, -⟩ := e
                  obtain ⟨g7, c7, rfl, -, -, hcn, -⟩ := hV6.out.num hr8 hu8 (k := m) (by rw [hI5.out.ok.row (by omega)]; omega)
                  rw [hI5.out.ok.row (show L + k < n by omega)] at hcu
                  change wr.cell? _ = some (.int .i64 (gM S.rows (L + k) m)) at hcn
                  replace hu8 := Lib.hid hu8
                  replace hr8 := Lib.hid hr8
                  have j5 : (m : Int) < (m : Int) + 1 := by omega
                  have j4 : (0 : Int) ≤ (m : Int) := by omega
                  have j1 : (k : Int) < ((n - L : Nat) : Int) := by omega
                  have j0 : (0 : Int) ≤ (k : Int) := by omega
                  by_cases hne : gM S.rows (L + k) m = 0
                  · rw [hne] at hcn
                    replace hne := Lib.hid hne
                    go_wp2
                    go_round
                    case rel => exact ⟨k + 1, by omega, by go_num, Lib.hid (fun j h1 h2 => by
                      by_cases e : j = L + k
                      · rw [e]; exact hne.out
                      · exact hz.out j h1 (by omega))⟩
                    case measure => simp [intOf]; omega
                  · have hne' : (gM S.rows (L + k) m != 0) = true := by rw [bne_iff_ne]; exact hne
                    have hres : Hid (solvedM rs b m = none) := Lib.hid (solvedM_none hX0.out hrl.out hL.out (show L ≤ L + k by omega) (by omega) hne)
                    replace hne := Lib.hid hne
                    go_wp2
                    go_ret2
                    rw [hres.out]
                    exact ⟨⟨_, rfl, OwnI_nil _ _⟩, hBE.out⟩
                · have hres : Hid (solvedM rs b m = some (fillX S m)) := Lib.hid (solvedM_some hX0.out hrl.out hL.out (fun i h1 h2 => hz.out i h1 (by omega)))
                  obtain rfl : k = n - L := by omega
                  go_wp2
                  go_ret2
                  rw [hres.out]
                  exact ⟨⟨_, rfl, hxf.out.base hW4⟩, hBE.out⟩
            · omega
end Go.Proofs.YtfljkcmijnhgkaaDoor
