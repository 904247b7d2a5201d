/- solved made, and what it makes. identity, product, raised The library's functions on slices that take a function 'is', Check, square; great, residues, shaped square, Mul, Power Ranks do not depend on the order of the columns; the program's determinant is the one by the first column; determinants of products. Systems Spans that are made row by row, as layer 17 makes them Whether a row is a sum of others Rules Right, Term The plain functions of the rest of layer 16 slices.Equal at []int Rows that may be cleared; what is outside some blocks is kept. Inverse From -/
import Derived.Test.YtlpldfocljnpnaaDoorKab
import Derived.Test.YtlpldfocljnpnaaDoorKaa
import Derived.Shelf.Abstract
import Derived.Deep.RegionHeld3
import Derived.Deep.RegionLaw
import Derived.Deep.OwnRows
import Derived.StillTailTactics
import Derived.Test.YtlpldfocljnpnaaDoorProg
import Derived.Deep.MidRow
import Derived.Lib.SliceRun
import Derived.Lib.EndianMore
import Derived.Laws.Rows
set_option maxRecDepth 100000
set_option maxHeartbeats 6400000
set_option linter.unusedSimpArgs false
namespace Go.Proofs.YtlpldfocljnpnaaDoor
open Go.RowKit
def auP (rs : List (List Int)) (b : List Int) (i : Nat) : List (List Int) := (List.range rs.length).map fun j => if j < i then rs.getD j [] ++ [b.getD j 0] else rs.getD j []
theorem auP_zero (rs : List (List Int)) (b : List Int) : auP rs b 0 = rs := by
 apply List.ext_getElem (by simp [auP])
 intro j h1 h2
 simp [auP, List.getD_eq_getElem?_getD, h2]
theorem auP_end (rs : List (List Int)) (b : List Int) : auP rs b rs.length = augM rs b := by
 apply List.map_congr_left; intro j hj
 rw [if_pos (by simpa using hj)]
theorem auP_get (rs : List (List Int)) (b : List Int) {i : Nat} (hi : i < rs.length) : (auP rs b i)[i]? = some (rs.getD i []) := by
 rw [auP, List.getElem?_map, List.getElem?_range hi, Option.map_some, if_neg (by omega)]
theorem auP_set (rs : List (List Int)) (b : List Int) (i : Nat) : (auP rs b i).set i (rs.getD i [] ++ [b.getD i 0]) = auP rs b (i + 1) := by
 apply List.ext_getElem (by simp [auP])
 intro j h1 h2
 rw [List.getElem_set]
 simp only [auP, List.getElem_map, List.getElem_range]
 by_cases e : i = j
 ·subst e; rw [if_pos rfl, if_pos (by omega)]
 ·rw [if_neg e]
  by_cases h : j < i
  ·rw [if_pos h, if_pos (by omega)]
  ·rw [if_neg h, if_neg (by omega)]
theorem okM_aug {rs : List (List Int)} {b : List Int} {n m : Nat} (h : okM rs n m) (hb : ∀ x ∈ b, 0 ≤ x ∧ x < 65521) (hl : b.length = n) : okM (augM rs b) n (m + 1) := by
 refine ⟨by simp [augM, h.1], fun r hr => ?_⟩
 obtain ⟨i, hi, rfl⟩ := List.mem_map.1 hr
 have hi' : i < n := by have := List.mem_range.1 hi; rw [h.1] at this; exact this
 refine ⟨by rw [List.length_append, h.row hi']; rfl, fun x hx => ?_⟩
 rcases List.mem_append.1 hx with hx | hx
 ·have : rs.getD i [] ∈ rs := by
   rw [List.getD_eq_getElem?_getD, List.getElem?_eq_getElem (by rw [h.1]; exact hi')]
   exact List.getElem_mem _
  exact (h.2 _ this).2 x hx
 ·rw [List.mem_singleton.1 hx, List.getD_eq_getElem?_getD, List.getElem?_eq_getElem (by omega)]
  exact hb _ (List.getElem_mem _)
theorem SolveInv.kept {w wr w2 : World} {base sb cb n m : Nat} {v lv : Value} {s : Sys} (h : SolveInv w wr base sb cb n m v lv s) (hb : Below wr.heap.size wr w2) (hbw : base ≤ wr.heap.size) (hcb : cb < wr.heap.size) : SolveInv w w2 base sb cb n m v lv s := by
 obtain ⟨vs, h1, h2⟩ := h.mem
 exact ⟨h.ok, h.few, h.det, ⟨vs, h1.kept hb, h2⟩, (hb.block sb (lt_of_block h.sys)).trans h.sys, own_below h.piv hb, (hb.block cb hcb).trans h.cols, h.below.trans (hb.mono hbw)⟩
def xP (s : Sys) (m i : Nat) : List Int := (s.piv.take i).foldl (fun x p => x.set p.2 (gM s.rows p.1 m)) (List.replicate m 0)
theorem xP_len (s : Sys) (m i : Nat) : (xP s m i).length = m := by
 unfold xP
 have : ∀ (l : List (Nat × Nat)) (x : List Int), (l.foldl (fun x p => x.set p.2 (gM s.rows p.1 m)) x).length = x.length := by
  intro l
  induction l with
  | nil => intro x; rfl
  | cons p l ih => intro x; rw [List.foldl_cons, ih]; simp
 rw [this]; simp
theorem xP_succ (s : Sys) (m : Nat) {i : Nat} {p : Nat × Nat} (hp : s.piv[i]? = some p) : xP s m (i + 1) = (xP s m i).set p.2 (gM s.rows p.1 m) := by
 unfold xP
 rw [List.take_add_one, hp, List.foldl_append]; rfl
theorem pivCells_get {l : List (Nat × Nat)} {i : Nat} {p : Nat × Nat} (h : l[i]? = some p) : (pivCells l)[i * 2]? = some (.int .i64 p.1) ∧ (pivCells l)[i * 2 + 1]? = some (.int .i64 p.2) := by
 induction l generalizing i with
 | nil => cases h
 | cons q l ih =>
  cases i with
  | zero =>
   simp only [List.getElem?_cons_zero, Option.some.injEq] at h
   subst h
   exact ⟨rfl, rfl⟩
  | succ i =>
   have h' : l[i]? = some p := by simpa using h
   have := ih h'
   have e : pivCells (q :: l) = .int .i64 q.1 :: .int .i64 q.2 :: pivCells l := by simp [pivCells]
   rw [e, show (i + 1) * 2 = i * 2 + 2 from by omega]
   exact ⟨by simpa using this.1, by simpa using this.2⟩
theorem solvedM_some {rs : List (List Int)} {b : List Int} {m n L : Nat} {S : Sys} (h : sysM rs b m = S) (hn : S.rows.length = n) (hL : S.piv.length = L) (hz : ∀ i, L ≤ i → i < n → gM S.rows i m = 0) : solvedM rs b m = some (fillX S m) := by
 have : restOk S m = true := by
  unfold restOk
  rw [List.all_eq_true, hn, hL]
  intro i hi
  have hi := List.mem_range.1 hi
  by_cases h : i < L
  ·simp [h]
  ·simp [hz i (by omega) hi]
 rw [solvedM, h, if_pos this]
theorem solvedM_none {rs : List (List Int)} {b : List Int} {m n L i : Nat} {S : Sys} (h : sysM rs b m = S) (hn : S.rows.length = n) (hL : S.piv.length = L) (h1 : L ≤ i) (h2 : i < n) (hz : gM S.rows i m ≠ 0) : solvedM rs b m = none := by
 have : restOk S m = false := by
  rw [← Bool.not_eq_true]
  intro h3
  unfold restOk at h3
  rw [List.all_eq_true, hn, hL] at h3
  have := h3 i (List.mem_range.2 h2)
  simp at this
  omega
 rw [solvedM, h, if_neg (by simp [this])]
theorem natI_rev (l : List Nat) : (natI l).reverse = natI l.reverse := by simp [natI]
theorem stepS_piv {cols : List Nat} {s : Sys} {k : Nat} (hk : k ∈ cols) (h : ∀ p ∈ s.piv, p.1 < s.piv.length ∧ p.2 ∈ cols) : ∀ p ∈ (stepS s k).piv, p.1 < (stepS s k).piv.length ∧ p.2 ∈ cols := by
 unfold stepS
 split
 ·exact h
 ·intro p hp
  simp only [pivS, List.mem_append, List.mem_singleton, List.length_append, List.length_singleton] at hp ⊢
  rcases hp with hp | rfl
  ·exact ⟨by have := (h p hp).1; omega, (h p hp).2⟩
  ·exact ⟨by simp, hk⟩
theorem foldS_piv {cols : List Nat} : ∀ (l : List Nat) (s : Sys), (∀ k ∈ l, k ∈ cols) → (∀ p ∈ s.piv, p.1 < s.piv.length ∧ p.2 ∈ cols) → ∀ p ∈ (l.foldl stepS s).piv, p.1 < (l.foldl stepS s).piv.length ∧ p.2 ∈ cols
 | [], _, _, h => h
 | k :: l, s, hl, h => foldS_piv l (stepS s k) (fun x hx => hl x (List.mem_cons_of_mem _ hx)) (stepS_piv (hl k List.mem_cons_self) h)
theorem solveS_piv (rs : List (List Int)) (cols : List Nat) (t : Bool) : ∀ p ∈ (solveS rs cols t).piv, p.1 < (solveS rs cols t).piv.length ∧ p.2 ∈ cols :=
 foldS_piv cols _ (fun _ h => h) (fun _ h => by cases h)
theorem solved_any (rs : List (List Int)) (b : List Int) (n m : Nat) (va vb : Value) (w : World) (hok : okM rs n m) (hn : n ≤ 900) (hm : m ≤ 900) (hbl : b.length = n) (hbr : ∀ x ∈ b, 0 ≤ x ∧ x < 65521)
  (ra : RdM w va rs) (rb : RdI w vb b) :
  Calls Tryd.prog 133 #[va, vb, .int .i64 m] w fun e w' =>
   (∃ v, e = .returned (.tuple #[v, .bool (solvedM rs b m).isSome]) ∧ OwnI w' w.heap.size v ((solvedM rs b m).getD [])) ∧ Below w.heap.size w w' := by
 have hcp := Lib.hid (copied_any rs va w ra (by rw [hok.1]; omega) (fun r hr => by have := (hok.2 r hr).1; omega))
 obtain ⟨i0, hi0, hz0, hz1, hz2⟩ := info_parts infoI
 have hmk := run_make_row' (P := Tryd.prog) 22 3 _ _ Tryd.underlying22 infoI rfl .i64 .i64 m (by omega) (by omega)
 obtain ⟨B, cb, rfl, hb1, hb2, hb3⟩ := rb.open_
 have hbl2 := Lib.hid hbl
 rw [hbl] at hb1 hb2 hb3 ⊢
 replace hb3 := Lib.hid hb3
 have hok' := Lib.hid hok
 replace hbr := Lib.hid hbr
 clear ra rb hok hbl
 go_enter Tryd.func133, Tryd.ntmps133
 go_wp2_with fail
 refine hcp.out.mono ?_; rintro e W1 ⟨⟨v, rfl, hO⟩, hB1⟩
 clear hcp
 obtain ⟨G, C, rfl⟩ : ∃ G C, v = .slice G n C := by obtain ⟨vs, h1, _⟩ := hO; rw [hok'.out.1] at h1; exact own_form h1
 replace hO := Lib.hid hO
 go_wp2
 have hbx : Below W1.heap.size W1 (W1.alloc (.cells #[.slice G n C, .bool false] 152)) := (Below.refl _ _).alloc (Nat.le_refl _) _
 have hO2 := Lib.hid (hO.out.below hbx)
 have hs2 : (W1.alloc (.cells #[.slice G n C, .bool false] 152)).heap[W1.heap.size]? = some (.cells #[.slice G n C, .bool false] 152 (0, 0)) := heap_alloc_new _ _
 have hB2 := Lib.hid (Below.then_ hB1 hbx)
 have hsb : w.heap.size ≤ W1.heap.size := hB1.size
 replace hs2 := Lib.hid hs2
 generalize W1.alloc (.cells #[.slice G n C, .bool false] 152) = X at hO2 hs2 hB2 ⊢
 generalize W1.heap.size = sb at hs2 hsb ⊢
 clear hbx hB1 hO
 go_loopw [9, 24] (fun _ i wr => ∃ k : Nat, k ≤ n ∧ i = .int .i64 k ∧ Hid (Below w.heap.size w wr) ∧ Hid (OwnM wr w.heap.size (.slice G n C) (auP rs b k)) ∧ Hid (wr.heap[sb]? = some (.cells #[.slice G n C, .bool false] 152 (0, 0)))) (fun _ i _ => n - (intOf i).toNat)
 case atStart => exact ⟨0, Nat.zero_le _, rfl, hB2, Lib.hid (by rw [auP_zero]; exact hO2.out), hs2⟩
 case round =>
  obtain ⟨k, hk, rfl, hB, hM, hs⟩ := hrel
  by_cases hlt : k < n
  ·obtain ⟨g, c', u, e, hgb, hgs, hc, hf, hou, hub⟩ := hM.out.row (auP_get rs b (i := k) (by rw [hok'.out.1]; exact hlt))
   simp only [Value.slice.injEq] at e
   obtain ⟨rfl, -, -⟩ := e
   obtain ⟨b0, off0, rfl, hbc⟩ := hb3.out k hlt
   have hbc' := (hB.out.cell (p := ⟨b0, off0 + k, none⟩) (World.block_lt_of_cell? w _ hbc)).trans hbc
   have hbcw := hbc
   have hsys : wr.cell? ⟨sb, 0, none⟩ = some (.slice (some ⟨g, 0, none⟩) n C) := by simp [World.cell?, hs.out]
   have hm1 : (rs.getD k []).length = m := hok'.out.row hlt
   have hou2 := hou
   unfold OwnI at hou2
   rw [hm1] at hou2
   have hsbg : sb ≠ g := fun e => by
    obtain ⟨vs, h1, _⟩ := hM.out
    exact own_type h1 hs.out (by decide) (by rw [e]; rfl)
   have hsbu : some sb ≠ u.ownBlock := fun e => own_type hou2 hs.out (by decide) e.symm
   obtain ⟨A5, c5, rfl⟩ := own_form hou2
   replace hou := Lib.hid hou
   replace hou2 := Lib.hid hou2
   have k1 : (k : Int) < (n : Int) := by omega
   have k0 : (0 : Int) ≤ (k : Int) := by omega
   generalize hbv : b.getD k 0 = x at hbc'
   replace hbv := Lib.hid hbv
   go_wp2
   refine D_begin (fun w' => w'.cell? ⟨sb, 0, none⟩ = some (.slice (some ⟨g, 0, none⟩) n C) ∧ w'.cell? ⟨b0, off0 + k, none⟩ = some (.int .i64 x)) (fun w' => w'.cell? ⟨g, k, none⟩ = some (.slice A5 m c5)) 15 (by kernel_rfl) ?_
   change wpAnyD _ _ _ _ _ _ _ _ _ _ wr.drew
   have HS : wr.drew.cell? ⟨sb, 0, none⟩ = some (.slice (some ⟨g, 0, none⟩) n C) ∧ wr.drew.cell? ⟨b0, off0 + k, none⟩ = some (.int .i64 x) := ⟨hsys, hbc'⟩
   have HT : wr.drew.cell? ⟨g, k, none⟩ = some (.slice A5 m c5) := hc
   simp only [List.size_toArray, List.length_cons, List.length_nil, Nat.reduceAdd, Array.replicate_succ, Array.replicate_zero, List.push_toArray, List.append_toArray, List.nil_append, List.cons_append]
   refine D_take (i := 0) (v := ?_) rfl (by kernel_rfl) (by kernel_rfl) (by kernel_rfl) (by kernel_rfl) (fun _ _ _ h => h) (Or.inl ⟨by rfl, ?_⟩) HS (fun _ => HT) ?_
   rotate_left; · intro w1 hw1; obtain ⟨hw1, hw2⟩ := hw1; go_simp; try with_reducible rfl
   try simp only [Act.put, List.setIfInBounds_toArray, List.set_cons_zero, List.set_cons_succ]
   refine D_take (i := 1) (v := ?_) rfl (by kernel_rfl) (by kernel_rfl) (by kernel_rfl) (by kernel_rfl) (fun _ _ _ h => h) (Or.inl ⟨by rfl, ?_⟩) HS (fun _ => HT) ?_
   rotate_left; · intro w1 hw1; obtain ⟨hw1, hw2⟩ := hw1; go_simp; try with_reducible rfl
   try simp only [Act.put, List.setIfInBounds_toArray, List.set_cons_zero, List.set_cons_succ]
   refine D_take (i := 2) (v := ?_) rfl (by kernel_rfl) (by kernel_rfl) (by kernel_rfl) (by kernel_rfl) (fun _ _ _ h => h) (Or.inl ⟨by rfl, ?_⟩) HS (fun _ => HT) ?_
   rotate_left; · intro w1 hw1; obtain ⟨hw1, hw2⟩ := hw1; go_simp; try with_reducible rfl
   try simp only [Act.put, List.setIfInBounds_toArray, List.set_cons_zero, List.set_cons_succ]
   refine D_take (i := 3) (v := ?_) rfl (by kernel_rfl) (by kernel_rfl) (by kernel_rfl) (by kernel_rfl) (fun _ _ _ h => h) (Or.inl ⟨by rfl, ?_⟩) HS (fun _ => HT) ?_
   rotate_left; · intro w1 hw1; obtain ⟨hw1, hw2⟩ := hw1; go_simp; try with_reducible rfl
   try simp only [Act.put, List.setIfInBounds_toArray, List.set_cons_zero, List.set_cons_succ]
   refine D_take (i := 4) (v := ?_) rfl (by kernel_rfl) (by kernel_rfl) (by kernel_rfl) (by kernel_rfl) (fun _ _ _ h => h) (Or.inl ⟨by rfl, ?_⟩) HS (fun _ => HT) ?_
   rotate_left; · intro w1 hw1; obtain ⟨hw1, hw2⟩ := hw1; go_simp; try with_reducible rfl
   try simp only [Act.put, List.setIfInBounds_toArray, List.set_cons_zero, List.set_cons_succ]
   refine D_take (i := 5) (v := ?_) rfl (by kernel_rfl) (by kernel_rfl) (by kernel_rfl) (by kernel_rfl) (fun _ _ _ h => h) (Or.inl ⟨by rfl, ?_⟩) HS (fun _ => HT) ?_
   rotate_left; · intro w1 hw1; obtain ⟨hw1, hw2⟩ := hw1; go_simp; try with_reducible rfl
   try simp only [Act.put, List.setIfInBounds_toArray, List.set_cons_zero, List.set_cons_succ]
   refine D_take (i := 6) (v := ?_) rfl (by kernel_rfl) (by kernel_rfl) (by kernel_rfl) (by kernel_rfl) (fun _ _ _ h => h) (Or.inl ⟨by rfl, ?_⟩) HS (fun _ => HT) ?_
   rotate_left; · intro w1 hw1; obtain ⟨hw1, hw2⟩ := hw1; go_simp; try with_reducible rfl
   try simp only [Act.put, List.setIfInBounds_toArray, List.set_cons_zero, List.set_cons_succ]
   refine D_load (i := 7) (v := ?_) rfl (by kernel_rfl) (by kernel_rfl) (by kernel_rfl) (by kernel_rfl) (by kernel_rfl) (by kernel_rfl) (fun _ _ _ h => h) (Or.inl ⟨by rfl, ?_⟩) HS HT ?_
   rotate_left; · intro w1 hw1; obtain ⟨⟨hw1, hw2⟩, hw3⟩ := hw1; go_simp; try with_reducible rfl
   try simp only [Act.put, List.setIfInBounds_toArray, List.set_cons_zero, List.set_cons_succ]
   refine D_take (i := 8) (v := ?_) rfl (by kernel_rfl) (by kernel_rfl) (by kernel_rfl) (by kernel_rfl) (fun _ _ _ h => h) (Or.inl ⟨by rfl, ?_⟩) HS (fun _ => HT) ?_
   rotate_left; · intro w1 hw1; obtain ⟨hw1, hw2⟩ := hw1; go_simp; try with_reducible rfl
   try simp only [Act.put, List.setIfInBounds_toArray, List.set_cons_zero, List.set_cons_succ]
   refine D_take (i := 9) (v := ?_) rfl (by kernel_rfl) (by kernel_rfl) (by kernel_rfl) (by kernel_rfl) (fun _ _ _ h => h) (Or.inl ⟨by rfl, ?_⟩) HS (fun _ => HT) ?_
   rotate_left; · intro w1 hw1; obtain ⟨hw1, hw2⟩ := hw1; go_simp; try with_reducible rfl
   try simp only [Act.put, List.setIfInBounds_toArray, List.set_cons_zero, List.set_cons_succ]
   refine D_take (i := 10) (v := ?_) rfl (by kernel_rfl) (by kernel_rfl) (by kernel_rfl) (by kernel_rfl) (fun _ _ _ h => h) (Or.inl ⟨by rfl, ?_⟩) HS (fun _ => HT) ?_
   rotate_left; · intro w1 hw1; obtain ⟨hw1, hw2⟩ := hw1; go_simp; try with_reducible rfl
   try simp only [Act.put, List.setIfInBounds_toArray, List.set_cons_zero, List.set_cons_succ]
   refine D_take (i := 11) (v := ?_) rfl (by kernel_rfl) (by kernel_rfl) (by kernel_rfl) (by kernel_rfl) (fun _ _ _ h => h) (Or.inl ⟨by rfl, ?_⟩) HS (fun _ => HT) ?_
   rotate_left; · intro w1 hw1; obtain ⟨hw1, hw2⟩ := hw1; go_simp; try with_reducible rfl
   try simp only [Act.put, List.setIfInBounds_toArray, List.set_cons_zero, List.set_cons_succ]
   refine D_one (i := 12) (by kernel_rfl) rfl ?_
   intro K hK
   rw [if_pos (by rfl)]
   go_simp
   have hbX : Below wr.heap.size wr (wr.alloc (.cells #[.int .i64 x] 3)).drew := ((Below.refl _ _).alloc (Nat.le_refl _) _).drew
   have HS1 := And.intro ((hbX.cell (p := ⟨sb, 0, none⟩) (World.block_lt_of_cell? wr _ hsys)).trans hsys) ((hbX.cell (p := ⟨b0, off0 + k, none⟩) (World.block_lt_of_cell? wr _ hbc')).trans hbc')
   have HT1 := (hbX.cell (p := ⟨g, k, none⟩) (World.block_lt_of_cell? wr _ hc)).trans hc
   have HF1 := (hbX.frozen (p := ⟨g, k, none⟩) (World.block_lt_of_cell? wr _ hc)).trans hf
   refine hK _ _ HS1 (fun _ _ => HT1) ?_
   try simp only [List.setIfInBounds_toArray, List.set_cons_zero, List.set_cons_succ]
   clear hK K
   refine D_one (i := 13) (by kernel_rfl) rfl ?_
   intro K hK
   refine step_append_lies _ (by rfl) _ _ _ (by rfl) w.heap.size 3 i0 _ 1 8 Tryd.underlying22 hi0 hz0 hz1 hz2 rfl (by omega) (.slice A5 m c5) m (ints (rs.getD k [])) (by rfl) (own_below hou2.out hbX) ⟨wr.heap.size, 0, none⟩ 1 1 [.int .i64 x] (by rfl) (by rfl) (World.news_of_block (cs := #[.int .i64 x]) (t := 3) (fr := (0, 0)) (heap_alloc_new wr _)) (by simp [Value.oneCell']) (by omega) (by unfold maxLen; omega) (by omega) (by have := hB.out.size; simp; omega) (wr.heap.size + 1) (by simp) ?_
   intro gg cap w1 hown1 hgrow hat hlt1
   have hgb' : g < ((wr.alloc (.cells #[.int .i64 x] 3)).drew).heap.size := by simp; omega
   have HT2 := (hgrow.cell_far ⟨g, k, none⟩ hgb' (Ne.symm hub)).trans HT1
   have HF2 := (hgrow.frozen_far ⟨g, k, none⟩ hgb' (Ne.symm hub)).trans HF1
   have hslt : sb < wr.heap.size := World.block_lt_of_cell? wr _ hsys
   have hb0w : b0 < w.heap.size := World.block_lt_of_cell? w _ hbcw
   have hb0r : b0 < wr.heap.size := World.block_lt_of_cell? wr _ hbc'
   have hbu : some b0 ≠ (Value.slice A5 m c5).ownBlock := fun e => by have := (hou2.out.lt b0 e.symm).1; omega
   have HS2 := And.intro ((hgrow.cell_far ⟨sb, 0, none⟩ (by simp; omega) hsbu).trans HS1.1) ((hgrow.cell_far ⟨b0, off0 + k, none⟩ (by simp; omega) hbu).trans HS1.2)
   refine hK _ _ HS2 (fun _ _ => HT2) ?_
   try simp only [Act.put, List.setIfInBounds_toArray, List.set_cons_zero, List.set_cons_succ]
   clear hK K
   refine D_take (i := 14) (v := ?_) rfl (by kernel_rfl) (by kernel_rfl) (by kernel_rfl) (by kernel_rfl) (fun _ _ _ h => h) (Or.inl ⟨by rfl, ?_⟩) HS2 (fun _ => HT2) ?_
   rotate_left; · intro w1 hw1; obtain ⟨hw1, hw2⟩ := hw1; go_simp; try with_reducible rfl
   try simp only [Act.put, List.setIfInBounds_toArray, List.set_cons_zero, List.set_cons_succ]
   refine D_one (i := 15) (by kernel_rfl) rfl ?_
   intro K hK
   rw [if_pos (by rfl)]
   go_simp
   have hgw : b0 ≠ g := by omega
   refine hK _ _ ⟨(World.cell?_of_block (w := w1) (a := ⟨sb, 0, none⟩) (Below.heap_setCell _ _ _ _ hsbg)).trans HS2.1, (World.cell?_of_block (w := w1) (a := ⟨b0, off0 + k, none⟩) (Below.heap_setCell _ _ _ _ hgw)).trans HS2.2⟩ (fun h _ => absurd rfl h) ?_
   clear hK K
   refine D_done (by kernel_rfl) ?_ _
   have hM1 := (hM.out.below hbX).upd (auP_get rs b (i := k) (by rw [hok'.out.1]; exact hlt)) HT1 hgrow (v' := .slice (some ⟨gg, 0, none⟩) (m + 1) cap) (r' := rs.getD k [] ++ [b.getD k 0]) (by
    unfold OwnI
    rw [List.length_append, hm1, ints_append, hbv.out]
    exact hown1) (by
    rcases hat with h | h
    ·exact .inr (.inl h.symm)
    ·exact .inr (.inr ⟨gg, rfl, by simp; omega⟩))
   rw [auP_set] at hM1
   have hB3 : Below w.heap.size w (w1.setCell ⟨g, k, none⟩ (.slice (some ⟨gg, 0, none⟩) (m + 1) cap)) :=
    ((Below.then_ hB.out hbX).grown hgrow (by have := hB.out.size; simp; omega) (fun j hj => (hou2.out.lt j hj).1)).setCell hgb _
   have hs3 : (w1.setCell ⟨g, k, none⟩ (.slice (some ⟨gg, 0, none⟩) (m + 1) cap)).heap[sb]? = some (.cells #[.slice (some ⟨g, 0, none⟩) n C, .bool false] 152 (0, 0)) := by
    rw [Below.heap_setCell _ _ _ _ hsbg, hgrow.block sb (by simp; omega) hsbu, hbX.block sb hslt]
    exact hs.out
   replace hM1 := Lib.hid hM1
   replace hB3 := Lib.hid hB3
   replace hs3 := Lib.hid hs3
   clear HS HT HS1 HT1 HF1 HS2 HT2 HF2 hown1 hgrow hat
   go_wp2
   go_roundw
   case rel => exact ⟨k + 1, by omega, by go_num, hB3, hM1, hs3⟩
   case measure => simp [intOf]; omega
  ·obtain rfl : n = k := by omega
   have hM' : OwnM wr w.heap.size (.slice G n C) (augM rs b) := by rw [← auP_end, hok'.out.1]; exact hM.out
   have hka : Hid (okM (augM rs b) n (m + 1)) := Lib.hid (okM_aug hok'.out hbr.out hbl2.out)
   obtain ⟨vs, hV⟩ := hM'.v
   replace hV := Lib.hid hV
   have hnum := Lib.hid (numbers_any m wr (by omega))
   clear hM hM' hO2 hs2 hB2
   go_wp2_with fail
   refine hnum.out.mono ?_; rintro e W2 ⟨rfl, hn2, hb2⟩
   have hrev := Lib.hid (Reverse_any _ m wr.heap.size wr.heap.size m W2 hn2 (by omega))
   go_wp2_with fail
   refine hrev.out.mono ?_; rintro e W3 ⟨rfl, hn3, hk3⟩
   rw [natI_rev] at hn3
   have hb3 : Below wr.heap.size wr W3 := hb2.trans (hk3.below hb2.size (fun u hu k hk => by
    rw [List.mem_singleton.1 hu] at hk; simp [Value.ownBlock] at hk; omega))
   obtain ⟨_, cur, hcur⟩ := hn3.block
   have hV3 := hV.out.kept hb3
   have hsv := solve_any (augM rs b) (List.range m).reverse n (m + 1) sb wr.heap.size w.heap.size (.slice G n C) false cur m vs W3 hV3 hka.out (by omega) (by omega) (by simp; omega) (fun k hk => by have := List.mem_range.1 (List.mem_reverse.1 hk); omega)
    ((hb3.block sb (lt_of_block hs.out)).trans hs.out) hsb hcur (fun u hu e => by have := (hV.out.ge u hu _ e).2; omega) (fun j k hj => by
     have hj' := (List.getElem?_eq_some_iff.1 hj).1
     have := (hn3.num (k := j) (by simpa [natI] using hj')).1
     rw [this, natI, List.getD_eq_getElem?_getD, List.getElem?_map, hj]; rfl)
   rw [show (List.range m).reverse.length = m from by simp] at hsv
   have hcbl : wr.heap.size < W3.heap.size := lt_of_block hcur
   have hpv := solveS_piv (augM rs b) (List.range m).reverse false
   have hX0 : Hid (sysM rs b m = solveS (augM rs b) (List.range m).reverse false) := Lib.hid rfl
   generalize solveS (augM rs b) (List.range m).reverse false = S at hsv hpv hX0
   replace hpv := Lib.hid hpv
   replace hsv := Lib.hid hsv
   have hB3 := Lib.hid (hB.out.trans (hb3.mono hB.out.size))
   clear hnum hrev hn2 hk3 hb2 hcur hn3 hV3 hb3
   go_wp2_with fail
   refine hsv.out.mono ?_; rintro e W4 ⟨lv, rfl, hI⟩
   obtain ⟨A6, c6, rfl⟩ := own_form hI.piv
   have hI4 := Lib.hid hI
   have hb5 : Below W4.heap.size W4 (W4.alloc (.cells (madeCells #[.int .i64 0] m) 3)) := (Below.refl _ _).alloc (Nat.le_refl _) _
   have hx5 := OwnI_made W4 W4.heap.size m (Nat.le_refl _) (by unfold maxLen; omega)
   have hB4 : Below w.heap.size w W4 := hB3.out.trans hI.below
   have hfew := hI.few
   replace hx5 := Lib.hid hx5
   replace hb5 := Lib.hid hb5
   have hcb4 : Hid (wr.heap.size < W4.heap.size) := Lib.hid (Nat.lt_of_lt_of_le hcbl hI.below.size)
   replace hB4 := Lib.hid hB4
   generalize hL : S.piv.length = L at hfew ⊢
   replace hL := Lib.hid hL
   clear hI hsv
   go_wp2
   generalize W4.alloc (.cells (madeCells #[.int .i64 0] m) 3) = W5 at hx5 hb5 ⊢
   obtain ⟨wo, rfl⟩ : ∃ wo : World, wo = wr := ⟨_, rfl⟩
   go_loopw [15, 56] (fun _ i wr => ∃ k : Nat, k ≤ L ∧ i = .int .i64 k ∧ Hid (Below W4.heap.size W4 wr) ∧ Hid (OwnI wr W4.heap.size (.slice (some ⟨W4.heap.size, 0, none⟩) m m) (xP S m k))) (fun _ i _ => L - (intOf i).toNat)
   case atStart => exact ⟨0, Nat.zero_le _, rfl, hb5, hx5⟩
   case round =>
    obtain ⟨i, hi, rfl, hbw, hx⟩ := hrel
    have hI5 := Lib.hid (hI4.out.kept hbw.out hB4.out.size hcb4.out)
    by_cases hil : i < L
    ·obtain ⟨p, hp⟩ : ∃ p, S.piv[i]? = some p := ⟨_, List.getElem?_eq_getElem (by rw [hL.out]; exact hil)⟩
     obtain ⟨gl, cl, e, hgl1, hgl2⟩ := hI5.out.piv.form (by rw [hL.out]; omega)
     simp only [Value.slice.injEq] at e
     obtain ⟨rfl, -, -⟩ := e
     have hpc := pivCells_get hp
     have c1 := hI5.out.piv.cellAt (i * 2) (by rw [hL.out]; omega)
     have c2 := hI5.out.piv.cellAt (i * 2 + 1) (by rw [hL.out]; omega)
     rw [hpc.1] at c1
     rw [hpc.2] at c2
     replace hp := Lib.hid hp
     have i1 : (i : Int) < (L : Int) := by omega
     have i0 : (0 : Int) ≤ (i : Int) := by omega
     clear hpc
     have hpp := hpv.out p (List.mem_of_getElem? hp.out)
     rw [hL.out] at hpp
     have hp2 : p.2 < m := by have := List.mem_range.1 (List.mem_reverse.1 hpp.2); omega
     have hp1 : p.1 < n := by omega
     obtain ⟨vs6, hV6, _⟩ := hI5.out.mem
     obtain ⟨u6, hu6⟩ : ∃ u, vs6[p.1]? = some u := ⟨_, List.getElem?_eq_getElem (by rw [hV6.len, hI5.out.ok.1]; exact hp1)⟩
     have hr6 : S.rows[p.1]? = some (S.rows.getD p.1 []) := by rw [List.getD_eq_getElem?_getD, List.getElem?_eq_getElem (by rw [hI5.out.ok.1]; exact hp1)]; rfl
     obtain ⟨g6, c6', e, -, -, hcu, -⟩ := hV6.at_ hr6 hu6
     simp only [Value.slice.injEq] at e
     obtain ⟨rfl, -, -⟩ := e
     obtain ⟨g7, c7, rfl, -, -, hcn, -⟩ := hV6.num hr6 hu6 (k := m) (by rw [hI5.out.ok.row hp1]; omega)
     rw [hI5.out.ok.row hp1] at hcu
     change wr.cell? _ = some (.int .i64 (gM S.rows p.1 m)) at hcn
     have hsys : wr.cell? ⟨sb, 0, none⟩ = some (.slice (some ⟨g6, 0, none⟩) n C) := by simp [World.cell?, hI5.out.sys]
     obtain ⟨hxc, hxf⟩ := hx.out.num (k := p.2) (by rw [xP_len]; exact hp2)
     have hb6 : Below wr.heap.size wr (wr.alloc (.cells #[.int .i64 p.1, .int .i64 p.2] 159)) := (Below.refl _ _).alloc (Nat.le_refl _) _
     have d0 : (wr.alloc (.cells #[.int .i64 p.1, .int .i64 p.2] 159)).cell? ⟨wr.heap.size, 0, none⟩ = some (.int .i64 p.1) := by simp only [World.cell?, heap_alloc_new]; rfl
     have d1 : (wr.alloc (.cells #[.int .i64 p.1, .int .i64 p.2] 159)).cell? ⟨wr.heap.size, 1, none⟩ = some (.int .i64 p.2) := by simp only [World.cell?, heap_alloc_new]; rfl
     have d2 := (hb6.cell (p := ⟨sb, 0, none⟩) (World.block_lt_of_cell? wr _ hsys)).trans hsys
     have d3 := (hb6.cell (p := ⟨g6, p.1, none⟩) (World.block_lt_of_cell? wr _ hcu)).trans hcu
     have d4 := (hb6.cell (p := ⟨g7, m, none⟩) (World.block_lt_of_cell? wr _ hcn)).trans hcn
     have d5 := (hb6.cell (p := ⟨W4.heap.size, p.2, none⟩) (World.block_lt_of_cell? wr _ hxc)).trans hxc
     have d6 := (hb6.frozen (p := ⟨W4.heap.size, p.2, none⟩) (World.block_lt_of_cell? wr _ hxc)).trans hxf
     have hfin := Lib.hid (((hx.out.below hb6).put p.2 (gM S.rows p.1 m)))
     rw [← xP_succ S m hp.out] at hfin
     have hbf := Lib.hid ((hbw.out.trans (hb6.mono hbw.out.size)).setCell (p := ⟨W4.heap.size, p.2, none⟩) (Nat.le_refl _) (.int .i64 (gM S.rows p.1 m)))
     clear hcu hcn hsys hxc hxf hpp
     generalize (xP S m i).getD p.2 0 = x0 at d5
     generalize gM S.rows p.1 m = y at d4 hfin hbf
     obtain ⟨pr, pc⟩ := p
     replace hp1 : pr < n := hp1
     replace hp2 : pc < m := hp2
     have j1 : (pr : Int) < (n : Int) := by omega
     have j0 : (0 : Int) ≤ (pr : Int) := by omega
     have j3 : (pc : Int) < (m : Int) := by omega
     have j2 : (0 : Int) ≤ (pc : Int) := by omega
     have j5 : (m : Int) < (m : Int) + 1 := by omega
     have j4 : (0 : Int) ≤ (m : Int) := by omega
     go_wp2
     generalize wr.alloc (.cells #[.int .i64 pr, .int .i64 pc] 159) = W6 at d0 d1 d2 d3 d4 d5 d6 hfin hbf ⊢
     go_still_tail 13, (by kernel_rfl)
     change wpList _ _ _ _ _ W6.drew
     go_wp2
     go_roundw
     case rel => exact ⟨i + 1, by omega, by go_num, Lib.hid hbf.out.drew, Lib.hid (hfin.out.below (Below.refl _ _).drew)⟩
     case measure => simp [intOf]; omega
    ·obtain rfl : L = i := by omega
     have hxf : Hid (OwnI wr W4.heap.size (.slice (some ⟨W4.heap.size, 0, none⟩) m m) (fillX S m)) := Lib.hid (by
      have := hx.out
      rwa [xP, ← hL.out, List.take_length] at this)
     obtain ⟨vs6, hV6, _⟩ := hI5.out.mem
     replace hV6 := Lib.hid hV6
     have hsys : wr.cell? ⟨sb, 0, none⟩ = some (.slice G n C) := by simp [World.cell?, hI5.out.sys]
     have hBE : Hid (Below w.heap.size w wr) := Lib.hid (hB4.out.trans (hbw.out.mono hB4.out.size))
     have hW4 : w.heap.size ≤ W4.heap.size := hB4.out.size
     obtain ⟨g, hGg⟩ : ∃ g, G = some ⟨g, 0, none⟩ ∨ (G = none ∧ C = 0) := by
      rcases hV6.out.outer.2 with ⟨e, e2⟩ | ⟨g, cap, cur, e, _⟩
      ·simp only [Value.slice.injEq] at e
       exact ⟨0, .inr ⟨e.1, e.2.2⟩⟩
      ·simp only [Value.slice.injEq] at e
       exact ⟨g, .inl e.1⟩
     have hnC : n ≤ C := by
      rcases hV6.out.outer.2 with ⟨e, e2⟩ | ⟨g, cap, cur, e, _, _, h, _⟩
      ·rw [hI5.out.ok.1] at e2; omega
      ·simp only [Value.slice.injEq] at e
       rw [hI5.out.ok.1] at h; omega
     clear hx
     have hrl : Hid (S.rows.length = n) := Lib.hid hI5.out.ok.1
     by_cases hCL : C = L
     ·subst hCL
      have hres : Hid (solvedM rs b m = some (fillX S m)) := Lib.hid (solvedM_some hX0.out hrl.out hL.out (fun i h1 h2 => by omega))
      obtain rfl : n = C := by omega
      go_wp2
      refine wp_loop_rounds 1 ?_
      rw [rounds_succ]
      go_wp2
      go_ret2
      rw [hres.out]
      exact ⟨⟨_, rfl, hxf.out.base hW4⟩, hBE.out⟩
     ·rcases hGg with rfl | ⟨_, h0⟩
      ·have l1 : (L : Int) < (C : Int) := by omega
       go_wp2
       go_loop [17, 80] (fun _ i => ∃ k : Nat, k ≤ n - L ∧ i = .int .i64 k ∧ Hid (∀ j, L ≤ j → j < L + k → gM S.rows j m = 0)) (fun _ i => n - L - (intOf i).toNat)
       case atStart => exact ⟨0, Nat.zero_le _, rfl, Lib.hid (fun j h1 h2 => by omega)⟩
       case round =>
        obtain ⟨k, hk, rfl, hz⟩ := hrel
        by_cases hkl : k < n - L
        ·obtain ⟨u8, hu8⟩ : ∃ u, vs6[L + k]? = some u := ⟨_, List.getElem?_eq_getElem (by rw [hV6.out.len, hrl.out]; omega)⟩
         have hr8 : S.rows[L + k]? = some (S.rows.getD (L + k) []) := by rw [List.getD_eq_getElem?_getD, List.getElem?_eq_getElem (by rw [hrl.out]; omega)]; rfl
         obtain ⟨g6, c6', e, -, -, hcu, -⟩ := hV6.out.at_ hr8 hu8
         simp only [Value.slice.injEq, Option.some.injEq, Addr.mk.injEq, and_true] at e
         obtain ⟨rfl, -, -⟩ := e
         obtain ⟨g7, c7, rfl, -, -, hcn, -⟩ := hV6.out.num hr8 hu8 (k := m) (by rw [hI5.out.ok.row (by omega)]; omega)
         rw [hI5.out.ok.row (show L + k < n by omega)] at hcu
         change wr.cell? _ = some (.int .i64 (gM S.rows (L + k) m)) at hcn
         replace hu8 := Lib.hid hu8
         replace hr8 := Lib.hid hr8
         have j5 : (m : Int) < (m : Int) + 1 := by omega
         have j4 : (0 : Int) ≤ (m : Int) := by omega
         have j1 : (k : Int) < ((n - L : Nat) : Int) := by omega
         have j0 : (0 : Int) ≤ (k : Int) := by omega
         by_cases hne : gM S.rows (L + k) m = 0
         ·rw [hne] at hcn
          replace hne := Lib.hid hne
          go_wp2
          go_round
          case rel => exact ⟨k + 1, by omega, by go_num, Lib.hid (fun j h1 h2 => by
           by_cases e : j = L + k
           ·rw [e]; exact hne.out
           ·exact hz.out j h1 (by omega))⟩
          case measure => simp [intOf]; omega
         ·have hne' : (gM S.rows (L + k) m != 0) = true := by rw [bne_iff_ne]; exact hne
          have hres : Hid (solvedM rs b m = none) := Lib.hid (solvedM_none hX0.out hrl.out hL.out (show L ≤ L + k by omega) (by omega) hne)
          replace hne := Lib.hid hne
          go_wp2
          go_ret2
          rw [hres.out]
          exact ⟨⟨_, rfl, OwnI_nil _ _⟩, hBE.out⟩
        ·have hres : Hid (solvedM rs b m = some (fillX S m)) := Lib.hid (solvedM_some hX0.out hrl.out hL.out (fun i h1 h2 => hz.out i h1 (by omega)))
         obtain rfl : k = n - L := by omega
         go_wp2
         go_ret2
         rw [hres.out]
         exact ⟨⟨_, rfl, hxf.out.base hW4⟩, hBE.out⟩
      ·omega
end Go.Proofs.YtlpldfocljnpnaaDoor
namespace Go.Proofs.YtlpldfocljnpnaaDoor
open Go.RowKit Go.Shelf
def partM (f : Nat → Nat → Int) (n m i k : Nat) : List (List Int) := (List.range n).map fun j => if j < i then (List.range m).map (f j) else if j = i then (List.range k).map (f i) else []
theorem partM_len (f : Nat → Nat → Int) (n m i k : Nat) : (partM f n m i k).length = n := by simp [partM]
theorem partM_zero (f : Nat → Nat → Int) (n m : Nat) : partM f n m 0 0 = List.replicate n [] := by
 apply List.ext_getElem?; intro j
 simp only [partM, List.getElem?_map, List.getElem?_replicate]
 by_cases hj : j < n
 ·rw [List.getElem?_range hj]; simp [hj]
 ·rw [List.getElem?_eq_none (by simp; omega), if_neg hj]; rfl
theorem partM_row (f : Nat → Nat → Int) (n m i : Nat) : partM f n m i m = partM f n m (i + 1) 0 := by
 apply List.map_congr_left; intro j _
 by_cases h1 : j < i
 ·rw [if_pos h1, if_pos (by omega)]
 ·by_cases h2 : j = i
  ·subst h2; rw [if_neg h1, if_pos rfl, if_pos (by omega)]
  ·rw [if_neg h1, if_neg h2, if_neg (by omega)]; split <;> rfl
theorem partM_end (f : Nat → Nat → Int) (n m : Nat) : partM f n m n 0 = mat f n m := by
 apply List.map_congr_left; intro j hj
 rw [if_pos (by simpa using hj)]
theorem partM_get (f : Nat → Nat → Int) {n m i k : Nat} (hi : i < n) : (partM f n m i k)[i]? = some ((List.range k).map (f i)) := by
 simp [partM, List.getElem?_range hi]
theorem partM_set (f : Nat → Nat → Int) {n m i k : Nat} (hi : i < n) : (partM f n m i k).set i ((List.range k).map (f i) ++ [f i k]) = partM f n m i (k + 1) := by
 apply List.ext_getElem?; intro j
 by_cases hij : i = j
 ·subst hij
  rw [List.getElem?_set_self (by rw [partM_len]; exact hi), partM_get f hi, List.range_succ, List.map_append]; rfl
 ·rw [List.getElem?_set_ne hij]
  simp only [partM, List.getElem?_map]
  by_cases hj : j < n
  ·rw [List.getElem?_range hj]
   simp only [Option.map_some]
   by_cases h1 : j < i
   ·rw [if_pos h1, if_pos h1]
   ·rw [if_neg h1, if_neg h1, if_neg (Ne.symm hij), if_neg (Ne.symm hij)]
  ·rw [List.getElem?_eq_none (by simp; omega)]; rfl
theorem made_step (f : Nat → Nat → Int) {n m i k B gg cap : Nat} {w wr w1 : World} {u : Value} (hB : Below B w wr) (hM : OwnM wr B (.slice (some ⟨B, 0, none⟩) n n) (partM f n m i k)) (hlt : i < n) (hc : wr.cell? ⟨B, i, none⟩ = some u)
  (hou : OwnI wr B u ((List.range k).map (f i))) (hBw : B ≤ wr.heap.size)
  (hown1 : w1.ownsRow B 3 1 (.slice (some ⟨gg, 0, none⟩) (k + 1) cap) (k + 1) (ints ((List.range k).map (f i)) ++ [.int .i64 (f i k)]))
  (hgrow : ((wr.alloc (.cells #[.int .i64 (f i k)] 3)).drew).grownBy w1 u.ownBlock) (hat : u.ownBlock = some gg ∨ gg = wr.heap.size + 1) :
  Below B w (w1.setCell ⟨B, i, none⟩ (.slice (some ⟨gg, 0, none⟩) (k + 1) cap)) ∧ OwnM (w1.setCell ⟨B, i, none⟩ (.slice (some ⟨gg, 0, none⟩) (k + 1) cap)) B (.slice (some ⟨B, 0, none⟩) n n) (partM f n m i (k + 1)) := by
 have hb1 : Below wr.heap.size wr ((wr.alloc (.cells #[.int .i64 (f i k)] 3)).drew) := ((Below.refl _ _).alloc (Nat.le_refl _) _).drew
 have hBd : Below B w ((wr.alloc (.cells #[.int .i64 (f i k)] 3)).drew) := (hB.alloc hBw _).drew
 refine ⟨(hBd.grown hgrow (by simp; omega) (fun j hj => (OwnI.base hou (Nat.le_refl _) |>.lt j hj).1)).setCell (Nat.le_refl _) _, ?_⟩
 rw [← partM_set f hlt]
 refine (hM.below hb1).upd (partM_get f hlt) ((hb1.cell (p := ⟨B, i, none⟩) (World.block_lt_of_cell? _ _ hc)).trans hc) hgrow (v' := .slice (some ⟨gg, 0, none⟩) (k + 1) cap) ?_ ?_
 ·have : (List.map (f i) (List.range k) ++ [f i k]).length = k + 1 := by simp
  unfold OwnI
  rw [this, ints_append]
  exact hown1
 ·rcases hat with h | h
  ·exact .inr (.inl h.symm)
  ·exact .inr (.inr ⟨gg, rfl, by simp; omega⟩)
theorem made_any (f : Nat → Nat → Int) (n m : Nat) (g : Nat) (lb : Array Value) (eg : ∀ args w, (callFunc g args).run Tryd.prog w = .ok (.enter g args) w) (w : World) (hn : n ≤ 1000000) (hm : m ≤ 1000000)
  (hf : ∀ (W : World) (i k : Nat), Below w.heap.size w W → i < n → k < m → Calls Tryd.prog g (#[.int .i64 i, .int .i64 k] ++ lb) W fun e w' => e = .returned (.int .i64 (f i k)) ∧ W = w') :
  Calls Tryd.prog 131 #[.int .i64 n, .int .i64 m, .func (.func g) #[] lb] w fun e w' => (∃ v, e = .returned v ∧ OwnM w' w.heap.size v (mat f n m)) ∧ Below w.heap.size w w' := by
 have hmk := run_make_row' (P := Tryd.prog) 59 22 _ _ Tryd.underlying59 infoR rfl .i64 .i64 n (by omega) (by omega)
 obtain ⟨i0, hi, hz0, hz1, hz2⟩ := info_parts infoI
 replace hf := Lib.hid hf
 go_enter Tryd.func131, Tryd.ntmps131
 go_wp2
 have h0 := OwnM_made w w.heap.size n (Nat.le_refl _) (by unfold maxLen; omega)
 rw [← partM_zero f n m] at h0
 have hB0 : Below w.heap.size w (w.alloc (.cells (madeCells #[.slice none 0 0] n) 22)) := (Below.refl _ _).alloc (Nat.le_refl _) _
 generalize w.alloc (.cells (madeCells #[.slice none 0 0] n) 22) = w1 at h0 hB0 ⊢
 go_loopw [8, 9, 14] (fun _ _ i wr => ∃ k : Nat, k ≤ n ∧ i = .int .i64 k ∧ Below w.heap.size w wr ∧ OwnM wr w.heap.size (.slice (some ⟨w.heap.size, 0, none⟩) n n) (partM f n m k 0)) (fun _ _ i _ => n - (intOf i).toNat)
 case atStart => exact ⟨0, Nat.zero_le _, rfl, hB0, h0⟩
 case round =>
  obtain ⟨i, hi', rfl, hB, hM⟩ := hrel
  by_cases hlt : i < n
  ·go_wp2
   obtain ⟨wo, rfl⟩ : ∃ wo : World, wo = wr := ⟨_, rfl⟩
   go_loopw [9, 18] (fun _ j wr => ∃ k : Nat, k ≤ m ∧ j = .int .i64 k ∧ Below w.heap.size w wr ∧ OwnM wr w.heap.size (.slice (some ⟨w.heap.size, 0, none⟩) n n) (partM f n m i k)) (fun _ j _ => m - (intOf j).toNat)
   case atStart => exact ⟨0, Nat.zero_le _, rfl, hB, hM⟩
   case round =>
    obtain ⟨k, hk, rfl, hB, hM⟩ := hrel
    by_cases hkm : k < m
    ·obtain ⟨_, hgs, u, hc, hfz, hou, hub⟩ := hM.row' (partM_get f hlt)
     have hcall := Lib.hid (hf.out wr i k hB hlt hkm)
     have q1 : (i : Int) < (n : Int) := by omega
     have q2 : (0 : Int) ≤ (i : Int) := by omega
     have hlen : ((List.range k).map (f i)).length = k := by simp
     have hgs' := World.new_ne wr _ hc
     have hou' := Lib.hid hou
     unfold OwnI at hou
     rw [hlen] at hou
     go_wp2
     have tt : ((wr.alloc (.cells #[.int .i64 (f i k)] 3)).drew).frozen? ⟨w.heap.size, i, none⟩ = false := by simp [*, frozen?_alloc_cells]
     have tc : ((wr.alloc (.cells #[.int .i64 (f i k)] 3)).drew).cell? ⟨w.heap.size, i, none⟩ = some u := by simp [*, World.cell?_alloc_some]
     go_region_law (first | (go_simp; go_at_fn g; refine (hf.out _ i k (by first | exact hB | exact hB.drew) hlt hkm).mono ?_; rintro e w' ⟨rfl, rfl⟩; dsimp only) | (refine step_append_lies _ (by rfl) _ _ _ (by rfl) w.heap.size 3 i0 _ 1 8 Tryd.underlying22 hi hz0 hz1 hz2 rfl (by omega) u k _ (by rfl) ((hou.alloc _).drew) ⟨wr.heap.size, 0, none⟩ 1 1 [.int .i64 (f i k)] (by rfl) (by rfl) (World.news_of_block (cs := #[.int .i64 (f i k)]) (t := 3) (fr := (0, 0)) (heap_alloc_new wr _)) (by simp [Value.oneCell']) (by omega) (by unfold maxLen; omega) (by omega) (by simp; omega) (wr.heap.size + 1) (by simp) ?_; intro gg cap w1 hown1 hgrow hat hlt1; have hc1 := (hgrow.cell_far ⟨w.heap.size, i, none⟩ (by simp; omega) (Ne.symm hub)).trans tc; have hf1 := (hgrow.frozen_far ⟨w.heap.size, i, none⟩ (by simp; omega) (Ne.symm hub)).trans tt))
     all_goals
      have hfin := Lib.hid (made_step f hB hM hlt hc hou'.out (by omega) hown1 hgrow hat)
      clear hown1 hgrow hat hou' hM hB
      go_wp2
      go_roundw
      case rel => exact ⟨k + 1, by omega, by go_num, hfin.out.1, hfin.out.2⟩
      case measure => simp [intOf]; omega
    ·obtain rfl : k = m := by omega
     go_wp2
     go_roundw
     case rel => exact ⟨i + 1, by omega, by go_num, hB, by rw [← partM_row]; exact hM⟩
     case measure => simp [intOf]; omega
  ·obtain rfl : i = n := by omega
   go_wp2
   go_ret
   exact ⟨⟨_, rfl, by rw [← partM_end]; exact hM⟩, hB⟩
end Go.Proofs.YtlpldfocljnpnaaDoor
namespace Go.Proofs.YtlpldfocljnpnaaDoor
open Go.RowKit Go.Shelf
theorem OwnM.rdOk {w : World} {base : Nat} {v : Value} {a : List (List Int)} (h : OwnM w base v a) {n m : Nat} (ha : okM a n m) (hn : n ≤ 1000) (hm : m ≤ 1000) : RdM w v a :=
 h.rd (by rw [ha.1]; omega) (fun r hr => by have := (ha.2 r hr).1; omega)
end Go.Proofs.YtlpldfocljnpnaaDoor
namespace Go.Proofs.YtlpldfocljnpnaaDoor
open Go.RowKit Go.Shelf
def fstIdx (q : Nat → Bool) (n : Nat) : Int := match (List.range n).find? q with
 | some j => j
 | none => -1
theorem fstIdx_hit {q : Nat → Bool} {n k : Nat} (hk : k < n) (hq : q k = true) (h : ∀ j, j < k → q j = false) : fstIdx q n = k := by
 have : (List.range n).find? q = some k := by
  rw [List.find?_eq_some_iff_append]
  refine ⟨hq, List.range k, (List.range' (k + 1) (n - k - 1)), ?_, fun j hj => by simp [h j (by simpa using hj)]⟩
  rw [List.range_eq_range', List.range_eq_range']
  rw [show n = k + (1 + (n - k - 1)) from by omega, ← List.range'_append_1]
  simp [Nat.add_comm 1, List.range'_succ]
 rw [fstIdx, this]
theorem fstIdx_miss {q : Nat → Bool} {n : Nat} (h : ∀ j, j < n → q j = false) : fstIdx q n = -1 := by
 have : (List.range n).find? q = none := by
  rw [List.find?_eq_none]; intro j hj; simp [h j (by simpa using hj)]
 rw [fstIdx, this]
theorem fstIdx_nonneg (q : Nat → Bool) (n : Nat) : decide (0 ≤ fstIdx q n) = (List.range n).any q := by
 unfold fstIdx
 cases h : (List.range n).find? q with
 | none =>
  rw [List.find?_eq_none] at h
  have : (List.range n).any q = false := by simp; intro j hj; simpa using h j (by simpa using hj)
  rw [this]; simp
 | some j =>
  have h1 := List.find?_some h
  have h2 := List.mem_of_find?_eq_some h
  have : (List.range n).any q = true := by simp; exact ⟨j, by simpa using h2, h1⟩
  rw [this]; simp
theorem IndexFunc_int (vs : List Value) (q : Nat → Bool) (v : Value) (g : Nat) (lb : Array Value) (eg : ∀ args w, (callFunc g args).run Tryd.prog w = .ok (.enter g args) w) (w : World)
  (hv : RdV w v vs) (hq : ∀ W j u, Below w.heap.size w W → vs[j]? = some u → Calls Tryd.prog g (#[u] ++ lb) W fun e w' => e = .returned (.bool (q j)) ∧ Below w.heap.size w w') :
  Calls Tryd.prog 125 #[v, .func (.func g) #[] lb] w fun e w' => e = .returned (.int .i64 (fstIdx q vs.length)) ∧ Below w.heap.size w w' := by
 obtain ⟨A, c, rfl, h1, h2, h3⟩ := hv
 replace hq := Lib.hid hq
 replace h3 := Lib.hid h3
 go_enter Tryd.func125, Tryd.ntmps125
 go_wp2
 go_loopw [5, 8] (fun _ i wr => ∃ k : Nat, k ≤ vs.length ∧ i = .int .i64 k ∧ Below w.heap.size w wr ∧ Hid (∀ j, j < k → q j = false)) (fun _ i _ => vs.length - (intOf i).toNat)
 case atStart => exact ⟨0, Nat.zero_le _, rfl, Below.refl _ w, Lib.hid (fun j hj => absurd hj (Nat.not_lt_zero _))⟩
 case round =>
  obtain ⟨k, hk, rfl, hB, hn⟩ := hrel
  by_cases hlt : k < vs.length
  ·obtain ⟨b, off, rfl, hc⟩ := h3.out (by omega)
   have hu := List.getElem?_eq_getElem hlt
   generalize vs[k] = u at hu
   have hcall := Lib.hid (hq.out wr k u hB hu)
   have hcell := (hB.cell (p := ⟨b, off + k, none⟩) (World.block_lt_of_cell? w _ (hc k u hu))).trans (hc k u hu)
   replace hu := Lib.hid hu
   clear hc
   cases hqk : q k with
   | true =>
    rw [hqk] at hcall
    replace hqk := Lib.hid hqk
    go_wp2_with (go_at_fn g; refine hcall.out.mono ?_; rintro e w' ⟨rfl, hb'⟩)
    go_ret
    exact ⟨by rw [fstIdx_hit hlt hqk.out hn.out]; rfl, hb'⟩
   | false =>
    rw [hqk] at hcall
    replace hqk := Lib.hid hqk
    go_wp2_with (go_at_fn g; refine hcall.out.mono ?_; rintro e w' ⟨rfl, hb'⟩)
    go_roundw
    case rel => exact ⟨k + 1, by omega, by go_num, hb', Lib.hid (fun j hj => by
     by_cases e : j = k
     ·subst e; exact hqk.out
     ·exact hn.out j (by omega))⟩
    case measure => simp [intOf]; omega
  ·have : k = vs.length := by omega
   go_wp2
   go_ret
   exact ⟨by rw [fstIdx_miss (fun j hj => hn.out j (by omega))]; rfl, hB⟩
theorem IndexFunc_row (vs : List Value) (q : Nat → Bool) (v : Value) (g : Nat) (lb : Array Value) (eg : ∀ args w, (callFunc g args).run Tryd.prog w = .ok (.enter g args) w) (w : World)
  (hv : RdV w v vs) (hq : ∀ W j u, Below w.heap.size w W → vs[j]? = some u → Calls Tryd.prog g (#[u] ++ lb) W fun e w' => e = .returned (.bool (q j)) ∧ Below w.heap.size w w') :
  Calls Tryd.prog 97 #[v, .func (.func g) #[] lb] w fun e w' => e = .returned (.int .i64 (fstIdx q vs.length)) ∧ Below w.heap.size w w' := by
 obtain ⟨A, c, rfl, h1, h2, h3⟩ := hv
 replace hq := Lib.hid hq
 replace h3 := Lib.hid h3
 go_enter Tryd.func97, Tryd.ntmps97
 go_wp2
 go_loopw [5, 8] (fun _ i wr => ∃ k : Nat, k ≤ vs.length ∧ i = .int .i64 k ∧ Below w.heap.size w wr ∧ Hid (∀ j, j < k → q j = false)) (fun _ i _ => vs.length - (intOf i).toNat)
 case atStart => exact ⟨0, Nat.zero_le _, rfl, Below.refl _ w, Lib.hid (fun j hj => absurd hj (Nat.not_lt_zero _))⟩
 case round =>
  obtain ⟨k, hk, rfl, hB, hn⟩ := hrel
  by_cases hlt : k < vs.length
  ·obtain ⟨b, off, rfl, hc⟩ := h3.out (by omega)
   have hu := List.getElem?_eq_getElem hlt
   generalize vs[k] = u at hu
   have hcall := Lib.hid (hq.out wr k u hB hu)
   have hcell := (hB.cell (p := ⟨b, off + k, none⟩) (World.block_lt_of_cell? w _ (hc k u hu))).trans (hc k u hu)
   replace hu := Lib.hid hu
   clear hc
   cases hqk : q k with
   | true =>
    rw [hqk] at hcall
    replace hqk := Lib.hid hqk
    go_wp2_with (go_at_fn g; refine hcall.out.mono ?_; rintro e w' ⟨rfl, hb'⟩)
    go_ret
    exact ⟨by rw [fstIdx_hit hlt hqk.out hn.out]; rfl, hb'⟩
   | false =>
    rw [hqk] at hcall
    replace hqk := Lib.hid hqk
    go_wp2_with (go_at_fn g; refine hcall.out.mono ?_; rintro e w' ⟨rfl, hb'⟩)
    go_roundw
    case rel => exact ⟨k + 1, by omega, by go_num, hb', Lib.hid (fun j hj => by
     by_cases e : j = k
     ·subst e; exact hqk.out
     ·exact hn.out j (by omega))⟩
    case measure => simp [intOf]; omega
  ·have : k = vs.length := by omega
   go_wp2
   go_ret
   exact ⟨by rw [fstIdx_miss (fun j hj => hn.out j (by omega))]; rfl, hB⟩
theorem ContainsFunc_int (vs : List Value) (q : Nat → Bool) (v : Value) (g : Nat) (lb : Array Value) (eg : ∀ args w, (callFunc g args).run Tryd.prog w = .ok (.enter g args) w) (w : World)
  (hv : RdV w v vs) (hq : ∀ W j u, Below w.heap.size w W → vs[j]? = some u → Calls Tryd.prog g (#[u] ++ lb) W fun e w' => e = .returned (.bool (q j)) ∧ Below w.heap.size w w') :
  Calls Tryd.prog 112 #[v, .func (.func g) #[] lb] w fun e w' => e = .returned (.bool ((List.range vs.length).any q)) ∧ Below w.heap.size w w' := by
 have h := Lib.hid (IndexFunc_int vs q v g lb eg w hv hq)
 have he := Lib.hid (fstIdx_nonneg q vs.length)
 clear hq hv
 go_enter Tryd.func112, Tryd.ntmps112
 go_wp2_with (go_at_call 125; refine h.out.mono ?_; rintro e w' ⟨rfl, hb⟩)
 go_ret
 exact ⟨by rw [← he.out]; rfl, hb⟩
theorem ContainsFunc_row (vs : List Value) (q : Nat → Bool) (v : Value) (g : Nat) (lb : Array Value) (eg : ∀ args w, (callFunc g args).run Tryd.prog w = .ok (.enter g args) w) (w : World)
  (hv : RdV w v vs) (hq : ∀ W j u, Below w.heap.size w W → vs[j]? = some u → Calls Tryd.prog g (#[u] ++ lb) W fun e w' => e = .returned (.bool (q j)) ∧ Below w.heap.size w w') :
  Calls Tryd.prog 45 #[v, .func (.func g) #[] lb] w fun e w' => e = .returned (.bool ((List.range vs.length).any q)) ∧ Below w.heap.size w w' := by
 have h := Lib.hid (IndexFunc_row vs q v g lb eg w hv hq)
 have he := Lib.hid (fstIdx_nonneg q vs.length)
 clear hq hv
 go_enter Tryd.func45, Tryd.ntmps45
 go_wp2_with (go_at_call 97; refine h.out.mono ?_; rintro e w' ⟨rfl, hb⟩)
 go_ret
 exact ⟨by rw [← he.out]; rfl, hb⟩
theorem any_range {α : Type} (p : α → Bool) (d : α) (xs : List α) : ((List.range xs.length).any fun j => p (xs.getD j d)) = xs.any p := by
 rw [Bool.eq_iff_iff]
 simp only [List.any_eq_true, List.mem_range]
 constructor
 ·rintro ⟨j, hj, h⟩
  rw [List.getD_eq_getElem?_getD, List.getElem?_eq_getElem hj] at h
  exact ⟨xs[j], List.getElem_mem hj, h⟩
 ·rintro ⟨x, hx, h⟩
  obtain ⟨j, hj, rfl⟩ := List.getElem_of_mem hx
  exact ⟨j, hj, by rw [List.getD_eq_getElem?_getD, List.getElem?_eq_getElem hj]; exact h⟩
end Go.Proofs.YtlpldfocljnpnaaDoor
namespace Go.Proofs.YtlpldfocljnpnaaDoor
open Go.RowKit Go.Shelf
theorem not_isRes (xs : List Int) : (!isRes xs) = (List.range xs.length).any fun j => !isN (xs.getD j 0) := by
 rw [any_range (fun x => !isN x)]; simp [isRes, List.all_eq_not_any_not]
theorem is_1 (x : Int) (w : World) (B : Nat) (w0 : World) (hB : Below B w0 w) : Calls Tryd.prog 130 #[.int .i64 x] w fun e w' => e = .returned (.bool (!isN x)) ∧ Below B w0 w' := by
 have H : Hid (isN x = (decide (0 ≤ x) && decide (x < 65521))) := Lib.hid rfl
 by_cases h1 : x < 0
 ·go_enter Tryd.func130, Tryd.ntmps130
  go_wp2
  go_ret
  exact ⟨by rw [H.out]; simp; omega, hB⟩
 ·go_enter Tryd.func130, Tryd.ntmps130
  go_wp2
  go_ret
  refine ⟨?_, hB⟩
  rw [H.out]
  have : decide (0 ≤ x) = true := by simp; omega
  rw [this]; by_cases h2 : x < 65521 <;> simp [h2] <;> omega
theorem is_any (xs : List Int) (v : Value) (w : World) (h : RdI w v xs) : Calls Tryd.prog 122 #[v] w fun e w' => e = .returned (.bool (isRes xs)) ∧ Below w.heap.size w w' := by
 have hc := (ContainsFunc_int (ints xs) (fun j => !isN (xs.getD j 0)) v 130 #[] (enters_of Tryd.func130 (by kernel_rfl) rfl) w h (fun W j u hB hu => by
  rw [ints_get] at hu
  obtain ⟨x, hx, rfl⟩ := Option.map_eq_some_iff.1 hu
  have : xs.getD j 0 = x := by rw [List.getD_eq_getElem?_getD, hx]; rfl
  rw [this]
  exact is_1 x W _ w hB))
 rw [ints_len, ← not_isRes] at hc
 replace hc := Lib.hid hc
 clear h
 go_enter Tryd.func122, Tryd.ntmps122
 go_wp2_with (go_at_call 112; refine hc.out.mono ?_; rintro e w' ⟨rfl, hb⟩)
 go_ret
 exact ⟨by simp, hb⟩
theorem row_of {w : World} {vs : List Value} {rs : List (List Int)} {j : Nat} {u : Value} (hl : vs.length = rs.length) (h : ∀ (j : Nat) (r : List Int) (u : Value), rs[j]? = some r → vs[j]? = some u → RdI w u r) (hu : vs[j]? = some u) : RdI w u (rs.getD j []) := by
 have hj : j < rs.length := by have := (List.getElem?_eq_some_iff.1 hu).1; omega
 exact h j _ u (by rw [List.getD_eq_getElem?_getD, List.getElem?_eq_getElem hj]; simp) hu
end Go.Proofs.YtlpldfocljnpnaaDoor
namespace Go.Proofs.YtlpldfocljnpnaaDoor
open Go.RowKit Go.Shelf
def MatErr (r : Int × List (List Int)) (w : World) (e : Ending) (w' : World) : Prop := ∃ v, e = .returned (.tuple #[v, .int .i64 r.1]) ∧ OwnM w' w.heap.size v r.2 ∧ Below w.heap.size w w'
end Go.Proofs.YtlpldfocljnpnaaDoor
namespace Go.Proofs.YtlpldfocljnpnaaDoor
theorem G_out {rs : List (List Int)} {n m : Nat} (h : okM rs n m) (a : Nat) {k : Nat} (hk : m ≤ k) : G rs a k = 0 := by
 unfold G gM
 by_cases ha : a < n
 ·rw [getD_none (by rw [h.row ha]; exact hk)]; rfl
 ·rw [List.getD_eq_getElem?_getD (l := rs), List.getElem?_eq_none (by rw [h.1]; omega)]; rfl
theorem Run.zero {n m : Nat} {before : Nat → Nat → Prop} {A : Mx} {s : Sys} {done : List Nat} (h : Run n m before A s done) {a k : Nat} (ha : s.piv.length ≤ a) (han : a < n) (hk : k ∈ done ∨ m ≤ k) : G s.rows a k = 0 := by
 rcases hk with hk | hk
 ·by_cases hp : ∃ i, i < s.piv.length ∧ (s.piv.getD i (0, 0)).2 = k
  ·obtain ⟨i, hi, rfl⟩ := hp
   rw [h.el.pv i hi a han, if_neg (by omega)]
  ·refine Classical.byContradiction fun hne => ?_
   have := (h.el.np k hk (fun i hi e => hp ⟨i, hi, e⟩) a han hne).1
   omega
 ·exact G_out h.ok a hk
theorem pair_gt (m : Nat) : (List.range m).reverse.Pairwise (fun x y => y < x ∧ x ≠ y) := List.pairwise_reverse.2 (List.Pairwise.imp (fun h => ⟨h, by omega⟩) List.pairwise_lt_range)
end Go.Proofs.YtlpldfocljnpnaaDoor
namespace Go.Proofs.YtlpldfocljnpnaaDoor
def SolA (n m : Nat) (A : Mx) (y : Nat → Fp) : Prop := ∀ i, i < n → S m (fun k => A i k * y k) = A i m
theorem Sp.sol {n m : Nat} {A : Mx} {v y : Nat → Fp} (hv : Sp n A v) (hy : SolA n m A y) : S m (fun k => v k * y k) = v m := by
 obtain ⟨c, hc⟩ := hv
 rw [hc m, S_congr (g := fun k => S n (fun i => c i * (A i k * y k))) (fun k _ => by rw [hc k, ← S_mul']; exact S_congr fun i _ => by grind), S_swap]
 refine S_congr fun i hi => ?_
 rw [S_mul, hy i hi]
theorem Run.sol {n m M : Nat} {before : Nat → Nat → Prop} {A : Mx} {s : Sys} {done : List Nat} (h : Run n M before A s done) (y : Nat → Fp) : SolA n m A y ↔ SolA n m (G s.rows) y :=
 ⟨fun hy i hi => (h.into i hi).sol hy, fun hy i hi => (h.back i hi).sol hy⟩
theorem fill_other {f : Nat × Nat → Int} {k : Nat} : ∀ (l : List (Nat × Nat)) (x : List Int), (∀ p ∈ l, p.2 ≠ k) → (l.foldl (fun x p => x.set p.2 (f p)) x).getD k 0 = x.getD k 0
 | [], _, _ => rfl
 | p :: l, x, h => by
  rw [List.foldl_cons, fill_other l _ (fun q hq => h q (List.mem_cons_of_mem _ hq)), getD_set, if_neg (fun e => h p List.mem_cons_self e.1.symm)]
theorem fill_len {f : Nat × Nat → Int} : ∀ (l : List (Nat × Nat)) (x : List Int), (l.foldl (fun x p => x.set p.2 (f p)) x).length = x.length
 | [], _ => rfl
 | p :: l, x => by rw [List.foldl_cons, fill_len l]; simp
theorem fillX_length (s : Sys) (m : Nat) : (fillX s m).length = m := by rw [fillX, fill_len]; simp
theorem Run.col_ne {n m : Nat} {before : Nat → Nat → Prop} {A : Mx} {s : Sys} {done : List Nat} (h : Run n m before A s done) {i j : Nat} (hi : i < s.piv.length) (hj : j < s.piv.length) (hij : i ≠ j) : (s.piv.getD i (0, 0)).2 ≠ (s.piv.getD j (0, 0)).2 := fun e => by
 have h1 := h.el.pv i hi i (by have := h.el.le; omega)
 have h2 := h.el.pv j hj i (by have := h.el.le; omega)
 rw [if_pos rfl] at h1
 rw [if_neg hij, ← e, h1] at h2
 exact one_ne_zero h2
theorem Run.fill_at {n M m : Nat} {before : Nat → Nat → Prop} {A : Mx} {s : Sys} {done : List Nat} (h : Run n M before A s done) {i : Nat} (hi : i < s.piv.length) (hc : (s.piv.getD i (0, 0)).2 < m) : (fillX s m).getD ((s.piv.getD i (0, 0)).2) 0 = gM s.rows i m := by
 have e : s.piv = s.piv.take i ++ s.piv[i] :: s.piv.drop (i + 1) := by rw [List.getElem_cons_drop, List.take_append_drop]
 have hg : s.piv.getD i (0, 0) = s.piv[i] := by rw [List.getD_eq_getElem?_getD, List.getElem?_eq_getElem hi]; rfl
 have h1 : (s.piv[i]).1 = i := h.rowsOf i _ (List.getElem?_eq_getElem hi)
 have hne : ∀ p ∈ s.piv.drop (i + 1), p.2 ≠ (s.piv[i]).2 := fun p hp => by
  obtain ⟨j, hj, rfl⟩ := List.getElem_of_mem hp
  rw [List.length_drop] at hj
  have := h.col_ne (i := i + 1 + j) (j := i) (by omega) hi (by omega)
  rw [hg, List.getD_eq_getElem?_getD, List.getElem?_eq_getElem (by omega)] at this
  rw [List.getElem_drop]; exact this
 rw [hg] at hc ⊢
 have e2 : fillX s m = (s.piv.take i ++ s.piv[i] :: s.piv.drop (i + 1)).foldl (fun x p => x.set p.2 (gM s.rows p.1 m)) (List.replicate m 0) := by rw [← e]; rfl
 rw [e2, List.foldl_append, List.foldl_cons, fill_other _ _ hne, getD_set, if_pos ⟨rfl, by rw [fill_len]; simpa using hc⟩, h1]
theorem Run.fill_no {n M m : Nat} {before : Nat → Nat → Prop} {A : Mx} {s : Sys} {done : List Nat} (_h : Run n M before A s done) {k : Nat} (hk : ∀ i, i < s.piv.length → (s.piv.getD i (0, 0)).2 ≠ k) : (fillX s m).getD k 0 = 0 := by
 rw [fillX, fill_other]
 ·rw [List.getD_eq_getElem?_getD, List.getElem?_replicate]; split <;> rfl
 ·intro p hp
  obtain ⟨i, hi, rfl⟩ := List.getElem_of_mem hp
  have := hk i hi
  rwa [List.getD_eq_getElem?_getD, List.getElem?_eq_getElem hi] at this
theorem gM_aug {rs : List (List Int)} {b : List Int} {n m : Nat} (h : okM rs n m) (i : Nat) (hi : i < n) (k : Nat) : gM (augM rs b) i k = if k < m then gM rs i k else if k = m then b.getD i 0 else 0 := by
 have e : (augM rs b).getD i [] = rs.getD i [] ++ [b.getD i 0] := by
  rw [augM, List.getD_eq_getElem?_getD, List.getElem?_map, List.getElem?_range (by rw [h.1]; exact hi)]; rfl
 unfold gM
 rw [e, List.getD_eq_getElem?_getD, List.getElem?_append, h.row hi]
 by_cases hk : k < m
 ·rw [if_pos hk, if_pos hk, ← List.getD_eq_getElem?_getD]
 ·rw [if_neg hk, if_neg hk]
  by_cases e : k = m
  ·subst e; rw [Nat.sub_self, if_pos rfl]; rfl
  ·rw [if_neg e, List.getElem?_eq_none (by simp; omega)]; rfl
def SolL (rs : List (List Int)) (b : List Int) (n m : Nat) (y : Nat → Fp) : Prop := ∀ i, i < n → S m (fun k => G rs i k * y k) = toF (b.getD i 0)
theorem SolL_iff {rs : List (List Int)} {b : List Int} {n m : Nat} (h : okM rs n m) (y : Nat → Fp) : SolL rs b n m y ↔ SolA n m (G (augM rs b)) y := by
 have e1 : ∀ i k, i < n → k < m → G (augM rs b) i k = G rs i k := fun i k hi hk => by unfold G; rw [gM_aug h i hi, if_pos hk]
 have e2 : ∀ i, i < n → G (augM rs b) i m = toF (b.getD i 0) := fun i hi => by unfold G; rw [gM_aug h i hi, if_neg (Nat.lt_irrefl m), if_pos rfl]
 exact ⟨fun hy i hi => by rw [e2 i hi, ← hy i hi]; exact S_congr fun k hk => by rw [e1 i k hi hk], fun hy i hi => by rw [← e2 i hi, ← hy i hi]; exact S_congr fun k hk => by rw [e1 i k hi hk]⟩
theorem sysM_run {rs : List (List Int)} {b : List Int} {n m : Nat} (h : okM rs n m) (hb : ∀ x ∈ b, 0 ≤ x ∧ x < 65521) (hl : b.length = n) : Run n (m + 1) (fun x y => y < x) (G (augM rs b)) (sysM rs b m) (List.range m).reverse :=
 solveS_run (okM_aug h hb hl) (pair_gt m)
theorem restOk_iff {s : Sys} {m : Nat} : restOk s m = true ↔ ∀ i, s.piv.length ≤ i → i < s.rows.length → gM s.rows i m = 0 := by
 unfold restOk
 rw [List.all_eq_true]
 constructor
 ·intro h i h1 h2
  have := h i (List.mem_range.2 h2)
  simp only [Bool.or_eq_true, decide_eq_true_eq, beq_iff_eq] at this
  rcases this with h3 | h3
  ·omega
  ·exact h3
 ·intro h i hi
  simp only [Bool.or_eq_true, decide_eq_true_eq, beq_iff_eq]
  by_cases h1 : i < s.piv.length
  ·exact .inl h1
  ·exact .inr (h i (by omega) (List.mem_range.1 hi))
variable {rs : List (List Int)} {b : List Int} {n m : Nat}
theorem zero_row (h : Run n (m + 1) (fun x y => y < x) (G (augM rs b)) (sysM rs b m) (List.range m).reverse) {i : Nat} (h1 : (sysM rs b m).piv.length ≤ i) (h2 : i < n) (y : Nat → Fp) : S m (fun k => G (sysM rs b m).rows i k * y k) = 0 :=
 S_zero fun k hk => by rw [h.zero h1 h2 (.inl (by simpa using hk))]; grind
theorem solvedM_complete (h : okM rs n m) (hb : ∀ x ∈ b, 0 ≤ x ∧ x < 65521) (hl : b.length = n) {y : Nat → Fp} (hy : SolL rs b n m y) : solvedM rs b m = some (fillX (sysM rs b m) m) := by
 have hR := sysM_run h hb hl
 have hs := (hR.sol _).1 ((SolL_iff h y).1 hy)
 rw [solvedM, if_pos]
 refine restOk_iff.2 fun i h1 h2 => ?_
 rw [hR.ok.1] at h2
 have e := hs i h2
 rw [zero_row hR h1 h2] at e
 exact (toF_eq_zero (hR.ok.num i m)).1 e.symm
theorem solvedM_sound (h : okM rs n m) (hb : ∀ x ∈ b, 0 ≤ x ∧ x < 65521) (hl : b.length = n) {x : List Int} (hx : solvedM rs b m = some x) : x.length = m ∧ (∀ u ∈ x, 0 ≤ u ∧ u < 65521) ∧ SolL rs b n m (fun k => toF (x.getD k 0)) := by
 have hR := sysM_run h hb hl
 have hlt : ∀ i, i < (sysM rs b m).piv.length → ((sysM rs b m).piv.getD i (0, 0)).2 < m := fun i hi => by have := hR.el.mem i hi; simpa using this
 rw [solvedM] at hx
 split at hx
 ·rename_i hr
  obtain rfl := Option.some.inj hx
  refine ⟨fillX_length _ _, fun u hu => ?_, (SolL_iff h _).2 ((hR.sol _).2 fun i hi => ?_)⟩
  ·obtain ⟨k, hk, rfl⟩ := List.getElem_of_mem hu
   have e : (fillX (sysM rs b m) m)[k] = (fillX (sysM rs b m) m).getD k 0 := by rw [List.getD_eq_getElem?_getD, List.getElem?_eq_getElem hk]; rfl
   rw [e]
   by_cases hp : ∃ i, i < (sysM rs b m).piv.length ∧ ((sysM rs b m).piv.getD i (0, 0)).2 = k
   ·obtain ⟨i, hi, rfl⟩ := hp
    rw [hR.fill_at hi (hlt i hi)]; exact hR.ok.num i m
   ·rw [hR.fill_no (fun i hi e => hp ⟨i, hi, e⟩)]; decide
  ·by_cases hir : i < (sysM rs b m).piv.length
   ·rw [S_one (k := ((sysM rs b m).piv.getD i (0, 0)).2) (hlt i hir), hR.el.pv i hir i hi, if_pos rfl, hR.fill_at hir (hlt i hir)]
    ·show 1 * G _ _ _ = _; grind
    ·intro k hk hne
     by_cases hp : ∃ j, j < (sysM rs b m).piv.length ∧ ((sysM rs b m).piv.getD j (0, 0)).2 = k
     ·obtain ⟨j, hj, rfl⟩ := hp
      rw [hR.el.pv j hj i hi, if_neg (fun e => hne (by rw [e]))]; grind
     ·rw [hR.fill_no (fun i hi e => hp ⟨i, hi, e⟩), toF_zero]; grind
   ·rw [zero_row hR (by omega) hi]
    show 0 = toF _
    rw [restOk_iff.1 hr i (by omega) (by rw [hR.ok.1]; exact hi)]; rfl
 ·cases hx
end Go.Proofs.YtlpldfocljnpnaaDoor
namespace Go.Proofs.YtlpldfocljnpnaaDoor
structure SpRow where
 col : Nat
 red : Nat → Fp
 made : Nat → Fp
def splF : List SpRow → (Nat → Fp) → (Nat → Fp) → (Nat → Fp) × (Nat → Fp)
 | [], left, by_ => (left, by_)
 | s :: t, left, by_ => splF t (fun j => left j - left s.col * s.red j) (fun k => by_ k + left s.col * s.made k)
def SpOk (ch : Nat → Nat → Fp) (d : Nat) : List SpRow → Prop
 | [] => True
 | s :: t => s.red s.col = 1 ∧ (∀ u ∈ t, u.red s.col = 0) ∧ (∀ j, s.red j = S d (fun k => s.made k * ch k j)) ∧ SpOk ch d t
theorem splF_sum {ch : Nat → Nat → Fp} {d : Nat} : ∀ (t : List SpRow), SpOk ch d t → ∀ (left by_ : Nat → Fp) (j : Nat), (splF t left by_).1 j + S d (fun k => (splF t left by_).2 k * ch k j) = left j + S d (fun k => by_ k * ch k j)
 | [], _, left, by_, j => rfl
 | s :: t, h, left, by_, j => by
  rw [splF, splF_sum t h.2.2.2]
  show left j - left s.col * s.red j + S d (fun k => (by_ k + left s.col * s.made k) * ch k j) = _
  rw [S_congr (g := fun k => by_ k * ch k j + left s.col * (s.made k * ch k j)) (fun k _ => by grind), S_add, S_mul, ← h.2.2.1 j]; grind
theorem splF_zero {ch : Nat → Nat → Fp} {d : Nat} : ∀ (t : List SpRow), SpOk ch d t → ∀ (left by_ : Nat → Fp) (c : Nat), (left c = 0 ∧ ∀ u ∈ t, u.red c = 0) ∨ (∃ u ∈ t, u.col = c) → (splF t left by_).1 c = 0
 | [], _, left, by_, c, h => by
  rcases h with ⟨h, _⟩ | ⟨u, hu, _⟩
  ·exact h
  ·cases hu
 | s :: t, h, left, by_, c, hc => by
  rw [splF]
  refine splF_zero t h.2.2.2 _ _ c ?_
  rcases hc with ⟨h1, h2⟩ | ⟨u, hu, rfl⟩
  ·refine Or.inl ⟨?_, fun u hu => h2 u (List.mem_cons_of_mem _ hu)⟩
   show left c - left s.col * s.red c = 0
   rw [h1, h2 s List.mem_cons_self]; grind
  ·rcases List.mem_cons.1 hu with rfl | hu
   ·refine Or.inl ⟨?_, h.2.1⟩
    show left u.col - left u.col * u.red u.col = 0
    rw [h.1]; grind
   ·exact Or.inr ⟨u, hu, rfl⟩
theorem red_none {ch : Nat → Nat → Fp} {d : Nat} : ∀ (t : List SpRow), SpOk ch d t → ∀ (z : Nat → Fp), (∀ u ∈ t, S t.length (fun i => z i * ((t[i]?.map fun s => s.red u.col).getD 0)) = 0) → ∀ i, i < t.length → z i = 0
 | [], _, z, _, i, hi => by simp at hi
 | s :: t, h, z, hz, i, hi => by
  have h0 : z 0 = 0 := by
   have h1 := hz s List.mem_cons_self
   rw [List.length_cons, S_first, S_zero (n := t.length) (fun i hi => by
    rw [List.getElem?_cons_succ, List.getElem?_eq_getElem hi]
    show z (i + 1) * (t[i].red s.col) = 0
    rw [h.2.1 _ (List.getElem_mem hi)]; grind)] at h1
   have h2 : z 0 * s.red s.col + 0 = 0 := h1
   rw [h.1] at h2; grind
  cases i with
  | zero => exact h0
  | succ i =>
   refine red_none t h.2.2.2 (fun i => z (i + 1)) (fun u hu => ?_) i (by simpa using hi)
   have h1 := hz u (List.mem_cons_of_mem _ hu)
   rw [List.length_cons, S_first, h0] at h1
   rw [← S_congr (f := fun i => z (i + 1) * (((s :: t)[i + 1]?.map fun s => s.red u.col).getD 0)) (fun i _ => by rw [List.getElem?_cons_succ])]
   grind
def Indep (ch : Nat → Nat → Fp) (d : Nat) : Prop := ∀ x : Nat → Fp, (∀ j, S d (fun k => x k * ch k j) = 0) → ∀ k, k < d → x k = 0
def InSp (ch : Nat → Nat → Fp) (d : Nat) (row : Nat → Fp) : Prop := ∃ x : Nat → Fp, ∀ j, row j = S d (fun k => x k * ch k j)
theorem indep_add {ch : Nat → Nat → Fp} {d : Nat} (h : Indep ch d) (hn : ¬ InSp ch d (ch d)) : Indep ch (d + 1) := fun x hx k hk => by
 have hd : x d = 0 := Classical.byContradiction fun hne => hn ⟨fun k => - inv (x d) * x k, fun j => by
  have h1 := hx j
  have h2 := mul_inv hne
  rw [S] at h1
  rw [S_congr (g := fun k => - inv (x d) * (x k * ch k j)) (fun k _ => by grind), S_mul]
  generalize S d (fun k => x k * ch k j) = T at *
  grind⟩
 by_cases e : k = d
 ·rw [e]; exact hd
 ·refine h x (fun j => ?_) k (by omega)
  have h1 := hx j
  rw [S, hd] at h1
  grind
theorem coef_one {ch : Nat → Nat → Fp} {d : Nat} (h : Indep ch d) {x y : Nat → Fp} (e : ∀ j, S d (fun k => x k * ch k j) = S d (fun k => y k * ch k j)) : ∀ k, k < d → x k = y k := fun k hk => by
 have h1 := h (fun k => x k - y k) (fun j => by
  rw [S_congr (g := fun k => x k * ch k j - y k * ch k j) (fun k _ => by grind), S_sub, e j]; grind) k hk
 have h2 : x k - y k = 0 := h1
 grind
def redR (t : List SpRow) (i j : Nat) : Fp := (t[i]?.map fun s => s.red j).getD 0
def Gen (ch : Nat → Nat → Fp) (d : Nat) (t : List SpRow) : Prop := ∀ k, k < d → InSp (redR t) t.length (ch k)
theorem InSp.trans {ch e : Nat → Nat → Fp} {d n : Nat} {row : Nat → Fp} (h : InSp ch d row) (hg : ∀ k, k < d → InSp e n (ch k)) : InSp e n row := by
 obtain ⟨x, hx⟩ := h
 have hc : ∀ k, ∃ c : Nat → Fp, k < d → ∀ j, ch k j = S n (fun i => c i * e i j) := fun k => by
  by_cases hk : k < d
  ·obtain ⟨c, hc⟩ := hg k hk
   exact ⟨c, fun _ => hc⟩
  ·exact ⟨fun _ => 0, fun h => absurd h hk⟩
 refine ⟨fun i => S d (fun k => x k * (Classical.choose (hc k)) i), fun j => ?_⟩
 rw [hx j, S_congr (g := fun k => S n (fun i => x k * ((Classical.choose (hc k)) i * e i j))) (fun k hk => by rw [Classical.choose_spec (hc k) hk j, S_mul]), S_swap]
 refine S_congr fun i _ => ?_
 rw [← S_mul']
 exact S_congr fun k _ => by grind
theorem left_none {ch : Nat → Nat → Fp} {d : Nat} {t : List SpRow} (h : SpOk ch d t) (hg : Gen ch d t) {row : Nat → Fp} (hr : InSp ch d row) (j : Nat) : (splF t row (fun _ => 0)).1 j = 0 := by
 have hs := splF_sum t h row (fun _ => 0)
 have hl : InSp ch d (splF t row (fun _ => 0)).1 := by
  obtain ⟨x, hx⟩ := hr
  refine ⟨fun k => x k - (splF t row (fun _ => 0)).2 k, fun j => ?_⟩
  have h1 := hs j
  rw [hx j, S_zero (f := fun k => (0 : Fp) * ch k j) (fun k _ => by grind)] at h1
  rw [S_congr (g := fun k => x k * ch k j - (splF t row (fun _ => 0)).2 k * ch k j) (fun k _ => by grind), S_sub]
  grind
 obtain ⟨z, hz⟩ := hl.trans hg
 have h0 := red_none t h z (fun u hu => by
  have h1 := hz u.col
  rw [splF_zero t h row (fun _ => 0) u.col (Or.inr ⟨u, hu, rfl⟩)] at h1
  exact h1.symm)
 rw [hz j]
 exact S_zero fun i hi => by rw [h0 i hi]; grind
theorem left_iff {ch : Nat → Nat → Fp} {d : Nat} {t : List SpRow} (h : SpOk ch d t) (hg : Gen ch d t) (row : Nat → Fp) : (∀ j, (splF t row (fun _ => 0)).1 j = 0) ↔ InSp ch d row := by
 constructor
 ·intro h0
  refine ⟨(splF t row (fun _ => 0)).2, fun j => ?_⟩
  have h1 := splF_sum t h row (fun _ => 0) j
  rw [h0 j, S_zero (f := fun k => (0 : Fp) * ch k j) (fun k _ => by grind)] at h1
  grind
 ·intro hr j; exact left_none h hg hr j
theorem SpOk.snoc {ch : Nat → Nat → Fp} {d : Nat} {n : SpRow} (h1 : n.red n.col = 1) (h2 : ∀ j, n.red j = S (d + 1) (fun k => n.made k * ch k j)) : ∀ {t : List SpRow}, SpOk ch d t → (∀ s ∈ t, s.made d = 0) → (∀ s ∈ t, n.red s.col = 0) → SpOk ch (d + 1) (t ++ [n])
 | [], _, _, _ => ⟨h1, fun u hu => (by cases hu), h2, trivial⟩
 | s :: t, h, hm, hz => ⟨h.1, fun u hu => by
   rcases List.mem_append.1 hu with hu | hu
   ·exact h.2.1 u hu
   ·rw [List.mem_singleton.1 hu]; exact hz s List.mem_cons_self, fun j => by
   rw [S, ← h.2.2.1 j, hm s List.mem_cons_self]; grind, SpOk.snoc h1 h2 h.2.2.2 (fun u hu => hm u (List.mem_cons_of_mem _ hu)) (fun u hu => hz u (List.mem_cons_of_mem _ hu))⟩
theorem redR_left {t : List SpRow} {n : SpRow} {i j : Nat} (hi : i < t.length) : redR (t ++ [n]) i j = redR t i j := by
 unfold redR; rw [List.getElem?_append_left hi]
theorem redR_last (t : List SpRow) (n : SpRow) (j : Nat) : redR (t ++ [n]) t.length j = n.red j := by
 unfold redR; rw [List.getElem?_append_right (Nat.le_refl _), Nat.sub_self]; rfl
theorem InSp.snoc {t : List SpRow} {n : SpRow} {row : Nat → Fp} (h : InSp (redR t) t.length row) : InSp (redR (t ++ [n])) (t ++ [n]).length row := by
 obtain ⟨x, hx⟩ := h
 refine ⟨fun i => if i < t.length then x i else 0, fun j => ?_⟩
 rw [List.length_append, List.length_singleton, S]
 show row j = S t.length (fun k => (if k < t.length then x k else 0) * redR (t ++ [n]) k j) + (if t.length < t.length then x t.length else 0) * redR (t ++ [n]) t.length j
 rw [if_neg (Nat.lt_irrefl _), hx j, S_congr (f := fun k => (if k < t.length then x k else 0) * redR (t ++ [n]) k j) (g := fun i => x i * redR t i j) (fun i hi => by rw [if_pos hi, redR_left hi])]; grind
theorem InSp.plus {e : Nat → Nat → Fp} {n : Nat} {u v : Nat → Fp} (hu : InSp e n u) (hv : InSp e n v) (a : Fp) : InSp e n (fun j => u j + a * v j) := by
 obtain ⟨x, hx⟩ := hu
 obtain ⟨y, hy⟩ := hv
 refine ⟨fun i => x i + a * y i, fun j => ?_⟩
 rw [S_congr (g := fun i => x i * e i j + a * (y i * e i j)) (fun i _ => by grind), S_add, S_mul, ← hx j, ← hy j]
def newRow (t : List SpRow) (row : Nat → Fp) (d at_ : Nat) : SpRow := ⟨at_, fun j => (splF t row (fun _ => 0)).1 j * inv ((splF t row (fun _ => 0)).1 at_), fun k => if k = d then inv ((splF t row (fun _ => 0)).1 at_) else - inv ((splF t row (fun _ => 0)).1 at_) * (splF t row (fun _ => 0)).2 k⟩
section
variable {ch : Nat → Nat → Fp} {d at_ : Nat} {t : List SpRow}
theorem new_ok (h : SpOk ch d t) (hm : ∀ s ∈ t, ∀ k, d ≤ k → s.made k = 0) (hat : (splF t (ch d) (fun _ => 0)).1 at_ ≠ 0) : SpOk ch (d + 1) (t ++ [newRow t (ch d) d at_]) := by
 have hi := mul_inv hat
 refine SpOk.snoc hi (fun j => ?_) h (fun s hs => hm s hs d (Nat.le_refl _)) (fun s hs => ?_)
 ·have h1 := splF_sum t h (ch d) (fun _ => 0) j
  rw [S_zero (f := fun k => (0 : Fp) * ch k j) (fun k _ => by grind)] at h1
  show (splF t (ch d) fun _ => 0).1 j * inv _ = S (d + 1) (fun k => (if k = d then inv _ else - inv _ * (splF t (ch d) fun _ => 0).2 k) * ch k j)
  rw [S, if_pos rfl, S_congr (g := fun k => - inv ((splF t (ch d) fun _ => 0).1 at_) * ((splF t (ch d) fun _ => 0).2 k * ch k j)) (fun k hk => by rw [if_neg (by omega)]; grind), S_mul]
  generalize S d (fun k => (splF t (ch d) fun _ => 0).2 k * ch k j) = T at *
  grind
 ·show (splF t (ch d) fun _ => 0).1 s.col * inv _ = 0
  rw [splF_zero t h (ch d) (fun _ => 0) s.col (Or.inr ⟨s, hs, rfl⟩)]; grind
theorem new_gen (h : SpOk ch d t) (hg : Gen ch d t) (hat : (splF t (ch d) (fun _ => 0)).1 at_ ≠ 0) : Gen ch (d + 1) (t ++ [newRow t (ch d) d at_]) := fun k hk => by
 have hi := mul_inv hat
 by_cases e : k = d
 ·subst e
  have hb : InSp (redR (t ++ [newRow t (ch k) k at_])) (t ++ [newRow t (ch k) k at_]).length (fun j => S k (fun q => (splF t (ch k) fun _ => 0).2 q * ch q j)) :=
   InSp.trans ⟨(splF t (ch k) fun _ => 0).2, fun _ => rfl⟩ (fun q hq => (hg q hq).snoc)
  have hn : InSp (redR (t ++ [newRow t (ch k) k at_])) (t ++ [newRow t (ch k) k at_]).length (newRow t (ch k) k at_).red :=
   ⟨fun i => if i = t.length then 1 else 0, fun j => by
    rw [List.length_append, List.length_singleton, S]
    show _ = S t.length (fun i => (if i = t.length then (1 : Fp) else 0) * redR (t ++ [newRow t (ch k) k at_]) i j) + (if t.length = t.length then (1 : Fp) else 0) * redR (t ++ [newRow t (ch k) k at_]) t.length j
    rw [if_pos rfl, redR_last, S_zero (fun i hi => by rw [if_neg (by omega)]; grind)]; grind⟩
  have := hb.plus hn ((splF t (ch k) fun _ => 0).1 at_)
  rwa [show (fun j => S k (fun q => (splF t (ch k) fun _ => 0).2 q * ch q j) + (splF t (ch k) fun _ => 0).1 at_ * (newRow t (ch k) k at_).red j) = ch k from funext fun j => by
   have h1 := splF_sum t h (ch k) (fun _ => 0) j
   rw [S_zero (f := fun q => (0 : Fp) * ch q j) (fun q _ => by grind)] at h1
   show _ + _ * ((splF t (ch k) fun _ => 0).1 j * inv _) = _
   grind] at this
 ·exact (hg k (by omega)).snoc
end
end Go.Proofs.YtlpldfocljnpnaaDoor
namespace Go.Proofs.YtlpldfocljnpnaaDoor
def rowF (x : List Int) (j : Nat) : Fp := toF (x.getD j 0)
def rowsF (l : List (List Int)) (k j : Nat) : Fp := rowF (l.getD k []) j
def sysL (l : List (List Int)) (N : Nat) : List (List Int) := mat (fun i k => (l.getD k []).getD i 0) N l.length
def madeL (l : List (List Int)) (want : List Int) : Option (List Int) := solvedM (sysL l want.length) want l.length
def okRows (l : List (List Int)) (N : Nat) : Prop := ∀ x ∈ l, x.length = N ∧ ∀ u ∈ x, 0 ≤ u ∧ u < 65521
theorem okRows.get {l : List (List Int)} {N : Nat} (h : okRows l N) (k i : Nat) : 0 ≤ (l.getD k []).getD i 0 ∧ (l.getD k []).getD i 0 < 65521 := by
 by_cases hk : k < l.length
 ·rw [List.getD_eq_getElem?_getD (l := l), List.getElem?_eq_getElem hk]
  have hx := h _ (List.getElem_mem hk)
  generalize l[k] = x at *
  show 0 ≤ x.getD i 0 ∧ x.getD i 0 < 65521
  by_cases hi : i < x.length
  ·rw [List.getD_eq_getElem?_getD, List.getElem?_eq_getElem hi]; exact hx.2 _ (List.getElem_mem hi)
  ·rw [List.getD_eq_getElem?_getD, List.getElem?_eq_none (by omega)]; decide
 ·rw [List.getD_eq_getElem?_getD (l := l), List.getElem?_eq_none (by omega)]
  show 0 ≤ ([] : List Int).getD i 0 ∧ ([] : List Int).getD i 0 < 65521
  simp
theorem okM_sysL {l : List (List Int)} {N : Nat} (h : okRows l N) : okM (sysL l N) N l.length := okM_mat _ _ _ fun i k _ _ => h.get k i
theorem rowF_out {x : List Int} {N j : Nat} (h : x.length = N) (hj : N ≤ j) : rowF x j = 0 := by
 rw [rowF, List.getD_eq_getElem?_getD, List.getElem?_eq_none (by omega)]; rfl
theorem rowsF_out {l : List (List Int)} {N k j : Nat} (h : okRows l N) (hj : N ≤ j) : rowsF l k j = 0 := by
 unfold rowsF
 by_cases hk : k < l.length
 ·rw [List.getD_eq_getElem?_getD (l := l), List.getElem?_eq_getElem hk]; exact rowF_out (h _ (List.getElem_mem hk)).1 hj
 ·rw [List.getD_eq_getElem?_getD (l := l), List.getElem?_eq_none (by omega)]; rfl
theorem sysL_sol {l : List (List Int)} {want : List Int} {N : Nat} (h : okRows l N) (hw : want.length = N) (y : Nat → Fp) : SolL (sysL l N) want N l.length y ↔ ∀ j, rowF want j = S l.length (fun k => y k * rowsF l k j) := by
 have e : ∀ i k, i < N → k < l.length → G (sysL l N) i k = rowsF l k i := fun i k hi hk => by
  show toF (gM _ i k) = _
  rw [sysL, gM_mat _ hi hk]; rfl
 constructor
 ·intro hs j
  by_cases hj : j < N
  ·rw [show rowF want j = toF (want.getD j 0) from rfl, ← hs j hj]
   exact S_congr fun k hk => by rw [e j k hj hk]; grind
  ·rw [rowF_out hw (by omega), S_zero fun k _ => by rw [rowsF_out h (by omega)]; grind]
 ·intro hs i hi
  rw [show toF (want.getD i 0) = rowF want i from rfl, hs i]
  exact S_congr fun k hk => by rw [e i k hi hk]; grind
theorem madeL_some {l : List (List Int)} {want : List Int} {N : Nat} (h : okRows l N) (hw : want.length = N) (hb : ∀ u ∈ want, 0 ≤ u ∧ u < 65521) : (madeL l want).isSome = true ↔ InSp (rowsF l) l.length (rowF want) := by
 unfold madeL
 rw [hw]
 constructor
 ·intro hs
  obtain ⟨x, hx⟩ := Option.isSome_iff_exists.1 hs
  obtain ⟨-, -, h3⟩ := solvedM_sound (okM_sysL h) hb hw hx
  exact ⟨_, (sysL_sol h hw _).1 h3⟩
 ·rintro ⟨y, hy⟩
  rw [solvedM_complete (okM_sysL h) hb hw ((sysL_sol h hw y).2 hy)]; rfl
theorem madeL_one {l : List (List Int)} {want x : List Int} {N : Nat} (h : okRows l N) (hi : Indep (rowsF l) l.length) (hw : want.length = N) (hb : ∀ u ∈ want, 0 ≤ u ∧ u < 65521) (hx : x.length = l.length) (hxb : ∀ u ∈ x, 0 ≤ u ∧ u < 65521) (hs : ∀ j, rowF want j = S l.length (fun k => rowF x k * rowsF l k j)) : madeL l want = some x := by
 have h1 := (madeL_some h hw hb).2 ⟨_, hs⟩
 obtain ⟨y, hy⟩ := Option.isSome_iff_exists.1 h1
 rw [hy]
 congr 1
 unfold madeL at hy
 rw [hw] at hy
 obtain ⟨h2, h3, h4⟩ := solvedM_sound (okM_sysL h) hb hw hy
 have h5 := (sysL_sol h hw _).1 h4
 have h6 := coef_one hi (x := fun k => toF (y.getD k 0)) (y := rowF x) fun j => by rw [← h5 j]; exact hs j
 have bd : ∀ (z : List Int), (∀ u ∈ z, 0 ≤ u ∧ u < 65521) → ∀ k, 0 ≤ z.getD k 0 ∧ z.getD k 0 < 65521 := fun z hz k => by
  by_cases hk : k < z.length
  ·rw [List.getD_eq_getElem?_getD, List.getElem?_eq_getElem hk]; exact hz _ (List.getElem_mem hk)
  ·rw [List.getD_eq_getElem?_getD, List.getElem?_eq_none (by omega)]; decide
 apply List.ext_getElem (by rw [h2, hx])
 intro k hk1 hk2
 have h7 := toF_inj (bd y h3 k) (bd x hxb k) (h6 k (by omega))
 rw [List.getD_eq_getElem?_getD, List.getElem?_eq_getElem hk1, List.getD_eq_getElem?_getD, List.getElem?_eq_getElem hk2] at h7
 exact h7
end Go.Proofs.YtlpldfocljnpnaaDoor
namespace Go.Proofs.YtlpldfocljnpnaaDoor
open Go.RowKit Go.Shelf
structure Rule where
 by_ : List Int
 start : List Int
def RdR (w : World) (v : Value) (r : Rule) : Prop := ∃ a b, v = .agg #[a, b] ∧ RdI w a r.by_ ∧ RdI w b r.start
theorem RdR.below {B : Nat} {w w' : World} {v : Value} {r : Rule} (h : RdR w v r) (hB : Below B w w') (hl : w.heap.size ≤ B) : RdR w' v r := by
 obtain ⟨a, b, rfl, h1, h2⟩ := h
 exact ⟨a, b, rfl, h1.below hB hl, h2.below hB hl⟩
end Go.Proofs.YtlpldfocljnpnaaDoor
namespace Go.Proofs.YtlpldfocljnpnaaDoor
open Go.RowKit Go.Shelf
def rightR (r : Rule) : Int := if r.by_.length > 12 then 2 else if r.start.length ≠ r.by_.length then 4 else if isRes r.by_ = false ∨ isRes r.start = false then 3 else 0
theorem rightR_ok {r : Rule} (h : rightR r = 0) : r.by_.length ≤ 12 ∧ r.start.length = r.by_.length ∧ (∀ x ∈ r.by_, 0 ≤ x ∧ x < 65521) ∧ ∀ x ∈ r.start, 0 ≤ x ∧ x < 65521 := by
 unfold rightR at h
 split at h
 ·cases h
 ·rename_i h1
  split at h
  ·cases h
  ·rename_i h2
   split at h
   ·cases h
   ·rename_i h3
    exact ⟨by omega, by simpa using h2, isRes_iff.1 (by cases hh : isRes r.by_ <;> simp_all), isRes_iff.1 (by cases hh : isRes r.start <;> simp_all)⟩
theorem Right_any (r : Rule) (v : Value) (w : World) (h : RdR w v r) :
  Calls Tryd.prog 98 #[v] w fun e w' => e = .returned (.int .i64 (rightR r)) ∧ Below w.heap.size w w' := by
 obtain ⟨a, b, rfl, ra, rb⟩ := h
 have hbx : Below w.heap.size w (w.alloc (.cells #[a, b] 41)) := (Below.refl _ _).alloc (Nat.le_refl _) _
 have hg : (w.alloc (.cells #[a, b] 41)).heap[w.heap.size]? = some (.cells #[a, b] 41 (0, 0)) := heap_alloc_new _ _
 have hsz : (w.alloc (.cells #[a, b] 41)).heap.size = w.heap.size + 1 := by simp
 have hi := Lib.hid (fun W (hW : Below w.heap.size w W) => is_any r.by_ a W (ra.below hW (Nat.le_refl _)))
 have hj := Lib.hid (fun W (hW : Below w.heap.size w W) => is_any r.start b W (rb.below hW (Nat.le_refl _)))
 obtain ⟨A, c, rfl, h1, h2, -⟩ := ra.open_
 obtain ⟨B, d, rfl, g1, g2, -⟩ := rb.open_
 have hc0 : (w.alloc (.cells #[.slice A r.by_.length c, .slice B r.start.length d] 41)).cell? ⟨w.heap.size, 0, none⟩ = some (.slice A r.by_.length c) := by unfold World.cell?; rw [hg]; rfl
 have hc1 : (w.alloc (.cells #[.slice A r.by_.length c, .slice B r.start.length d] 41)).cell? ⟨w.heap.size, 1, none⟩ = some (.slice B r.start.length d) := by unfold World.cell?; rw [hg]; rfl
 have hR : Hid (rightR r = if r.by_.length > 12 then 2 else if r.start.length ≠ r.by_.length then 4 else if isRes r.by_ = false ∨ isRes r.start = false then 3 else 0) := Lib.hid rfl
 clear ra rb hg
 generalize r.by_.length = n at *
 generalize r.start.length = m at *
 by_cases q1 : n > 12
 ·have hr : Hid (rightR r = 2) := Lib.hid (by rw [hR.out, if_pos q1])
  have q2 : (12 : Int) < (n : Int) := by omega
  go_enter Tryd.func98, Tryd.ntmps98
  go_wp2
  go_ret
  exact ⟨by rw [hr.out]; rfl, hbx⟩
 ·have q2 : ¬ (12 : Int) < (n : Int) := by omega
  by_cases q3 : m = n
  ·subst q3
   have hne : ((m : Int) != (m : Int)) = false := by simp
   cases p1 : isRes r.by_
   ·have hr : Hid (rightR r = 3) := Lib.hid (by rw [hR.out, if_neg q1, if_neg (by simp), if_pos (.inl p1)])
    rw [p1] at hi
    go_enter Tryd.func98, Tryd.ntmps98
    go_wp2_with fail
    refine (hi.out _ hbx).mono ?_; rintro e W1 ⟨rfl, hB1⟩
    go_wp2
    go_ret
    exact ⟨by rw [hr.out]; rfl, Below.then_ hbx hB1⟩
   ·rw [p1] at hi
    cases p2 : isRes r.start
    ·have hr : Hid (rightR r = 3) := Lib.hid (by rw [hR.out, if_neg q1, if_neg (by simp), if_pos (.inr p2)])
     rw [p2] at hj
     go_enter Tryd.func98, Tryd.ntmps98
     go_wp2_with fail
     refine (hi.out _ hbx).mono ?_; rintro e W1 ⟨rfl, hB1⟩
     have hc2 := (hB1.cell (p := ⟨w.heap.size, 1, none⟩) (by rw [hsz]; exact Nat.lt_succ_self _)).trans hc1
     have hB2 := Below.then_ hbx hB1
     go_wp2_with fail
     refine (hj.out _ hB2).mono ?_; rintro e W2 ⟨rfl, hB3⟩
     go_wp2
     go_ret
     exact ⟨by rw [hr.out]; rfl, Below.then_ hB2 hB3⟩
    ·have hr : Hid (rightR r = 0) := Lib.hid (by rw [hR.out, if_neg q1, if_neg (by simp), if_neg (by simp [p1, p2])])
     rw [p2] at hj
     go_enter Tryd.func98, Tryd.ntmps98
     go_wp2_with fail
     refine (hi.out _ hbx).mono ?_; rintro e W1 ⟨rfl, hB1⟩
     have hc2 := (hB1.cell (p := ⟨w.heap.size, 1, none⟩) (by rw [hsz]; exact Nat.lt_succ_self _)).trans hc1
     have hB2 := Below.then_ hbx hB1
     go_wp2_with fail
     refine (hj.out _ hB2).mono ?_; rintro e W2 ⟨rfl, hB3⟩
     go_wp2
     go_ret
     exact ⟨by rw [hr.out]; rfl, Below.then_ hB2 hB3⟩
  ·have hr : Hid (rightR r = 4) := Lib.hid (by rw [hR.out, if_neg q1, if_pos q3])
   have hne : ((m : Int) != (n : Int)) = true := by rw [bne_iff_ne]; omega
   go_enter Tryd.func98, Tryd.ntmps98
   go_wp2
   go_ret
   exact ⟨by rw [hr.out]; rfl, hbx⟩
end Go.Proofs.YtlpldfocljnpnaaDoor
namespace Go.Proofs.YtlpldfocljnpnaaDoor
def rowsL (l : List Int) (o : Nat) : List (List Int) := mat (fun i k => l.getD (o + i - 1 - k) 0) (l.length - o) o
def fitO (l : List Int) (o : Nat) : Option (List Int) := solvedM (rowsL l o) (l.drop o) o
def fitL (l : List Int) : List Nat → Option Rule
 | [] => none
 | o :: os => match fitO l o with
  | some by_ => some ⟨by_, l.take o⟩
  | none => fitL l os
def fitM (l : List Int) (most : Nat) : Option Rule := fitL l (List.range (min most l.length + 1))
def leastR (l : List Int) : Rule × Int := if l.length > 64 then (⟨[], []⟩, 2) else if isRes l = false then (⟨[], []⟩, 3) else match fitM l 12 with
 | some r => (r, 0)
 | none => (⟨[], []⟩, 11)
end Go.Proofs.YtlpldfocljnpnaaDoor
namespace Go.Proofs.YtlpldfocljnpnaaDoor
open Go.RowKit Go.Shelf
theorem ext_getD {xs ys : List Int} (hl : xs.length = ys.length) (h : ∀ j, j < xs.length → xs.getD j 0 = ys.getD j 0) : xs = ys := by
 apply List.ext_getElem hl
 intro j h1 h2
 have := h j h1
 rwa [List.getD_eq_getElem?_getD, List.getD_eq_getElem?_getD, List.getElem?_eq_getElem h1, List.getElem?_eq_getElem h2] at this
theorem list_any (xs ys : List Int) (v u : Value) (w : World) (hx : RdI w v xs) (hy : RdI w u ys) :
  Calls Tryd.prog 74 #[v, u] w fun e w' => e = .returned (.bool (decide (xs = ys))) ∧ Below w.heap.size w w' := by
 obtain ⟨A, c, rfl, h1, h2, h3⟩ := hx.open_
 obtain ⟨B, d, rfl, g1, g2, g3⟩ := hy.open_
 by_cases hl : xs.length = ys.length
 ·have hlen := Lib.hid hl
  replace h3 := Lib.hid h3
  replace g3 := Lib.hid g3
  clear hx hy
  rw [← hl] at g1 g2 g3 ⊢
  generalize hn : xs.length = n at *
  replace hn := Lib.hid hn
  clear hl
  go_enter Tryd.func74, Tryd.ntmps74
  go_wp2
  go_loopw [5] (fun i wr => ∃ k : Nat, k ≤ n ∧ i = .int .i64 k ∧ Hid (Below w.heap.size w wr) ∧ Hid (∀ j, j < k → xs.getD j 0 = ys.getD j 0)) (fun i _ => n - (intOf i).toNat)
  case atStart => exact ⟨0, Nat.zero_le _, rfl, Lib.hid (Below.refl _ _), Lib.hid (fun j hj => by omega)⟩
  case round =>
   obtain ⟨k, hk, rfl, hB, hE⟩ := hrel
   by_cases hlt : k < n
   ·obtain ⟨b0, off, rfl, hc⟩ := h3.out k hlt
    obtain ⟨b1, off1, rfl, hc1⟩ := g3.out k hlt
    replace hc := (hB.out.cell (p := ⟨b0, off + k, none⟩) (World.block_lt_of_cell? w _ hc)).trans hc
    replace hc1 := (hB.out.cell (p := ⟨b1, off1 + k, none⟩) (World.block_lt_of_cell? w _ hc1)).trans hc1
    have k1 : (k : Int) < (n : Int) := by omega
    have k0 : (0 : Int) ≤ (k : Int) := by omega
    have hBd := Lib.hid hB.out.drew
    by_cases he : xs.getD k 0 = ys.getD k 0
    ·have hE2 : Hid (∀ j, j < k + 1 → xs.getD j 0 = ys.getD j 0) := Lib.hid (fun j hj => by
      by_cases e : j = k
      ·rw [e]; exact he
      ·exact hE.out j (by omega))
     rw [he] at hc
     replace he := Lib.hid he
     generalize ys.getD k 0 = y at hc hc1
     go_wp2
     go_still_tail 8, (by kernel_rfl)
     change wpList _ _ _ _ _ wr.drew
     go_wp2
     go_roundw
     case rel => exact ⟨k + 1, by omega, by go_num, hBd, hE2⟩
     case measure => simp [intOf]; omega
    ·have hne : (xs.getD k 0 != ys.getD k 0) = true := by rw [bne_iff_ne]; exact he
     have hr : Hid (decide (xs = ys) = false) := Lib.hid (by rw [decide_eq_false_iff_not]; intro e; exact he (by rw [e]))
     replace he := Lib.hid he
     generalize xs.getD k 0 = x at hc hne
     generalize ys.getD k 0 = y at hc1 hne
     go_wp2
     go_still_tail 8, (by kernel_rfl)
     change wpList _ _ _ _ _ wr.drew
     go_wp2
     go_ret
     exact ⟨by rw [hr.out]; rfl, hBd.out⟩
   ·have hr : Hid (decide (xs = ys) = true) := Lib.hid (by rw [decide_eq_true_iff]; exact ext_getD (hn.out.trans hlen.out) (fun j hj => hE.out j (by have := hn.out; omega)))
    obtain rfl : k = n := by omega
    go_wp2
    go_ret
    exact ⟨by rw [hr.out]; rfl, hB.out⟩
 ·have hne : ((xs.length : Int) != (ys.length : Int)) = true := by rw [bne_iff_ne]; omega
  have hr : Hid (decide (xs = ys) = false) := Lib.hid (by rw [decide_eq_false_iff_not]; intro e; exact hl (by rw [e]))
  clear hx hy h3 g3
  generalize xs.length = n at *
  generalize ys.length = m at *
  go_enter Tryd.func74, Tryd.ntmps74
  go_wp2
  go_ret
  exact ⟨by rw [hr.out]; rfl, Below.refl _ _⟩
end Go.Proofs.YtlpldfocljnpnaaDoor
namespace Go.Proofs.YtlpldfocljnpnaaDoor
open Go.RowKit Go.Shelf
structure Btw (lo hi : Nat) (w w' : World) : Prop where
 os : w'.os = w.os
 tape : w'.tape = w.tape
 output : w'.output = w.output
 size : w.heap.size ≤ w'.heap.size
 block : ∀ k, k < w.heap.size → (k < lo ∨ hi ≤ k) → w'.heap[k]? = w.heap[k]?
namespace Btw
variable {lo hi : Nat} {w w' w'' : World}
theorem refl (lo hi : Nat) (w : World) : Btw lo hi w w := ⟨rfl, rfl, rfl, Nat.le_refl _, fun _ _ _ => rfl⟩
theorem trans (h : Btw lo hi w w') (k : Btw lo hi w' w'') : Btw lo hi w w'' :=
 ⟨k.os.trans h.os, k.tape.trans h.tape, k.output.trans h.output, Nat.le_trans h.size k.size, fun i hi hn => (k.block i (Nat.lt_of_lt_of_le hi h.size) hn).trans (h.block i hi hn)⟩
theorem of_below (h : Below w.heap.size w w') : Btw lo hi w w' := ⟨h.os, h.tape, h.output, h.size, fun k hk _ => h.block k hk⟩
theorem below (h : Btw lo hi w w') (hl : lo ≤ w.heap.size) : Below lo w w' := ⟨h.os, h.tape, h.output, h.size, fun k hk => h.block k (by omega) (.inl hk)⟩
theorem setCells {g : Nat} (hl : lo ≤ g) (hh : g < hi) : ∀ (vs : List Value) (o : Nat) (w : World), Btw lo hi w (w.setCells g o vs)
 | [], _, w => refl lo hi w
 | v :: r, o, w => (show Btw lo hi w (w.setCell ⟨g, o, none⟩ v) from ⟨rfl, rfl, rfl, by simp [World.setCell], fun k _ hk => Below.heap_setCell _ _ _ _ (by show k ≠ g; omega)⟩).trans (setCells hl hh r (o + 1) _)
theorem owns (h : Btw lo hi w w') {base : Nat} {e : TypeId} {size : Nat} {v : Value} {n : Nat} {xs : List Value} (ho : w.ownsRow base e size v n xs) (hb : hi ≤ base) : w'.ownsRow base e size v n xs := by
 refine ⟨ho.1, ?_⟩
 rcases ho.2 with hn | ⟨g, cap, cur, rfl, hb', hgg, rest⟩
 ·exact .inl hn
 ·exact .inr ⟨g, cap, cur, rfl, hb', (h.block g (Array.getElem?_eq_some_iff.1 hgg).1 (.inr (by omega))).trans hgg, rest⟩
theorem mono (h : Btw lo hi w w') {lo' hi' : Nat} (h1 : lo' ≤ lo) (h2 : hi ≤ hi') : Btw lo' hi' w w' := ⟨h.os, h.tape, h.output, h.size, fun k hk hn => h.block k hk (by omega)⟩
end Btw
def FreshRow (b lo hi : Nat) (w : World) (n : Nat) (u : Value) : Prop :=
 ∃ A c, u = .slice A n c ∧ n ≤ 140737488355328 ∧ (0 < n → ∃ g o, A = some ⟨g, o, none⟩ ∧ lo ≤ g ∧ g < hi ∧ g ≠ b ∧ (∀ j, j < n → (w.cell? ⟨g, o + j, none⟩).isSome = true ∧ w.frozen? ⟨g, o + j, none⟩ = false))
def FreshV (lo hi : Nat) (w : World) (v : Value) (n : Nat) (ls : Nat → Nat) : Prop :=
 ∃ A c, v = .slice A n c ∧ n ≤ c ∧ n ≤ 140737488355328 ∧ (0 < n → ∃ b off, A = some ⟨b, off, none⟩ ∧ ∀ k, k < n → ∃ u, w.cell? ⟨b, off + k, none⟩ = some u ∧ FreshRow b lo hi w (ls k) u)
theorem FreshRow.kept {b lo hi n : Nat} {w w' : World} {u : Value} (h : FreshRow b lo hi w n u) (hb : Below w.heap.size w w') : FreshRow b lo hi w' n u := by
 obtain ⟨A, c, rfl, hn, h⟩ := h
 refine ⟨A, c, rfl, hn, fun hp => ?_⟩
 obtain ⟨g', o', rfl, h1, h2, h5, h3⟩ := h hp
 refine ⟨g', o', rfl, h1, h2, h5, fun j hj => ?_⟩
 obtain ⟨x, hx⟩ := Option.isSome_iff_exists.1 (h3 j hj).1
 have hlt := World.block_lt_of_cell? w _ hx
 exact ⟨by rw [hb.cell (p := ⟨g', o' + j, none⟩) hlt]; exact (h3 j hj).1, by rw [hb.frozen (p := ⟨g', o' + j, none⟩) hlt]; exact (h3 j hj).2⟩
theorem FreshV.kept {lo hi n : Nat} {w w' : World} {v : Value} {ls : Nat → Nat} (h : FreshV lo hi w v n ls) (hb : Below w.heap.size w w') : FreshV lo hi w' v n ls := by
 obtain ⟨A, c, rfl, h1, h2, h3⟩ := h
 refine ⟨A, c, rfl, h1, h2, fun hp => ?_⟩
 obtain ⟨b, off, rfl, h4⟩ := h3 hp
 refine ⟨b, off, rfl, fun k hk => ?_⟩
 obtain ⟨u, hu, hr⟩ := h4 k hk
 exact ⟨u, (hb.cell (p := ⟨b, off + k, none⟩) (World.block_lt_of_cell? w _ hu)).trans hu, hr.kept hb⟩
theorem own_fresh {w : World} {base b : Nat} {v : Value} {xs : List Int} (h : OwnI w base v xs) (hn : xs.length ≤ 140737488355328) (hb : v.ownBlock ≠ some b) : FreshRow b base w.heap.size w xs.length v := by
 have h' := h
 unfold OwnI at h
 obtain ⟨A, c, rfl⟩ := own_form h
 refine ⟨A, c, rfl, hn, fun hp => ?_⟩
 rcases h.2 with ⟨e, e2⟩ | ⟨g, cap, cur, e, hbg, hh, hc, _⟩
 ·omega
 ·simp only [Value.slice.injEq] at e
  obtain ⟨rfl, -, rfl⟩ := e
  refine ⟨g, 0, rfl, hbg, (Array.getElem?_eq_some_iff.1 hh).1, fun e => hb (by rw [← e]; rfl), fun j hj => ?_⟩
  rw [Nat.zero_add]
  exact ⟨by rw [h.cellAt j (by omega)]; simp [ints, hj], h.frozenAt j⟩
theorem OwnM.fresh {w : World} {base : Nat} {v : Value} {rs : List (List Int)} (h : OwnM w base v rs) (hn : rs.length ≤ 140737488355328) (hm : ∀ r ∈ rs, r.length ≤ 140737488355328) : FreshV base w.heap.size w v rs.length fun k => (rs.getD k []).length := by
 obtain ⟨vs, h1, h2, h3⟩ := h
 have hl : vs.length = rs.length := by have := h1.1; omega
 obtain ⟨A, c, rfl⟩ := own_form h1
 refine ⟨A, c, rfl, ?_, hn, fun hp => ?_⟩
 ·rcases h1.2 with ⟨e, e2⟩ | ⟨g, cap, cur, e, hbg, hh, hc, _⟩
  ·omega
  ·simp only [Value.slice.injEq] at e; omega
 ·obtain ⟨g, c', e, hb, hg⟩ := h1.form (by omega)
  simp only [Value.slice.injEq] at e
  obtain ⟨rfl, -, rfl⟩ := e
  refine ⟨g, 0, rfl, fun k hk => ?_⟩
  have hu : vs[k]? = some vs[k] := List.getElem?_eq_getElem (by omega)
  have hr : rs[k]? = some (rs.getD k []) := by rw [List.getD_eq_getElem?_getD, List.getElem?_eq_getElem hk]; rfl
  refine ⟨vs[k], by rw [Nat.zero_add, h1.cellAt k (by omega)]; exact hu, own_fresh (h2 k _ _ hr hu) (hm _ (List.mem_of_getElem? hr)) (fun e => ?_)⟩
  rcases own_ne (h2 k _ _ hr hu) h1 (by decide) with h | h
  ·rw [h] at e; cases e
  ·exact h e
end Go.Proofs.YtlpldfocljnpnaaDoor
namespace Go.Proofs.YtlpldfocljnpnaaDoor
open Go.RowKit Go.Shelf
theorem add_off (b o j : Nat) : (⟨b, o, none⟩ : Addr).add j = ⟨b, o + j, none⟩ := by unfold Addr.add; split <;> simp_all
theorem OwnMv.upd {w w1 : World} {base g c n : Nat} {rs : List (List Int)} {vs : List Value} (h : OwnMv w base (.slice (some ⟨g, 0, none⟩) n c) rs vs) {i : Nat} {r r' : List Int} {u v' : Value} (hi : rs[i]? = some r)
  (hu : vs[i]? = some u) (hg : w.grownBy w1 u.ownBlock) (ho : OwnI w1 base v' r') (hn : v'.ownBlock = none ∨ v'.ownBlock = u.ownBlock ∨ ∃ k, v'.ownBlock = some k ∧ w.heap.size ≤ k) :
  OwnMv (w1.setCell ⟨g, i, none⟩ v') base (.slice (some ⟨g, 0, none⟩) n c) (rs.set i r') (vs.set i v') := by
 obtain ⟨h1, h2, h3⟩ := h
 obtain rfl : rs.length = n := by
  rcases h1.2 with ⟨e, _⟩ | ⟨_, _, _, e, _⟩
  ·simp at e
  ·simp only [Value.slice.injEq] at e; exact e.2.1.symm
 have hlt := (List.getElem?_eq_some_iff.1 hi).1
 have hl : vs.length = rs.length := by have := h1.1; omega
 have hou := h2 i r u hi hu
 have hne := own_ne h1 hou (by decide)
 have h1' := (h1.kept hg hne).stored i v'
 have hv' : v'.ownBlock ≠ some g := by
  intro e
  rcases own_ne ho (h1.kept hg hne) (by decide) with h | h
  ·rw [h] at e; cases e
  ·exact h e
 refine ⟨by rw [List.length_set]; exact h1'.1, fun j s x hs hx => ?_, fun a b x y hab hx hy => ?_⟩
 ·by_cases hij : i = j
  ·subst hij
   rw [List.getElem?_set_self hlt] at hs
   rw [List.getElem?_set_self (by omega)] at hx
   cases hs; cases hx
   exact ho.kept h1'.2 (.inr hv')
  ·rw [List.getElem?_set_ne hij] at hs hx
   have ho2 := (h2 j s x hs hx)
   have hne2 := h3 j i x u (Ne.symm hij) hx hu
   have ho3 := ho2.kept hg hne2
   exact ho3.kept h1'.2 (by
    rcases own_ne ho3 (h1.kept hg hne) (by decide) with h | h
    ·exact .inl h
    ·exact .inr h)
 ·have key : ∀ j x, i ≠ j → vs[j]? = some x → x.ownBlock = none ∨ x.ownBlock ≠ v'.ownBlock := by
   intro j x hij hx
   rcases hn with e | e | ⟨k, e, hk⟩
   ·rw [e]
    by_cases hx0 : x.ownBlock = none
    ·exact .inl hx0
    ·exact .inr hx0
   ·rw [e]; exact h3 j i x u (Ne.symm hij) hx hu
   ·rw [e]
    have hj : j < rs.length := by have := (List.getElem?_eq_some_iff.1 hx).1; omega
    have hox := h2 j _ x (List.getElem?_eq_getElem hj) hx
    refine .inr fun e2 => ?_
    have := (hox.lt k e2).2
    omega
  by_cases ha : i = a
  ·subst ha
   rw [List.getElem?_set_self (by omega)] at hx
   rw [List.getElem?_set_ne hab] at hy
   cases hx
   rcases key b y hab hy with h | h
   ·rw [h]
    by_cases hx : v'.ownBlock = none
    ·exact .inl hx
    ·exact .inr hx
   ·exact .inr (Ne.symm h)
  ·by_cases hb : i = b
   ·subst hb
    rw [List.getElem?_set_self (by omega)] at hy
    rw [List.getElem?_set_ne ha] at hx
    cases hy
    exact key a x ha hx
   ·rw [List.getElem?_set_ne ha] at hx
    rw [List.getElem?_set_ne hb] at hy
    exact h3 a b x y hab hx hy
theorem okM.mem {a : List (List Int)} {n m i : Nat} (h : okM a n m) (hi : i < n) : ∀ x ∈ a.getD i [], 0 ≤ x ∧ x < 65521 := by
 have hl : i < a.length := by rw [h.1]; exact hi
 rw [List.getD_eq_getElem?_getD, List.getElem?_eq_getElem hl]
 exact (h.2 _ (List.getElem_mem hl)).2
end Go.Proofs.YtlpldfocljnpnaaDoor
namespace Go.Proofs.YtlpldfocljnpnaaDoor
open Go.RowKit Go.Shelf
theorem res_ct {P : Program} {fn : Func} {p u : Tmp} {ty : TypeId} (h : fn.results = #[.cell p ty, .tmp u]) (tmps : Array Value) (w : World) (g : Nat) (t : TypeId) (cs : Array Value) (fr : Nat × Nat) (d : TypeDesc)
  (hp : tmps.getD p undef = .pointer (some ⟨g, 0, none⟩)) (hg : w.heap[g]? = some (.cells cs t fr))
  (hu : P.underlying ty = some d) (hd : (match d with | .struct _ | .array _ _ => true | _ => false) = true) (hi : (P.info? ty).map (·.size) = some cs.size) :
  (results fn tmps).run P w = .ok (.tuple #[.agg cs, tmps.getD u undef]) w := by
 have hp' : tmps[p]?.getD undef = .pointer (some ⟨g, 0, none⟩) := by simpa using hp
 simp [results, h, hp', asAddr, run_loadVar_row w g t ty cs fr d hg hu hd hi]
theorem heap_set1 {W : World} {g k : Nat} {cs : Array Value} {t : TypeId} {fr : Nat × Nat} (a : Value) (h : W.heap[g]? = some (.cells cs t fr)) : (W.setCell ⟨g, k, none⟩ a).heap[g]? = some (.cells (cs.setIfInBounds k a) t fr) := by
 obtain ⟨hlt, hk⟩ := Array.getElem?_eq_some_iff.1 h
 show (W.heap.modify g _)[g]? = _
 rw [Array.getElem?_eq_getElem (by rw [Array.size_modify]; exact hlt), Array.getElem_modify_self, hk]
 rfl
theorem heap_set2 {W : World} {g : Nat} {x y : Value} {t : TypeId} {fr : Nat × Nat} (a b : Value) (h : W.heap[g]? = some (.cells #[x, y] t fr)) : ((W.setCell ⟨g, 0, none⟩ a).setCell ⟨g, 1, none⟩ b).heap[g]? = some (.cells #[a, b] t fr) := by
 have := heap_set1 (k := 1) b (heap_set1 (k := 0) a h)
 simpa using this
def OwnR (w : World) (base : Nat) (v : Value) (r : Rule) : Prop := ∃ a b, v = .agg #[a, b] ∧ OwnI w base a r.by_ ∧ OwnI w base b r.start
end Go.Proofs.YtlpldfocljnpnaaDoor
