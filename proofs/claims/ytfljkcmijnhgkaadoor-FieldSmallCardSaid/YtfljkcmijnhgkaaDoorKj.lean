/- fitting: its contract. Least, both, total: their contracts. both, total: their contracts. Lines: lined and its next: their contracts. -/
import Derived.Test.YtfljkcmijnhgkaaDoorKi
import Derived.Test.YtfljkcmijnhgkaaDoorKf
import Derived.Test.YtfljkcmijnhgkaaDoorKg
import Derived.Lib.MinMax
import Derived.Laws.EntriesVeiled
namespace Go.Proofs.YtfljkcmijnhgkaaDoor
open Go.RowKit Go.Shelf
set_option linter.unusedSimpArgs false
theorem rowsL_eq (l : List Int) (o : Nat) : rowsL l o = mat (fun i k => l.getD (o + i - 1 - k) 0) (l.length - o) o := rfl
theorem fitL_skip {l : List Int} {os : List Nat} : (∀ o ∈ os, fitO l o = none) → ∀ (ps : List Nat), fitL l (os ++ ps) = fitL l ps := by
  induction os with
  | nil => intro _ ps; rfl
  | cons o os ih =>
    intro h ps
    rw [List.cons_append, fitL, h o List.mem_cons_self]
    exact ih (fun q hq => h q (List.mem_cons_of_mem _ hq)) ps
theorem fitM_none {l : List Int} {most M : Nat} (hM : min most l.length = M) (h : ∀ o, o < M + 1 → fitO l o = none) : fitM l most = none := by
  unfold fitM
  rw [hM, ← List.append_nil (List.range (M + 1)), fitL_skip (fun o ho => h o (List.mem_range.1 ho))]
  rfl
theorem fitM_some {l by_ : List Int} {most M k : Nat} (hM : min most l.length = M) (hk : k < M + 1) (h : ∀ o, o < k → fitO l o = none) (hs : fitO l k = some by_) : fitM l most = some ⟨by_, l.take k⟩ := by
  unfold fitM
  have e : List.range (M + 1) = List.range k ++ (k :: (List.range' (k + 1) (M - k))) := by
    rw [List.range_eq_range', List.range_eq_range', show M + 1 = k + (1 + (M - k)) from by omega, ← List.range'_append_1, Nat.zero_add]
    congr 1
    rw [Nat.add_comm 1 (M - k), List.range'_succ]
  rw [hM, e, fitL_skip (fun o ho => h o (List.mem_range.1 ho)), fitL, hs]
theorem okM_rowsL {l : List Int} (h : ∀ x ∈ l, 0 ≤ x ∧ x < 65521) (o : Nat) : okM (rowsL l o) (l.length - o) o := okM_mat _ _ _ fun i k hi hk => by
  rw [List.getD_eq_getElem?_getD, List.getElem?_eq_getElem (by omega)]
  exact h _ (List.getElem_mem _)
theorem fitting_1 (l : List Int) (o i k : Nat) (v : Value) (p q : Addr) (w : World) (hl : l.length ≤ 1000) (ho : o ≤ l.length) (hi : i < l.length - o) (hk : k < o)
    (h : RdI w v l) (hp : w.cell? p = some v) (hq : w.cell? q = some (.int .i64 o)) :
    Calls Tryd.prog 147 (#[.int .i64 i, .int .i64 k] ++ #[.pointer (some p), .pointer (some q)]) w fun e w' => e = .returned (.int .i64 (l.getD (o + i - 1 - k) 0)) ∧ w = w' := by
  obtain ⟨A, c, rfl, h1, h2, h3⟩ := h.open_
  obtain ⟨b, off, rfl, hc⟩ := h3 (o + i - 1 - k) (by omega)
  clear h h3
  generalize l.getD (o + i - 1 - k) 0 = x at *
  generalize hj : o + i - 1 - k = j at *
  generalize l.length = n at *
  have hw : IntKind.i64.wrap ((o : Int) + i) = (o : Int) + i := IntWalk.i64_in _ ⟨by omega, by omega⟩
  have hw1 : IntKind.i64.wrap ((o : Int) + i - 1) = (o : Int) + i - 1 := IntWalk.i64_in _ ⟨by omega, by omega⟩
  have hw2 : IntKind.i64.wrap ((o : Int) + i - 1 - k) = (j : Int) := by rw [show (o : Int) + i - 1 - k = j from by omega]; exact IntWalk.i64_in _ ⟨by omega, by omega⟩
  have k1 : (j : Int) < (n : Int) := by omega
  have k0 : (0 : Int) ≤ (j : Int) := by omega
  go_enter Tryd.func147, Tryd.ntmps147
  go_wp2
  go_ret
  exact ⟨rfl, rfl⟩
/-- A slice from k on. -/
theorem RdI.drop {w : World} {A : Option Addr} {n c k : Nat} {xs : List Int} (h : RdI w (.slice A n c) xs) (hk : k ≤ n) : RdI w (.slice (if c = k then A else A.map (·.add k)) (n - k) (c - k)) (xs.drop k) := by
  obtain ⟨A', c', e, h1, h2, h3⟩ := h
  rw [ints_len] at *
  simp only [Value.slice.injEq] at e
  obtain ⟨rfl, rfl, rfl⟩ := e
  refine ⟨if c = k then A else A.map (·.add k), c - k, ?_, ?_, ?_, fun hp => ?_⟩
  · rw [ints_len, List.length_drop]
  · rw [ints_len, List.length_drop]; omega
  · rw [ints_len, List.length_drop]; omega
  · rw [ints_len, List.length_drop] at hp
    obtain ⟨b, off, rfl, h4⟩ := h3 (by omega)
    rw [if_neg (by omega)]
    refine ⟨b, off + k, by rw [Option.map_some, add_off], fun j u hj => ?_⟩
    rw [Nat.add_assoc]
    refine h4 (k + j) u ?_
    rw [← hj, ints_get, ints_get, List.getElem?_drop]
/-- A slice's first k. -/
theorem RdI.take {w : World} {A : Option Addr} {n c k : Nat} {xs : List Int} (h : RdI w (.slice A n c) xs) (hk : k ≤ n) : RdI w (.slice A k c) (xs.take k) := by
  obtain ⟨A', c', e, h1, h2, h3⟩ := h
  rw [ints_len] at *
  simp only [Value.slice.injEq] at e
  obtain ⟨rfl, rfl, rfl⟩ := e
  have hl : (xs.take k).length = k := by rw [List.length_take]; omega
  refine ⟨A, c, ?_, ?_, ?_, fun hp => ?_⟩
  · rw [ints_len, hl]
  · rw [ints_len, hl]; omega
  · rw [ints_len, hl]; omega
  · rw [ints_len, hl] at hp
    obtain ⟨b, off, rfl, h4⟩ := h3 (by omega)
    refine ⟨b, off, rfl, fun j u hj => h4 j u ?_⟩
    rw [← hj, ints_get, ints_get, List.getElem?_take]
    have hj' : j < k := by have := (List.getElem?_eq_some_iff.1 hj).1; rw [ints_len, hl] at this; exact this
    rw [if_pos hj']
theorem add_zero (a : Addr) : a.add 0 = a := by
  obtain ⟨b, o, s⟩ := a
  cases s <;> simp [Addr.add]
theorem run_from (A : Option Addr) (n c k : Nat) (W : World) (hk : k ≤ n) : (Instr.slice 23 (.slice A n c) (some (.int .i64 k)) none none).run Tryd.prog W = .ok (.slice (if c = k then A else A.map (·.add k)) (n - k) (c - k)) W := by
  have hu : Tryd.prog.underlying 23 = some (.slice (Tryd.prog.elem 23)) := by kernel_rfl
  rw [run_slice_l (t := 23) _ _ _ _ hu _ _ (by omega) (by omega)]
  have hs : (sizeOf (Tryd.prog.elem 23)).run Tryd.prog W = .ok 1 W := by kernel_rfl
  rw [hs]
  simp only [Result.andThen, sliced, Int.toNat_natCast, Nat.mul_one]
theorem run_upto (A : Option Addr) (n c k : Nat) (W : World) (hk : k ≤ n) (hc : n ≤ c) : (Instr.slice 23 (.slice A n c) none (some (.int .i64 k)) none).run Tryd.prog W = .ok (.slice A k c) W := by
  have hu : Tryd.prog.underlying 23 = some (.slice (Tryd.prog.elem 23)) := by kernel_rfl
  rw [run_slice_h (t := 23) _ _ _ _ hu _ _ (by omega) (by omega)]
  have hs : (sizeOf (Tryd.prog.elem 23)).run Tryd.prog W = .ok 1 W := by kernel_rfl
  rw [hs]
  simp only [Result.andThen, sliced, Int.toNat_natCast, Nat.mul_one, Nat.sub_zero]
  have hA : A.map (·.add 0) = A := by
    cases A with
    | none => rfl
    | some a => rw [Option.map_some, add_zero]
  simp only [Nat.zero_mul, hA, ite_self]
/-- A rule in new memory, and whether there is one. -/
def FitRes (r : Option Rule) (w : World) (e : Ending) (w' : World) : Prop := ∃ v, e = .returned (.tuple #[v, .bool r.isSome]) ∧ OwnR w' w.heap.size v (r.getD ⟨[], []⟩) ∧ Below w.heap.size w w'
set_option maxRecDepth 100000 in
set_option maxHeartbeats 3200000 in
theorem fitting_any (l : List Int) (most : Nat) (v : Value) (w : World) (hl : l.length ≤ 800) (_hm : most ≤ 800) (hr : ∀ x ∈ l, 0 ≤ x ∧ x < 65521) (h : RdI w v l) :
    Calls Tryd.prog 119 #[v, .int .i64 most] w (FitRes (fitM l most) w) := by
  have hrd := Lib.hid h
  obtain ⟨A, c, rfl, l1, l2, -⟩ := h.open_
  have hbx : Below w.heap.size w ((w.alloc (.cells #[.slice A l.length c] 23)).alloc (.cells #[.slice none 0 0, .slice none 0 0] 49)) := ((Below.refl _ _).alloc (Nat.le_refl _) _).alloc (by simp) _
  have hga : ((w.alloc (.cells #[.slice A l.length c] 23)).alloc (.cells #[.slice none 0 0, .slice none 0 0] 49)).heap[w.heap.size]? = some (.cells #[.slice A l.length c] 23 (0, 0)) := by
    rw [((Below.refl _ (w.alloc (.cells #[.slice A l.length c] 23))).alloc (Nat.le_refl _) _).block w.heap.size (by simp)]; exact heap_alloc_new _ _
  have hgb : ((w.alloc (.cells #[.slice A l.length c] 23)).alloc (.cells #[.slice none 0 0, .slice none 0 0] 49)).heap[w.heap.size + 1]? = some (.cells #[.slice none 0 0, .slice none 0 0] 49 (0, 0)) := by
    have h := heap_alloc_new (w.alloc (.cells #[.slice A l.length c] 23)) (.cells #[.slice none 0 0, .slice none 0 0] 49); rwa [World.size_alloc] at h
  have hsz : ((w.alloc (.cells #[.slice A l.length c] 23)).alloc (.cells #[.slice none 0 0, .slice none 0 0] 49)).heap.size = w.heap.size + 2 := by simp
  have hok := Lib.hid (fun o => okM_rowsL hr o)
  have hmn : ∃ M, min most l.length = M ∧ M ≤ l.length := ⟨_, rfl, Nat.min_le_right _ _⟩
  obtain ⟨M, hM, hMl⟩ := hmn
  have hF0 := Lib.hid (fun (h : ∀ o, o < M + 1 → fitO l o = none) => fitM_none hM h)
  have hF1 := Lib.hid (fun (k : Nat) by_ (hk : k < M + 1) (h : ∀ o, o < k → fitO l o = none) (hs : fitO l k = some by_) => fitM_some hM hk h hs)
  have hres := Lib.hid hr
  clear h hr
  have hlr : Hid (l.length = l.length) := Lib.hid rfl
  have hMm : min (most : Int) (l.length : Int) = (M : Int) := by omega
  replace hM := Lib.hid hM
  go_enter Tryd.func119, Tryd.ntmps119
  go_wp2
  generalize (w.alloc (.cells #[.slice A l.length c] 23)).alloc (.cells #[.slice none 0 0, .slice none 0 0] 49) = X at hbx hga hgb hsz ⊢
  replace hbx := Lib.hid hbx
  replace hga := Lib.hid hga
  replace hgb := Lib.hid hgb
  replace hlr : Hid True := Lib.hid trivial
  go_loopw [6, 7, 8, 9, 15] (fun _ _ _ _ i wr => ∃ k : Nat, k ≤ M + 1 ∧ i = .int .i64 k ∧ Hid (Below X.heap.size X wr) ∧ Hid (∀ o, o < k → fitO l o = none)) (fun _ _ _ _ i _ => M + 1 - (intOf i).toNat)
  case atStart => exact ⟨0, Nat.zero_le _, rfl, Lib.hid (Below.refl _ _), Lib.hid (fun o ho => by omega)⟩
  case round =>
    obtain ⟨k, hk, rfl, hB, hE⟩ := hrel
    have hcl : wr.cell? ⟨w.heap.size, 0, none⟩ = some (.slice A l.length c) := by
      unfold World.cell?; rw [hB.out.block _ (by rw [hsz]; exact Nat.lt_add_of_pos_right (by decide)), hga.out]; rfl
    have hwr := hB.out.size
    by_cases hlt : k < M + 1
    · have k1 : (k : Int) < (M : Int) + 1 := by omega
      have hbk : Below wr.heap.size wr (wr.alloc (.cells #[.int .i64 k] 3)) := (Below.refl _ _).alloc (Nat.le_refl _) _
      have hck : (wr.alloc (.cells #[.int .i64 k] 3)).cell? ⟨wr.heap.size, 0, none⟩ = some (.int .i64 k) := cell_new _ _ _
      have hclk := (hbk.cell (p := ⟨w.heap.size, 0, none⟩) (World.block_lt_of_cell? wr _ hcl)).trans hcl
      have hszk : (wr.alloc (.cells #[.int .i64 k] 3)).heap.size = wr.heap.size + 1 := by simp
      have hBk := Lib.hid (Below.then_ hB.out hbk)
      have hwX := Lib.hid (fun W (hW : Below (wr.alloc (.cells #[.int .i64 k] 3)).heap.size (wr.alloc (.cells #[.int .i64 k] 3)) W) => Below.then_ hbx.out (Below.then_ (Below.then_ hB.out hbk) hW))
      have hmd := Lib.hid (made_any (fun i j => l.getD (k + i - 1 - j) 0) (l.length - k) k 147 #[.pointer (some ⟨w.heap.size, 0, none⟩), .pointer (some ⟨wr.heap.size, 0, none⟩)] (enters_of Tryd.func147 (by kernel_rfl) rfl) (wr.alloc (.cells #[.int .i64 k] 3)) (by omega) (by omega) (fun W i j hW hi hj =>
        fitting_1 l k i j (.slice A l.length c) ⟨w.heap.size, 0, none⟩ ⟨wr.heap.size, 0, none⟩ W (by omega) (by omega) hi hj (hrd.out.below (hwX.out W hW) (Nat.le_refl _))
          ((hW.cell (p := ⟨w.heap.size, 0, none⟩) (by show w.heap.size < _; omega)).trans hclk) ((hW.cell (p := ⟨wr.heap.size, 0, none⟩) (by show wr.heap.size < _; omega)).trans hck)))
      rw [← rowsL_eq] at hmd
      have hnk : ((l.length - k : Nat) : Int) = (l.length : Int) - k := by omega
      rw [hnk] at hmd
      have hsv := Lib.hid (fun va vb W (hO : OwnM W wr.heap.size va (rowsL l k)) (hvb : RdI W vb (l.drop k)) => solved_any (rowsL l k) (l.drop k) (l.length - k) k va vb W (hok.out k) (by omega) (by omega) (by simp) (fun x hx => hres.out x (List.mem_of_mem_drop hx)) (hO.rdOk (hok.out k) (by omega) (by omega)) hvb)
      have hfo : solvedM (rowsL l k) (l.drop k) k = fitO l k := rfl
      rw [hfo] at hsv
      clear hfo hnk
      have hcr : Hid (l.length ≤ c) := Lib.hid l1
      go_wp2_with fail
      generalize wr.alloc (.cells #[.int .i64 k] 3) = X2 at *
      refine hmd.out.mono ?_; rintro e W1 ⟨⟨v1, rfl, hO1⟩, hB1⟩
      have c0 := (hB1.cell (p := ⟨w.heap.size, 0, none⟩) (by show w.heap.size < _; omega)).trans hclk
      have c1 := (hB1.cell (p := ⟨wr.heap.size, 0, none⟩) (by show wr.heap.size < _; omega)).trans hck
      have hB3 := Lib.hid (Below.then_ hBk.out hB1)
      have hO1' := Lib.hid ((hO1.below (Below.refl _ _).drew).base (show wr.heap.size ≤ X2.heap.size by omega))
      obtain ⟨G1, C1, rfl⟩ : ∃ G C, v1 = .slice G (l.length - k) C := by obtain ⟨vs, h1, _⟩ := hO1; rw [(hok.out k).1] at h1; exact own_form h1
      obtain ⟨sv, hs1, hs2⟩ : ∃ sv, (∀ W, (Instr.slice 23 (.slice A l.length c) (some (.int .i64 k)) none none).run Tryd.prog W = .ok sv W) ∧ ∀ W, RdI W (.slice A l.length c) l → RdI W sv (l.drop k) :=
        ⟨_, fun W => run_from A l.length c k W (by omega), fun W h => h.drop (by omega)⟩
      have hs3 : ∀ W, (Instr.slice 23 (.slice A l.length c) none (some (.int .i64 k)) none).run Tryd.prog W = .ok (.slice A k c) W := fun W => run_upto A l.length c k W (by omega) hcr.out
      have hvb := Lib.hid (hs2 W1.drew (hrd.out.below (Below.then_ hbx.out hB3.out).drew (Nat.le_refl _)))
      clear hmd hO1 hB1 hcl hclk hck hbk hs2
      generalize hfb : (fitO l k).isSome = fb at hsv
      replace hfb := Lib.hid hfb
      go_wp2
      refine D_begin (fun w' => w'.cell? ⟨w.heap.size, 0, none⟩ = some (.slice A l.length c) ∧ w'.cell? ⟨wr.heap.size, 0, none⟩ = some (.int .i64 k)) (fun _ => True) 99 (by kernel_rfl) ?_
      change wpAnyD _ _ _ _ _ _ _ _ _ _ W1.drew
      simp only [List.size_toArray, List.length_cons, List.length_nil, Nat.reduceAdd, Array.replicate_succ, Array.replicate_zero, List.push_toArray, List.append_toArray, List.nil_append, List.cons_append]
      have HS : W1.drew.cell? ⟨w.heap.size, 0, none⟩ = some (.slice A l.length c) ∧ W1.drew.cell? ⟨wr.heap.size, 0, none⟩ = some (.int .i64 k) := ⟨c0, c1⟩
      refine D_take (i := 0) (v := ?_) rfl (by kernel_rfl) (by kernel_rfl) (by kernel_rfl) (by kernel_rfl) (fun _ _ _ h => h) (Or.inl ⟨by rfl, ?_⟩) HS (fun _ => trivial) ?_
      rotate_left; · intro w1 hw1; obtain ⟨hw1, hw2⟩ := hw1; go_simp; try with_reducible rfl
      try simp only [Act.put, List.getElem_toArray, List.getElem_cons_zero, List.getElem_cons_succ, List.setIfInBounds_toArray, List.set_cons_zero, List.set_cons_succ]
      refine D_take (i := 1) (v := ?_) rfl (by kernel_rfl) (by kernel_rfl) (by kernel_rfl) (by kernel_rfl) (fun _ _ _ h => h) (Or.inl ⟨by rfl, ?_⟩) HS (fun _ => trivial) ?_
      rotate_left; · intro w1 hw1; obtain ⟨hw1, hw2⟩ := hw1; go_simp; try with_reducible rfl
      try simp only [Act.put, List.getElem_toArray, List.getElem_cons_zero, List.getElem_cons_succ, List.setIfInBounds_toArray, List.set_cons_zero, List.set_cons_succ]
      refine D_take (i := 2) (v := ?_) rfl (by kernel_rfl) (by kernel_rfl) (by kernel_rfl) (by kernel_rfl) (fun _ _ _ h => h) (Or.inl ⟨by rfl, ?_⟩) HS (fun _ => trivial) ?_
      rotate_left; · intro w1 hw1; obtain ⟨hw1, hw2⟩ := hw1; go_simp; try with_reducible rfl
      try simp only [Act.put, List.getElem_toArray, List.getElem_cons_zero, List.getElem_cons_succ, List.setIfInBounds_toArray, List.set_cons_zero, List.set_cons_succ]
      refine D_take (i := 3) (v := ?_) rfl (by kernel_rfl) (by kernel_rfl) (by kernel_rfl) (by kernel_rfl) (fun _ _ _ h => h) (Or.inl ⟨by rfl, ?_⟩) HS (fun _ => trivial) ?_
      rotate_left; · intro w1 hw1; obtain ⟨hw1, hw2⟩ := hw1; go_simp; try with_reducible rfl
      try simp only [Act.put, List.getElem_toArray, List.getElem_cons_zero, List.getElem_cons_succ, List.setIfInBounds_toArray, List.set_cons_zero, List.set_cons_succ]
      refine D_take (i := 4) (v := ?_) rfl (by kernel_rfl) (by kernel_rfl) (by kernel_rfl) (by kernel_rfl) (fun _ _ _ h => h) (Or.inl ⟨by rfl, ?_⟩) HS (fun _ => trivial) ?_
      rotate_left; · intro w1 hw1; obtain ⟨hw1, hw2⟩ := hw1; go_simp; try with_reducible rfl
      try simp only [Act.put, List.getElem_toArray, List.getElem_cons_zero, List.getElem_cons_succ, List.setIfInBounds_toArray, List.set_cons_zero, List.set_cons_succ]
      refine D_one (i := 5) (by kernel_rfl) rfl ?_
      intro K hK
      rw [if_pos (by rfl)]
      go_wp2_with fail
      refine (hsv.out _ _ W1.drew hO1'.out hvb.out).mono ?_; rintro e W2 ⟨⟨v2, rfl, hO2⟩, hB4⟩
      have HS2 := And.intro ((hB4.cell (p := ⟨w.heap.size, 0, none⟩) (World.block_lt_of_cell? W1 _ c0)).trans HS.1) ((hB4.cell (p := ⟨wr.heap.size, 0, none⟩) (World.block_lt_of_cell? W1 _ c1)).trans HS.2)
      obtain ⟨A2, c2, rfl⟩ : ∃ A c, v2 = .slice A ((fitO l k).getD []).length c := by have h := hO2; unfold OwnI at h; exact own_form h
      replace hO2 := Lib.hid hO2
      have hBF := Lib.hid (Below.then_ hB3.out.drew hB4)
      have hle : W1.heap.size ≤ W2.heap.size := hB4.size
      refine hK _ _ HS2 (fun _ _ => trivial) ?_
      clear hK K
      try simp only [Act.put, List.getElem_toArray, List.getElem_cons_zero, List.getElem_cons_succ, List.setIfInBounds_toArray, List.set_cons_zero, List.set_cons_succ]
      refine D_take (i := 6) (v := ?_) rfl (by kernel_rfl) (by kernel_rfl) (by kernel_rfl) (by kernel_rfl) (fun _ _ _ h => h) (Or.inl ⟨by rfl, ?_⟩) HS2 (fun _ => trivial) ?_
      rotate_left; · intro w1 hw1; obtain ⟨hw1, hw2⟩ := hw1; go_simp; try with_reducible rfl
      try simp only [Act.put, List.getElem_toArray, List.getElem_cons_zero, List.getElem_cons_succ, List.setIfInBounds_toArray, List.set_cons_zero, List.set_cons_succ]
      refine D_take (i := 7) (v := ?_) rfl (by kernel_rfl) (by kernel_rfl) (by kernel_rfl) (by kernel_rfl) (fun _ _ _ h => h) (Or.inl ⟨by rfl, ?_⟩) HS2 (fun _ => trivial) ?_
      rotate_left; · intro w1 hw1; obtain ⟨hw1, hw2⟩ := hw1; go_simp; try with_reducible rfl
      try simp only [Act.put, List.getElem_toArray, List.getElem_cons_zero, List.getElem_cons_succ, List.setIfInBounds_toArray, List.set_cons_zero, List.set_cons_succ]
      refine D_take (i := 8) (v := ?_) rfl (by kernel_rfl) (by kernel_rfl) (by kernel_rfl) (by kernel_rfl) (fun _ _ _ h => h) (Or.inl ⟨by rfl, ?_⟩) HS2 (fun _ => trivial) ?_
      rotate_left; · intro w1 hw1; obtain ⟨hw1, hw2⟩ := hw1; go_simp; try with_reducible rfl
      try simp only [Act.put, List.getElem_toArray, List.getElem_cons_zero, List.getElem_cons_succ, List.setIfInBounds_toArray, List.set_cons_zero, List.set_cons_succ]
      refine D_take (i := 9) (v := ?_) rfl (by kernel_rfl) (by kernel_rfl) (by kernel_rfl) (by kernel_rfl) (fun _ _ _ h => h) (Or.inl ⟨by rfl, ?_⟩) HS2 (fun _ => trivial) ?_
      rotate_left; · intro w1 hw1; obtain ⟨hw1, hw2⟩ := hw1; go_simp; try with_reducible rfl
      try simp only [Act.put, List.getElem_toArray, List.getElem_cons_zero, List.getElem_cons_succ, List.setIfInBounds_toArray, List.set_cons_zero, List.set_cons_succ]
      refine D_take (i := 10) (v := ?_) rfl (by kernel_rfl) (by kernel_rfl) (by kernel_rfl) (by kernel_rfl) (fun _ _ _ h => h) (Or.inl ⟨by rfl, ?_⟩) HS2 (fun _ => trivial) ?_
      rotate_left; · intro w1 hw1; obtain ⟨hw1, hw2⟩ := hw1; go_simp; try with_reducible rfl
      try simp only [Act.put, List.getElem_toArray, List.getElem_cons_zero, List.getElem_cons_succ, List.setIfInBounds_toArray, List.set_cons_zero, List.set_cons_succ]
      refine D_done (by kernel_rfl) ?_ _
      have e0 := HS2.1
      have e1 := HS2.2
      clear HS HS2 c0 c1 hB4 hvb hO1' hsv
      cases fb with
      | false =>
        have hE2 : Hid (∀ o, o < k + 1 → fitO l o = none) := Lib.hid (fun o ho => by
          by_cases e : o = k
          · rw [e]; exact Option.not_isSome_iff_eq_none.1 (by rw [hfb.out]; decide)
          · exact hE.out o (by omega))
        go_wp2
        go_roundw
        case rel => exact ⟨k + 1, by omega, by go_num, hBF, hE2⟩
        case measure => simp [intOf]; omega
      | true =>
        obtain ⟨by_, hby⟩ := Option.isSome_iff_exists.1 hfb.out
        have hr := Lib.hid (hF1.out k by_ hlt hE.out hby)
        have hct : l.length ≤ c := hcr.out
        have htk := (hrd.out.below (Below.then_ hbx.out hBF.out) (Nat.le_refl _)).take (k := k) (by omega)
        have hlk : (l.take k).length = k := by rw [List.length_take]; omega
        have hO2' : Hid (OwnI W2 W1.drew.heap.size (.slice A2 by_.length c2) by_) := Lib.hid (by have := hO2.out; rwa [hby] at this)
        rw [hby] 
        go_wp2_with fail
        refine (Clone_any (l.take k) _ W2 htk (by omega)).mono ?_; rintro e W3 ⟨⟨v3, rfl, hO3⟩, hB5⟩
        obtain ⟨A3, c3, rfl⟩ : ∃ A c, v3 = .slice A k c := by have h := hO3; unfold OwnI at h; rw [hlk] at h; exact own_form h
        have hBG := Lib.hid (Below.then_ hBF.out hB5)
        have hgb2 := (hBG.out.block (w.heap.size + 1) (by omega)).trans hgb.out
        have d0 : W3.cell? ⟨w.heap.size + 1, 0, none⟩ = some (.slice none 0 0) := by unfold World.cell?; rw [hgb2]; rfl
        have d1 : W3.cell? ⟨w.heap.size + 1, 1, none⟩ = some (.slice none 0 0) := by unfold World.cell?; rw [hgb2]; rfl
        have d2 : W3.frozen? ⟨w.heap.size + 1, 0, none⟩ = false := by unfold World.frozen?; rw [hgb2]; rfl
        have d3 : W3.frozen? ⟨w.heap.size + 1, 1, none⟩ = false := by unfold World.frozen?; rw [hgb2]; rfl
        have hgb3 := Lib.hid hgb2
        have hB6 := Lib.hid (Below.then_ hbx.out hBG.out)
        have hO2f := Lib.hid (hO2'.out.below hB5)
        have hO3f := Lib.hid hO3
        have hW1 : w.heap.size + 2 ≤ W1.heap.size := by have := hB3.out.size; omega
        clear hgb2 htk hO2 hO2' hB5 hO3 e0 e1
        go_wp2
        have hT : ∀ (base : Nat) (v : Value) (xs : List Int) (x y : Value), w.heap.size + 2 ≤ base → OwnI W3 base v xs → OwnI ((W3.setCell ⟨w.heap.size + 1, 0, none⟩ x).setCell ⟨w.heap.size + 1, 1, none⟩ y) w.heap.size v xs := fun base v xs x y hb hO => own_of_block (hO.base (show w.heap.size ≤ base by omega)) (fun g hg => by
          have := (hO.lt g hg).1
          rw [Below.heap_setCell _ _ _ _ (by show g ≠ w.heap.size + 1; omega), Below.heap_setCell _ _ _ _ (by show g ≠ w.heap.size + 1; omega)])
        refine bodyPost_ret (res_ct rfl _ _ (w.heap.size + 1) 49 #[.slice A2 by_.length c2, .slice A3 k c3] (0, 0) _ rfl (heap_set2 _ _ hgb3.out) rfl rfl rfl) rfl ?_
        rw [hr.out]
        exact ⟨_, rfl, ⟨_, _, rfl, hT W1.drew.heap.size _ _ _ _ hW1 hO2f.out, hT W2.heap.size _ _ _ _ (by omega) hO3f.out⟩, (hB6.out.setCell (p := ⟨w.heap.size + 1, 0, none⟩) (by simp) _).setCell (p := ⟨w.heap.size + 1, 1, none⟩) (by simp) _⟩
    · obtain rfl : k = M + 1 := by omega
      have hr := Lib.hid (hF0.out hE.out)
      have hgb2 := (hB.out.block (w.heap.size + 1) (by omega)).trans hgb.out
      have d0 : wr.cell? ⟨w.heap.size + 1, 0, none⟩ = some (.slice none 0 0) := by unfold World.cell?; rw [hgb2]; rfl
      have d1 : wr.cell? ⟨w.heap.size + 1, 1, none⟩ = some (.slice none 0 0) := by unfold World.cell?; rw [hgb2]; rfl
      have d2 : wr.frozen? ⟨w.heap.size + 1, 0, none⟩ = false := by unfold World.frozen?; rw [hgb2]; rfl
      have d3 : wr.frozen? ⟨w.heap.size + 1, 1, none⟩ = false := by unfold World.frozen?; rw [hgb2]; rfl
      have hgb3 := Lib.hid hgb2
      have hB2 := Lib.hid (Below.then_ hbx.out hB.out)
      clear hgb2 hcl
      go_wp2
      refine bodyPost_ret (res_ct rfl _ _ (w.heap.size + 1) 49 #[.slice none 0 0, .slice none 0 0] (0, 0) _ rfl (heap_set2 _ _ hgb3.out) rfl rfl rfl) rfl ?_
      rw [hr.out]
      exact ⟨_, rfl, ⟨_, _, rfl, OwnI_nil _ _, OwnI_nil _ _⟩, (hB2.out.setCell (p := ⟨w.heap.size + 1, 0, none⟩) (by simp) _).setCell (p := ⟨w.heap.size + 1, 1, none⟩) (by simp) _⟩
end Go.Proofs.YtfljkcmijnhgkaaDoor

namespace Go.Proofs.YtfljkcmijnhgkaaDoor
open Go.RowKit Go.Shelf
set_option linter.unusedSimpArgs false
theorem ret_cell {w : World} {g : Nat} {x y : Value} (h : w.heap[g]? = some (.cells #[x, y] 49 (0, 0))) : w.cell? ⟨g, 0, none⟩ = some x ∧ w.cell? ⟨g, 1, none⟩ = some y ∧ w.frozen? ⟨g, 0, none⟩ = false ∧ w.frozen? ⟨g, 1, none⟩ = false :=
  ⟨by unfold World.cell?; rw [h]; rfl, by unfold World.cell?; rw [h]; rfl, by unfold World.frozen?; rw [h]; rfl, by unfold World.frozen?; rw [h]; rfl⟩
/-- The two stores of a result. -/
theorem own_two {W : World} {base b g : Nat} {v : Value} {xs : List Int} (h : OwnI W base v xs) (hb : b ≤ base) (hg : g < base) (x y : Value) : OwnI ((W.setCell ⟨g, 0, none⟩ x).setCell ⟨g, 1, none⟩ y) b v xs :=
  own_of_block (h.base hb) (fun k hk => by
    have := (h.lt k hk).1
    rw [Below.heap_setCell _ _ _ _ (by show k ≠ g; omega), Below.heap_setCell _ _ _ _ (by show k ≠ g; omega)])
theorem leastR_many {l : List Int} (h : 64 < l.length) : leastR l = (⟨[], []⟩, 2) := by rw [leastR, if_pos h]
theorem leastR_range {l : List Int} (h : ¬ 64 < l.length) (h2 : isRes l = false) : leastR l = (⟨[], []⟩, 3) := by rw [leastR, if_neg h, if_pos h2]
theorem leastR_none {l : List Int} (h : ¬ 64 < l.length) (h2 : isRes l = true) (h3 : fitM l 12 = none) : leastR l = (⟨[], []⟩, 11) := by rw [leastR, if_neg h, if_neg (by simp [h2]), h3]
theorem leastR_some {l : List Int} {r : Rule} (h : ¬ 64 < l.length) (h2 : isRes l = true) (h3 : fitM l 12 = some r) : leastR l = (r, 0) := by rw [leastR, if_neg h, if_neg (by simp [h2]), h3]
/-- A rule in new memory, and an error. -/
def RuleOut (r : Rule × Int) (w : World) (e : Ending) (w' : World) : Prop := ∃ v, e = .returned (.tuple #[v, .int .i64 r.2]) ∧ OwnR w' w.heap.size v r.1 ∧ Below w.heap.size w w'
set_option maxRecDepth 100000 in
set_option maxHeartbeats 1600000 in
theorem Least_any (l : List Int) (v : Value) (w : World) (h : RdI w v l) :
    Calls Tryd.prog 47 #[v] w (RuleOut (leastR l) w) := by
  have hrd := Lib.hid h
  obtain ⟨A, c, rfl, l1, l2, -⟩ := h.open_
  have hbx : Below w.heap.size w (w.alloc (.cells #[.slice none 0 0, .slice none 0 0] 49)) := (Below.refl _ _).alloc (Nat.le_refl _) _
  have hg : (w.alloc (.cells #[.slice none 0 0, .slice none 0 0] 49)).heap[w.heap.size]? = some (.cells #[.slice none 0 0, .slice none 0 0] 49 (0, 0)) := heap_alloc_new _ _
  have hsz : (w.alloc (.cells #[.slice none 0 0, .slice none 0 0] 49)).heap.size = w.heap.size + 1 := by simp
  have hE : ∀ W (g : Nat), Below w.heap.size w W → g = w.heap.size → Below w.heap.size w ((W.setCell ⟨g, 0, none⟩ (.slice none 0 0)).setCell ⟨g, 1, none⟩ (.slice none 0 0)) := fun W g hW hg => by
    subst hg; exact (hW.setCell (p := ⟨w.heap.size, 0, none⟩) (Nat.le_refl _) _).setCell (p := ⟨w.heap.size, 1, none⟩) (Nat.le_refl _) _
  replace hE := Lib.hid hE
  clear h
  by_cases q1 : 64 < l.length
  · have hr := Lib.hid (leastR_many q1)
    have q2 : (64 : Int) < (l.length : Int) := by omega
    obtain ⟨d0, d1, d2, d3⟩ := ret_cell hg
    replace hg := Lib.hid hg
    go_enter Tryd.func47, Tryd.ntmps47
    go_wp2
    refine bodyPost_ret (res_ct rfl _ _ w.heap.size 49 #[.slice none 0 0, .slice none 0 0] (0, 0) _ rfl hg.out rfl rfl rfl) rfl ?_
    rw [hr.out]
    exact ⟨_, rfl, ⟨_, _, rfl, OwnI_nil _ _, OwnI_nil _ _⟩, hbx⟩
  · have q2 : ¬ (64 : Int) < (l.length : Int) := by omega
    have hi := Lib.hid (fun W (hW : Below w.heap.size w W) => is_any l _ W (hrd.out.below hW (Nat.le_refl _)))
    cases p1 : isRes l
    · have hr := Lib.hid (leastR_range q1 p1)
      rw [p1] at hi
      clear p1
      go_enter Tryd.func47, Tryd.ntmps47
      go_wp2_with fail
      generalize w.alloc (.cells #[.slice none 0 0, .slice none 0 0] 49) = X at *
      refine (hi.out X hbx).mono ?_; rintro e W1 ⟨rfl, hB1⟩
      have hg1 := (hB1.block w.heap.size (by rw [hsz]; exact Nat.lt_succ_self _)).trans hg
      obtain ⟨d0, d1, d2, d3⟩ := ret_cell hg1
      replace hg1 := Lib.hid hg1
      clear hg hi
      go_wp2
      refine bodyPost_ret (res_ct rfl _ _ w.heap.size 49 #[.slice none 0 0, .slice none 0 0] (0, 0) _ rfl (heap_set2 _ _ hg1.out) rfl rfl rfl) rfl ?_
      rw [hr.out]
      exact ⟨_, rfl, ⟨_, _, rfl, OwnI_nil _ _, OwnI_nil _ _⟩, hE.out _ _ (Below.then_ hbx hB1) rfl⟩
    · rw [p1] at hi
      have hfi := Lib.hid (fun W (hW : Below w.heap.size w W) => fitting_any l 12 _ W (by omega) (by omega) (isRes_iff.1 p1) (hrd.out.below hW (Nat.le_refl _)))
      have hF := Lib.hid (fun (h3 : fitM l 12 = none) => leastR_none q1 p1 h3)
      have hG := Lib.hid (fun r (h3 : fitM l 12 = some r) => leastR_some (r := r) q1 p1 h3)
      unfold FitRes at hfi
      generalize hfb : (fitM l 12).isSome = fb at hfi
      replace hfb := Lib.hid hfb
      clear p1
      go_enter Tryd.func47, Tryd.ntmps47
      go_wp2_with fail
      generalize w.alloc (.cells #[.slice none 0 0, .slice none 0 0] 49) = X at *
      refine (hi.out X hbx).mono ?_; rintro e W1 ⟨rfl, hB1⟩
      have hg1 := (hB1.block w.heap.size (by rw [hsz]; exact Nat.lt_succ_self _)).trans hg
      have hB2 := Below.then_ hbx hB1
      go_wp2_with fail
      refine (hfi.out W1 hB2).mono ?_; rintro e W2 ⟨v, rfl, ⟨a, b, rfl, oa, ob⟩, hB3⟩
      have hlt1 : w.heap.size < W1.heap.size := by have := hB1.size; omega
      obtain ⟨A1, c1, rfl⟩ : ∃ A c, a = .slice A ((fitM l 12).getD ⟨[], []⟩).by_.length c := by have h := oa; unfold OwnI at h; exact own_form h
      obtain ⟨A2, c2, rfl⟩ : ∃ A c, b = .slice A ((fitM l 12).getD ⟨[], []⟩).start.length c := by have h := ob; unfold OwnI at h; exact own_form h
      generalize ((fitM l 12).getD ⟨[], []⟩).by_.length = n1 at *
      generalize ((fitM l 12).getD ⟨[], []⟩).start.length = n2 at *
      have hbl : Below W2.heap.size W2 (W2.alloc (.cells #[.slice A1 n1 c1, .slice A2 n2 c2] 49)) := (Below.refl _ _).alloc (Nat.le_refl _) _
      have hg2 := (hbl.block w.heap.size (by have := hB3.size; omega)).trans ((hB3.block w.heap.size hlt1).trans hg1)
      obtain ⟨d0, d1, d2, d3⟩ := ret_cell hg2
      replace hg2 := Lib.hid hg2
      have hgn : (W2.alloc (.cells #[.slice A1 n1 c1, .slice A2 n2 c2] 49)).heap[W2.heap.size]? = some (.cells #[.slice A1 n1 c1, .slice A2 n2 c2] 49 (0, 0)) := heap_alloc_new _ _
      obtain ⟨d4, d5, -, -⟩ := ret_cell hgn
      have hB4 := Lib.hid (Below.then_ (Below.then_ hB2 hB3) hbl)
      replace oa := Lib.hid (oa.below hbl)
      replace ob := Lib.hid (ob.below hbl)
      clear hg hg1 hi hgn hbl
      cases fb with
      | false =>
        have hr := Lib.hid (hF.out (Option.not_isSome_iff_eq_none.1 (by rw [hfb.out]; decide)))
        go_wp2
        refine bodyPost_ret (res_ct rfl _ _ w.heap.size 49 #[.slice none 0 0, .slice none 0 0] (0, 0) _ rfl (heap_set2 _ _ hg2.out) rfl rfl rfl) rfl ?_
        rw [hr.out]
        exact ⟨_, rfl, ⟨_, _, rfl, OwnI_nil _ _, OwnI_nil _ _⟩, hE.out _ _ hB4.out rfl⟩
      | true =>
        obtain ⟨r, hf⟩ := Option.isSome_iff_exists.1 hfb.out
        have hr := Lib.hid (hG.out r hf)
        rw [hf] at oa ob
        replace hf := Lib.hid hf
        go_wp2
        refine bodyPost_ret (res_ct rfl _ _ w.heap.size 49 #[.slice A1 n1 c1, .slice A2 n2 c2] (0, 0) _ rfl (heap_set2 _ _ hg2.out) rfl rfl rfl) rfl ?_
        rw [hr.out]
        exact ⟨_, rfl, ⟨_, _, rfl, own_two oa.out (Nat.le_of_lt hlt1) hlt1 _ _, own_two ob.out (Nat.le_of_lt hlt1) hlt1 _ _⟩, (hB4.out.setCell (p := ⟨w.heap.size, 0, none⟩) (Nat.le_refl _) _).setCell (p := ⟨w.heap.size, 1, none⟩) (Nat.le_refl _) _⟩
end Go.Proofs.YtfljkcmijnhgkaaDoor

namespace Go.Proofs.YtfljkcmijnhgkaaDoor
open Go.RowKit Go.Shelf
set_option linter.unusedSimpArgs false
def BothRel (r s : Rule) (i : Value) : Prop := i = .int .i64 0 ∨ (i = .int .i64 1 ∧ rightR r = 0) ∨ (i = .int .i64 2 ∧ rightR r = 0 ∧ rightR s = 0)
theorem bothR_eq {r s : Rule} {x : Int} (h : rightR r = x) (h0 : x ≠ 0) : bothR r s = x := by rw [bothR, h, if_pos h0]
theorem bothR_eq2 {r s : Rule} (h : rightR r = 0) : bothR r s = rightR s := by rw [bothR, if_neg (by simpa using h)]
theorem bothR_cases (r s : Rule) : bothR r s = 0 ∨ bothR r s = 2 ∨ bothR r s = 3 ∨ bothR r s = 4 := by
  have h1 := rightR_cases r
  have h2 := rightR_cases s
  unfold bothR
  split <;> assumption
theorem bothR_ok {r s : Rule} (h : bothR r s = 0) : rightR r = 0 ∧ rightR s = 0 := by
  unfold bothR at h
  split at h
  · contradiction
  · rename_i h1
    exact ⟨by simpa using h1, h⟩
set_option maxRecDepth 100000 in
set_option maxHeartbeats 1600000 in
theorem both_any (r s : Rule) (b : Nat) (a1 b1 a2 b2 : Value) (w : World) (hr : RdR w (.agg #[a1, b1]) r) (hs : RdR w (.agg #[a2, b2]) s) (hb : w.heap[b]? = some (.cells #[a1, b1, a2, b2] 49 (0, 0))) :
    Calls Tryd.prog 110 #[.slice (some ⟨b, 0, none⟩) 2 2] w fun e w' => e = .returned (.int .i64 (bothR r s)) ∧ Below w.heap.size w w' := by
  have hc : ∀ j v, (#[a1, b1, a2, b2] : Array Value)[j]? = some v → w.cell? ⟨b, j, none⟩ = some v := fun j v h => by unfold World.cell?; rw [hb]; exact h
  have c0 := hc 0 _ rfl
  have c1 := hc 1 _ rfl
  have c2 := hc 2 _ rfl
  have c3 := hc 3 _ rfl
  have hbl : b < w.heap.size := World.block_lt_of_cell? w _ c0
  have hR1 := Lib.hid (fun W (hW : Below w.heap.size w W) => Right_any r _ W (hr.below hW (Nat.le_refl _)))
  have hR2 := Lib.hid (fun W (hW : Below w.heap.size w W) => Right_any s _ W (hs.below hW (Nat.le_refl _)))
  obtain ⟨a, b', e, ra, rb⟩ := hr
  simp only [Value.agg.injEq, Array.mk.injEq, List.cons.injEq, and_true] at e
  obtain ⟨rfl, rfl⟩ := e
  obtain ⟨a, b', e, sa, sb⟩ := hs
  simp only [Value.agg.injEq, Array.mk.injEq, List.cons.injEq, and_true] at e
  obtain ⟨rfl, rfl⟩ := e
  obtain ⟨A1, d1, rfl, -⟩ := ra.open_
  obtain ⟨A2, d2, rfl, -⟩ := rb.open_
  obtain ⟨A3, d3, rfl, -⟩ := sa.open_
  obtain ⟨A4, d4, rfl, -⟩ := sb.open_
  have hcs := Lib.hid (And.intro c0 (And.intro c1 (And.intro c2 c3)))
  clear hc hb ra rb sa sb c0 c1 c2 c3
  generalize r.by_.length = n1 at *
  generalize r.start.length = n2 at *
  generalize s.by_.length = n3 at *
  generalize s.start.length = n4 at *
  go_enter Tryd.func110, Tryd.ntmps110
  go_wp2
  go_loopw [4, 5, 8] (fun _ _ i wr => BothRel r s i ∧ Hid (Below w.heap.size w wr)) (fun _ _ i _ => 2 - (intOf i).toNat)
  case atStart => exact ⟨.inl rfl, Lib.hid (Below.refl _ _)⟩
  case round =>
    obtain ⟨hi, hB⟩ := hrel
    have c0 := (hB.out.cell (p := ⟨b, 0, none⟩) hbl).trans hcs.out.1
    have c1 := (hB.out.cell (p := ⟨b, 1, none⟩) hbl).trans hcs.out.2.1
    have c2 := (hB.out.cell (p := ⟨b, 2, none⟩) hbl).trans hcs.out.2.2.1
    have c3 := (hB.out.cell (p := ⟨b, 3, none⟩) hbl).trans hcs.out.2.2.2
    rcases hi with rfl | ⟨rfl, h1⟩ | ⟨rfl, h1, h2⟩
    · have hbx : Below wr.heap.size wr (wr.alloc (.cells #[.slice A1 n1 d1, .slice A2 n2 d2] 49)) := (Below.refl _ _).alloc (Nat.le_refl _) _
      have hcall := Lib.hid (hR1.out _ (Below.then_ hB.out hbx))
      have hBx := Lib.hid (Below.then_ hB.out hbx)
      by_cases h0 : rightR r = 0
      · have hrel' : Hid (BothRel r s (.int .i64 1)) := Lib.hid (.inr (.inl ⟨rfl, h0⟩))
        rw [h0] at hcall
        replace h0 := Lib.hid h0
        go_wp2_with fail
        generalize wr.alloc (.cells #[.slice A1 n1 d1, .slice A2 n2 d2] 49) = X at *
        refine hcall.out.mono ?_; rintro e W1 ⟨rfl, hB1⟩
        have hB2 := Lib.hid (Below.then_ hBx.out hB1)
        go_wp2
        go_roundw
        case rel => exact ⟨hrel'.out, hB2⟩
        case measure => simp [intOf]
      · have hr := Lib.hid (bothR_eq (s := s) rfl h0)
        have hne : (rightR r != 0) = true := by rw [bne_iff_ne]; exact h0
        have hca := Lib.hid (rightR_cases r)
        generalize rightR r = x at *
        go_wp2_with fail
        generalize wr.alloc (.cells #[.slice A1 n1 d1, .slice A2 n2 d2] 49) = X at *
        refine hcall.out.mono ?_; rintro e W1 ⟨rfl, hB1⟩
        go_wp2
        go_ret
        exact ⟨by rw [hr.out]; rfl, Below.then_ hBx.out hB1⟩
    · have hbx : Below wr.heap.size wr (wr.alloc (.cells #[.slice A3 n3 d3, .slice A4 n4 d4] 49)) := (Below.refl _ _).alloc (Nat.le_refl _) _
      have hcall := Lib.hid (hR2.out _ (Below.then_ hB.out hbx))
      have hBx := Lib.hid (Below.then_ hB.out hbx)
      by_cases h0 : rightR s = 0
      · have hrel' : Hid (BothRel r s (.int .i64 2)) := Lib.hid (.inr (.inr ⟨rfl, h1, h0⟩))
        rw [h0] at hcall
        replace h0 := Lib.hid h0
        replace h1 := Lib.hid h1
        go_wp2_with fail
        generalize wr.alloc (.cells #[.slice A3 n3 d3, .slice A4 n4 d4] 49) = X at *
        refine hcall.out.mono ?_; rintro e W1 ⟨rfl, hB1⟩
        have hB2 := Lib.hid (Below.then_ hBx.out hB1)
        go_wp2
        go_roundw
        case rel => exact ⟨hrel'.out, hB2⟩
        case measure => simp [intOf]
      · have hr := Lib.hid (bothR_eq2 (s := s) h1)
        have hne : (rightR s != 0) = true := by rw [bne_iff_ne]; exact h0
        have hca := Lib.hid (rightR_cases s)
        replace h1 := Lib.hid h1
        generalize rightR s = x at *
        go_wp2_with fail
        generalize wr.alloc (.cells #[.slice A3 n3 d3, .slice A4 n4 d4] 49) = X at *
        refine hcall.out.mono ?_; rintro e W1 ⟨rfl, hB1⟩
        go_wp2
        go_ret
        exact ⟨by rw [hr.out]; rfl, Below.then_ hBx.out hB1⟩
    · have hr : Hid (bothR r s = 0) := Lib.hid (by rw [bothR_eq2 h1, h2])
      replace h1 := Lib.hid h1
      replace h2 := Lib.hid h2
      go_wp2
      go_ret
      exact ⟨by rw [hr.out]; rfl, hB.out⟩
set_option maxRecDepth 100000 in
set_option maxHeartbeats 400000 in
theorem total_two (x y : Int) (b : Nat) (w : World) (hx : 0 ≤ x ∧ x < 65521) (hy : 0 ≤ y ∧ y < 65521) (hb : w.heap[b]? = some (.cells #[.int .i64 x, .int .i64 y] 3 (0, 0))) :
    Calls Tryd.prog 171 #[.slice (some ⟨b, 0, none⟩) 2 2] w fun e w' => e = .returned (.int .i64 ((x + y) % 65521)) ∧ w = w' := by
  obtain ⟨x1, x2⟩ := hx
  obtain ⟨y1, y2⟩ := hy
  have c0 : w.cell? ⟨b, 0, none⟩ = some (.int .i64 x) := by unfold World.cell?; rw [hb]; rfl
  have c1 : w.cell? ⟨b, 1, none⟩ = some (.int .i64 y) := by unfold World.cell?; rw [hb]; rfl
  clear hb
  go_enter Tryd.func171, Tryd.ntmps171
  go_wp2
  go_loop [3, 5, 8] (fun t _ i => (t = .int .i64 0 ∧ i = .int .i64 0) ∨ (t = .int .i64 x ∧ i = .int .i64 1) ∨ (t = .int .i64 ((x + y) % 65521) ∧ i = .int .i64 2)) (fun _ _ i => 2 - (intOf i).toNat)
  case atStart => exact .inl ⟨rfl, rfl⟩
  case round =>
    rcases hrel with ⟨rfl, rfl⟩ | ⟨rfl, rfl⟩ | ⟨rfl, rfl⟩
    · go_wp2
      go_round
      case rel => exact .inr (.inl ⟨by congr 1; omega, rfl⟩)
      case measure => simp [intOf]
    · go_wp2
      go_round
      case rel => exact .inr (.inr ⟨rfl, rfl⟩)
      case measure => simp [intOf]
    · go_wp2
      go_ret
      exact ⟨rfl, rfl⟩
end Go.Proofs.YtfljkcmijnhgkaaDoor

namespace Go.Proofs.YtfljkcmijnhgkaaDoor
open Go.RowKit Go.Shelf
set_option linter.unusedSimpArgs false
/-- The next term by a window of the last twelve, the newest one first. -/
def nextW (bs win : List Int) : Int := psum (fun k => bs.getD k 0 * win.getD k 0 % 65521) bs.length % 65521
/-- THE VALUE v IS A LINE OF THE RULE r: its next has caught block g. -/
def LineV (w : World) (v : Value) (r : Rule) (a b : Value) (g : Nat) : Prop :=
  v = .agg #[a, b, .func (.func 144) #[] #[.pointer (some ⟨g, 0, none⟩)]] ∧ RdI w a r.by_ ∧ RdI w b r.start ∧ w.heap[g]? = some (.cells #[a, b] 49 (0, 0))
theorem LineV.below {w w' : World} {v a b : Value} {r : Rule} {g : Nat} (h : LineV w v r a b g) (hB : Below w.heap.size w w') : LineV w' v r a b g :=
  ⟨h.1, h.2.1.below hB (Nat.le_refl _), h.2.2.1.below hB (Nat.le_refl _), (hB.block g (Array.getElem?_eq_some_iff.1 h.2.2.2).1).trans h.2.2.2⟩
set_option maxRecDepth 100000 in
set_option maxHeartbeats 1600000 in
theorem lined_any (r : Rule) (v : Value) (w : World) (h : RdR w v r) :
    Calls Tryd.prog 111 #[v] w fun e w' => (∃ a b, e = .returned (.agg #[a, b, .func (.func 144) #[] #[.pointer (some ⟨w.heap.size, 0, none⟩)]]) ∧ v = .agg #[a, b] ∧ w'.heap[w.heap.size]? = some (.cells #[a, b] 49 (0, 0))) ∧ Below w.heap.size w w' := by
  obtain ⟨a, b, rfl, ra, rb⟩ := h
  obtain ⟨A1, d1, rfl, -⟩ := ra.open_
  obtain ⟨A2, d2, rfl, -⟩ := rb.open_
  clear ra rb
  generalize r.by_.length = n1 at *
  generalize r.start.length = n2 at *
  go_enter Tryd.func111, Tryd.ntmps111
  go_wp2
  refine bodyPost_ret (results_cell_row rfl _ _ (w.heap.size + 1) 110 #[.slice A1 n1 d1, .slice A2 n2 d2, .func (.func 144) #[] #[.pointer (some ⟨w.heap.size, 0, none⟩)]] (0, 0) _ rfl ?_ Tryd.underlying110 rfl rfl) rfl ?_
  · rw [(((Below.refl ((w.alloc (.cells #[.slice A1 n1 d1, .slice A2 n2 d2] 49)).alloc (.cells #[.slice A1 n1 d1, .slice A2 n2 d2, .func (.func 144) #[] #[.pointer (some ⟨w.heap.size, 0, none⟩)]] 110)).heap.size _).alloc (Nat.le_refl _) _).block (w.heap.size + 1) (by simp))]
    have h := heap_alloc_new (w.alloc (.cells #[.slice A1 n1 d1, .slice A2 n2 d2] 49)) (.cells #[.slice A1 n1 d1, .slice A2 n2 d2, .func (.func 144) #[] #[.pointer (some ⟨w.heap.size, 0, none⟩)]] 110)
    rwa [World.size_alloc] at h
  · refine ⟨⟨_, _, rfl, rfl, ?_⟩, (((Below.refl _ _).alloc (Nat.le_refl _) _).alloc (by simp) _).alloc (by simp; omega) _⟩
    have hB : Below (w.alloc (.cells #[.slice A1 n1 d1, .slice A2 n2 d2] 49)).heap.size (w.alloc (.cells #[.slice A1 n1 d1, .slice A2 n2 d2] 49)) (((w.alloc (.cells #[.slice A1 n1 d1, .slice A2 n2 d2] 49)).alloc (.cells #[.slice A1 n1 d1, .slice A2 n2 d2, .func (.func 144) #[] #[.pointer (some ⟨w.heap.size, 0, none⟩)]] 110)).alloc (.cells #[.slice A1 n1 d1, .slice A2 n2 d2, .func (.func 144) #[] #[.pointer (some ⟨w.heap.size, 0, none⟩)]] 110)) := ((Below.refl _ _).alloc (Nat.le_refl _) _).alloc (by simp) _
    exact (hB.block w.heap.size (by simp)).trans (heap_alloc_new _ _)
theorem win_get {w : World} {g : Nat} {t : TypeId} (x0 x1 x2 x3 x4 x5 x6 x7 x8 x9 x10 x11 : Int)
    (h : w.heap[g]? = some (.cells #[.int .i64 x0, .int .i64 x1, .int .i64 x2, .int .i64 x3, .int .i64 x4, .int .i64 x5, .int .i64 x6, .int .i64 x7, .int .i64 x8, .int .i64 x9, .int .i64 x10, .int .i64 x11] t (0, 0))) :
    ∀ k, k < 12 → w.cell? ⟨g, k, none⟩ = some (.int .i64 ([x0, x1, x2, x3, x4, x5, x6, x7, x8, x9, x10, x11].getD k 0)) := by
  intro k hk
  unfold World.cell?
  rw [h]
  have : k = 0 ∨ k = 1 ∨ k = 2 ∨ k = 3 ∨ k = 4 ∨ k = 5 ∨ k = 6 ∨ k = 7 ∨ k = 8 ∨ k = 9 ∨ k = 10 ∨ k = 11 := by omega
  rcases this with rfl | rfl | rfl | rfl | rfl | rfl | rfl | rfl | rfl | rfl | rfl | rfl <;> rfl
set_option maxRecDepth 100000 in
set_option maxHeartbeats 1600000 in
theorem next_any (bs : List Int) (a b : Value) (g : Nat) (x0 x1 x2 x3 x4 x5 x6 x7 x8 x9 x10 x11 : Int) (w : World) (hl : bs.length ≤ 12) (hb : ∀ x ∈ bs, 0 ≤ x ∧ x < 65521)
    (hx : ∀ x ∈ [x0, x1, x2, x3, x4, x5, x6, x7, x8, x9, x10, x11], 0 ≤ x ∧ x < 65521) (ra : RdI w a bs) (hg : w.heap[g]? = some (.cells #[a, b] 49 (0, 0))) :
    Calls Tryd.prog 144 (#[.agg #[.int .i64 x0, .int .i64 x1, .int .i64 x2, .int .i64 x3, .int .i64 x4, .int .i64 x5, .int .i64 x6, .int .i64 x7, .int .i64 x8, .int .i64 x9, .int .i64 x10, .int .i64 x11]] ++ #[.pointer (some ⟨g, 0, none⟩)]) w fun e w' =>
      e = .returned (.int .i64 (nextW bs [x0, x1, x2, x3, x4, x5, x6, x7, x8, x9, x10, x11])) ∧ Below w.heap.size w w' := by
  have hbx : Below w.heap.size w (w.alloc (.cells #[.int .i64 x0, .int .i64 x1, .int .i64 x2, .int .i64 x3, .int .i64 x4, .int .i64 x5, .int .i64 x6, .int .i64 x7, .int .i64 x8, .int .i64 x9, .int .i64 x10, .int .i64 x11] 114)) := (Below.refl _ _).alloc (Nat.le_refl _) _
  have hw := win_get x0 x1 x2 x3 x4 x5 x6 x7 x8 x9 x10 x11 (heap_alloc_new w (.cells #[.int .i64 x0, .int .i64 x1, .int .i64 x2, .int .i64 x3, .int .i64 x4, .int .i64 x5, .int .i64 x6, .int .i64 x7, .int .i64 x8, .int .i64 x9, .int .i64 x10, .int .i64 x11] 114))
  have hgl := (Array.getElem?_eq_some_iff.1 hg).1
  have hg2 := (hbx.block g hgl).trans hg
  obtain ⟨A, c, rfl, l1, l2, h3⟩ := (ra.below hbx (Nat.le_refl _)).open_
  have hc0 : (w.alloc (.cells #[.int .i64 x0, .int .i64 x1, .int .i64 x2, .int .i64 x3, .int .i64 x4, .int .i64 x5, .int .i64 x6, .int .i64 x7, .int .i64 x8, .int .i64 x9, .int .i64 x10, .int .i64 x11] 114)).cell? ⟨g, 0, none⟩ = some (.slice A bs.length c) := by unfold World.cell?; rw [hg2]; rfl
  have hN : Hid (nextW bs [x0, x1, x2, x3, x4, x5, x6, x7, x8, x9, x10, x11] = psum (fun k => bs.getD k 0 * [x0, x1, x2, x3, x4, x5, x6, x7, x8, x9, x10, x11].getD k 0 % 65521) bs.length % 65521) := Lib.hid rfl
  have hbd := Lib.hid (fun j => psum_bd (f := fun k => bs.getD k 0 * [x0, x1, x2, x3, x4, x5, x6, x7, x8, x9, x10, x11].getD k 0 % 65521) (fun j => ⟨Int.emod_nonneg _ (by decide), Int.emod_lt_of_pos _ (by decide)⟩) j)
  have hbb : Hid (∀ k, k < bs.length → 0 ≤ bs.getD k 0 ∧ bs.getD k 0 < 65521) := Lib.hid (fun k hk => by rw [List.getD_eq_getElem?_getD, List.getElem?_eq_getElem hk]; exact hb _ (List.getElem_mem hk))
  have hxx : Hid (∀ k, k < 12 → 0 ≤ [x0, x1, x2, x3, x4, x5, x6, x7, x8, x9, x10, x11].getD k 0 ∧ [x0, x1, x2, x3, x4, x5, x6, x7, x8, x9, x10, x11].getD k 0 < 65521) := Lib.hid (fun k hk => by rw [List.getD_eq_getElem?_getD, List.getElem?_eq_getElem (by simpa using hk)]; exact hx _ (List.getElem_mem _))
  replace hw := Lib.hid hw
  replace h3 := Lib.hid h3
  clear hb hx ra hg hg2
  generalize [x0, x1, x2, x3, x4, x5, x6, x7, x8, x9, x10, x11] = win at *
  go_enter Tryd.func144, Tryd.ntmps144
  go_wp2
  generalize w.alloc (.cells #[.int .i64 x0, .int .i64 x1, .int .i64 x2, .int .i64 x3, .int .i64 x4, .int .i64 x5, .int .i64 x6, .int .i64 x7, .int .i64 x8, .int .i64 x9, .int .i64 x10, .int .i64 x11] 114) = W at *
  go_loop [4, 5, 6, 10] (fun s _ _ i => ∃ q : Nat, q ≤ bs.length ∧ i = .int .i64 q ∧ s = .int .i64 (psum (fun k => bs.getD k 0 * win.getD k 0 % 65521) q)) (fun _ _ _ i => bs.length - (intOf i).toNat)
  case atStart => exact ⟨0, Nat.zero_le _, rfl, rfl⟩
  case round =>
    obtain ⟨q, hq, rfl, rfl⟩ := hrel
    have ⟨p1, p2⟩ := hbd.out q
    by_cases hlt : q < bs.length
    · obtain ⟨b0, off, rfl, hc⟩ := h3.out q hlt
      have hcw := hw.out q (by omega)
      have ⟨n1, n2⟩ := hbb.out q hlt
      have ⟨v1, v2⟩ := hxx.out q (by omega)
      have hs : Hid (psum (fun k => bs.getD k 0 * win.getD k 0 % 65521) (q + 1) = psum (fun k => bs.getD k 0 * win.getD k 0 % 65521) q + bs.getD q 0 * win.getD q 0 % 65521) := Lib.hid rfl
      generalize psum (fun k => bs.getD k 0 * win.getD k 0 % 65521) q = S at p1 p2 hs ⊢
      generalize bs.getD q 0 = x at n1 n2 hc hs
      generalize win.getD q 0 = y at v1 v2 hcw hs
      have ⟨m1, m2⟩ := mul_bd n1 n2 v1 v2
      have q1 : (q : Int) < (bs.length : Int) := by omega
      have q0 : (0 : Int) ≤ (q : Int) := by omega
      have q12 : (q : Int) < 12 := by omega
      go_wp2
      go_round
      case rel => exact ⟨q + 1, by omega, by go_num, congrArg (Value.int .i64) hs.out.symm⟩
      case measure => simp [intOf]; omega
    · obtain rfl : q = bs.length := by omega
      generalize psum (fun k => bs.getD k 0 * win.getD k 0 % 65521) bs.length = S at p1 p2 hN ⊢
      go_wp2
      go_ret
      exact ⟨by rw [hN.out]; rfl, hbx⟩
end Go.Proofs.YtfljkcmijnhgkaaDoor
