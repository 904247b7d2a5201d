/- fitting: its contract. -/
import Derived.Test.YtfljkcmijnhgkaaDoorInvs
import Derived.Test.YtfljkcmijnhgkaaDoorPub2
import Derived.Test.YtfljkcmijnhgkaaDoorFromP
import Derived.Lib.MinMax
namespace Go.Proofs.YtfljkcmijnhgkaaDoor
open Go.RowKit Go.Shelf
set_option linter.unusedSimpArgs false

theorem rowsL_eq (l : List Int) (o : Nat) : rowsL l o = mat (fun i k => l.getD (o + i - 1 - k) 0) (l.length - o) o := rfl
theorem fitL_skip {l : List Int} {os : List Nat} : (∀ o ∈ os, fitO l o = none) → ∀ (ps : List Nat), fitL l (os ++ ps) = fitL l ps := by
  induction os with
  | nil => intro _ ps; rfl
  | cons o os ih =>
    intro h ps
    rw [List.cons_append, fitL, h o List.mem_cons_self]
    exact ih (fun q hq => h q (List.mem_cons_of_mem _ hq)) ps
theorem fitM_none {l : List Int} {most M : Nat} (hM : min most l.length = M) (h : ∀ o, o < M + 1 → fitO l o = none) : fitM l most = none := by
  unfold fitM
  rw [hM, ← List.append_nil (List.range (M + 1)), fitL_skip (fun o ho => h o (List.mem_range.1 ho))]
  rfl
theorem fitM_some {l by_ : List Int} {most M k : Nat} (hM : min most l.length = M) (hk : k < M + 1) (h : ∀ o, o < k → fitO l o = none) (hs : fitO l k = some by_) : fitM l most = some ⟨by_, l.take k⟩ := by
  unfold fitM
  have e : List.range (M + 1) = List.range k ++ (k :: (List.range' (k + 1) (M - k))) := by
    rw [List.range_eq_range', List.range_eq_range', show M + 1 = k + (1 + (M - k)) from by omega, ← List.range'_append_1, Nat.zero_add]
    congr 1
    rw [Nat.add_comm 1 (M - k), List.range'_succ]
  rw [hM, e, fitL_skip (fun o ho => h o (List.mem_range.1 ho)), fitL, hs]
theorem okM_rowsL {l : List Int} (h : ∀ x ∈ l, 0 ≤ x ∧ x < 65521) (o : Nat) : okM (rowsL l o) (l.length - o) o := okM_mat _ _ _ fun i k hi hk => by
  rw [List.getD_eq_getElem?_getD, List.getElem?_eq_getElem (by omega)]
  exact h _ (List.getElem_mem _)
theorem fitting_1 (l : List Int) (o i k : Nat) (v : Value) (p q : Addr) (w : World) (hl : l.length ≤ 1000) (ho : o ≤ l.length) (hi : i < l.length - o) (hk : k < o)
    (h : RdI w v l) (hp : w.cell? p = some v) (hq : w.cell? q = some (.int .i64 o)) :
    Calls Tryd.prog 147 (#[.int .i64 i, .int .i64 k] ++ #[.pointer (some p), .pointer (some q)]) w fun e w' => e = .returned (.int .i64 (l.getD (o + i - 1 - k) 0)) ∧ w = w' := by
  obtain ⟨A, c, rfl, h1, h2, h3⟩ := h.open_
  obtain ⟨b, off, rfl, hc⟩ := h3 (o + i - 1 - k) (by omega)
  clear h h3
  generalize l.getD (o + i - 1 - k) 0 = x at *
  generalize hj : o + i - 1 - k = j at *
  generalize l.length = n at *
  have hw : IntKind.i64.wrap ((o : Int) + i) = (o : Int) + i := IntWalk.i64_in _ ⟨by omega, by omega⟩
  have hw1 : IntKind.i64.wrap ((o : Int) + i - 1) = (o : Int) + i - 1 := IntWalk.i64_in _ ⟨by omega, by omega⟩
  have hw2 : IntKind.i64.wrap ((o : Int) + i - 1 - k) = (j : Int) := by rw [show (o : Int) + i - 1 - k = j from by omega]; exact IntWalk.i64_in _ ⟨by omega, by omega⟩
  have k1 : (j : Int) < (n : Int) := by omega
  have k0 : (0 : Int) ≤ (j : Int) := by omega
  go_enter Tryd.func147, Tryd.ntmps147
  go_wp2
  go_ret
  exact ⟨rfl, rfl⟩
/-- A slice from k on. -/
theorem RdI.drop {w : World} {A : Option Addr} {n c k : Nat} {xs : List Int} (h : RdI w (.slice A n c) xs) (hk : k ≤ n) : RdI w (.slice (if c = k then A else A.map (·.add k)) (n - k) (c - k)) (xs.drop k) := by
  obtain ⟨A', c', e, h1, h2, h3⟩ := h
  rw [ints_len] at *
  simp only [Value.slice.injEq] at e
  obtain ⟨rfl, rfl, rfl⟩ := e
  refine ⟨if c = k then A else A.map (·.add k), c - k, ?_, ?_, ?_, fun hp => ?_⟩
  · rw [ints_len, List.length_drop]
  · rw [ints_len, List.length_drop]; omega
  · rw [ints_len, List.length_drop]; omega
  · rw [ints_len, List.length_drop] at hp
    obtain ⟨b, off, rfl, h4⟩ := h3 (by omega)
    rw [if_neg (by omega)]
    refine ⟨b, off + k, by rw [Option.map_some, add_off], fun j u hj => ?_⟩
    rw [Nat.add_assoc]
    refine h4 (k + j) u ?_
    rw [← hj, ints_get, ints_get, List.getElem?_drop]
/-- A slice's first k. -/
theorem RdI.take {w : World} {A : Option Addr} {n c k : Nat} {xs : List Int} (h : RdI w (.slice A n c) xs) (hk : k ≤ n) : RdI w (.slice A k c) (xs.take k) := by
  obtain ⟨A', c', e, h1, h2, h3⟩ := h
  rw [ints_len] at *
  simp only [Value.slice.injEq] at e
  obtain ⟨rfl, rfl, rfl⟩ := e
  have hl : (xs.take k).length = k := by rw [List.length_take]; omega
  refine ⟨A, c, ?_, ?_, ?_, fun hp => ?_⟩
  · rw [ints_len, hl]
  · rw [ints_len, hl]; omega
  · rw [ints_len, hl]; omega
  · rw [ints_len, hl] at hp
    obtain ⟨b, off, rfl, h4⟩ := h3 (by omega)
    refine ⟨b, off, rfl, fun j u hj => h4 j u ?_⟩
    rw [← hj, ints_get, ints_get, List.getElem?_take]
    have hj' : j < k := by have := (List.getElem?_eq_some_iff.1 hj).1; rw [ints_len, hl] at this; exact this
    rw [if_pos hj']
theorem add_zero (a : Addr) : a.add 0 = a := by
  obtain ⟨b, o, s⟩ := a
  cases s <;> simp [Addr.add]
theorem run_from (A : Option Addr) (n c k : Nat) (W : World) (hk : k ≤ n) : (Instr.slice 23 (.slice A n c) (some (.int .i64 k)) none none).run Tryd.prog W = .ok (.slice (if c = k then A else A.map (·.add k)) (n - k) (c - k)) W := by
  have hu : Tryd.prog.underlying 23 = some (.slice (Tryd.prog.elem 23)) := by kernel_rfl
  rw [run_slice_l (t := 23) _ _ _ _ hu _ _ (by omega) (by omega)]
  have hs : (sizeOf (Tryd.prog.elem 23)).run Tryd.prog W = .ok 1 W := by kernel_rfl
  rw [hs]
  simp only [Result.andThen, sliced, Int.toNat_natCast, Nat.mul_one]
theorem run_upto (A : Option Addr) (n c k : Nat) (W : World) (hk : k ≤ n) (hc : n ≤ c) : (Instr.slice 23 (.slice A n c) none (some (.int .i64 k)) none).run Tryd.prog W = .ok (.slice A k c) W := by
  have hu : Tryd.prog.underlying 23 = some (.slice (Tryd.prog.elem 23)) := by kernel_rfl
  rw [run_slice_h (t := 23) _ _ _ _ hu _ _ (by omega) (by omega)]
  have hs : (sizeOf (Tryd.prog.elem 23)).run Tryd.prog W = .ok 1 W := by kernel_rfl
  rw [hs]
  simp only [Result.andThen, sliced, Int.toNat_natCast, Nat.mul_one, Nat.sub_zero]
  have hA : A.map (·.add 0) = A := by
    cases A with
    | none => rfl
    | some a => rw [Option.map_some, add_zero]
  simp only [Nat.zero_mul, hA, ite_self]
/-- A rule in new memory, and whether there is one. -/
def FitRes (r : Option Rule) (w : World) (e : Ending) (w' : World) : Prop := ∃ v, e = .returned (.tuple #[v, .bool r.isSome]) ∧ OwnR w' w.heap.size v (r.getD ⟨[], []⟩) ∧ Below w.heap.size w w'
set_option maxRecDepth 100000 in
set_option maxHeartbeats 3200000 in
theorem fitting_any (l : List Int) (most : Nat) (v : Value) (w : World) (hl : l.length ≤ 800) (_hm : most ≤ 800) (hr : ∀ x ∈ l, 0 ≤ x ∧ x < 65521) (h : RdI w v l) :
    Calls Tryd.prog 119 #[v, .int .i64 most] w (FitRes (fitM l most) w) := by
  have hrd := Lib.hid h
  obtain ⟨A, c, rfl, l1, l2, -⟩ := h.open_
  have hbx : Below w.heap.size w ((w.alloc (.cells #[.slice A l.length c] 23)).alloc (.cells #[.slice none 0 0, .slice none 0 0] 49)) := ((Below.refl _ _).alloc (Nat.le_refl _) _).alloc (by simp) _
  have hga : ((w.alloc (.cells #[.slice A l.length c] 23)).alloc (.cells #[.slice none 0 0, .slice none 0 0] 49)).heap[w.heap.size]? = some (.cells #[.slice A l.length c] 23 (0, 0)) := by
    rw [((Below.refl _ (w.alloc (.cells #[.slice A l.length c] 23))).alloc (Nat.le_refl _) _).block w.heap.size (by simp)]; exact heap_alloc_new _ _
  have hgb : ((w.alloc (.cells #[.slice A l.length c] 23)).alloc (.cells #[.slice none 0 0, .slice none 0 0] 49)).heap[w.heap.size + 1]? = some (.cells #[.slice none 0 0, .slice none 0 0] 49 (0, 0)) := by
    have h := heap_alloc_new (w.alloc (.cells #[.slice A l.length c] 23)) (.cells #[.slice none 0 0, .slice none 0 0] 49); rwa [World.size_alloc] at h
  have hsz : ((w.alloc (.cells #[.slice A l.length c] 23)).alloc (.cells #[.slice none 0 0, .slice none 0 0] 49)).heap.size = w.heap.size + 2 := by simp
  have hok := Lib.hid (fun o => okM_rowsL hr o)
  have hmn : ∃ M, min most l.length = M ∧ M ≤ l.length := ⟨_, rfl, Nat.min_le_right _ _⟩
  obtain ⟨M, hM, hMl⟩ := hmn
  have hF0 := Lib.hid (fun (h : ∀ o, o < M + 1 → fitO l o = none) => fitM_none hM h)
  have hF1 := Lib.hid (fun (k : Nat) by_ (hk : k < M + 1) (h : ∀ o, o < k → fitO l o = none) (hs : fitO l k = some by_) => fitM_some hM hk h hs)
  have hres := Lib.hid hr
  clear h hr
  have hlr : Hid (l.length = l.length) := Lib.hid rfl
  have hMm : min (most : Int) (l.length : Int) = (M : Int) := by omega
  replace hM := Lib.hid hM
  go_enter Tryd.func119, Tryd.ntmps119
  go_wp2
  generalize (w.alloc (.cells #[.slice A l.length c] 23)).alloc (.cells #[.slice none 0 0, .slice none 0 0] 49) = X at hbx hga hgb hsz ⊢
  replace hbx := Lib.hid hbx
  replace hga := Lib.hid hga
  replace hgb := Lib.hid hgb
  replace hlr : Hid True := Lib.hid trivial
  go_loopw [6, 7, 8, 9, 15] (fun _ _ _ _ i wr => ∃ k : Nat, k ≤ M + 1 ∧ i = .int .i64 k ∧ Hid (Below X.heap.size X wr) ∧ Hid (∀ o, o < k → fitO l o = none)) (fun _ _ _ _ i _ => M + 1 - (intOf i).toNat)
  case atStart => exact ⟨0, Nat.zero_le _, rfl, Lib.hid (Below.refl _ _), Lib.hid (fun o ho => by omega)⟩
  case round =>
    obtain ⟨k, hk, rfl, hB, hE⟩ := hrel
    have hcl : wr.cell? ⟨w.heap.size, 0, none⟩ = some (.slice A l.length c) := by
      unfold World.cell?; rw [hB.out.block _ (by rw [hsz]; exact Nat.lt_add_of_pos_right (by decide)), hga.out]; rfl
    have hwr := hB.out.size
    by_cases hlt : k < M + 1
    · have k1 : (k : Int) < (M : Int) + 1 := by omega
      have hbk : Below wr.heap.size wr (wr.alloc (.cells #[.int .i64 k] 3)) := (Below.refl _ _).alloc (Nat.le_refl _) _
      have hck : (wr.alloc (.cells #[.int .i64 k] 3)).cell? ⟨wr.heap.size, 0, none⟩ = some (.int .i64 k) := cell_new _ _ _
      have hclk := (hbk.cell (p := ⟨w.heap.size, 0, none⟩) (World.block_lt_of_cell? wr _ hcl)).trans hcl
      have hszk : (wr.alloc (.cells #[.int .i64 k] 3)).heap.size = wr.heap.size + 1 := by simp
      have hBk := Lib.hid (Below.then_ hB.out hbk)
      have hwX := Lib.hid (fun W (hW : Below (wr.alloc (.cells #[.int .i64 k] 3)).heap.size (wr.alloc (.cells #[.int .i64 k] 3)) W) => Below.then_ hbx.out (Below.then_ (Below.then_ hB.out hbk) hW))
      have hmd := Lib.hid (made_any (fun i j => l.getD (k + i - 1 - j) 0) (l.length - k) k 147 #[.pointer (some ⟨w.heap.size, 0, none⟩), .pointer (some ⟨wr.heap.size, 0, none⟩)] (enters_of Tryd.func147 (by kernel_rfl) rfl) (wr.alloc (.cells #[.int .i64 k] 3)) (by omega) (by omega) (fun W i j hW hi hj =>
        fitting_1 l k i j (.slice A l.length c) ⟨w.heap.size, 0, none⟩ ⟨wr.heap.size, 0, none⟩ W (by omega) (by omega) hi hj (hrd.out.below (hwX.out W hW) (Nat.le_refl _))
          ((hW.cell (p := ⟨w.heap.size, 0, none⟩) (by show w.heap.size < _; omega)).trans hclk) ((hW.cell (p := ⟨wr.heap.size, 0, none⟩) (by show wr.heap.size < _; omega)).trans hck)))
      rw [← rowsL_eq] at hmd
      have hnk : ((l.length - k : Nat) : Int) = (l.length : Int) - k := by omega
      rw [hnk] at hmd
      have hsv := Lib.hid (fun va vb W (hO : OwnM W wr.heap.size va (rowsL l k)) (hvb : RdI W vb (l.drop k)) => solved_any (rowsL l k) (l.drop k) (l.length - k) k va vb W (hok.out k) (by omega) (by omega) (by simp) (fun x hx => hres.out x (List.mem_of_mem_drop hx)) (hO.rdOk (hok.out k) (by omega) (by omega)) hvb)
      have hfo : solvedM (rowsL l k) (l.drop k) k = fitO l k := rfl
      rw [hfo] at hsv
      clear hfo hnk
      have hcr : Hid (l.length ≤ c) := Lib.hid l1
      go_wp2_with fail
      generalize wr.alloc (.cells #[.int .i64 k] 3) = X2 at *
      refine hmd.out.mono ?_; rintro e W1 ⟨⟨v1, rfl, hO1⟩, hB1⟩
      have c0 := (hB1.cell (p := ⟨w.heap.size, 0, none⟩) (by show w.heap.size < _; omega)).trans hclk
      have c1 := (hB1.cell (p := ⟨wr.heap.size, 0, none⟩) (by show wr.heap.size < _; omega)).trans hck
      have hB3 := Lib.hid (Below.then_ hBk.out hB1)
      have hO1' := Lib.hid ((hO1.below (Below.refl _ _).drew).base (show wr.heap.size ≤ X2.heap.size by omega))
      obtain ⟨G1, C1, rfl⟩ : ∃ G C, v1 = .slice G (l.length - k) C := by obtain ⟨vs, h1, _⟩ := hO1; rw [(hok.out k).1] at h1; exact own_form h1
      obtain ⟨sv, hs1, hs2⟩ : ∃ sv, (∀ W, (Instr.slice 23 (.slice A l.length c) (some (.int .i64 k)) none none).run Tryd.prog W = .ok sv W) ∧ ∀ W, RdI W (.slice A l.length c) l → RdI W sv (l.drop k) :=
        ⟨_, fun W => run_from A l.length c k W (by omega), fun W h => h.drop (by omega)⟩
      have hs3 : ∀ W, (Instr.slice 23 (.slice A l.length c) none (some (.int .i64 k)) none).run Tryd.prog W = .ok (.slice A k c) W := fun W => run_upto A l.length c k W (by omega) hcr.out
      have hvb := Lib.hid (hs2 W1.drew (hrd.out.below (Below.then_ hbx.out hB3.out).drew (Nat.le_refl _)))
      clear hmd hO1 hB1 hcl hclk hck hbk hs2
      generalize hfb : (fitO l k).isSome = fb at hsv
      replace hfb := Lib.hid hfb
      go_wp2
      refine D_begin (fun w' => w'.cell? ⟨w.heap.size, 0, none⟩ = some (.slice A l.length c) ∧ w'.cell? ⟨wr.heap.size, 0, none⟩ = some (.int .i64 k)) (fun _ => True) 99 (by kernel_rfl) ?_
      change wpAnyD _ _ _ _ _ _ _ _ _ _ W1.drew
      simp only [List.size_toArray, List.length_cons, List.length_nil, Nat.reduceAdd, Array.replicate_succ, Array.replicate_zero, List.push_toArray, List.append_toArray, List.nil_append, List.cons_append]
      have HS : W1.drew.cell? ⟨w.heap.size, 0, none⟩ = some (.slice A l.length c) ∧ W1.drew.cell? ⟨wr.heap.size, 0, none⟩ = some (.int .i64 k) := ⟨c0, c1⟩
      refine D_take (i := 0) (v := ?_) rfl (by kernel_rfl) (by kernel_rfl) (by kernel_rfl) (by kernel_rfl) (fun _ _ _ h => h) (Or.inl ⟨by rfl, ?_⟩) HS (fun _ => trivial) ?_
      rotate_left; · intro w1 hw1; obtain ⟨hw1, hw2⟩ := hw1; go_simp; try with_reducible rfl
      try simp only [Act.put, List.getElem_toArray, List.getElem_cons_zero, List.getElem_cons_succ, List.setIfInBounds_toArray, List.set_cons_zero, List.set_cons_succ]
      refine D_take (i := 1) (v := ?_) rfl (by kernel_rfl) (by kernel_rfl) (by kernel_rfl) (by kernel_rfl) (fun _ _ _ h => h) (Or.inl ⟨by rfl, ?_⟩) HS (fun _ => trivial) ?_
      rotate_left; · intro w1 hw1; obtain ⟨hw1, hw2⟩ := hw1; go_simp; try with_reducible rfl
      try simp only [Act.put, List.getElem_toArray, List.getElem_cons_zero, List.getElem_cons_succ, List.setIfInBounds_toArray, List.set_cons_zero, List.set_cons_succ]
      refine D_take (i := 2) (v := ?_) rfl (by kernel_rfl) (by kernel_rfl) (by kernel_rfl) (by kernel_rfl) (fun _ _ _ h => h) (Or.inl ⟨by rfl, ?_⟩) HS (fun _ => trivial) ?_
      rotate_left; · intro w1 hw1; obtain ⟨hw1, hw2⟩ := hw1; go_simp; try with_reducible rfl
      try simp only [Act.put, List.getElem_toArray, List.getElem_cons_zero, List.getElem_cons_succ, List.setIfInBounds_toArray, List.set_cons_zero, List.set_cons_succ]
      refine D_take (i := 3) (v := ?_) rfl (by kernel_rfl) (by kernel_rfl) (by kernel_rfl) (by kernel_rfl) (fun _ _ _ h => h) (Or.inl ⟨by rfl, ?_⟩) HS (fun _ => trivial) ?_
      rotate_left; · intro w1 hw1; obtain ⟨hw1, hw2⟩ := hw1; go_simp; try with_reducible rfl
      try simp only [Act.put, List.getElem_toArray, List.getElem_cons_zero, List.getElem_cons_succ, List.setIfInBounds_toArray, List.set_cons_zero, List.set_cons_succ]
      refine D_take (i := 4) (v := ?_) rfl (by kernel_rfl) (by kernel_rfl) (by kernel_rfl) (by kernel_rfl) (fun _ _ _ h => h) (Or.inl ⟨by rfl, ?_⟩) HS (fun _ => trivial) ?_
      rotate_left; · intro w1 hw1; obtain ⟨hw1, hw2⟩ := hw1; go_simp; try with_reducible rfl
      try simp only [Act.put, List.getElem_toArray, List.getElem_cons_zero, List.getElem_cons_succ, List.setIfInBounds_toArray, List.set_cons_zero, List.set_cons_succ]
      refine D_one (i := 5) (by kernel_rfl) rfl ?_
      intro K hK
      rw [if_pos (by rfl)]
      go_wp2_with fail
      refine (hsv.out _ _ W1.drew hO1'.out hvb.out).mono ?_; rintro e W2 ⟨⟨v2, rfl, hO2⟩, hB4⟩
      have HS2 := And.intro ((hB4.cell (p := ⟨w.heap.size, 0, none⟩) (World.block_lt_of_cell? W1 _ c0)).trans HS.1) ((hB4.cell (p := ⟨wr.heap.size, 0, none⟩) (World.block_lt_of_cell? W1 _ c1)).trans HS.2)
      obtain ⟨A2, c2, rfl⟩ : ∃ A c, v2 = .slice A ((fitO l k).getD []).length c := by have h := hO2; unfold OwnI at h; exact own_form h
      replace hO2 := Lib.hid hO2
      have hBF := Lib.hid (Below.then_ hB3.out.drew hB4)
      have hle : W1.heap.size ≤ W2.heap.size := hB4.size
      refine hK _ _ HS2 (fun _ _ => trivial) ?_
      clear hK K
      try simp only [Act.put, List.getElem_toArray, List.getElem_cons_zero, List.getElem_cons_succ, List.setIfInBounds_toArray, List.set_cons_zero, List.set_cons_succ]
      refine D_take (i := 6) (v := ?_) rfl (by kernel_rfl) (by kernel_rfl) (by kernel_rfl) (by kernel_rfl) (fun _ _ _ h => h) (Or.inl ⟨by rfl, ?_⟩) HS2 (fun _ => trivial) ?_
      rotate_left; · intro w1 hw1; obtain ⟨hw1, hw2⟩ := hw1; go_simp; try with_reducible rfl
      try simp only [Act.put, List.getElem_toArray, List.getElem_cons_zero, List.getElem_cons_succ, List.setIfInBounds_toArray, List.set_cons_zero, List.set_cons_succ]
      refine D_take (i := 7) (v := ?_) rfl (by kernel_rfl) (by kernel_rfl) (by kernel_rfl) (by kernel_rfl) (fun _ _ _ h => h) (Or.inl ⟨by rfl, ?_⟩) HS2 (fun _ => trivial) ?_
      rotate_left; · intro w1 hw1; obtain ⟨hw1, hw2⟩ := hw1; go_simp; try with_reducible rfl
      try simp only [Act.put, List.getElem_toArray, List.getElem_cons_zero, List.getElem_cons_succ, List.setIfInBounds_toArray, List.set_cons_zero, List.set_cons_succ]
      refine D_take (i := 8) (v := ?_) rfl (by kernel_rfl) (by kernel_rfl) (by kernel_rfl) (by kernel_rfl) (fun _ _ _ h => h) (Or.inl ⟨by rfl, ?_⟩) HS2 (fun _ => trivial) ?_
      rotate_left; · intro w1 hw1; obtain ⟨hw1, hw2⟩ := hw1; go_simp; try with_reducible rfl
      try simp only [Act.put, List.getElem_toArray, List.getElem_cons_zero, List.getElem_cons_succ, List.setIfInBounds_toArray, List.set_cons_zero, List.set_cons_succ]
      refine D_take (i := 9) (v := ?_) rfl (by kernel_rfl) (by kernel_rfl) (by kernel_rfl) (by kernel_rfl) (fun _ _ _ h => h) (Or.inl ⟨by rfl, ?_⟩) HS2 (fun _ => trivial) ?_
      rotate_left; · intro w1 hw1; obtain ⟨hw1, hw2⟩ := hw1; go_simp; try with_reducible rfl
      try simp only [Act.put, List.getElem_toArray, List.getElem_cons_zero, List.getElem_cons_succ, List.setIfInBounds_toArray, List.set_cons_zero, List.set_cons_succ]
      refine D_take (i := 10) (v := ?_) rfl (by kernel_rfl) (by kernel_rfl) (by kernel_rfl) (by kernel_rfl) (fun _ _ _ h => h) (Or.inl ⟨by rfl, ?_⟩) HS2 (fun _ => trivial) ?_
      rotate_left; · intro w1 hw1; obtain ⟨hw1, hw2⟩ := hw1; go_simp; try with_reducible rfl
      try simp only [Act.put, List.getElem_toArray, List.getElem_cons_zero, List.getElem_cons_succ, List.setIfInBounds_toArray, List.set_cons_zero, List.set_cons_succ]
      refine D_done (by kernel_rfl) ?_ _
      have e0 := HS2.1
      have e1 := HS2.2
      clear HS HS2 c0 c1 hB4 hvb hO1' hsv
      cases fb with
      | false =>
        have hE2 : Hid (∀ o, o < k + 1 → fitO l o = none) := Lib.hid (fun o ho => by
          by_cases e : o = k
          · rw [e]; exact Option.not_isSome_iff_eq_none.1 (by rw [hfb.out]; decide)
          · exact hE.out o (by omega))
        go_wp2
        go_roundw
        case rel => exact ⟨k + 1, by omega, by go_num, hBF, hE2⟩
        case measure => simp [intOf]; omega
      | true =>
        obtain ⟨by_, hby⟩ := Option.isSome_iff_exists.1 hfb.out
        have hr := Lib.hid (hF1.out k by_ hlt hE.out hby)
        have hct : l.length ≤ c := hcr.out
        have htk := (hrd.out.below (Below.then_ hbx.out hBF.out) (Nat.le_refl _)).take (k := k) (by omega)
        have hlk : (l.take k).length = k := by rw [List.length_take]; omega
        have hO2' : Hid (OwnI W2 W1.drew.heap.size (.slice A2 by_.length c2) by_) := Lib.hid (by have := hO2.out; rwa [hby] at this)
        rw [hby] 
        go_wp2_with fail
        refine (Clone_any (l.take k) _ W2 htk (by omega)).mono ?_; rintro e W3 ⟨⟨v3, rfl, hO3⟩, hB5⟩
        obtain ⟨A3, c3, rfl⟩ : ∃ A c, v3 = .slice A k c := by have h := hO3; unfold OwnI at h; rw [hlk] at h; exact own_form h
        have hBG := Lib.hid (Below.then_ hBF.out hB5)
        have hgb2 := (hBG.out.block (w.heap.size + 1) (by omega)).trans hgb.out
        have d0 : W3.cell? ⟨w.heap.size + 1, 0, none⟩ = some (.slice none 0 0) := by unfold World.cell?; rw [hgb2]; rfl
        have d1 : W3.cell? ⟨w.heap.size + 1, 1, none⟩ = some (.slice none 0 0) := by unfold World.cell?; rw [hgb2]; rfl
        have d2 : W3.frozen? ⟨w.heap.size + 1, 0, none⟩ = false := by unfold World.frozen?; rw [hgb2]; rfl
        have d3 : W3.frozen? ⟨w.heap.size + 1, 1, none⟩ = false := by unfold World.frozen?; rw [hgb2]; rfl
        have hgb3 := Lib.hid hgb2
        have hB6 := Lib.hid (Below.then_ hbx.out hBG.out)
        have hO2f := Lib.hid (hO2'.out.below hB5)
        have hO3f := Lib.hid hO3
        have hW1 : w.heap.size + 2 ≤ W1.heap.size := by have := hB3.out.size; omega
        clear hgb2 htk hO2 hO2' hB5 hO3 e0 e1
        go_wp2
        have hT : ∀ (base : Nat) (v : Value) (xs : List Int) (x y : Value), w.heap.size + 2 ≤ base → OwnI W3 base v xs → OwnI ((W3.setCell ⟨w.heap.size + 1, 0, none⟩ x).setCell ⟨w.heap.size + 1, 1, none⟩ y) w.heap.size v xs := fun base v xs x y hb hO => own_of_block (hO.base (show w.heap.size ≤ base by omega)) (fun g hg => by
          have := (hO.lt g hg).1
          rw [Below.heap_setCell _ _ _ _ (by show g ≠ w.heap.size + 1; omega), Below.heap_setCell _ _ _ _ (by show g ≠ w.heap.size + 1; omega)])
        refine bodyPost_ret (res_ct rfl _ _ (w.heap.size + 1) 49 #[.slice A2 by_.length c2, .slice A3 k c3] (0, 0) _ rfl (heap_set2 _ _ hgb3.out) rfl rfl rfl) rfl ?_
        rw [hr.out]
        exact ⟨_, rfl, ⟨_, _, rfl, hT W1.drew.heap.size _ _ _ _ hW1 hO2f.out, hT W2.heap.size _ _ _ _ (by omega) hO3f.out⟩, (hB6.out.setCell (p := ⟨w.heap.size + 1, 0, none⟩) (by simp) _).setCell (p := ⟨w.heap.size + 1, 1, none⟩) (by simp) _⟩
    · obtain rfl : k = M + 1 := by omega
      have hr := Lib.hid (hF0.out hE.out)
      have hgb2 := (hB.out.block (w.heap.size + 1) (by omega)).trans hgb.out
      have d0 : wr.cell? ⟨w.heap.size + 1, 0, none⟩ = some (.slice none 0 0) := by unfold World.cell?; rw [hgb2]; rfl
      have d1 : wr.cell? ⟨w.heap.size + 1, 1, none⟩ = some (.slice none 0 0) := by unfold World.cell?; rw [hgb2]; rfl
      have d2 : wr.frozen? ⟨w.heap.size + 1, 0, none⟩ = false := by unfold World.frozen?; rw [hgb2]; rfl
      have d3 : wr.frozen? ⟨w.heap.size + 1, 1, none⟩ = false := by unfold World.frozen?; rw [hgb2]; rfl
      have hgb3 := Lib.hid hgb2
      have hB2 := Lib.hid (Below.then_ hbx.out hB.out)
      clear hgb2 hcl
      go_wp2
      refine bodyPost_ret (res_ct rfl _ _ (w.heap.size + 1) 49 #[.slice none 0 0, .slice none 0 0] (0, 0) _ rfl (heap_set2 _ _ hgb3.out) rfl rfl rfl) rfl ?_
      rw [hr.out]
      exact ⟨_, rfl, ⟨_, _, rfl, OwnI_nil _ _, OwnI_nil _ _⟩, (hB2.out.setCell (p := ⟨w.heap.size + 1, 0, none⟩) (by simp) _).setCell (p := ⟨w.heap.size + 1, 1, none⟩) (by simp) _⟩
end Go.Proofs.YtfljkcmijnhgkaaDoor
