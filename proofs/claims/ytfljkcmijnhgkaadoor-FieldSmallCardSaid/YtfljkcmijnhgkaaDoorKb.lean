/- The library's functions on slices that take a function: their contracts. 'is', Check, square; great, residues, shaped: their contracts. -/
import Derived.Test.YtfljkcmijnhgkaaDoorProg
import Derived.Test.YtfljkcmijnhgkaaDoorKa
import Derived.Shelf.Abstract
namespace Go.Proofs.YtfljkcmijnhgkaaDoor
open Go.RowKit Go.Shelf
/-- Where the first one is of which q holds, among the first n; -1 if there is none. -/
def fstIdx (q : Nat → Bool) (n : Nat) : Int := match (List.range n).find? q with
  | some j => j
  | none => -1
theorem fstIdx_hit {q : Nat → Bool} {n k : Nat} (hk : k < n) (hq : q k = true) (h : ∀ j, j < k → q j = false) : fstIdx q n = k := by
  have : (List.range n).find? q = some k := by
    rw [List.find?_eq_some_iff_append]
    refine ⟨hq, List.range k, (List.range' (k + 1) (n - k - 1)), ?_, fun j hj => by simp [h j (by simpa using hj)]⟩
    rw [List.range_eq_range', List.range_eq_range']
    rw [show n = k + (1 + (n - k - 1)) from by omega, ← List.range'_append_1]
    simp [Nat.add_comm 1, List.range'_succ]
  rw [fstIdx, this]
theorem fstIdx_miss {q : Nat → Bool} {n : Nat} (h : ∀ j, j < n → q j = false) : fstIdx q n = -1 := by
  have : (List.range n).find? q = none := by
    rw [List.find?_eq_none]; intro j hj; simp [h j (by simpa using hj)]
  rw [fstIdx, this]
theorem fstIdx_nonneg (q : Nat → Bool) (n : Nat) : decide (0 ≤ fstIdx q n) = (List.range n).any q := by
  unfold fstIdx
  cases h : (List.range n).find? q with
  | none =>
    rw [List.find?_eq_none] at h
    have : (List.range n).any q = false := by simp; intro j hj; simpa using h j (by simpa using hj)
    rw [this]; simp
  | some j =>
    have h1 := List.find?_some h
    have h2 := List.mem_of_find?_eq_some h
    have : (List.range n).any q = true := by simp; exact ⟨j, by simpa using h2, h1⟩
    rw [this]; simp

set_option maxHeartbeats 400000 in
theorem IndexFunc_int (vs : List Value) (q : Nat → Bool) (v : Value) (g : Nat) (lb : Array Value) (eg : ∀ args w, (callFunc g args).run Tryd.prog w = .ok (.enter g args) w) (w : World)
    (hv : RdV w v vs) (hq : ∀ W j u, Below w.heap.size w W → vs[j]? = some u → Calls Tryd.prog g (#[u] ++ lb) W fun e w' => e = .returned (.bool (q j)) ∧ Below w.heap.size w w') :
    Calls Tryd.prog 113 #[v, .func (.func g) #[] lb] w fun e w' => e = .returned (.int .i64 (fstIdx q vs.length)) ∧ Below w.heap.size w w' := by
  obtain ⟨A, c, rfl, h1, h2, h3⟩ := hv
  replace hq := Lib.hid hq
  replace h3 := Lib.hid h3
  go_enter Tryd.func113, Tryd.ntmps113
  go_wp2
  go_loopw [5, 8] (fun _ i wr => ∃ k : Nat, k ≤ vs.length ∧ i = .int .i64 k ∧ Below w.heap.size w wr ∧ Hid (∀ j, j < k → q j = false)) (fun _ i _ => vs.length - (intOf i).toNat)
  case atStart => exact ⟨0, Nat.zero_le _, rfl, Below.refl _ w, Lib.hid (fun j hj => absurd hj (Nat.not_lt_zero _))⟩
  case round =>
    obtain ⟨k, hk, rfl, hB, hn⟩ := hrel
    by_cases hlt : k < vs.length
    · obtain ⟨b, off, rfl, hc⟩ := h3.out (by omega)
      have hu := List.getElem?_eq_getElem hlt
      generalize vs[k] = u at hu
      have hcall := Lib.hid (hq.out wr k u hB hu)
      have hcell := (hB.cell (p := ⟨b, off + k, none⟩) (World.block_lt_of_cell? w _ (hc k u hu))).trans (hc k u hu)
      replace hu := Lib.hid hu
      clear hc
      cases hqk : q k with
      | true =>
        rw [hqk] at hcall
        replace hqk := Lib.hid hqk
        go_wp2_with (go_at_fn g; refine hcall.out.mono ?_; rintro e w' ⟨rfl, hb'⟩)
        go_ret
        exact ⟨by rw [fstIdx_hit hlt hqk.out hn.out]; rfl, hb'⟩
      | false =>
        rw [hqk] at hcall
        replace hqk := Lib.hid hqk
        go_wp2_with (go_at_fn g; refine hcall.out.mono ?_; rintro e w' ⟨rfl, hb'⟩)
        go_roundw
        case rel => exact ⟨k + 1, by omega, by go_num, hb', Lib.hid (fun j hj => by
          by_cases e : j = k
          · subst e; exact hqk.out
          · exact hn.out j (by omega))⟩
        case measure => simp [intOf]; omega
    · have : k = vs.length := by omega
      go_wp2
      go_ret
      exact ⟨by rw [fstIdx_miss (fun j hj => hn.out j (by omega))]; rfl, hB⟩
set_option maxHeartbeats 400000 in
theorem IndexFunc_row (vs : List Value) (q : Nat → Bool) (v : Value) (g : Nat) (lb : Array Value) (eg : ∀ args w, (callFunc g args).run Tryd.prog w = .ok (.enter g args) w) (w : World)
    (hv : RdV w v vs) (hq : ∀ W j u, Below w.heap.size w W → vs[j]? = some u → Calls Tryd.prog g (#[u] ++ lb) W fun e w' => e = .returned (.bool (q j)) ∧ Below w.heap.size w w') :
    Calls Tryd.prog 139 #[v, .func (.func g) #[] lb] w fun e w' => e = .returned (.int .i64 (fstIdx q vs.length)) ∧ Below w.heap.size w w' := by
  obtain ⟨A, c, rfl, h1, h2, h3⟩ := hv
  replace hq := Lib.hid hq
  replace h3 := Lib.hid h3
  go_enter Tryd.func139, Tryd.ntmps139
  go_wp2
  go_loopw [5, 8] (fun _ i wr => ∃ k : Nat, k ≤ vs.length ∧ i = .int .i64 k ∧ Below w.heap.size w wr ∧ Hid (∀ j, j < k → q j = false)) (fun _ i _ => vs.length - (intOf i).toNat)
  case atStart => exact ⟨0, Nat.zero_le _, rfl, Below.refl _ w, Lib.hid (fun j hj => absurd hj (Nat.not_lt_zero _))⟩
  case round =>
    obtain ⟨k, hk, rfl, hB, hn⟩ := hrel
    by_cases hlt : k < vs.length
    · obtain ⟨b, off, rfl, hc⟩ := h3.out (by omega)
      have hu := List.getElem?_eq_getElem hlt
      generalize vs[k] = u at hu
      have hcall := Lib.hid (hq.out wr k u hB hu)
      have hcell := (hB.cell (p := ⟨b, off + k, none⟩) (World.block_lt_of_cell? w _ (hc k u hu))).trans (hc k u hu)
      replace hu := Lib.hid hu
      clear hc
      cases hqk : q k with
      | true =>
        rw [hqk] at hcall
        replace hqk := Lib.hid hqk
        go_wp2_with (go_at_fn g; refine hcall.out.mono ?_; rintro e w' ⟨rfl, hb'⟩)
        go_ret
        exact ⟨by rw [fstIdx_hit hlt hqk.out hn.out]; rfl, hb'⟩
      | false =>
        rw [hqk] at hcall
        replace hqk := Lib.hid hqk
        go_wp2_with (go_at_fn g; refine hcall.out.mono ?_; rintro e w' ⟨rfl, hb'⟩)
        go_roundw
        case rel => exact ⟨k + 1, by omega, by go_num, hb', Lib.hid (fun j hj => by
          by_cases e : j = k
          · subst e; exact hqk.out
          · exact hn.out j (by omega))⟩
        case measure => simp [intOf]; omega
    · have : k = vs.length := by omega
      go_wp2
      go_ret
      exact ⟨by rw [fstIdx_miss (fun j hj => hn.out j (by omega))]; rfl, hB⟩

set_option maxHeartbeats 400000 in
theorem ContainsFunc_int (vs : List Value) (q : Nat → Bool) (v : Value) (g : Nat) (lb : Array Value) (eg : ∀ args w, (callFunc g args).run Tryd.prog w = .ok (.enter g args) w) (w : World)
    (hv : RdV w v vs) (hq : ∀ W j u, Below w.heap.size w W → vs[j]? = some u → Calls Tryd.prog g (#[u] ++ lb) W fun e w' => e = .returned (.bool (q j)) ∧ Below w.heap.size w w') :
    Calls Tryd.prog 103 #[v, .func (.func g) #[] lb] w fun e w' => e = .returned (.bool ((List.range vs.length).any q)) ∧ Below w.heap.size w w' := by
  have h := Lib.hid (IndexFunc_int vs q v g lb eg w hv hq)
  have he := Lib.hid (fstIdx_nonneg q vs.length)
  clear hq hv
  go_enter Tryd.func103, Tryd.ntmps103
  go_wp2_with (go_at_call 113; refine h.out.mono ?_; rintro e w' ⟨rfl, hb⟩)
  go_ret
  exact ⟨by rw [← he.out]; rfl, hb⟩

set_option maxHeartbeats 400000 in
theorem ContainsFunc_row (vs : List Value) (q : Nat → Bool) (v : Value) (g : Nat) (lb : Array Value) (eg : ∀ args w, (callFunc g args).run Tryd.prog w = .ok (.enter g args) w) (w : World)
    (hv : RdV w v vs) (hq : ∀ W j u, Below w.heap.size w W → vs[j]? = some u → Calls Tryd.prog g (#[u] ++ lb) W fun e w' => e = .returned (.bool (q j)) ∧ Below w.heap.size w w') :
    Calls Tryd.prog 89 #[v, .func (.func g) #[] lb] w fun e w' => e = .returned (.bool ((List.range vs.length).any q)) ∧ Below w.heap.size w w' := by
  have h := Lib.hid (IndexFunc_row vs q v g lb eg w hv hq)
  have he := Lib.hid (fstIdx_nonneg q vs.length)
  clear hq hv
  go_enter Tryd.func89, Tryd.ntmps89
  go_wp2_with (go_at_call 139; refine h.out.mono ?_; rintro e w' ⟨rfl, hb⟩)
  go_ret
  exact ⟨by rw [← he.out]; rfl, hb⟩

theorem any_range {α : Type} (p : α → Bool) (d : α) (xs : List α) : ((List.range xs.length).any fun j => p (xs.getD j d)) = xs.any p := by
  rw [Bool.eq_iff_iff]
  simp only [List.any_eq_true, List.mem_range]
  constructor
  · rintro ⟨j, hj, h⟩
    rw [List.getD_eq_getElem?_getD, List.getElem?_eq_getElem hj] at h
    exact ⟨xs[j], List.getElem_mem hj, h⟩
  · rintro ⟨x, hx, h⟩
    obtain ⟨j, hj, rfl⟩ := List.getElem_of_mem hx
    exact ⟨j, hj, by rw [List.getD_eq_getElem?_getD, List.getElem?_eq_getElem hj]; exact h⟩
end Go.Proofs.YtfljkcmijnhgkaaDoor

namespace Go.Proofs.YtfljkcmijnhgkaaDoor
open Go.RowKit Go.Shelf
theorem not_isRes (xs : List Int) : (!isRes xs) = (List.range xs.length).any fun j => !isN (xs.getD j 0) := by
  rw [any_range (fun x => !isN x)]; simp [isRes, List.all_eq_not_any_not]

set_option maxHeartbeats 400000 in
theorem is_1 (x : Int) (w : World) (B : Nat) (w0 : World) (hB : Below B w0 w) : Calls Tryd.prog 140 #[.int .i64 x] w fun e w' => e = .returned (.bool (!isN x)) ∧ Below B w0 w' := by
  have H : Hid (isN x = (decide (0 ≤ x) && decide (x < 65521))) := Lib.hid rfl
  by_cases h1 : x < 0
  · go_enter Tryd.func140, Tryd.ntmps140
    go_wp2
    go_ret
    exact ⟨by rw [H.out]; simp; omega, hB⟩
  · go_enter Tryd.func140, Tryd.ntmps140
    go_wp2
    go_ret
    refine ⟨?_, hB⟩
    rw [H.out]
    have : decide (0 ≤ x) = true := by simp; omega
    rw [this]; by_cases h2 : x < 65521 <;> simp [h2] <;> omega
set_option maxHeartbeats 400000 in
theorem is_any (xs : List Int) (v : Value) (w : World) (h : RdI w v xs) : Calls Tryd.prog 93 #[v] w fun e w' => e = .returned (.bool (isRes xs)) ∧ Below w.heap.size w w' := by
  have hc := (ContainsFunc_int (ints xs) (fun j => !isN (xs.getD j 0)) v 140 #[] (enters_of Tryd.func140 (by kernel_rfl) rfl) w h (fun W j u hB hu => by
    rw [ints_get] at hu
    obtain ⟨x, hx, rfl⟩ := Option.map_eq_some_iff.1 hu
    have : xs.getD j 0 = x := by rw [List.getD_eq_getElem?_getD, hx]; rfl
    rw [this]
    exact is_1 x W _ w hB))
  rw [ints_len, ← not_isRes] at hc
  replace hc := Lib.hid hc
  clear h
  go_enter Tryd.func93, Tryd.ntmps93
  go_wp2_with (go_at_call 103; refine hc.out.mono ?_; rintro e w' ⟨rfl, hb⟩)
  go_ret
  exact ⟨by simp, hb⟩
/-- A row out of a matrix that is read. -/
theorem row_of {w : World} {vs : List Value} {rs : List (List Int)} {j : Nat} {u : Value} (hl : vs.length = rs.length) (h : ∀ (j : Nat) (r : List Int) (u : Value), rs[j]? = some r → vs[j]? = some u → RdI w u r) (hu : vs[j]? = some u) : RdI w u (rs.getD j []) := by
  have hj : j < rs.length := by have := (List.getElem?_eq_some_iff.1 hu).1; omega
  exact h j _ u (by rw [List.getD_eq_getElem?_getD, List.getElem?_eq_getElem hj]; simp) hu
set_option maxHeartbeats 400000 in
theorem Check_1 (p : Addr) (n0 : Nat) (A0 : Option Addr) (c0 : Nat) (b off n c : Nat) (xs : List Int) (u : Value) (w : World) (hu : RdI w u xs)
    (hp : w.cell? p = some (.slice (some ⟨b, off, none⟩) n c)) (hn : 0 < n) (h0 : w.cell? ⟨b, off, none⟩ = some (.slice A0 n0 c0)) :
    Calls Tryd.prog 130 (#[u] ++ #[.pointer (some p)]) w fun e w' => e = .returned (.bool (!(xs.length == n0))) ∧ w = w' := by
  obtain ⟨A, c1, rfl, h1, h2⟩ := hu.cell_
  clear hu
  have hn' : (0 : Int) < (n : Int) := by omega
  go_enter Tryd.func130, Tryd.ntmps130
  go_wp2
  go_ret
  refine ⟨?_, rfl⟩
  show Ending.returned (Value.bool _) = _
  congr 2
  rw [Bool.eq_iff_iff]; simp; omega
set_option maxHeartbeats 400000 in
theorem Check_2 (xs : List Int) (u : Value) (w : World) (hu : RdI w u xs) :
    Calls Tryd.prog 131 #[u] w fun e w' => e = .returned (.bool (!isRes xs)) ∧ Below w.heap.size w w' := by
  have hc := Lib.hid (is_any xs u w hu)
  clear hu
  go_enter Tryd.func131, Tryd.ntmps131
  go_wp2_with (go_at_call 93; refine hc.out.mono ?_; rintro e w' ⟨rfl, hb⟩)
  go_ret
  exact ⟨rfl, hb⟩

theorem checkM_pass {rs : List (List Int)} (h : ¬ (rs.length < 1 ∨ rs.length > 12 ∨ len0 rs < 1 ∨ len0 rs > 12)) : checkM rs = if (rs.any fun r => !(r.length == len0 rs)) = true then 4
  else if (rs.any fun r => !isRes r) = true then 3 else 0 := by rw [checkM, if_neg h]
theorem checkM_many {rs : List (List Int)} (h : rs.length < 1 ∨ rs.length > 12 ∨ len0 rs < 1 ∨ len0 rs > 12) : checkM rs = 2 := by rw [checkM, if_pos h]
set_option maxHeartbeats 800000 in
theorem Check_any (rs : List (List Int)) (v : Value) (w : World) (h : RdM w v rs) :
    Calls Tryd.prog 64 #[v] w fun e w' => e = .returned (.int .i64 (checkM rs)) ∧ Below w.heap.size w w' := by
  have h' := h
  obtain ⟨A, c, rfl, h1, h2, h3⟩ := h'.open_
  by_cases hn : rs.length < 1
  · have hr := Lib.hid (checkM_many (rs := rs) (.inl hn))
    clear h h' h3
    go_enter Tryd.func64, Tryd.ntmps64
    go_wp2
    go_ret
    exact ⟨by rw [hr.out]; rfl, ((Below.refl _ _).alloc (Nat.le_refl _) _)⟩
  by_cases hm : rs.length > 12
  · have hr := Lib.hid (checkM_many (rs := rs) (.inr (.inl hm)))
    clear h h' h3
    go_enter Tryd.func64, Tryd.ntmps64
    go_wp2
    go_ret
    exact ⟨by rw [hr.out]; rfl, ((Below.refl _ _).alloc (Nat.le_refl _) _)⟩
  obtain ⟨b, off, u, rfl, hc, hu⟩ := h3 0 (by omega)
  obtain ⟨A0, c0, rfl, l1, l2⟩ := hu.cell_
  change _ = some (Value.slice A0 (len0 rs) c0) at hc
  have l3 : len0 rs ≤ c0 := l1
  have l4 : len0 rs ≤ 140737488355328 := l2
  clear h3 hu l1 l2
  rw [Nat.add_zero] at hc
  have hn' : (0 : Int) < (rs.length : Int) := by omega
  have hcl : b < w.heap.size := World.block_lt_of_cell? w _ hc
  generalize hl : len0 rs = m at hc l3 l4
  by_cases hm0 : m < 1 ∨ m > 12
  · have hr := Lib.hid (checkM_many (rs := rs) (by omega))
    clear h h' hl
    by_cases hm1 : m < 1
    all_goals
      go_enter Tryd.func64, Tryd.ntmps64
      go_wp2
      go_ret
      exact ⟨by rw [hr.out]; rfl, ((Below.refl _ _).alloc (Nat.le_refl _) _)⟩
  have hr := checkM_pass (rs := rs) (by omega)
  rw [hl] at hr
  obtain ⟨vs, hv, hvl, hvr⟩ := h'
  have hb0 : Below w.heap.size w (w.alloc (.cells #[.slice (some ⟨b, off, none⟩) rs.length c] 22)) := (Below.refl _ _).alloc (Nat.le_refl _) _
  have c1 := ContainsFunc_row vs (fun j => !((rs.getD j []).length == m)) _ 130 #[.pointer (some ⟨w.heap.size, 0, none⟩)] (enters_of Tryd.func130 (by kernel_rfl) rfl) _ (hv.below hb0 (Nat.le_refl _)) (fun W j u hB hu =>
    (Check_1 ⟨w.heap.size, 0, none⟩ m A0 c0 b off rs.length c _ u W ((row_of hvl hvr hu).below (hb0.trans (hB.mono hb0.size)) (Nat.le_refl _))
      ((hB.cell (p := ⟨w.heap.size, 0, none⟩) (by simp)).trans (cell_new _ _ _)) (by omega) (((hb0.trans (hB.mono hb0.size)).cell (p := ⟨b, off, none⟩) hcl).trans hc)).mono
      (fun e w' ⟨he, hw⟩ => ⟨he, hw ▸ hB⟩))
  have c2 := fun W (hW : Below w.heap.size w W) => ContainsFunc_row vs (fun j => !isRes (rs.getD j [])) _ 131 #[] (enters_of Tryd.func131 (by kernel_rfl) rfl) W (hv.below hW (Nat.le_refl _)) (fun W' j u hB hu =>
    (Check_2 _ u W' ((row_of hvl hvr hu).below (hW.trans (hB.mono hW.size)) (Nat.le_refl _))).mono (fun e w' ⟨he, hb⟩ => ⟨he, hB.trans (hb.mono hB.size)⟩))
  rw [hvl, any_range (fun r : List Int => !(r.length == m))] at c1
  rw [hvl] at c2
  simp only [any_range (fun r : List Int => !isRes r)] at c2
  replace c1 := Lib.hid c1
  replace c2 := Lib.hid c2
  clear hv hvl hvr h hl
  cases h4 : rs.any fun r => !(r.length == m) with
  | true =>
    rw [h4] at hr c1
    replace hr := Lib.hid hr; clear h4
    go_enter Tryd.func64, Tryd.ntmps64
    go_wp2_with fail
    refine c1.out.mono ?_; rintro e W ⟨rfl, hW⟩
    go_wp2
    go_ret
    exact ⟨by rw [hr.out]; rfl, hb0.trans (hW.mono hb0.size)⟩
  | false =>
    cases h5 : rs.any fun r => !isRes r with
    | true =>
      rw [h4, h5] at hr
      rw [h4] at c1
      simp only [h5] at c2
      replace hr := Lib.hid hr; clear h4 h5
      go_enter Tryd.func64, Tryd.ntmps64
      go_wp2_with fail
      refine c1.out.mono ?_; rintro e W ⟨rfl, hW⟩
      have hbx := (hW.cell (p := ⟨w.heap.size, 0, none⟩) (by simp)).trans (cell_new _ _ _)
      go_wp2_with fail
      refine (c2.out W (hb0.trans (hW.mono hb0.size))).mono ?_; rintro e W2 ⟨rfl, hW2⟩
      go_wp2
      go_ret
      exact ⟨by rw [hr.out]; rfl, (hb0.trans (hW.mono hb0.size)).trans (hW2.mono (hb0.trans (hW.mono hb0.size)).size)⟩
    | false =>
      rw [h4, h5] at hr
      rw [h4] at c1
      simp only [h5] at c2
      replace hr := Lib.hid hr; clear h4 h5
      go_enter Tryd.func64, Tryd.ntmps64
      go_wp2_with fail
      refine c1.out.mono ?_; rintro e W ⟨rfl, hW⟩
      have hbx := (hW.cell (p := ⟨w.heap.size, 0, none⟩) (by simp)).trans (cell_new _ _ _)
      go_wp2_with fail
      refine (c2.out W (hb0.trans (hW.mono hb0.size))).mono ?_; rintro e W2 ⟨rfl, hW2⟩
      go_wp2
      go_ret
      exact ⟨by rw [hr.out]; rfl, (hb0.trans (hW.mono hb0.size)).trans (hW2.mono (hb0.trans (hW.mono hb0.size)).size)⟩
end Go.Proofs.YtfljkcmijnhgkaaDoor
