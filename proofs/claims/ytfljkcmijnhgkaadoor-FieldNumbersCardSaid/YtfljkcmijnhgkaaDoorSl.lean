/- The library's functions on slices that take a function: their contracts. -/
import Derived.Test.YtfljkcmijnhgkaaDoorProg
import Derived.Test.YtfljkcmijnhgkaaDoorMem
import Derived.Shelf.Abstract
namespace Go.Proofs.YtfljkcmijnhgkaaDoor
open Go.RowKit Go.Shelf

/-- Where the first one is of which q holds, among the first n; -1 if there is none. -/
def fstIdx (q : Nat → Bool) (n : Nat) : Int := match (List.range n).find? q with
  | some j => j
  | none => -1
theorem fstIdx_hit {q : Nat → Bool} {n k : Nat} (hk : k < n) (hq : q k = true) (h : ∀ j, j < k → q j = false) : fstIdx q n = k := by
  have : (List.range n).find? q = some k := by
    rw [List.find?_eq_some_iff_append]
    refine ⟨hq, List.range k, (List.range' (k + 1) (n - k - 1)), ?_, fun j hj => by simp [h j (by simpa using hj)]⟩
    rw [List.range_eq_range', List.range_eq_range']
    rw [show n = k + (1 + (n - k - 1)) from by omega, ← List.range'_append_1]
    simp [Nat.add_comm 1, List.range'_succ]
  rw [fstIdx, this]
theorem fstIdx_miss {q : Nat → Bool} {n : Nat} (h : ∀ j, j < n → q j = false) : fstIdx q n = -1 := by
  have : (List.range n).find? q = none := by
    rw [List.find?_eq_none]; intro j hj; simp [h j (by simpa using hj)]
  rw [fstIdx, this]
theorem fstIdx_nonneg (q : Nat → Bool) (n : Nat) : decide (0 ≤ fstIdx q n) = (List.range n).any q := by
  unfold fstIdx
  cases h : (List.range n).find? q with
  | none =>
    rw [List.find?_eq_none] at h
    have : (List.range n).any q = false := by simp; intro j hj; simpa using h j (by simpa using hj)
    rw [this]; simp
  | some j =>
    have h1 := List.find?_some h
    have h2 := List.mem_of_find?_eq_some h
    have : (List.range n).any q = true := by simp; exact ⟨j, by simpa using h2, h1⟩
    rw [this]; simp

set_option maxHeartbeats 400000 in
theorem IndexFunc_int (vs : List Value) (q : Nat → Bool) (v : Value) (g : Nat) (lb : Array Value) (eg : ∀ args w, (callFunc g args).run Tryd.prog w = .ok (.enter g args) w) (w : World)
    (hv : RdV w v vs) (hq : ∀ W j u, Below w.heap.size w W → vs[j]? = some u → Calls Tryd.prog g (#[u] ++ lb) W fun e w' => e = .returned (.bool (q j)) ∧ Below w.heap.size w w') :
    Calls Tryd.prog 113 #[v, .func (.func g) #[] lb] w fun e w' => e = .returned (.int .i64 (fstIdx q vs.length)) ∧ Below w.heap.size w w' := by
  obtain ⟨A, c, rfl, h1, h2, h3⟩ := hv
  replace hq := Lib.hid hq
  replace h3 := Lib.hid h3
  go_enter Tryd.func113, Tryd.ntmps113
  go_wp2
  go_loopw [5, 8] (fun _ i wr => ∃ k : Nat, k ≤ vs.length ∧ i = .int .i64 k ∧ Below w.heap.size w wr ∧ Hid (∀ j, j < k → q j = false)) (fun _ i _ => vs.length - (intOf i).toNat)
  case atStart => exact ⟨0, Nat.zero_le _, rfl, Below.refl _ w, Lib.hid (fun j hj => absurd hj (Nat.not_lt_zero _))⟩
  case round =>
    obtain ⟨k, hk, rfl, hB, hn⟩ := hrel
    by_cases hlt : k < vs.length
    · obtain ⟨b, off, rfl, hc⟩ := h3.out (by omega)
      have hu := List.getElem?_eq_getElem hlt
      generalize vs[k] = u at hu
      have hcall := Lib.hid (hq.out wr k u hB hu)
      have hcell := (hB.cell (p := ⟨b, off + k, none⟩) (World.block_lt_of_cell? w _ (hc k u hu))).trans (hc k u hu)
      replace hu := Lib.hid hu
      clear hc
      cases hqk : q k with
      | true =>
        rw [hqk] at hcall
        replace hqk := Lib.hid hqk
        go_wp2_with (go_at_fn g; refine hcall.out.mono ?_; rintro e w' ⟨rfl, hb'⟩)
        go_ret
        exact ⟨by rw [fstIdx_hit hlt hqk.out hn.out]; rfl, hb'⟩
      | false =>
        rw [hqk] at hcall
        replace hqk := Lib.hid hqk
        go_wp2_with (go_at_fn g; refine hcall.out.mono ?_; rintro e w' ⟨rfl, hb'⟩)
        go_roundw
        case rel => exact ⟨k + 1, by omega, by go_num, hb', Lib.hid (fun j hj => by
          by_cases e : j = k
          · subst e; exact hqk.out
          · exact hn.out j (by omega))⟩
        case measure => simp [intOf]; omega
    · have : k = vs.length := by omega
      go_wp2
      go_ret
      exact ⟨by rw [fstIdx_miss (fun j hj => hn.out j (by omega))]; rfl, hB⟩
set_option maxHeartbeats 400000 in
theorem IndexFunc_row (vs : List Value) (q : Nat → Bool) (v : Value) (g : Nat) (lb : Array Value) (eg : ∀ args w, (callFunc g args).run Tryd.prog w = .ok (.enter g args) w) (w : World)
    (hv : RdV w v vs) (hq : ∀ W j u, Below w.heap.size w W → vs[j]? = some u → Calls Tryd.prog g (#[u] ++ lb) W fun e w' => e = .returned (.bool (q j)) ∧ Below w.heap.size w w') :
    Calls Tryd.prog 139 #[v, .func (.func g) #[] lb] w fun e w' => e = .returned (.int .i64 (fstIdx q vs.length)) ∧ Below w.heap.size w w' := by
  obtain ⟨A, c, rfl, h1, h2, h3⟩ := hv
  replace hq := Lib.hid hq
  replace h3 := Lib.hid h3
  go_enter Tryd.func139, Tryd.ntmps139
  go_wp2
  go_loopw [5, 8] (fun _ i wr => ∃ k : Nat, k ≤ vs.length ∧ i = .int .i64 k ∧ Below w.heap.size w wr ∧ Hid (∀ j, j < k → q j = false)) (fun _ i _ => vs.length - (intOf i).toNat)
  case atStart => exact ⟨0, Nat.zero_le _, rfl, Below.refl _ w, Lib.hid (fun j hj => absurd hj (Nat.not_lt_zero _))⟩
  case round =>
    obtain ⟨k, hk, rfl, hB, hn⟩ := hrel
    by_cases hlt : k < vs.length
    · obtain ⟨b, off, rfl, hc⟩ := h3.out (by omega)
      have hu := List.getElem?_eq_getElem hlt
      generalize vs[k] = u at hu
      have hcall := Lib.hid (hq.out wr k u hB hu)
      have hcell := (hB.cell (p := ⟨b, off + k, none⟩) (World.block_lt_of_cell? w _ (hc k u hu))).trans (hc k u hu)
      replace hu := Lib.hid hu
      clear hc
      cases hqk : q k with
      | true =>
        rw [hqk] at hcall
        replace hqk := Lib.hid hqk
        go_wp2_with (go_at_fn g; refine hcall.out.mono ?_; rintro e w' ⟨rfl, hb'⟩)
        go_ret
        exact ⟨by rw [fstIdx_hit hlt hqk.out hn.out]; rfl, hb'⟩
      | false =>
        rw [hqk] at hcall
        replace hqk := Lib.hid hqk
        go_wp2_with (go_at_fn g; refine hcall.out.mono ?_; rintro e w' ⟨rfl, hb'⟩)
        go_roundw
        case rel => exact ⟨k + 1, by omega, by go_num, hb', Lib.hid (fun j hj => by
          by_cases e : j = k
          · subst e; exact hqk.out
          · exact hn.out j (by omega))⟩
        case measure => simp [intOf]; omega
    · have : k = vs.length := by omega
      go_wp2
      go_ret
      exact ⟨by rw [fstIdx_miss (fun j hj => hn.out j (by omega))]; rfl, hB⟩

set_option maxHeartbeats 400000 in
theorem ContainsFunc_int (vs : List Value) (q : Nat → Bool) (v : Value) (g : Nat) (lb : Array Value) (eg : ∀ args w, (callFunc g args).run Tryd.prog w = .ok (.enter g args) w) (w : World)
    (hv : RdV w v vs) (hq : ∀ W j u, Below w.heap.size w W → vs[j]? = some u → Calls Tryd.prog g (#[u] ++ lb) W fun e w' => e = .returned (.bool (q j)) ∧ Below w.heap.size w w') :
    Calls Tryd.prog 103 #[v, .func (.func g) #[] lb] w fun e w' => e = .returned (.bool ((List.range vs.length).any q)) ∧ Below w.heap.size w w' := by
  have h := Lib.hid (IndexFunc_int vs q v g lb eg w hv hq)
  have he := Lib.hid (fstIdx_nonneg q vs.length)
  clear hq hv
  go_enter Tryd.func103, Tryd.ntmps103
  go_wp2_with (go_at_call 113; refine h.out.mono ?_; rintro e w' ⟨rfl, hb⟩)
  go_ret
  exact ⟨by rw [← he.out]; rfl, hb⟩

set_option maxHeartbeats 400000 in
theorem ContainsFunc_row (vs : List Value) (q : Nat → Bool) (v : Value) (g : Nat) (lb : Array Value) (eg : ∀ args w, (callFunc g args).run Tryd.prog w = .ok (.enter g args) w) (w : World)
    (hv : RdV w v vs) (hq : ∀ W j u, Below w.heap.size w W → vs[j]? = some u → Calls Tryd.prog g (#[u] ++ lb) W fun e w' => e = .returned (.bool (q j)) ∧ Below w.heap.size w w') :
    Calls Tryd.prog 89 #[v, .func (.func g) #[] lb] w fun e w' => e = .returned (.bool ((List.range vs.length).any q)) ∧ Below w.heap.size w w' := by
  have h := Lib.hid (IndexFunc_row vs q v g lb eg w hv hq)
  have he := Lib.hid (fstIdx_nonneg q vs.length)
  clear hq hv
  go_enter Tryd.func89, Tryd.ntmps89
  go_wp2_with (go_at_call 139; refine h.out.mono ?_; rintro e w' ⟨rfl, hb⟩)
  go_ret
  exact ⟨by rw [← he.out]; rfl, hb⟩

theorem any_range {α : Type} (p : α → Bool) (d : α) (xs : List α) : ((List.range xs.length).any fun j => p (xs.getD j d)) = xs.any p := by
  rw [Bool.eq_iff_iff]
  simp only [List.any_eq_true, List.mem_range]
  constructor
  · rintro ⟨j, hj, h⟩
    rw [List.getD_eq_getElem?_getD, List.getElem?_eq_getElem hj] at h
    exact ⟨xs[j], List.getElem_mem hj, h⟩
  · rintro ⟨x, hx, h⟩
    obtain ⟨j, hj, rfl⟩ := List.getElem_of_mem hx
    exact ⟨j, hj, by rw [List.getD_eq_getElem?_getD, List.getElem?_eq_getElem hj]; exact h⟩
end Go.Proofs.YtfljkcmijnhgkaaDoor
