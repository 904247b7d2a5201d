/- The iterator of a line's terms; first: their contracts. -/
import Derived.Test.YtfljkcmijnhgkaaDoorRange
import Derived.Laws.CopyRow
namespace Go.Proofs.YtfljkcmijnhgkaaDoor
open Go.RowKit Go.Shelf
set_option linter.unusedSimpArgs false
attribute [local go_sem] Oper.semAt_some

def termK (r : Rule) (k : Nat) : Int := if k < r.start.length then r.start.getD k 0 else nextT r.by_ (firstL r k)
theorem firstL_succ (r : Rule) (k : Nat) : firstL r (k + 1) = firstL r k ++ [termK r k] := rfl
theorem firstL_len (r : Rule) (k : Nat) : (firstL r k).length = k := by
  induction k with
  | zero => rfl
  | succ k ih => rw [firstL_succ, List.length_append, ih]; rfl
/-- The window behind k terms. -/
def winL (r : Rule) : Nat → List Int
  | 0 => List.replicate 12 0
  | k + 1 => termK r k :: (winL r k).take 11
theorem winL_len (r : Rule) (k : Nat) : (winL r k).length = 12 := by
  induction k with
  | zero => rfl
  | succ k ih => simp [winL, ih]
theorem winL_get (r : Rule) (k : Nat) : ∀ j, j < 12 → j < k → (winL r k).getD j 0 = (firstL r k).getD (k - 1 - j) 0 := by
  induction k with
  | zero => intro j _ h; omega
  | succ k ih =>
    intro j hj hk
    have hl := firstL_len r k
    rw [firstL_succ, winL]
    cases j with
    | zero =>
      rw [List.getD_eq_getElem?_getD, List.getD_eq_getElem?_getD, List.getElem?_append_right (by omega), hl]
      simp
    | succ j =>
      rw [List.getD_eq_getElem?_getD, List.getD_eq_getElem?_getD, List.getElem?_cons_succ, List.getElem?_take, if_pos (by omega), List.getElem?_append_left (by omega)]
      have h := ih j (by omega) (by omega)
      rw [List.getD_eq_getElem?_getD, List.getD_eq_getElem?_getD] at h
      rw [h, show k + 1 - 1 - (j + 1) = k - 1 - j from by omega]
theorem nextW_eq (r : Rule) (k : Nat) (h : r.by_.length ≤ 12) (hk : r.by_.length ≤ k) : nextW r.by_ (winL r k) = nextT r.by_ (firstL r k) := by
  unfold nextW nextT
  congr 1
  apply psum_congr
  intro j hj
  rw [winL_get r k j (by omega) (by omega), firstL_len]
theorem nextT_bd (bs l : List Int) : 0 ≤ nextT bs l ∧ nextT bs l < 65521 := by unfold nextT; omega
theorem termK_bd {r : Rule} (hs : ∀ x ∈ r.start, 0 ≤ x ∧ x < 65521) (k : Nat) : 0 ≤ termK r k ∧ termK r k < 65521 := by
  unfold termK
  split
  · rename_i h
    rw [List.getD_eq_getElem?_getD, List.getElem?_eq_getElem h]
    exact hs _ (List.getElem_mem h)
  · exact nextT_bd _ _
theorem firstL_bd {r : Rule} (hs : ∀ x ∈ r.start, 0 ≤ x ∧ x < 65521) (k : Nat) : ∀ x ∈ firstL r k, 0 ≤ x ∧ x < 65521 := by
  induction k with
  | zero => intro x hx; cases hx
  | succ k ih =>
    intro x hx
    rw [firstL_succ] at hx
    rcases List.mem_append.1 hx with hx | hx
    · exact ih x hx
    · rw [List.mem_singleton.1 hx]; exact termK_bd hs k
theorem winL_bd {r : Rule} (hs : ∀ x ∈ r.start, 0 ≤ x ∧ x < 65521) (k : Nat) : ∀ x ∈ winL r k, 0 ≤ x ∧ x < 65521 := by
  induction k with
  | zero => intro x hx; rw [List.eq_of_mem_replicate hx]; decide
  | succ k ih =>
    intro x hx
    rcases List.mem_cons.1 hx with rfl | hx
    · exact termK_bd hs k
    · exact ih x (List.mem_of_mem_take hx)
theorem twelve {l : List Int} (h : l.length = 12) : ∃ x0 x1 x2 x3 x4 x5 x6 x7 x8 x9 x10 x11, l = [x0, x1, x2, x3, x4, x5, x6, x7, x8, x9, x10, x11] := by
  match l, h with
  | [x0, x1, x2, x3, x4, x5, x6, x7, x8, x9, x10, x11], _ => exact ⟨_, _, _, _, _, _, _, _, _, _, _, _, rfl⟩
theorem grown_set {w w5 : World} {B : Nat} (h : w.grownBy w5 (some B)) (B' : Nat) (v : Value) (e : B' = B := by rfl) : w.grownBy (w5.setCell ⟨B', 0, none⟩ v) (some B) := by
  subst e
  exact ⟨h.os, h.tape, h.output, by have := h.size; simp [World.setCell]; omega, fun k hk hne => (Below.heap_setCell _ _ _ _ (fun e => hne (by rw [e]))).trans (h.block k hk hne)⟩
/-- The window moves on by one. -/
theorem shift {B : Nat} (x0 x1 x2 x3 x4 x5 x6 x7 x8 x9 x10 x11 : Int) (w : World) (hg : w.heap[B]? = some (.cells #[.int .i64 x0, .int .i64 x1, .int .i64 x2, .int .i64 x3, .int .i64 x4, .int .i64 x5, .int .i64 x6, .int .i64 x7, .int .i64 x8, .int .i64 x9, .int .i64 x10, .int .i64 x11] 114 (0, 0))) :
    ∃ w5, (∀ ty, (Builtin.copy_ #[23, 23] ty #[.slice (some ⟨B, 1, none⟩) 11 11, .slice (some ⟨B, 0, none⟩) 11 12]).run Tryd.prog w.drew = .ok (goInt 11) w5) ∧
      w5.heap[B]? = some (.cells #[.int .i64 x0, .int .i64 x0, .int .i64 x1, .int .i64 x2, .int .i64 x3, .int .i64 x4, .int .i64 x5, .int .i64 x6, .int .i64 x7, .int .i64 x8, .int .i64 x9, .int .i64 x10] 114 (0, 0)) ∧ w.grownBy w5 (some B) := by
  have hg' : w.drew.heap[B]? = some (.cells #[.int .i64 x0, .int .i64 x1, .int .i64 x2, .int .i64 x3, .int .i64 x4, .int .i64 x5, .int .i64 x6, .int .i64 x7, .int .i64 x8, .int .i64 x9, .int .i64 x10, .int .i64 x11] 114 (0, 0)) := hg
  have hi : (Tryd.prog.info? 3).map (·.size) = some 1 := by kernel_rfl
  refine ⟨_, fun ty => run_copy_row Tryd.prog w.drew 23 23 ty 3 B 1 11 11 ⟨B, 0, none⟩ 11 12 _ _ [.int .i64 x0, .int .i64 x1, .int .i64 x2, .int .i64 x3, .int .i64 x4, .int .i64 x5, .int .i64 x6, .int .i64 x7, .int .i64 x8, .int .i64 x9, .int .i64 x10] Tryd.underlying23 hi hg' rfl (fun j v hj => ?_) (by simp) (by simp [Value.oneCell']), setRow_heap w.drew B _ _ _ _ hg', ?_⟩
  · rw [add_off, Nat.zero_add, cell_of_row w.drew B j _ _ _ hg']
    have hjl := (List.getElem?_eq_some_iff.1 hj).1
    have : j = 0 ∨ j = 1 ∨ j = 2 ∨ j = 3 ∨ j = 4 ∨ j = 5 ∨ j = 6 ∨ j = 7 ∨ j = 8 ∨ j = 9 ∨ j = 10 := by simp at hjl; omega
    rcases this with rfl | rfl | rfl | rfl | rfl | rfl | rfl | rfl | rfl | rfl | rfl <;> exact hj
  · exact ⟨rfl, rfl, rfl, by simp, fun k hk hne => by
      have : k ≠ B := fun e => hne (by rw [e])
      simp [World.setRow, Array.getElem?_modify, Ne.symm this]
      rfl⟩
set_option maxRecDepth 100000 in
set_option maxHeartbeats 3200000 in
theorem terms_1 (r : Rule) (N x g : Nat) (a b : Value) (w0 W : World) (hr : rightR r = 0) (ra : RdI w0 a r.by_) (rb : RdI w0 b r.start) (hg : w0.heap[g]? = some (.cells #[a, b] 49 (0, 0))) (hB : Below w0.heap.size w0 W)
    (hxW : W.heap[x]? = some (.cells #[a, b, .func (.func 144) #[] #[.pointer (some ⟨g, 0, none⟩)]] 110 (0, 0))) (_hx : w0.heap.size ≤ x) (hN : 0 < N) (hN2 : N ≤ 1000) :
    UpTo Tryd.prog 153 #[.pointer (some ⟨x, 0, none⟩)] (fun pre => ∃ k, pre = firstL r k) N w0.heap.size x W := by
  intro l J Jx hJ hJx hY h0
  obtain ⟨o1, o2, o3, o4⟩ := rightR_ok hr
  have hxl := (Array.getElem?_eq_some_iff.1 hxW).1
  have eg : ∀ args w, (callFunc 144 args).run Tryd.prog w = .ok (.enter 144 args) w := enters_of Tryd.func144 (by kernel_rfl) rfl
  refine callsIn_of_wp Tryd.func153 rfl trivial ?_ rfl
  simp only [Tryd.ntmps153, List.size_toArray, List.length_cons, List.length_nil, Nat.reduceAdd, Nat.reduceSub, Array.replicate_succ, Array.replicate_zero, List.push_toArray, List.append_toArray, List.nil_append, List.cons_append]
  obtain ⟨B, d, rfl, sb1, sb2, hsb⟩ := rb.open_
  have hst := Lib.hid hsb
  have hbW : Below w0.heap.size w0 (W.alloc (.cells #[.int .i64 0, .int .i64 0, .int .i64 0, .int .i64 0, .int .i64 0, .int .i64 0, .int .i64 0, .int .i64 0, .int .i64 0, .int .i64 0, .int .i64 0, .int .i64 0] 114)) := hB.alloc (by have := hB.size; omega) _
  have hnew : (W.alloc (.cells #[.int .i64 0, .int .i64 0, .int .i64 0, .int .i64 0, .int .i64 0, .int .i64 0, .int .i64 0, .int .i64 0, .int .i64 0, .int .i64 0, .int .i64 0, .int .i64 0] 114)).heap[W.heap.size]? = some (.cells (ints (winL r 0)).toArray 114 (0, 0)) := heap_alloc_new _ _
  have hold := (((Below.refl W.heap.size W).alloc (Nat.le_refl _) (.cells #[.int .i64 0, .int .i64 0, .int .i64 0, .int .i64 0, .int .i64 0, .int .i64 0, .int .i64 0, .int .i64 0, .int .i64 0, .int .i64 0, .int .i64 0, .int .i64 0] 114)).block x hxl).trans hxW
  have h1 := hJ _ _ _ none h0 (World.grownBy_alloc W (.cells #[.int .i64 0, .int .i64 0, .int .i64 0, .int .i64 0, .int .i64 0, .int .i64 0, .int .i64 0, .int .i64 0, .int .i64 0, .int .i64 0, .int .i64 0, .int .i64 0] 114) none) (fun k e => by cases e)
  replace hbW := Lib.hid hbW
  replace hnew := Lib.hid hnew
  replace hold := Lib.hid hold
  replace h1 := Lib.hid h1
  have hJ' := Lib.hid hJ
  have hY' := Lib.hid hY
  have hgw := Lib.hid hg
  have hra := Lib.hid ra
  have hWs : Hid (W.heap.size < (W.alloc (.cells #[.int .i64 0, .int .i64 0, .int .i64 0, .int .i64 0, .int .i64 0, .int .i64 0, .int .i64 0, .int .i64 0, .int .i64 0, .int .i64 0, .int .i64 0, .int .i64 0] 114)).heap.size) := Lib.hid (by simp)
  have o3' := Lib.hid o3
  have o4' := Lib.hid o4
  have hw0W := hB.size
  have hgl := (Array.getElem?_eq_some_iff.1 hg).1
  clear hJ hJx hY h0 hB hxW hg ra rb hsb o3 o4
  gi_wp2
  generalize W.alloc (.cells #[.int .i64 0, .int .i64 0, .int .i64 0, .int .i64 0, .int .i64 0, .int .i64 0, .int .i64 0, .int .i64 0, .int .i64 0, .int .i64 0, .int .i64 0, .int .i64 0] 114) = X at *
  gi_loopw [4, 5] (fun n _ wr => ∃ k : Nat, k < N ∧ n = .int .i64 k ∧ Hid (J (firstL r k) wr) ∧ Hid (Below w0.heap.size w0 wr) ∧ Hid (wr.heap[x]? = some (.cells #[a, .slice B r.start.length d, .func (.func 144) #[] #[.pointer (some ⟨g, 0, none⟩)]] 110 (0, 0))) ∧ Hid (wr.heap[W.heap.size]? = some (.cells (ints (winL r k)).toArray 114 (0, 0)))) (fun n _ _ => N - (intOf n).toNat)
  case atStart => exact ⟨0, hN, rfl, h1, hbW, hold, hnew⟩
  case round =>
    obtain ⟨k, hk, rfl, hJk, hBk, hxk, hwk⟩ := hrel
    have cx : ∀ j v, (#[a, .slice B r.start.length d, .func (.func 144) #[] #[.pointer (some ⟨g, 0, none⟩)]] : Array Value)[j]? = some v → wr.cell? ⟨x, j, none⟩ = some v := fun j v h => by unfold World.cell?; rw [hxk.out]; exact h
    have cx1 := cx 1 _ rfl
    have cx2 := cx 2 _ rfl
    clear cx
    have hfl := firstL_len r k
    have hsc := firstL_succ r k
    obtain ⟨x0, x1, x2, x3, x4, x5, x6, x7, x8, x9, x10, x11, e12⟩ := twelve (winL_len r k)
    have hwe : Hid (wr.heap[W.heap.size]? = some (.cells #[.int .i64 x0, .int .i64 x1, .int .i64 x2, .int .i64 x3, .int .i64 x4, .int .i64 x5, .int .i64 x6, .int .i64 x7, .int .i64 x8, .int .i64 x9, .int .i64 x10, .int .i64 x11] 114 (0, 0))) := Lib.hid (by have := hwk.out; rwa [e12] at this)
    have hws : Hid (winL r (k + 1) = [termK r k, x0, x1, x2, x3, x4, x5, x6, x7, x8, x9, x10]) := Lib.hid (by rw [winL, e12]; rfl)
    by_cases hks : k < r.start.length
    · have htk : Hid (termK r k = r.start.getD k 0) := Lib.hid (by rw [termK, if_pos hks])
      obtain ⟨b0, off, rfl, hc⟩ := hst.out k hks
      replace hc := (hBk.out.cell (p := ⟨b0, off + k, none⟩) (World.block_lt_of_cell? w0 _ hc)).trans hc
      generalize r.start.getD k 0 = tv at *
      have hfs : Hid (firstL r (k + 1) = firstL r k ++ [tv]) := Lib.hid (by rw [hsc, htk.out])
      obtain ⟨fn, tmps, assign, body, hy, hR⟩ := hY'.out (firstL r k) tv wr hJk.out (by omega) (Array.getElem?_eq_some_iff.1 hwe.out).1
      have k1 : (k : Int) < (r.start.length : Int) := by omega
      have k0 : (0 : Int) ≤ (k : Int) := by omega
      replace hfl := Lib.hid hfl
      replace hsc := Lib.hid hsc
      replace e12 := Lib.hid e12
      replace hR := Lib.hid hR
      gi_wp2
      refine hR.out.mono ?_; rintro e W4 (⟨rfl, hJ4, hK4, hN4⟩ | ⟨rfl, hJx4⟩)
      · have hw4 := hK4.two.trans hwe.out
        obtain ⟨W5, hcp, hw5, hg5⟩ := shift x0 x1 x2 x3 x4 x5 x6 x7 x8 x9 x10 x11 W4 hw4
        have hf5 : W5.frozen? ⟨W.heap.size, 0, none⟩ = false := by unfold World.frozen?; rw [hw5]; rfl
        have hc5 : W5.cell? ⟨W.heap.size, 0, none⟩ = some (.int .i64 x0) := by unfold World.cell?; rw [hw5]; rfl
        gi_wp2
        rw [wpIn_wide]
        go_still_tail 2, (by kernel_rfl)
        change wpList _ _ _ _ _ W4.drew
        go_wp2
        gi_wp2
        have hg6 := grown_set hg5 (W.heap.size) (.int .i64 tv)
        have hbk : Below w0.heap.size w0 W4 := hBk.out.trans hK4.below
        have hJ6 := hJ'.out _ _ _ (some W.heap.size) hJ4 hg6 (fun k e => by cases e; rfl)
        rw [← hfs.out] at hJ6
        have hB6 := hbk.grown hg6 hbk.size (fun k e => by cases e; exact hw0W)
        have hx6 := (hg6.block x (Array.getElem?_eq_some_iff.1 (hK4.one.trans hxk.out)).1 (by simp; omega)).trans (hK4.one.trans hxk.out)
        have hw6 : (W5.setCell ⟨W.heap.size, 0, none⟩ (.int .i64 tv)).heap[W.heap.size]? = some (.cells (ints (winL r (k + 1))).toArray 114 (0, 0)) := by
          rw [hws.out, htk.out]; exact heap_set1 _ hw5
        have hN5 : k + 1 < N := by have := hfl.out; omega
        clear hJ4 hK4 hw4 hcp hw5 hg5 hg6 hbk hf5 hc5
        replace hJ6 := Lib.hid hJ6
        replace hB6 := Lib.hid hB6
        replace hx6 := Lib.hid hx6
        replace hw6 := Lib.hid hw6
        go_roundw
        case rel => exact ⟨k + 1, hN5, by go_num, hJ6, hB6, hx6, hw6⟩
        case measure => simp [intOf]; omega
      · gi_wp2
        refine bodyPost_ret (results_none rfl _ _ _) rfl ?_
        exact ⟨⟨_, rfl⟩, _, ⟨k + 1, by rw [hsc.out, htk.out]⟩, hJx4⟩
    · have htk : Hid (termK r k = nextT r.by_ (firstL r k)) := Lib.hid (by rw [termK, if_neg hks])
      have hnx := Lib.hid (next_any r.by_ a (.slice B r.start.length d) g x0 x1 x2 x3 x4 x5 x6 x7 x8 x9 x10 x11 wr o1 o3'.out (by rw [← e12]; exact winL_bd o4'.out k) (hra.out.below hBk.out (Nat.le_refl _)) ((hBk.out.block g hgl).trans hgw.out))
      rw [← e12, nextW_eq r k o1 (by omega)] at hnx
      have hcl := win_get x0 x1 x2 x3 x4 x5 x6 x7 x8 x9 x10 x11 hwe.out
      have k1 : ¬ (k : Int) < (r.start.length : Int) := by omega
      replace hfl := Lib.hid hfl
      replace hsc := Lib.hid hsc
      replace e12 := Lib.hid e12
      generalize nextT r.by_ (firstL r k) = tv at *
      have hfs : Hid (firstL r (k + 1) = firstL r k ++ [tv]) := Lib.hid (by rw [hsc.out, htk.out])
      gi_wp2_with fail
      refine ⟨trivial, ?_⟩
      refine (callsIn_wide.2 hnx.out).mono ?_; rintro e W3 ⟨rfl, hB3⟩
      have hxk3 := (hB3.block x (Array.getElem?_eq_some_iff.1 hxk.out).1).trans hxk.out
      have hJ3 := hJ'.out _ _ _ none hJk.out (grown_of_below hB3 none) (fun k e => by cases e)
      obtain ⟨fn, tmps, assign, body, hy, hR⟩ := hY'.out (firstL r k) tv W3 hJ3 (by have := hfl.out; omega) (Nat.lt_of_lt_of_le (Array.getElem?_eq_some_iff.1 hwe.out).1 hB3.size)
      replace hR := Lib.hid hR
      clear hnx hcl cx1 cx2 hJ3
      gi_wp2
      refine hR.out.mono ?_; rintro e W4 (⟨rfl, hJ4, hK4, hN4⟩ | ⟨rfl, hJx4⟩)
      · have hw4 := hK4.two.trans ((hB3.block _ (Array.getElem?_eq_some_iff.1 hwe.out).1).trans hwe.out)
        obtain ⟨W5, hcp, hw5, hg5⟩ := shift x0 x1 x2 x3 x4 x5 x6 x7 x8 x9 x10 x11 W4 hw4
        have hf5 : W5.frozen? ⟨W.heap.size, 0, none⟩ = false := by unfold World.frozen?; rw [hw5]; rfl
        have hc5 : W5.cell? ⟨W.heap.size, 0, none⟩ = some (.int .i64 x0) := by unfold World.cell?; rw [hw5]; rfl
        gi_wp2
        rw [wpIn_wide]
        go_still_tail 2, (by kernel_rfl)
        change wpList _ _ _ _ _ W4.drew
        go_wp2
        gi_wp2
        have hg6 := grown_set hg5 (W.heap.size) (.int .i64 tv)
        have hbk : Below w0.heap.size w0 W4 := (hBk.out.trans (hB3.mono (hBk.out.size))).trans hK4.below
        have hJ6 := hJ'.out _ _ _ (some W.heap.size) hJ4 hg6 (fun k e => by cases e; rfl)
        rw [← hfs.out] at hJ6
        have hB6 := hbk.grown hg6 hbk.size (fun k e => by cases e; exact hw0W)
        have hx6 := (hg6.block x (Array.getElem?_eq_some_iff.1 (hK4.one.trans hxk3)).1 (by simp; omega)).trans (hK4.one.trans hxk3)
        have hw6 : (W5.setCell ⟨W.heap.size, 0, none⟩ (.int .i64 tv)).heap[W.heap.size]? = some (.cells (ints (winL r (k + 1))).toArray 114 (0, 0)) := by
          rw [hws.out, htk.out]; exact heap_set1 _ hw5
        have hN5 : k + 1 < N := by have := hfl.out; omega
        clear hJ4 hK4 hw4 hcp hw5 hg5 hg6 hbk hf5 hc5
        replace hJ6 := Lib.hid hJ6
        replace hB6 := Lib.hid hB6
        replace hx6 := Lib.hid hx6
        replace hw6 := Lib.hid hw6
        go_roundw
        case rel => exact ⟨k + 1, hN5, by go_num, hJ6, hB6, hx6, hw6⟩
        case measure => simp [intOf]; omega
      · gi_wp2
        refine bodyPost_ret (results_none rfl _ _ _) rfl ?_
        exact ⟨⟨_, rfl⟩, _, ⟨k + 1, by rw [hsc.out, htk.out]⟩, hJx4⟩
end Go.Proofs.YtfljkcmijnhgkaaDoor
