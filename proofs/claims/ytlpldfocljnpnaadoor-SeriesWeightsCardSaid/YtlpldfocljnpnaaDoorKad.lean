/- fitting Least, both, total A range over an iterator of numbers that keeps a block of cells of its own, and is left by its N-th round at the latest. terms, first Apart How sequences are put together Inverse Char Norm, Inv, Pow The reference's Same Literals in memory; what a walk holds of memory, in one bag; the examples of awake, each by its contract. The reference's numbers, and FieldNumbers Dup, DupRows, zeros, Identity The reference's reduce Append of what reads as numbers. The reference's zeros and Identity -/
import Derived.Test.YtlpldfocljnpnaaDoorKac
import Derived.Lib.MinMax
import Derived.Laws.EntriesVeiled
import Derived.RangeFuncNested
import Derived.RangeFuncBound
import Derived.RangeFuncCalls
import Derived.RangeFuncLeaves
import Derived.Shelf.Abstract
import Derived.Shelf.RegionOpen
import Derived.OwnWalkIn
import Derived.TacticsInMore
import Derived.LoopNIn
import Derived.LoopIn
import Derived.Laws.CopyRow
import Derived.Maps.OwnIn
import Derived.StillTailTactics
import Derived.Test.YtlpldfocljnpnaaDoorKaa
import Derived.Test.YtlpldfocljnpnaaDoorKab
import Derived.Deep.AppendLies
import Derived.Deep.RegionHeld3
set_option maxRecDepth 100000
set_option maxHeartbeats 6400000
set_option linter.unusedSimpArgs false
namespace Go.Proofs.YtlpldfocljnpnaaDoor
open Go.RowKit Go.Shelf
theorem rowsL_eq (l : List Int) (o : Nat) : rowsL l o = mat (fun i k => l.getD (o + i - 1 - k) 0) (l.length - o) o := rfl
theorem fitL_skip {l : List Int} {os : List Nat} : (∀ o ∈ os, fitO l o = none) → ∀ (ps : List Nat), fitL l (os ++ ps) = fitL l ps := by
 induction os with
 | nil => intro _ ps; rfl
 | cons o os ih =>
  intro h ps
  rw [List.cons_append, fitL, h o List.mem_cons_self]
  exact ih (fun q hq => h q (List.mem_cons_of_mem _ hq)) ps
theorem fitM_none {l : List Int} {most M : Nat} (hM : min most l.length = M) (h : ∀ o, o < M + 1 → fitO l o = none) : fitM l most = none := by
 unfold fitM
 rw [hM, ← List.append_nil (List.range (M + 1)), fitL_skip (fun o ho => h o (List.mem_range.1 ho))]
 rfl
theorem fitM_some {l by_ : List Int} {most M k : Nat} (hM : min most l.length = M) (hk : k < M + 1) (h : ∀ o, o < k → fitO l o = none) (hs : fitO l k = some by_) : fitM l most = some ⟨by_, l.take k⟩ := by
 unfold fitM
 have e : List.range (M + 1) = List.range k ++ (k :: (List.range' (k + 1) (M - k))) := by
  rw [List.range_eq_range', List.range_eq_range', show M + 1 = k + (1 + (M - k)) from by omega, ← List.range'_append_1, Nat.zero_add]
  congr 1
  rw [Nat.add_comm 1 (M - k), List.range'_succ]
 rw [hM, e, fitL_skip (fun o ho => h o (List.mem_range.1 ho)), fitL, hs]
theorem okM_rowsL {l : List Int} (h : ∀ x ∈ l, 0 ≤ x ∧ x < 65521) (o : Nat) : okM (rowsL l o) (l.length - o) o := okM_mat _ _ _ fun i k hi hk => by
 rw [List.getD_eq_getElem?_getD, List.getElem?_eq_getElem (by omega)]
 exact h _ (List.getElem_mem _)
theorem fitting_1 (l : List Int) (o i k : Nat) (v : Value) (p q : Addr) (w : World) (hl : l.length ≤ 1000) (ho : o ≤ l.length) (hi : i < l.length - o) (hk : k < o)
  (h : RdI w v l) (hp : w.cell? p = some v) (hq : w.cell? q = some (.int .i64 o)) :
  Calls Tryd.prog 132 (#[.int .i64 i, .int .i64 k] ++ #[.pointer (some p), .pointer (some q)]) w fun e w' => e = .returned (.int .i64 (l.getD (o + i - 1 - k) 0)) ∧ w = w' := by
 obtain ⟨A, c, rfl, h1, h2, h3⟩ := h.open_
 obtain ⟨b, off, rfl, hc⟩ := h3 (o + i - 1 - k) (by omega)
 clear h h3
 generalize l.getD (o + i - 1 - k) 0 = x at *
 generalize hj : o + i - 1 - k = j at *
 generalize l.length = n at *
 have hw : IntKind.i64.wrap ((o : Int) + i) = (o : Int) + i := IntWalk.i64_in _ ⟨by omega, by omega⟩
 have hw1 : IntKind.i64.wrap ((o : Int) + i - 1) = (o : Int) + i - 1 := IntWalk.i64_in _ ⟨by omega, by omega⟩
 have hw2 : IntKind.i64.wrap ((o : Int) + i - 1 - k) = (j : Int) := by rw [show (o : Int) + i - 1 - k = j from by omega]; exact IntWalk.i64_in _ ⟨by omega, by omega⟩
 have k1 : (j : Int) < (n : Int) := by omega
 have k0 : (0 : Int) ≤ (j : Int) := by omega
 go_enter Tryd.func132, Tryd.ntmps132
 go_wp2
 go_ret
 exact ⟨rfl, rfl⟩
theorem RdI.drop {w : World} {A : Option Addr} {n c k : Nat} {xs : List Int} (h : RdI w (.slice A n c) xs) (hk : k ≤ n) : RdI w (.slice (if c = k then A else A.map (·.add k)) (n - k) (c - k)) (xs.drop k) := by
 obtain ⟨A', c', e, h1, h2, h3⟩ := h
 rw [ints_len] at *
 simp only [Value.slice.injEq] at e
 obtain ⟨rfl, rfl, rfl⟩ := e
 refine ⟨if c = k then A else A.map (·.add k), c - k, ?_, ?_, ?_, fun hp => ?_⟩
 ·rw [ints_len, List.length_drop]
 ·rw [ints_len, List.length_drop]; omega
 ·rw [ints_len, List.length_drop]; omega
 ·rw [ints_len, List.length_drop] at hp
  obtain ⟨b, off, rfl, h4⟩ := h3 (by omega)
  rw [if_neg (by omega)]
  refine ⟨b, off + k, by rw [Option.map_some, add_off], fun j u hj => ?_⟩
  rw [Nat.add_assoc]
  refine h4 (k + j) u ?_
  rw [← hj, ints_get, ints_get, List.getElem?_drop]
theorem RdI.take {w : World} {A : Option Addr} {n c k : Nat} {xs : List Int} (h : RdI w (.slice A n c) xs) (hk : k ≤ n) : RdI w (.slice A k c) (xs.take k) := by
 obtain ⟨A', c', e, h1, h2, h3⟩ := h
 rw [ints_len] at *
 simp only [Value.slice.injEq] at e
 obtain ⟨rfl, rfl, rfl⟩ := e
 have hl : (xs.take k).length = k := by rw [List.length_take]; omega
 refine ⟨A, c, ?_, ?_, ?_, fun hp => ?_⟩
 ·rw [ints_len, hl]
 ·rw [ints_len, hl]; omega
 ·rw [ints_len, hl]; omega
 ·rw [ints_len, hl] at hp
  obtain ⟨b, off, rfl, h4⟩ := h3 (by omega)
  refine ⟨b, off, rfl, fun j u hj => h4 j u ?_⟩
  rw [← hj, ints_get, ints_get, List.getElem?_take]
  have hj' : j < k := by have := (List.getElem?_eq_some_iff.1 hj).1; rw [ints_len, hl] at this; exact this
  rw [if_pos hj']
theorem add_zero (a : Addr) : a.add 0 = a := by
 obtain ⟨b, o, s⟩ := a
 cases s <;> simp [Addr.add]
theorem run_from (A : Option Addr) (n c k : Nat) (W : World) (hk : k ≤ n) : (Instr.slice 22 (.slice A n c) (some (.int .i64 k)) none none).run Tryd.prog W = .ok (.slice (if c = k then A else A.map (·.add k)) (n - k) (c - k)) W := by
 have hu : Tryd.prog.underlying 22 = some (.slice (Tryd.prog.elem 22)) := by kernel_rfl
 rw [run_slice_l (t := 22) _ _ _ _ hu _ _ (by omega) (by omega)]
 have hs : (sizeOf (Tryd.prog.elem 22)).run Tryd.prog W = .ok 1 W := by kernel_rfl
 rw [hs]
 simp only [Result.andThen, sliced, Int.toNat_natCast, Nat.mul_one]
theorem run_upto (A : Option Addr) (n c k : Nat) (W : World) (hk : k ≤ n) (hc : n ≤ c) : (Instr.slice 22 (.slice A n c) none (some (.int .i64 k)) none).run Tryd.prog W = .ok (.slice A k c) W := by
 have hu : Tryd.prog.underlying 22 = some (.slice (Tryd.prog.elem 22)) := by kernel_rfl
 rw [run_slice_h (t := 22) _ _ _ _ hu _ _ (by omega) (by omega)]
 have hs : (sizeOf (Tryd.prog.elem 22)).run Tryd.prog W = .ok 1 W := by kernel_rfl
 rw [hs]
 simp only [Result.andThen, sliced, Int.toNat_natCast, Nat.mul_one, Nat.sub_zero]
 have hA : A.map (·.add 0) = A := by
  cases A with
  | none => rfl
  | some a => rw [Option.map_some, add_zero]
 simp only [Nat.zero_mul, hA, ite_self]
def FitRes (r : Option Rule) (w : World) (e : Ending) (w' : World) : Prop := ∃ v, e = .returned (.tuple #[v, .bool r.isSome]) ∧ OwnR w' w.heap.size v (r.getD ⟨[], []⟩) ∧ Below w.heap.size w w'
theorem fitting_any (l : List Int) (most : Nat) (v : Value) (w : World) (hl : l.length ≤ 800) (_hm : most ≤ 800) (hr : ∀ x ∈ l, 0 ≤ x ∧ x < 65521) (h : RdI w v l) :
  Calls Tryd.prog 124 #[v, .int .i64 most] w (FitRes (fitM l most) w) := by
 have hrd := Lib.hid h
 obtain ⟨A, c, rfl, l1, l2, -⟩ := h.open_
 have hbx : Below w.heap.size w ((w.alloc (.cells #[.slice A l.length c] 22)).alloc (.cells #[.slice none 0 0, .slice none 0 0] 41)) := ((Below.refl _ _).alloc (Nat.le_refl _) _).alloc (by simp) _
 have hga : ((w.alloc (.cells #[.slice A l.length c] 22)).alloc (.cells #[.slice none 0 0, .slice none 0 0] 41)).heap[w.heap.size]? = some (.cells #[.slice A l.length c] 22 (0, 0)) := by
  rw [((Below.refl _ (w.alloc (.cells #[.slice A l.length c] 22))).alloc (Nat.le_refl _) _).block w.heap.size (by simp)]; exact heap_alloc_new _ _
 have hgb : ((w.alloc (.cells #[.slice A l.length c] 22)).alloc (.cells #[.slice none 0 0, .slice none 0 0] 41)).heap[w.heap.size + 1]? = some (.cells #[.slice none 0 0, .slice none 0 0] 41 (0, 0)) := by
  have h := heap_alloc_new (w.alloc (.cells #[.slice A l.length c] 22)) (.cells #[.slice none 0 0, .slice none 0 0] 41); rwa [World.size_alloc] at h
 have hsz : ((w.alloc (.cells #[.slice A l.length c] 22)).alloc (.cells #[.slice none 0 0, .slice none 0 0] 41)).heap.size = w.heap.size + 2 := by simp
 have hok := Lib.hid (fun o => okM_rowsL hr o)
 have hmn : ∃ M, min most l.length = M ∧ M ≤ l.length := ⟨_, rfl, Nat.min_le_right _ _⟩
 obtain ⟨M, hM, hMl⟩ := hmn
 have hF0 := Lib.hid (fun (h : ∀ o, o < M + 1 → fitO l o = none) => fitM_none hM h)
 have hF1 := Lib.hid (fun (k : Nat) by_ (hk : k < M + 1) (h : ∀ o, o < k → fitO l o = none) (hs : fitO l k = some by_) => fitM_some hM hk h hs)
 have hres := Lib.hid hr
 clear h hr
 have hlr : Hid (l.length = l.length) := Lib.hid rfl
 have hMm : min (most : Int) (l.length : Int) = (M : Int) := by omega
 replace hM := Lib.hid hM
 go_enter Tryd.func124, Tryd.ntmps124
 go_wp2
 generalize (w.alloc (.cells #[.slice A l.length c] 22)).alloc (.cells #[.slice none 0 0, .slice none 0 0] 41) = X at hbx hga hgb hsz ⊢
 replace hbx := Lib.hid hbx
 replace hga := Lib.hid hga
 replace hgb := Lib.hid hgb
 replace hlr : Hid True := Lib.hid trivial
 go_loopw [6, 7, 8, 9, 15] (fun _ _ _ _ i wr => ∃ k : Nat, k ≤ M + 1 ∧ i = .int .i64 k ∧ Hid (Below X.heap.size X wr) ∧ Hid (∀ o, o < k → fitO l o = none)) (fun _ _ _ _ i _ => M + 1 - (intOf i).toNat)
 case atStart => exact ⟨0, Nat.zero_le _, rfl, Lib.hid (Below.refl _ _), Lib.hid (fun o ho => by omega)⟩
 case round =>
  obtain ⟨k, hk, rfl, hB, hE⟩ := hrel
  have hcl : wr.cell? ⟨w.heap.size, 0, none⟩ = some (.slice A l.length c) := by
   unfold World.cell?; rw [hB.out.block _ (by rw [hsz]; exact Nat.lt_add_of_pos_right (by decide)), hga.out]; rfl
  have hwr := hB.out.size
  by_cases hlt : k < M + 1
  ·have k1 : (k : Int) < (M : Int) + 1 := by omega
   have hbk : Below wr.heap.size wr (wr.alloc (.cells #[.int .i64 k] 3)) := (Below.refl _ _).alloc (Nat.le_refl _) _
   have hck : (wr.alloc (.cells #[.int .i64 k] 3)).cell? ⟨wr.heap.size, 0, none⟩ = some (.int .i64 k) := cell_new _ _ _
   have hclk := (hbk.cell (p := ⟨w.heap.size, 0, none⟩) (World.block_lt_of_cell? wr _ hcl)).trans hcl
   have hszk : (wr.alloc (.cells #[.int .i64 k] 3)).heap.size = wr.heap.size + 1 := by simp
   have hBk := Lib.hid (Below.then_ hB.out hbk)
   have hwX := Lib.hid (fun W (hW : Below (wr.alloc (.cells #[.int .i64 k] 3)).heap.size (wr.alloc (.cells #[.int .i64 k] 3)) W) => Below.then_ hbx.out (Below.then_ (Below.then_ hB.out hbk) hW))
   have hmd := Lib.hid (made_any (fun i j => l.getD (k + i - 1 - j) 0) (l.length - k) k 132 #[.pointer (some ⟨w.heap.size, 0, none⟩), .pointer (some ⟨wr.heap.size, 0, none⟩)] (enters_of Tryd.func132 (by kernel_rfl) rfl) (wr.alloc (.cells #[.int .i64 k] 3)) (by omega) (by omega) (fun W i j hW hi hj =>
    fitting_1 l k i j (.slice A l.length c) ⟨w.heap.size, 0, none⟩ ⟨wr.heap.size, 0, none⟩ W (by omega) (by omega) hi hj (hrd.out.below (hwX.out W hW) (Nat.le_refl _))
     ((hW.cell (p := ⟨w.heap.size, 0, none⟩) (by show w.heap.size < _; omega)).trans hclk) ((hW.cell (p := ⟨wr.heap.size, 0, none⟩) (by show wr.heap.size < _; omega)).trans hck)))
   rw [← rowsL_eq] at hmd
   have hnk : ((l.length - k : Nat) : Int) = (l.length : Int) - k := by omega
   rw [hnk] at hmd
   have hsv := Lib.hid (fun va vb W (hO : OwnM W wr.heap.size va (rowsL l k)) (hvb : RdI W vb (l.drop k)) => solved_any (rowsL l k) (l.drop k) (l.length - k) k va vb W (hok.out k) (by omega) (by omega) (by simp) (fun x hx => hres.out x (List.mem_of_mem_drop hx)) (hO.rdOk (hok.out k) (by omega) (by omega)) hvb)
   have hfo : solvedM (rowsL l k) (l.drop k) k = fitO l k := rfl
   rw [hfo] at hsv
   clear hfo hnk
   have hcr : Hid (l.length ≤ c) := Lib.hid l1
   go_wp2_with fail
   generalize wr.alloc (.cells #[.int .i64 k] 3) = X2 at *
   refine hmd.out.mono ?_; rintro e W1 ⟨⟨v1, rfl, hO1⟩, hB1⟩
   have c0 := (hB1.cell (p := ⟨w.heap.size, 0, none⟩) (by show w.heap.size < _; omega)).trans hclk
   have c1 := (hB1.cell (p := ⟨wr.heap.size, 0, none⟩) (by show wr.heap.size < _; omega)).trans hck
   have hB3 := Lib.hid (Below.then_ hBk.out hB1)
   have hO1' := Lib.hid ((hO1.below (Below.refl _ _).drew).base (show wr.heap.size ≤ X2.heap.size by omega))
   obtain ⟨G1, C1, rfl⟩ : ∃ G C, v1 = .slice G (l.length - k) C := by obtain ⟨vs, h1, _⟩ := hO1; rw [(hok.out k).1] at h1; exact own_form h1
   obtain ⟨sv, hs1, hs2⟩ : ∃ sv, (∀ W, (Instr.slice 22 (.slice A l.length c) (some (.int .i64 k)) none none).run Tryd.prog W = .ok sv W) ∧ ∀ W, RdI W (.slice A l.length c) l → RdI W sv (l.drop k) :=
    ⟨_, fun W => run_from A l.length c k W (by omega), fun W h => h.drop (by omega)⟩
   have hs3 : ∀ W, (Instr.slice 22 (.slice A l.length c) none (some (.int .i64 k)) none).run Tryd.prog W = .ok (.slice A k c) W := fun W => run_upto A l.length c k W (by omega) hcr.out
   have hvb := Lib.hid (hs2 W1.drew (hrd.out.below (Below.then_ hbx.out hB3.out).drew (Nat.le_refl _)))
   clear hmd hO1 hB1 hcl hclk hck hbk hs2
   generalize hfb : (fitO l k).isSome = fb at hsv
   replace hfb := Lib.hid hfb
   go_wp2
   refine D_begin (fun w' => w'.cell? ⟨w.heap.size, 0, none⟩ = some (.slice A l.length c) ∧ w'.cell? ⟨wr.heap.size, 0, none⟩ = some (.int .i64 k)) (fun _ => True) 99 (by kernel_rfl) ?_
   change wpAnyD _ _ _ _ _ _ _ _ _ _ W1.drew
   simp only [List.size_toArray, List.length_cons, List.length_nil, Nat.reduceAdd, Array.replicate_succ, Array.replicate_zero, List.push_toArray, List.append_toArray, List.nil_append, List.cons_append]
   have HS : W1.drew.cell? ⟨w.heap.size, 0, none⟩ = some (.slice A l.length c) ∧ W1.drew.cell? ⟨wr.heap.size, 0, none⟩ = some (.int .i64 k) := ⟨c0, c1⟩
   refine Dt 0 rfl ?_ HS (fun _ => trivial) ?_ ?_
   rotate_left; · intro w1 hw1; obtain ⟨hw1, hw2⟩ := hw1; go_simp; try with_reducible rfl
   try simp only [Act.put, s_1, s_2, s_3, s_4, s_5, s_6]
   refine Dt 1 rfl ?_ HS (fun _ => trivial) ?_ ?_
   rotate_left; · intro w1 hw1; obtain ⟨hw1, hw2⟩ := hw1; go_simp; try with_reducible rfl
   try simp only [Act.put, s_1, s_2, s_3, s_4, s_5, s_6]
   refine Dt 2 rfl ?_ HS (fun _ => trivial) ?_ ?_
   rotate_left; · intro w1 hw1; obtain ⟨hw1, hw2⟩ := hw1; go_simp; try with_reducible rfl
   try simp only [Act.put, s_1, s_2, s_3, s_4, s_5, s_6]
   refine Dt 3 rfl ?_ HS (fun _ => trivial) ?_ ?_
   rotate_left; · intro w1 hw1; obtain ⟨hw1, hw2⟩ := hw1; go_simp; try with_reducible rfl
   try simp only [Act.put, s_1, s_2, s_3, s_4, s_5, s_6]
   refine Dt 4 rfl ?_ HS (fun _ => trivial) ?_ ?_
   rotate_left; · intro w1 hw1; obtain ⟨hw1, hw2⟩ := hw1; go_simp; try with_reducible rfl
   try simp only [Act.put, s_1, s_2, s_3, s_4, s_5, s_6]
   refine D_one (i := 5) (by kernel_rfl) rfl ?_
   intro K hK
   rw [if_pos (by rfl)]
   go_wp2_with fail
   refine (hsv.out _ _ W1.drew hO1'.out hvb.out).mono ?_; rintro e W2 ⟨⟨v2, rfl, hO2⟩, hB4⟩
   have HS2 := And.intro ((hB4.cell (p := ⟨w.heap.size, 0, none⟩) (World.block_lt_of_cell? W1 _ c0)).trans HS.1) ((hB4.cell (p := ⟨wr.heap.size, 0, none⟩) (World.block_lt_of_cell? W1 _ c1)).trans HS.2)
   obtain ⟨A2, c2, rfl⟩ : ∃ A c, v2 = .slice A ((fitO l k).getD []).length c := by have h := hO2; unfold OwnI at h; exact own_form h
   replace hO2 := Lib.hid hO2
   have hBF := Lib.hid (Below.then_ hB3.out.drew hB4)
   have hle : W1.heap.size ≤ W2.heap.size := hB4.size
   refine hK _ _ HS2 (fun _ _ => trivial) ?_
   clear hK K
   try simp only [Act.put, s_1, s_2, s_3, s_4, s_5, s_6]
   refine Dt 6 rfl ?_ HS2 (fun _ => trivial) ?_ ?_
   rotate_left; · intro w1 hw1; obtain ⟨hw1, hw2⟩ := hw1; go_simp; try with_reducible rfl
   try simp only [Act.put, s_1, s_2, s_3, s_4, s_5, s_6]
   refine Dt 7 rfl ?_ HS2 (fun _ => trivial) ?_ ?_
   rotate_left; · intro w1 hw1; obtain ⟨hw1, hw2⟩ := hw1; go_simp; try with_reducible rfl
   try simp only [Act.put, s_1, s_2, s_3, s_4, s_5, s_6]
   refine Dt 8 rfl ?_ HS2 (fun _ => trivial) ?_ ?_
   rotate_left; · intro w1 hw1; obtain ⟨hw1, hw2⟩ := hw1; go_simp; try with_reducible rfl
   try simp only [Act.put, s_1, s_2, s_3, s_4, s_5, s_6]
   refine Dt 9 rfl ?_ HS2 (fun _ => trivial) ?_ ?_
   rotate_left; · intro w1 hw1; obtain ⟨hw1, hw2⟩ := hw1; go_simp; try with_reducible rfl
   try simp only [Act.put, s_1, s_2, s_3, s_4, s_5, s_6]
   refine Dt 10 rfl ?_ HS2 (fun _ => trivial) ?_ ?_
   rotate_left; · intro w1 hw1; obtain ⟨hw1, hw2⟩ := hw1; go_simp; try with_reducible rfl
   try simp only [Act.put, s_1, s_2, s_3, s_4, s_5, s_6]
   refine D_done (by kernel_rfl) ?_ _
   have e0 := HS2.1
   have e1 := HS2.2
   clear HS HS2 c0 c1 hB4 hvb hO1' hsv
   cases fb with
   | false =>
    have hE2 : Hid (∀ o, o < k + 1 → fitO l o = none) := Lib.hid (fun o ho => by
     by_cases e : o = k
     ·rw [e]; exact Option.not_isSome_iff_eq_none.1 (by rw [hfb.out]; decide)
     ·exact hE.out o (by omega))
    go_wp2
    go_roundw
    case rel => exact ⟨k + 1, by omega, by go_num, hBF, hE2⟩
    case measure => simp [intOf]; omega
   | true =>
    obtain ⟨by_, hby⟩ := Option.isSome_iff_exists.1 hfb.out
    have hr := Lib.hid (hF1.out k by_ hlt hE.out hby)
    have hct : l.length ≤ c := hcr.out
    have htk := (hrd.out.below (Below.then_ hbx.out hBF.out) (Nat.le_refl _)).take (k := k) (by omega)
    have hlk : (l.take k).length = k := by rw [List.length_take]; omega
    have hO2' : Hid (OwnI W2 W1.drew.heap.size (.slice A2 by_.length c2) by_) := Lib.hid (by have := hO2.out; rwa [hby] at this)
    rw [hby] 
    go_wp2_with fail
    refine (Clone_any (l.take k) _ W2 htk (by omega)).mono ?_; rintro e W3 ⟨⟨v3, rfl, hO3⟩, hB5⟩
    obtain ⟨A3, c3, rfl⟩ : ∃ A c, v3 = .slice A k c := by have h := hO3; unfold OwnI at h; rw [hlk] at h; exact own_form h
    have hBG := Lib.hid (Below.then_ hBF.out hB5)
    have hgb2 := (hBG.out.block (w.heap.size + 1) (by omega)).trans hgb.out
    have d0 : W3.cell? ⟨w.heap.size + 1, 0, none⟩ = some (.slice none 0 0) := by unfold World.cell?; rw [hgb2]; rfl
    have d1 : W3.cell? ⟨w.heap.size + 1, 1, none⟩ = some (.slice none 0 0) := by unfold World.cell?; rw [hgb2]; rfl
    have d2 : W3.frozen? ⟨w.heap.size + 1, 0, none⟩ = false := by unfold World.frozen?; rw [hgb2]; rfl
    have d3 : W3.frozen? ⟨w.heap.size + 1, 1, none⟩ = false := by unfold World.frozen?; rw [hgb2]; rfl
    have hgb3 := Lib.hid hgb2
    have hB6 := Lib.hid (Below.then_ hbx.out hBG.out)
    have hO2f := Lib.hid (hO2'.out.below hB5)
    have hO3f := Lib.hid hO3
    have hW1 : w.heap.size + 2 ≤ W1.heap.size := by have := hB3.out.size; omega
    clear hgb2 htk hO2 hO2' hB5 hO3 e0 e1
    go_wp2
    have hT : ∀ (base : Nat) (v : Value) (xs : List Int) (x y : Value), w.heap.size + 2 ≤ base → OwnI W3 base v xs → OwnI ((W3.setCell ⟨w.heap.size + 1, 0, none⟩ x).setCell ⟨w.heap.size + 1, 1, none⟩ y) w.heap.size v xs := fun base v xs x y hb hO => own_of_block (hO.base (show w.heap.size ≤ base by omega)) (fun g hg => by
     have := (hO.lt g hg).1
     rw [Below.heap_setCell _ _ _ _ (by show g ≠ w.heap.size + 1; omega), Below.heap_setCell _ _ _ _ (by show g ≠ w.heap.size + 1; omega)])
    refine bodyPost_ret (res_ct rfl _ _ (w.heap.size + 1) 41 #[.slice A2 by_.length c2, .slice A3 k c3] (0, 0) _ rfl (heap_set2 _ _ hgb3.out) rfl rfl rfl) rfl ?_
    rw [hr.out]
    exact ⟨_, rfl, ⟨_, _, rfl, hT W1.drew.heap.size _ _ _ _ hW1 hO2f.out, hT W2.heap.size _ _ _ _ (by omega) hO3f.out⟩, (hB6.out.setCell (p := ⟨w.heap.size + 1, 0, none⟩) (by simp) _).setCell (p := ⟨w.heap.size + 1, 1, none⟩) (by simp) _⟩
  ·obtain rfl : k = M + 1 := by omega
   have hr := Lib.hid (hF0.out hE.out)
   have hgb2 := (hB.out.block (w.heap.size + 1) (by omega)).trans hgb.out
   have d0 : wr.cell? ⟨w.heap.size + 1, 0, none⟩ = some (.slice none 0 0) := by unfold World.cell?; rw [hgb2]; rfl
   have d1 : wr.cell? ⟨w.heap.size + 1, 1, none⟩ = some (.slice none 0 0) := by unfold World.cell?; rw [hgb2]; rfl
   have d2 : wr.frozen? ⟨w.heap.size + 1, 0, none⟩ = false := by unfold World.frozen?; rw [hgb2]; rfl
   have d3 : wr.frozen? ⟨w.heap.size + 1, 1, none⟩ = false := by unfold World.frozen?; rw [hgb2]; rfl
   have hgb3 := Lib.hid hgb2
   have hB2 := Lib.hid (Below.then_ hbx.out hB.out)
   clear hgb2 hcl
   go_wp2
   refine bodyPost_ret (res_ct rfl _ _ (w.heap.size + 1) 41 #[.slice none 0 0, .slice none 0 0] (0, 0) _ rfl (heap_set2 _ _ hgb3.out) rfl rfl rfl) rfl ?_
   rw [hr.out]
   exact ⟨_, rfl, ⟨_, _, rfl, OwnI_nil _ _, OwnI_nil _ _⟩, (hB2.out.setCell (p := ⟨w.heap.size + 1, 0, none⟩) (by simp) _).setCell (p := ⟨w.heap.size + 1, 1, none⟩) (by simp) _⟩
end Go.Proofs.YtlpldfocljnpnaaDoor
namespace Go.Proofs.YtlpldfocljnpnaaDoor
open Go.RowKit Go.Shelf
theorem ret_cell {w : World} {g : Nat} {x y : Value} (h : w.heap[g]? = some (.cells #[x, y] 41 (0, 0))) : w.cell? ⟨g, 0, none⟩ = some x ∧ w.cell? ⟨g, 1, none⟩ = some y ∧ w.frozen? ⟨g, 0, none⟩ = false ∧ w.frozen? ⟨g, 1, none⟩ = false :=
 ⟨by unfold World.cell?; rw [h]; rfl, by unfold World.cell?; rw [h]; rfl, by unfold World.frozen?; rw [h]; rfl, by unfold World.frozen?; rw [h]; rfl⟩
theorem own_two {W : World} {base b g : Nat} {v : Value} {xs : List Int} (h : OwnI W base v xs) (hb : b ≤ base) (hg : g < base) (x y : Value) : OwnI ((W.setCell ⟨g, 0, none⟩ x).setCell ⟨g, 1, none⟩ y) b v xs :=
 own_of_block (h.base hb) (fun k hk => by
  have := (h.lt k hk).1
  rw [Below.heap_setCell _ _ _ _ (by show k ≠ g; omega), Below.heap_setCell _ _ _ _ (by show k ≠ g; omega)])
theorem leastR_many {l : List Int} (h : 64 < l.length) : leastR l = (⟨[], []⟩, 2) := by rw [leastR, if_pos h]
theorem leastR_range {l : List Int} (h : ¬ 64 < l.length) (h2 : isRes l = false) : leastR l = (⟨[], []⟩, 3) := by rw [leastR, if_neg h, if_pos h2]
theorem leastR_none {l : List Int} (h : ¬ 64 < l.length) (h2 : isRes l = true) (h3 : fitM l 12 = none) : leastR l = (⟨[], []⟩, 11) := by rw [leastR, if_neg h, if_neg (by simp [h2]), h3]
theorem leastR_some {l : List Int} {r : Rule} (h : ¬ 64 < l.length) (h2 : isRes l = true) (h3 : fitM l 12 = some r) : leastR l = (r, 0) := by rw [leastR, if_neg h, if_neg (by simp [h2]), h3]
def RuleOut (r : Rule × Int) (w : World) (e : Ending) (w' : World) : Prop := ∃ v, e = .returned (.tuple #[v, .int .i64 r.2]) ∧ OwnR w' w.heap.size v r.1 ∧ Below w.heap.size w w'
theorem Least_any (l : List Int) (v : Value) (w : World) (h : RdI w v l) :
  Calls Tryd.prog 109 #[v] w (RuleOut (leastR l) w) := by
 have hrd := Lib.hid h
 obtain ⟨A, c, rfl, l1, l2, -⟩ := h.open_
 have hbx : Below w.heap.size w (w.alloc (.cells #[.slice none 0 0, .slice none 0 0] 41)) := (Below.refl _ _).alloc (Nat.le_refl _) _
 have hg : (w.alloc (.cells #[.slice none 0 0, .slice none 0 0] 41)).heap[w.heap.size]? = some (.cells #[.slice none 0 0, .slice none 0 0] 41 (0, 0)) := heap_alloc_new _ _
 have hsz : (w.alloc (.cells #[.slice none 0 0, .slice none 0 0] 41)).heap.size = w.heap.size + 1 := by simp
 have hE : ∀ W (g : Nat), Below w.heap.size w W → g = w.heap.size → Below w.heap.size w ((W.setCell ⟨g, 0, none⟩ (.slice none 0 0)).setCell ⟨g, 1, none⟩ (.slice none 0 0)) := fun W g hW hg => by
  subst hg; exact (hW.setCell (p := ⟨w.heap.size, 0, none⟩) (Nat.le_refl _) _).setCell (p := ⟨w.heap.size, 1, none⟩) (Nat.le_refl _) _
 replace hE := Lib.hid hE
 clear h
 by_cases q1 : 64 < l.length
 ·have hr := Lib.hid (leastR_many q1)
  have q2 : (64 : Int) < (l.length : Int) := by omega
  obtain ⟨d0, d1, d2, d3⟩ := ret_cell hg
  replace hg := Lib.hid hg
  go_enter Tryd.func109, Tryd.ntmps109
  go_wp2
  refine bodyPost_ret (res_ct rfl _ _ w.heap.size 41 #[.slice none 0 0, .slice none 0 0] (0, 0) _ rfl hg.out rfl rfl rfl) rfl ?_
  rw [hr.out]
  exact ⟨_, rfl, ⟨_, _, rfl, OwnI_nil _ _, OwnI_nil _ _⟩, hbx⟩
 ·have q2 : ¬ (64 : Int) < (l.length : Int) := by omega
  have hi := Lib.hid (fun W (hW : Below w.heap.size w W) => is_any l _ W (hrd.out.below hW (Nat.le_refl _)))
  cases p1 : isRes l
  ·have hr := Lib.hid (leastR_range q1 p1)
   rw [p1] at hi
   clear p1
   go_enter Tryd.func109, Tryd.ntmps109
   go_wp2_with fail
   generalize w.alloc (.cells #[.slice none 0 0, .slice none 0 0] 41) = X at *
   refine (hi.out X hbx).mono ?_; rintro e W1 ⟨rfl, hB1⟩
   have hg1 := (hB1.block w.heap.size (by rw [hsz]; exact Nat.lt_succ_self _)).trans hg
   obtain ⟨d0, d1, d2, d3⟩ := ret_cell hg1
   replace hg1 := Lib.hid hg1
   clear hg hi
   go_wp2
   refine bodyPost_ret (res_ct rfl _ _ w.heap.size 41 #[.slice none 0 0, .slice none 0 0] (0, 0) _ rfl (heap_set2 _ _ hg1.out) rfl rfl rfl) rfl ?_
   rw [hr.out]
   exact ⟨_, rfl, ⟨_, _, rfl, OwnI_nil _ _, OwnI_nil _ _⟩, hE.out _ _ (Below.then_ hbx hB1) rfl⟩
  ·rw [p1] at hi
   have hfi := Lib.hid (fun W (hW : Below w.heap.size w W) => fitting_any l 12 _ W (by omega) (by omega) (isRes_iff.1 p1) (hrd.out.below hW (Nat.le_refl _)))
   have hF := Lib.hid (fun (h3 : fitM l 12 = none) => leastR_none q1 p1 h3)
   have hG := Lib.hid (fun r (h3 : fitM l 12 = some r) => leastR_some (r := r) q1 p1 h3)
   unfold FitRes at hfi
   generalize hfb : (fitM l 12).isSome = fb at hfi
   replace hfb := Lib.hid hfb
   clear p1
   go_enter Tryd.func109, Tryd.ntmps109
   go_wp2_with fail
   generalize w.alloc (.cells #[.slice none 0 0, .slice none 0 0] 41) = X at *
   refine (hi.out X hbx).mono ?_; rintro e W1 ⟨rfl, hB1⟩
   have hg1 := (hB1.block w.heap.size (by rw [hsz]; exact Nat.lt_succ_self _)).trans hg
   have hB2 := Below.then_ hbx hB1
   go_wp2_with fail
   refine (hfi.out W1 hB2).mono ?_; rintro e W2 ⟨v, rfl, ⟨a, b, rfl, oa, ob⟩, hB3⟩
   have hlt1 : w.heap.size < W1.heap.size := by have := hB1.size; omega
   obtain ⟨A1, c1, rfl⟩ : ∃ A c, a = .slice A ((fitM l 12).getD ⟨[], []⟩).by_.length c := by have h := oa; unfold OwnI at h; exact own_form h
   obtain ⟨A2, c2, rfl⟩ : ∃ A c, b = .slice A ((fitM l 12).getD ⟨[], []⟩).start.length c := by have h := ob; unfold OwnI at h; exact own_form h
   generalize ((fitM l 12).getD ⟨[], []⟩).by_.length = n1 at *
   generalize ((fitM l 12).getD ⟨[], []⟩).start.length = n2 at *
   have hbl : Below W2.heap.size W2 (W2.alloc (.cells #[.slice A1 n1 c1, .slice A2 n2 c2] 41)) := (Below.refl _ _).alloc (Nat.le_refl _) _
   have hg2 := (hbl.block w.heap.size (by have := hB3.size; omega)).trans ((hB3.block w.heap.size hlt1).trans hg1)
   obtain ⟨d0, d1, d2, d3⟩ := ret_cell hg2
   replace hg2 := Lib.hid hg2
   have hgn : (W2.alloc (.cells #[.slice A1 n1 c1, .slice A2 n2 c2] 41)).heap[W2.heap.size]? = some (.cells #[.slice A1 n1 c1, .slice A2 n2 c2] 41 (0, 0)) := heap_alloc_new _ _
   obtain ⟨d4, d5, -, -⟩ := ret_cell hgn
   have hB4 := Lib.hid (Below.then_ (Below.then_ hB2 hB3) hbl)
   replace oa := Lib.hid (oa.below hbl)
   replace ob := Lib.hid (ob.below hbl)
   clear hg hg1 hi hgn hbl
   cases fb with
   | false =>
    have hr := Lib.hid (hF.out (Option.not_isSome_iff_eq_none.1 (by rw [hfb.out]; decide)))
    go_wp2
    refine bodyPost_ret (res_ct rfl _ _ w.heap.size 41 #[.slice none 0 0, .slice none 0 0] (0, 0) _ rfl (heap_set2 _ _ hg2.out) rfl rfl rfl) rfl ?_
    rw [hr.out]
    exact ⟨_, rfl, ⟨_, _, rfl, OwnI_nil _ _, OwnI_nil _ _⟩, hE.out _ _ hB4.out rfl⟩
   | true =>
    obtain ⟨r, hf⟩ := Option.isSome_iff_exists.1 hfb.out
    have hr := Lib.hid (hG.out r hf)
    rw [hf] at oa ob
    replace hf := Lib.hid hf
    go_wp2
    refine bodyPost_ret (res_ct rfl _ _ w.heap.size 41 #[.slice A1 n1 c1, .slice A2 n2 c2] (0, 0) _ rfl (heap_set2 _ _ hg2.out) rfl rfl rfl) rfl ?_
    rw [hr.out]
    exact ⟨_, rfl, ⟨_, _, rfl, own_two oa.out (Nat.le_of_lt hlt1) hlt1 _ _, own_two ob.out (Nat.le_of_lt hlt1) hlt1 _ _⟩, (hB4.out.setCell (p := ⟨w.heap.size, 0, none⟩) (Nat.le_refl _) _).setCell (p := ⟨w.heap.size, 1, none⟩) (Nat.le_refl _) _⟩
end Go.Proofs.YtlpldfocljnpnaaDoor
namespace Go.Proofs.YtlpldfocljnpnaaDoor
open Go.RowKit Go.Shelf
structure Keeps (n₀ x y : Nat) (A B : World) : Prop where
 below : Below n₀ A B
 one : B.heap[x]? = A.heap[x]?
 two : B.heap[y]? = A.heap[y]?
theorem Keeps.trans {n₀ x y : Nat} {A B C : World} (h : Keeps n₀ x y A B) (k : Keeps n₀ x y B C) : Keeps n₀ x y A C := ⟨h.below.trans k.below, k.one.trans h.one, k.two.trans h.two⟩
end Go.Proofs.YtlpldfocljnpnaaDoor
namespace Go.Proofs.YtlpldfocljnpnaaDoor
open Go.RowKit Go.Shelf
attribute [local go_sem] Oper.semAt_some
theorem four_push (A : Array Obj) (a b c d : Obj) : ((((A.push a).push b).push c).push d)[A.size + 1]? = some b ∧ ((((A.push a).push b).push c).push d)[A.size + 2]? = some c ∧ ((((A.push a).push b).push c).push d)[A.size + 3]? = some d := by
 refine ⟨?_, ?_, ?_⟩
 ·rw [Array.getElem?_push, if_neg (by simp), Array.getElem?_push, if_neg (by simp), Array.getElem?_push, if_pos (by simp)]
 ·rw [Array.getElem?_push, if_neg (by simp), Array.getElem?_push, if_pos (by simp)]
 ·rw [Array.getElem?_push, if_pos (by simp)]
theorem four (w : World) (a b c d : Obj) : ((((w.alloc a).alloc b).alloc c).alloc d).heap[w.heap.size + 1]? = some b ∧ ((((w.alloc a).alloc b).alloc c).alloc d).heap[w.heap.size + 2]? = some c ∧ ((((w.alloc a).alloc b).alloc c).alloc d).heap[w.heap.size + 3]? = some d := four_push w.heap a b c d
structure FirstI (n h hl : Nat) (w : World) (pre : List Int) (W : World) : Prop where
 low : Below h w W
 num : W.heap[h + 1]? = some (.cells #[.int .i64 n] 3 (0, 0))
 out : ∃ u, W.heap[h + 3]? = some (.cells #[u] 22 (0, 0)) ∧ OwnI W h u pre ∧ ∀ b, u.ownBlock = some b → b = h + 2 ∨ hl + 3 ≤ b
theorem FirstI.kept {n h hl : Nat} {w A B : World} {pre : List Int} {row : Option Nat} (H : FirstI n h hl w pre A) (hg : A.grownBy B row) (hr : ∀ k, row = some k → hl ≤ k ∧ k < hl + 3) (hh : h + 5 = hl) (hw : w.heap.size = h) : FirstI n h hl w pre B := by
 obtain ⟨h1, h2, u, h3, h4, h5⟩ := H
 have ne : ∀ k, k < hl → some k ≠ row := fun k hk e => by have := hr k e.symm; omega
 refine ⟨h1.grown hg (by have := h1.size; omega) (fun k e => by have := hr k e; omega), (hg.block _ (Array.getElem?_eq_some_iff.1 h2).1 (ne _ (by omega))).trans h2, u, (hg.block _ (Array.getElem?_eq_some_iff.1 h3).1 (ne _ (by omega))).trans h3, ?_, h5⟩
 refine h4.kept hg ?_
 cases hb : u.ownBlock with
 | none => exact .inl rfl
 | some b =>
  refine .inr fun e => ?_
  have := hr b e.symm
  rcases h5 b hb with h | h <;> omega
theorem FirstI.step {n h hl : Nat} {w W w1 : World} {pre : List Int} {v : Int} {A3 : Option Addr} {c3 g' cap' : Nat} (hlow : Below h w W) (hnum : W.heap[h + 1]? = some (.cells #[.int .i64 n] 3 (0, 0)))
  (hbox : W.heap[h + 3]? = some (.cells #[.slice A3 pre.length c3] 22 (0, 0))) (hub : ∀ b, (Value.slice A3 pre.length c3).ownBlock = some b → b = h + 2 ∨ hl + 3 ≤ b) (hsz : hl + 3 ≤ W.heap.size) (hh : h + 5 = hl)
  (hown1 : w1.ownsRow h 3 1 (.slice (some ⟨g', 0, none⟩) (pre.length + 1) cap') (pre.length + 1) (ints pre ++ [.int .i64 v])) (hgrow : (W.alloc (.cells #[.int .i64 v] 3)).grownBy w1 (Value.slice A3 pre.length c3).ownBlock)
  (hat : (Value.slice (some ⟨g', 0, none⟩) (pre.length + 1) cap').ownBlock = (Value.slice A3 pre.length c3).ownBlock ∨ (Value.slice (some ⟨g', 0, none⟩) (pre.length + 1) cap').ownBlock = some (W.alloc (.cells #[.int .i64 v] 3)).heap.size) :
  FirstI n h hl w (pre ++ [v]) (w1.setCell ⟨h + 1 + 1 + 1, 0, none⟩ (.slice (some ⟨g', 0, none⟩) (pre.length + 1) cap')) ∧
   ∀ k, k < W.heap.size → k ≠ h + 3 → some k ≠ (Value.slice A3 pre.length c3).ownBlock → (w1.setCell ⟨h + 1 + 1 + 1, 0, none⟩ (.slice (some ⟨g', 0, none⟩) (pre.length + 1) cap')).heap[k]? = W.heap[k]? := by
 have hkeep : ∀ k, k < W.heap.size → k ≠ h + 3 → some k ≠ (Value.slice A3 pre.length c3).ownBlock → (w1.setCell ⟨h + 1 + 1 + 1, 0, none⟩ (.slice (some ⟨g', 0, none⟩) (pre.length + 1) cap')).heap[k]? = W.heap[k]? := fun k h1 h2 h3 =>
  ((Below.heap_setCell _ _ _ _ (by show k ≠ h + 3; exact h2)).trans (hgrow.block k (by simp; omega) h3)).trans (Below.heap_alloc _ _ _ h1)
 have hg' : g' = h + 2 ∨ hl + 3 ≤ g' := by
  rcases hat with e | e
  ·exact hub g' (by rw [← e]; rfl)
  ·have : g' = W.heap.size + 1 := by simpa [Value.ownBlock] using e
   omega
 have hne : ∀ k, k < hl → k ≠ h + 2 → some k ≠ (Value.slice A3 pre.length c3).ownBlock := fun k h1 h2 e => by rcases hub k e.symm with h | h <;> omega
 have hbx3 := (hgrow.block (h + 3) (by simp; omega) (hne _ (by omega) (by omega))).trans ((Below.heap_alloc W _ (h + 3) (by omega)).trans hbox)
 have hs : w1.heap.size ≤ (w1.setCell ⟨h + 1 + 1 + 1, 0, none⟩ (.slice (some ⟨g', 0, none⟩) (pre.length + 1) cap')).heap.size := by simp [World.setCell]
 refine ⟨⟨⟨?_, ?_, ?_, ?_, fun k hk => ?_⟩, (hkeep _ (by omega) (by omega) (hne _ (by omega) (by omega))).trans hnum, _, heap_set1 _ hbx3, ?_, fun b hb => ?_⟩, hkeep⟩
 ·exact hgrow.os.trans hlow.os
 ·exact hgrow.tape.trans hlow.tape
 ·exact hgrow.output.trans hlow.output
 ·have h1 := hgrow.size
  have h2 := hlow.size
  rw [World.size_alloc] at h1
  omega
 ·exact (hkeep k (by omega) (by omega) (hne k (by omega) (by omega))).trans (hlow.block k hk)
 ·unfold OwnI
  rw [List.length_append, ints_append]
  exact hown1.kept ⟨rfl, rfl, rfl, hs, fun k _ hk => Below.heap_setCell _ _ _ _ (fun e => hk (by rw [e]))⟩ (.inr (by show some g' ≠ some (h + 1 + 1 + 1); intro e; have := Option.some.inj e; omega))
 ·have : g' = b := by simpa [Value.ownBlock] using hb
  omega
end Go.Proofs.YtlpldfocljnpnaaDoor
namespace Go.Proofs.YtlpldfocljnpnaaDoor
open Go.RowKit Go.Shelf
def TwoR (h : Nat) (a b c d : Value) (w : World) : Prop := (w.cell? ⟨h, 0, none⟩ = some a ∧ w.cell? ⟨h, 1, none⟩ = some b) ∧ w.cell? ⟨h + 1, 0, none⟩ = some c ∧ w.cell? ⟨h + 1, 1, none⟩ = some d
theorem TwoR.keep {h : Nat} {a b c d : Value} {A B : World} (H : TwoR h a b c d A) (hl : h + 1 < A.heap.size) (hb : Below A.heap.size A B) : TwoR h a b c d B :=
 ⟨⟨(hb.cell (p := ⟨h, 0, none⟩) (by show h < _; omega)).trans H.1.1, (hb.cell (p := ⟨h, 1, none⟩) (by show h < _; omega)).trans H.1.2⟩, (hb.cell (p := ⟨h + 1, 0, none⟩) hl).trans H.2.1, (hb.cell (p := ⟨h + 1, 1, none⟩) hl).trans H.2.2⟩
end Go.Proofs.YtlpldfocljnpnaaDoor
namespace Go.Proofs.YtlpldfocljnpnaaDoor
open Go.RowKit Go.Shelf
theorem getD_bd {l : List Int} (h : ∀ x ∈ l, 0 ≤ x ∧ x < 65521) (k : Nat) : 0 ≤ l.getD k 0 ∧ l.getD k 0 < 65521 := by
 by_cases hk : k < l.length
 ·rw [List.getD_eq_getElem?_getD, List.getElem?_eq_getElem hk]; exact h _ (List.getElem_mem hk)
 ·rw [List.getD_eq_getElem?_getD, List.getElem?_eq_none (by omega)]; decide
end Go.Proofs.YtlpldfocljnpnaaDoor
namespace Go.Proofs.YtlpldfocljnpnaaDoor
open Go.RowKit Go.Shelf
theorem Btw.grown {lo hi : Nat} {w w' : World} {row : Option Nat} (hg : w.grownBy w' row) (hr : ∀ k, row = some k → lo ≤ k ∧ k < hi) : Btw lo hi w w' :=
 ⟨hg.os, hg.tape, hg.output, hg.size, fun k hk hn => hg.block k hk (fun e => by have := hr k e.symm; omega)⟩
theorem Btw.setCell {lo hi : Nat} {w w' : World} (h : Btw lo hi w w') {p : Addr} (h1 : lo ≤ p.block) (h2 : p.block < hi) (u : Value) : Btw lo hi w (w'.setCell p u) :=
 h.trans ⟨rfl, rfl, rfl, by simp [World.setCell], fun k _ hk => Below.heap_setCell _ _ _ _ (by omega)⟩
def FreshRes (r : Int × List (List Int)) (w : World) (e : Ending) (w' : World) : Prop :=
 ∃ v, e = .returned (.tuple #[v, .int .i64 r.1]) ∧ RdM w' v r.2 ∧ FreshV w.heap.size w'.heap.size w' v r.2.length (fun k => (r.2.getD k []).length) ∧ Below w.heap.size w w'
theorem MatErr.fresh {r : Int × List (List Int)} {w : World} {e : Ending} {w' : World} (h : MatErr r w e w') (hn : r.2.length ≤ 140737488355328) (hm : ∀ x ∈ r.2, x.length ≤ 140737488355328) : FreshRes r w e w' := by
 obtain ⟨v, rfl, hO, hB⟩ := h
 exact ⟨v, rfl, hO.rd hn hm, hO.fresh hn hm, hB⟩
end Go.Proofs.YtlpldfocljnpnaaDoor
namespace Go.Proofs.YtlpldfocljnpnaaDoor
open Go.RowKit Go.Shelf
theorem KeptBut.owns {vs : List Value} {w w' : World} (h : KeptBut vs w w') {base : Nat} {e : TypeId} {size : Nat} {v : Value} {n : Nat} {xs : List Value} (ho : w.ownsRow base e size v n xs) (hne : ∀ b, v.ownBlock = some b → ∀ u ∈ vs, u.ownBlock ≠ some b) : w'.ownsRow base e size v n xs := by
 refine ⟨ho.1, ?_⟩
 rcases ho.2 with hn | ⟨g, cap, cur, rfl, hb', hgg, rest⟩
 ·exact .inl hn
 ·exact .inr ⟨g, cap, cur, rfl, hb', (h.block g (Array.getElem?_eq_some_iff.1 hgg).1 (hne g rfl)).trans hgg, rest⟩
end Go.Proofs.YtlpldfocljnpnaaDoor
namespace Go.Proofs.YtlpldfocljnpnaaDoor
open Go.RowKit Go.Shelf
theorem RdI_one (w : World) (x : Int) : RdI (w.alloc (.cells #[.int .i64 x] 3)) (.slice (some ⟨w.heap.size, 0, none⟩) 1 1) [x] := by
 refine ⟨_, _, rfl, Nat.le_refl _, by simp [ints], fun _ => ⟨_, _, rfl, fun j u h => ?_⟩⟩
 cases j with
 | zero =>
  simp only [ints, List.map_cons, List.getElem?_cons_zero, Option.some.injEq] at h
  subst h
  simp only [World.cell?, heap_alloc_new]; rfl
 | succ j => simp [ints] at h
def invR (n : Int) : Int × Int := if isN n = false then (0, 3) else if n = 0 then (0, 7) else (invN n, 0)
theorem isN_iff {n : Int} : isN n = true ↔ 0 ≤ n ∧ n < 65521 := by simp [isN]
theorem Inv_any (n : Int) (w : World) :
  Calls Tryd.prog 129 #[.int .i64 n] w fun e w' => e = .returned (.tuple #[.int .i64 (invR n).1, .int .i64 (invR n).2]) ∧ Below w.heap.size w w' := by
 have hbx : Below w.heap.size w (w.alloc (.cells #[.int .i64 n] 3)) := (Below.refl _ _).alloc (Nat.le_refl _) _
 have hi := Lib.hid (is_any [n] _ _ (RdI_one w n))
 have hl : isRes [n] = isN n := by simp [isRes]
 rw [hl] at hi
 cases hn : isN n
 ·rw [hn] at hi
  have hr : Hid (invR n = (0, 3)) := Lib.hid (by rw [invR, if_pos hn])
  go_enter Tryd.func129, Tryd.ntmps129
  go_wp2_with fail
  generalize w.alloc (.cells #[.int .i64 n] 3) = X at *
  refine hi.out.mono ?_; rintro e W ⟨rfl, hB⟩
  go_wp2
  go_ret2
  exact ⟨by rw [hr.out]; rfl, Below.then_ hbx hB⟩
 ·rw [hn] at hi
  by_cases h0 : n = 0
  ·have hr : Hid (invR n = (0, 7)) := Lib.hid (by rw [invR, if_neg (by simp [hn]), if_pos h0])
   subst h0
   clear hn hl
   go_enter Tryd.func129, Tryd.ntmps129
   go_wp2_with fail
   generalize w.alloc (.cells #[.int .i64 0] 3) = X at *
   refine hi.out.mono ?_; rintro e W ⟨rfl, hB⟩
   go_wp2
   go_ret2
   exact ⟨by rw [hr.out]; rfl, Below.then_ hbx hB⟩
  ·have hr : Hid (invR n = (invN n, 0)) := Lib.hid (by rw [invR, if_neg (by simp [hn]), if_neg h0])
   have hq := isN_iff.1 hn
   have hc := Lib.hid (fun W => inverse_any n W hq.1 hq.2)
   have hne : (n == 0) = false := by rw [beq_eq_false_iff_ne]; exact h0
   clear hn hl
   go_enter Tryd.func129, Tryd.ntmps129
   go_wp2_with fail
   generalize w.alloc (.cells #[.int .i64 n] 3) = X at *
   refine hi.out.mono ?_; rintro e W ⟨rfl, hB⟩
   go_wp2_with fail
   refine (hc.out W).mono ?_; rintro e W2 ⟨rfl, rfl⟩
   go_wp2
   go_ret2
   exact ⟨by rw [hr.out]; rfl, Below.then_ hbx hB⟩
end Go.Proofs.YtlpldfocljnpnaaDoor
namespace Go.Proofs.YtlpldfocljnpnaaDoor
open Go.RowKit Go.Shelf
def sameR (r s : Rule) : Bool := decide (r.by_ = s.by_) && decide (r.start = s.start)
theorem Same_any (r s : Rule) (v u : Value) (w : World) (h : RdR w v r) (h' : RdR w u s) :
  Calls Tryd.prog 26 #[v, u] w fun e w' => e = .returned (.bool (sameR r s)) ∧ Below w.heap.size w w' := by
 obtain ⟨a, b, rfl, ra, rb⟩ := h
 obtain ⟨a', b', rfl, ra', rb'⟩ := h'
 have hbx : Below w.heap.size w ((w.alloc (.cells #[a, b] 41)).alloc (.cells #[a', b'] 41)) := ((Below.refl _ _).alloc (Nat.le_refl _) _).alloc (by simp) _
 have hgb : ((w.alloc (.cells #[a, b] 41)).alloc (.cells #[a', b'] 41)).heap[w.heap.size + 1]? = some (.cells #[a', b'] 41 (0, 0)) := by
  have h := heap_alloc_new (w.alloc (.cells #[a, b] 41)) (.cells #[a', b'] 41); rwa [World.size_alloc] at h
 have hga : ((w.alloc (.cells #[a, b] 41)).alloc (.cells #[a', b'] 41)).heap[w.heap.size]? = some (.cells #[a, b] 41 (0, 0)) := by
  rw [((Below.refl _ (w.alloc (.cells #[a, b] 41))).alloc (Nat.le_refl _) _).block w.heap.size (by simp)]; exact heap_alloc_new _ _
 have hsz : ((w.alloc (.cells #[a, b] 41)).alloc (.cells #[a', b'] 41)).heap.size = w.heap.size + 2 := by simp
 have hl1 := Lib.hid (fun W (hW : Below w.heap.size w W) => list_any r.by_ s.by_ a a' W (ra.below hW (Nat.le_refl _)) (ra'.below hW (Nat.le_refl _)))
 have hl2 := Lib.hid (fun W (hW : Below w.heap.size w W) => list_any r.start s.start b b' W (rb.below hW (Nat.le_refl _)) (rb'.below hW (Nat.le_refl _)))
 have hR : Hid (sameR r s = (decide (r.by_ = s.by_) && decide (r.start = s.start))) := Lib.hid rfl
 have mk : ∀ (W : World) (g : Nat) (x y : Value), W.heap[g]? = some (.cells #[x, y] 41 (0, 0)) → W.cell? ⟨g, 0, none⟩ = some x ∧ W.cell? ⟨g, 1, none⟩ = some y := fun W g x y h => ⟨by unfold World.cell?; rw [h]; rfl, by unfold World.cell?; rw [h]; rfl⟩
 obtain ⟨c0, c1⟩ := mk _ _ _ _ hga
 obtain ⟨c2, c3⟩ := mk _ _ _ _ hgb
 clear ra rb ra' rb' hga hgb mk
 cases p1 : decide (r.by_ = s.by_)
 ·rw [p1] at hl1
  have hr : Hid (sameR r s = false) := Lib.hid (by rw [hR.out, p1]; rfl)
  clear p1
  go_enter Tryd.func26, Tryd.ntmps26
  go_wp2_with fail
  generalize (w.alloc (.cells #[a, b] 41)).alloc (.cells #[a', b'] 41) = X at *
  refine (hl1.out X hbx).mono ?_; rintro e W1 ⟨rfl, hB1⟩
  go_wp2
  go_ret
  exact ⟨by rw [hr.out]; rfl, Below.then_ hbx hB1⟩
 ·rw [p1] at hl1
  have hr : Hid (sameR r s = decide (r.start = s.start)) := Lib.hid (by rw [hR.out, p1]; rfl)
  clear p1
  generalize decide (r.start = s.start) = d at *
  go_enter Tryd.func26, Tryd.ntmps26
  go_wp2_with fail
  generalize (w.alloc (.cells #[a, b] 41)).alloc (.cells #[a', b'] 41) = X at *
  refine (hl1.out X hbx).mono ?_; rintro e W1 ⟨rfl, hB1⟩
  have e1 := (hB1.cell (p := ⟨w.heap.size, 1, none⟩) (by show w.heap.size < _; omega)).trans c1
  have e3 := (hB1.cell (p := ⟨w.heap.size + 1, 1, none⟩) (by show w.heap.size + 1 < _; omega)).trans c3
  have hB2 := Below.then_ hbx hB1
  go_wp2_with fail
  refine (hl2.out W1 hB2).mono ?_; rintro e W2 ⟨rfl, hB3⟩
  go_wp2
  go_ret
  exact ⟨by rw [hr.out]; rfl, Below.then_ hB2 hB3⟩
end Go.Proofs.YtlpldfocljnpnaaDoor
namespace Go.Proofs.YtlpldfocljnpnaaDoor
open Go.RowKit Go.Shelf
def allocs (w : World) (os : List Obj) : World := os.foldl World.alloc w
theorem allocs_below (w : World) (os : List Obj) : Below w.heap.size w (allocs w os) := by
 induction os generalizing w with
 | nil => exact Below.refl _ _
 | cons o os ih => exact ((Below.refl _ w).alloc (Nat.le_refl _) o).trans ((ih (w.alloc o)).mono (by simp))
theorem allocs_get (w : World) (os : List Obj) (i : Nat) (o : Obj) (h : os[i]? = some o) : (allocs w os).heap[w.heap.size + i]? = some o := by
 induction os generalizing w i with
 | nil => cases h
 | cons p os ih =>
  cases i with
  | zero =>
   have : p = o := by simpa using h
   subst this
   exact ((allocs_below (w.alloc p) os).block w.heap.size (by simp)).trans (heap_alloc_new w p)
  | succ i =>
   have h2 := ih (w.alloc p) i (by simpa using h)
   rw [World.size_alloc] at h2
   rw [show w.heap.size + (i + 1) = w.heap.size + 1 + i from by omega]
   exact h2
theorem RdI_lit {W : World} {b n : Nat} {xs : List Int} (hb : W.heap[b]? = some (.cells (ints xs).toArray 3 (0, 0))) (hn : xs.length = n) (hl : n ≤ 1000) : RdI W (.slice (some ⟨b, 0, none⟩) n n) xs := by
 refine ⟨some ⟨b, 0, none⟩, n, by rw [ints_len, hn], by rw [ints_len]; omega, by rw [ints_len]; omega, fun _ => ⟨b, 0, rfl, fun j u hj => ?_⟩⟩
 rw [Nat.zero_add]
 unfold World.cell?
 rw [hb]
 show (ints xs).toArray[j]? = _
 rw [List.getElem?_toArray, hj]
def Bag (W : World) (ms : List (Value × List (List Int))) (is : List (Value × List Int)) (bs : List (Nat × Obj)) : Prop := (∀ p ∈ ms, RdM W p.1 p.2) ∧ (∀ p ∈ is, RdI W p.1 p.2) ∧ ∀ p ∈ bs, W.heap[p.1]? = some p.2
theorem Bag.below {W W' : World} {ms : List (Value × List (List Int))} {is : List (Value × List Int)} {bs : List (Nat × Obj)} (h : Bag W ms is bs) (hB : Below W.heap.size W W') : Bag W' ms is bs :=
 ⟨fun p hp => (h.1 p hp).below hB (Nat.le_refl _), fun p hp => (h.2.1 p hp).below hB (Nat.le_refl _), fun p hp => (hB.block p.1 (Array.getElem?_eq_some_iff.1 (h.2.2 p hp)).1).trans (h.2.2 p hp)⟩
theorem Bag.nil (W : World) : Bag W [] [] [] := ⟨fun _ h => (by cases h), fun _ h => (by cases h), fun _ h => (by cases h)⟩
def fibR : Rule := ⟨[1, 1], [0, 1]⟩
def RuleAt (r : Rule) (w' : World) (v : Value) : Prop := ∃ A c B d, v = .agg #[.slice A r.by_.length c, .slice B r.start.length d] ∧ RdI w' (.slice A r.by_.length c) r.by_ ∧ RdI w' (.slice B r.start.length d) r.start
theorem OwnR.at_ {w : World} {base : Nat} {v : Value} {r : Rule} (h : OwnR w base v r) (h1 : r.by_.length ≤ 1000) (h2 : r.start.length ≤ 1000) : RuleAt r w v := by
 obtain ⟨a, b, rfl, oa, ob⟩ := h
 have ha := oa
 have hb := ob
 unfold OwnI at ha hb
 obtain ⟨A, c, rfl⟩ := own_form ha
 obtain ⟨B, d, rfl⟩ := own_form hb
 exact ⟨A, c, B, d, rfl, oa.rd (by omega), ob.rd (by omega)⟩
end Go.Proofs.YtlpldfocljnpnaaDoor
namespace Go.Proofs.YtlpldfocljnpnaaDoor
open Go.RowKit Go.Shelf
theorem refPow_any (n e : Int) (w : World) (hn : 0 ≤ n) (hn2 : n < 65521) (he : 0 ≤ e) (he2 : e ≤ 9223372036854775807) :
  Calls Tryd.prog 140 #[.int .i64 n, .int .i64 e] w fun r w' => r = .returned (.int .i64 (n ^ e.toNat % 65521)) ∧ w = w' := by
 go_enter Tryd.func140, Tryd.ntmps140
 go_wp2
 go_loop [0, 1, 5] (fun x y o => ∃ (a b c : Int), x = .int .i64 a ∧ y = .int .i64 b ∧ o = .int .i64 c ∧ 0 ≤ a ∧ a < 65521 ∧ 0 ≤ b ∧ b ≤ e ∧ 0 ≤ c ∧ c < 65521 ∧ c * a ^ b.toNat % 65521 = n ^ e.toNat % 65521) (fun _ y _ => (intOf y).toNat)
 case atStart => exact ⟨n, e, 1, rfl, rfl, rfl, hn, hn2, he, by omega, by omega, by omega, by simp⟩
 case round =>
  obtain ⟨a, b, c, rfl, rfl, rfl, ha, ha2, hb, hb2, hc, hc2, H⟩ := hrel
  replace H := Lib.hid H
  have ⟨m1, m2⟩ := mul_bd ha ha2 ha ha2
  have ⟨m3, m4⟩ := mul_bd hc hc2 ha ha2
  by_cases hb0 : 0 < b
  ·by_cases hodd : b % 2 = 1
   ·have hr := Lib.hid (pow_odd c a b hb0 hodd)
    have ho : (b % 2 == 1) = true := by rw [beq_iff_eq]; exact hodd
    replace hodd := Lib.hid hodd
    go_wp2
    go_round
    case rel => exact ⟨_, _, _, rfl, rfl, rfl, by omega, by omega, by omega, by omega, by omega, by omega, by rw [hr.out]; exact H.out⟩
    case measure => simp [intOf]; omega
   ·have hev : b % 2 = 0 := by omega
    have hr := Lib.hid (pow_even c a b hb0 hev)
    have ho : (b % 2 == 1) = false := by rw [beq_eq_false_iff_ne]; exact hodd
    replace hev := Lib.hid hev
    replace hodd := Lib.hid hodd
    go_wp2
    go_round
    case rel => exact ⟨_, _, _, rfl, rfl, rfl, by omega, by omega, by omega, by omega, by omega, by omega, by rw [hr.out]; exact H.out⟩
    case measure => simp [intOf]; omega
  ·have hbz : b = 0 := by omega
   subst hbz
   go_wp2
   go_ret
   refine ⟨?_, rfl⟩
   rw [← H.out]
   simp; omega
theorem refInv_any (n : Int) (w : World) (hn : 0 ≤ n) (hn2 : n < 65521) :
  Calls Tryd.prog 134 #[.int .i64 n] w fun r w' => r = .returned (.int .i64 (invN n)) ∧ w = w' := by
 have hc := refPow_any n 65519 w hn hn2 (by decide) (by decide)
 rw [inv_eq n hn] at hc
 replace hc := Lib.hid hc
 go_enter Tryd.func134, Tryd.ntmps134
 go_wp2_with fail
 refine hc.out.mono ?_; rintro e w' ⟨rfl, rfl⟩
 go_wp2
 go_ret
 exact ⟨rfl, rfl⟩
end Go.Proofs.YtlpldfocljnpnaaDoor
namespace Go.Proofs.YtlpldfocljnpnaaDoor
open Go.RowKit
theorem own_shape {w : World} {b : Nat} {e : TypeId} {s : Nat} {v : Value} {n : Nat} {xs : List Value} (h : w.ownsRow b e s v n xs) : ∃ A c, v = .slice A n c := by
 rcases h.2 with ⟨e, e2⟩ | ⟨g, cap, cur, e, _⟩
 ·exact ⟨none, 0, by rw [e, e2]⟩
 ·exact ⟨_, cap, e⟩
theorem OwnMv.snoc {w w1 : World} {base n : Nat} {v v' : Value} {rs : List (List Int)} {vs : List Value} {r : List Int} {u : Value} (h : OwnMv w base v rs vs) (ho : OwnI w base u r)
  (hu : ∀ x ∈ vs, x.ownBlock = none ∨ x.ownBlock ≠ u.ownBlock) (h1 : w1.ownsRow base 22 1 v' n (vs ++ [u])) (hn : n = rs.length + 1) (hg : w.grownBy w1 v.ownBlock) : OwnMv w1 base v' (rs ++ [r]) (vs ++ [u]) := by
 subst hn
 have hl := h.len
 have hrow : ∀ (x : Value) (s : List Int), OwnI w base x s → OwnI w1 base x s := fun x s hx => OwnI.base (World.ownsRow.kept hx hg (own_ne hx h.outer (by decide))) (Nat.le_refl _)
 refine ⟨by rw [List.length_append]; exact h1, fun j s x hs hx => ?_, fun i j x y hij hx hy => ?_⟩
 ·by_cases hj : j < rs.length
  ·rw [List.getElem?_append_left hj] at hs
   rw [List.getElem?_append_left (by omega)] at hx
   exact hrow x s (h.rows j s x hs hx)
  ·have hj2 := (List.getElem?_eq_some_iff.1 hs).1
   have : j = rs.length := by simp at hj2; omega
   subst this
   rw [List.getElem?_append_right (Nat.le_refl _), Nat.sub_self] at hs
   rw [List.getElem?_append_right (by omega), hl, Nat.sub_self] at hx
   cases hs; cases hx
   exact hrow _ _ ho
 ·by_cases hi : i < vs.length
  ·rw [List.getElem?_append_left hi] at hx
   by_cases hj : j < vs.length
   ·rw [List.getElem?_append_left hj] at hy
    exact h.apart i j x y hij hx hy
   ·have hj2 := (List.getElem?_eq_some_iff.1 hy).1
    have : j = vs.length := by simp at hj2; omega
    subst this
    rw [List.getElem?_append_right (Nat.le_refl _), Nat.sub_self] at hy
    cases hy
    exact hu x (List.mem_of_getElem? hx)
  ·have hi2 := (List.getElem?_eq_some_iff.1 hx).1
   have : i = vs.length := by simp at hi2; omega
   subst this
   rw [List.getElem?_append_right (Nat.le_refl _), Nat.sub_self] at hx
   cases hx
   have hj : j < vs.length := by
    have hj2 := (List.getElem?_eq_some_iff.1 hy).1
    simp at hj2; omega
   rw [List.getElem?_append_left hj] at hy
   rcases hu y (List.mem_of_getElem? hy) with e | e
   ·by_cases hx0 : u.ownBlock = none
    ·exact .inl hx0
    ·exact .inr (by rw [e]; exact hx0)
   ·exact .inr (Ne.symm e)
theorem run_append_of_nil {P : Program} (w : World) (base : Nat) (t ty e : TypeId) (i : TypeInfo) (size : Nat) (ht : P.underlying t = some (.slice e)) (hi : P.info? e = some i)
  (v : Value) (n : Nat) (xs : List Value) (hown : w.ownsRow base e size v n xs) (c : Nat) : (Builtin.append_ #[t, t] ty #[v, .slice none 0 c]).run P w = .ok v w := by
 rcases hown.2 with ⟨rfl, rfl⟩ | ⟨g, cap, cur, rfl, _, _, hnc, _⟩
 ·simp [Builtin.append_, run_underlying ht, sizeOf, typeInfo, hi, Builtin.lenOf, Builtin.firstCells]
 ·simp [Builtin.append_, run_underlying ht, sizeOf, typeInfo, hi, Builtin.lenOf, Builtin.firstCells, hnc, storeCells]
theorem OwnMv_nil (w : World) (base : Nat) : OwnMv w base (.slice none 0 0) [] [] := ⟨World.ownsRow_nil _ _ _ _, fun j r u h => by simp at h, fun i j u u' _ h => by simp at h⟩
theorem snoc_round {w wr w2 w1 : World} {n : Nat} {o v2 v' : Value} {rs : List (List Int)} {r : List Int} {vs : List Value} (hB : Below w.heap.size w wr) (hM : OwnMv wr w.heap.size o rs vs) (hb2 : Below wr.heap.size wr w2) (ho2 : OwnI w2 wr.heap.size v2 r) (hn : n = rs.length + 1)
  (hown1 : w1.ownsRow w.heap.size 22 1 v' n (vs ++ [v2])) (hgrow : (w2.alloc (.cells #[v2] 22)).grownBy w1 o.ownBlock) :
  Below w.heap.size w w1 ∧ ∃ vs', OwnMv w1 w.heap.size v' (rs ++ [r]) vs' := by
 have ha : Below w2.heap.size w2 (w2.alloc (.cells #[v2] 22)) := (Below.refl _ _).alloc (Nat.le_refl _) _
 have hb3 : Below wr.heap.size wr (w2.alloc (.cells #[v2] 22)) := Below.then_ hb2 ha
 have hM3 := hM.kept hb3
 refine ⟨(Below.then_ hB hb3).grown hgrow (by have := hB.size; have := hb3.size; omega) (fun k hk => (hM3.outer.lt k hk).1), _, hM3.snoc ((ho2.below ha).base hB.size) (fun x hx => ?_) hown1 hn hgrow⟩
 by_cases hx0 : x.ownBlock = none
 ·exact .inl hx0
 ·obtain ⟨k, hk⟩ := Option.ne_none_iff_exists'.1 hx0
  refine .inr fun e => ?_
  have h1 := (hM.ge x hx k hk).2
  have h2 := (World.ownsRow.lt ho2 k (by rw [← e]; exact hk)).1
  omega
end Go.Proofs.YtlpldfocljnpnaaDoor
namespace Go.Proofs.YtlpldfocljnpnaaDoor
open Go.RowKit
theorem OwnMv.same {w : World} {base g n c i : Nat} {rs : List (List Int)} {vs : List Value} {u : Value} (h : OwnMv w base (.slice (some ⟨g, 0, none⟩) n c) rs vs) (hu : vs[i]? = some u) : OwnMv (w.setCell ⟨g, i, none⟩ u) base (.slice (some ⟨g, 0, none⟩) n c) rs vs := by
 obtain rfl : rs.length = n := by
  rcases h.outer.2 with ⟨e, _⟩ | ⟨_, _, _, e, _⟩
  ·simp at e
  ·simp only [Value.slice.injEq] at e; exact e.2.1.symm
 obtain ⟨h1, g1⟩ := h.outer.stored i u
 rw [list_set_same hu] at h1
 exact ⟨h1, fun j r x hr hx => OwnI.base (World.ownsRow.kept (h.rows j r x hr hx) g1 (own_ne (h.rows j r x hr hx) h.outer (by decide))) (Nat.le_refl _), h.apart⟩
theorem swap_both {w : World} {base g n c a L : Nat} {rs : List (List Int)} {vs : List Value} {ua uL : Value} (h : OwnMv w base (.slice (some ⟨g, 0, none⟩) n c) rs vs) (ha : a < rs.length) (hL : L < rs.length) (hx : vs[a]? = some ua) (hu : vs[L]? = some uL) :
  ∃ vs', OwnMv ((w.setCell ⟨g, L, none⟩ ua).setCell ⟨g, a, none⟩ uL) base (.slice (some ⟨g, 0, none⟩) n c) (swapM rs a L) vs' ∧ vs'[L]? = some ua ∧ ∀ y ∈ vs', y ∈ vs := by
 have ra : rs[a]? = some (rs.getD a []) := by rw [List.getD_eq_getElem?_getD, List.getElem?_eq_getElem ha]; rfl
 have rL : rs[L]? = some (rs.getD L []) := by rw [List.getD_eq_getElem?_getD, List.getElem?_eq_getElem hL]; rfl
 have hl := h.len
 by_cases e : a = L
 ·subst e
  rw [hx] at hu
  cases hu
  rw [swap_self]
  exact ⟨vs, (h.same hx).same hx, hx, fun y hy => hy⟩
 ·refine ⟨(vs.set L ua).set a uL, ?_, ?_, ?_⟩
  ·have := h.swap rfl rL ra hu hx (Ne.symm e)
   rw [show swapM rs a L = (rs.set L (rs.getD a [])).set a (rs.getD L []) from by rw [swapM, List.set_comm _ _ e]]
   exact this
  ·rw [List.getElem?_set_ne e, List.getElem?_set_self (by omega)]
  ·intro y hy
   rcases List.mem_or_eq_of_mem_set hy with hy | rfl
   ·rcases List.mem_or_eq_of_mem_set hy with hy | rfl
    ·exact hy
    ·exact List.mem_of_getElem? hx
   ·exact List.mem_of_getElem? hu
structure RInv (w wr : World) (base : Nat) (v p : Value) (s : Sys) (n m : Nat) : Prop where
 ok : okM s.rows n m
 few : s.piv.length ≤ n
 mem : ∃ vs, OwnMv wr base v s.rows vs ∧ ∀ u ∈ vs, ∀ g, u.ownBlock = some g → g < w.heap.size
 piv : OwnI wr w.heap.size p (natI (s.piv.map (·.2)))
 below : Below base w wr
def redS (rs : List (List Int)) (cols q : Nat) : Sys := solveS rs ((List.range cols).reverse.take (cols - q)) false
theorem redS_step (rs : List (List Int)) {cols k : Nat} (hk : k < cols) : redS rs cols k = stepS (redS rs cols (k + 1)) k := by
 unfold redS solveS
 rw [show cols - k = (cols - (k + 1)) + 1 by omega, List.take_add_one, List.getElem?_reverse (by simp; omega), List.foldl_append]
 have : (List.range cols)[(List.range cols).length - 1 - (cols - (k + 1))]? = some k := by
  rw [List.length_range, List.getElem?_range (by omega)]; congr 1; omega
 rw [this]; rfl
theorem redS_end (rs : List (List Int)) (cols : Nat) : redS rs cols 0 = solveS rs (List.range cols).reverse false := by
 unfold redS; rw [List.take_of_length_le (by simp)]
def seen (rs : List (List Int)) (k n j : Nat) (z : Int) : Prop := (z = -1 ∧ ∀ x, j ≤ x → x < n → gM rs x k = 0) ∨ ∃ a : Nat, z = a ∧ j ≤ a ∧ a < n ∧ gM rs a k ≠ 0 ∧ ∀ x, j ≤ x → x < a → gM rs x k = 0
theorem reduce_fin {w wr w1 : World} {base n m a j k : Nat} {v p v' : Value} {s : Sys} {vs1 : List Value} (hok : okM s.rows n m) (hL : s.piv.length = j) (hjn : j < n) (ha : a < n)
  (hO : OwnMv wr base v (clearM (swapM s.rows a j) j k) vs1) (hlo : ∀ u ∈ vs1, ∀ g, u.ownBlock = some g → g < w.heap.size) (hp : OwnI wr w.heap.size p (natI (s.piv.map (·.2)))) (hB : Below base w wr) (hbw : base ≤ w.heap.size)
  (hown : w1.ownsRow w.heap.size 3 1 v' (j + 1) (ints (natI (s.piv.map (·.2))) ++ [.int .i64 k])) (hg : (wr.alloc (.cells #[.int .i64 k] 3)).grownBy w1 p.ownBlock) : RInv w w1 base v v' (pivS s k a) n m := by
 have hb1 : Below wr.heap.size wr (wr.alloc (.cells #[.int .i64 k] 3)) := (Below.refl _ _).alloc (Nat.le_refl _) _
 have hsz := hB.size
 refine ⟨okM_clear (okM_swap hok ha (by rw [hL]; exact hjn)) (by rw [hL]; exact hjn), by simp only [pivS, List.length_append, List.length_singleton]; omega, ⟨vs1, ?_, hlo⟩, ?_, ?_⟩
 ·simp only [pivS, hL]
  refine (hO.kept hb1).grownBy hg (own_ne hO.outer hp (by decide)) (fun u hu => ?_)
  by_cases hu0 : u.ownBlock = none
  ·exact .inl hu0
  ·obtain ⟨g, hg2⟩ := Option.ne_none_iff_exists'.1 hu0
   refine .inr fun e => ?_
   have h1 := hlo u hu g hg2
   have h2 := (World.ownsRow.lt hp g (by rw [← e]; exact hg2)).1
   omega
 ·simp only [pivS, hL, List.map_append, List.map_cons, List.map_nil]
  unfold OwnI
  rw [show natI (s.piv.map (·.2) ++ [k]) = natI (s.piv.map (·.2)) ++ [(k : Int)] from by simp [natI], ints_append, List.length_append, show (natI (s.piv.map (·.2))).length = j from by simp [natI, hL]]
  exact hown
 ·exact (hB.alloc (by omega) _).grown hg (by simp; omega) (fun q hq => by have := (World.ownsRow.lt hp q hq).1; omega)
theorem reduce_any (rs : List (List Int)) (n m cols base : Nat) (v : Value) (vs : List Value) (w : World) (h : OwnMv w base v rs vs) (hok : okM rs n m) (hn : n ≤ 1000) (hm : m ≤ 1000) (hc : cols ≤ m) (hbw : base ≤ w.heap.size) :
  Calls Tryd.prog 126 #[v, .int .i64 cols] w fun e w' => ∃ p, e = .returned p ∧ RInv w w' base v p (solveS rs (List.range cols).reverse false) n m := by
 obtain ⟨i0, hi, hz0, hz1, hz2⟩ := info_parts infoI
 obtain ⟨A, c, rfl⟩ := own_shape h.outer
 rw [hok.1] at h ⊢
 have h0 : RInv w w base (.slice A n c) (.slice none 0 0) (redS rs cols cols) n m := by
  have e : redS rs cols cols = ⟨rs, [], 1, false⟩ := by unfold redS; rw [Nat.sub_self]; rfl
  rw [e]
  exact ⟨hok, Nat.zero_le _, ⟨vs, by simpa using h, fun u hu g hg => (h.ge u hu g hg).2⟩, OwnI_nil _ _, Below.refl _ _⟩
 replace h0 := Lib.hid h0
 clear h hok
 go_enter Tryd.func126, Tryd.ntmps126
 go_wp2
 go_loopw [5, 6, 7, 8, 9, 10, 11, 12, 13, 14] (fun p cc _ _ _ _ _ _ _ _ wr => ∃ (q : Nat) (c' : Int), q ≤ cols ∧ c' = (q : Int) - 1 ∧ cc = .int .i64 c' ∧ Hid (RInv w wr base (.slice A n c) p (redS rs cols q) n m)) (fun _ cc _ _ _ _ _ _ _ _ _ => (intOf cc + 1).toNat)
 case atStart => exact ⟨cols, _, Nat.le_refl _, rfl, rfl, h0⟩
 case round =>
  obtain ⟨q, c', hq, hc', rfl, hI⟩ := hrel
  cases q with
  | zero =>
   have : c' = -1 := by omega
   subst this
   clear hc'
   go_wp2
   go_ret
   exact ⟨_, rfl, by rw [← redS_end]; exact hI.out⟩
  | succ k =>
   obtain rfl : c' = (k : Int) := by omega
   clear hc'
   have hst := Lib.hid (redS_step rs (cols := cols) (k := k) (by omega))
   generalize hS : redS rs cols (k + 1) = s at hst hI
   clear hS
   obtain ⟨vs, hO, hlo⟩ := hI.out.mem
   obtain ⟨Ap, cp, rfl⟩ := own_shape hI.out.piv
   have hpl : (natI (s.piv.map (·.2))).length = s.piv.length := by simp [natI]
   rw [hpl] at hI ⊢
   have hpv := Lib.hid hI.out.piv
   have hok := Lib.hid hI.out.ok
   have hfew := hI.out.few
   have hB := Lib.hid hI.out.below
   generalize hL : s.piv.length = L at *
   replace hL := Lib.hid hL
   replace hpl := Lib.hid hpl
   have hvl : vs.length = n := by rw [hO.len, hok.out.1]
   have k0 : (0 : Int) ≤ (k : Int) := by omega
   have hkm : k < m := by omega
   replace hO := Lib.hid hO
   replace hlo := Lib.hid hlo
   have hrow : Hid (∀ x, x < n → ∃ g gx cx, A = some ⟨g, 0, none⟩ ∧ base ≤ g ∧ vs[x]? = some (.slice (some ⟨gx, 0, none⟩) m cx) ∧ wr.cell? ⟨g, x, none⟩ = some (.slice (some ⟨gx, 0, none⟩) m cx) ∧ wr.frozen? ⟨g, x, none⟩ = false ∧ wr.cell? ⟨gx, k, none⟩ = some (.int .i64 (gM s.rows x k))) := Lib.hid (fun x hx => by
    have hr : s.rows[x]? = some (s.rows.getD x []) := by rw [List.getD_eq_getElem?_getD, List.getElem?_eq_getElem (by rw [hok.out.1]; exact hx)]; rfl
    have hu : vs[x]? = some vs[x] := List.getElem?_eq_getElem (by omega)
    obtain ⟨g, c1, e, hb, -, hcell, hf⟩ := hO.out.at_ hr hu
    obtain ⟨gx, cx, e2, -, -, hc2, -⟩ := hO.out.num hr hu (k := k) (by rw [hok.out.row hx]; exact hkm)
    simp only [Value.slice.injEq] at e
    obtain ⟨rfl, -, -⟩ := e
    rw [hok.out.row hx] at e2
    rw [e2] at hu hcell
    exact ⟨g, gx, cx, rfl, hb, hu, hcell, hf, hc2⟩)
   go_wp2
   go_loop [7, 8] (fun at_ ii => ∃ (j : Nat) (c' z : Int), L ≤ j ∧ j ≤ n ∧ c' = (j : Int) - 1 ∧ ii = .int .i64 c' ∧ at_ = .int .i64 z ∧ Hid (seen s.rows k n j z) ∧ -1 ≤ z ∧ z < n) (fun _ ii => (intOf ii + 1).toNat)
   case atStart => exact ⟨n, _, -1, by omega, Nat.le_refl _, rfl, rfl, rfl, Lib.hid (.inl ⟨rfl, fun x h1 h2 => by omega⟩), by omega, by omega⟩
   case round =>
    obtain ⟨j, c', z, hj1, hj2, hc', rfl, rfl, hz, hzl, hzn⟩ := hrel
    by_cases hjL : L < j
    ·obtain ⟨x, rfl⟩ : ∃ x, j = x + 1 := ⟨j - 1, by omega⟩
     obtain rfl : c' = (x : Int) := by omega
     obtain ⟨g, gx, cx, eA, -, -, hcg, -, hcx⟩ := hrow.out x (by omega)
     subst eA
     have x1 : (x : Int) < (n : Int) := by omega
     have x0 : (0 : Int) ≤ (x : Int) := by omega
     have xL : (L : Int) ≤ (x : Int) := by omega
     have km : (k : Int) < (m : Int) := by omega
     clear hc'
     by_cases hg : gM s.rows x k = 0
     ·have hz2 : Hid (seen s.rows k n x z) := Lib.hid (by
       rcases hz.out with ⟨e, h2⟩ | ⟨a, e, h1, h2, h3, h4⟩
       ·exact .inl ⟨e, fun y h3 h4 => by
         by_cases e2 : y = x
         ·rw [e2]; exact hg
         ·exact h2 y (by omega) h4⟩
       ·exact .inr ⟨a, e, by omega, h2, h3, fun y h5 h6 => by
         by_cases e2 : y = x
         ·rw [e2]; exact hg
         ·exact h4 y (by omega) h6⟩)
      rw [hg] at hcx
      replace hg := Lib.hid hg
      go_wp2
      go_round
      case rel => exact ⟨x, _, z, by omega, by omega, rfl, by go_num, rfl, hz2, hzl, hzn⟩
      case measure => simp [intOf] <;> omega
     ·have hz2 : Hid (seen s.rows k n x x) := Lib.hid (.inr ⟨x, rfl, Nat.le_refl _, by omega, hg, fun y h5 h6 => by omega⟩)
      have hne : (gM s.rows x k != 0) = true := by rw [bne_iff_ne]; exact hg
      replace hg := Lib.hid hg
      generalize gM s.rows x k = y at hcx hne
      go_wp2
      go_round
      case rel => exact ⟨x, _, x, by omega, by omega, rfl, by go_num, rfl, hz2, by omega, by omega⟩
      case measure => simp [intOf] <;> omega
    ·obtain rfl : j = L := by omega
     have hcl : ¬ (j : Int) ≤ c' := by omega
     rcases hz.out with ⟨rfl, hzz⟩ | ⟨a, rfl, ha1, ha2, ha3, ha4⟩
     ·have hfp : Hid (redS rs cols k = s) := Lib.hid (by rw [hst.out, stepS, hok.out.1, hL.out, findP_none (fun x h1 h2 => hzz x h1 (by omega))])
      replace hzz := Lib.hid hzz
      clear hc'
      go_wp2
      go_roundw
      case rel => exact ⟨k, _, by omega, rfl, by go_num, by rw [hfp.out]; exact hI⟩
      case measure => simp [intOf] <;> omega
     ·have hfp : Hid (redS rs cols k = pivS s k a) := Lib.hid (by rw [hst.out, stepS, hok.out.1, hL.out, findP_some ha1 (by omega) ha4 ha3])
      obtain ⟨g, ga, ca, eA, hgb, hva, hca, hfa, -⟩ := hrow.out a ha2
      obtain ⟨g2, gL, cL, eA2, -, hvL, hcL, hfL, -⟩ := hrow.out j (by omega)
      subst eA
      simp only [Option.some.injEq, Addr.mk.injEq, and_true] at eA2
      subst eA2
      replace ha3 := Lib.hid ha3
      replace ha4 := Lib.hid ha4
      have hjn : j < n := by omega
      have a1 : (a : Int) < (n : Int) := by omega
      have a0 : (0 : Int) ≤ (a : Int) := by omega
      have j1 : (j : Int) < (n : Int) := by omega
      have j0 : (0 : Int) ≤ (j : Int) := by omega
      obtain ⟨vs1, hO1, hvj, hsub⟩ := swap_both (hO.out.kept (Below.refl wr.heap.size wr).drew) (by rw [hok.out.1]; exact ha2) (by rw [hok.out.1]; exact hjn) hva hvL
      have hO1 : OwnMv ((wr.setCell ⟨g, j, none⟩ (.slice (some ⟨ga, 0, none⟩) m ca)).drew.setCell ⟨g, a, none⟩ (.slice (some ⟨gL, 0, none⟩) m cL)) base (.slice (some ⟨g, 0, none⟩) n c) (swapM s.rows a j) vs1 := hO1
      have hlo1 : Hid (∀ u ∈ vs1, ∀ g, u.ownBlock = some g → g < w.heap.size) := Lib.hid (fun u hu => hlo.out u (hsub u hu))
      have hpn := own_ne hpv.out hO.out.outer (by decide)
      have hgr : wr.grownBy ((wr.setCell ⟨g, j, none⟩ (.slice (some ⟨ga, 0, none⟩) m ca)).drew.setCell ⟨g, a, none⟩ (.slice (some ⟨gL, 0, none⟩) m cL)) (some g) :=
       ⟨rfl, rfl, rfl, by simp, fun q _ hq => (Below.heap_setCell _ _ _ _ (fun e => hq (by rw [e]))).trans (Below.heap_setCell _ _ _ _ (fun e => hq (by rw [e])))⟩
      have hpX := Lib.hid (World.ownsRow.kept hpv.out hgr hpn)
      have hBX : Hid (Below base w ((wr.setCell ⟨g, j, none⟩ (.slice (some ⟨ga, 0, none⟩) m ca)).drew.setCell ⟨g, a, none⟩ (.slice (some ⟨gL, 0, none⟩) m cL))) := Lib.hid ((hB.out.drew.setCell (p := ⟨g, j, none⟩) hgb (.slice (some ⟨ga, 0, none⟩) m ca)).setCell (p := ⟨g, a, none⟩) hgb (.slice (some ⟨gL, 0, none⟩) m cL))
      obtain ⟨y, hy⟩ : ∃ y, (wr.setCell ⟨g, j, none⟩ (.slice (some ⟨ga, 0, none⟩) m ca)).drew.cell? ⟨g, a, none⟩ = some y := by
       have h1 := World.isSome_setCells g [Value.slice (some ⟨ga, 0, none⟩) m ca] j wr.drew ⟨g, a, none⟩ (by rw [show wr.drew.cell? ⟨g, a, none⟩ = _ from hca]; rfl)
       exact Option.isSome_iff_exists.1 h1
      have hfy : (wr.setCell ⟨g, j, none⟩ (.slice (some ⟨ga, 0, none⟩) m ca)).drew.frozen? ⟨g, a, none⟩ = false := (World.frozen?_setCells g [Value.slice (some ⟨ga, 0, none⟩) m ca] j wr.drew ⟨g, a, none⟩).trans hfa
      replace hO1 := Lib.hid hO1
      replace hvj := Lib.hid hvj
      clear hva hvL hsub hpn hgr hI hpv hO hlo hB hz hc'
      go_wp2
      refine D_begin (fun _ => True) (fun w' => w'.cell? ⟨g, a, none⟩ = some (.slice (some ⟨ga, 0, none⟩) m ca) ∧ w'.cell? ⟨g, j, none⟩ = some (.slice (some ⟨gL, 0, none⟩) m cL)) 13 (by kernel_rfl) ?_
      change wpAnyD _ _ _ _ _ _ _ _ _ _ wr.drew
      simp only [List.size_toArray, List.length_cons, List.length_nil, Nat.reduceAdd, Array.replicate_succ, Array.replicate_zero, List.push_toArray, List.append_toArray, List.nil_append, List.cons_append]
      have HT : wr.drew.cell? ⟨g, a, none⟩ = some (.slice (some ⟨ga, 0, none⟩) m ca) ∧ wr.drew.cell? ⟨g, j, none⟩ = some (.slice (some ⟨gL, 0, none⟩) m cL) := ⟨hca, hcL⟩
      refine Dt 0 rfl ?_ trivial (fun _ => HT) ?_ ?_
      rotate_left; · intro w1 hw1; go_simp; try with_reducible rfl
      try simp only [Act.put, s_1, s_2, s_3, s_4, s_5, s_6]
      refine Dt 1 rfl ?_ trivial (fun _ => HT) ?_ ?_
      rotate_left; · intro w1 hw1; go_simp; try with_reducible rfl
      try simp only [Act.put, s_1, s_2, s_3, s_4, s_5, s_6]
      refine Dt 2 rfl ?_ trivial (fun _ => HT) ?_ ?_
      rotate_left; · intro w1 hw1; go_simp; try with_reducible rfl
      try simp only [Act.put, s_1, s_2, s_3, s_4, s_5, s_6]
      refine Dt 3 rfl ?_ trivial (fun _ => HT) ?_ ?_
      rotate_left; · intro w1 hw1; go_simp; try with_reducible rfl
      try simp only [Act.put, s_1, s_2, s_3, s_4, s_5, s_6]
      refine Dt 4 rfl ?_ trivial (fun _ => HT) ?_ ?_
      rotate_left; · intro w1 hw1; go_simp; try with_reducible rfl
      try simp only [Act.put, s_1, s_2, s_3, s_4, s_5, s_6]
      refine Dt 5 rfl ?_ trivial (fun _ => HT) ?_ ?_
      rotate_left; · intro w1 hw1; go_simp; try with_reducible rfl
      try simp only [Act.put, s_1, s_2, s_3, s_4, s_5, s_6]
      refine Dt 6 rfl ?_ trivial (fun _ => HT) ?_ ?_
      rotate_left; · intro w1 hw1; go_simp; try with_reducible rfl
      try simp only [Act.put, s_1, s_2, s_3, s_4, s_5, s_6]
      refine Dt 8 rfl ?_ trivial (fun _ => HT) ?_ ?_
      rotate_left; · intro w1 hw1; go_simp; try with_reducible rfl
      try simp only [Act.put, s_1, s_2, s_3, s_4, s_5, s_6]
      refine Dt 9 rfl ?_ trivial (fun _ => HT) ?_ ?_
      rotate_left; · intro w1 hw1; go_simp; try with_reducible rfl
      try simp only [Act.put, s_1, s_2, s_3, s_4, s_5, s_6]
      refine Dt 10 rfl ?_ trivial (fun _ => HT) ?_ ?_
      rotate_left; · intro w1 hw1; go_simp; try with_reducible rfl
      try simp only [Act.put, s_1, s_2, s_3, s_4, s_5, s_6]
      refine D_load (i := 7) (v := ?_) rfl (by kernel_rfl) (by kernel_rfl) (by kernel_rfl) (by kernel_rfl) (by kernel_rfl) (by kernel_rfl) (fun _ _ _ h => h) (Or.inl ⟨by rfl, ?_⟩) trivial HT ?_
      rotate_left; · intro w1 hw1; obtain ⟨-, hw3, hw4⟩ := hw1; go_simp; try with_reducible rfl
      try simp only [Act.put, s_1, s_2, s_3, s_4, s_5, s_6]
      refine D_load (i := 11) (v := ?_) rfl (by kernel_rfl) (by kernel_rfl) (by kernel_rfl) (by kernel_rfl) (by kernel_rfl) (by kernel_rfl) (fun _ _ _ h => h) (Or.inl ⟨by rfl, ?_⟩) trivial HT ?_
      rotate_left; · intro w1 hw1; obtain ⟨-, hw3, hw4⟩ := hw1; go_simp; try with_reducible rfl
      try simp only [Act.put, s_1, s_2, s_3, s_4, s_5, s_6]
      refine Dt 12 rfl ?_ trivial (fun _ => HT) ?_ ?_
      rotate_left; · intro w1 hw1; go_simp; try with_reducible rfl
      try simp only [Act.put, s_1, s_2, s_3, s_4, s_5, s_6]
      have HT2 := HT.2
      have hfL2 : wr.drew.frozen? ⟨g, j, none⟩ = false := hfL
      refine D_one (i := 13) (by kernel_rfl) rfl ?_
      intro K hK
      rw [if_pos (by rfl)]
      go_simp
      refine hK _ _ trivial (fun h => absurd rfl h) ?_
      try simp only [Act.put, s_1, s_2, s_3, s_4, s_5, s_6]
      clear hK K HT HT2 hfL2
      generalize hX1 : (wr.setCell ⟨g, j, none⟩ (.slice (some ⟨ga, 0, none⟩) m ca)).drew = X1 at hO1 hpX hBX hy hfy ⊢
      clear hX1
      refine D_take (i := 14) (v := ?_) rfl (by kernel_rfl) (by kernel_rfl) (by kernel_rfl) (by kernel_rfl) (fun _ _ _ h => h) (Or.inl ⟨by rfl, ?_⟩) trivial (fun h => absurd h (by decide)) ?_
      rotate_left; · intro w1 hw1; go_simp; try with_reducible rfl
      try simp only [Act.put, s_1, s_2, s_3, s_4, s_5, s_6]
      refine D_one (i := 15) (by kernel_rfl) rfl ?_
      intro K hK
      rw [if_pos (by rfl)]
      go_simp
      refine hK _ _ trivial (fun _ h => absurd h (by decide)) ?_
      try simp only [Act.put, s_1, s_2, s_3, s_4, s_5, s_6]
      clear hK K
      refine D_done (by kernel_rfl) ?_ _
      generalize hX2 : X1.setCell ⟨g, a, none⟩ (.slice (some ⟨gL, 0, none⟩) m cL) = X at hO1 hpX hBX ⊢
      clear hX2 hy hfy hca hfa hcL hfL hrow
      have hgm : Hid (gM (swapM s.rows a j) j k = gM s.rows a k) := Lib.hid (by unfold gM; rw [swap_row (by rw [hok.out.1]; exact hjn)])
      have hokR := Lib.hid (okM_swap hok.out ha2 hjn)
      have hR := Lib.hid (rfl : swapM s.rows a j = swapM s.rows a j)
      generalize hRe : swapM s.rows a j = R at hO1 hokR hR
      replace hRe := Lib.hid hRe
      clear hR hgm
      have hrj : Hid (R[j]? = some (R.getD j [])) := Lib.hid (by rw [List.getD_eq_getElem?_getD, List.getElem?_eq_getElem (by rw [hokR.out.1]; exact hjn)]; rfl)
      have hlen : Hid ((R.getD j []).length = m) := Lib.hid (hokR.out.row hjn)
      have hnum := hokR.out.num j k
      obtain ⟨g3, c3, e3, -, -, hcj, -⟩ := hO1.out.at_ hrj.out hvj.out
      simp only [Value.slice.injEq, Option.some.injEq, Addr.mk.injEq, and_true] at e3
      obtain ⟨rfl, -, -⟩ := e3
      obtain ⟨g3, c3, e3, -, -, hcjk, -⟩ := hO1.out.num hrj.out hvj.out (k := k) (by rw [hlen.out]; exact hkm)
      simp only [Value.slice.injEq, Option.some.injEq, Addr.mk.injEq, and_true] at e3
      obtain ⟨rfl, -, -⟩ := e3
      change X.cell? _ = some (.int .i64 (gM R j k)) at hcjk
      have km : (k : Int) < (m : Int) := by omega
      go_wp2_with fail
      refine (refInv_any _ _ hnum.1 hnum.2).mono ?_; rintro e W' ⟨rfl, rfl⟩
      have hib := invN_bd (gM R j k)
      have hown : Hid (ownR R j k = scaleR (R.getD j []) (invN (gM R j k))) := Lib.hid rfl
      generalize invN (gM R j k) = iv at hib hown ⊢
      clear hcj hcjk hnum
      go_wp2
      go_loopw [11] (fun ii wr => ∃ q : Nat, q ≤ m ∧ ii = .int .i64 q ∧ Hid (KeptBut vs1 X wr) ∧ Hid (OwnMv wr base (.slice (some ⟨g, 0, none⟩) n c) (R.set j (scP (R.getD j []) iv q)) vs1)) (fun ii _ => m - (intOf ii).toNat)
      case atStart => exact ⟨0, Nat.zero_le _, rfl, Lib.hid (KeptBut.refl _ _), Lib.hid (by rw [scP_zero, list_set_same hrj.out]; exact hO1.out)⟩
      case round =>
       obtain ⟨q, hq2, rfl, hK, hO⟩ := hrel
       have hrr : (R.set j (scP (R.getD j []) iv q))[j]? = some (scP (R.getD j []) iv q) := by rw [List.getElem?_set_self (by rw [hokR.out.1]; exact hjn)]
       obtain ⟨g3, c3, e3, -, -, hcj, -⟩ := hO.out.at_ hrr hvj.out
       simp only [Value.slice.injEq, Option.some.injEq, Addr.mk.injEq, and_true] at e3
       obtain ⟨rfl, -, -⟩ := e3
       by_cases hlt : q < m
       ·obtain ⟨g', c'', e, _, hlt1, hc1, hf1⟩ := hO.out.num hrr hvj.out (k := q) (by rw [scP_len, hlen.out]; exact hlt)
        rw [scP_len, hlen.out] at e
        simp only [Value.slice.injEq, Option.some.injEq, Addr.mk.injEq, and_true, true_and] at e
        obtain ⟨rfl, rfl⟩ := e
        rw [scP_get _ _ (by rw [hlen.out]; exact hlt)] at hc1
        rename World => wr2
        change World.cell? _ _ = some (.int .i64 (gM R j q)) at hc1
        have hn1 := hokR.out.num j q
        have ⟨m1, m2⟩ := mul_bd hn1.1 hn1.2 hib.1 hib.2
        have hput := hO.out.put hrr hvj.out (k := q) (gM R j q * iv % 65521)
        have e2 : (R.set j (scP (R.getD j []) iv q)).set j ((scP (R.getD j []) iv q).set q (gM R j q * iv % 65521)) = R.set j (scP (R.getD j []) iv (q + 1)) := by
         rw [list_set_set]; congr 1; exact scP_set _ _
        rw [e2] at hput
        replace hput := Lib.hid hput
        clear e2 hrr
        generalize gM R j q = x at hn1 m1 m2 hc1 hput
        have q1 : (q : Int) < (m : Int) := by omega
        have q0 : (0 : Int) ≤ (q : Int) := by omega
        go_wp2
        go_still_tail 16, (by kernel_rfl)
        change wpList _ _ _ _ _ wr2.drew
        go_wp2
        go_roundw
        case rel => exact ⟨q + 1, by omega, by go_num, Lib.hid (hK.out.trans hput.out.2).drew, Lib.hid (hput.out.1.kept (Below.refl _ _).drew)⟩
        case measure => simp [intOf] <;> omega
       ·obtain rfl : m = q := by omega
        have hO' := Lib.hid (show OwnMv _ base (.slice (some ⟨g, 0, none⟩) n c) (clP R j k 0) vs1 from by
         have := hO.out
         rw [clP_zero, hown.out, ← scP_end, hlen.out]; exact this)
        clear hO hrr
        go_wp2
        clear hcj hown hib
        go_loopw [12, 13, 14] (fun ii _ _ wr => ∃ i' : Nat, i' ≤ n ∧ ii = .int .i64 i' ∧ Hid (KeptBut vs1 X wr) ∧ Hid (OwnMv wr base (.slice (some ⟨g, 0, none⟩) n c) (clP R j k i') vs1)) (fun ii _ _ _ => n - (intOf ii).toNat)
        case atStart => exact ⟨0, Nat.zero_le _, rfl, hK, hO'⟩
        case round =>
         obtain ⟨i, hi', rfl, hK, hO⟩ := hrel
         rename World => wr3
         by_cases hin : i < n
         ·obtain ⟨ui, hui⟩ : ∃ u, vs1[i]? = some u := ⟨_, List.getElem?_eq_getElem (by rw [hO.out.len, clP_len, hokR.out.1]; exact hin)⟩
          have i1 : (i : Int) < (n : Int) := by omega
          have i0 : (0 : Int) ≤ (i : Int) := by omega
          by_cases hir : i = j
          ·subst hir
           rw [clP_skip R (.inl rfl)] at hO
           replace hui := Lib.hid hui
           go_wp2
           go_roundw
           case rel => exact ⟨i + 1, by omega, by go_num, hK, hO⟩
           case measure => simp [intOf] <;> omega
          ·obtain ⟨g', c', e, _, _, hcg, _⟩ := hO.out.at_ (clP_get R (by rw [hokR.out.1]; exact hin) hir) hui
           simp only [Value.slice.injEq, Option.some.injEq, Addr.mk.injEq, and_true] at e
           obtain ⟨rfl, -, -⟩ := e
           obtain ⟨g4, c4, rfl, _, _, hcc, _⟩ := hO.out.num (clP_get R (by rw [hokR.out.1]; exact hin) hir) hui (k := k) (by rw [hokR.out.row hin]; exact hkm)
           rw [hokR.out.row hin] at hui hcg
           change wr3.cell? _ = some (.int .i64 (gM R i k)) at hcc
           have hir' : ((i : Int) == (j : Int)) = false := by rw [beq_eq_false_iff_ne]; omega
           by_cases hz : gM R i k = 0
           ·rw [clP_skip R (.inr hz)] at hO
            rw [hz] at hcc
            replace hui := Lib.hid hui
            replace hz := Lib.hid hz
            go_wp2
            go_roundw
            case rel => exact ⟨i + 1, by omega, by go_num, hK, hO⟩
            case measure => simp [intOf] <;> omega
           ·have hz' : ((gM R i k) == 0) = false := by rw [beq_eq_false_iff_ne]; exact hz
            have hzb := hokR.out.num i k
            have hzp : 0 < gM R i k := by omega
            have hset : Hid ((clP R j k i).set i (subR (R.getD i []) (ownR R j k) (65521 - gM R i k)) = clP R j k (i + 1)) := Lib.hid (clP_set R hir hz)
            replace hz := Lib.hid hz
            have hui' := Lib.hid hui
            clear hui
            go_wp2
            obtain ⟨wi, rfl⟩ : ∃ wi : World, wi = wr3 := ⟨_, rfl⟩
            clear hcg hcc
            go_loopw [14] (fun ii wr => ∃ q : Nat, q ≤ m ∧ ii = .int .i64 q ∧ Hid (KeptBut vs1 X wr) ∧ Hid (OwnMv wr base (.slice (some ⟨g, 0, none⟩) n c) ((clP R j k i).set i (sbP (R.getD i []) (ownR R j k) (65521 - gM R i k) q)) vs1)) (fun ii _ => m - (intOf ii).toNat)
            case atStart => exact ⟨0, Nat.zero_le _, rfl, hK, Lib.hid (by rw [sbP_zero, list_set_same (clP_get R (by rw [hokR.out.1]; exact hin) hir)]; exact hO.out)⟩
            case round =>
             obtain ⟨q, hq2, rfl, hK, hO⟩ := hrel
             rename World => wr4
             have hri : ((clP R j k i).set i (sbP (R.getD i []) (ownR R j k) (65521 - gM R i k) q))[i]? = some (sbP (R.getD i []) (ownR R j k) (65521 - gM R i k) q) := List.getElem?_set_self (by rw [clP_len, hokR.out.1]; exact hin)
             obtain ⟨g5, c5, e5, -, -, hcg, -⟩ := hO.out.at_ hri hui'.out
             simp only [Value.slice.injEq, Option.some.injEq, Addr.mk.injEq, and_true] at e5
             obtain ⟨rfl, -, -⟩ := e5
             by_cases hlt : q < m
             ·have hro : ((clP R j k i).set i (sbP (R.getD i []) (ownR R j k) (65521 - gM R i k) q))[j]? = some (ownR R j k) := by rw [List.getElem?_set_ne hir]; exact clP_own R (by rw [hokR.out.1]; exact hjn)
              obtain ⟨g5, c5, e5, -, -, hcj, -⟩ := hO.out.at_ hro hvj.out
              simp only [Value.slice.injEq, Option.some.injEq, Addr.mk.injEq, and_true] at e5
              obtain ⟨rfl, -, -⟩ := e5
              obtain ⟨g', c', e, -, -, hx, hf⟩ := hO.out.num hri hui'.out (k := q) (by rw [sbP_len, hokR.out.row hin]; exact hlt)
              simp only [Value.slice.injEq, Option.some.injEq, Addr.mk.injEq, and_true] at e
              obtain ⟨rfl, -, -⟩ := e
              rw [sbP_get _ _ _ (by rw [hokR.out.row hin]; exact hlt)] at hx
              change wr4.cell? _ = some (.int .i64 (gM R i q)) at hx
              obtain ⟨g', c', e, -, -, hy, -⟩ := hO.out.num hro hvj.out (k := q) (by rw [ownR_len, hlen.out]; exact hlt)
              simp only [Value.slice.injEq, Option.some.injEq, Addr.mk.injEq, and_true] at e
              obtain ⟨rfl, -, -⟩ := e
              have hput := hO.out.put hri hui'.out (k := q) ((gM R i q + (65521 - gM R i k) * (ownR R j k).getD q 0) % 65521)
              rw [list_set_set, show (sbP (R.getD i []) (ownR R j k) (65521 - gM R i k) q).set q ((gM R i q + (65521 - gM R i k) * (ownR R j k).getD q 0) % 65521) = sbP (R.getD i []) (ownR R j k) (65521 - gM R i k) (q + 1) from sbP_set _ _ _] at hput
              replace hput := Lib.hid hput
              have hyb := ownR_bd R j k q
              have hxb := hokR.out.num i q
              have ⟨m1, m2⟩ := mul_bd (a := 65521 - gM R i k) (b := (ownR R j k).getD q 0) (by omega) (by omega) hyb.1 hyb.2
              clear hri hro
              generalize (ownR R j k).getD q 0 = y at hy hyb m1 m2 hput
              generalize gM R i q = x at hx hxb hput
              have q1 : (q : Int) < (m : Int) := by omega
              have q0 : (0 : Int) ≤ (q : Int) := by omega
              go_wp2
              go_still_tail 25, (by kernel_rfl)
              change wpList _ _ _ _ _ wr4.drew
              go_wp2
              go_roundw
              case rel => exact ⟨q + 1, by omega, by go_num, Lib.hid (hK.out.trans hput.out.2).drew, Lib.hid (hput.out.1.kept (Below.refl _ _).drew)⟩
              case measure => simp [intOf] <;> omega
             ·obtain rfl : m = q := by omega
              go_wp2
              go_roundw
              case rel => exact ⟨i + 1, by omega, by go_num, hK, Lib.hid (by have := hO.out; rw [show sbP (R.getD i []) (ownR R j k) (65521 - gM R i k) m = subR (R.getD i []) (ownR R j k) (65521 - gM R i k) from by rw [← sbP_end, hokR.out.row hin], hset.out] at this; exact this)⟩
              case measure => simp [intOf] <;> omega
         ·obtain rfl : n = i := by omega
          have hOe := Lib.hid (show OwnMv wr3 base (.slice (some ⟨g, 0, none⟩) n c) (clearM (swapM s.rows a j) j k) vs1 from by
           have := hO.out
           rw [show clP R j k n = clearM R j k from by rw [← clP_end, hokR.out.1], ← hRe.out] at this
           exact this)
          have hBe := Lib.hid (hBX.out.trans (hK.out.below (by have := hBX.out.size; omega) (fun u hu q hq => (hO1.out.ge u hu q hq).1)))
          have hpe : Hid (OwnI wr3 w.heap.size (.slice Ap j cp) (natI (s.piv.map (·.2)))) := Lib.hid (own_of_block hpX.out (fun g' e => hK.out.block g' (hpX.out.lt g' e).2 (fun u hu e2 => by
           have h1 := hlo1.out u hu g' e2
           have h2 := (hpX.out.lt g' e).1
           omega)))
          have hpa : Hid ((wr3.alloc (.cells #[.int .i64 k] 3)).ownsRow w.heap.size 3 1 (.slice Ap j cp) j (ints (natI (s.piv.map (·.2))))) := Lib.hid (by
           have := (hpe.out.below ((Below.refl wr3.heap.size wr3).alloc (Nat.le_refl _) (.cells #[.int .i64 k] 3)))
           unfold OwnI at this
           rwa [hpl.out] at this)
          have hwz : Hid (w.heap.size ≤ (wr3.alloc (.cells #[.int .i64 k] 3)).heap.size) := Lib.hid (by have := hBe.out.size; simp; omega)
          clear hO
          go_wp2_with (at_builtin; (refine wpList_append_own_at _ rfl _ _ 22 rfl w.heap.size 3 i0 _ 1 8 Tryd.underlying22 hi hz0 hz1 hz2 rfl (by omega) (.slice Ap j cp) j (ints (natI (s.piv.map (·.2)))) rfl hpa.out ⟨wr3.heap.size, 0, none⟩ 1 1 [.int .i64 k] rfl rfl (cell_one_new wr3 _ _) (by simp [Value.oneCell']) (by unfold maxLen; omega) (by omega) hwz.out ?_); intro v' w1 hown1 hgrow _ _)
          have hfin := reduce_fin (k := k) hok.out hL.out hjn ha2 hOe.out hlo1.out hpe.out hBe.out hbw hown1 hgrow
          rw [← hfp.out] at hfin
          replace hfin := Lib.hid hfin
          clear hown1 hgrow
          go_wp2
          go_roundw
          case rel => exact ⟨k, _, by omega, rfl, by go_num, hfin⟩
          case measure => simp [intOf] <;> omega
end Go.Proofs.YtlpldfocljnpnaaDoor
namespace Go.Proofs.YtlpldfocljnpnaaDoor
open Go.RowKit
theorem run_append_rd (W : World) (ty : TypeId) (base : Nat) (v u : Value) (n : Nat) (xs : List Value) (ys : List Int) (hown : W.ownsRow base 3 1 v n xs) (hrd : RdI W u ys) (hb : n + ys.length ≤ 1000000) (hbase : base ≤ W.heap.size) :
  ∃ v' W', (Builtin.append_ #[22, 22] ty #[v, u]).run Tryd.prog W = .ok v' W' ∧ W'.ownsRow base 3 1 v' (n + ys.length) (xs ++ ints ys) ∧ W.grownBy W' v.ownBlock ∧ (v'.ownBlock = v.ownBlock ∨ v'.ownBlock = some W.heap.size) := by
 obtain ⟨i0, hi, hz0, hz1, hz2⟩ := info_parts infoI
 obtain ⟨A, c, rfl, h1, h2, h3⟩ := hrd
 rw [ints_len] at *
 cases A with
 | none =>
  have hx : ys = [] := by
   rcases Nat.eq_zero_or_pos ys.length with e | e
   ·exact List.eq_nil_of_length_eq_zero e
   ·obtain ⟨b, off, e2, _⟩ := h3 e; cases e2
  subst hx
  exact ⟨v, W, run_append_of_nil (P := Tryd.prog) W base 22 ty 3 i0 1 Tryd.underlying22 hi v n xs hown c, by simpa [ints] using hown, World.grownBy.refl W _, .inl rfl⟩
 | some ad =>
  have hnews : ∀ j u, (ints ys)[j]? = some u → W.cell? (ad.add j) = some u := fun j u hj => by
   have hj' := (List.getElem?_eq_some_iff.1 hj).1
   rw [ints_len] at hj'
   obtain ⟨b, off, e, h4⟩ := h3 (by omega)
   cases e
   rw [add_off]
   exact h4 j u hj
  obtain ⟨v', W', hrun, h5, h6, _, h7⟩ := run_append_own_at (P := Tryd.prog) W base 22 ty 3 i0 _ 1 8 Tryd.underlying22 hi hz0 hz1 hz2 rfl (by omega) v n xs hown ad ys.length c (ints ys) (by rw [ints_len, Nat.mul_one]) hnews (fun u hu => by obtain ⟨x, _, rfl⟩ := List.mem_map.1 hu; rfl) (by unfold maxLen; omega) (by omega) hbase
  exact ⟨v', W', hrun, h5, h6, h7⟩
theorem step_append_rd {ops : Array Oper} {o : Oper} {a : Act} {K : Act → World → Prop} {Q : Exit → Act → World → Prop} {E : Prop} {w : World} (hgd : o.guard = none) (s x : Operand)
  (ho : o.op = .call { callee := .builtin .append, args := #[s, x], argTypes := #[22, 22] }) (base : Nat) (v u : Value) (n : Nat) (xs : List Value) (ys : List Int) (hs : a.eval s = v) (hx : a.eval x = u)
  (hown : w.ownsRow base 3 1 v n xs) (hrd : RdI w u ys) (hb : n + ys.length ≤ 1000000) (hbase : base ≤ w.heap.size)
  (h : ∀ v' w', w'.ownsRow base 3 1 v' (n + ys.length) (xs ++ ints ys) → w.grownBy w' v.ownBlock → (v'.ownBlock = v.ownBlock ∨ v'.ownBlock = some w.heap.size) → K (a.put o.dst v') w') :
  if Region.wanted o (yielded ops a.tmps) = true then Oper.wp Tryd.prog o a w K Q else E := by
 have hw : Region.wanted o (yielded ops a.tmps) = true := by simp [Region.wanted, hgd]
 rw [if_pos hw]
 obtain ⟨v', w', hrun, h2, h3, h4⟩ := run_append_rd w o.type base v u n xs ys hown hrd hb hbase
 unfold Oper.wp execOp
 simp only [ho, resolve, invoke, builtin, Sem.run_bind, Sem.run_pure, Result.andThen_ok, List.map_toArray, List.map_cons, List.map_nil, hs, hx, hrun]
 exact h v' w' h2 h3 h4
theorem wpList_append_rd {ops : Array Oper} {rest : List Oper} {o : Oper} {a : Act} {Q : Exit → Act → World → Prop} {w : World} (hgd : o.guard = none) (s x : Operand)
  (ho : o.op = .call { callee := .builtin .append, args := #[s, x], argTypes := #[22, 22] }) (base : Nat) (v u : Value) (n : Nat) (xs : List Value) (ys : List Int) (hs : a.eval s = v) (hx : a.eval x = u)
  (hown : w.ownsRow base 3 1 v n xs) (hrd : RdI w u ys) (hb : n + ys.length ≤ 1000000) (hbase : base ≤ w.heap.size)
  (h : ∀ v' w', w'.ownsRow base 3 1 v' (n + ys.length) (xs ++ ints ys) → w.grownBy w' v.ownBlock → (v'.ownBlock = v.ownBlock ∨ v'.ownBlock = some w.heap.size) → wpList Tryd.prog ops Q rest (a.put o.dst v') w') : wpList Tryd.prog ops Q (o :: rest) a w :=
 wpList_plain hgd fun _ hK => by
  obtain ⟨v', w', hrun, h2, h3, h4⟩ := run_append_rd w o.type base v u n xs ys hown hrd hb hbase
  unfold Oper.wp execOp
  simp only [ho, resolve, invoke, builtin, Sem.run_bind, Sem.run_pure, Result.andThen_ok, List.map_toArray, List.map_cons, List.map_nil, hs, hx, hrun]
  exact hK _ _ (h v' w' h2 h3 h4)
end Go.Proofs.YtlpldfocljnpnaaDoor
namespace Go.Proofs.YtlpldfocljnpnaaDoor
open Go.RowKit
theorem mat_get? (f : Nat → Nat → Int) {n m i : Nat} (hi : i < n) : (mat f n m)[i]? = some ((List.range m).map (f i)) := by simp [mat, List.getElem?_range hi]
theorem mat_congr {f g : Nat → Nat → Int} {n m : Nat} (h : ∀ i k, i < n → k < m → f i k = g i k) : mat f n m = mat g n m := by
 apply List.map_congr_left; intro i hi
 apply List.map_congr_left; intro k hk
 exact h i k (by simpa using hi) (by simpa using hk)
theorem mat_put (f g : Nat → Nat → Int) {n m i k : Nat} (x : Int) (h : ∀ a b, a < n → b < m → (if a = i ∧ b = k then x else f a b) = g a b) :
  (mat f n m).set i (((List.range m).map (f i)).set k x) = mat g n m := by
 apply List.ext_getElem (by simp [mat])
 intro a h1 h2
 have ha : a < n := by simpa [mat] using h2
 rw [List.getElem_set]
 by_cases e : i = a
 ·subst e
  rw [if_pos rfl]
  simp only [mat, List.getElem_map, List.getElem_range]
  apply List.ext_getElem (by simp)
  intro b h3 h4
  have hb : b < m := by simpa using h4
  rw [List.getElem_set]
  simp only [List.getElem_map, List.getElem_range]
  rw [← h i b ha hb]
  by_cases e2 : k = b
  ·subst e2; rw [if_pos rfl, if_pos ⟨rfl, rfl⟩]
  ·rw [if_neg e2, if_neg (fun e => e2 e.2.symm)]
 ·rw [if_neg e]
  simp only [mat, List.getElem_map, List.getElem_range]
  apply List.map_congr_left; intro b hb
  rw [← h a b ha (by simpa using hb), if_neg (fun e2 => e e2.1.symm)]
theorem zeros_snoc (m k : Nat) : mat (fun _ _ => 0) k m ++ [List.replicate m 0] = mat (fun _ _ => 0) (k + 1) m := by
 rw [mat, mat, List.range_succ, List.map_append]
 congr 1
 rw [List.map_singleton, List.cons.injEq]
 refine ⟨?_, rfl⟩
 apply List.ext_getElem (by simp)
 intro a h1 h2
 simp
end Go.Proofs.YtlpldfocljnpnaaDoor
