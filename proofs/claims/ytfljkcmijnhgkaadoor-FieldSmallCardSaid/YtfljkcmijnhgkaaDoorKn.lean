/- Literals in memory; what a walk holds of memory, in one bag; the examples of awake, each by its contract. awake: the chapter's examples: its contract. -/
import Derived.Test.YtfljkcmijnhgkaaDoorKm
import Derived.Test.YtfljkcmijnhgkaaDoorKi
import Derived.Test.YtfljkcmijnhgkaaDoorKg
import Derived.Test.YtfljkcmijnhgkaaDoorKh
namespace Go.Proofs.YtfljkcmijnhgkaaDoor
open Go.RowKit Go.Shelf
def allocs (w : World) (os : List Obj) : World := os.foldl World.alloc w
theorem allocs_below (w : World) (os : List Obj) : Below w.heap.size w (allocs w os) := by
  induction os generalizing w with
  | nil => exact Below.refl _ _
  | cons o os ih => exact ((Below.refl _ w).alloc (Nat.le_refl _) o).trans ((ih (w.alloc o)).mono (by simp))
theorem allocs_get (w : World) (os : List Obj) (i : Nat) (o : Obj) (h : os[i]? = some o) : (allocs w os).heap[w.heap.size + i]? = some o := by
  induction os generalizing w i with
  | nil => cases h
  | cons p os ih =>
    cases i with
    | zero =>
      have : p = o := by simpa using h
      subst this
      exact ((allocs_below (w.alloc p) os).block w.heap.size (by simp)).trans (heap_alloc_new w p)
    | succ i =>
      have h2 := ih (w.alloc p) i (by simpa using h)
      rw [World.size_alloc] at h2
      rw [show w.heap.size + (i + 1) = w.heap.size + 1 + i from by omega]
      exact h2
theorem RdI_lit {W : World} {b n : Nat} {xs : List Int} (hb : W.heap[b]? = some (.cells (ints xs).toArray 3 (0, 0))) (hn : xs.length = n) (hl : n ≤ 1000) : RdI W (.slice (some ⟨b, 0, none⟩) n n) xs := by
  refine ⟨some ⟨b, 0, none⟩, n, by rw [ints_len, hn], by rw [ints_len]; omega, by rw [ints_len]; omega, fun _ => ⟨b, 0, rfl, fun j u hj => ?_⟩⟩
  rw [Nat.zero_add]
  unfold World.cell?
  rw [hb]
  show (ints xs).toArray[j]? = _
  rw [List.getElem?_toArray, hj]
theorem RdM_lit2 {W : World} {b : Nat} {u0 u1 : Value} {r0 r1 : List Int} (hb : W.heap[b]? = some (.cells #[u0, u1] 23 (0, 0))) (h0 : RdI W u0 r0) (h1 : RdI W u1 r1) : RdM W (.slice (some ⟨b, 0, none⟩) 2 2) [r0, r1] := by
  refine ⟨[u0, u1], ⟨some ⟨b, 0, none⟩, 2, rfl, Nat.le_refl _, by simp, fun _ => ⟨b, 0, rfl, fun j u hj => ?_⟩⟩, rfl, fun j r u hr hu => ?_⟩
  · rw [Nat.zero_add]
    unfold World.cell?
    rw [hb]
    show (#[u0, u1] : Array Value)[j]? = _
    rw [← hj]; simp
  · match j, hr, hu with
    | 0, hr, hu => cases hr; cases hu; exact h0
    | 1, hr, hu => cases hr; cases hu; exact h1
/-- What is read of memory. -/
def Bag (W : World) (ms : List (Value × List (List Int))) (is : List (Value × List Int)) (bs : List (Nat × Obj)) : Prop := (∀ p ∈ ms, RdM W p.1 p.2) ∧ (∀ p ∈ is, RdI W p.1 p.2) ∧ ∀ p ∈ bs, W.heap[p.1]? = some p.2
theorem Bag.below {W W' : World} {ms : List (Value × List (List Int))} {is : List (Value × List Int)} {bs : List (Nat × Obj)} (h : Bag W ms is bs) (hB : Below W.heap.size W W') : Bag W' ms is bs :=
  ⟨fun p hp => (h.1 p hp).below hB (Nat.le_refl _), fun p hp => (h.2.1 p hp).below hB (Nat.le_refl _), fun p hp => (hB.block p.1 (Array.getElem?_eq_some_iff.1 (h.2.2 p hp)).1).trans (h.2.2 p hp)⟩
theorem Bag.nil (W : World) : Bag W [] [] [] := ⟨fun _ h => (by cases h), fun _ h => (by cases h), fun _ h => (by cases h)⟩
theorem Bag.addM {W : World} {ms : List (Value × List (List Int))} {is : List (Value × List Int)} {bs : List (Nat × Obj)} (h : Bag W ms is bs) {v : Value} {rs : List (List Int)} (hv : RdM W v rs) : Bag W ((v, rs) :: ms) is bs :=
  ⟨fun p hp => (List.mem_cons.1 hp).elim (fun e => by rw [e]; exact hv) (h.1 p), h.2⟩
theorem Bag.addI {W : World} {ms : List (Value × List (List Int))} {is : List (Value × List Int)} {bs : List (Nat × Obj)} (h : Bag W ms is bs) {v : Value} {xs : List Int} (hv : RdI W v xs) : Bag W ms ((v, xs) :: is) bs :=
  ⟨h.1, fun p hp => (List.mem_cons.1 hp).elim (fun e => by rw [e]; exact hv) (h.2.1 p), h.2.2⟩
theorem Bag.addB {W : World} {ms : List (Value × List (List Int))} {is : List (Value × List Int)} {bs : List (Nat × Obj)} (h : Bag W ms is bs) {b : Nat} {o : Obj} (hv : W.heap[b]? = some o) : Bag W ms is ((b, o) :: bs) :=
  ⟨h.1, h.2.1, fun p hp => (List.mem_cons.1 hp).elim (fun e => by rw [e]; exact hv) (h.2.2 p)⟩

def aA : List (List Int) := [[1, 1], [1, 0]]
def fibR : Rule := ⟨[1, 1], [0, 1]⟩
def oneR : Rule := ⟨[1], [1]⟩
def twoR : Rule := ⟨[2], [1]⟩
def othR : Rule := ⟨[1, 2], [1, 2]⟩
def folR : Rule := ⟨[2, 65520], [1, 2]⟩
theorem e_pow : powR aA 5 = (0, [[8, 5], [5, 3]]) := by kernel_rfl
theorem e_det : detR aA = (65520, 0) := by kernel_rfl
theorem e_inv : invMR aA = (0, [[0, 1], [1, 65520]]) := by kernel_rfl
theorem e_char : charR aA = (0, [1, 1]) := by kernel_rfl
theorem e_sol : solR [[1, 1], [2, 2]] [3, 6] = (0, [0, 3]) := by kernel_rfl
theorem e_term : termR fibR 25 = (9504, 0) := by kernel_rfl
theorem e_least : leastR [0, 1, 1, 2, 3, 5, 8, 13] = (fibR, 0) := by kernel_rfl
theorem e_fold : joinR 2 oneR oneR = (folR, 0) := by kernel_rfl
theorem e_apart : apartR twoR othR = (0, 6) := by kernel_rfl
theorem aw_power (v : Value) (W : World) (h : RdM W v aA) : Calls Tryd.prog 30 #[v, .int .i64 5] W fun e w' => ∃ m, e = .returned (.tuple #[m, .int .i64 0]) ∧ RdM w' m [[8, 5], [5, 3]] ∧ Below W.heap.size W w' := by
  refine (Power_any aA 5 v W h (by decide)).mono ?_
  rintro e w' ⟨m, rfl, hO, hB⟩
  rw [e_pow] at hO ⊢
  exact ⟨m, rfl, hO.rd (by decide) (by decide), hB⟩
theorem aw_det (v : Value) (W : World) (h : RdM W v aA) : Calls Tryd.prog 28 #[v] W fun e w' => e = .returned (.tuple #[.int .i64 65520, .int .i64 0]) ∧ Below W.heap.size W w' := by
  refine (Det_any aA v W h).mono ?_
  rintro e w' ⟨rfl, hB⟩
  rw [e_det]
  exact ⟨rfl, hB⟩
theorem aw_inverse (v : Value) (W : World) (h : RdM W v aA) : Calls Tryd.prog 54 #[v] W fun e w' => ∃ m, e = .returned (.tuple #[m, .int .i64 0]) ∧ RdM w' m [[0, 1], [1, 65520]] ∧ Below W.heap.size W w' := by
  refine (Inverse_any aA v W h).mono ?_
  rintro e w' ⟨m, rfl, hR, -, hB⟩
  rw [e_inv] at hR ⊢
  exact ⟨m, rfl, hR, hB⟩
theorem aw_char (v : Value) (W : World) (h : RdM W v aA) : Calls Tryd.prog 27 #[v] W fun e w' => ∃ m, e = .returned (.tuple #[m, .int .i64 0]) ∧ RdI w' m [1, 1] ∧ Below W.heap.size W w' := by
  refine (Char_any aA v W h).mono ?_
  rintro e w' ⟨m, rfl, hO, hB⟩
  rw [e_char] at hO ⊢
  exact ⟨m, rfl, hO.rd (by decide), hB⟩
theorem aw_solve (v u : Value) (W : World) (h : RdM W v [[1, 1], [2, 2]]) (h2 : RdI W u [3, 6]) : Calls Tryd.prog 22 #[v, u] W fun e w' => ∃ m, e = .returned (.tuple #[m, .int .i64 0]) ∧ RdI w' m [0, 3] ∧ Below W.heap.size W w' := by
  refine (Solve_any _ _ v u W h h2).mono ?_
  rintro e w' ⟨m, rfl, hO, hB⟩
  rw [e_sol] at hO ⊢
  exact ⟨m, rfl, hO.rd (by decide), hB⟩
theorem aw_term (v : Value) (W : World) (h : RdR W v fibR) : Calls Tryd.prog 59 #[v, .int .i64 25] W fun e w' => e = .returned (.tuple #[.int .i64 9504, .int .i64 0]) ∧ Below W.heap.size W w' := by
  refine (Term_any fibR 25 v W (by decide) h).mono ?_
  rintro e w' ⟨rfl, hB⟩
  rw [e_term]
  exact ⟨rfl, hB⟩
/-- A rule told by its slices. -/
def RuleAt (r : Rule) (w' : World) (v : Value) : Prop := ∃ A c B d, v = .agg #[.slice A r.by_.length c, .slice B r.start.length d] ∧ RdI w' (.slice A r.by_.length c) r.by_ ∧ RdI w' (.slice B r.start.length d) r.start
theorem OwnR.at_ {w : World} {base : Nat} {v : Value} {r : Rule} (h : OwnR w base v r) (h1 : r.by_.length ≤ 1000) (h2 : r.start.length ≤ 1000) : RuleAt r w v := by
  obtain ⟨a, b, rfl, oa, ob⟩ := h
  have ha := oa
  have hb := ob
  unfold OwnI at ha hb
  obtain ⟨A, c, rfl⟩ := own_form ha
  obtain ⟨B, d, rfl⟩ := own_form hb
  exact ⟨A, c, B, d, rfl, oa.rd (by omega), ob.rd (by omega)⟩
theorem aw_least (v : Value) (W : World) (h : RdI W v [0, 1, 1, 2, 3, 5, 8, 13]) : Calls Tryd.prog 47 #[v] W fun e w' => ∃ m, e = .returned (.tuple #[m, .int .i64 0]) ∧ RuleAt fibR w' m ∧ Below W.heap.size W w' := by
  refine (Least_any _ v W h).mono ?_
  rintro e w' ⟨m, rfl, hO, hB⟩
  rw [e_least] at hO ⊢
  exact ⟨m, rfl, hO.at_ (by decide) (by decide), hB⟩
theorem aw_folded (v u : Value) (W : World) (h : RdR W v oneR) (h2 : RdR W u oneR) (hJ : Joins W) : Calls Tryd.prog 42 #[v, u] W fun e w' => ∃ m, e = .returned (.tuple #[m, .int .i64 0]) ∧ RuleAt folR w' m ∧ Below W.heap.size W w' := by
  refine (Folded_any _ _ v u W h h2 hJ).mono ?_
  rintro e w' ⟨m, rfl, hO, hB⟩
  rw [e_fold] at hO ⊢
  exact ⟨m, rfl, hO.at_ (by decide) (by decide), hB⟩
theorem aw_apart (v u : Value) (W : World) (h : RdR W v twoR) (h2 : RdR W u othR) : Calls Tryd.prog 39 #[v, u] W fun e w' => e = .returned (.tuple #[.int .i64 0, .int .i64 6]) ∧ Below W.heap.size W w' := by
  refine (Apart_any _ _ v u W h h2).mono ?_
  rintro e w' ⟨rfl, hB⟩
  rw [e_apart]
  exact ⟨rfl, hB⟩
theorem aw_norm (W : World) : Calls Tryd.prog 72 #[.int .i64 (-1)] W fun e w' => e = .returned (.int .i64 65520) ∧ W = w' := Norm_any (-1) W (by decide) (by decide)
theorem EqRows_same (xs : List (List Int)) (v u : Value) (W : World) (h : RdM W v xs) (h2 : RdM W u xs) : Calls Tryd.prog 24 #[v, u] W fun e w' => e = .returned (.bool true) ∧ Below W.heap.size W w' := by
  have := EqRows_any xs xs v u W h h2
  rwa [decide_eq_true rfl] at this
theorem Equal_same (xs : List Int) (v u : Value) (W : World) (h : RdI W v xs) (h2 : RdI W u xs) : Calls Tryd.prog 23 #[v, u] W fun e w' => e = .returned (.bool true) ∧ Below W.heap.size W w' := by
  have := Equal_any xs xs v u W h h2
  rwa [decide_eq_true rfl] at this
theorem Same_same (r : Rule) (v u : Value) (W : World) (h : RdR W v r) (h2 : RdR W u r) : Calls Tryd.prog 44 #[v, u] W fun e w' => e = .returned (.bool true) ∧ Below W.heap.size W w' := by
  have := Same_any r r v u W h h2
  rwa [sameR, decide_eq_true rfl, decide_eq_true rfl] at this
end Go.Proofs.YtfljkcmijnhgkaaDoor

namespace Go.Proofs.YtfljkcmijnhgkaaDoor
open Go.RowKit Go.Shelf
set_option linter.unusedSimpArgs false
set_option maxRecDepth 100000 in
set_option maxHeartbeats 6400000 in
theorem awake_any (w : World) (hJ : Joins w) : Calls Tryd.prog 18 #[] w fun e w' => e = .returned (.bool true) ∧ Below w.heap.size w w' := by
  replace hJ := Lib.hid hJ
  obtain ⟨X0, hX0, hBX0, hbag⟩ : ∃ X, ((((((w.alloc (.cells #[.int .i64 1, .int .i64 1] 3)).alloc (.cells #[.int .i64 1, .int .i64 0] 3)).alloc (.cells #[.slice (some ⟨w.heap.size, 0, none⟩) 2 2, .slice (some ⟨w.heap.size + 1, 0, none⟩) 2 2] 23)).alloc (.cells #[.int .i64 1, .int .i64 1] 3)).alloc (.cells #[.int .i64 0, .int .i64 1] 3)).alloc (.cells #[.slice (some ⟨w.heap.size + 1 + 1 + 1, 0, none⟩) 2 2, .slice (some ⟨w.heap.size + 1 + 1 + 1 + 1, 0, none⟩) 2 2] 49)) = X ∧ Hid (Below w.heap.size w X) ∧ Hid (Bag X [(.slice (some ⟨w.heap.size + 1 + 1, 0, none⟩) 2 2, aA)] [(.slice (some ⟨w.heap.size + 1 + 1 + 1 + 1, 0, none⟩) 2 2, [0, 1]), (.slice (some ⟨w.heap.size + 1 + 1 + 1, 0, none⟩) 2 2, [1, 1])] [(w.heap.size + 1 + 1 + 1 + 1 + 1, .cells #[.slice (some ⟨w.heap.size + 1 + 1 + 1, 0, none⟩) 2 2, .slice (some ⟨w.heap.size + 1 + 1 + 1 + 1, 0, none⟩) 2 2] 49 (0, 0))]) := by
    have hg := fun i o h => allocs_get w [.cells #[.int .i64 1, .int .i64 1] 3, .cells #[.int .i64 1, .int .i64 0] 3, .cells #[.slice (some ⟨w.heap.size, 0, none⟩) 2 2, .slice (some ⟨w.heap.size + 1, 0, none⟩) 2 2] 23, .cells #[.int .i64 1, .int .i64 1] 3, .cells #[.int .i64 0, .int .i64 1] 3, .cells #[.slice (some ⟨w.heap.size + 1 + 1 + 1, 0, none⟩) 2 2, .slice (some ⟨w.heap.size + 1 + 1 + 1 + 1, 0, none⟩) 2 2] 49] i o h
    have hlow := allocs_below w [.cells #[.int .i64 1, .int .i64 1] 3, .cells #[.int .i64 1, .int .i64 0] 3, .cells #[.slice (some ⟨w.heap.size, 0, none⟩) 2 2, .slice (some ⟨w.heap.size + 1, 0, none⟩) 2 2] 23, .cells #[.int .i64 1, .int .i64 1] 3, .cells #[.int .i64 0, .int .i64 1] 3, .cells #[.slice (some ⟨w.heap.size + 1 + 1 + 1, 0, none⟩) 2 2, .slice (some ⟨w.heap.size + 1 + 1 + 1 + 1, 0, none⟩) 2 2] 49]
    have h := Bag.nil (allocs w [.cells #[.int .i64 1, .int .i64 1] 3, .cells #[.int .i64 1, .int .i64 0] 3, .cells #[.slice (some ⟨w.heap.size, 0, none⟩) 2 2, .slice (some ⟨w.heap.size + 1, 0, none⟩) 2 2] 23, .cells #[.int .i64 1, .int .i64 1] 3, .cells #[.int .i64 0, .int .i64 1] 3, .cells #[.slice (some ⟨w.heap.size + 1 + 1 + 1, 0, none⟩) 2 2, .slice (some ⟨w.heap.size + 1 + 1 + 1 + 1, 0, none⟩) 2 2] 49])
    have h := h.addM (RdM_lit2 (hg 2 _ rfl) (RdI_lit (xs := [1, 1]) (hg 0 _ rfl) rfl (by decide)) (RdI_lit (xs := [1, 0]) (hg 1 _ rfl) rfl (by decide)))
    have h := h.addI (RdI_lit (xs := [1, 1]) (hg 3 _ rfl) rfl (by decide))
    have h := h.addI (RdI_lit (xs := [0, 1]) (hg 4 _ rfl) rfl (by decide))
    have h := h.addB (hg 5 _ rfl)
    exact ⟨_, rfl, Lib.hid (hlow), Lib.hid h⟩
  replace hX0 := Lib.hid hX0
  go_enter Tryd.func18, Tryd.ntmps18
  go_wp2_with fail
  rw [hX0.out]
  refine (aw_power _ _ (hbag.out.1 (.slice (some ⟨w.heap.size + 1 + 1, 0, none⟩) 2 2, aA) (by simp))).mono ?_
  rintro e W1 ⟨m, rfl, hm, hB⟩
  have hBB' := Lib.hid (Below.then_ hBX0.out hB)
  replace hbag : Hid (Bag W1 [(m, [[8, 5], [5, 3]]), (.slice (some ⟨w.heap.size + 1 + 1, 0, none⟩) 2 2, aA)] [(.slice (some ⟨w.heap.size + 1 + 1 + 1 + 1, 0, none⟩) 2 2, [0, 1]), (.slice (some ⟨w.heap.size + 1 + 1 + 1, 0, none⟩) 2 2, [1, 1])] [(w.heap.size + 1 + 1 + 1 + 1 + 1, .cells #[.slice (some ⟨w.heap.size + 1 + 1 + 1, 0, none⟩) 2 2, .slice (some ⟨w.heap.size + 1 + 1 + 1 + 1, 0, none⟩) 2 2] 49 (0, 0))]) := Lib.hid ((hbag.out.below hB).addM hm)
  clear hB hm
  clear hX0 hBX0
  have hBB := hBB'
  clear hBB'
  go_wp2_with fail
  refine (aw_det _ _ (hbag.out.1 (.slice (some ⟨w.heap.size + 1 + 1, 0, none⟩) 2 2, aA) (by simp))).mono ?_
  rintro e W2 ⟨rfl, hB⟩
  have hBB' := Lib.hid (Below.then_ hBB.out hB)
  replace hbag : Hid (Bag W2 [(m, [[8, 5], [5, 3]]), (.slice (some ⟨w.heap.size + 1 + 1, 0, none⟩) 2 2, aA)] [(.slice (some ⟨w.heap.size + 1 + 1 + 1 + 1, 0, none⟩) 2 2, [0, 1]), (.slice (some ⟨w.heap.size + 1 + 1 + 1, 0, none⟩) 2 2, [1, 1])] [(w.heap.size + 1 + 1 + 1 + 1 + 1, .cells #[.slice (some ⟨w.heap.size + 1 + 1 + 1, 0, none⟩) 2 2, .slice (some ⟨w.heap.size + 1 + 1 + 1 + 1, 0, none⟩) 2 2] 49 (0, 0))]) := Lib.hid (hbag.out.below hB)
  clear hB
  clear hBB
  have hBB := hBB'
  clear hBB'
  go_wp2_with fail
  refine (aw_inverse _ _ (hbag.out.1 (.slice (some ⟨w.heap.size + 1 + 1, 0, none⟩) 2 2, aA) (by simp))).mono ?_
  rintro e W3 ⟨v, rfl, hm, hB⟩
  have hBB' := Lib.hid (Below.then_ hBB.out hB)
  replace hbag : Hid (Bag W3 [(v, [[0, 1], [1, 65520]]), (m, [[8, 5], [5, 3]]), (.slice (some ⟨w.heap.size + 1 + 1, 0, none⟩) 2 2, aA)] [(.slice (some ⟨w.heap.size + 1 + 1 + 1 + 1, 0, none⟩) 2 2, [0, 1]), (.slice (some ⟨w.heap.size + 1 + 1 + 1, 0, none⟩) 2 2, [1, 1])] [(w.heap.size + 1 + 1 + 1 + 1 + 1, .cells #[.slice (some ⟨w.heap.size + 1 + 1 + 1, 0, none⟩) 2 2, .slice (some ⟨w.heap.size + 1 + 1 + 1 + 1, 0, none⟩) 2 2] 49 (0, 0))]) := Lib.hid ((hbag.out.below hB).addM hm)
  clear hB hm
  clear hBB
  have hBB := hBB'
  clear hBB'
  go_wp2_with fail
  refine (aw_char _ _ (hbag.out.1 (.slice (some ⟨w.heap.size + 1 + 1, 0, none⟩) 2 2, aA) (by simp))).mono ?_
  rintro e W4 ⟨c, rfl, hm, hB⟩
  have hBB' := Lib.hid (Below.then_ hBB.out hB)
  replace hbag : Hid (Bag W4 [(v, [[0, 1], [1, 65520]]), (m, [[8, 5], [5, 3]]), (.slice (some ⟨w.heap.size + 1 + 1, 0, none⟩) 2 2, aA)] [(c, [1, 1]), (.slice (some ⟨w.heap.size + 1 + 1 + 1 + 1, 0, none⟩) 2 2, [0, 1]), (.slice (some ⟨w.heap.size + 1 + 1 + 1, 0, none⟩) 2 2, [1, 1])] [(w.heap.size + 1 + 1 + 1 + 1 + 1, .cells #[.slice (some ⟨w.heap.size + 1 + 1 + 1, 0, none⟩) 2 2, .slice (some ⟨w.heap.size + 1 + 1 + 1 + 1, 0, none⟩) 2 2] 49 (0, 0))]) := Lib.hid ((hbag.out.below hB).addI hm)
  clear hB hm
  clear hBB
  have hBB := hBB'
  clear hBB'
  obtain ⟨X1, hX1, hBX1, hbag⟩ : ∃ X, ((((W4.alloc (.cells #[.int .i64 1, .int .i64 1] 3)).alloc (.cells #[.int .i64 2, .int .i64 2] 3)).alloc (.cells #[.slice (some ⟨W4.heap.size, 0, none⟩) 2 2, .slice (some ⟨W4.heap.size + 1, 0, none⟩) 2 2] 23)).alloc (.cells #[.int .i64 3, .int .i64 6] 3)) = X ∧ Hid (Below w.heap.size w X) ∧ Hid (Bag X [(.slice (some ⟨W4.heap.size + 1 + 1, 0, none⟩) 2 2, [[1, 1], [2, 2]]), (v, [[0, 1], [1, 65520]]), (m, [[8, 5], [5, 3]]), (.slice (some ⟨w.heap.size + 1 + 1, 0, none⟩) 2 2, aA)] [(.slice (some ⟨W4.heap.size + 1 + 1 + 1, 0, none⟩) 2 2, [3, 6]), (c, [1, 1]), (.slice (some ⟨w.heap.size + 1 + 1 + 1 + 1, 0, none⟩) 2 2, [0, 1]), (.slice (some ⟨w.heap.size + 1 + 1 + 1, 0, none⟩) 2 2, [1, 1])] [(w.heap.size + 1 + 1 + 1 + 1 + 1, .cells #[.slice (some ⟨w.heap.size + 1 + 1 + 1, 0, none⟩) 2 2, .slice (some ⟨w.heap.size + 1 + 1 + 1 + 1, 0, none⟩) 2 2] 49 (0, 0))]) := by
    have hg := fun i o h => allocs_get W4 [.cells #[.int .i64 1, .int .i64 1] 3, .cells #[.int .i64 2, .int .i64 2] 3, .cells #[.slice (some ⟨W4.heap.size, 0, none⟩) 2 2, .slice (some ⟨W4.heap.size + 1, 0, none⟩) 2 2] 23, .cells #[.int .i64 3, .int .i64 6] 3] i o h
    have hlow := allocs_below W4 [.cells #[.int .i64 1, .int .i64 1] 3, .cells #[.int .i64 2, .int .i64 2] 3, .cells #[.slice (some ⟨W4.heap.size, 0, none⟩) 2 2, .slice (some ⟨W4.heap.size + 1, 0, none⟩) 2 2] 23, .cells #[.int .i64 3, .int .i64 6] 3]
    have h := hbag.out.below hlow
    have h := h.addM (RdM_lit2 (hg 2 _ rfl) (RdI_lit (xs := [1, 1]) (hg 0 _ rfl) rfl (by decide)) (RdI_lit (xs := [2, 2]) (hg 1 _ rfl) rfl (by decide)))
    have h := h.addI (RdI_lit (xs := [3, 6]) (hg 3 _ rfl) rfl (by decide))
    exact ⟨_, rfl, Lib.hid (Below.then_ hBB.out hlow), Lib.hid h⟩
  replace hX1 := Lib.hid hX1
  go_wp2_with fail
  rw [hX1.out]
  refine (aw_solve _ _ _ (hbag.out.1 (.slice (some ⟨W4.heap.size + 1 + 1, 0, none⟩) 2 2, [[1, 1], [2, 2]]) (by simp)) (hbag.out.2.1 (.slice (some ⟨W4.heap.size + 1 + 1 + 1, 0, none⟩) 2 2, [3, 6]) (by simp))).mono ?_
  rintro e W5 ⟨x, rfl, hm, hB⟩
  have hBB' := Lib.hid (Below.then_ hBX1.out hB)
  replace hbag : Hid (Bag W5 [(.slice (some ⟨W4.heap.size + 1 + 1, 0, none⟩) 2 2, [[1, 1], [2, 2]]), (v, [[0, 1], [1, 65520]]), (m, [[8, 5], [5, 3]]), (.slice (some ⟨w.heap.size + 1 + 1, 0, none⟩) 2 2, aA)] [(x, [0, 3]), (.slice (some ⟨W4.heap.size + 1 + 1 + 1, 0, none⟩) 2 2, [3, 6]), (c, [1, 1]), (.slice (some ⟨w.heap.size + 1 + 1 + 1 + 1, 0, none⟩) 2 2, [0, 1]), (.slice (some ⟨w.heap.size + 1 + 1 + 1, 0, none⟩) 2 2, [1, 1])] [(w.heap.size + 1 + 1 + 1 + 1 + 1, .cells #[.slice (some ⟨w.heap.size + 1 + 1 + 1, 0, none⟩) 2 2, .slice (some ⟨w.heap.size + 1 + 1 + 1 + 1, 0, none⟩) 2 2] 49 (0, 0))]) := Lib.hid ((hbag.out.below hB).addI hm)
  clear hB hm
  clear hX1 hBX1
  clear hBB
  have hBB := hBB'
  clear hBB'
  obtain ⟨q0, q1, -, -⟩ := ret_cell (hbag.out.2.2 (w.heap.size + 1 + 1 + 1 + 1 + 1, .cells #[.slice (some ⟨w.heap.size + 1 + 1 + 1, 0, none⟩) 2 2, .slice (some ⟨w.heap.size + 1 + 1 + 1 + 1, 0, none⟩) 2 2] 49 (0, 0)) (by simp))
  go_wp2_with fail
  refine (aw_term _ _ ⟨_, _, rfl, (hbag.out.2.1 (.slice (some ⟨w.heap.size + 1 + 1 + 1, 0, none⟩) 2 2, [1, 1]) (by simp)), (hbag.out.2.1 (.slice (some ⟨w.heap.size + 1 + 1 + 1 + 1, 0, none⟩) 2 2, [0, 1]) (by simp))⟩).mono ?_
  rintro e W6 ⟨rfl, hB⟩
  have hBB' := Lib.hid (Below.then_ hBB.out hB)
  replace hbag : Hid (Bag W6 [(.slice (some ⟨W4.heap.size + 1 + 1, 0, none⟩) 2 2, [[1, 1], [2, 2]]), (v, [[0, 1], [1, 65520]]), (m, [[8, 5], [5, 3]]), (.slice (some ⟨w.heap.size + 1 + 1, 0, none⟩) 2 2, aA)] [(x, [0, 3]), (.slice (some ⟨W4.heap.size + 1 + 1 + 1, 0, none⟩) 2 2, [3, 6]), (c, [1, 1]), (.slice (some ⟨w.heap.size + 1 + 1 + 1 + 1, 0, none⟩) 2 2, [0, 1]), (.slice (some ⟨w.heap.size + 1 + 1 + 1, 0, none⟩) 2 2, [1, 1])] [(w.heap.size + 1 + 1 + 1 + 1 + 1, .cells #[.slice (some ⟨w.heap.size + 1 + 1 + 1, 0, none⟩) 2 2, .slice (some ⟨w.heap.size + 1 + 1 + 1 + 1, 0, none⟩) 2 2] 49 (0, 0))]) := Lib.hid (hbag.out.below hB)
  clear hB
  clear hBB
  have hBB := hBB'
  clear hBB'
  clear q0 q1
  obtain ⟨X2, hX2, hBX2, hbag⟩ : ∃ X, (W6.alloc (.cells #[.int .i64 0, .int .i64 1, .int .i64 1, .int .i64 2, .int .i64 3, .int .i64 5, .int .i64 8, .int .i64 13] 3)) = X ∧ Hid (Below w.heap.size w X) ∧ Hid (Bag X [(.slice (some ⟨W4.heap.size + 1 + 1, 0, none⟩) 2 2, [[1, 1], [2, 2]]), (v, [[0, 1], [1, 65520]]), (m, [[8, 5], [5, 3]]), (.slice (some ⟨w.heap.size + 1 + 1, 0, none⟩) 2 2, aA)] [(.slice (some ⟨W6.heap.size, 0, none⟩) 8 8, [0, 1, 1, 2, 3, 5, 8, 13]), (x, [0, 3]), (.slice (some ⟨W4.heap.size + 1 + 1 + 1, 0, none⟩) 2 2, [3, 6]), (c, [1, 1]), (.slice (some ⟨w.heap.size + 1 + 1 + 1 + 1, 0, none⟩) 2 2, [0, 1]), (.slice (some ⟨w.heap.size + 1 + 1 + 1, 0, none⟩) 2 2, [1, 1])] [(w.heap.size + 1 + 1 + 1 + 1 + 1, .cells #[.slice (some ⟨w.heap.size + 1 + 1 + 1, 0, none⟩) 2 2, .slice (some ⟨w.heap.size + 1 + 1 + 1 + 1, 0, none⟩) 2 2] 49 (0, 0))]) := by
    have hg := fun i o h => allocs_get W6 [.cells #[.int .i64 0, .int .i64 1, .int .i64 1, .int .i64 2, .int .i64 3, .int .i64 5, .int .i64 8, .int .i64 13] 3] i o h
    have hlow := allocs_below W6 [.cells #[.int .i64 0, .int .i64 1, .int .i64 1, .int .i64 2, .int .i64 3, .int .i64 5, .int .i64 8, .int .i64 13] 3]
    have h := hbag.out.below hlow
    have h := h.addI (RdI_lit (xs := [0, 1, 1, 2, 3, 5, 8, 13]) (hg 0 _ rfl) rfl (by decide))
    exact ⟨_, rfl, Lib.hid (Below.then_ hBB.out hlow), Lib.hid h⟩
  replace hX2 := Lib.hid hX2
  go_wp2_with fail
  rw [hX2.out]
  refine (aw_least _ _ (hbag.out.2.1 (.slice (some ⟨W6.heap.size, 0, none⟩) 8 8, [0, 1, 1, 2, 3, 5, 8, 13]) (by simp))).mono ?_
  rintro e W7 ⟨m, rfl, ⟨Ar, cr, Br, dr, rfl, ra, rb⟩, hB⟩
  have hBB' := Lib.hid (Below.then_ hBX2.out hB)
  replace hbag : Hid (Bag W7 [(.slice (some ⟨W4.heap.size + 1 + 1, 0, none⟩) 2 2, [[1, 1], [2, 2]]), (v, [[0, 1], [1, 65520]]), (m, [[8, 5], [5, 3]]), (.slice (some ⟨w.heap.size + 1 + 1, 0, none⟩) 2 2, aA)] [(.slice Br fibR.start.length dr, fibR.start), (.slice Ar fibR.by_.length cr, fibR.by_), (.slice (some ⟨W6.heap.size, 0, none⟩) 8 8, [0, 1, 1, 2, 3, 5, 8, 13]), (x, [0, 3]), (.slice (some ⟨W4.heap.size + 1 + 1 + 1, 0, none⟩) 2 2, [3, 6]), (c, [1, 1]), (.slice (some ⟨w.heap.size + 1 + 1 + 1 + 1, 0, none⟩) 2 2, [0, 1]), (.slice (some ⟨w.heap.size + 1 + 1 + 1, 0, none⟩) 2 2, [1, 1])] [(w.heap.size + 1 + 1 + 1 + 1 + 1, .cells #[.slice (some ⟨w.heap.size + 1 + 1 + 1, 0, none⟩) 2 2, .slice (some ⟨w.heap.size + 1 + 1 + 1 + 1, 0, none⟩) 2 2] 49 (0, 0))]) := Lib.hid (((hbag.out.below hB).addI ra).addI rb)
  clear hB ra rb
  clear hX2 hBX2
  clear hBB
  have hBB := hBB'
  clear hBB'
  obtain ⟨X3, hX3, hBX3, hbag⟩ : ∃ X, (((((W7.alloc (.cells #[.slice Ar fibR.by_.length cr, .slice Br fibR.start.length dr] 49)).alloc (.cells #[.int .i64 1] 3)).alloc (.cells #[.int .i64 1] 3)).alloc (.cells #[.int .i64 1] 3)).alloc (.cells #[.int .i64 1] 3)) = X ∧ Hid (Below w.heap.size w X) ∧ Hid (Bag X [(.slice (some ⟨W4.heap.size + 1 + 1, 0, none⟩) 2 2, [[1, 1], [2, 2]]), (v, [[0, 1], [1, 65520]]), (m, [[8, 5], [5, 3]]), (.slice (some ⟨w.heap.size + 1 + 1, 0, none⟩) 2 2, aA)] [(.slice (some ⟨W7.heap.size + 1 + 1 + 1 + 1, 0, none⟩) 1 1, [1]), (.slice (some ⟨W7.heap.size + 1 + 1 + 1, 0, none⟩) 1 1, [1]), (.slice (some ⟨W7.heap.size + 1 + 1, 0, none⟩) 1 1, [1]), (.slice (some ⟨W7.heap.size + 1, 0, none⟩) 1 1, [1]), (.slice Br fibR.start.length dr, fibR.start), (.slice Ar fibR.by_.length cr, fibR.by_), (.slice (some ⟨W6.heap.size, 0, none⟩) 8 8, [0, 1, 1, 2, 3, 5, 8, 13]), (x, [0, 3]), (.slice (some ⟨W4.heap.size + 1 + 1 + 1, 0, none⟩) 2 2, [3, 6]), (c, [1, 1]), (.slice (some ⟨w.heap.size + 1 + 1 + 1 + 1, 0, none⟩) 2 2, [0, 1]), (.slice (some ⟨w.heap.size + 1 + 1 + 1, 0, none⟩) 2 2, [1, 1])] [(W7.heap.size, .cells #[.slice Ar fibR.by_.length cr, .slice Br fibR.start.length dr] 49 (0, 0)), (w.heap.size + 1 + 1 + 1 + 1 + 1, .cells #[.slice (some ⟨w.heap.size + 1 + 1 + 1, 0, none⟩) 2 2, .slice (some ⟨w.heap.size + 1 + 1 + 1 + 1, 0, none⟩) 2 2] 49 (0, 0))]) := by
    have hg := fun i o h => allocs_get W7 [.cells #[.slice Ar fibR.by_.length cr, .slice Br fibR.start.length dr] 49, .cells #[.int .i64 1] 3, .cells #[.int .i64 1] 3, .cells #[.int .i64 1] 3, .cells #[.int .i64 1] 3] i o h
    have hlow := allocs_below W7 [.cells #[.slice Ar fibR.by_.length cr, .slice Br fibR.start.length dr] 49, .cells #[.int .i64 1] 3, .cells #[.int .i64 1] 3, .cells #[.int .i64 1] 3, .cells #[.int .i64 1] 3]
    have h := hbag.out.below hlow
    have h := h.addB (hg 0 _ rfl)
    have h := h.addI (RdI_lit (xs := [1]) (hg 1 _ rfl) rfl (by decide))
    have h := h.addI (RdI_lit (xs := [1]) (hg 2 _ rfl) rfl (by decide))
    have h := h.addI (RdI_lit (xs := [1]) (hg 3 _ rfl) rfl (by decide))
    have h := h.addI (RdI_lit (xs := [1]) (hg 4 _ rfl) rfl (by decide))
    exact ⟨_, rfl, Lib.hid (Below.then_ hBB.out hlow), Lib.hid h⟩
  replace hX3 := Lib.hid hX3
  go_wp2_with fail
  rw [hX3.out]
  refine (aw_folded _ _ _ ⟨_, _, rfl, (hbag.out.2.1 (.slice (some ⟨W7.heap.size + 1, 0, none⟩) 1 1, [1]) (by simp)), (hbag.out.2.1 (.slice (some ⟨W7.heap.size + 1 + 1, 0, none⟩) 1 1, [1]) (by simp))⟩ ⟨_, _, rfl, (hbag.out.2.1 (.slice (some ⟨W7.heap.size + 1 + 1 + 1, 0, none⟩) 1 1, [1]) (by simp)), (hbag.out.2.1 (.slice (some ⟨W7.heap.size + 1 + 1 + 1 + 1, 0, none⟩) 1 1, [1]) (by simp))⟩ (hJ.out.below hBX3.out)).mono ?_
  rintro e W8 ⟨m, rfl, ⟨Ap, cp, Bp, dp, rfl, ra, rb⟩, hB⟩
  have hBB' := Lib.hid (Below.then_ hBX3.out hB)
  replace hbag : Hid (Bag W8 [(.slice (some ⟨W4.heap.size + 1 + 1, 0, none⟩) 2 2, [[1, 1], [2, 2]]), (v, [[0, 1], [1, 65520]]), (m, [[8, 5], [5, 3]]), (.slice (some ⟨w.heap.size + 1 + 1, 0, none⟩) 2 2, aA)] [(.slice Bp folR.start.length dp, folR.start), (.slice Ap folR.by_.length cp, folR.by_), (.slice (some ⟨W7.heap.size + 1 + 1 + 1 + 1, 0, none⟩) 1 1, [1]), (.slice (some ⟨W7.heap.size + 1 + 1 + 1, 0, none⟩) 1 1, [1]), (.slice (some ⟨W7.heap.size + 1 + 1, 0, none⟩) 1 1, [1]), (.slice (some ⟨W7.heap.size + 1, 0, none⟩) 1 1, [1]), (.slice Br fibR.start.length dr, fibR.start), (.slice Ar fibR.by_.length cr, fibR.by_), (.slice (some ⟨W6.heap.size, 0, none⟩) 8 8, [0, 1, 1, 2, 3, 5, 8, 13]), (x, [0, 3]), (.slice (some ⟨W4.heap.size + 1 + 1 + 1, 0, none⟩) 2 2, [3, 6]), (c, [1, 1]), (.slice (some ⟨w.heap.size + 1 + 1 + 1 + 1, 0, none⟩) 2 2, [0, 1]), (.slice (some ⟨w.heap.size + 1 + 1 + 1, 0, none⟩) 2 2, [1, 1])] [(W7.heap.size, .cells #[.slice Ar fibR.by_.length cr, .slice Br fibR.start.length dr] 49 (0, 0)), (w.heap.size + 1 + 1 + 1 + 1 + 1, .cells #[.slice (some ⟨w.heap.size + 1 + 1 + 1, 0, none⟩) 2 2, .slice (some ⟨w.heap.size + 1 + 1 + 1 + 1, 0, none⟩) 2 2] 49 (0, 0))]) := Lib.hid (((hbag.out.below hB).addI ra).addI rb)
  clear hB ra rb
  clear hX3 hBX3
  clear hBB
  have hBB := hBB'
  clear hBB'
  obtain ⟨X4, hX4, hBX4, hbag⟩ : ∃ X, (((((W8.alloc (.cells #[.slice Ap folR.by_.length cp, .slice Bp folR.start.length dp] 49)).alloc (.cells #[.int .i64 2] 3)).alloc (.cells #[.int .i64 1] 3)).alloc (.cells #[.int .i64 1, .int .i64 2] 3)).alloc (.cells #[.int .i64 1, .int .i64 2] 3)) = X ∧ Hid (Below w.heap.size w X) ∧ Hid (Bag X [(.slice (some ⟨W4.heap.size + 1 + 1, 0, none⟩) 2 2, [[1, 1], [2, 2]]), (v, [[0, 1], [1, 65520]]), (m, [[8, 5], [5, 3]]), (.slice (some ⟨w.heap.size + 1 + 1, 0, none⟩) 2 2, aA)] [(.slice (some ⟨W8.heap.size + 1 + 1 + 1 + 1, 0, none⟩) 2 2, [1, 2]), (.slice (some ⟨W8.heap.size + 1 + 1 + 1, 0, none⟩) 2 2, [1, 2]), (.slice (some ⟨W8.heap.size + 1 + 1, 0, none⟩) 1 1, [1]), (.slice (some ⟨W8.heap.size + 1, 0, none⟩) 1 1, [2]), (.slice Bp folR.start.length dp, folR.start), (.slice Ap folR.by_.length cp, folR.by_), (.slice (some ⟨W7.heap.size + 1 + 1 + 1 + 1, 0, none⟩) 1 1, [1]), (.slice (some ⟨W7.heap.size + 1 + 1 + 1, 0, none⟩) 1 1, [1]), (.slice (some ⟨W7.heap.size + 1 + 1, 0, none⟩) 1 1, [1]), (.slice (some ⟨W7.heap.size + 1, 0, none⟩) 1 1, [1]), (.slice Br fibR.start.length dr, fibR.start), (.slice Ar fibR.by_.length cr, fibR.by_), (.slice (some ⟨W6.heap.size, 0, none⟩) 8 8, [0, 1, 1, 2, 3, 5, 8, 13]), (x, [0, 3]), (.slice (some ⟨W4.heap.size + 1 + 1 + 1, 0, none⟩) 2 2, [3, 6]), (c, [1, 1]), (.slice (some ⟨w.heap.size + 1 + 1 + 1 + 1, 0, none⟩) 2 2, [0, 1]), (.slice (some ⟨w.heap.size + 1 + 1 + 1, 0, none⟩) 2 2, [1, 1])] [(W8.heap.size, .cells #[.slice Ap folR.by_.length cp, .slice Bp folR.start.length dp] 49 (0, 0)), (W7.heap.size, .cells #[.slice Ar fibR.by_.length cr, .slice Br fibR.start.length dr] 49 (0, 0)), (w.heap.size + 1 + 1 + 1 + 1 + 1, .cells #[.slice (some ⟨w.heap.size + 1 + 1 + 1, 0, none⟩) 2 2, .slice (some ⟨w.heap.size + 1 + 1 + 1 + 1, 0, none⟩) 2 2] 49 (0, 0))]) := by
    have hg := fun i o h => allocs_get W8 [.cells #[.slice Ap folR.by_.length cp, .slice Bp folR.start.length dp] 49, .cells #[.int .i64 2] 3, .cells #[.int .i64 1] 3, .cells #[.int .i64 1, .int .i64 2] 3, .cells #[.int .i64 1, .int .i64 2] 3] i o h
    have hlow := allocs_below W8 [.cells #[.slice Ap folR.by_.length cp, .slice Bp folR.start.length dp] 49, .cells #[.int .i64 2] 3, .cells #[.int .i64 1] 3, .cells #[.int .i64 1, .int .i64 2] 3, .cells #[.int .i64 1, .int .i64 2] 3]
    have h := hbag.out.below hlow
    have h := h.addB (hg 0 _ rfl)
    have h := h.addI (RdI_lit (xs := [2]) (hg 1 _ rfl) rfl (by decide))
    have h := h.addI (RdI_lit (xs := [1]) (hg 2 _ rfl) rfl (by decide))
    have h := h.addI (RdI_lit (xs := [1, 2]) (hg 3 _ rfl) rfl (by decide))
    have h := h.addI (RdI_lit (xs := [1, 2]) (hg 4 _ rfl) rfl (by decide))
    exact ⟨_, rfl, Lib.hid (Below.then_ hBB.out hlow), Lib.hid h⟩
  replace hX4 := Lib.hid hX4
  go_wp2_with fail
  rw [hX4.out]
  refine (aw_apart _ _ _ ⟨_, _, rfl, (hbag.out.2.1 (.slice (some ⟨W8.heap.size + 1, 0, none⟩) 1 1, [2]) (by simp)), (hbag.out.2.1 (.slice (some ⟨W8.heap.size + 1 + 1, 0, none⟩) 1 1, [1]) (by simp))⟩ ⟨_, _, rfl, (hbag.out.2.1 (.slice (some ⟨W8.heap.size + 1 + 1 + 1, 0, none⟩) 2 2, [1, 2]) (by simp)), (hbag.out.2.1 (.slice (some ⟨W8.heap.size + 1 + 1 + 1 + 1, 0, none⟩) 2 2, [1, 2]) (by simp))⟩).mono ?_
  rintro e W9 ⟨rfl, hB⟩
  have hBB' := Lib.hid (Below.then_ hBX4.out hB)
  replace hbag : Hid (Bag W9 [(.slice (some ⟨W4.heap.size + 1 + 1, 0, none⟩) 2 2, [[1, 1], [2, 2]]), (v, [[0, 1], [1, 65520]]), (m, [[8, 5], [5, 3]]), (.slice (some ⟨w.heap.size + 1 + 1, 0, none⟩) 2 2, aA)] [(.slice (some ⟨W8.heap.size + 1 + 1 + 1 + 1, 0, none⟩) 2 2, [1, 2]), (.slice (some ⟨W8.heap.size + 1 + 1 + 1, 0, none⟩) 2 2, [1, 2]), (.slice (some ⟨W8.heap.size + 1 + 1, 0, none⟩) 1 1, [1]), (.slice (some ⟨W8.heap.size + 1, 0, none⟩) 1 1, [2]), (.slice Bp folR.start.length dp, folR.start), (.slice Ap folR.by_.length cp, folR.by_), (.slice (some ⟨W7.heap.size + 1 + 1 + 1 + 1, 0, none⟩) 1 1, [1]), (.slice (some ⟨W7.heap.size + 1 + 1 + 1, 0, none⟩) 1 1, [1]), (.slice (some ⟨W7.heap.size + 1 + 1, 0, none⟩) 1 1, [1]), (.slice (some ⟨W7.heap.size + 1, 0, none⟩) 1 1, [1]), (.slice Br fibR.start.length dr, fibR.start), (.slice Ar fibR.by_.length cr, fibR.by_), (.slice (some ⟨W6.heap.size, 0, none⟩) 8 8, [0, 1, 1, 2, 3, 5, 8, 13]), (x, [0, 3]), (.slice (some ⟨W4.heap.size + 1 + 1 + 1, 0, none⟩) 2 2, [3, 6]), (c, [1, 1]), (.slice (some ⟨w.heap.size + 1 + 1 + 1 + 1, 0, none⟩) 2 2, [0, 1]), (.slice (some ⟨w.heap.size + 1 + 1 + 1, 0, none⟩) 2 2, [1, 1])] [(W8.heap.size, .cells #[.slice Ap folR.by_.length cp, .slice Bp folR.start.length dp] 49 (0, 0)), (W7.heap.size, .cells #[.slice Ar fibR.by_.length cr, .slice Br fibR.start.length dr] 49 (0, 0)), (w.heap.size + 1 + 1 + 1 + 1 + 1, .cells #[.slice (some ⟨w.heap.size + 1 + 1 + 1, 0, none⟩) 2 2, .slice (some ⟨w.heap.size + 1 + 1 + 1 + 1, 0, none⟩) 2 2] 49 (0, 0))]) := Lib.hid (hbag.out.below hB)
  clear hB
  clear hX4 hBX4
  clear hBB
  have hBB := hBB'
  clear hBB'
  go_wp2_with fail
  refine (aw_norm _).mono ?_
  rintro e W ⟨rfl, rfl⟩
  obtain ⟨X5, hX5, hBX5, hbag⟩ : ∃ X, (((W9.alloc (.cells #[.int .i64 8, .int .i64 5] 3)).alloc (.cells #[.int .i64 5, .int .i64 3] 3)).alloc (.cells #[.slice (some ⟨W9.heap.size, 0, none⟩) 2 2, .slice (some ⟨W9.heap.size + 1, 0, none⟩) 2 2] 23)) = X ∧ Hid (Below w.heap.size w X) ∧ Hid (Bag X [(.slice (some ⟨W9.heap.size + 1 + 1, 0, none⟩) 2 2, [[8, 5], [5, 3]]), (.slice (some ⟨W4.heap.size + 1 + 1, 0, none⟩) 2 2, [[1, 1], [2, 2]]), (v, [[0, 1], [1, 65520]]), (m, [[8, 5], [5, 3]]), (.slice (some ⟨w.heap.size + 1 + 1, 0, none⟩) 2 2, aA)] [(.slice (some ⟨W8.heap.size + 1 + 1 + 1 + 1, 0, none⟩) 2 2, [1, 2]), (.slice (some ⟨W8.heap.size + 1 + 1 + 1, 0, none⟩) 2 2, [1, 2]), (.slice (some ⟨W8.heap.size + 1 + 1, 0, none⟩) 1 1, [1]), (.slice (some ⟨W8.heap.size + 1, 0, none⟩) 1 1, [2]), (.slice Bp folR.start.length dp, folR.start), (.slice Ap folR.by_.length cp, folR.by_), (.slice (some ⟨W7.heap.size + 1 + 1 + 1 + 1, 0, none⟩) 1 1, [1]), (.slice (some ⟨W7.heap.size + 1 + 1 + 1, 0, none⟩) 1 1, [1]), (.slice (some ⟨W7.heap.size + 1 + 1, 0, none⟩) 1 1, [1]), (.slice (some ⟨W7.heap.size + 1, 0, none⟩) 1 1, [1]), (.slice Br fibR.start.length dr, fibR.start), (.slice Ar fibR.by_.length cr, fibR.by_), (.slice (some ⟨W6.heap.size, 0, none⟩) 8 8, [0, 1, 1, 2, 3, 5, 8, 13]), (x, [0, 3]), (.slice (some ⟨W4.heap.size + 1 + 1 + 1, 0, none⟩) 2 2, [3, 6]), (c, [1, 1]), (.slice (some ⟨w.heap.size + 1 + 1 + 1 + 1, 0, none⟩) 2 2, [0, 1]), (.slice (some ⟨w.heap.size + 1 + 1 + 1, 0, none⟩) 2 2, [1, 1])] [(W8.heap.size, .cells #[.slice Ap folR.by_.length cp, .slice Bp folR.start.length dp] 49 (0, 0)), (W7.heap.size, .cells #[.slice Ar fibR.by_.length cr, .slice Br fibR.start.length dr] 49 (0, 0)), (w.heap.size + 1 + 1 + 1 + 1 + 1, .cells #[.slice (some ⟨w.heap.size + 1 + 1 + 1, 0, none⟩) 2 2, .slice (some ⟨w.heap.size + 1 + 1 + 1 + 1, 0, none⟩) 2 2] 49 (0, 0))]) := by
    have hg := fun i o h => allocs_get W9 [.cells #[.int .i64 8, .int .i64 5] 3, .cells #[.int .i64 5, .int .i64 3] 3, .cells #[.slice (some ⟨W9.heap.size, 0, none⟩) 2 2, .slice (some ⟨W9.heap.size + 1, 0, none⟩) 2 2] 23] i o h
    have hlow := allocs_below W9 [.cells #[.int .i64 8, .int .i64 5] 3, .cells #[.int .i64 5, .int .i64 3] 3, .cells #[.slice (some ⟨W9.heap.size, 0, none⟩) 2 2, .slice (some ⟨W9.heap.size + 1, 0, none⟩) 2 2] 23]
    have h := hbag.out.below hlow
    have h := h.addM (RdM_lit2 (hg 2 _ rfl) (RdI_lit (xs := [8, 5]) (hg 0 _ rfl) rfl (by decide)) (RdI_lit (xs := [5, 3]) (hg 1 _ rfl) rfl (by decide)))
    exact ⟨_, rfl, Lib.hid (Below.then_ hBB.out hlow), Lib.hid h⟩
  replace hX5 := Lib.hid hX5
  go_wp2_with fail
  rw [hX5.out]
  refine (EqRows_same _ _ _ _ (hbag.out.1 (m, [[8, 5], [5, 3]]) (by simp)) (hbag.out.1 (.slice (some ⟨W9.heap.size + 1 + 1, 0, none⟩) 2 2, [[8, 5], [5, 3]]) (by simp))).mono ?_
  rintro e W10 ⟨rfl, hB⟩
  have hBB' := Lib.hid (Below.then_ hBX5.out hB)
  replace hbag : Hid (Bag W10 [(.slice (some ⟨W9.heap.size + 1 + 1, 0, none⟩) 2 2, [[8, 5], [5, 3]]), (.slice (some ⟨W4.heap.size + 1 + 1, 0, none⟩) 2 2, [[1, 1], [2, 2]]), (v, [[0, 1], [1, 65520]]), (m, [[8, 5], [5, 3]]), (.slice (some ⟨w.heap.size + 1 + 1, 0, none⟩) 2 2, aA)] [(.slice (some ⟨W8.heap.size + 1 + 1 + 1 + 1, 0, none⟩) 2 2, [1, 2]), (.slice (some ⟨W8.heap.size + 1 + 1 + 1, 0, none⟩) 2 2, [1, 2]), (.slice (some ⟨W8.heap.size + 1 + 1, 0, none⟩) 1 1, [1]), (.slice (some ⟨W8.heap.size + 1, 0, none⟩) 1 1, [2]), (.slice Bp folR.start.length dp, folR.start), (.slice Ap folR.by_.length cp, folR.by_), (.slice (some ⟨W7.heap.size + 1 + 1 + 1 + 1, 0, none⟩) 1 1, [1]), (.slice (some ⟨W7.heap.size + 1 + 1 + 1, 0, none⟩) 1 1, [1]), (.slice (some ⟨W7.heap.size + 1 + 1, 0, none⟩) 1 1, [1]), (.slice (some ⟨W7.heap.size + 1, 0, none⟩) 1 1, [1]), (.slice Br fibR.start.length dr, fibR.start), (.slice Ar fibR.by_.length cr, fibR.by_), (.slice (some ⟨W6.heap.size, 0, none⟩) 8 8, [0, 1, 1, 2, 3, 5, 8, 13]), (x, [0, 3]), (.slice (some ⟨W4.heap.size + 1 + 1 + 1, 0, none⟩) 2 2, [3, 6]), (c, [1, 1]), (.slice (some ⟨w.heap.size + 1 + 1 + 1 + 1, 0, none⟩) 2 2, [0, 1]), (.slice (some ⟨w.heap.size + 1 + 1 + 1, 0, none⟩) 2 2, [1, 1])] [(W8.heap.size, .cells #[.slice Ap folR.by_.length cp, .slice Bp folR.start.length dp] 49 (0, 0)), (W7.heap.size, .cells #[.slice Ar fibR.by_.length cr, .slice Br fibR.start.length dr] 49 (0, 0)), (w.heap.size + 1 + 1 + 1 + 1 + 1, .cells #[.slice (some ⟨w.heap.size + 1 + 1 + 1, 0, none⟩) 2 2, .slice (some ⟨w.heap.size + 1 + 1 + 1 + 1, 0, none⟩) 2 2] 49 (0, 0))]) := Lib.hid (hbag.out.below hB)
  clear hB
  clear hX5 hBX5
  clear hBB
  have hBB := hBB'
  clear hBB'
  obtain ⟨X6, hX6, hBX6, hbag⟩ : ∃ X, (((W10.alloc (.cells #[.int .i64 0, .int .i64 1] 3)).alloc (.cells #[.int .i64 1, .int .i64 65520] 3)).alloc (.cells #[.slice (some ⟨W10.heap.size, 0, none⟩) 2 2, .slice (some ⟨W10.heap.size + 1, 0, none⟩) 2 2] 23)) = X ∧ Hid (Below w.heap.size w X) ∧ Hid (Bag X [(.slice (some ⟨W10.heap.size + 1 + 1, 0, none⟩) 2 2, [[0, 1], [1, 65520]]), (.slice (some ⟨W9.heap.size + 1 + 1, 0, none⟩) 2 2, [[8, 5], [5, 3]]), (.slice (some ⟨W4.heap.size + 1 + 1, 0, none⟩) 2 2, [[1, 1], [2, 2]]), (v, [[0, 1], [1, 65520]]), (m, [[8, 5], [5, 3]]), (.slice (some ⟨w.heap.size + 1 + 1, 0, none⟩) 2 2, aA)] [(.slice (some ⟨W8.heap.size + 1 + 1 + 1 + 1, 0, none⟩) 2 2, [1, 2]), (.slice (some ⟨W8.heap.size + 1 + 1 + 1, 0, none⟩) 2 2, [1, 2]), (.slice (some ⟨W8.heap.size + 1 + 1, 0, none⟩) 1 1, [1]), (.slice (some ⟨W8.heap.size + 1, 0, none⟩) 1 1, [2]), (.slice Bp folR.start.length dp, folR.start), (.slice Ap folR.by_.length cp, folR.by_), (.slice (some ⟨W7.heap.size + 1 + 1 + 1 + 1, 0, none⟩) 1 1, [1]), (.slice (some ⟨W7.heap.size + 1 + 1 + 1, 0, none⟩) 1 1, [1]), (.slice (some ⟨W7.heap.size + 1 + 1, 0, none⟩) 1 1, [1]), (.slice (some ⟨W7.heap.size + 1, 0, none⟩) 1 1, [1]), (.slice Br fibR.start.length dr, fibR.start), (.slice Ar fibR.by_.length cr, fibR.by_), (.slice (some ⟨W6.heap.size, 0, none⟩) 8 8, [0, 1, 1, 2, 3, 5, 8, 13]), (x, [0, 3]), (.slice (some ⟨W4.heap.size + 1 + 1 + 1, 0, none⟩) 2 2, [3, 6]), (c, [1, 1]), (.slice (some ⟨w.heap.size + 1 + 1 + 1 + 1, 0, none⟩) 2 2, [0, 1]), (.slice (some ⟨w.heap.size + 1 + 1 + 1, 0, none⟩) 2 2, [1, 1])] [(W8.heap.size, .cells #[.slice Ap folR.by_.length cp, .slice Bp folR.start.length dp] 49 (0, 0)), (W7.heap.size, .cells #[.slice Ar fibR.by_.length cr, .slice Br fibR.start.length dr] 49 (0, 0)), (w.heap.size + 1 + 1 + 1 + 1 + 1, .cells #[.slice (some ⟨w.heap.size + 1 + 1 + 1, 0, none⟩) 2 2, .slice (some ⟨w.heap.size + 1 + 1 + 1 + 1, 0, none⟩) 2 2] 49 (0, 0))]) := by
    have hg := fun i o h => allocs_get W10 [.cells #[.int .i64 0, .int .i64 1] 3, .cells #[.int .i64 1, .int .i64 65520] 3, .cells #[.slice (some ⟨W10.heap.size, 0, none⟩) 2 2, .slice (some ⟨W10.heap.size + 1, 0, none⟩) 2 2] 23] i o h
    have hlow := allocs_below W10 [.cells #[.int .i64 0, .int .i64 1] 3, .cells #[.int .i64 1, .int .i64 65520] 3, .cells #[.slice (some ⟨W10.heap.size, 0, none⟩) 2 2, .slice (some ⟨W10.heap.size + 1, 0, none⟩) 2 2] 23]
    have h := hbag.out.below hlow
    have h := h.addM (RdM_lit2 (hg 2 _ rfl) (RdI_lit (xs := [0, 1]) (hg 0 _ rfl) rfl (by decide)) (RdI_lit (xs := [1, 65520]) (hg 1 _ rfl) rfl (by decide)))
    exact ⟨_, rfl, Lib.hid (Below.then_ hBB.out hlow), Lib.hid h⟩
  replace hX6 := Lib.hid hX6
  go_wp2_with fail
  rw [hX6.out]
  refine (EqRows_same _ _ _ _ (hbag.out.1 (v, [[0, 1], [1, 65520]]) (by simp)) (hbag.out.1 (.slice (some ⟨W10.heap.size + 1 + 1, 0, none⟩) 2 2, [[0, 1], [1, 65520]]) (by simp))).mono ?_
  rintro e W11 ⟨rfl, hB⟩
  have hBB' := Lib.hid (Below.then_ hBX6.out hB)
  replace hbag : Hid (Bag W11 [(.slice (some ⟨W10.heap.size + 1 + 1, 0, none⟩) 2 2, [[0, 1], [1, 65520]]), (.slice (some ⟨W9.heap.size + 1 + 1, 0, none⟩) 2 2, [[8, 5], [5, 3]]), (.slice (some ⟨W4.heap.size + 1 + 1, 0, none⟩) 2 2, [[1, 1], [2, 2]]), (v, [[0, 1], [1, 65520]]), (m, [[8, 5], [5, 3]]), (.slice (some ⟨w.heap.size + 1 + 1, 0, none⟩) 2 2, aA)] [(.slice (some ⟨W8.heap.size + 1 + 1 + 1 + 1, 0, none⟩) 2 2, [1, 2]), (.slice (some ⟨W8.heap.size + 1 + 1 + 1, 0, none⟩) 2 2, [1, 2]), (.slice (some ⟨W8.heap.size + 1 + 1, 0, none⟩) 1 1, [1]), (.slice (some ⟨W8.heap.size + 1, 0, none⟩) 1 1, [2]), (.slice Bp folR.start.length dp, folR.start), (.slice Ap folR.by_.length cp, folR.by_), (.slice (some ⟨W7.heap.size + 1 + 1 + 1 + 1, 0, none⟩) 1 1, [1]), (.slice (some ⟨W7.heap.size + 1 + 1 + 1, 0, none⟩) 1 1, [1]), (.slice (some ⟨W7.heap.size + 1 + 1, 0, none⟩) 1 1, [1]), (.slice (some ⟨W7.heap.size + 1, 0, none⟩) 1 1, [1]), (.slice Br fibR.start.length dr, fibR.start), (.slice Ar fibR.by_.length cr, fibR.by_), (.slice (some ⟨W6.heap.size, 0, none⟩) 8 8, [0, 1, 1, 2, 3, 5, 8, 13]), (x, [0, 3]), (.slice (some ⟨W4.heap.size + 1 + 1 + 1, 0, none⟩) 2 2, [3, 6]), (c, [1, 1]), (.slice (some ⟨w.heap.size + 1 + 1 + 1 + 1, 0, none⟩) 2 2, [0, 1]), (.slice (some ⟨w.heap.size + 1 + 1 + 1, 0, none⟩) 2 2, [1, 1])] [(W8.heap.size, .cells #[.slice Ap folR.by_.length cp, .slice Bp folR.start.length dp] 49 (0, 0)), (W7.heap.size, .cells #[.slice Ar fibR.by_.length cr, .slice Br fibR.start.length dr] 49 (0, 0)), (w.heap.size + 1 + 1 + 1 + 1 + 1, .cells #[.slice (some ⟨w.heap.size + 1 + 1 + 1, 0, none⟩) 2 2, .slice (some ⟨w.heap.size + 1 + 1 + 1 + 1, 0, none⟩) 2 2] 49 (0, 0))]) := Lib.hid (hbag.out.below hB)
  clear hB
  clear hX6 hBX6
  clear hBB
  have hBB := hBB'
  clear hBB'
  obtain ⟨X7, hX7, hBX7, hbag⟩ : ∃ X, (W11.alloc (.cells #[.int .i64 1, .int .i64 1] 3)) = X ∧ Hid (Below w.heap.size w X) ∧ Hid (Bag X [(.slice (some ⟨W10.heap.size + 1 + 1, 0, none⟩) 2 2, [[0, 1], [1, 65520]]), (.slice (some ⟨W9.heap.size + 1 + 1, 0, none⟩) 2 2, [[8, 5], [5, 3]]), (.slice (some ⟨W4.heap.size + 1 + 1, 0, none⟩) 2 2, [[1, 1], [2, 2]]), (v, [[0, 1], [1, 65520]]), (m, [[8, 5], [5, 3]]), (.slice (some ⟨w.heap.size + 1 + 1, 0, none⟩) 2 2, aA)] [(.slice (some ⟨W11.heap.size, 0, none⟩) 2 2, [1, 1]), (.slice (some ⟨W8.heap.size + 1 + 1 + 1 + 1, 0, none⟩) 2 2, [1, 2]), (.slice (some ⟨W8.heap.size + 1 + 1 + 1, 0, none⟩) 2 2, [1, 2]), (.slice (some ⟨W8.heap.size + 1 + 1, 0, none⟩) 1 1, [1]), (.slice (some ⟨W8.heap.size + 1, 0, none⟩) 1 1, [2]), (.slice Bp folR.start.length dp, folR.start), (.slice Ap folR.by_.length cp, folR.by_), (.slice (some ⟨W7.heap.size + 1 + 1 + 1 + 1, 0, none⟩) 1 1, [1]), (.slice (some ⟨W7.heap.size + 1 + 1 + 1, 0, none⟩) 1 1, [1]), (.slice (some ⟨W7.heap.size + 1 + 1, 0, none⟩) 1 1, [1]), (.slice (some ⟨W7.heap.size + 1, 0, none⟩) 1 1, [1]), (.slice Br fibR.start.length dr, fibR.start), (.slice Ar fibR.by_.length cr, fibR.by_), (.slice (some ⟨W6.heap.size, 0, none⟩) 8 8, [0, 1, 1, 2, 3, 5, 8, 13]), (x, [0, 3]), (.slice (some ⟨W4.heap.size + 1 + 1 + 1, 0, none⟩) 2 2, [3, 6]), (c, [1, 1]), (.slice (some ⟨w.heap.size + 1 + 1 + 1 + 1, 0, none⟩) 2 2, [0, 1]), (.slice (some ⟨w.heap.size + 1 + 1 + 1, 0, none⟩) 2 2, [1, 1])] [(W8.heap.size, .cells #[.slice Ap folR.by_.length cp, .slice Bp folR.start.length dp] 49 (0, 0)), (W7.heap.size, .cells #[.slice Ar fibR.by_.length cr, .slice Br fibR.start.length dr] 49 (0, 0)), (w.heap.size + 1 + 1 + 1 + 1 + 1, .cells #[.slice (some ⟨w.heap.size + 1 + 1 + 1, 0, none⟩) 2 2, .slice (some ⟨w.heap.size + 1 + 1 + 1 + 1, 0, none⟩) 2 2] 49 (0, 0))]) := by
    have hg := fun i o h => allocs_get W11 [.cells #[.int .i64 1, .int .i64 1] 3] i o h
    have hlow := allocs_below W11 [.cells #[.int .i64 1, .int .i64 1] 3]
    have h := hbag.out.below hlow
    have h := h.addI (RdI_lit (xs := [1, 1]) (hg 0 _ rfl) rfl (by decide))
    exact ⟨_, rfl, Lib.hid (Below.then_ hBB.out hlow), Lib.hid h⟩
  replace hX7 := Lib.hid hX7
  go_wp2_with fail
  rw [hX7.out]
  refine (Equal_same _ _ _ _ (hbag.out.2.1 (c, [1, 1]) (by simp)) (hbag.out.2.1 (.slice (some ⟨W11.heap.size, 0, none⟩) 2 2, [1, 1]) (by simp))).mono ?_
  rintro e W12 ⟨rfl, hB⟩
  have hBB' := Lib.hid (Below.then_ hBX7.out hB)
  replace hbag : Hid (Bag W12 [(.slice (some ⟨W10.heap.size + 1 + 1, 0, none⟩) 2 2, [[0, 1], [1, 65520]]), (.slice (some ⟨W9.heap.size + 1 + 1, 0, none⟩) 2 2, [[8, 5], [5, 3]]), (.slice (some ⟨W4.heap.size + 1 + 1, 0, none⟩) 2 2, [[1, 1], [2, 2]]), (v, [[0, 1], [1, 65520]]), (m, [[8, 5], [5, 3]]), (.slice (some ⟨w.heap.size + 1 + 1, 0, none⟩) 2 2, aA)] [(.slice (some ⟨W11.heap.size, 0, none⟩) 2 2, [1, 1]), (.slice (some ⟨W8.heap.size + 1 + 1 + 1 + 1, 0, none⟩) 2 2, [1, 2]), (.slice (some ⟨W8.heap.size + 1 + 1 + 1, 0, none⟩) 2 2, [1, 2]), (.slice (some ⟨W8.heap.size + 1 + 1, 0, none⟩) 1 1, [1]), (.slice (some ⟨W8.heap.size + 1, 0, none⟩) 1 1, [2]), (.slice Bp folR.start.length dp, folR.start), (.slice Ap folR.by_.length cp, folR.by_), (.slice (some ⟨W7.heap.size + 1 + 1 + 1 + 1, 0, none⟩) 1 1, [1]), (.slice (some ⟨W7.heap.size + 1 + 1 + 1, 0, none⟩) 1 1, [1]), (.slice (some ⟨W7.heap.size + 1 + 1, 0, none⟩) 1 1, [1]), (.slice (some ⟨W7.heap.size + 1, 0, none⟩) 1 1, [1]), (.slice Br fibR.start.length dr, fibR.start), (.slice Ar fibR.by_.length cr, fibR.by_), (.slice (some ⟨W6.heap.size, 0, none⟩) 8 8, [0, 1, 1, 2, 3, 5, 8, 13]), (x, [0, 3]), (.slice (some ⟨W4.heap.size + 1 + 1 + 1, 0, none⟩) 2 2, [3, 6]), (c, [1, 1]), (.slice (some ⟨w.heap.size + 1 + 1 + 1 + 1, 0, none⟩) 2 2, [0, 1]), (.slice (some ⟨w.heap.size + 1 + 1 + 1, 0, none⟩) 2 2, [1, 1])] [(W8.heap.size, .cells #[.slice Ap folR.by_.length cp, .slice Bp folR.start.length dp] 49 (0, 0)), (W7.heap.size, .cells #[.slice Ar fibR.by_.length cr, .slice Br fibR.start.length dr] 49 (0, 0)), (w.heap.size + 1 + 1 + 1 + 1 + 1, .cells #[.slice (some ⟨w.heap.size + 1 + 1 + 1, 0, none⟩) 2 2, .slice (some ⟨w.heap.size + 1 + 1 + 1 + 1, 0, none⟩) 2 2] 49 (0, 0))]) := Lib.hid (hbag.out.below hB)
  clear hB
  clear hX7 hBX7
  clear hBB
  have hBB := hBB'
  clear hBB'
  obtain ⟨X8, hX8, hBX8, hbag⟩ : ∃ X, (W12.alloc (.cells #[.int .i64 0, .int .i64 3] 3)) = X ∧ Hid (Below w.heap.size w X) ∧ Hid (Bag X [(.slice (some ⟨W10.heap.size + 1 + 1, 0, none⟩) 2 2, [[0, 1], [1, 65520]]), (.slice (some ⟨W9.heap.size + 1 + 1, 0, none⟩) 2 2, [[8, 5], [5, 3]]), (.slice (some ⟨W4.heap.size + 1 + 1, 0, none⟩) 2 2, [[1, 1], [2, 2]]), (v, [[0, 1], [1, 65520]]), (m, [[8, 5], [5, 3]]), (.slice (some ⟨w.heap.size + 1 + 1, 0, none⟩) 2 2, aA)] [(.slice (some ⟨W12.heap.size, 0, none⟩) 2 2, [0, 3]), (.slice (some ⟨W11.heap.size, 0, none⟩) 2 2, [1, 1]), (.slice (some ⟨W8.heap.size + 1 + 1 + 1 + 1, 0, none⟩) 2 2, [1, 2]), (.slice (some ⟨W8.heap.size + 1 + 1 + 1, 0, none⟩) 2 2, [1, 2]), (.slice (some ⟨W8.heap.size + 1 + 1, 0, none⟩) 1 1, [1]), (.slice (some ⟨W8.heap.size + 1, 0, none⟩) 1 1, [2]), (.slice Bp folR.start.length dp, folR.start), (.slice Ap folR.by_.length cp, folR.by_), (.slice (some ⟨W7.heap.size + 1 + 1 + 1 + 1, 0, none⟩) 1 1, [1]), (.slice (some ⟨W7.heap.size + 1 + 1 + 1, 0, none⟩) 1 1, [1]), (.slice (some ⟨W7.heap.size + 1 + 1, 0, none⟩) 1 1, [1]), (.slice (some ⟨W7.heap.size + 1, 0, none⟩) 1 1, [1]), (.slice Br fibR.start.length dr, fibR.start), (.slice Ar fibR.by_.length cr, fibR.by_), (.slice (some ⟨W6.heap.size, 0, none⟩) 8 8, [0, 1, 1, 2, 3, 5, 8, 13]), (x, [0, 3]), (.slice (some ⟨W4.heap.size + 1 + 1 + 1, 0, none⟩) 2 2, [3, 6]), (c, [1, 1]), (.slice (some ⟨w.heap.size + 1 + 1 + 1 + 1, 0, none⟩) 2 2, [0, 1]), (.slice (some ⟨w.heap.size + 1 + 1 + 1, 0, none⟩) 2 2, [1, 1])] [(W8.heap.size, .cells #[.slice Ap folR.by_.length cp, .slice Bp folR.start.length dp] 49 (0, 0)), (W7.heap.size, .cells #[.slice Ar fibR.by_.length cr, .slice Br fibR.start.length dr] 49 (0, 0)), (w.heap.size + 1 + 1 + 1 + 1 + 1, .cells #[.slice (some ⟨w.heap.size + 1 + 1 + 1, 0, none⟩) 2 2, .slice (some ⟨w.heap.size + 1 + 1 + 1 + 1, 0, none⟩) 2 2] 49 (0, 0))]) := by
    have hg := fun i o h => allocs_get W12 [.cells #[.int .i64 0, .int .i64 3] 3] i o h
    have hlow := allocs_below W12 [.cells #[.int .i64 0, .int .i64 3] 3]
    have h := hbag.out.below hlow
    have h := h.addI (RdI_lit (xs := [0, 3]) (hg 0 _ rfl) rfl (by decide))
    exact ⟨_, rfl, Lib.hid (Below.then_ hBB.out hlow), Lib.hid h⟩
  replace hX8 := Lib.hid hX8
  go_wp2_with fail
  rw [hX8.out]
  refine (Equal_same _ _ _ _ (hbag.out.2.1 (x, [0, 3]) (by simp)) (hbag.out.2.1 (.slice (some ⟨W12.heap.size, 0, none⟩) 2 2, [0, 3]) (by simp))).mono ?_
  rintro e W13 ⟨rfl, hB⟩
  have hBB' := Lib.hid (Below.then_ hBX8.out hB)
  replace hbag : Hid (Bag W13 [(.slice (some ⟨W10.heap.size + 1 + 1, 0, none⟩) 2 2, [[0, 1], [1, 65520]]), (.slice (some ⟨W9.heap.size + 1 + 1, 0, none⟩) 2 2, [[8, 5], [5, 3]]), (.slice (some ⟨W4.heap.size + 1 + 1, 0, none⟩) 2 2, [[1, 1], [2, 2]]), (v, [[0, 1], [1, 65520]]), (m, [[8, 5], [5, 3]]), (.slice (some ⟨w.heap.size + 1 + 1, 0, none⟩) 2 2, aA)] [(.slice (some ⟨W12.heap.size, 0, none⟩) 2 2, [0, 3]), (.slice (some ⟨W11.heap.size, 0, none⟩) 2 2, [1, 1]), (.slice (some ⟨W8.heap.size + 1 + 1 + 1 + 1, 0, none⟩) 2 2, [1, 2]), (.slice (some ⟨W8.heap.size + 1 + 1 + 1, 0, none⟩) 2 2, [1, 2]), (.slice (some ⟨W8.heap.size + 1 + 1, 0, none⟩) 1 1, [1]), (.slice (some ⟨W8.heap.size + 1, 0, none⟩) 1 1, [2]), (.slice Bp folR.start.length dp, folR.start), (.slice Ap folR.by_.length cp, folR.by_), (.slice (some ⟨W7.heap.size + 1 + 1 + 1 + 1, 0, none⟩) 1 1, [1]), (.slice (some ⟨W7.heap.size + 1 + 1 + 1, 0, none⟩) 1 1, [1]), (.slice (some ⟨W7.heap.size + 1 + 1, 0, none⟩) 1 1, [1]), (.slice (some ⟨W7.heap.size + 1, 0, none⟩) 1 1, [1]), (.slice Br fibR.start.length dr, fibR.start), (.slice Ar fibR.by_.length cr, fibR.by_), (.slice (some ⟨W6.heap.size, 0, none⟩) 8 8, [0, 1, 1, 2, 3, 5, 8, 13]), (x, [0, 3]), (.slice (some ⟨W4.heap.size + 1 + 1 + 1, 0, none⟩) 2 2, [3, 6]), (c, [1, 1]), (.slice (some ⟨w.heap.size + 1 + 1 + 1 + 1, 0, none⟩) 2 2, [0, 1]), (.slice (some ⟨w.heap.size + 1 + 1 + 1, 0, none⟩) 2 2, [1, 1])] [(W8.heap.size, .cells #[.slice Ap folR.by_.length cp, .slice Bp folR.start.length dp] 49 (0, 0)), (W7.heap.size, .cells #[.slice Ar fibR.by_.length cr, .slice Br fibR.start.length dr] 49 (0, 0)), (w.heap.size + 1 + 1 + 1 + 1 + 1, .cells #[.slice (some ⟨w.heap.size + 1 + 1 + 1, 0, none⟩) 2 2, .slice (some ⟨w.heap.size + 1 + 1 + 1 + 1, 0, none⟩) 2 2] 49 (0, 0))]) := Lib.hid (hbag.out.below hB)
  clear hB
  clear hX8 hBX8
  clear hBB
  have hBB := hBB'
  clear hBB'
  obtain ⟨q0, q1, -, -⟩ := ret_cell (hbag.out.2.2 (w.heap.size + 1 + 1 + 1 + 1 + 1, .cells #[.slice (some ⟨w.heap.size + 1 + 1 + 1, 0, none⟩) 2 2, .slice (some ⟨w.heap.size + 1 + 1 + 1 + 1, 0, none⟩) 2 2] 49 (0, 0)) (by simp))
  obtain ⟨q2, q3, -, -⟩ := ret_cell (hbag.out.2.2 (W7.heap.size, .cells #[.slice Ar fibR.by_.length cr, .slice Br fibR.start.length dr] 49 (0, 0)) (by simp))
  go_wp2_with fail
  refine (Same_same fibR _ _ _ ⟨_, _, rfl, (hbag.out.2.1 (.slice Ar fibR.by_.length cr, fibR.by_) (by simp)), (hbag.out.2.1 (.slice Br fibR.start.length dr, fibR.start) (by simp))⟩ ⟨_, _, rfl, (hbag.out.2.1 (.slice (some ⟨w.heap.size + 1 + 1 + 1, 0, none⟩) 2 2, [1, 1]) (by simp)), (hbag.out.2.1 (.slice (some ⟨w.heap.size + 1 + 1 + 1 + 1, 0, none⟩) 2 2, [0, 1]) (by simp))⟩).mono ?_
  rintro e W14 ⟨rfl, hB⟩
  have hBB' := Lib.hid (Below.then_ hBB.out hB)
  replace hbag : Hid (Bag W14 [(.slice (some ⟨W10.heap.size + 1 + 1, 0, none⟩) 2 2, [[0, 1], [1, 65520]]), (.slice (some ⟨W9.heap.size + 1 + 1, 0, none⟩) 2 2, [[8, 5], [5, 3]]), (.slice (some ⟨W4.heap.size + 1 + 1, 0, none⟩) 2 2, [[1, 1], [2, 2]]), (v, [[0, 1], [1, 65520]]), (m, [[8, 5], [5, 3]]), (.slice (some ⟨w.heap.size + 1 + 1, 0, none⟩) 2 2, aA)] [(.slice (some ⟨W12.heap.size, 0, none⟩) 2 2, [0, 3]), (.slice (some ⟨W11.heap.size, 0, none⟩) 2 2, [1, 1]), (.slice (some ⟨W8.heap.size + 1 + 1 + 1 + 1, 0, none⟩) 2 2, [1, 2]), (.slice (some ⟨W8.heap.size + 1 + 1 + 1, 0, none⟩) 2 2, [1, 2]), (.slice (some ⟨W8.heap.size + 1 + 1, 0, none⟩) 1 1, [1]), (.slice (some ⟨W8.heap.size + 1, 0, none⟩) 1 1, [2]), (.slice Bp folR.start.length dp, folR.start), (.slice Ap folR.by_.length cp, folR.by_), (.slice (some ⟨W7.heap.size + 1 + 1 + 1 + 1, 0, none⟩) 1 1, [1]), (.slice (some ⟨W7.heap.size + 1 + 1 + 1, 0, none⟩) 1 1, [1]), (.slice (some ⟨W7.heap.size + 1 + 1, 0, none⟩) 1 1, [1]), (.slice (some ⟨W7.heap.size + 1, 0, none⟩) 1 1, [1]), (.slice Br fibR.start.length dr, fibR.start), (.slice Ar fibR.by_.length cr, fibR.by_), (.slice (some ⟨W6.heap.size, 0, none⟩) 8 8, [0, 1, 1, 2, 3, 5, 8, 13]), (x, [0, 3]), (.slice (some ⟨W4.heap.size + 1 + 1 + 1, 0, none⟩) 2 2, [3, 6]), (c, [1, 1]), (.slice (some ⟨w.heap.size + 1 + 1 + 1 + 1, 0, none⟩) 2 2, [0, 1]), (.slice (some ⟨w.heap.size + 1 + 1 + 1, 0, none⟩) 2 2, [1, 1])] [(W8.heap.size, .cells #[.slice Ap folR.by_.length cp, .slice Bp folR.start.length dp] 49 (0, 0)), (W7.heap.size, .cells #[.slice Ar fibR.by_.length cr, .slice Br fibR.start.length dr] 49 (0, 0)), (w.heap.size + 1 + 1 + 1 + 1 + 1, .cells #[.slice (some ⟨w.heap.size + 1 + 1 + 1, 0, none⟩) 2 2, .slice (some ⟨w.heap.size + 1 + 1 + 1 + 1, 0, none⟩) 2 2] 49 (0, 0))]) := Lib.hid (hbag.out.below hB)
  clear hB
  clear hBB
  have hBB := hBB'
  clear hBB'
  clear q0 q1 q2 q3
  obtain ⟨q0, q1, -, -⟩ := ret_cell (hbag.out.2.2 (W8.heap.size, .cells #[.slice Ap folR.by_.length cp, .slice Bp folR.start.length dp] 49 (0, 0)) (by simp))
  obtain ⟨X9, hX9, hBX9, hbag⟩ : ∃ X, ((W14.alloc (.cells #[.int .i64 2, .int .i64 65520] 3)).alloc (.cells #[.int .i64 1, .int .i64 2] 3)) = X ∧ Hid (Below w.heap.size w X) ∧ Hid (Bag X [(.slice (some ⟨W10.heap.size + 1 + 1, 0, none⟩) 2 2, [[0, 1], [1, 65520]]), (.slice (some ⟨W9.heap.size + 1 + 1, 0, none⟩) 2 2, [[8, 5], [5, 3]]), (.slice (some ⟨W4.heap.size + 1 + 1, 0, none⟩) 2 2, [[1, 1], [2, 2]]), (v, [[0, 1], [1, 65520]]), (m, [[8, 5], [5, 3]]), (.slice (some ⟨w.heap.size + 1 + 1, 0, none⟩) 2 2, aA)] [(.slice (some ⟨W14.heap.size + 1, 0, none⟩) 2 2, [1, 2]), (.slice (some ⟨W14.heap.size, 0, none⟩) 2 2, [2, 65520]), (.slice (some ⟨W12.heap.size, 0, none⟩) 2 2, [0, 3]), (.slice (some ⟨W11.heap.size, 0, none⟩) 2 2, [1, 1]), (.slice (some ⟨W8.heap.size + 1 + 1 + 1 + 1, 0, none⟩) 2 2, [1, 2]), (.slice (some ⟨W8.heap.size + 1 + 1 + 1, 0, none⟩) 2 2, [1, 2]), (.slice (some ⟨W8.heap.size + 1 + 1, 0, none⟩) 1 1, [1]), (.slice (some ⟨W8.heap.size + 1, 0, none⟩) 1 1, [2]), (.slice Bp folR.start.length dp, folR.start), (.slice Ap folR.by_.length cp, folR.by_), (.slice (some ⟨W7.heap.size + 1 + 1 + 1 + 1, 0, none⟩) 1 1, [1]), (.slice (some ⟨W7.heap.size + 1 + 1 + 1, 0, none⟩) 1 1, [1]), (.slice (some ⟨W7.heap.size + 1 + 1, 0, none⟩) 1 1, [1]), (.slice (some ⟨W7.heap.size + 1, 0, none⟩) 1 1, [1]), (.slice Br fibR.start.length dr, fibR.start), (.slice Ar fibR.by_.length cr, fibR.by_), (.slice (some ⟨W6.heap.size, 0, none⟩) 8 8, [0, 1, 1, 2, 3, 5, 8, 13]), (x, [0, 3]), (.slice (some ⟨W4.heap.size + 1 + 1 + 1, 0, none⟩) 2 2, [3, 6]), (c, [1, 1]), (.slice (some ⟨w.heap.size + 1 + 1 + 1 + 1, 0, none⟩) 2 2, [0, 1]), (.slice (some ⟨w.heap.size + 1 + 1 + 1, 0, none⟩) 2 2, [1, 1])] [(W8.heap.size, .cells #[.slice Ap folR.by_.length cp, .slice Bp folR.start.length dp] 49 (0, 0)), (W7.heap.size, .cells #[.slice Ar fibR.by_.length cr, .slice Br fibR.start.length dr] 49 (0, 0)), (w.heap.size + 1 + 1 + 1 + 1 + 1, .cells #[.slice (some ⟨w.heap.size + 1 + 1 + 1, 0, none⟩) 2 2, .slice (some ⟨w.heap.size + 1 + 1 + 1 + 1, 0, none⟩) 2 2] 49 (0, 0))]) := by
    have hg := fun i o h => allocs_get W14 [.cells #[.int .i64 2, .int .i64 65520] 3, .cells #[.int .i64 1, .int .i64 2] 3] i o h
    have hlow := allocs_below W14 [.cells #[.int .i64 2, .int .i64 65520] 3, .cells #[.int .i64 1, .int .i64 2] 3]
    have h := hbag.out.below hlow
    have h := h.addI (RdI_lit (xs := [2, 65520]) (hg 0 _ rfl) rfl (by decide))
    have h := h.addI (RdI_lit (xs := [1, 2]) (hg 1 _ rfl) rfl (by decide))
    exact ⟨_, rfl, Lib.hid (Below.then_ hBB.out hlow), Lib.hid h⟩
  replace hX9 := Lib.hid hX9
  go_wp2_with fail
  rw [hX9.out]
  refine (Same_same folR _ _ _ ⟨_, _, rfl, (hbag.out.2.1 (.slice Ap folR.by_.length cp, folR.by_) (by simp)), (hbag.out.2.1 (.slice Bp folR.start.length dp, folR.start) (by simp))⟩ ⟨_, _, rfl, (hbag.out.2.1 (.slice (some ⟨W14.heap.size, 0, none⟩) 2 2, [2, 65520]) (by simp)), (hbag.out.2.1 (.slice (some ⟨W14.heap.size + 1, 0, none⟩) 2 2, [1, 2]) (by simp))⟩).mono ?_
  rintro e W15 ⟨rfl, hB⟩
  have hBB' := Lib.hid (Below.then_ hBX9.out hB)
  replace hbag : Hid (Bag W15 [(.slice (some ⟨W10.heap.size + 1 + 1, 0, none⟩) 2 2, [[0, 1], [1, 65520]]), (.slice (some ⟨W9.heap.size + 1 + 1, 0, none⟩) 2 2, [[8, 5], [5, 3]]), (.slice (some ⟨W4.heap.size + 1 + 1, 0, none⟩) 2 2, [[1, 1], [2, 2]]), (v, [[0, 1], [1, 65520]]), (m, [[8, 5], [5, 3]]), (.slice (some ⟨w.heap.size + 1 + 1, 0, none⟩) 2 2, aA)] [(.slice (some ⟨W14.heap.size + 1, 0, none⟩) 2 2, [1, 2]), (.slice (some ⟨W14.heap.size, 0, none⟩) 2 2, [2, 65520]), (.slice (some ⟨W12.heap.size, 0, none⟩) 2 2, [0, 3]), (.slice (some ⟨W11.heap.size, 0, none⟩) 2 2, [1, 1]), (.slice (some ⟨W8.heap.size + 1 + 1 + 1 + 1, 0, none⟩) 2 2, [1, 2]), (.slice (some ⟨W8.heap.size + 1 + 1 + 1, 0, none⟩) 2 2, [1, 2]), (.slice (some ⟨W8.heap.size + 1 + 1, 0, none⟩) 1 1, [1]), (.slice (some ⟨W8.heap.size + 1, 0, none⟩) 1 1, [2]), (.slice Bp folR.start.length dp, folR.start), (.slice Ap folR.by_.length cp, folR.by_), (.slice (some ⟨W7.heap.size + 1 + 1 + 1 + 1, 0, none⟩) 1 1, [1]), (.slice (some ⟨W7.heap.size + 1 + 1 + 1, 0, none⟩) 1 1, [1]), (.slice (some ⟨W7.heap.size + 1 + 1, 0, none⟩) 1 1, [1]), (.slice (some ⟨W7.heap.size + 1, 0, none⟩) 1 1, [1]), (.slice Br fibR.start.length dr, fibR.start), (.slice Ar fibR.by_.length cr, fibR.by_), (.slice (some ⟨W6.heap.size, 0, none⟩) 8 8, [0, 1, 1, 2, 3, 5, 8, 13]), (x, [0, 3]), (.slice (some ⟨W4.heap.size + 1 + 1 + 1, 0, none⟩) 2 2, [3, 6]), (c, [1, 1]), (.slice (some ⟨w.heap.size + 1 + 1 + 1 + 1, 0, none⟩) 2 2, [0, 1]), (.slice (some ⟨w.heap.size + 1 + 1 + 1, 0, none⟩) 2 2, [1, 1])] [(W8.heap.size, .cells #[.slice Ap folR.by_.length cp, .slice Bp folR.start.length dp] 49 (0, 0)), (W7.heap.size, .cells #[.slice Ar fibR.by_.length cr, .slice Br fibR.start.length dr] 49 (0, 0)), (w.heap.size + 1 + 1 + 1 + 1 + 1, .cells #[.slice (some ⟨w.heap.size + 1 + 1 + 1, 0, none⟩) 2 2, .slice (some ⟨w.heap.size + 1 + 1 + 1 + 1, 0, none⟩) 2 2] 49 (0, 0))]) := Lib.hid (hbag.out.below hB)
  clear hB
  clear hX9 hBX9
  clear hBB
  have hBB := hBB'
  clear hBB'
  go_wp2
  go_ret
  exact ⟨rfl, hBB.out⟩
end Go.Proofs.YtfljkcmijnhgkaaDoor
