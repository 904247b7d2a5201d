/- Literals in memory; what a walk holds of memory, in one bag; the examples of awake, each by its contract. -/
import Derived.Test.YtfljkcmijnhgkaaDoorSums
import Derived.Test.YtfljkcmijnhgkaaDoorChar
import Derived.Test.YtfljkcmijnhgkaaDoorInv
import Derived.Test.YtfljkcmijnhgkaaDoorSame
import Derived.Test.YtfljkcmijnhgkaaDoorEqRows
namespace Go.Proofs.YtfljkcmijnhgkaaDoor
open Go.RowKit Go.Shelf

def allocs (w : World) (os : List Obj) : World := os.foldl World.alloc w
theorem allocs_size (w : World) (os : List Obj) : (allocs w os).heap.size = w.heap.size + os.length := by
  induction os generalizing w with
  | nil => rfl
  | cons o os ih => show (allocs (w.alloc o) os).heap.size = _; rw [ih, World.size_alloc, List.length_cons]; omega
theorem allocs_below (w : World) (os : List Obj) : Below w.heap.size w (allocs w os) := by
  induction os generalizing w with
  | nil => exact Below.refl _ _
  | cons o os ih => exact ((Below.refl _ w).alloc (Nat.le_refl _) o).trans ((ih (w.alloc o)).mono (by simp))
theorem allocs_get (w : World) (os : List Obj) (i : Nat) (o : Obj) (h : os[i]? = some o) : (allocs w os).heap[w.heap.size + i]? = some o := by
  induction os generalizing w i with
  | nil => cases h
  | cons p os ih =>
    cases i with
    | zero =>
      have : p = o := by simpa using h
      subst this
      exact ((allocs_below (w.alloc p) os).block w.heap.size (by simp)).trans (heap_alloc_new w p)
    | succ i =>
      have h2 := ih (w.alloc p) i (by simpa using h)
      rw [World.size_alloc] at h2
      rw [show w.heap.size + (i + 1) = w.heap.size + 1 + i from by omega]
      exact h2
theorem RdI_lit {W : World} {b n : Nat} {xs : List Int} (hb : W.heap[b]? = some (.cells (ints xs).toArray 3 (0, 0))) (hn : xs.length = n) (hl : n ≤ 1000) : RdI W (.slice (some ⟨b, 0, none⟩) n n) xs := by
  refine ⟨some ⟨b, 0, none⟩, n, by rw [ints_len, hn], by rw [ints_len]; omega, by rw [ints_len]; omega, fun _ => ⟨b, 0, rfl, fun j u hj => ?_⟩⟩
  rw [Nat.zero_add]
  unfold World.cell?
  rw [hb]
  show (ints xs).toArray[j]? = _
  rw [List.getElem?_toArray, hj]
theorem RdM_lit2 {W : World} {b : Nat} {u0 u1 : Value} {r0 r1 : List Int} (hb : W.heap[b]? = some (.cells #[u0, u1] 23 (0, 0))) (h0 : RdI W u0 r0) (h1 : RdI W u1 r1) : RdM W (.slice (some ⟨b, 0, none⟩) 2 2) [r0, r1] := by
  refine ⟨[u0, u1], ⟨some ⟨b, 0, none⟩, 2, rfl, Nat.le_refl _, by simp, fun _ => ⟨b, 0, rfl, fun j u hj => ?_⟩⟩, rfl, fun j r u hr hu => ?_⟩
  · rw [Nat.zero_add]
    unfold World.cell?
    rw [hb]
    show (#[u0, u1] : Array Value)[j]? = _
    rw [← hj]; simp
  · match j, hr, hu with
    | 0, hr, hu => cases hr; cases hu; exact h0
    | 1, hr, hu => cases hr; cases hu; exact h1
/-- What is read of memory. -/
def Bag (W : World) (ms : List (Value × List (List Int))) (is : List (Value × List Int)) (bs : List (Nat × Obj)) : Prop := (∀ p ∈ ms, RdM W p.1 p.2) ∧ (∀ p ∈ is, RdI W p.1 p.2) ∧ ∀ p ∈ bs, W.heap[p.1]? = some p.2
theorem Bag.below {W W' : World} {ms : List (Value × List (List Int))} {is : List (Value × List Int)} {bs : List (Nat × Obj)} (h : Bag W ms is bs) (hB : Below W.heap.size W W') : Bag W' ms is bs :=
  ⟨fun p hp => (h.1 p hp).below hB (Nat.le_refl _), fun p hp => (h.2.1 p hp).below hB (Nat.le_refl _), fun p hp => (hB.block p.1 (Array.getElem?_eq_some_iff.1 (h.2.2 p hp)).1).trans (h.2.2 p hp)⟩
theorem Bag.nil (W : World) : Bag W [] [] [] := ⟨fun _ h => (by cases h), fun _ h => (by cases h), fun _ h => (by cases h)⟩
theorem Bag.addM {W : World} {ms : List (Value × List (List Int))} {is : List (Value × List Int)} {bs : List (Nat × Obj)} (h : Bag W ms is bs) {v : Value} {rs : List (List Int)} (hv : RdM W v rs) : Bag W ((v, rs) :: ms) is bs :=
  ⟨fun p hp => (List.mem_cons.1 hp).elim (fun e => by rw [e]; exact hv) (h.1 p), h.2⟩
theorem Bag.addI {W : World} {ms : List (Value × List (List Int))} {is : List (Value × List Int)} {bs : List (Nat × Obj)} (h : Bag W ms is bs) {v : Value} {xs : List Int} (hv : RdI W v xs) : Bag W ms ((v, xs) :: is) bs :=
  ⟨h.1, fun p hp => (List.mem_cons.1 hp).elim (fun e => by rw [e]; exact hv) (h.2.1 p), h.2.2⟩
theorem Bag.addB {W : World} {ms : List (Value × List (List Int))} {is : List (Value × List Int)} {bs : List (Nat × Obj)} (h : Bag W ms is bs) {b : Nat} {o : Obj} (hv : W.heap[b]? = some o) : Bag W ms is ((b, o) :: bs) :=
  ⟨h.1, h.2.1, fun p hp => (List.mem_cons.1 hp).elim (fun e => by rw [e]; exact hv) (h.2.2 p)⟩

def aA : List (List Int) := [[1, 1], [1, 0]]
def fibR : Rule := ⟨[1, 1], [0, 1]⟩
def oneR : Rule := ⟨[1], [1]⟩
def twoR : Rule := ⟨[2], [1]⟩
def othR : Rule := ⟨[1, 2], [1, 2]⟩
def folR : Rule := ⟨[2, 65520], [1, 2]⟩
theorem e_pow : powR aA 5 = (0, [[8, 5], [5, 3]]) := by kernel_rfl
theorem e_det : detR aA = (65520, 0) := by kernel_rfl
theorem e_inv : invMR aA = (0, [[0, 1], [1, 65520]]) := by kernel_rfl
theorem e_char : charR aA = (0, [1, 1]) := by kernel_rfl
theorem e_sol : solR [[1, 1], [2, 2]] [3, 6] = (0, [0, 3]) := by kernel_rfl
theorem e_term : termR fibR 25 = (9504, 0) := by kernel_rfl
theorem e_least : leastR [0, 1, 1, 2, 3, 5, 8, 13] = (fibR, 0) := by kernel_rfl
theorem e_fold : joinR 2 oneR oneR = (folR, 0) := by kernel_rfl
theorem e_apart : apartR twoR othR = (0, 6) := by kernel_rfl
theorem aw_power (v : Value) (W : World) (h : RdM W v aA) : Calls Tryd.prog 30 #[v, .int .i64 5] W fun e w' => ∃ m, e = .returned (.tuple #[m, .int .i64 0]) ∧ RdM w' m [[8, 5], [5, 3]] ∧ Below W.heap.size W w' := by
  refine (Power_any aA 5 v W h (by decide)).mono ?_
  rintro e w' ⟨m, rfl, hO, hB⟩
  rw [e_pow] at hO ⊢
  exact ⟨m, rfl, hO.rd (by decide) (by decide), hB⟩
theorem aw_det (v : Value) (W : World) (h : RdM W v aA) : Calls Tryd.prog 28 #[v] W fun e w' => e = .returned (.tuple #[.int .i64 65520, .int .i64 0]) ∧ Below W.heap.size W w' := by
  refine (Det_any aA v W h).mono ?_
  rintro e w' ⟨rfl, hB⟩
  rw [e_det]
  exact ⟨rfl, hB⟩
theorem aw_inverse (v : Value) (W : World) (h : RdM W v aA) : Calls Tryd.prog 54 #[v] W fun e w' => ∃ m, e = .returned (.tuple #[m, .int .i64 0]) ∧ RdM w' m [[0, 1], [1, 65520]] ∧ Below W.heap.size W w' := by
  refine (Inverse_any aA v W h).mono ?_
  rintro e w' ⟨m, rfl, hR, -, hB⟩
  rw [e_inv] at hR ⊢
  exact ⟨m, rfl, hR, hB⟩
theorem aw_char (v : Value) (W : World) (h : RdM W v aA) : Calls Tryd.prog 27 #[v] W fun e w' => ∃ m, e = .returned (.tuple #[m, .int .i64 0]) ∧ RdI w' m [1, 1] ∧ Below W.heap.size W w' := by
  refine (Char_any aA v W h).mono ?_
  rintro e w' ⟨m, rfl, hO, hB⟩
  rw [e_char] at hO ⊢
  exact ⟨m, rfl, hO.rd (by decide), hB⟩
theorem aw_solve (v u : Value) (W : World) (h : RdM W v [[1, 1], [2, 2]]) (h2 : RdI W u [3, 6]) : Calls Tryd.prog 22 #[v, u] W fun e w' => ∃ m, e = .returned (.tuple #[m, .int .i64 0]) ∧ RdI w' m [0, 3] ∧ Below W.heap.size W w' := by
  refine (Solve_any _ _ v u W h h2).mono ?_
  rintro e w' ⟨m, rfl, hO, hB⟩
  rw [e_sol] at hO ⊢
  exact ⟨m, rfl, hO.rd (by decide), hB⟩
theorem aw_term (v : Value) (W : World) (h : RdR W v fibR) : Calls Tryd.prog 59 #[v, .int .i64 25] W fun e w' => e = .returned (.tuple #[.int .i64 9504, .int .i64 0]) ∧ Below W.heap.size W w' := by
  refine (Term_any fibR 25 v W (by decide) h).mono ?_
  rintro e w' ⟨rfl, hB⟩
  rw [e_term]
  exact ⟨rfl, hB⟩
/-- A rule told by its slices. -/
def RuleAt (r : Rule) (w' : World) (v : Value) : Prop := ∃ A c B d, v = .agg #[.slice A r.by_.length c, .slice B r.start.length d] ∧ RdI w' (.slice A r.by_.length c) r.by_ ∧ RdI w' (.slice B r.start.length d) r.start
theorem OwnR.at_ {w : World} {base : Nat} {v : Value} {r : Rule} (h : OwnR w base v r) (h1 : r.by_.length ≤ 1000) (h2 : r.start.length ≤ 1000) : RuleAt r w v := by
  obtain ⟨a, b, rfl, oa, ob⟩ := h
  have ha := oa
  have hb := ob
  unfold OwnI at ha hb
  obtain ⟨A, c, rfl⟩ := own_form ha
  obtain ⟨B, d, rfl⟩ := own_form hb
  exact ⟨A, c, B, d, rfl, oa.rd (by omega), ob.rd (by omega)⟩
theorem aw_least (v : Value) (W : World) (h : RdI W v [0, 1, 1, 2, 3, 5, 8, 13]) : Calls Tryd.prog 47 #[v] W fun e w' => ∃ m, e = .returned (.tuple #[m, .int .i64 0]) ∧ RuleAt fibR w' m ∧ Below W.heap.size W w' := by
  refine (Least_any _ v W h).mono ?_
  rintro e w' ⟨m, rfl, hO, hB⟩
  rw [e_least] at hO ⊢
  exact ⟨m, rfl, hO.at_ (by decide) (by decide), hB⟩
theorem aw_folded (v u : Value) (W : World) (h : RdR W v oneR) (h2 : RdR W u oneR) (hJ : Joins W) : Calls Tryd.prog 42 #[v, u] W fun e w' => ∃ m, e = .returned (.tuple #[m, .int .i64 0]) ∧ RuleAt folR w' m ∧ Below W.heap.size W w' := by
  refine (Folded_any _ _ v u W h h2 hJ).mono ?_
  rintro e w' ⟨m, rfl, hO, hB⟩
  rw [e_fold] at hO ⊢
  exact ⟨m, rfl, hO.at_ (by decide) (by decide), hB⟩
theorem aw_apart (v u : Value) (W : World) (h : RdR W v twoR) (h2 : RdR W u othR) : Calls Tryd.prog 39 #[v, u] W fun e w' => e = .returned (.tuple #[.int .i64 0, .int .i64 6]) ∧ Below W.heap.size W w' := by
  refine (Apart_any _ _ v u W h h2).mono ?_
  rintro e w' ⟨rfl, hB⟩
  rw [e_apart]
  exact ⟨rfl, hB⟩
theorem aw_norm (W : World) : Calls Tryd.prog 72 #[.int .i64 (-1)] W fun e w' => e = .returned (.int .i64 65520) ∧ W = w' := Norm_any (-1) W (by decide) (by decide)
theorem EqRows_same (xs : List (List Int)) (v u : Value) (W : World) (h : RdM W v xs) (h2 : RdM W u xs) : Calls Tryd.prog 24 #[v, u] W fun e w' => e = .returned (.bool true) ∧ Below W.heap.size W w' := by
  have := EqRows_any xs xs v u W h h2
  rwa [decide_eq_true rfl] at this
theorem Equal_same (xs : List Int) (v u : Value) (W : World) (h : RdI W v xs) (h2 : RdI W u xs) : Calls Tryd.prog 23 #[v, u] W fun e w' => e = .returned (.bool true) ∧ Below W.heap.size W w' := by
  have := Equal_any xs xs v u W h h2
  rwa [decide_eq_true rfl] at this
theorem Same_same (r : Rule) (v u : Value) (W : World) (h : RdR W v r) (h2 : RdR W u r) : Calls Tryd.prog 44 #[v, u] W fun e w' => e = .returned (.bool true) ∧ Below W.heap.size W w' := by
  have := Same_any r r v u W h h2
  rwa [sameR, decide_eq_true rfl, decide_eq_true rfl] at this
end Go.Proofs.YtfljkcmijnhgkaaDoor
