/- A range over an iterator of numbers that keeps a block of cells of its own, and is left by its N-th round at the latest. The iterator of a line's terms; first: their contracts. terms, first: their contracts. -/
import Derived.Test.YtfljkcmijnhgkaaDoorKj
import Derived.RangeFuncNested
import Derived.RangeFuncBound
import Derived.RangeFuncCalls
import Derived.RangeFuncLeaves
import Derived.Shelf.Abstract
import Derived.Shelf.RegionOpen
import Derived.OwnWalkIn
import Derived.TacticsInMore
import Derived.LoopNIn
import Derived.LoopIn
import Derived.Laws.CopyRow
import Derived.Maps.OwnIn
namespace Go.Proofs.YtfljkcmijnhgkaaDoor
open Go.RowKit Go.Shelf
/-- What a round that goes on keeps for the iterator: all below n₀, and two blocks. -/
structure Keeps (n₀ x y : Nat) (A B : World) : Prop where
  below : Below n₀ A B
  one : B.heap[x]? = A.heap[x]?
  two : B.heap[y]? = A.heap[y]?
theorem Keeps.trans {n₀ x y : Nat} {A B C : World} (h : Keeps n₀ x y A B) (k : Keeps n₀ x y B C) : Keeps n₀ x y A C := ⟨h.below.trans k.below, k.one.trans h.one, k.two.trans h.two⟩
/-- THE ITERATOR g GIVES NUMBERS UNTIL A ROUND SAYS NO MORE, which it does at its N-th at the latest; its own cells lie in the block that it lays first. -/
def UpTo (P : Program) (g : Nat) (lb : Array Value) (T : List Int → Prop) (N n₀ x : Nat) (W : World) : Prop :=
  ∀ (l : Nat) (J Jx : List Int → World → Prop), (∀ s A B row, J s A → A.grownBy B row → (∀ k, row = some k → k = W.heap.size) → J s B) → (∀ s A B row, Jx s A → A.grownBy B row → (∀ k, row = some k → k = W.heap.size) → Jx s B) →
    (∀ pre v W1, J pre W1 → pre.length < N → W.heap.size < W1.heap.size → YieldAt Fence.wide 7 P l #[.int .i64 v] W1 fun e W' =>
      (e = .returned (.bool true) ∧ J (pre ++ [v]) W' ∧ Keeps n₀ x W.heap.size W1 W' ∧ pre.length + 1 < N) ∨ (e = .returned (.bool false) ∧ Jx (pre ++ [v]) W')) →
    J [] W → CallsIn Fence.wide 8 P g (#[.func (.yield l) #[] #[]] ++ lb) W fun e W' => (∃ v, e = .returned v) ∧ ∃ pre, T pre ∧ Jx pre W'
/-- How a round may end. -/
def roundEnd (B N n₀ x id : Nat) (I Ix : List Int → World → Prop) (pre : List Int) (v : Int) (W : World) : Exit → Act → World → Prop
  | .normal, _, W' => (∀ k, B ≤ k → k < B + 2 → W'.heap[k]? = W.heap[k]?) ∧ Keeps n₀ x (B + 2) W W' ∧ I (pre ++ [v]) W' ∧ pre.length + 1 < N
  | .exit i, _, W' => i = id ∧ (∀ k, B ≤ k → k < B + 2 → W'.heap[k]? = W.heap[k]?) ∧ Ix (pre ++ [v]) W'
  | _, _, _ => False
theorem keeps_put {n₀ x y l : Nat} {W : World} {o : Obj} (h0 : n₀ ≤ l) (hx : l ≠ x) (hy : l ≠ y) (hW : l < W.heap.size) : Keeps n₀ x y W (W.putObj l o) :=
  ⟨(Below.refl n₀ W).grown (grownBy_putObj' W l o) (by omega) (fun k e => by cases e; exact h0), World.putObj_heap_other (Ne.symm hx), World.putObj_heap_other (Ne.symm hy)⟩
theorem wpIn_range_upTo {P : Program} {g : Operand} {p : Tmp} {assign body : Code} {Q : Exit → Act → World → Prop} {a : Act} {w : World} {gf : Nat} {lb : Array Value} {T : List Int → Prop} {N n₀ x : Nat}
    (hg : a.eval g = .func (.func gf) #[] lb) (eg : ∀ args w, (callFunc gf args).run P w = .ok (.enter gf args) w)
    (hseq : ∀ W, W.heap.size = w.heap.size + 2 → Below w.heap.size w W → UpTo P gf lb T N n₀ x W) (hn : n₀ ≤ w.heap.size) (hx : x < w.heap.size)
    (I Ix : List Int → World → Prop) (hI : ∀ s A B row, I s A → A.grownBy B row → (∀ k, row = some k → w.heap.size ≤ k ∧ k < w.heap.size + 3) → I s B)
    (hIx : ∀ s A B row, Ix s A → A.grownBy B row → (∀ k, row = some k → w.heap.size ≤ k ∧ k < w.heap.size + 3) → Ix s B) (h0 : I [] w) (a₁ : Int → Act) (id : Nat)
    (hassign : ∀ (l : Nat) (v : Int) (W : World) (K : Act → World → Prop), K (a₁ v) W → assign.wpIn (Fence.wide.inRound l) 7 P (Exit.then K (fun _ _ _ => False)) { tmps := a.tmps.setIfInBounds p (.int .i64 v), defers := [] } W)
    (hbody : ∀ (l : Nat) (pre : List Int) (v : Int) (W : World), I pre W → pre.length < N → w.heap.size + 3 ≤ W.heap.size → body.wpIn (Fence.wide.inRound l) 7 P (roundEnd w.heap.size N n₀ x id I Ix pre v W) (a₁ v) W)
    (hstop : ∀ (D : Nat) (pre : List Int) (W : World), D = w.heap.size → T pre → Ix pre W → W.heap[D]? = some (.deferred (some [])) → (Code.exit id).wpIn Fence.wide 9 P Q { a with defers := { target := .collected D, args := #[] } :: a.defers } W) :
    (Code.rangeFunc g #[p] assign body).wpIn Fence.wide 9 P Q a w := by
  refine wpIn_rangeFunc ?_
  intro fn hfn
  -- the loop's record, by its state and what is pending
  let rec_ : LoopState → Option Code → Loop := fun st pe => { state := st, pending := pe, fn, tmps := a.tmps, params := #[p], assign, body, defers := w.heap.size }
  have hrec : ∀ st pe, rec_ st pe = { state := st, pending := pe, fn, tmps := a.tmps, params := #[p], assign, body, defers := w.heap.size } := fun _ _ => rfl
  generalize rec_ = rc at hrec
  have hW1 : ∃ W1, (w.alloc (.deferred (some []))).alloc (.loop (rc .ready none)) = W1 ∧ W1.heap.size = w.heap.size + 2 ∧ Below w.heap.size w W1 ∧ W1.heap[w.heap.size + 1]? = some (.loop (rc .ready none)) ∧ W1.heap[w.heap.size]? = some (.deferred (some [])) ∧ I [] W1 := by
    refine ⟨_, rfl, by simp, ((Below.refl _ w).alloc (Nat.le_refl _) _).alloc (by simp) _, ?_, (Below.heap_alloc _ _ _ (by simp)).trans (World.alloc_heap_new w _), ?_⟩
    · have := World.alloc_heap_new (w.alloc (.deferred (some []))) (.loop (rc .ready none)); rwa [World.size_alloc] at this
    · exact hI _ _ _ none (hI _ _ _ none h0 (World.grownBy_alloc _ _ _) (fun _ e => by cases e)) (World.grownBy_alloc _ _ _) (fun _ e => by cases e)
  obtain ⟨W1, eW, hs1, hb1, hL1, hK1, hI1⟩ := hW1
  refine ⟨w.heap.size + 1, [{ target := .collected w.heap.size, args := #[] }], W1, { target := .fn (.func gf) lb, args := #[.func (.yield (w.heap.size + 1)) #[] #[]] }, W1, gf,
    #[.func (.yield (w.heap.size + 1)) #[] #[]] ++ lb, W1, ?_, ?_, fun _ _ => trivial, ?_, fun h => by simp [Fence.wide] at h, ?_⟩
  · rw [← eW, hrec]; exact run_enterLoop_outer _ _ _ _ _
  · simp only [resolve, hg]
    simp [go_sem]
  · simp [invoke, go_sem, eg]
  have hother : ∀ {A B : World} {row : Option Nat} {k : Nat} {o : Obj}, A.grownBy B row → (∀ j, row = some j → j = w.heap.size + 2) → k < w.heap.size + 2 → A.heap[k]? = some o → B.heap[k]? = some o := by
    intro A B row k o hgr hr hk ho
    exact (hgr.block k (Array.getElem?_eq_some_iff.1 ho).1 (fun e => by have := hr k e.symm; omega)).trans ho
  have hput : ∀ {s : List Int} {A : World} {l : Nat} {o o' : Obj} {M : List Int → World → Prop}, (∀ s A B row, M s A → A.grownBy B row → (∀ k, row = some k → w.heap.size ≤ k ∧ k < w.heap.size + 3) → M s B) → M s A → A.heap[l]? = some o → w.heap.size ≤ l → l < w.heap.size + 3 → M s (A.putObj l o') := by
    intro s A l o o' M hM hm _ h1 h2
    exact hM s A _ (some l) hm (grownBy_putObj' A l o') (fun k e => by cases e; exact ⟨h1, h2⟩)
  refine (hseq W1 hs1 hb1 (w.heap.size + 1)
    (fun pre W => (I pre W ∧ w.heap.size + 2 ≤ W.heap.size) ∧ W.heap[w.heap.size + 1]? = some (.loop (rc .ready none)) ∧ W.heap[w.heap.size]? = some (.deferred (some [])))
    (fun pre W => Ix pre W ∧ W.heap[w.heap.size + 1]? = some (.loop (rc .done (some (.exit id)))) ∧ W.heap[w.heap.size]? = some (.deferred (some [])))
    (fun s A B row hs hgr hr => ⟨⟨hI s A B row hs.1.1 hgr (fun k e => by have := hr k e; omega), Nat.le_trans hs.1.2 hgr.size⟩, hother hgr (fun j e => by have := hr j e; omega) (by omega) hs.2.1, hother hgr (fun j e => by have := hr j e; omega) (by omega) hs.2.2⟩)
    (fun s A B row hs hgr hr => ⟨hIx s A B row hs.1 hgr (fun k e => by have := hr k e; omega), hother hgr (fun j e => by have := hr j e; omega) (by omega) hs.2.1, hother hgr (fun j e => by have := hr j e; omega) (by omega) hs.2.2⟩)
    ?_ ⟨⟨hI1, by omega⟩, hL1, hK1⟩).mono ?_
  · rintro pre v W ⟨⟨hi, hsz⟩, hl, hk⟩ hlen hsz3
    have hlt := (Array.getElem?_eq_some_iff.1 hl).1
    have hy := run_yield (P := P) (args := #[.int .i64 v]) hl (by rw [hrec]; rfl)
    rw [hrec] at hy
    have hz : ((#[p] : Array Tmp).zip #[Value.int .i64 v]).foldl (fun tmps (t, a) => tmps.setIfInBounds t a) a.tmps = a.tmps.setIfInBounds p (.int .i64 v) := by simp
    dsimp only at hy
    rw [hz] at hy
    refine ⟨fn, _, assign, body, hy, roundIn_of_wpIn hfn ?_⟩
    refine hassign (w.heap.size + 1) v W _ ?_
    refine ⟨_, run_beginRound hl (by rw [hrec]), ?_⟩
    have hl2 : (W.putObj (w.heap.size + 1) (.loop { rc .ready none with state := .busy })).heap[w.heap.size + 1]? = some (.loop { rc .ready none with state := .busy }) := World.putObj_heap_same hlt
    have hk2 : (W.putObj (w.heap.size + 1) (.loop { rc .ready none with state := .busy })).heap[w.heap.size]? = some (.deferred (some [])) := (World.putObj_heap_other (by omega)).trans hk
    have fin : ∀ (jump : Option Code) (W3 : World), (∀ k, w.heap.size ≤ k → k < w.heap.size + 2 → W3.heap[k]? = (W.putObj (w.heap.size + 1) (.loop { rc .ready none with state := .busy })).heap[k]?) →
        (Instr.endRound (w.heap.size + 1) jump).run P W3 = .ok (.bool jump.isNone) (W3.putObj (w.heap.size + 1) (.loop (rc (if jump.isNone then .ready else .done) jump))) ∧
        W3.heap[w.heap.size + 1]? = some (.loop { rc .ready none with state := .busy }) ∧
        (W3.putObj (w.heap.size + 1) (.loop (rc (if jump.isNone then .ready else .done) jump))).heap[w.heap.size + 1]? = some (.loop (rc (if jump.isNone then .ready else .done) jump)) ∧
        (W3.putObj (w.heap.size + 1) (.loop (rc (if jump.isNone then .ready else .done) jump))).heap[w.heap.size]? = some (.deferred (some [])) := by
      intro jump W3 hk3
      have hl3 := (hk3 (w.heap.size + 1) (by omega) (by omega)).trans hl2
      have h := run_endRound (P := P) jump hl3
      refine ⟨?_, hl3, World.putObj_heap_same (Array.getElem?_eq_some_iff.1 hl3).1, (World.putObj_heap_other (by omega)).trans ((hk3 _ (by omega) (by omega)).trans hk2)⟩
      rw [h, hrec, hrec]
    refine wpIn_mono (hbody _ pre v _ (hput hI hi hl (by omega) (by omega)) hlen (by simp; omega)) ?_
    rintro e a3 W3 hp
    cases e with
    | normal =>
      obtain ⟨hk3, hkp, hi3, hN⟩ := hp
      obtain ⟨hr, hl3, hl4, hk4⟩ := fin none W3 hk3
      have hlt3 := (Array.getElem?_eq_some_iff.1 hl3).1
      refine ⟨_, _, hr, .inl ⟨rfl, ⟨⟨hput hI hi3 hl3 (by omega) (by omega), by simp; omega⟩, hl4, hk4⟩, ?_, hN⟩⟩
      rw [hs1]
      exact ((keeps_put (by omega) (by omega) (by omega) hlt).trans hkp).trans (keeps_put (by omega) (by omega) (by omega) hlt3)
    | exit i =>
      obtain ⟨rfl, hk3, hi3⟩ := hp
      obtain ⟨hr, hl3, hl4, hk4⟩ := fin (some (.exit i)) W3 hk3
      exact ⟨_, _, hr, .inr ⟨rfl, hput hIx hi3 hl3 (by omega) (by omega), hl4, hk4⟩⟩
    | ret => exact hp.elim
    | goto t => exact hp.elim
    | panic ch => exact hp.elim
    | outgrown => exact hp.elim
  · rintro e W2 ⟨⟨v, rfl⟩, pre, hT, hi, hl, hk⟩
    have h := run_endLoop (P := P) hl (by rw [hrec]; simp)
    rw [hrec] at h
    exact ⟨some (.exit id), _, h, hstop _ pre _ rfl hT (hput hIx hi hl (by omega) (by omega)) ((World.putObj_heap_other (by omega)).trans hk)⟩
end Go.Proofs.YtfljkcmijnhgkaaDoor

namespace Go.Proofs.YtfljkcmijnhgkaaDoor
open Go.RowKit Go.Shelf
set_option linter.unusedSimpArgs false
attribute [local go_sem] Oper.semAt_some
def termK (r : Rule) (k : Nat) : Int := if k < r.start.length then r.start.getD k 0 else nextT r.by_ (firstL r k)
theorem firstL_succ (r : Rule) (k : Nat) : firstL r (k + 1) = firstL r k ++ [termK r k] := rfl
theorem firstL_len (r : Rule) (k : Nat) : (firstL r k).length = k := by
  induction k with
  | zero => rfl
  | succ k ih => rw [firstL_succ, List.length_append, ih]; rfl
/-- The window behind k terms. -/
def winL (r : Rule) : Nat → List Int
  | 0 => List.replicate 12 0
  | k + 1 => termK r k :: (winL r k).take 11
theorem winL_len (r : Rule) (k : Nat) : (winL r k).length = 12 := by
  induction k with
  | zero => rfl
  | succ k ih => simp [winL, ih]
theorem winL_get (r : Rule) (k : Nat) : ∀ j, j < 12 → j < k → (winL r k).getD j 0 = (firstL r k).getD (k - 1 - j) 0 := by
  induction k with
  | zero => intro j _ h; omega
  | succ k ih =>
    intro j hj hk
    have hl := firstL_len r k
    rw [firstL_succ, winL]
    cases j with
    | zero =>
      rw [List.getD_eq_getElem?_getD, List.getD_eq_getElem?_getD, List.getElem?_append_right (by omega), hl]
      simp
    | succ j =>
      rw [List.getD_eq_getElem?_getD, List.getD_eq_getElem?_getD, List.getElem?_cons_succ, List.getElem?_take, if_pos (by omega), List.getElem?_append_left (by omega)]
      have h := ih j (by omega) (by omega)
      rw [List.getD_eq_getElem?_getD, List.getD_eq_getElem?_getD] at h
      rw [h, show k + 1 - 1 - (j + 1) = k - 1 - j from by omega]
theorem nextW_eq (r : Rule) (k : Nat) (h : r.by_.length ≤ 12) (hk : r.by_.length ≤ k) : nextW r.by_ (winL r k) = nextT r.by_ (firstL r k) := by
  unfold nextW nextT
  congr 1
  apply psum_congr
  intro j hj
  rw [winL_get r k j (by omega) (by omega), firstL_len]
theorem nextT_bd (bs l : List Int) : 0 ≤ nextT bs l ∧ nextT bs l < 65521 := by unfold nextT; omega
theorem termK_bd {r : Rule} (hs : ∀ x ∈ r.start, 0 ≤ x ∧ x < 65521) (k : Nat) : 0 ≤ termK r k ∧ termK r k < 65521 := by
  unfold termK
  split
  · rename_i h
    rw [List.getD_eq_getElem?_getD, List.getElem?_eq_getElem h]
    exact hs _ (List.getElem_mem h)
  · exact nextT_bd _ _
theorem firstL_bd {r : Rule} (hs : ∀ x ∈ r.start, 0 ≤ x ∧ x < 65521) (k : Nat) : ∀ x ∈ firstL r k, 0 ≤ x ∧ x < 65521 := by
  induction k with
  | zero => intro x hx; cases hx
  | succ k ih =>
    intro x hx
    rw [firstL_succ] at hx
    rcases List.mem_append.1 hx with hx | hx
    · exact ih x hx
    · rw [List.mem_singleton.1 hx]; exact termK_bd hs k
theorem winL_bd {r : Rule} (hs : ∀ x ∈ r.start, 0 ≤ x ∧ x < 65521) (k : Nat) : ∀ x ∈ winL r k, 0 ≤ x ∧ x < 65521 := by
  induction k with
  | zero => intro x hx; rw [List.eq_of_mem_replicate hx]; decide
  | succ k ih =>
    intro x hx
    rcases List.mem_cons.1 hx with rfl | hx
    · exact termK_bd hs k
    · exact ih x (List.mem_of_mem_take hx)
theorem twelve {l : List Int} (h : l.length = 12) : ∃ x0 x1 x2 x3 x4 x5 x6 x7 x8 x9 x10 x11, l = [x0, x1, x2, x3, x4, x5, x6, x7, x8, x9, x10, x11] := by
  match l, h with
  | [x0, x1, x2, x3, x4, x5, x6, x7, x8, x9, x10, x11], _ => exact ⟨_, _, _, _, _, _, _, _, _, _, _, _, rfl⟩
theorem grown_set {w w5 : World} {B : Nat} (h : w.grownBy w5 (some B)) (B' : Nat) (v : Value) (e : B' = B := by rfl) : w.grownBy (w5.setCell ⟨B', 0, none⟩ v) (some B) := by
  subst e
  exact ⟨h.os, h.tape, h.output, by have := h.size; simp [World.setCell]; omega, fun k hk hne => (Below.heap_setCell _ _ _ _ (fun e => hne (by rw [e]))).trans (h.block k hk hne)⟩
/-- The window moves on by one. -/
theorem shift {B : Nat} (x0 x1 x2 x3 x4 x5 x6 x7 x8 x9 x10 x11 : Int) (w : World) (hg : w.heap[B]? = some (.cells #[.int .i64 x0, .int .i64 x1, .int .i64 x2, .int .i64 x3, .int .i64 x4, .int .i64 x5, .int .i64 x6, .int .i64 x7, .int .i64 x8, .int .i64 x9, .int .i64 x10, .int .i64 x11] 114 (0, 0))) :
    ∃ w5, (∀ ty, (Builtin.copy_ #[23, 23] ty #[.slice (some ⟨B, 1, none⟩) 11 11, .slice (some ⟨B, 0, none⟩) 11 12]).run Tryd.prog w.drew = .ok (goInt 11) w5) ∧
      w5.heap[B]? = some (.cells #[.int .i64 x0, .int .i64 x0, .int .i64 x1, .int .i64 x2, .int .i64 x3, .int .i64 x4, .int .i64 x5, .int .i64 x6, .int .i64 x7, .int .i64 x8, .int .i64 x9, .int .i64 x10] 114 (0, 0)) ∧ w.grownBy w5 (some B) := by
  have hg' : w.drew.heap[B]? = some (.cells #[.int .i64 x0, .int .i64 x1, .int .i64 x2, .int .i64 x3, .int .i64 x4, .int .i64 x5, .int .i64 x6, .int .i64 x7, .int .i64 x8, .int .i64 x9, .int .i64 x10, .int .i64 x11] 114 (0, 0)) := hg
  have hi : (Tryd.prog.info? 3).map (·.size) = some 1 := by kernel_rfl
  refine ⟨_, fun ty => run_copy_row Tryd.prog w.drew 23 23 ty 3 B 1 11 11 ⟨B, 0, none⟩ 11 12 _ _ [.int .i64 x0, .int .i64 x1, .int .i64 x2, .int .i64 x3, .int .i64 x4, .int .i64 x5, .int .i64 x6, .int .i64 x7, .int .i64 x8, .int .i64 x9, .int .i64 x10] Tryd.underlying23 hi hg' rfl (fun j v hj => ?_) (by simp) (by simp [Value.oneCell']), setRow_heap w.drew B _ _ _ _ hg', ?_⟩
  · rw [add_off, Nat.zero_add, cell_of_row w.drew B j _ _ _ hg']
    have hjl := (List.getElem?_eq_some_iff.1 hj).1
    have : j = 0 ∨ j = 1 ∨ j = 2 ∨ j = 3 ∨ j = 4 ∨ j = 5 ∨ j = 6 ∨ j = 7 ∨ j = 8 ∨ j = 9 ∨ j = 10 := by simp at hjl; omega
    rcases this with rfl | rfl | rfl | rfl | rfl | rfl | rfl | rfl | rfl | rfl | rfl <;> exact hj
  · exact ⟨rfl, rfl, rfl, by simp, fun k hk hne => by
      have : k ≠ B := fun e => hne (by rw [e])
      simp [World.setRow, Array.getElem?_modify, Ne.symm this]
      rfl⟩
set_option maxRecDepth 100000 in
set_option maxHeartbeats 3200000 in
theorem terms_1 (r : Rule) (N x g : Nat) (a b : Value) (w0 W : World) (hr : rightR r = 0) (ra : RdI w0 a r.by_) (rb : RdI w0 b r.start) (hg : w0.heap[g]? = some (.cells #[a, b] 49 (0, 0))) (hB : Below w0.heap.size w0 W)
    (hxW : W.heap[x]? = some (.cells #[a, b, .func (.func 144) #[] #[.pointer (some ⟨g, 0, none⟩)]] 110 (0, 0))) (_hx : w0.heap.size ≤ x) (hN : 0 < N) (hN2 : N ≤ 1000) :
    UpTo Tryd.prog 153 #[.pointer (some ⟨x, 0, none⟩)] (fun pre => ∃ k, pre = firstL r k) N w0.heap.size x W := by
  intro l J Jx hJ hJx hY h0
  obtain ⟨o1, o2, o3, o4⟩ := rightR_ok hr
  have hxl := (Array.getElem?_eq_some_iff.1 hxW).1
  have eg : ∀ args w, (callFunc 144 args).run Tryd.prog w = .ok (.enter 144 args) w := enters_of Tryd.func144 (by kernel_rfl) rfl
  refine callsIn_of_wp Tryd.func153 rfl trivial ?_ rfl
  simp only [Tryd.ntmps153, List.size_toArray, List.length_cons, List.length_nil, Nat.reduceAdd, Nat.reduceSub, Array.replicate_succ, Array.replicate_zero, List.push_toArray, List.append_toArray, List.nil_append, List.cons_append]
  obtain ⟨B, d, rfl, sb1, sb2, hsb⟩ := rb.open_
  have hst := Lib.hid hsb
  have hbW : Below w0.heap.size w0 (W.alloc (.cells #[.int .i64 0, .int .i64 0, .int .i64 0, .int .i64 0, .int .i64 0, .int .i64 0, .int .i64 0, .int .i64 0, .int .i64 0, .int .i64 0, .int .i64 0, .int .i64 0] 114)) := hB.alloc (by have := hB.size; omega) _
  have hnew : (W.alloc (.cells #[.int .i64 0, .int .i64 0, .int .i64 0, .int .i64 0, .int .i64 0, .int .i64 0, .int .i64 0, .int .i64 0, .int .i64 0, .int .i64 0, .int .i64 0, .int .i64 0] 114)).heap[W.heap.size]? = some (.cells (ints (winL r 0)).toArray 114 (0, 0)) := heap_alloc_new _ _
  have hold := (((Below.refl W.heap.size W).alloc (Nat.le_refl _) (.cells #[.int .i64 0, .int .i64 0, .int .i64 0, .int .i64 0, .int .i64 0, .int .i64 0, .int .i64 0, .int .i64 0, .int .i64 0, .int .i64 0, .int .i64 0, .int .i64 0] 114)).block x hxl).trans hxW
  have h1 := hJ _ _ _ none h0 (World.grownBy_alloc W (.cells #[.int .i64 0, .int .i64 0, .int .i64 0, .int .i64 0, .int .i64 0, .int .i64 0, .int .i64 0, .int .i64 0, .int .i64 0, .int .i64 0, .int .i64 0, .int .i64 0] 114) none) (fun k e => by cases e)
  replace hbW := Lib.hid hbW
  replace hnew := Lib.hid hnew
  replace hold := Lib.hid hold
  replace h1 := Lib.hid h1
  have hJ' := Lib.hid hJ
  have hY' := Lib.hid hY
  have hgw := Lib.hid hg
  have hra := Lib.hid ra
  have hWs : Hid (W.heap.size < (W.alloc (.cells #[.int .i64 0, .int .i64 0, .int .i64 0, .int .i64 0, .int .i64 0, .int .i64 0, .int .i64 0, .int .i64 0, .int .i64 0, .int .i64 0, .int .i64 0, .int .i64 0] 114)).heap.size) := Lib.hid (by simp)
  have o3' := Lib.hid o3
  have o4' := Lib.hid o4
  have hw0W := hB.size
  have hgl := (Array.getElem?_eq_some_iff.1 hg).1
  clear hJ hJx hY h0 hB hxW hg ra rb hsb o3 o4
  gi_wp2
  generalize W.alloc (.cells #[.int .i64 0, .int .i64 0, .int .i64 0, .int .i64 0, .int .i64 0, .int .i64 0, .int .i64 0, .int .i64 0, .int .i64 0, .int .i64 0, .int .i64 0, .int .i64 0] 114) = X at *
  gi_loopw [4, 5] (fun n _ wr => ∃ k : Nat, k < N ∧ n = .int .i64 k ∧ Hid (J (firstL r k) wr) ∧ Hid (Below w0.heap.size w0 wr) ∧ Hid (wr.heap[x]? = some (.cells #[a, .slice B r.start.length d, .func (.func 144) #[] #[.pointer (some ⟨g, 0, none⟩)]] 110 (0, 0))) ∧ Hid (wr.heap[W.heap.size]? = some (.cells (ints (winL r k)).toArray 114 (0, 0)))) (fun n _ _ => N - (intOf n).toNat)
  case atStart => exact ⟨0, hN, rfl, h1, hbW, hold, hnew⟩
  case round =>
    obtain ⟨k, hk, rfl, hJk, hBk, hxk, hwk⟩ := hrel
    have cx : ∀ j v, (#[a, .slice B r.start.length d, .func (.func 144) #[] #[.pointer (some ⟨g, 0, none⟩)]] : Array Value)[j]? = some v → wr.cell? ⟨x, j, none⟩ = some v := fun j v h => by unfold World.cell?; rw [hxk.out]; exact h
    have cx1 := cx 1 _ rfl
    have cx2 := cx 2 _ rfl
    clear cx
    have hfl := firstL_len r k
    have hsc := firstL_succ r k
    obtain ⟨x0, x1, x2, x3, x4, x5, x6, x7, x8, x9, x10, x11, e12⟩ := twelve (winL_len r k)
    have hwe : Hid (wr.heap[W.heap.size]? = some (.cells #[.int .i64 x0, .int .i64 x1, .int .i64 x2, .int .i64 x3, .int .i64 x4, .int .i64 x5, .int .i64 x6, .int .i64 x7, .int .i64 x8, .int .i64 x9, .int .i64 x10, .int .i64 x11] 114 (0, 0))) := Lib.hid (by have := hwk.out; rwa [e12] at this)
    have hws : Hid (winL r (k + 1) = [termK r k, x0, x1, x2, x3, x4, x5, x6, x7, x8, x9, x10]) := Lib.hid (by rw [winL, e12]; rfl)
    by_cases hks : k < r.start.length
    · have htk : Hid (termK r k = r.start.getD k 0) := Lib.hid (by rw [termK, if_pos hks])
      obtain ⟨b0, off, rfl, hc⟩ := hst.out k hks
      replace hc := (hBk.out.cell (p := ⟨b0, off + k, none⟩) (World.block_lt_of_cell? w0 _ hc)).trans hc
      generalize r.start.getD k 0 = tv at *
      have hfs : Hid (firstL r (k + 1) = firstL r k ++ [tv]) := Lib.hid (by rw [hsc, htk.out])
      obtain ⟨fn, tmps, assign, body, hy, hR⟩ := hY'.out (firstL r k) tv wr hJk.out (by omega) (Array.getElem?_eq_some_iff.1 hwe.out).1
      have k1 : (k : Int) < (r.start.length : Int) := by omega
      have k0 : (0 : Int) ≤ (k : Int) := by omega
      replace hfl := Lib.hid hfl
      replace hsc := Lib.hid hsc
      replace e12 := Lib.hid e12
      replace hR := Lib.hid hR
      gi_wp2
      refine hR.out.mono ?_; rintro e W4 (⟨rfl, hJ4, hK4, hN4⟩ | ⟨rfl, hJx4⟩)
      · have hw4 := hK4.two.trans hwe.out
        obtain ⟨W5, hcp, hw5, hg5⟩ := shift x0 x1 x2 x3 x4 x5 x6 x7 x8 x9 x10 x11 W4 hw4
        have hf5 : W5.frozen? ⟨W.heap.size, 0, none⟩ = false := by unfold World.frozen?; rw [hw5]; rfl
        have hc5 : W5.cell? ⟨W.heap.size, 0, none⟩ = some (.int .i64 x0) := by unfold World.cell?; rw [hw5]; rfl
        gi_wp2
        rw [wpIn_wide]
        go_still_tail 2, (by kernel_rfl)
        change wpList _ _ _ _ _ W4.drew
        go_wp2
        gi_wp2
        have hg6 := grown_set hg5 (W.heap.size) (.int .i64 tv)
        have hbk : Below w0.heap.size w0 W4 := hBk.out.trans hK4.below
        have hJ6 := hJ'.out _ _ _ (some W.heap.size) hJ4 hg6 (fun k e => by cases e; rfl)
        rw [← hfs.out] at hJ6
        have hB6 := hbk.grown hg6 hbk.size (fun k e => by cases e; exact hw0W)
        have hx6 := (hg6.block x (Array.getElem?_eq_some_iff.1 (hK4.one.trans hxk.out)).1 (by simp; omega)).trans (hK4.one.trans hxk.out)
        have hw6 : (W5.setCell ⟨W.heap.size, 0, none⟩ (.int .i64 tv)).heap[W.heap.size]? = some (.cells (ints (winL r (k + 1))).toArray 114 (0, 0)) := by
          rw [hws.out, htk.out]; exact heap_set1 _ hw5
        have hN5 : k + 1 < N := by have := hfl.out; omega
        clear hJ4 hK4 hw4 hcp hw5 hg5 hg6 hbk hf5 hc5
        replace hJ6 := Lib.hid hJ6
        replace hB6 := Lib.hid hB6
        replace hx6 := Lib.hid hx6
        replace hw6 := Lib.hid hw6
        go_roundw
        case rel => exact ⟨k + 1, hN5, by go_num, hJ6, hB6, hx6, hw6⟩
        case measure => simp [intOf]; omega
      · gi_wp2
        refine bodyPost_ret (results_none rfl _ _ _) rfl ?_
        exact ⟨⟨_, rfl⟩, _, ⟨k + 1, by rw [hsc.out, htk.out]⟩, hJx4⟩
    · have htk : Hid (termK r k = nextT r.by_ (firstL r k)) := Lib.hid (by rw [termK, if_neg hks])
      have hnx := Lib.hid (next_any r.by_ a (.slice B r.start.length d) g x0 x1 x2 x3 x4 x5 x6 x7 x8 x9 x10 x11 wr o1 o3'.out (by rw [← e12]; exact winL_bd o4'.out k) (hra.out.below hBk.out (Nat.le_refl _)) ((hBk.out.block g hgl).trans hgw.out))
      rw [← e12, nextW_eq r k o1 (by omega)] at hnx
      have hcl := win_get x0 x1 x2 x3 x4 x5 x6 x7 x8 x9 x10 x11 hwe.out
      have k1 : ¬ (k : Int) < (r.start.length : Int) := by omega
      replace hfl := Lib.hid hfl
      replace hsc := Lib.hid hsc
      replace e12 := Lib.hid e12
      generalize nextT r.by_ (firstL r k) = tv at *
      have hfs : Hid (firstL r (k + 1) = firstL r k ++ [tv]) := Lib.hid (by rw [hsc.out, htk.out])
      gi_wp2_with fail
      refine ⟨trivial, ?_⟩
      refine (callsIn_wide.2 hnx.out).mono ?_; rintro e W3 ⟨rfl, hB3⟩
      have hxk3 := (hB3.block x (Array.getElem?_eq_some_iff.1 hxk.out).1).trans hxk.out
      have hJ3 := hJ'.out _ _ _ none hJk.out (grown_of_below hB3 none) (fun k e => by cases e)
      obtain ⟨fn, tmps, assign, body, hy, hR⟩ := hY'.out (firstL r k) tv W3 hJ3 (by have := hfl.out; omega) (Nat.lt_of_lt_of_le (Array.getElem?_eq_some_iff.1 hwe.out).1 hB3.size)
      replace hR := Lib.hid hR
      clear hnx hcl cx1 cx2 hJ3
      gi_wp2
      refine hR.out.mono ?_; rintro e W4 (⟨rfl, hJ4, hK4, hN4⟩ | ⟨rfl, hJx4⟩)
      · have hw4 := hK4.two.trans ((hB3.block _ (Array.getElem?_eq_some_iff.1 hwe.out).1).trans hwe.out)
        obtain ⟨W5, hcp, hw5, hg5⟩ := shift x0 x1 x2 x3 x4 x5 x6 x7 x8 x9 x10 x11 W4 hw4
        have hf5 : W5.frozen? ⟨W.heap.size, 0, none⟩ = false := by unfold World.frozen?; rw [hw5]; rfl
        have hc5 : W5.cell? ⟨W.heap.size, 0, none⟩ = some (.int .i64 x0) := by unfold World.cell?; rw [hw5]; rfl
        gi_wp2
        rw [wpIn_wide]
        go_still_tail 2, (by kernel_rfl)
        change wpList _ _ _ _ _ W4.drew
        go_wp2
        gi_wp2
        have hg6 := grown_set hg5 (W.heap.size) (.int .i64 tv)
        have hbk : Below w0.heap.size w0 W4 := (hBk.out.trans (hB3.mono (hBk.out.size))).trans hK4.below
        have hJ6 := hJ'.out _ _ _ (some W.heap.size) hJ4 hg6 (fun k e => by cases e; rfl)
        rw [← hfs.out] at hJ6
        have hB6 := hbk.grown hg6 hbk.size (fun k e => by cases e; exact hw0W)
        have hx6 := (hg6.block x (Array.getElem?_eq_some_iff.1 (hK4.one.trans hxk3)).1 (by simp; omega)).trans (hK4.one.trans hxk3)
        have hw6 : (W5.setCell ⟨W.heap.size, 0, none⟩ (.int .i64 tv)).heap[W.heap.size]? = some (.cells (ints (winL r (k + 1))).toArray 114 (0, 0)) := by
          rw [hws.out, htk.out]; exact heap_set1 _ hw5
        have hN5 : k + 1 < N := by have := hfl.out; omega
        clear hJ4 hK4 hw4 hcp hw5 hg5 hg6 hbk hf5 hc5
        replace hJ6 := Lib.hid hJ6
        replace hB6 := Lib.hid hB6
        replace hx6 := Lib.hid hx6
        replace hw6 := Lib.hid hw6
        go_roundw
        case rel => exact ⟨k + 1, hN5, by go_num, hJ6, hB6, hx6, hw6⟩
        case measure => simp [intOf]; omega
      · gi_wp2
        refine bodyPost_ret (results_none rfl _ _ _) rfl ?_
        exact ⟨⟨_, rfl⟩, _, ⟨k + 1, by rw [hsc.out, htk.out]⟩, hJx4⟩
end Go.Proofs.YtfljkcmijnhgkaaDoor

namespace Go.Proofs.YtfljkcmijnhgkaaDoor
open Go.RowKit Go.Shelf
set_option linter.unusedSimpArgs false
attribute [local go_sem] Oper.semAt_some
set_option maxHeartbeats 800000 in
theorem terms_any (a b : Value) (g : Nat) (w : World) (A1 A2 : Option Addr) (n1 n2 d1 d2 : Nat) (ha : a = .slice A1 n1 d1) (hb : b = .slice A2 n2 d2) :
    Calls Tryd.prog 145 #[.agg #[a, b, .func (.func 144) #[] #[.pointer (some ⟨g, 0, none⟩)]]] w fun e w' => e = .returned (.func (.func 153) #[] #[.pointer (some ⟨w.heap.size, 0, none⟩)]) ∧ w' = w.alloc (.cells #[a, b, .func (.func 144) #[] #[.pointer (some ⟨g, 0, none⟩)]] 110) := by
  subst ha hb
  go_enter Tryd.func145, Tryd.ntmps145
  go_wp2
  go_ret
  exact ⟨rfl, rfl⟩
theorem four_push (A : Array Obj) (a b c d : Obj) : ((((A.push a).push b).push c).push d)[A.size + 1]? = some b ∧ ((((A.push a).push b).push c).push d)[A.size + 2]? = some c ∧ ((((A.push a).push b).push c).push d)[A.size + 3]? = some d := by
  refine ⟨?_, ?_, ?_⟩
  · rw [Array.getElem?_push, if_neg (by simp), Array.getElem?_push, if_neg (by simp), Array.getElem?_push, if_pos (by simp)]
  · rw [Array.getElem?_push, if_neg (by simp), Array.getElem?_push, if_pos (by simp)]
  · rw [Array.getElem?_push, if_pos (by simp)]
theorem four (w : World) (a b c d : Obj) : ((((w.alloc a).alloc b).alloc c).alloc d).heap[w.heap.size + 1]? = some b ∧ ((((w.alloc a).alloc b).alloc c).alloc d).heap[w.heap.size + 2]? = some c ∧ ((((w.alloc a).alloc b).alloc c).alloc d).heap[w.heap.size + 3]? = some d := four_push w.heap a b c d
/-- What holds between two rounds of first: h blocks lay when the call began, hl when the loop began. -/
structure FirstI (n h hl : Nat) (w : World) (pre : List Int) (W : World) : Prop where
  low : Below h w W
  num : W.heap[h + 1]? = some (.cells #[.int .i64 n] 3 (0, 0))
  out : ∃ u, W.heap[h + 3]? = some (.cells #[u] 23 (0, 0)) ∧ OwnI W h u pre ∧ ∀ b, u.ownBlock = some b → b = h + 2 ∨ hl + 3 ≤ b
theorem FirstI.kept {n h hl : Nat} {w A B : World} {pre : List Int} {row : Option Nat} (H : FirstI n h hl w pre A) (hg : A.grownBy B row) (hr : ∀ k, row = some k → hl ≤ k ∧ k < hl + 3) (hh : h + 5 = hl) (hw : w.heap.size = h) : FirstI n h hl w pre B := by
  obtain ⟨h1, h2, u, h3, h4, h5⟩ := H
  have ne : ∀ k, k < hl → some k ≠ row := fun k hk e => by have := hr k e.symm; omega
  refine ⟨h1.grown hg (by have := h1.size; omega) (fun k e => by have := hr k e; omega), (hg.block _ (Array.getElem?_eq_some_iff.1 h2).1 (ne _ (by omega))).trans h2, u, (hg.block _ (Array.getElem?_eq_some_iff.1 h3).1 (ne _ (by omega))).trans h3, ?_, h5⟩
  refine h4.kept hg ?_
  cases hb : u.ownBlock with
  | none => exact .inl rfl
  | some b =>
    refine .inr fun e => ?_
    have := hr b e.symm
    rcases h5 b hb with h | h <;> omega
theorem FirstI.step {n h hl : Nat} {w W w1 : World} {pre : List Int} {v : Int} {A3 : Option Addr} {c3 g' cap' : Nat} (hlow : Below h w W) (hnum : W.heap[h + 1]? = some (.cells #[.int .i64 n] 3 (0, 0)))
    (hbox : W.heap[h + 3]? = some (.cells #[.slice A3 pre.length c3] 23 (0, 0))) (hub : ∀ b, (Value.slice A3 pre.length c3).ownBlock = some b → b = h + 2 ∨ hl + 3 ≤ b) (hsz : hl + 3 ≤ W.heap.size) (hh : h + 5 = hl)
    (hown1 : w1.ownsRow h 3 1 (.slice (some ⟨g', 0, none⟩) (pre.length + 1) cap') (pre.length + 1) (ints pre ++ [.int .i64 v])) (hgrow : (W.alloc (.cells #[.int .i64 v] 3)).grownBy w1 (Value.slice A3 pre.length c3).ownBlock)
    (hat : (Value.slice (some ⟨g', 0, none⟩) (pre.length + 1) cap').ownBlock = (Value.slice A3 pre.length c3).ownBlock ∨ (Value.slice (some ⟨g', 0, none⟩) (pre.length + 1) cap').ownBlock = some (W.alloc (.cells #[.int .i64 v] 3)).heap.size) :
    FirstI n h hl w (pre ++ [v]) (w1.setCell ⟨h + 1 + 1 + 1, 0, none⟩ (.slice (some ⟨g', 0, none⟩) (pre.length + 1) cap')) ∧
      ∀ k, k < W.heap.size → k ≠ h + 3 → some k ≠ (Value.slice A3 pre.length c3).ownBlock → (w1.setCell ⟨h + 1 + 1 + 1, 0, none⟩ (.slice (some ⟨g', 0, none⟩) (pre.length + 1) cap')).heap[k]? = W.heap[k]? := by
  have hkeep : ∀ k, k < W.heap.size → k ≠ h + 3 → some k ≠ (Value.slice A3 pre.length c3).ownBlock → (w1.setCell ⟨h + 1 + 1 + 1, 0, none⟩ (.slice (some ⟨g', 0, none⟩) (pre.length + 1) cap')).heap[k]? = W.heap[k]? := fun k h1 h2 h3 =>
    ((Below.heap_setCell _ _ _ _ (by show k ≠ h + 3; exact h2)).trans (hgrow.block k (by simp; omega) h3)).trans (Below.heap_alloc _ _ _ h1)
  have hg' : g' = h + 2 ∨ hl + 3 ≤ g' := by
    rcases hat with e | e
    · exact hub g' (by rw [← e]; rfl)
    · have : g' = W.heap.size + 1 := by simpa [Value.ownBlock] using e
      omega
  have hne : ∀ k, k < hl → k ≠ h + 2 → some k ≠ (Value.slice A3 pre.length c3).ownBlock := fun k h1 h2 e => by rcases hub k e.symm with h | h <;> omega
  have hbx3 := (hgrow.block (h + 3) (by simp; omega) (hne _ (by omega) (by omega))).trans ((Below.heap_alloc W _ (h + 3) (by omega)).trans hbox)
  have hs : w1.heap.size ≤ (w1.setCell ⟨h + 1 + 1 + 1, 0, none⟩ (.slice (some ⟨g', 0, none⟩) (pre.length + 1) cap')).heap.size := by simp [World.setCell]
  refine ⟨⟨⟨?_, ?_, ?_, ?_, fun k hk => ?_⟩, (hkeep _ (by omega) (by omega) (hne _ (by omega) (by omega))).trans hnum, _, heap_set1 _ hbx3, ?_, fun b hb => ?_⟩, hkeep⟩
  · exact hgrow.os.trans hlow.os
  · exact hgrow.tape.trans hlow.tape
  · exact hgrow.output.trans hlow.output
  · have h1 := hgrow.size
    have h2 := hlow.size
    rw [World.size_alloc] at h1
    omega
  · exact (hkeep k (by omega) (by omega) (hne k (by omega) (by omega))).trans (hlow.block k hk)
  · unfold OwnI
    rw [List.length_append, ints_append]
    exact hown1.kept ⟨rfl, rfl, rfl, hs, fun k _ hk => Below.heap_setCell _ _ _ _ (fun e => hk (by rw [e]))⟩ (.inr (by show some g' ≠ some (h + 1 + 1 + 1); intro e; have := Option.some.inj e; omega))
  · have : g' = b := by simpa [Value.ownBlock] using hb
    omega
set_option maxRecDepth 100000 in
set_option maxHeartbeats 3200000 in
theorem first_any (r : Rule) (n : Nat) (v a b : Value) (g : Nat) (w : World) (hr : rightR r = 0) (hL : LineV w v r a b g) (hn : n ≤ 1000) :
    Calls Tryd.prog 112 #[v, .int .i64 n] w fun e w' => (∃ u, e = .returned u ∧ OwnI w' w.heap.size u (firstL r n)) ∧ Below w.heap.size w w' := by
  obtain ⟨rfl, ra, rb, hg⟩ := hL
  obtain ⟨A1, d1, e1, -⟩ := ra.open_
  obtain ⟨A2, d2, e2, -⟩ := rb.open_
  have htm := fun W => terms_any a b g W A1 A2 _ _ d1 d2 e1 e2
  have hit := Lib.hid (fun (N x : Nat) W hB hx hx2 hN hN2 => terms_1 r N x g a b w W hr ra rb hg hB hx hx2 hN hN2)
  subst e1 e2
  generalize r.by_.length = n1 at *
  generalize r.start.length = n2 at *
  replace htm := Lib.hid htm
  have h1 : ∀ (m : Int), ∃ W, (((w.alloc (.cells #[.slice A1 n1 d1, .slice A2 n2 d2, .func (.func 144) #[] #[.pointer (some ⟨g, 0, none⟩)]] 110)).alloc (.cells #[.int .i64 m] 3)).alloc (.cells #[] 3)).alloc (.cells #[.slice (some ⟨w.heap.size + 1 + 1, 0, none⟩) 0 0] 23) = W ∧ W.heap.size = w.heap.size + 4 ∧ Below w.heap.size w W ∧
      W.heap[w.heap.size + 1]? = some (.cells #[.int .i64 m] 3 (0, 0)) ∧ W.heap[w.heap.size + 2]? = some (.cells #[] 3 (0, 0)) ∧ W.heap[w.heap.size + 3]? = some (.cells #[.slice (some ⟨w.heap.size + 1 + 1, 0, none⟩) 0 0] 23 (0, 0)) := by
    intro m
    obtain ⟨f1, f2, f3⟩ := four w (.cells #[.slice A1 n1 d1, .slice A2 n2 d2, .func (.func 144) #[] #[.pointer (some ⟨g, 0, none⟩)]] 110) (.cells #[.int .i64 m] 3) (.cells #[] 3) (.cells #[.slice (some ⟨w.heap.size + 1 + 1, 0, none⟩) 0 0] 23)
    exact ⟨_, rfl, by simp, ((((Below.refl _ w).alloc (Nat.le_refl _) _).alloc (by simp) _).alloc (by simp; omega) _).alloc (by simp; omega) _, f1, f2, f3⟩
  by_cases h0 : n = 0
  · subst h0
    obtain ⟨W, hW, hs, hB, -, h2, -⟩ := h1 ((0 : Nat) : Int)
    go_enter Tryd.func112, Tryd.ntmps112
    go_wp2
    refine bodyPost_ret (results_tmp rfl _ _ _) rfl ?_
    have hW' : _ = W := hW
    rw [show ((0 : Nat) : Int) = 0 from rfl] at hW'
    rw [hW']
    refine ⟨⟨_, rfl, ?_⟩, hB⟩
    refine ⟨rfl, .inr ⟨w.heap.size + 2, 0, #[], rfl, by omega, h2, Nat.le_refl _, by decide, rfl, rfl⟩⟩
  · obtain ⟨W0, hW, hs, hB, hnb, hab, hob⟩ := h1 (n : Int)
    clear h1
    refine (callsIn_wide (n := 9)).1 ?_
    refine callsIn_of_wp_marks Tryd.func112 rfl trivial ?_ rfl
    simp only [Tryd.ntmps112, List.size_toArray, List.length_cons, List.length_nil, Nat.reduceAdd, Nat.reduceSub, Array.replicate_succ, Array.replicate_zero, List.push_toArray, List.append_toArray, List.nil_append, List.cons_append]
    have hne : ((n : Int) == 0) = false := by rw [beq_eq_false_iff_ne]; omega
    replace hB := Lib.hid hB
    replace hnb := Lib.hid hnb
    replace hab := Lib.hid hab
    replace hob := Lib.hid hob
    replace hg := Lib.hid hg
    replace hW := Lib.hid hW
    clear ra rb
    gi_wp2_with fail
    rw [hW.out]
    refine ⟨trivial, ?_⟩
    refine (callsIn_wide.2 (htm.out _)).mono ?_; rintro e W3 ⟨rfl, rfl⟩
    rw [hs]
    have hbl : Below W0.heap.size W0 (W0.alloc (.cells #[.slice A1 n1 d1, .slice A2 n2 d2, .func (.func 144) #[] #[.pointer (some ⟨g, 0, none⟩)]] 110)) := (Below.refl _ _).alloc (Nat.le_refl _) _
    have hxb : (W0.alloc (.cells #[.slice A1 n1 d1, .slice A2 n2 d2, .func (.func 144) #[] #[.pointer (some ⟨g, 0, none⟩)]] 110)).heap[w.heap.size + 4]? = some (.cells #[.slice A1 n1 d1, .slice A2 n2 d2, .func (.func 144) #[] #[.pointer (some ⟨g, 0, none⟩)]] 110 (0, 0)) := by rw [← hs]; exact heap_alloc_new _ _
    have hs1 : (W0.alloc (.cells #[.slice A1 n1 d1, .slice A2 n2 d2, .func (.func 144) #[] #[.pointer (some ⟨g, 0, none⟩)]] 110)).heap.size = w.heap.size + 5 := by simp; omega
    generalize W0.alloc (.cells #[.slice A1 n1 d1, .slice A2 n2 d2, .func (.func 144) #[] #[.pointer (some ⟨g, 0, none⟩)]] 110) = W1 at *
    have hI0 : FirstI n w.heap.size (w.heap.size + 5) w [] W1 :=
      ⟨Below.then_ hB.out hbl, (hbl.block _ (by omega)).trans hnb.out, _, (hbl.block _ (by omega)).trans hob.out, ⟨rfl, .inr ⟨w.heap.size + 2, 0, #[], rfl, by omega, (hbl.block _ (by omega)).trans hab.out, Nat.le_refl _, by decide, rfl, rfl⟩⟩, fun b hb => .inl (by simpa [Value.ownBlock] using hb.symm)⟩
    replace hI0 := Lib.hid hI0
    replace hxb := Lib.hid hxb
    replace hbl := Lib.hid hbl
    obtain ⟨i0, hi0, hz0, hz1, hz2⟩ := info_parts infoI
    gi_wp2
    refine wpIn_range_upTo (gf := 153) (lb := #[.pointer (some ⟨w.heap.size + 4, 0, none⟩)]) (T := fun pre => ∃ k, pre = firstL r k) (N := n) (n₀ := w.heap.size) (x := w.heap.size + 4) rfl (enters_of Tryd.func153 (by kernel_rfl) rfl)
      ?hseq (by omega) (by omega) (FirstI n w.heap.size (w.heap.size + 5) w) (fun pre W => FirstI n w.heap.size (w.heap.size + 5) w pre W ∧ pre.length = n) ?hI ?hIx hI0.out
      (fun v => { tmps := #[.agg #[.slice A1 n1 d1, .slice A2 n2 d2, .func (.func 144) #[] #[.pointer (some ⟨g, 0, none⟩)]], .int .i64 n, .pointer (some ⟨w.heap.size, 0, none⟩), .pointer (some ⟨w.heap.size + 1, 0, none⟩), .slice none 0 0, .pointer (some ⟨w.heap.size + 1 + 1 + 1, 0, none⟩), .int .i64 v, .slice (some ⟨w.heap.size + 1 + 1, 0, none⟩) 0 0, .int .i64 n, .bool false, undef, .agg #[.slice A1 n1 d1, .slice A2 n2 d2, .func (.func 144) #[] #[.pointer (some ⟨g, 0, none⟩)]], .func (.func 153) #[] #[.pointer (some ⟨w.heap.size + 4, 0, none⟩)], .int .i64 v, undef, undef, undef, undef, undef, undef, undef, undef, undef], defers := [] }) 0 ?assign ?body ?stop
    case hseq =>
      intro W hsW hBW
      exact hit.out n _ W (Below.trans (Below.then_ hB.out (by have := hI0.out.low; exact hbl.out)) (hBW.mono (by omega))) ((hBW.block _ (by omega)).trans hxb.out) (by omega) (by omega) hn
    case hI =>
      intro s A B row hs hg hr
      exact hs.kept hg (fun k e => by have := hr k e; omega) rfl rfl
    case hIx =>
      intro s A B row hs hg hr
      exact ⟨hs.1.kept hg (fun k e => by have := hr k e; omega) rfl rfl, hs.2⟩
    case assign =>
      intro l v W K hK
      gi_wp2
      exact hK
    case body =>
      rintro l pre v W ⟨hlow, hnum, u, hbox, hO, hub⟩ hlen hsz
      have hc3 : W.cell? ⟨w.heap.size + 1 + 1 + 1, 0, none⟩ = some u := by unfold World.cell?; rw [show w.heap.size + 1 + 1 + 1 = w.heap.size + 3 from rfl, hbox]; rfl
      have hc1 : W.cell? ⟨w.heap.size + 1, 0, none⟩ = some (.int .i64 n) := by unfold World.cell?; rw [hnum]; rfl
      have hOw := hO
      unfold OwnI at hOw
      obtain ⟨A3, c3, rfl⟩ := own_form hOw
      replace hOw := Lib.hid hOw
      replace hO := Lib.hid hO
      replace hnum := Lib.hid hnum
      replace hbox := Lib.hid hbox
      replace hub := Lib.hid hub
      replace hlow := Lib.hid hlow
      have hszW := hlow.out.size
      have hb3 : some (w.heap.size + 3) ≠ (Value.slice A3 pre.length c3).ownBlock := fun e => by rcases hub.out _ e.symm with h | h <;> omega
      have hb1 : some (w.heap.size + 1) ≠ (Value.slice A3 pre.length c3).ownBlock := fun e => by rcases hub.out _ e.symm with h | h <;> omega
      have ls : w.heap.size + 3 < W.heap.size := by omega
      have ls1 : w.heap.size + 1 < W.heap.size := by omega
      have hx3 := (World.cell?_of_block (w' := W.alloc (.cells #[.int .i64 v] 3)) (a := ⟨w.heap.size + 1 + 1 + 1, 0, none⟩) (Below.heap_alloc W _ (w.heap.size + 1 + 1 + 1) ls)).trans hc3
      have hx1 := (World.cell?_of_block (w' := W.alloc (.cells #[.int .i64 v] 3)) (a := ⟨w.heap.size + 1, 0, none⟩) (Below.heap_alloc W _ (w.heap.size + 1) ls1)).trans hc1
      have hxf : (W.alloc (.cells #[.int .i64 v] 3)).frozen? ⟨w.heap.size + 1 + 1 + 1, 0, none⟩ = false := (World.frozen?_of_block (a := ⟨w.heap.size + 1 + 1 + 1, 0, none⟩) (Below.heap_alloc W _ (w.heap.size + 1 + 1 + 1) ls)).trans (by unfold World.frozen?; rw [show w.heap.size + 1 + 1 + 1 = w.heap.size + 3 from rfl, hbox.out]; rfl)
      by_cases hend : pre.length + 1 = n
      · have htest : (((pre.length : Int) + 1) == (n : Int)) = true := by first | (rw [beq_iff_eq]; omega) | (rw [beq_eq_false_iff_ne]; omega)
        replace hend := Lib.hid hend
        gi_wp2_with (gi_at_builtin; (refine wpListIn_append_own_at _ rfl _ _ 23 rfl w.heap.size 3 i0 _ 1 8 Tryd.underlying23 hi0 hz0 hz1 hz2 rfl (by omega) (.slice A3 pre.length c3) pre.length (ints pre) rfl (hOw.out.alloc _) ⟨W.heap.size, 0, none⟩ 1 1 [.int .i64 v] rfl rfl (World.news_of_block (cs := #[.int .i64 v]) (t := 3) (fr := (0, 0)) (heap_alloc_new W _)) (by simp [Value.oneCell']) (by unfold maxLen; omega) (by omega) (by simp; omega) ?_); intro v' w1 hown1 hgrow _ hat; obtain ⟨g', cap', rfl⟩ := ownsRow_succ hown1; have hd3 := (hgrow.cell_far ⟨w.heap.size + 1 + 1 + 1, 0, none⟩ (by simp; omega) hb3).trans hx3; have hf3 := (hgrow.frozen_far ⟨w.heap.size + 1 + 1 + 1, 0, none⟩ (by simp; omega) hb3).trans hxf; have hd1 := (hgrow.cell_far ⟨w.heap.size + 1, 0, none⟩ (by simp; omega) hb1).trans hx1)
        obtain ⟨hFI, hkeep⟩ := FirstI.step hlow.out hnum.out hbox.out hub.out (by omega) rfl hown1 hgrow hat
        have hbl2 : ∀ k, W1.heap.size ≤ k → k < W1.heap.size + 3 → (w1.setCell ⟨w.heap.size + 1 + 1 + 1, 0, none⟩ (.slice (some ⟨g', 0, none⟩) (pre.length + 1) cap')).heap[k]? = W.heap[k]? := fun k h1 h2 =>
          hkeep k (by omega) (by omega) (fun e => by rcases hub.out k e.symm with h | h <;> omega)
        first | exact ⟨rfl, fun k h1 h2 => hbl2 k h1 (by omega), hFI, by rw [List.length_append]; exact hend.out⟩ | exact ⟨fun k h1 h2 => hbl2 k h1 (by omega), ⟨⟨hgrow.os, hgrow.tape, hgrow.output, by have := hgrow.size; rw [World.size_alloc] at this; simp [World.setCell]; omega, fun k hk => hkeep k (by omega) (by omega) (fun e => by rcases hub.out k e.symm with h | h <;> omega)⟩, hkeep _ (by omega) (by omega) (fun e => by rcases hub.out _ e.symm with h | h <;> omega), hbl2 _ (by omega) (by omega)⟩, hFI, by have := hend.out; omega⟩
      · have htest : (((pre.length : Int) + 1) == (n : Int)) = false := by first | (rw [beq_iff_eq]; omega) | (rw [beq_eq_false_iff_ne]; omega)
        replace hend := Lib.hid hend
        gi_wp2_with (gi_at_builtin; (refine wpListIn_append_own_at _ rfl _ _ 23 rfl w.heap.size 3 i0 _ 1 8 Tryd.underlying23 hi0 hz0 hz1 hz2 rfl (by omega) (.slice A3 pre.length c3) pre.length (ints pre) rfl (hOw.out.alloc _) ⟨W.heap.size, 0, none⟩ 1 1 [.int .i64 v] rfl rfl (World.news_of_block (cs := #[.int .i64 v]) (t := 3) (fr := (0, 0)) (heap_alloc_new W _)) (by simp [Value.oneCell']) (by unfold maxLen; omega) (by omega) (by simp; omega) ?_); intro v' w1 hown1 hgrow _ hat; obtain ⟨g', cap', rfl⟩ := ownsRow_succ hown1; have hd3 := (hgrow.cell_far ⟨w.heap.size + 1 + 1 + 1, 0, none⟩ (by simp; omega) hb3).trans hx3; have hf3 := (hgrow.frozen_far ⟨w.heap.size + 1 + 1 + 1, 0, none⟩ (by simp; omega) hb3).trans hxf; have hd1 := (hgrow.cell_far ⟨w.heap.size + 1, 0, none⟩ (by simp; omega) hb1).trans hx1)
        obtain ⟨hFI, hkeep⟩ := FirstI.step hlow.out hnum.out hbox.out hub.out (by omega) rfl hown1 hgrow hat
        have hbl2 : ∀ k, W1.heap.size ≤ k → k < W1.heap.size + 3 → (w1.setCell ⟨w.heap.size + 1 + 1 + 1, 0, none⟩ (.slice (some ⟨g', 0, none⟩) (pre.length + 1) cap')).heap[k]? = W.heap[k]? := fun k h1 h2 =>
          hkeep k (by omega) (by omega) (fun e => by rcases hub.out k e.symm with h | h <;> omega)
        first | exact ⟨rfl, fun k h1 h2 => hbl2 k h1 (by omega), hFI, by rw [List.length_append]; exact hend.out⟩ | exact ⟨fun k h1 h2 => hbl2 k h1 (by omega), ⟨⟨hgrow.os, hgrow.tape, hgrow.output, by have := hgrow.size; rw [World.size_alloc] at this; simp [World.setCell]; omega, fun k hk => hkeep k (by omega) (by omega) (fun e => by rcases hub.out k e.symm with h | h <;> omega)⟩, hkeep _ (by omega) (by omega) (fun e => by rcases hub.out _ e.symm with h | h <;> omega), hbl2 _ (by omega) (by omega)⟩, hFI, by have := hend.out; omega⟩
    case stop =>
      rintro D pre W hD ⟨k, rfl⟩ ⟨⟨hlow, hnum, u, hbox, hO, hub⟩, hlen⟩ hK
      rw [firstL_len] at hlen
      subst hlen
      have hc3 : W.cell? ⟨w.heap.size + 1 + 1 + 1, 0, none⟩ = some u := by unfold World.cell?; rw [show w.heap.size + 1 + 1 + 1 = w.heap.size + 3 from rfl, hbox]; rfl
      gi_wp2
      refine ⟨by simp, .inl ⟨_, _, rfl, run_takeDeferred hK, ?_⟩⟩
      exact ⟨_, results_tmp rfl _ _ _, ⟨u, rfl, ownsRow_putObj hO _ hK rfl⟩, hlow.trans (belowK_b (w := w) (Nat.le_refl _) W D _ _ (by omega) hK rfl rfl)⟩
end Go.Proofs.YtfljkcmijnhgkaaDoor
