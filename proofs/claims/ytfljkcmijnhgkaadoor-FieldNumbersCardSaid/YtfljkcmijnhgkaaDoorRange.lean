/- A range over an iterator of numbers that keeps a block of cells of its own, and is left by its N-th round at the latest. -/
import Derived.Test.YtfljkcmijnhgkaaDoorLine
import Derived.RangeFuncNested
import Derived.RangeFuncBound
import Derived.RangeFuncCalls
import Derived.RangeFuncLeaves
import Derived.Shelf.Abstract
import Derived.Shelf.RegionOpen
import Derived.OwnWalkIn
import Derived.TacticsInMore
import Derived.LoopNIn
import Derived.LoopIn
namespace Go.Proofs.YtfljkcmijnhgkaaDoor
open Go.RowKit Go.Shelf

/-- What a round that goes on keeps for the iterator: all below n₀, and two blocks. -/
structure Keeps (n₀ x y : Nat) (A B : World) : Prop where
  below : Below n₀ A B
  one : B.heap[x]? = A.heap[x]?
  two : B.heap[y]? = A.heap[y]?
theorem Keeps.trans {n₀ x y : Nat} {A B C : World} (h : Keeps n₀ x y A B) (k : Keeps n₀ x y B C) : Keeps n₀ x y A C := ⟨h.below.trans k.below, k.one.trans h.one, k.two.trans h.two⟩
/-- THE ITERATOR g GIVES NUMBERS UNTIL A ROUND SAYS NO MORE, which it does at its N-th at the latest; its own cells lie in the block that it lays first. -/
def UpTo (P : Program) (g : Nat) (lb : Array Value) (T : List Int → Prop) (N n₀ x : Nat) (W : World) : Prop :=
  ∀ (l : Nat) (J Jx : List Int → World → Prop), (∀ s A B row, J s A → A.grownBy B row → (∀ k, row = some k → k = W.heap.size) → J s B) → (∀ s A B row, Jx s A → A.grownBy B row → (∀ k, row = some k → k = W.heap.size) → Jx s B) →
    (∀ pre v W1, J pre W1 → pre.length < N → W.heap.size < W1.heap.size → YieldAt Fence.wide 7 P l #[.int .i64 v] W1 fun e W' =>
      (e = .returned (.bool true) ∧ J (pre ++ [v]) W' ∧ Keeps n₀ x W.heap.size W1 W' ∧ pre.length + 1 < N) ∨ (e = .returned (.bool false) ∧ Jx (pre ++ [v]) W')) →
    J [] W → CallsIn Fence.wide 8 P g (#[.func (.yield l) #[] #[]] ++ lb) W fun e W' => (∃ v, e = .returned v) ∧ ∃ pre, T pre ∧ Jx pre W'
/-- How a round may end. -/
def roundEnd (B N n₀ x id : Nat) (I Ix : List Int → World → Prop) (pre : List Int) (v : Int) (W : World) : Exit → Act → World → Prop
  | .normal, _, W' => (∀ k, B ≤ k → k < B + 2 → W'.heap[k]? = W.heap[k]?) ∧ Keeps n₀ x (B + 2) W W' ∧ I (pre ++ [v]) W' ∧ pre.length + 1 < N
  | .exit i, _, W' => i = id ∧ (∀ k, B ≤ k → k < B + 2 → W'.heap[k]? = W.heap[k]?) ∧ Ix (pre ++ [v]) W'
  | _, _, _ => False
theorem keeps_put {n₀ x y l : Nat} {W : World} {o : Obj} (h0 : n₀ ≤ l) (hx : l ≠ x) (hy : l ≠ y) (hW : l < W.heap.size) : Keeps n₀ x y W (W.putObj l o) :=
  ⟨(Below.refl n₀ W).grown (grownBy_putObj' W l o) (by omega) (fun k e => by cases e; exact h0), World.putObj_heap_other (Ne.symm hx), World.putObj_heap_other (Ne.symm hy)⟩
theorem wpIn_range_upTo {P : Program} {g : Operand} {p : Tmp} {assign body : Code} {Q : Exit → Act → World → Prop} {a : Act} {w : World} {gf : Nat} {lb : Array Value} {T : List Int → Prop} {N n₀ x : Nat}
    (hg : a.eval g = .func (.func gf) #[] lb) (eg : ∀ args w, (callFunc gf args).run P w = .ok (.enter gf args) w)
    (hseq : ∀ W, W.heap.size = w.heap.size + 2 → Below w.heap.size w W → UpTo P gf lb T N n₀ x W) (hn : n₀ ≤ w.heap.size) (hx : x < w.heap.size)
    (I Ix : List Int → World → Prop) (hI : ∀ s A B row, I s A → A.grownBy B row → (∀ k, row = some k → w.heap.size ≤ k ∧ k < w.heap.size + 3) → I s B)
    (hIx : ∀ s A B row, Ix s A → A.grownBy B row → (∀ k, row = some k → w.heap.size ≤ k ∧ k < w.heap.size + 3) → Ix s B) (h0 : I [] w) (a₁ : Int → Act) (id : Nat)
    (hassign : ∀ (l : Nat) (v : Int) (W : World) (K : Act → World → Prop), K (a₁ v) W → assign.wpIn (Fence.wide.inRound l) 7 P (Exit.then K (fun _ _ _ => False)) { tmps := a.tmps.setIfInBounds p (.int .i64 v), defers := [] } W)
    (hbody : ∀ (l : Nat) (pre : List Int) (v : Int) (W : World), I pre W → pre.length < N → w.heap.size + 3 ≤ W.heap.size → body.wpIn (Fence.wide.inRound l) 7 P (roundEnd w.heap.size N n₀ x id I Ix pre v W) (a₁ v) W)
    (hstop : ∀ (D : Nat) (pre : List Int) (W : World), D = w.heap.size → T pre → Ix pre W → W.heap[D]? = some (.deferred (some [])) → (Code.exit id).wpIn Fence.wide 9 P Q { a with defers := { target := .collected D, args := #[] } :: a.defers } W) :
    (Code.rangeFunc g #[p] assign body).wpIn Fence.wide 9 P Q a w := by
  refine wpIn_rangeFunc ?_
  intro fn hfn
  -- the loop's record, by its state and what is pending
  let rec_ : LoopState → Option Code → Loop := fun st pe => { state := st, pending := pe, fn, tmps := a.tmps, params := #[p], assign, body, defers := w.heap.size }
  have hrec : ∀ st pe, rec_ st pe = { state := st, pending := pe, fn, tmps := a.tmps, params := #[p], assign, body, defers := w.heap.size } := fun _ _ => rfl
  generalize rec_ = rc at hrec
  have hW1 : ∃ W1, (w.alloc (.deferred (some []))).alloc (.loop (rc .ready none)) = W1 ∧ W1.heap.size = w.heap.size + 2 ∧ Below w.heap.size w W1 ∧ W1.heap[w.heap.size + 1]? = some (.loop (rc .ready none)) ∧ W1.heap[w.heap.size]? = some (.deferred (some [])) ∧ I [] W1 := by
    refine ⟨_, rfl, by simp, ((Below.refl _ w).alloc (Nat.le_refl _) _).alloc (by simp) _, ?_, (Below.heap_alloc _ _ _ (by simp)).trans (World.alloc_heap_new w _), ?_⟩
    · have := World.alloc_heap_new (w.alloc (.deferred (some []))) (.loop (rc .ready none)); rwa [World.size_alloc] at this
    · exact hI _ _ _ none (hI _ _ _ none h0 (World.grownBy_alloc _ _ _) (fun _ e => by cases e)) (World.grownBy_alloc _ _ _) (fun _ e => by cases e)
  obtain ⟨W1, eW, hs1, hb1, hL1, hK1, hI1⟩ := hW1
  refine ⟨w.heap.size + 1, [{ target := .collected w.heap.size, args := #[] }], W1, { target := .fn (.func gf) lb, args := #[.func (.yield (w.heap.size + 1)) #[] #[]] }, W1, gf,
    #[.func (.yield (w.heap.size + 1)) #[] #[]] ++ lb, W1, ?_, ?_, fun _ _ => trivial, ?_, fun h => by simp [Fence.wide] at h, ?_⟩
  · rw [← eW, hrec]; exact run_enterLoop_outer _ _ _ _ _
  · simp only [resolve, hg]
    simp [go_sem]
  · simp [invoke, go_sem, eg]
  have hother : ∀ {A B : World} {row : Option Nat} {k : Nat} {o : Obj}, A.grownBy B row → (∀ j, row = some j → j = w.heap.size + 2) → k < w.heap.size + 2 → A.heap[k]? = some o → B.heap[k]? = some o := by
    intro A B row k o hgr hr hk ho
    exact (hgr.block k (Array.getElem?_eq_some_iff.1 ho).1 (fun e => by have := hr k e.symm; omega)).trans ho
  have hput : ∀ {s : List Int} {A : World} {l : Nat} {o o' : Obj} {M : List Int → World → Prop}, (∀ s A B row, M s A → A.grownBy B row → (∀ k, row = some k → w.heap.size ≤ k ∧ k < w.heap.size + 3) → M s B) → M s A → A.heap[l]? = some o → w.heap.size ≤ l → l < w.heap.size + 3 → M s (A.putObj l o') := by
    intro s A l o o' M hM hm _ h1 h2
    exact hM s A _ (some l) hm (grownBy_putObj' A l o') (fun k e => by cases e; exact ⟨h1, h2⟩)
  refine (hseq W1 hs1 hb1 (w.heap.size + 1)
    (fun pre W => (I pre W ∧ w.heap.size + 2 ≤ W.heap.size) ∧ W.heap[w.heap.size + 1]? = some (.loop (rc .ready none)) ∧ W.heap[w.heap.size]? = some (.deferred (some [])))
    (fun pre W => Ix pre W ∧ W.heap[w.heap.size + 1]? = some (.loop (rc .done (some (.exit id)))) ∧ W.heap[w.heap.size]? = some (.deferred (some [])))
    (fun s A B row hs hgr hr => ⟨⟨hI s A B row hs.1.1 hgr (fun k e => by have := hr k e; omega), Nat.le_trans hs.1.2 hgr.size⟩, hother hgr (fun j e => by have := hr j e; omega) (by omega) hs.2.1, hother hgr (fun j e => by have := hr j e; omega) (by omega) hs.2.2⟩)
    (fun s A B row hs hgr hr => ⟨hIx s A B row hs.1 hgr (fun k e => by have := hr k e; omega), hother hgr (fun j e => by have := hr j e; omega) (by omega) hs.2.1, hother hgr (fun j e => by have := hr j e; omega) (by omega) hs.2.2⟩)
    ?_ ⟨⟨hI1, by omega⟩, hL1, hK1⟩).mono ?_
  · rintro pre v W ⟨⟨hi, hsz⟩, hl, hk⟩ hlen hsz3
    have hlt := (Array.getElem?_eq_some_iff.1 hl).1
    have hy := run_yield (P := P) (args := #[.int .i64 v]) hl (by rw [hrec]; rfl)
    rw [hrec] at hy
    have hz : ((#[p] : Array Tmp).zip #[Value.int .i64 v]).foldl (fun tmps (t, a) => tmps.setIfInBounds t a) a.tmps = a.tmps.setIfInBounds p (.int .i64 v) := by simp
    dsimp only at hy
    rw [hz] at hy
    refine ⟨fn, _, assign, body, hy, roundIn_of_wpIn hfn ?_⟩
    refine hassign (w.heap.size + 1) v W _ ?_
    refine ⟨_, run_beginRound hl (by rw [hrec]), ?_⟩
    have hl2 : (W.putObj (w.heap.size + 1) (.loop { rc .ready none with state := .busy })).heap[w.heap.size + 1]? = some (.loop { rc .ready none with state := .busy }) := World.putObj_heap_same hlt
    have hk2 : (W.putObj (w.heap.size + 1) (.loop { rc .ready none with state := .busy })).heap[w.heap.size]? = some (.deferred (some [])) := (World.putObj_heap_other (by omega)).trans hk
    have fin : ∀ (jump : Option Code) (W3 : World), (∀ k, w.heap.size ≤ k → k < w.heap.size + 2 → W3.heap[k]? = (W.putObj (w.heap.size + 1) (.loop { rc .ready none with state := .busy })).heap[k]?) →
        (Instr.endRound (w.heap.size + 1) jump).run P W3 = .ok (.bool jump.isNone) (W3.putObj (w.heap.size + 1) (.loop (rc (if jump.isNone then .ready else .done) jump))) ∧
        W3.heap[w.heap.size + 1]? = some (.loop { rc .ready none with state := .busy }) ∧
        (W3.putObj (w.heap.size + 1) (.loop (rc (if jump.isNone then .ready else .done) jump))).heap[w.heap.size + 1]? = some (.loop (rc (if jump.isNone then .ready else .done) jump)) ∧
        (W3.putObj (w.heap.size + 1) (.loop (rc (if jump.isNone then .ready else .done) jump))).heap[w.heap.size]? = some (.deferred (some [])) := by
      intro jump W3 hk3
      have hl3 := (hk3 (w.heap.size + 1) (by omega) (by omega)).trans hl2
      have h := run_endRound (P := P) jump hl3
      refine ⟨?_, hl3, World.putObj_heap_same (Array.getElem?_eq_some_iff.1 hl3).1, (World.putObj_heap_other (by omega)).trans ((hk3 _ (by omega) (by omega)).trans hk2)⟩
      rw [h, hrec, hrec]
    refine wpIn_mono (hbody _ pre v _ (hput hI hi hl (by omega) (by omega)) hlen (by simp; omega)) ?_
    rintro e a3 W3 hp
    cases e with
    | normal =>
      obtain ⟨hk3, hkp, hi3, hN⟩ := hp
      obtain ⟨hr, hl3, hl4, hk4⟩ := fin none W3 hk3
      have hlt3 := (Array.getElem?_eq_some_iff.1 hl3).1
      refine ⟨_, _, hr, .inl ⟨rfl, ⟨⟨hput hI hi3 hl3 (by omega) (by omega), by simp; omega⟩, hl4, hk4⟩, ?_, hN⟩⟩
      rw [hs1]
      exact ((keeps_put (by omega) (by omega) (by omega) hlt).trans hkp).trans (keeps_put (by omega) (by omega) (by omega) hlt3)
    | exit i =>
      obtain ⟨rfl, hk3, hi3⟩ := hp
      obtain ⟨hr, hl3, hl4, hk4⟩ := fin (some (.exit i)) W3 hk3
      exact ⟨_, _, hr, .inr ⟨rfl, hput hIx hi3 hl3 (by omega) (by omega), hl4, hk4⟩⟩
    | ret => exact hp.elim
    | goto t => exact hp.elim
    | panic ch => exact hp.elim
    | outgrown => exact hp.elim
  · rintro e W2 ⟨⟨v, rfl⟩, pre, hT, hi, hl, hk⟩
    have h := run_endLoop (P := P) hl (by rw [hrec]; simp)
    rw [hrec] at h
    exact ⟨some (.exit id), _, h, hstop _ pre _ rfl hT (hput hIx hi hl (by omega) (by omega)) ((World.putObj_heap_other (by omega)).trans hk)⟩
end Go.Proofs.YtfljkcmijnhgkaaDoor
