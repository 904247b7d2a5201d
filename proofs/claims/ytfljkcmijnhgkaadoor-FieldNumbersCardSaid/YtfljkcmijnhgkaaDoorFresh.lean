/- Rows that may be cleared; what is outside some blocks is kept. -/
import Derived.Test.YtfljkcmijnhgkaaDoorEqRows
import Derived.Test.YtfljkcmijnhgkaaDoorSolveL
import Derived.Deep.MidRow
import Derived.Lib.SliceRun
import Derived.Lib.EndianMore
namespace Go.Proofs.YtfljkcmijnhgkaaDoor
open Go.RowKit Go.Shelf

/-- Blocks from lo on up to hi aside, all is as it was. -/
structure Btw (lo hi : Nat) (w w' : World) : Prop where
  os : w'.os = w.os
  tape : w'.tape = w.tape
  output : w'.output = w.output
  size : w.heap.size ≤ w'.heap.size
  block : ∀ k, k < w.heap.size → (k < lo ∨ hi ≤ k) → w'.heap[k]? = w.heap[k]?
namespace Btw
variable {lo hi : Nat} {w w' w'' : World}
theorem refl (lo hi : Nat) (w : World) : Btw lo hi w w := ⟨rfl, rfl, rfl, Nat.le_refl _, fun _ _ _ => rfl⟩
theorem trans (h : Btw lo hi w w') (k : Btw lo hi w' w'') : Btw lo hi w w'' :=
  ⟨k.os.trans h.os, k.tape.trans h.tape, k.output.trans h.output, Nat.le_trans h.size k.size, fun i hi hn => (k.block i (Nat.lt_of_lt_of_le hi h.size) hn).trans (h.block i hi hn)⟩
theorem of_below (h : Below w.heap.size w w') : Btw lo hi w w' := ⟨h.os, h.tape, h.output, h.size, fun k hk _ => h.block k hk⟩
theorem below (h : Btw lo hi w w') (hl : lo ≤ w.heap.size) : Below lo w w' := ⟨h.os, h.tape, h.output, h.size, fun k hk => h.block k (by omega) (.inl hk)⟩
theorem setCells {g : Nat} (hl : lo ≤ g) (hh : g < hi) : ∀ (vs : List Value) (o : Nat) (w : World), Btw lo hi w (w.setCells g o vs)
  | [], _, w => refl lo hi w
  | v :: r, o, w => (show Btw lo hi w (w.setCell ⟨g, o, none⟩ v) from ⟨rfl, rfl, rfl, by simp [World.setCell], fun k _ hk => Below.heap_setCell _ _ _ _ (by show k ≠ g; omega)⟩).trans (setCells hl hh r (o + 1) _)
theorem owns (h : Btw lo hi w w') {base : Nat} {e : TypeId} {size : Nat} {v : Value} {n : Nat} {xs : List Value} (ho : w.ownsRow base e size v n xs) (hb : hi ≤ base) : w'.ownsRow base e size v n xs := by
  refine ⟨ho.1, ?_⟩
  rcases ho.2 with hn | ⟨g, cap, cur, rfl, hb', hgg, rest⟩
  · exact .inl hn
  · exact .inr ⟨g, cap, cur, rfl, hb', (h.block g (Array.getElem?_eq_some_iff.1 hgg).1 (.inr (by omega))).trans hgg, rest⟩
theorem ownI (h : Btw lo hi w w') {base : Nat} {v : Value} {xs : List Int} (ho : OwnI w base v xs) (hb : hi ≤ base) : OwnI w' base v xs := h.owns ho hb
theorem ownM (h : Btw lo hi w w') {base : Nat} {v : Value} {rs : List (List Int)} (ho : OwnM w base v rs) (hb : hi ≤ base) : OwnM w' base v rs := by
  obtain ⟨vs, h1, h2, h3⟩ := ho
  exact ⟨vs, h.owns h1 hb, fun j r u hr hu => h.owns (h2 j r u hr hu) hb, h3⟩
theorem mono (h : Btw lo hi w w') {lo' hi' : Nat} (h1 : lo' ≤ lo) (h2 : hi ≤ hi') : Btw lo' hi' w w' := ⟨h.os, h.tape, h.output, h.size, fun k hk hn => h.block k hk (by omega)⟩
end Btw

/-- A row of so many cells, which may be written, in a block from lo on up to hi that is none of b. -/
def FreshRow (b lo hi : Nat) (w : World) (n : Nat) (u : Value) : Prop :=
  ∃ A c, u = .slice A n c ∧ n ≤ 140737488355328 ∧ (0 < n → ∃ g o, A = some ⟨g, o, none⟩ ∧ lo ≤ g ∧ g < hi ∧ g ≠ b ∧ (∀ j, j < n → (w.cell? ⟨g, o + j, none⟩).isSome = true ∧ w.frozen? ⟨g, o + j, none⟩ = false))
/-- The rows of v are such rows. -/
def FreshV (lo hi : Nat) (w : World) (v : Value) (n : Nat) (ls : Nat → Nat) : Prop :=
  ∃ A c, v = .slice A n c ∧ n ≤ c ∧ n ≤ 140737488355328 ∧ (0 < n → ∃ b off, A = some ⟨b, off, none⟩ ∧ ∀ k, k < n → ∃ u, w.cell? ⟨b, off + k, none⟩ = some u ∧ FreshRow b lo hi w (ls k) u)
theorem FreshRow.wrote {b lo hi n : Nat} {w : World} {u : Value} (h : FreshRow b lo hi w n u) (g o : Nat) (vs : List Value) : FreshRow b lo hi (w.setCells g o vs) n u := by
  obtain ⟨A, c, rfl, hn, h⟩ := h
  refine ⟨A, c, rfl, hn, fun hp => ?_⟩
  obtain ⟨g', o', rfl, h1, h2, h5, h3⟩ := h hp
  exact ⟨g', o', rfl, h1, h2, h5, fun j hj => ⟨World.isSome_setCells _ _ _ _ _ (h3 j hj).1, (World.frozen?_setCells _ _ _ _ _).trans (h3 j hj).2⟩⟩
theorem FreshRow.kept {b lo hi n : Nat} {w w' : World} {u : Value} (h : FreshRow b lo hi w n u) (hb : Below w.heap.size w w') : FreshRow b lo hi w' n u := by
  obtain ⟨A, c, rfl, hn, h⟩ := h
  refine ⟨A, c, rfl, hn, fun hp => ?_⟩
  obtain ⟨g', o', rfl, h1, h2, h5, h3⟩ := h hp
  refine ⟨g', o', rfl, h1, h2, h5, fun j hj => ?_⟩
  obtain ⟨x, hx⟩ := Option.isSome_iff_exists.1 (h3 j hj).1
  have hlt := World.block_lt_of_cell? w _ hx
  exact ⟨by rw [hb.cell (p := ⟨g', o' + j, none⟩) hlt]; exact (h3 j hj).1, by rw [hb.frozen (p := ⟨g', o' + j, none⟩) hlt]; exact (h3 j hj).2⟩
theorem FreshV.kept {lo hi n : Nat} {w w' : World} {v : Value} {ls : Nat → Nat} (h : FreshV lo hi w v n ls) (hb : Below w.heap.size w w') : FreshV lo hi w' v n ls := by
  obtain ⟨A, c, rfl, h1, h2, h3⟩ := h
  refine ⟨A, c, rfl, h1, h2, fun hp => ?_⟩
  obtain ⟨b, off, rfl, h4⟩ := h3 hp
  refine ⟨b, off, rfl, fun k hk => ?_⟩
  obtain ⟨u, hu, hr⟩ := h4 k hk
  exact ⟨u, (hb.cell (p := ⟨b, off + k, none⟩) (World.block_lt_of_cell? w _ hu)).trans hu, hr.kept hb⟩
theorem FreshV.wider {lo hi lo' hi' n : Nat} {w : World} {v : Value} {ls : Nat → Nat} (h : FreshV lo hi w v n ls) (h1 : lo' ≤ lo) (h2 : hi ≤ hi') : FreshV lo' hi' w v n ls := by
  obtain ⟨A, c, rfl, h3, h4, h5⟩ := h
  refine ⟨A, c, rfl, h3, h4, fun hp => ?_⟩
  obtain ⟨b, off, rfl, h6⟩ := h5 hp
  refine ⟨b, off, rfl, fun k hk => ?_⟩
  obtain ⟨u, hu, A2, c2, rfl, e1, e2⟩ := h6 k hk
  refine ⟨_, hu, A2, c2, rfl, e1, fun hq => ?_⟩
  obtain ⟨g, o, rfl, f1, f2, f3⟩ := e2 hq
  exact ⟨g, o, rfl, by omega, by omega, f3⟩
theorem own_fresh {w : World} {base b : Nat} {v : Value} {xs : List Int} (h : OwnI w base v xs) (hn : xs.length ≤ 140737488355328) (hb : v.ownBlock ≠ some b) : FreshRow b base w.heap.size w xs.length v := by
  have h' := h
  unfold OwnI at h
  obtain ⟨A, c, rfl⟩ := own_form h
  refine ⟨A, c, rfl, hn, fun hp => ?_⟩
  rcases h.2 with ⟨e, e2⟩ | ⟨g, cap, cur, e, hbg, hh, hc, _⟩
  · omega
  · simp only [Value.slice.injEq] at e
    obtain ⟨rfl, -, rfl⟩ := e
    refine ⟨g, 0, rfl, hbg, (Array.getElem?_eq_some_iff.1 hh).1, fun e => hb (by rw [← e]; rfl), fun j hj => ?_⟩
    rw [Nat.zero_add]
    exact ⟨by rw [h.cellAt j (by omega)]; simp [ints, hj], h.frozenAt j⟩
/-- A matrix of the call's own may be cleared. -/
theorem OwnM.fresh {w : World} {base : Nat} {v : Value} {rs : List (List Int)} (h : OwnM w base v rs) (hn : rs.length ≤ 140737488355328) (hm : ∀ r ∈ rs, r.length ≤ 140737488355328) : FreshV base w.heap.size w v rs.length fun k => (rs.getD k []).length := by
  obtain ⟨vs, h1, h2, h3⟩ := h
  have hl : vs.length = rs.length := by have := h1.1; omega
  obtain ⟨A, c, rfl⟩ := own_form h1
  refine ⟨A, c, rfl, ?_, hn, fun hp => ?_⟩
  · rcases h1.2 with ⟨e, e2⟩ | ⟨g, cap, cur, e, hbg, hh, hc, _⟩
    · omega
    · simp only [Value.slice.injEq] at e; omega
  · obtain ⟨g, c', e, hb, hg⟩ := h1.form (by omega)
    simp only [Value.slice.injEq] at e
    obtain ⟨rfl, -, rfl⟩ := e
    refine ⟨g, 0, rfl, fun k hk => ?_⟩
    have hu : vs[k]? = some vs[k] := List.getElem?_eq_getElem (by omega)
    have hr : rs[k]? = some (rs.getD k []) := by rw [List.getD_eq_getElem?_getD, List.getElem?_eq_getElem hk]; rfl
    refine ⟨vs[k], by rw [Nat.zero_add, h1.cellAt k (by omega)]; exact hu, own_fresh (h2 k _ _ hr hu) (hm _ (List.mem_of_getElem? hr)) (fun e => ?_)⟩
    rcases own_ne (h2 k _ _ hr hu) h1 (by decide) with h | h
    · rw [h] at e; cases e
    · exact h e
end Go.Proofs.YtfljkcmijnhgkaaDoor
