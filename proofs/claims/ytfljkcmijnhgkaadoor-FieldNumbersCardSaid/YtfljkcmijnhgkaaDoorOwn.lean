/- Rows and matrices that a call has made itself. -/
import Derived.Test.YtfljkcmijnhgkaaDoorProg
import Derived.Test.YtfljkcmijnhgkaaDoorMem
import Derived.OneCell
import Derived.Deep.AppendLies
import Derived.KernelRfl
namespace Go.Proofs.YtfljkcmijnhgkaaDoor
open Go.RowKit

theorem infoI : (Tryd.prog.info? 3).map (fun i => (i.zero, i.size, i.bytes)) = some (some (.int .i64 0), 1, 8) := by kernel_rfl
theorem infoR : (Tryd.prog.info? 23).map (fun i => (i.zero, i.size, i.bytes)) = some (some (.slice none 0 0), 1, 24) := by kernel_rfl

theorem Below.then_ {w W W2 : World} (h : Below w.heap.size w W) (h2 : Below W.heap.size W W2) : Below w.heap.size w W2 := h.trans (h2.mono h.size)
theorem grown_of_below {w w1 : World} (h : Below w.heap.size w w1) (row : Option Nat) : w.grownBy w1 row := ⟨h.os, h.tape, h.output, h.size, fun i hi _ => h.block i hi⟩
theorem own_below {w w1 : World} {base : Nat} {e : TypeId} {size : Nat} {v : Value} {n : Nat} {xs : List Value} (h : w.ownsRow base e size v n xs) (hb : Below w.heap.size w w1) : w1.ownsRow base e size v n xs :=
  h.kept (grown_of_below hb none) (by cases v.ownBlock <;> simp)
theorem own_base {w : World} {base base' : Nat} {e : TypeId} {size : Nat} {v : Value} {n : Nat} {xs : List Value} (h : w.ownsRow base e size v n xs) (hb : base' ≤ base) : w.ownsRow base' e size v n xs := by
  refine ⟨h.1, ?_⟩
  rcases h.2 with h | ⟨g, cap, cur, h1, h2, h3⟩
  · exact .inl h
  · exact .inr ⟨g, cap, cur, h1, Nat.le_trans hb h2, h3⟩
theorem own_ne {w : World} {b b' : Nat} {e e' : TypeId} {s s' n n' : Nat} {v v' : Value} {xs xs' : List Value} (h : w.ownsRow b e s v n xs) (h' : w.ownsRow b' e' s' v' n' xs') (hne : e ≠ e') : v.ownBlock = none ∨ v.ownBlock ≠ v'.ownBlock := by
  rcases h.2 with ⟨rfl, _⟩ | ⟨g, cap, cur, rfl, _, hh, _⟩
  · exact .inl rfl
  · refine .inr fun hk => ?_
    rcases h'.2 with ⟨rfl, _⟩ | ⟨g', cap', cur', rfl, _, hh', _⟩
    · simp [Value.ownBlock] at hk
    · have : g = g' := by simpa [Value.ownBlock] using hk
      subst this
      rw [hh] at hh'
      injection hh' with hh'
      injection hh' with _ ht
      exact hne ht
/-- What is owned is read. -/
theorem own_RdV {w : World} {base : Nat} {e : TypeId} {v : Value} {n : Nat} {vs : List Value} (h : w.ownsRow base e 1 v n vs) (hn : n ≤ 140737488355328) : RdV w v vs := by
  have hl : vs.length = n := by have := h.1; omega
  rcases h.2 with ⟨rfl, rfl⟩ | ⟨g, cap, cur, rfl, hb, hg, hc, _⟩
  · exact ⟨none, 0, by rw [hl], by omega, by omega, fun hp => by omega⟩
  · refine ⟨_, cap, by rw [hl], by omega, by omega, fun hp => ⟨g, 0, rfl, fun j u hj => ?_⟩⟩
    rw [Nat.zero_add, h.cellAt j (by have := (List.getElem?_eq_some_iff.1 hj).1; omega)]
    exact hj

/-- A ROW OF NUMBERS OF THE CALL'S OWN. -/
def OwnI (w : World) (base : Nat) (v : Value) (xs : List Int) : Prop := w.ownsRow base 3 1 v xs.length (ints xs)
theorem OwnI.rd {w : World} {base : Nat} {v : Value} {xs : List Int} (h : OwnI w base v xs) (hn : xs.length ≤ 140737488355328) : RdI w v xs := own_RdV h hn
theorem OwnI.below {w w1 : World} {base : Nat} {v : Value} {xs : List Int} (h : OwnI w base v xs) (hb : Below w.heap.size w w1) : OwnI w1 base v xs := own_below h hb
theorem OwnI.base {w : World} {base base' : Nat} {v : Value} {xs : List Int} (h : OwnI w base v xs) (hb : base' ≤ base) : OwnI w base' v xs := own_base h hb
/-- A MATRIX OF THE CALL'S OWN: rows that share nothing. -/
def OwnM (w : World) (base : Nat) (v : Value) (rs : List (List Int)) : Prop :=
  ∃ vs : List Value, w.ownsRow base 23 1 v rs.length vs ∧ (∀ (j : Nat) (r : List Int) (u : Value), rs[j]? = some r → vs[j]? = some u → OwnI w base u r) ∧
    (∀ (i j : Nat) (u u' : Value), i ≠ j → vs[i]? = some u → vs[j]? = some u' → u.ownBlock = none ∨ u.ownBlock ≠ u'.ownBlock)
theorem OwnM.below {w w1 : World} {base : Nat} {v : Value} {rs : List (List Int)} (h : OwnM w base v rs) (hb : Below w.heap.size w w1) : OwnM w1 base v rs := by
  obtain ⟨vs, h1, h2, h3⟩ := h
  exact ⟨vs, own_below h1 hb, fun j r u hr hu => (h2 j r u hr hu).below hb, h3⟩
theorem OwnM.base {w : World} {base base' : Nat} {v : Value} {rs : List (List Int)} (h : OwnM w base v rs) (hb : base' ≤ base) : OwnM w base' v rs := by
  obtain ⟨vs, h1, h2, h3⟩ := h
  exact ⟨vs, own_base h1 hb, fun j r u hr hu => (h2 j r u hr hu).base hb, h3⟩
theorem OwnM.rd {w : World} {base : Nat} {v : Value} {rs : List (List Int)} (h : OwnM w base v rs) (hn : rs.length ≤ 140737488355328) (hm : ∀ r ∈ rs, r.length ≤ 140737488355328) : RdM w v rs := by
  obtain ⟨vs, h1, h2, h3⟩ := h
  exact ⟨vs, own_RdV h1 hn, by have := h1.1; omega, fun j r u hr hu => (h2 j r u hr hu).rd (hm r (List.mem_of_getElem? hr))⟩
/-- Row i of an own matrix. -/
theorem OwnM.row {w : World} {base : Nat} {v : Value} {rs : List (List Int)} (h : OwnM w base v rs) {i : Nat} {r : List Int} (hi : rs[i]? = some r) : ∃ g c u, v = .slice (some ⟨g, 0, none⟩) rs.length c ∧ base ≤ g ∧ g < w.heap.size ∧ w.cell? ⟨g, i, none⟩ = some u ∧ w.frozen? ⟨g, i, none⟩ = false ∧ OwnI w base u r ∧ u.ownBlock ≠ some g := by
  obtain ⟨vs, h1, h2, h3⟩ := h
  have hlt := (List.getElem?_eq_some_iff.1 hi).1
  obtain ⟨g, c, rfl, hb, hg⟩ := h1.form (by omega)
  have hl : vs.length = rs.length := by have := h1.1; omega
  have hu : vs[i]? = some vs[i] := List.getElem?_eq_getElem (by omega)
  have ho := h2 i r _ hi hu
  refine ⟨g, c, vs[i], rfl, hb, hg, by rw [h1.cellAt i (by omega)]; exact hu, h1.frozenAt i, ho, fun e => ?_⟩
  rcases own_ne ho h1 (by decide) with h | h
  · rw [h] at e; cases e
  · exact h e
theorem OwnM.row' {w : World} {base g n c : Nat} {rs : List (List Int)} (h : OwnM w base (.slice (some ⟨g, 0, none⟩) n c) rs) {i : Nat} {r : List Int} (hi : rs[i]? = some r) : base ≤ g ∧ g < w.heap.size ∧ ∃ u, w.cell? ⟨g, i, none⟩ = some u ∧ w.frozen? ⟨g, i, none⟩ = false ∧ OwnI w base u r ∧ u.ownBlock ≠ some g := by
  obtain ⟨g', c', u, e, h1, h2, h3, h4, h5, h6⟩ := h.row hi
  simp only [Value.slice.injEq, Option.some.injEq, Addr.mk.injEq, and_true] at e
  obtain ⟨rfl, _, _⟩ := e
  exact ⟨h1, h2, u, h3, h4, h5, h6⟩
/-- Row i is another one now, in memory of its own, and its place tells so. -/
theorem OwnM.upd {w w1 : World} {base g c n : Nat} {rs : List (List Int)} (h : OwnM w base (.slice (some ⟨g, 0, none⟩) n c) rs) {i : Nat} {r r' : List Int} {u v' : Value} (hi : rs[i]? = some r)
    (hc : w.cell? ⟨g, i, none⟩ = some u) (hg : w.grownBy w1 u.ownBlock) (ho : OwnI w1 base v' r') (hn : v'.ownBlock = none ∨ v'.ownBlock = u.ownBlock ∨ ∃ k, v'.ownBlock = some k ∧ w.heap.size ≤ k) :
    OwnM (w1.setCell ⟨g, i, none⟩ v') base (.slice (some ⟨g, 0, none⟩) n c) (rs.set i r') := by
  obtain ⟨vs, h1, h2, h3⟩ := h
  obtain rfl : rs.length = n := by
    rcases h1.2 with ⟨e, _⟩ | ⟨_, _, _, e, _⟩
    · simp at e
    · simp only [Value.slice.injEq] at e; exact e.2.1.symm
  have hlt := (List.getElem?_eq_some_iff.1 hi).1
  have hl : vs.length = rs.length := by have := h1.1; omega
  have hu : vs[i]? = some u := by rw [← h1.cellAt i (by omega)]; exact hc
  have hou := h2 i r u hi hu
  have hne := own_ne h1 hou (by decide)
  have h1' := (h1.kept hg hne).stored i v'
  have hgb : (Value.slice (some ⟨g, 0, none⟩) rs.length c).ownBlock = some g := rfl
  have hv' : v'.ownBlock ≠ some g := by
    intro e
    rcases own_ne ho (h1.kept hg hne) (by decide) with h | h
    · rw [h] at e; cases e
    · exact h e
  refine ⟨vs.set i v', by rw [List.length_set]; exact h1'.1, fun j s x hs hx => ?_, fun a b x y hab hx hy => ?_⟩
  · by_cases hij : i = j
    · subst hij
      rw [List.getElem?_set_self hlt] at hs
      rw [List.getElem?_set_self (by omega)] at hx
      cases hs; cases hx
      exact ho.kept h1'.2 (.inr hv')
    · rw [List.getElem?_set_ne hij] at hs hx
      have ho2 := (h2 j s x hs hx)
      have hne2 := h3 j i x u (Ne.symm hij) hx hu
      have ho3 := ho2.kept hg hne2
      exact ho3.kept h1'.2 (by
        rcases own_ne ho3 (h1.kept hg hne) (by decide) with h | h
        · exact .inl h
        · exact .inr h)
  · have key : ∀ j x, i ≠ j → vs[j]? = some x → x.ownBlock = none ∨ x.ownBlock ≠ v'.ownBlock := by
      intro j x hij hx
      rcases hn with e | e | ⟨k, e, hk⟩
      · rw [e]
        by_cases hx0 : x.ownBlock = none
        · exact .inl hx0
        · exact .inr hx0
      · rw [e]; exact h3 j i x u (Ne.symm hij) hx hu
      · rw [e]
        have hj : j < rs.length := by have := (List.getElem?_eq_some_iff.1 hx).1; omega
        have hox := h2 j _ x (List.getElem?_eq_getElem hj) hx
        refine .inr fun e2 => ?_
        have := (hox.lt k e2).2
        omega
    by_cases ha : i = a
    · subst ha
      rw [List.getElem?_set_self (by omega)] at hx
      rw [List.getElem?_set_ne hab] at hy
      cases hx
      rcases key b y hab hy with h | h
      · rw [h]
        by_cases hx : v'.ownBlock = none
        · exact .inl hx
        · exact .inr hx
      · exact .inr (Ne.symm h)
    · by_cases hb : i = b
      · subst hb
        rw [List.getElem?_set_self (by omega)] at hy
        rw [List.getElem?_set_ne ha] at hx
        cases hy
        exact key a x ha hx
      · rw [List.getElem?_set_ne ha] at hx
        rw [List.getElem?_set_ne hb] at hy
        exact h3 a b x y hab hx hy
/-- make([][]int, n). -/
theorem OwnM_made (w : World) (base n : Nat) (hb : base ≤ w.heap.size) (hn : n ≤ maxLen) : OwnM (w.alloc (.cells (madeCells #[.slice none 0 0] n) 23)) base (.slice (some ⟨w.heap.size, 0, none⟩) n n) (List.replicate n []) := by
  have hr := World.ownsRow_lit (base := base) (e := 23) (size := 1) w (madeCells #[.slice none 0 0] n) n hb hn (by rw [size_madeCells]; omega)
  rw [toList_madeCells_one] at hr
  refine ⟨List.replicate n (.slice none 0 0), by simpa using hr, fun j r u h1 h2 => ?_, fun i j u u' _ h1 h2 => .inl ?_⟩
  · rw [List.getElem?_replicate] at h1 h2
    split at h1
    · cases h1
      rw [if_pos (by assumption)] at h2
      cases h2
      exact World.ownsRow_nil _ _ _ _
    · cases h1
  · rw [List.getElem?_replicate] at h1
    split at h1
    · cases h1; rfl
    · cases h1
end Go.Proofs.YtfljkcmijnhgkaaDoor
