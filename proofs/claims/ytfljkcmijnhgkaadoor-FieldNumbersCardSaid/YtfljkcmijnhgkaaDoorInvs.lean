/- Inverse: its contract. -/
import Derived.Test.YtfljkcmijnhgkaaDoorPureB
import Derived.Test.YtfljkcmijnhgkaaDoorSys
import Derived.Test.YtfljkcmijnhgkaaDoorFresh
namespace Go.Proofs.YtfljkcmijnhgkaaDoor
open Go.RowKit Go.Shelf
set_option linter.unusedSimpArgs false

theorem add_off (b o j : Nat) : (⟨b, o, none⟩ : Addr).add j = ⟨b, o + j, none⟩ := by unfold Addr.add; split <;> simp_all
/-- The cells of a slice that is appended. -/
theorem RdI.src {w : World} {v : Value} {xs : List Int} (h : RdI w v xs) (hp : 0 < xs.length) :
    ∃ b off c, v = .slice (some ⟨b, off, none⟩) xs.length c ∧ xs.length ≤ c ∧ xs.length ≤ 140737488355328 ∧ ∀ j u, (ints xs)[j]? = some u → w.cell? ((⟨b, off, none⟩ : Addr).add j) = some u := by
  obtain ⟨A, c, e, h1, h2, h3⟩ := h
  rw [ints_len] at *
  obtain ⟨b, off, rfl, h4⟩ := h3 hp
  exact ⟨b, off, c, e, h1, h2, fun j u hj => by rw [add_off]; exact h4 j u hj⟩
theorem ints_one (xs : List Int) : ∀ u ∈ ints xs, u.oneCell' = true := by
  intro u hu
  obtain ⟨x, _, rfl⟩ := List.mem_map.1 hu
  rfl
/-- Row i is another one now, in memory of its own, and its place tells so: the rows' values told. -/
theorem OwnMv.upd {w w1 : World} {base g c n : Nat} {rs : List (List Int)} {vs : List Value} (h : OwnMv w base (.slice (some ⟨g, 0, none⟩) n c) rs vs) {i : Nat} {r r' : List Int} {u v' : Value} (hi : rs[i]? = some r)
    (hu : vs[i]? = some u) (hg : w.grownBy w1 u.ownBlock) (ho : OwnI w1 base v' r') (hn : v'.ownBlock = none ∨ v'.ownBlock = u.ownBlock ∨ ∃ k, v'.ownBlock = some k ∧ w.heap.size ≤ k) :
    OwnMv (w1.setCell ⟨g, i, none⟩ v') base (.slice (some ⟨g, 0, none⟩) n c) (rs.set i r') (vs.set i v') := by
  obtain ⟨h1, h2, h3⟩ := h
  obtain rfl : rs.length = n := by
    rcases h1.2 with ⟨e, _⟩ | ⟨_, _, _, e, _⟩
    · simp at e
    · simp only [Value.slice.injEq] at e; exact e.2.1.symm
  have hlt := (List.getElem?_eq_some_iff.1 hi).1
  have hl : vs.length = rs.length := by have := h1.1; omega
  have hou := h2 i r u hi hu
  have hne := own_ne h1 hou (by decide)
  have h1' := (h1.kept hg hne).stored i v'
  have hv' : v'.ownBlock ≠ some g := by
    intro e
    rcases own_ne ho (h1.kept hg hne) (by decide) with h | h
    · rw [h] at e; cases e
    · exact h e
  refine ⟨by rw [List.length_set]; exact h1'.1, fun j s x hs hx => ?_, fun a b x y hab hx hy => ?_⟩
  · by_cases hij : i = j
    · subst hij
      rw [List.getElem?_set_self hlt] at hs
      rw [List.getElem?_set_self (by omega)] at hx
      cases hs; cases hx
      exact ho.kept h1'.2 (.inr hv')
    · rw [List.getElem?_set_ne hij] at hs hx
      have ho2 := (h2 j s x hs hx)
      have hne2 := h3 j i x u (Ne.symm hij) hx hu
      have ho3 := ho2.kept hg hne2
      exact ho3.kept h1'.2 (by
        rcases own_ne ho3 (h1.kept hg hne) (by decide) with h | h
        · exact .inl h
        · exact .inr h)
  · have key : ∀ j x, i ≠ j → vs[j]? = some x → x.ownBlock = none ∨ x.ownBlock ≠ v'.ownBlock := by
      intro j x hij hx
      rcases hn with e | e | ⟨k, e, hk⟩
      · rw [e]
        by_cases hx0 : x.ownBlock = none
        · exact .inl hx0
        · exact .inr hx0
      · rw [e]; exact h3 j i x u (Ne.symm hij) hx hu
      · rw [e]
        have hj : j < rs.length := by have := (List.getElem?_eq_some_iff.1 hx).1; omega
        have hox := h2 j _ x (List.getElem?_eq_getElem hj) hx
        refine .inr fun e2 => ?_
        have := (hox.lt k e2).2
        omega
    by_cases ha : i = a
    · subst ha
      rw [List.getElem?_set_self (by omega)] at hx
      rw [List.getElem?_set_ne hab] at hy
      cases hx
      rcases key b y hab hy with h | h
      · rw [h]
        by_cases hx : v'.ownBlock = none
        · exact .inl hx
        · exact .inr hx
      · exact .inr (Ne.symm h)
    · by_cases hb : i = b
      · subst hb
        rw [List.getElem?_set_self (by omega)] at hy
        rw [List.getElem?_set_ne ha] at hx
        cases hy
        exact key a x ha hx
      · rw [List.getElem?_set_ne ha] at hx
        rw [List.getElem?_set_ne hb] at hy
        exact h3 a b x y hab hx hy
/-- Rows before i have the identity's beside them. -/
def iaP (rs : List (List Int)) (k : Nat) : List (List Int) := (List.range rs.length).map fun j => if j < k then rs.getD j [] ++ (idM rs.length).getD j [] else rs.getD j []
theorem iaP_zero (rs : List (List Int)) : iaP rs 0 = rs := by
  apply List.ext_getElem (by simp [iaP])
  intro j h1 h2
  simp [iaP, List.getD_eq_getElem?_getD, h2]
theorem iaP_end (rs : List (List Int)) : iaP rs rs.length = idAug rs := by
  apply List.map_congr_left; intro j hj
  rw [if_pos (by simpa using hj)]
theorem iaP_get (rs : List (List Int)) {i : Nat} (hi : i < rs.length) : (iaP rs i)[i]? = some (rs.getD i []) := by
  rw [iaP, List.getElem?_map, List.getElem?_range hi, Option.map_some, if_neg (by omega)]
theorem iaP_set (rs : List (List Int)) (i : Nat) : (iaP rs i).set i (rs.getD i [] ++ (idM rs.length).getD i []) = iaP rs (i + 1) := by
  apply List.ext_getElem (by simp [iaP])
  intro j h1 h2
  rw [List.getElem_set]
  simp only [iaP, List.getElem_map, List.getElem_range]
  by_cases e : i = j
  · subst e; rw [if_pos rfl, if_pos (by omega)]
  · rw [if_neg e]
    by_cases h : j < i
    · rw [if_pos h, if_pos (by omega)]
    · rw [if_neg h, if_neg (by omega)]
theorem okM.mem {a : List (List Int)} {n m i : Nat} (h : okM a n m) (hi : i < n) : ∀ x ∈ a.getD i [], 0 ≤ x ∧ x < 65521 := by
  have hl : i < a.length := by rw [h.1]; exact hi
  rw [List.getD_eq_getElem?_getD, List.getElem?_eq_getElem hl]
  exact (h.2 _ (List.getElem_mem hl)).2
theorem okM_idAug {rs : List (List Int)} {n : Nat} (h : okM rs n n) : okM (idAug rs) n (n + n) := by
  refine ⟨by simp [idAug, h.1], fun r hr => ?_⟩
  obtain ⟨i, hi, rfl⟩ := List.mem_map.1 hr
  have hi' : i < n := by have := List.mem_range.1 hi; rw [h.1] at this; exact this
  rw [h.1]
  refine ⟨by rw [List.length_append, h.row hi', (okM_id n).row hi'], fun x hx => ?_⟩
  rcases List.mem_append.1 hx with hx | hx
  · exact h.mem hi' x hx
  · exact (okM_id n).mem hi' x hx
/-- A row without its first n numbers. -/
def cutV (n : Nat) : Value → Value
  | .slice (some ⟨b, o, s⟩) l c => .slice (some ⟨b, o + n, s⟩) (l - n) (c - n)
  | v => v
def cutP (n : Nat) (vs : List Value) (k : Nat) : List Value := (List.range vs.length).map fun j => if j < k then cutV n (vs.getD j undef) else vs.getD j undef
theorem cutP_zero (n : Nat) (vs : List Value) : cutP n vs 0 = vs := by
  apply List.ext_getElem (by simp [cutP])
  intro j h1 h2
  simp [cutP, List.getD_eq_getElem?_getD, h2]
theorem cutP_get (n : Nat) (vs : List Value) {i : Nat} (hi : i < vs.length) : (cutP n vs i)[i]? = some (vs.getD i undef) := by
  rw [cutP, List.getElem?_map, List.getElem?_range hi, Option.map_some, if_neg (by omega)]
theorem cutP_set (n : Nat) (vs : List Value) (i : Nat) : (cutP n vs i).set i (cutV n (vs.getD i undef)) = cutP n vs (i + 1) := by
  apply List.ext_getElem (by simp [cutP])
  intro j h1 h2
  rw [List.getElem_set]
  simp only [cutP, List.getElem_map, List.getElem_range]
  by_cases e : i = j
  · subst e; rw [if_pos rfl, if_pos (by omega)]
  · rw [if_neg e]
    by_cases h : j < i
    · rw [if_pos h, if_pos (by omega)]
    · rw [if_neg h, if_neg (by omega)]
theorem cutP_end (n : Nat) (vs : List Value) : cutP n vs vs.length = vs.map (cutV n) := by
  apply List.ext_getElem (by simp [cutP])
  intro j h1 h2
  have hj : j < vs.length := by simpa [cutP] using h1
  simp [cutP, List.getD_eq_getElem?_getD, hj]
/-- The rows without their first n numbers, read; they may be cleared. -/
theorem OwnMv.cut {w w1 : World} {base g c N n : Nat} {rs : List (List Int)} {vs : List Value} (h : OwnMv w base (.slice (some ⟨g, 0, none⟩) N c) rs vs)
    (ho : w1.ownsRow base 23 1 (.slice (some ⟨g, 0, none⟩) N c) N (vs.map (cutV n))) (hg : w.grownBy w1 (some g)) (hn : 0 < n) (hl : ∀ r ∈ rs, r.length = n + n) (hb : N ≤ 140737488355328) (hb2 : n ≤ 70368744177664) :
    RdM w1 (.slice (some ⟨g, 0, none⟩) N c) (rs.map (·.drop n)) ∧ FreshV base w.heap.size w1 (.slice (some ⟨g, 0, none⟩) N c) rs.length fun k => ((rs.map (·.drop n)).getD k []).length := by
  have hlen := h.len
  have hN : vs.length = N := by have := ho.1; simpa using this
  have key : ∀ (j : Nat) (r : List Int) (u : Value), rs[j]? = some r → vs[j]? = some u → RdI w1 (cutV n u) (r.drop n) ∧ FreshRow g base w.heap.size w1 n (cutV n u) := by
    intro j r u hr hu
    have hri := h.rows j r u hr hu
    have hrl := hl r (List.mem_of_getElem? hr)
    obtain ⟨g1, c1, rfl, h1, h2, -⟩ := h.num hr hu (k := 0) (by omega)
    have hne : g1 ≠ g := fun e => h.outer_ne (g := g) rfl _ (List.mem_of_getElem? hu) (by rw [e]; rfl)
    have hb1 := hg.block g1 h2 (by simpa using hne)
    have hci : ∀ k, k < r.length → w1.cell? ⟨g1, k, none⟩ = some (.int .i64 (r.getD k 0)) ∧ w1.frozen? ⟨g1, k, none⟩ = false := by
      intro k hk
      obtain ⟨g2, c2, e, -, -, h3, h4⟩ := h.num hr hu hk
      simp only [Value.slice.injEq, Option.some.injEq, Addr.mk.injEq, and_true, true_and] at e
      obtain ⟨rfl, rfl⟩ := e
      exact ⟨(World.cell?_of_block (a := ⟨g1, k, none⟩) hb1).trans h3, (World.frozen?_of_block (a := ⟨g1, k, none⟩) hb1).trans h4⟩
    have hcap : r.length ≤ c1 := by
      rcases hri.2 with ⟨e, _⟩ | ⟨g', cap, cur, e, _, _, h, _⟩
      · simp at e
      · simp only [Value.slice.injEq] at e; omega
    have hd : (r.drop n).length = n := by simp; omega
    refine ⟨⟨some ⟨g1, 0 + n, none⟩, c1 - n, ?_, ?_, ?_, fun _ => ⟨g1, 0 + n, rfl, fun k x hx => ?_⟩⟩, some ⟨g1, 0 + n, none⟩, c1 - n, ?_, by omega, fun _ => ⟨g1, 0 + n, rfl, h1, h2, hne, fun k hk => ?_⟩⟩
    · rw [ints_len, hd]; simp only [cutV]; congr 1; omega
    · rw [ints_len, hd]; omega
    · rw [ints_len, hd]; omega
    · have hk : k < n := by have := (List.getElem?_eq_some_iff.1 hx).1; rw [ints_len, hd] at this; exact this
      rw [Nat.zero_add, (hci (n + k) (by omega)).1, ← hx, ints_get, List.getElem?_drop, List.getD_eq_getElem?_getD, List.getElem?_eq_getElem (by omega)]; rfl
    · simp only [cutV]; congr 1; omega
    · rw [Nat.zero_add]
      exact ⟨by rw [(hci (n + k) (by omega)).1]; rfl, (hci (n + k) (by omega)).2⟩
  have hlm : ∀ (j : Nat) (u' : Value), (vs.map (cutV n))[j]? = some u' → ∃ u r, vs[j]? = some u ∧ rs[j]? = some r ∧ u' = cutV n u := by
    intro j u' hj
    rw [List.getElem?_map] at hj
    obtain ⟨u, hu, rfl⟩ := Option.map_eq_some_iff.1 hj
    have hjl := (List.getElem?_eq_some_iff.1 hu).1
    exact ⟨u, rs[j]'(by omega), hu, List.getElem?_eq_getElem (by omega), rfl⟩
  refine ⟨⟨vs.map (cutV n), own_RdV ho hb, by simp; omega, fun j r u' hr hu' => ?_⟩, ?_⟩
  · obtain ⟨u, r0, hu, hr0, rfl⟩ := hlm j u' hu'
    rw [List.getElem?_map, hr0] at hr
    simp only [Option.map_some, Option.some.injEq] at hr
    subst hr
    exact (key j r0 u hr0 hu).1
  · have hNr : rs.length = N := by omega
    rw [hNr]
    refine ⟨some ⟨g, 0, none⟩, c, rfl, ?_, hb, fun hp => ⟨g, 0, rfl, fun k hk => ?_⟩⟩
    · rcases ho.2 with ⟨e, _⟩ | ⟨g', cap, cur, e, _, _, h, _⟩
      · simp at e
      · simp only [Value.slice.injEq] at e; omega
    · have hk' : k < (vs.map (cutV n)).length := by simp; omega
      have hu' : (vs.map (cutV n))[k]? = some (vs.map (cutV n))[k] := List.getElem?_eq_getElem hk'
      obtain ⟨u, r0, hu, hr0, he⟩ := hlm k _ hu'
      refine ⟨_, by rw [Nat.zero_add, ho.cellAt k (by omega)]; exact hu', ?_⟩
      have hd : ((rs.map (·.drop n)).getD k []).length = n := by
        rw [List.getD_eq_getElem?_getD, List.getElem?_map, hr0]
        have := hl r0 (List.mem_of_getElem? hr0)
        simp; omega
      show FreshRow g base w.heap.size w1 ((rs.map (·.drop n)).getD k []).length _
      rw [he, hd]
      exact (key k r0 u hr0 hu).2
end Go.Proofs.YtfljkcmijnhgkaaDoor
