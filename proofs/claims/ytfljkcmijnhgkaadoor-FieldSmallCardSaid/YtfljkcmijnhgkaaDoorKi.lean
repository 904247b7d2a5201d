/- The plain functions of the rest of layer 16: inverses, characteristic polynomials, terms, fitting. Inverse: its contract. Inverse: the walk. Char: its contract. -/
import Derived.Test.YtfljkcmijnhgkaaDoorKg
import Derived.Test.YtfljkcmijnhgkaaDoorKf
import Derived.Test.YtfljkcmijnhgkaaDoorKh
namespace Go.Proofs.YtfljkcmijnhgkaaDoor
/-- A matrix with the identity beside it. -/
def idAug (rs : List (List Int)) : List (List Int) := (List.range rs.length).map fun i => rs.getD i [] ++ (idM rs.length).getD i []
def invS (rs : List (List Int)) : Sys := solveS (idAug rs) (List.range rs.length) false
def invMR (rs : List (List Int)) : Int × List (List Int) :=
  if squareM rs ≠ 0 then (squareM rs, []) else if (invS rs).piv.length < rs.length then (6, []) else (0, (invS rs).rows.map (·.drop rs.length))
/-- Faddeev and Le Verrier. -/
def traceM (m : List (List Int)) (n : Nat) : Int := psum (fun i => gM m i i) n
def diagM (m : List (List Int)) (c : Int) (n : Nat) : List (List Int) := mat (fun i j => if i = j then (gM m i i + 65521 - c) % 65521 else gM m i j) n n
def chC (m : List (List Int)) (n k : Nat) : Int := traceM m n % 65521 * invN ((k : Int) + 1) % 65521
/-- The matrix behind k rounds, and the numbers told. -/
def chP (a : List (List Int)) (n : Nat) : Nat → List (List Int) × List Int
  | 0 => (idM n, [])
  | k + 1 => let m := prodM a (chP a n k).1
             (diagM m (chC m n k) n, (chP a n k).2 ++ [chC m n k])
def charR (a : List (List Int)) : Int × List Int := if squareM a ≠ 0 then (squareM a, []) else (0, (chP a a.length a.length).2)
/-- The term behind l. -/
def nextT (bs l : List Int) : Int := psum (fun k => bs.getD k 0 * l.getD (l.length - 1 - k) 0 % 65521) bs.length % 65521
/-- The first terms. -/
def firstL (r : Rule) : Nat → List Int
  | 0 => []
  | n + 1 => firstL r n ++ [if n < r.start.length then r.start.getD n 0 else nextT r.by_ (firstL r n)]
/-- The rows of the system of an order. -/
def rowsL (l : List Int) (o : Nat) : List (List Int) := mat (fun i k => l.getD (o + i - 1 - k) 0) (l.length - o) o
def fitO (l : List Int) (o : Nat) : Option (List Int) := solvedM (rowsL l o) (l.drop o) o
/-- The rule of the first of some orders that fits. -/
def fitL (l : List Int) : List Nat → Option Rule
  | [] => none
  | o :: os => match fitO l o with
    | some by_ => some ⟨by_, l.take o⟩
    | none => fitL l os
def fitM (l : List Int) (most : Nat) : Option Rule := fitL l (List.range (min most l.length + 1))
def leastR (l : List Int) : Rule × Int := if l.length > 64 then (⟨[], []⟩, 2) else if isRes l = false then (⟨[], []⟩, 3) else match fitM l 12 with
  | some r => (r, 0)
  | none => (⟨[], []⟩, 11)
def shortR (r : Rule) : Rule × Int := if rightR r ≠ 0 then (⟨[], []⟩, rightR r) else ((fitM (firstL r (2 * r.by_.length)) r.by_.length).getD ⟨[], []⟩, 0)
def bothR (r s : Rule) : Int := if rightR r ≠ 0 then rightR r else rightR s
/-- The first place at which two lists differ. -/
def diffL (a b : List Int) : Nat → Nat → Option Nat
  | 0, _ => none
  | f + 1, i => if a.getD i 0 ≠ b.getD i 0 then some i else diffL a b f (i + 1)
def apartR (r s : Rule) : Int × Int := if bothR r s ≠ 0 then (0, bothR r s) else
  match diffL (firstL r (r.by_.length + s.by_.length)) (firstL s (r.by_.length + s.by_.length)) (r.by_.length + s.by_.length) 0 with
  | some i => (i, 0)
  | none => (0, 6)
/-- How sequences are put together: 0 sum, 1 times, 2 folded. -/
def joinT (h : Nat) (a b : List Int) (n : Nat) : Int := match h with
  | 0 => (a.getD n 0 + b.getD n 0) % 65521
  | 1 => a.getD n 0 * b.getD n 0 % 65521
  | _ => psum (fun i => a.getD i 0 * b.getD (n - i) 0 % 65521) (n + 1) % 65521
def joinO (h m n : Nat) : Nat := if h = 1 then m * n else m + n
def joinL (h : Nat) (r s : Rule) : List Int :=
  let o := joinO h r.by_.length s.by_.length
  (List.range (2 * o)).map (joinT h (firstL r (2 * o)) (firstL s (2 * o)))
def joinR (h : Nat) (r s : Rule) : Rule × Int := if bothR r s ≠ 0 then (⟨[], []⟩, bothR r s) else
  match fitM (joinL h r s) (min (joinO h r.by_.length s.by_.length) 12) with
  | some r => (r, 0)
  | none => (⟨[], []⟩, 11)
end Go.Proofs.YtfljkcmijnhgkaaDoor

namespace Go.Proofs.YtfljkcmijnhgkaaDoor
open Go.RowKit Go.Shelf
set_option linter.unusedSimpArgs false
theorem add_off (b o j : Nat) : (⟨b, o, none⟩ : Addr).add j = ⟨b, o + j, none⟩ := by unfold Addr.add; split <;> simp_all
/-- The cells of a slice that is appended. -/
theorem RdI.src {w : World} {v : Value} {xs : List Int} (h : RdI w v xs) (hp : 0 < xs.length) :
    ∃ b off c, v = .slice (some ⟨b, off, none⟩) xs.length c ∧ xs.length ≤ c ∧ xs.length ≤ 140737488355328 ∧ ∀ j u, (ints xs)[j]? = some u → w.cell? ((⟨b, off, none⟩ : Addr).add j) = some u := by
  obtain ⟨A, c, e, h1, h2, h3⟩ := h
  rw [ints_len] at *
  obtain ⟨b, off, rfl, h4⟩ := h3 hp
  exact ⟨b, off, c, e, h1, h2, fun j u hj => by rw [add_off]; exact h4 j u hj⟩
theorem ints_one (xs : List Int) : ∀ u ∈ ints xs, u.oneCell' = true := by
  intro u hu
  obtain ⟨x, _, rfl⟩ := List.mem_map.1 hu
  rfl
/-- Row i is another one now, in memory of its own, and its place tells so: the rows' values told. -/
theorem OwnMv.upd {w w1 : World} {base g c n : Nat} {rs : List (List Int)} {vs : List Value} (h : OwnMv w base (.slice (some ⟨g, 0, none⟩) n c) rs vs) {i : Nat} {r r' : List Int} {u v' : Value} (hi : rs[i]? = some r)
    (hu : vs[i]? = some u) (hg : w.grownBy w1 u.ownBlock) (ho : OwnI w1 base v' r') (hn : v'.ownBlock = none ∨ v'.ownBlock = u.ownBlock ∨ ∃ k, v'.ownBlock = some k ∧ w.heap.size ≤ k) :
    OwnMv (w1.setCell ⟨g, i, none⟩ v') base (.slice (some ⟨g, 0, none⟩) n c) (rs.set i r') (vs.set i v') := by
  obtain ⟨h1, h2, h3⟩ := h
  obtain rfl : rs.length = n := by
    rcases h1.2 with ⟨e, _⟩ | ⟨_, _, _, e, _⟩
    · simp at e
    · simp only [Value.slice.injEq] at e; exact e.2.1.symm
  have hlt := (List.getElem?_eq_some_iff.1 hi).1
  have hl : vs.length = rs.length := by have := h1.1; omega
  have hou := h2 i r u hi hu
  have hne := own_ne h1 hou (by decide)
  have h1' := (h1.kept hg hne).stored i v'
  have hv' : v'.ownBlock ≠ some g := by
    intro e
    rcases own_ne ho (h1.kept hg hne) (by decide) with h | h
    · rw [h] at e; cases e
    · exact h e
  refine ⟨by rw [List.length_set]; exact h1'.1, fun j s x hs hx => ?_, fun a b x y hab hx hy => ?_⟩
  · by_cases hij : i = j
    · subst hij
      rw [List.getElem?_set_self hlt] at hs
      rw [List.getElem?_set_self (by omega)] at hx
      cases hs; cases hx
      exact ho.kept h1'.2 (.inr hv')
    · rw [List.getElem?_set_ne hij] at hs hx
      have ho2 := (h2 j s x hs hx)
      have hne2 := h3 j i x u (Ne.symm hij) hx hu
      have ho3 := ho2.kept hg hne2
      exact ho3.kept h1'.2 (by
        rcases own_ne ho3 (h1.kept hg hne) (by decide) with h | h
        · exact .inl h
        · exact .inr h)
  · have key : ∀ j x, i ≠ j → vs[j]? = some x → x.ownBlock = none ∨ x.ownBlock ≠ v'.ownBlock := by
      intro j x hij hx
      rcases hn with e | e | ⟨k, e, hk⟩
      · rw [e]
        by_cases hx0 : x.ownBlock = none
        · exact .inl hx0
        · exact .inr hx0
      · rw [e]; exact h3 j i x u (Ne.symm hij) hx hu
      · rw [e]
        have hj : j < rs.length := by have := (List.getElem?_eq_some_iff.1 hx).1; omega
        have hox := h2 j _ x (List.getElem?_eq_getElem hj) hx
        refine .inr fun e2 => ?_
        have := (hox.lt k e2).2
        omega
    by_cases ha : i = a
    · subst ha
      rw [List.getElem?_set_self (by omega)] at hx
      rw [List.getElem?_set_ne hab] at hy
      cases hx
      rcases key b y hab hy with h | h
      · rw [h]
        by_cases hx : v'.ownBlock = none
        · exact .inl hx
        · exact .inr hx
      · exact .inr (Ne.symm h)
    · by_cases hb : i = b
      · subst hb
        rw [List.getElem?_set_self (by omega)] at hy
        rw [List.getElem?_set_ne ha] at hx
        cases hy
        exact key a x ha hx
      · rw [List.getElem?_set_ne ha] at hx
        rw [List.getElem?_set_ne hb] at hy
        exact h3 a b x y hab hx hy
/-- Rows before i have the identity's beside them. -/
def iaP (rs : List (List Int)) (k : Nat) : List (List Int) := (List.range rs.length).map fun j => if j < k then rs.getD j [] ++ (idM rs.length).getD j [] else rs.getD j []
theorem iaP_zero (rs : List (List Int)) : iaP rs 0 = rs := by
  apply List.ext_getElem (by simp [iaP])
  intro j h1 h2
  simp [iaP, List.getD_eq_getElem?_getD, h2]
theorem iaP_end (rs : List (List Int)) : iaP rs rs.length = idAug rs := by
  apply List.map_congr_left; intro j hj
  rw [if_pos (by simpa using hj)]
theorem iaP_get (rs : List (List Int)) {i : Nat} (hi : i < rs.length) : (iaP rs i)[i]? = some (rs.getD i []) := by
  rw [iaP, List.getElem?_map, List.getElem?_range hi, Option.map_some, if_neg (by omega)]
theorem iaP_set (rs : List (List Int)) (i : Nat) : (iaP rs i).set i (rs.getD i [] ++ (idM rs.length).getD i []) = iaP rs (i + 1) := by
  apply List.ext_getElem (by simp [iaP])
  intro j h1 h2
  rw [List.getElem_set]
  simp only [iaP, List.getElem_map, List.getElem_range]
  by_cases e : i = j
  · subst e; rw [if_pos rfl, if_pos (by omega)]
  · rw [if_neg e]
    by_cases h : j < i
    · rw [if_pos h, if_pos (by omega)]
    · rw [if_neg h, if_neg (by omega)]
theorem okM.mem {a : List (List Int)} {n m i : Nat} (h : okM a n m) (hi : i < n) : ∀ x ∈ a.getD i [], 0 ≤ x ∧ x < 65521 := by
  have hl : i < a.length := by rw [h.1]; exact hi
  rw [List.getD_eq_getElem?_getD, List.getElem?_eq_getElem hl]
  exact (h.2 _ (List.getElem_mem hl)).2
theorem okM_idAug {rs : List (List Int)} {n : Nat} (h : okM rs n n) : okM (idAug rs) n (n + n) := by
  refine ⟨by simp [idAug, h.1], fun r hr => ?_⟩
  obtain ⟨i, hi, rfl⟩ := List.mem_map.1 hr
  have hi' : i < n := by have := List.mem_range.1 hi; rw [h.1] at this; exact this
  rw [h.1]
  refine ⟨by rw [List.length_append, h.row hi', (okM_id n).row hi'], fun x hx => ?_⟩
  rcases List.mem_append.1 hx with hx | hx
  · exact h.mem hi' x hx
  · exact (okM_id n).mem hi' x hx
/-- A row without its first n numbers. -/
def cutV (n : Nat) : Value → Value
  | .slice (some ⟨b, o, s⟩) l c => .slice (some ⟨b, o + n, s⟩) (l - n) (c - n)
  | v => v
def cutP (n : Nat) (vs : List Value) (k : Nat) : List Value := (List.range vs.length).map fun j => if j < k then cutV n (vs.getD j undef) else vs.getD j undef
theorem cutP_zero (n : Nat) (vs : List Value) : cutP n vs 0 = vs := by
  apply List.ext_getElem (by simp [cutP])
  intro j h1 h2
  simp [cutP, List.getD_eq_getElem?_getD, h2]
theorem cutP_get (n : Nat) (vs : List Value) {i : Nat} (hi : i < vs.length) : (cutP n vs i)[i]? = some (vs.getD i undef) := by
  rw [cutP, List.getElem?_map, List.getElem?_range hi, Option.map_some, if_neg (by omega)]
theorem cutP_set (n : Nat) (vs : List Value) (i : Nat) : (cutP n vs i).set i (cutV n (vs.getD i undef)) = cutP n vs (i + 1) := by
  apply List.ext_getElem (by simp [cutP])
  intro j h1 h2
  rw [List.getElem_set]
  simp only [cutP, List.getElem_map, List.getElem_range]
  by_cases e : i = j
  · subst e; rw [if_pos rfl, if_pos (by omega)]
  · rw [if_neg e]
    by_cases h : j < i
    · rw [if_pos h, if_pos (by omega)]
    · rw [if_neg h, if_neg (by omega)]
theorem cutP_end (n : Nat) (vs : List Value) : cutP n vs vs.length = vs.map (cutV n) := by
  apply List.ext_getElem (by simp [cutP])
  intro j h1 h2
  have hj : j < vs.length := by simpa [cutP] using h1
  simp [cutP, List.getD_eq_getElem?_getD, hj]
/-- The rows without their first n numbers, read; they may be cleared. -/
theorem OwnMv.cut {w w1 : World} {base g c N n : Nat} {rs : List (List Int)} {vs : List Value} (h : OwnMv w base (.slice (some ⟨g, 0, none⟩) N c) rs vs)
    (ho : w1.ownsRow base 23 1 (.slice (some ⟨g, 0, none⟩) N c) N (vs.map (cutV n))) (hg : w.grownBy w1 (some g)) (hn : 0 < n) (hl : ∀ r ∈ rs, r.length = n + n) (hb : N ≤ 140737488355328) (hb2 : n ≤ 70368744177664) :
    RdM w1 (.slice (some ⟨g, 0, none⟩) N c) (rs.map (·.drop n)) ∧ FreshV base w.heap.size w1 (.slice (some ⟨g, 0, none⟩) N c) rs.length fun k => ((rs.map (·.drop n)).getD k []).length := by
  have hlen := h.len
  have hN : vs.length = N := by have := ho.1; simpa using this
  have key : ∀ (j : Nat) (r : List Int) (u : Value), rs[j]? = some r → vs[j]? = some u → RdI w1 (cutV n u) (r.drop n) ∧ FreshRow g base w.heap.size w1 n (cutV n u) := by
    intro j r u hr hu
    have hri := h.rows j r u hr hu
    have hrl := hl r (List.mem_of_getElem? hr)
    obtain ⟨g1, c1, rfl, h1, h2, -⟩ := h.num hr hu (k := 0) (by omega)
    have hne : g1 ≠ g := fun e => h.outer_ne (g := g) rfl _ (List.mem_of_getElem? hu) (by rw [e]; rfl)
    have hb1 := hg.block g1 h2 (by simpa using hne)
    have hci : ∀ k, k < r.length → w1.cell? ⟨g1, k, none⟩ = some (.int .i64 (r.getD k 0)) ∧ w1.frozen? ⟨g1, k, none⟩ = false := by
      intro k hk
      obtain ⟨g2, c2, e, -, -, h3, h4⟩ := h.num hr hu hk
      simp only [Value.slice.injEq, Option.some.injEq, Addr.mk.injEq, and_true, true_and] at e
      obtain ⟨rfl, rfl⟩ := e
      exact ⟨(World.cell?_of_block (a := ⟨g1, k, none⟩) hb1).trans h3, (World.frozen?_of_block (a := ⟨g1, k, none⟩) hb1).trans h4⟩
    have hcap : r.length ≤ c1 := by
      rcases hri.2 with ⟨e, _⟩ | ⟨g', cap, cur, e, _, _, h, _⟩
      · simp at e
      · simp only [Value.slice.injEq] at e; omega
    have hd : (r.drop n).length = n := by simp; omega
    refine ⟨⟨some ⟨g1, 0 + n, none⟩, c1 - n, ?_, ?_, ?_, fun _ => ⟨g1, 0 + n, rfl, fun k x hx => ?_⟩⟩, some ⟨g1, 0 + n, none⟩, c1 - n, ?_, by omega, fun _ => ⟨g1, 0 + n, rfl, h1, h2, hne, fun k hk => ?_⟩⟩
    · rw [ints_len, hd]; simp only [cutV]; congr 1; omega
    · rw [ints_len, hd]; omega
    · rw [ints_len, hd]; omega
    · have hk : k < n := by have := (List.getElem?_eq_some_iff.1 hx).1; rw [ints_len, hd] at this; exact this
      rw [Nat.zero_add, (hci (n + k) (by omega)).1, ← hx, ints_get, List.getElem?_drop, List.getD_eq_getElem?_getD, List.getElem?_eq_getElem (by omega)]; rfl
    · simp only [cutV]; congr 1; omega
    · rw [Nat.zero_add]
      exact ⟨by rw [(hci (n + k) (by omega)).1]; rfl, (hci (n + k) (by omega)).2⟩
  have hlm : ∀ (j : Nat) (u' : Value), (vs.map (cutV n))[j]? = some u' → ∃ u r, vs[j]? = some u ∧ rs[j]? = some r ∧ u' = cutV n u := by
    intro j u' hj
    rw [List.getElem?_map] at hj
    obtain ⟨u, hu, rfl⟩ := Option.map_eq_some_iff.1 hj
    have hjl := (List.getElem?_eq_some_iff.1 hu).1
    exact ⟨u, rs[j]'(by omega), hu, List.getElem?_eq_getElem (by omega), rfl⟩
  refine ⟨⟨vs.map (cutV n), own_RdV ho hb, by simp; omega, fun j r u' hr hu' => ?_⟩, ?_⟩
  · obtain ⟨u, r0, hu, hr0, rfl⟩ := hlm j u' hu'
    rw [List.getElem?_map, hr0] at hr
    simp only [Option.map_some, Option.some.injEq] at hr
    subst hr
    exact (key j r0 u hr0 hu).1
  · have hNr : rs.length = N := by omega
    rw [hNr]
    refine ⟨some ⟨g, 0, none⟩, c, rfl, ?_, hb, fun hp => ⟨g, 0, rfl, fun k hk => ?_⟩⟩
    · rcases ho.2 with ⟨e, _⟩ | ⟨g', cap, cur, e, _, _, h, _⟩
      · simp at e
      · simp only [Value.slice.injEq] at e; omega
    · have hk' : k < (vs.map (cutV n)).length := by simp; omega
      have hu' : (vs.map (cutV n))[k]? = some (vs.map (cutV n))[k] := List.getElem?_eq_getElem hk'
      obtain ⟨u, r0, hu, hr0, he⟩ := hlm k _ hu'
      refine ⟨_, by rw [Nat.zero_add, ho.cellAt k (by omega)]; exact hu', ?_⟩
      have hd : ((rs.map (·.drop n)).getD k []).length = n := by
        rw [List.getD_eq_getElem?_getD, List.getElem?_map, hr0]
        have := hl r0 (List.mem_of_getElem? hr0)
        simp; omega
      show FreshRow g base w.heap.size w1 ((rs.map (·.drop n)).getD k []).length _
      rw [he, hd]
      exact (key k r0 u hr0 hu).2
end Go.Proofs.YtfljkcmijnhgkaaDoor

namespace Go.Proofs.YtfljkcmijnhgkaaDoor
open Go.RowKit Go.Shelf
set_option linter.unusedSimpArgs false
theorem Btw.grown {lo hi : Nat} {w w' : World} {row : Option Nat} (hg : w.grownBy w' row) (hr : ∀ k, row = some k → lo ≤ k ∧ k < hi) : Btw lo hi w w' :=
  ⟨hg.os, hg.tape, hg.output, hg.size, fun k hk hn => hg.block k hk (fun e => by have := hr k e.symm; omega)⟩
theorem Btw.setCell {lo hi : Nat} {w w' : World} (h : Btw lo hi w w') {p : Addr} (h1 : lo ≤ p.block) (h2 : p.block < hi) (u : Value) : Btw lo hi w (w'.setCell p u) :=
  h.trans ⟨rfl, rfl, rfl, by simp [World.setCell], fun k _ hk => Below.heap_setCell _ _ _ _ (by omega)⟩
/-- A result that is a matrix in new memory, and an error. -/
def FreshRes (r : Int × List (List Int)) (w : World) (e : Ending) (w' : World) : Prop :=
  ∃ v, e = .returned (.tuple #[v, .int .i64 r.1]) ∧ RdM w' v r.2 ∧ FreshV w.heap.size w'.heap.size w' v r.2.length (fun k => (r.2.getD k []).length) ∧ Below w.heap.size w w'
theorem RdM_nil (w : World) : RdM w (.slice none 0 0) [] := ⟨[], ⟨none, 0, rfl, Nat.le_refl _, by simp, fun h => by simp at h⟩, rfl, fun j r u h => by simp at h⟩
theorem FreshV_nil (lo hi : Nat) (w : World) (ls : Nat → Nat) : FreshV lo hi w (.slice none 0 0) 0 ls := ⟨none, 0, rfl, Nat.le_refl _, by omega, fun h => by omega⟩
theorem MatErr.fresh {r : Int × List (List Int)} {w : World} {e : Ending} {w' : World} (h : MatErr r w e w') (hn : r.2.length ≤ 140737488355328) (hm : ∀ x ∈ r.2, x.length ≤ 140737488355328) : FreshRes r w e w' := by
  obtain ⟨v, rfl, hO, hB⟩ := h
  exact ⟨v, rfl, hO.rd hn hm, hO.fresh hn hm, hB⟩
set_option maxRecDepth 100000 in
set_option maxHeartbeats 3200000 in
theorem Inverse_any (rs : List (List Int)) (v : Value) (w : World) (h : RdM w v rs) :
    Calls Tryd.prog 54 #[v] w (FreshRes (invMR rs) w) := by
  have hsq := Lib.hid (square_any rs v w h)
  by_cases h0 : squareM rs = 0
  · obtain ⟨hok, h1, h2⟩ := squareM_ok h0
    rw [h0] at hsq
    have hcp := Lib.hid (fun W (hW : Below w.heap.size w W) => copied_any rs v W (h.below hW (Nat.le_refl _)) (by omega) (fun r hr => by have := (hok.2 r hr).1; omega))
    obtain ⟨i0, hi0, hz0, hz1, hz2⟩ := info_parts infoI
    obtain ⟨A, c, rfl, l1, l2, -⟩ := h.open_
    have hR : Hid (invMR rs = if (invS rs).piv.length < rs.length then (6, []) else (0, (invS rs).rows.map (·.drop rs.length))) := Lib.hid (by rw [invMR, if_neg (by simpa using h0)])
    have hS0 : Hid (invS rs = solveS (idAug rs) (List.range rs.length) false) := Lib.hid rfl
    have hrl : Hid (rs.length = rs.length) := Lib.hid rfl
    clear h h0
    generalize hN : rs.length = n at hsq hok h1 h2 hcp l1 l2 hR hS0 ⊢
    clear hrl
    replace hN := Lib.hid hN
    replace hok := Lib.hid hok
    go_enter Tryd.func54, Tryd.ntmps54
    go_wp2_with fail
    refine hsq.out.mono ?_; rintro e W0 ⟨rfl, hB0⟩
    clear hsq
    go_wp2_with fail
    refine (hcp.out W0 hB0).mono ?_; rintro e W1 ⟨⟨v1, rfl, hO⟩, hB1⟩
    clear hcp
    obtain ⟨G, C, rfl⟩ : ∃ G C, v1 = .slice G n C := by obtain ⟨vs, h1, _⟩ := hO; rw [hN.out] at h1; exact own_form h1
    have hbx : Below W1.heap.size W1 (W1.alloc (.cells #[.slice G n C, .bool false] 123)) := (Below.refl _ _).alloc (Nat.le_refl _) _
    have hO2 := Lib.hid ((hO.below hbx).base hB0.size)
    have hs2 : (W1.alloc (.cells #[.slice G n C, .bool false] 123)).heap[W1.heap.size]? = some (.cells #[.slice G n C, .bool false] 123 (0, 0)) := heap_alloc_new _ _
    have hB2 := Lib.hid (Below.then_ (Below.then_ hB0 hB1) hbx)
    have hsb : w.heap.size ≤ W1.heap.size := Nat.le_trans hB0.size hB1.size
    obtain ⟨g, hg, hgs⟩ : ∃ g, G = some ⟨g, 0, none⟩ ∧ g < W1.heap.size := by
      obtain ⟨vs, h3, _⟩ := hO
      obtain ⟨g, c', e, _, h4⟩ := h3.form (by rw [hN.out]; omega)
      simp only [Value.slice.injEq] at e
      exact ⟨g, e.1, h4⟩
    subst hg
    replace hs2 := Lib.hid hs2
    have hXs : W1.heap.size < (W1.alloc (.cells #[.slice (some ⟨g, 0, none⟩) n C, .bool false] 123)).heap.size := by simp
    clear hO
    go_wp2_with fail
    generalize W1.alloc (.cells #[.slice (some ⟨g, 0, none⟩) n C, .bool false] 123) = X at hO2 hs2 hB2 hXs ⊢
    have hgX : g < X.heap.size := by omega
    generalize W1.heap.size = sb at hs2 hsb hXs ⊢
    clear hbx hB1 hB0 hgs
    refine (identity_any n X (by omega)).mono ?_; rintro e W3 ⟨⟨vI, rfl, hOI⟩, hBI⟩
    obtain ⟨GI, CI, rfl⟩ : ∃ G C, vI = .slice G n C := by obtain ⟨vs, h1, _⟩ := hOI; rw [(okM_id n).1] at h1; exact own_form h1
    have hBI2 := Lib.hid hBI
    have hOI2 := Lib.hid hOI
    have hw3 : Hid (X.heap.size ≤ W3.heap.size) := Lib.hid hBI.size
    clear hBI hOI
    go_wp2
    go_loopw [7, 8, 25] (fun _ _ i wr => ∃ k : Nat, k ≤ n ∧ i = .int .i64 k ∧ Hid (Below w.heap.size w wr) ∧ Hid (wr.heap[sb]? = some (.cells #[.slice (some ⟨g, 0, none⟩) n C, .bool false] 123 (0, 0))) ∧ Hid (Btw 0 X.heap.size W3 wr) ∧ Hid (∃ vs, OwnMv wr w.heap.size (.slice (some ⟨g, 0, none⟩) n C) (iaP rs k) vs ∧ ∀ j u, k ≤ j → vs[j]? = some u → ∀ b, u.ownBlock = some b → b < X.heap.size)) (fun _ _ i _ => n - (intOf i).toNat)
    case atStart =>
      refine ⟨0, Nat.zero_le _, rfl, Lib.hid (Below.then_ hB2.out hBI2.out), Lib.hid ((hBI2.out.block _ hXs).trans hs2.out), Lib.hid (Btw.refl _ _ _), Lib.hid ?_⟩
      obtain ⟨vs, hv⟩ := hO2.out.v
      exact ⟨vs, by rw [iaP_zero]; exact hv.kept hBI2.out, fun j u _ hu b hb => (hv.ge u (List.mem_of_getElem? hu) b hb).2⟩
    case round =>
      obtain ⟨k, hk, rfl, hB, hs, hT, hM⟩ := hrel
      by_cases hlt : k < n
      · obtain ⟨vs, hV, hlo⟩ := hM.out
        have hrow := iaP_get rs (i := k) (by rw [hN.out]; exact hlt)
        obtain ⟨u, hu⟩ : ∃ u, vs[k]? = some u := ⟨_, List.getElem?_eq_getElem (by rw [hV.len]; simp [iaP, hN.out]; exact hlt)⟩
        obtain ⟨g', c', e, hgb, hgs, hc, hf⟩ := hV.at_ hrow hu
        simp only [Value.slice.injEq, Option.some.injEq, Addr.mk.injEq, and_true] at e
        obtain ⟨rfl, -, -⟩ := e
        have hou := hV.rows k _ _ hrow hu
        have hm1 : (rs.getD k []).length = n := hok.out.row hlt
        have hou2 := hou
        unfold OwnI at hou2
        rw [hm1] at hou2
        obtain ⟨A5, c5, rfl⟩ := own_form hou2
        have hub : ∀ b, (Value.slice A5 n c5).ownBlock = some b → w.heap.size ≤ b ∧ b < X.heap.size := fun b hb => ⟨(hou2.lt b hb).1, hlo k _ (Nat.le_refl _) hu b hb⟩
        have hOr := hT.out.ownM hOI2.out (Nat.le_refl _)
        have hir : (idM n)[k]? = some ((idM n).getD k []) := by rw [List.getD_eq_getElem?_getD, List.getElem?_eq_getElem (by rw [(okM_id n).1]; exact hlt)]; rfl
        obtain ⟨gI, cI, uI, e, hIb, hIs, hIc, -, hIo, -⟩ := hOr.row hir
        rw [(okM_id n).1] at e
        simp only [Value.slice.injEq] at e
        obtain ⟨rfl, -, rfl⟩ := e
        have hil : ((idM n).getD k []).length = n := (okM_id n).row hlt
        obtain ⟨bI, oI, cI', rfl, hI1, hI2, hnews⟩ := (hIo.rd (by omega)).src (by omega)
        rw [hil] at hI1 hI2 hIc
        have hnews := Lib.hid hnews
        have hsys : wr.cell? ⟨sb, 0, none⟩ = some (.slice (some ⟨g, 0, none⟩) n C) := by simp [World.cell?, hs.out]
        have hslt : sb < wr.heap.size := World.block_lt_of_cell? wr _ hsys
        have hsbg : sb ≠ g := fun e => by
          have h1 := hV.outer
          exact own_type h1 hs.out (by decide) (by rw [e]; rfl)
        have hsbu : some sb ≠ (Value.slice A5 n c5).ownBlock := fun e => own_type hou2 hs.out (by decide) e.symm
        have hug : (Value.slice A5 n c5).ownBlock ≠ some g := hV.outer_ne (g := g) rfl _ (List.mem_of_getElem? hu)
        have hV' := Lib.hid hV
        have hlo' := Lib.hid hlo
        have hou2' := Lib.hid hou2
        have hub' := Lib.hid hub
        have hwrX : X.heap.size ≤ wr.heap.size := Nat.le_trans hw3.out hT.out.size
        have hbwr := hB.out.size
        have k1 : (k : Int) < (n : Int) := by omega
        have k0 : (0 : Int) ≤ (k : Int) := by omega
        clear hV hlo hou hou2 hub hOr hIo hM
        go_wp2
        refine D_begin (fun w' => w'.cell? ⟨sb, 0, none⟩ = some (.slice (some ⟨g, 0, none⟩) n C)) (fun w' => w'.cell? ⟨g, k, none⟩ = some (.slice A5 n c5)) 11 (by kernel_rfl) ?_
        change wpAnyD _ _ _ _ _ _ _ _ _ _ wr.drew
        have HS : wr.drew.cell? ⟨sb, 0, none⟩ = some (.slice (some ⟨g, 0, none⟩) n C) := hsys
        have HT : wr.drew.cell? ⟨g, k, none⟩ = some (.slice A5 n c5) := hc
        simp only [List.size_toArray, List.length_cons, List.length_nil, Nat.reduceAdd, Array.replicate_succ, Array.replicate_zero, List.push_toArray, List.append_toArray, List.nil_append, List.cons_append]
        refine D_take (i := 0) (v := ?_) rfl (by kernel_rfl) (by kernel_rfl) (by kernel_rfl) (by kernel_rfl) (fun _ _ _ h => h) (Or.inl ⟨by rfl, ?_⟩) HS (fun _ => HT) ?_
        rotate_left; · intro w1 hw1; go_simp; try with_reducible rfl
        try simp only [Act.put, List.getElem_toArray, List.getElem_cons_zero, List.getElem_cons_succ, List.setIfInBounds_toArray, List.set_cons_zero, List.set_cons_succ]
        refine D_take (i := 1) (v := ?_) rfl (by kernel_rfl) (by kernel_rfl) (by kernel_rfl) (by kernel_rfl) (fun _ _ _ h => h) (Or.inl ⟨by rfl, ?_⟩) HS (fun _ => HT) ?_
        rotate_left; · intro w1 hw1; go_simp; try with_reducible rfl
        try simp only [Act.put, List.getElem_toArray, List.getElem_cons_zero, List.getElem_cons_succ, List.setIfInBounds_toArray, List.set_cons_zero, List.set_cons_succ]
        refine D_take (i := 2) (v := ?_) rfl (by kernel_rfl) (by kernel_rfl) (by kernel_rfl) (by kernel_rfl) (fun _ _ _ h => h) (Or.inl ⟨by rfl, ?_⟩) HS (fun _ => HT) ?_
        rotate_left; · intro w1 hw1; go_simp; try with_reducible rfl
        try simp only [Act.put, List.getElem_toArray, List.getElem_cons_zero, List.getElem_cons_succ, List.setIfInBounds_toArray, List.set_cons_zero, List.set_cons_succ]
        refine D_take (i := 3) (v := ?_) rfl (by kernel_rfl) (by kernel_rfl) (by kernel_rfl) (by kernel_rfl) (fun _ _ _ h => h) (Or.inl ⟨by rfl, ?_⟩) HS (fun _ => HT) ?_
        rotate_left; · intro w1 hw1; go_simp; try with_reducible rfl
        try simp only [Act.put, List.getElem_toArray, List.getElem_cons_zero, List.getElem_cons_succ, List.setIfInBounds_toArray, List.set_cons_zero, List.set_cons_succ]
        refine D_take (i := 4) (v := ?_) rfl (by kernel_rfl) (by kernel_rfl) (by kernel_rfl) (by kernel_rfl) (fun _ _ _ h => h) (Or.inl ⟨by rfl, ?_⟩) HS (fun _ => HT) ?_
        rotate_left; · intro w1 hw1; go_simp; try with_reducible rfl
        try simp only [Act.put, List.getElem_toArray, List.getElem_cons_zero, List.getElem_cons_succ, List.setIfInBounds_toArray, List.set_cons_zero, List.set_cons_succ]
        refine D_take (i := 5) (v := ?_) rfl (by kernel_rfl) (by kernel_rfl) (by kernel_rfl) (by kernel_rfl) (fun _ _ _ h => h) (Or.inl ⟨by rfl, ?_⟩) HS (fun _ => HT) ?_
        rotate_left; · intro w1 hw1; go_simp; try with_reducible rfl
        try simp only [Act.put, List.getElem_toArray, List.getElem_cons_zero, List.getElem_cons_succ, List.setIfInBounds_toArray, List.set_cons_zero, List.set_cons_succ]
        refine D_take (i := 6) (v := ?_) rfl (by kernel_rfl) (by kernel_rfl) (by kernel_rfl) (by kernel_rfl) (fun _ _ _ h => h) (Or.inl ⟨by rfl, ?_⟩) HS (fun _ => HT) ?_
        rotate_left; · intro w1 hw1; go_simp; try with_reducible rfl
        try simp only [Act.put, List.getElem_toArray, List.getElem_cons_zero, List.getElem_cons_succ, List.setIfInBounds_toArray, List.set_cons_zero, List.set_cons_succ]
        refine D_load (i := 7) (v := ?_) rfl (by kernel_rfl) (by kernel_rfl) (by kernel_rfl) (by kernel_rfl) (by kernel_rfl) (by kernel_rfl) (fun _ _ _ h => h) (Or.inl ⟨by rfl, ?_⟩) HS HT ?_
        rotate_left; · intro w1 hw1; obtain ⟨hw1, hw3⟩ := hw1; go_simp; try with_reducible rfl
        try simp only [Act.put, List.getElem_toArray, List.getElem_cons_zero, List.getElem_cons_succ, List.setIfInBounds_toArray, List.set_cons_zero, List.set_cons_succ]
        refine D_take (i := 8) (v := ?_) rfl (by kernel_rfl) (by kernel_rfl) (by kernel_rfl) (by kernel_rfl) (fun _ _ _ h => h) (Or.inl ⟨by rfl, ?_⟩) HS (fun _ => HT) ?_
        rotate_left; · intro w1 hw1; go_simp; try with_reducible rfl
        try simp only [Act.put, List.getElem_toArray, List.getElem_cons_zero, List.getElem_cons_succ, List.setIfInBounds_toArray, List.set_cons_zero, List.set_cons_succ]
        refine D_one (i := 9) (by kernel_rfl) rfl ?_
        intro K hK
        refine step_append_lies _ (by rfl) _ _ _ (by rfl) w.heap.size 3 i0 _ 1 8 Tryd.underlying23 hi0 hz0 hz1 hz2 rfl (by omega) (.slice A5 n c5) n (ints (rs.getD k [])) (by rfl) (own_below hou2'.out (Below.refl _ _).drew) ⟨bI, oI, none⟩ n cI' (ints ((idM n).getD k [])) (by rfl) (by rw [ints_len, hil]; omega) hnews.out (ints_one _) (by omega) (by unfold maxLen; omega) (by omega) hbwr wr.heap.size rfl ?_
        intro gg cap w1 hown1 hgrow hat hlt1
        have HT2 := (hgrow.cell_far ⟨g, k, none⟩ hgs (Ne.symm hug)).trans HT
        have HF2 := (hgrow.frozen_far ⟨g, k, none⟩ hgs (Ne.symm hug)).trans hf
        have HS2 := (hgrow.cell_far ⟨sb, 0, none⟩ hslt hsbu).trans HS
        refine hK _ _ HS2 (fun _ _ => HT2) ?_
        try simp only [Act.put, List.getElem_toArray, List.getElem_cons_zero, List.getElem_cons_succ, List.setIfInBounds_toArray, List.set_cons_zero, List.set_cons_succ]
        clear hK K
        refine D_take (i := 10) (v := ?_) rfl (by kernel_rfl) (by kernel_rfl) (by kernel_rfl) (by kernel_rfl) (fun _ _ _ h => h) (Or.inl ⟨by rfl, ?_⟩) HS2 (fun _ => HT2) ?_
        rotate_left; · intro w1 hw1; go_simp; try with_reducible rfl
        try simp only [Act.put, List.getElem_toArray, List.getElem_cons_zero, List.getElem_cons_succ, List.setIfInBounds_toArray, List.set_cons_zero, List.set_cons_succ]
        refine D_one (i := 11) (by kernel_rfl) rfl ?_
        intro K hK
        rw [if_pos (by rfl)]
        go_simp
        refine hK _ _ ((World.cell?_of_block (w := w1) (a := ⟨sb, 0, none⟩) (Below.heap_setCell _ _ _ _ hsbg)).trans HS2) (fun h _ => absurd rfl h) ?_
        clear hK K
        refine D_done (by kernel_rfl) ?_ _
        have hgrow2 : wr.grownBy w1 (Value.slice A5 n c5).ownBlock := ⟨hgrow.os, hgrow.tape, hgrow.output, hgrow.size, hgrow.block⟩
        have hM1 := hV'.out.upd hrow hu hgrow2 (v' := .slice (some ⟨gg, 0, none⟩) (n + n) cap) (r' := rs.getD k [] ++ (idM n).getD k []) (by
          unfold OwnI
          rw [List.length_append, hm1, hil, ints_append]
          exact hown1) (by
          rcases hat with h | h
          · exact .inr (.inl h.symm)
          · exact .inr (.inr ⟨gg, rfl, by rw [h]; exact Nat.le_refl _⟩))
        have hst : (iaP rs k).set k (rs.getD k [] ++ (idM n).getD k []) = iaP rs (k + 1) := by have := iaP_set rs k; rwa [hN.out] at this
        rw [hst] at hM1
        have hM2 : Hid (∃ vs, OwnMv (w1.setCell ⟨g, k, none⟩ (.slice (some ⟨gg, 0, none⟩) (n + n) cap)) w.heap.size (.slice (some ⟨g, 0, none⟩) n C) (iaP rs (k + 1)) vs ∧ ∀ j u, k + 1 ≤ j → vs[j]? = some u → ∀ b, u.ownBlock = some b → b < X.heap.size) :=
          Lib.hid ⟨_, hM1, fun j u hj hu b hb => by
            rw [List.getElem?_set_ne (by omega)] at hu
            exact hlo'.out j u (by omega) hu b hb⟩
        have hB3 : Below w.heap.size w (w1.setCell ⟨g, k, none⟩ (.slice (some ⟨gg, 0, none⟩) (n + n) cap)) :=
          (hB.out.grown hgrow2 hbwr (fun j hj => (hub'.out j hj).1)).setCell hgb _
        have hT3 : Btw 0 X.heap.size W3 (w1.setCell ⟨g, k, none⟩ (.slice (some ⟨gg, 0, none⟩) (n + n) cap)) :=
          (hT.out.trans (Btw.grown hgrow2 (fun j hj => ⟨Nat.zero_le _, (hub'.out j hj).2⟩))).setCell (Nat.zero_le _) hgX _
        have hs3 : (w1.setCell ⟨g, k, none⟩ (.slice (some ⟨gg, 0, none⟩) (n + n) cap)).heap[sb]? = some (.cells #[.slice (some ⟨g, 0, none⟩) n C, .bool false] 123 (0, 0)) := by
          rw [Below.heap_setCell _ _ _ _ hsbg, hgrow2.block sb hslt hsbu]
          exact hs.out
        replace hB3 := Lib.hid hB3
        replace hT3 := Lib.hid hT3
        replace hs3 := Lib.hid hs3
        clear HS HT HS2 HT2 HF2 hown1 hgrow hgrow2 hat hM1 hst
        go_wp2
        go_roundw
        case rel => exact ⟨k + 1, by omega, by go_num, hB3, hs3, hT3, hM2⟩
        case measure => simp [intOf]; omega
      · obtain rfl : n = k := by omega
        have hM' : Hid (OwnM wr w.heap.size (.slice (some ⟨g, 0, none⟩) n C) (idAug rs)) := Lib.hid (by
          obtain ⟨vs, hV, _⟩ := hM.out
          rw [← iaP_end, hN.out]; exact hV.m)
        have hka : Hid (okM (idAug rs) n (n + n)) := Lib.hid (okM_idAug hok.out)
        have hnum := Lib.hid (numbers_any n wr (by omega))
        clear hM hO2 hs2 hB2 hOI2 hBI2 hT
        go_wp2_with fail
        refine hnum.out.mono ?_; rintro e W5 ⟨rfl, hn2, hb2⟩
        have hsv := Lib.hid (solveN_any (idAug rs) n (n + n) n sb w.heap.size _ wr W5 hM'.out hka.out (by omega) (by omega) (by omega) hs.out hsb hn2 hb2)
        have hBE := Lib.hid (hB.out.trans (hb2.mono hB.out.size))
        clear hnum hM' hka hs hn2 hb2 hB
        generalize solveS (idAug rs) (List.range n) false = S at hsv hS0
        go_wp2_with fail
        refine hsv.out.mono ?_; rintro e W6 ⟨lv, rfl, hI⟩
        obtain ⟨A6, c6, rfl⟩ := own_form hI.piv
        obtain ⟨vs, hV, -⟩ := hI.mem
        have hs6 := Lib.hid hI.sys
        have hok6 := Lib.hid hI.ok
        have hB6 := Lib.hid (hBE.out.trans hI.below)
        have hfew := hI.few
        have hV6 := Lib.hid hV
        clear hsv hI hV hBE
        have hRS : Hid (invMR rs = if S.piv.length < n then (6, []) else (0, S.rows.map (·.drop n))) := Lib.hid (by rw [hR.out, hS0.out])
        generalize S.piv.length = L at hfew hRS ⊢
        clear hR hS0
        by_cases hL : L < n
        · have hLI : (L : Int) < (n : Int) := by omega
          have hr : Hid (invMR rs = (6, [])) := Lib.hid (by rw [hRS.out, if_pos hL])
          go_wp2
          go_ret2
          rw [hr.out]
          exact ⟨_, rfl, RdM_nil _, FreshV_nil _ _ _ _, hB6.out⟩
        · have hLI : ¬ (L : Int) < (n : Int) := by omega
          have hr : Hid (invMR rs = (0, S.rows.map (·.drop n))) := Lib.hid (by rw [hRS.out, if_neg hL])
          have hsys : W6.cell? ⟨sb, 0, none⟩ = some (.slice (some ⟨g, 0, none⟩) n C) := by simp [World.cell?, hs6.out]
          have hsbg : sb ≠ g := fun e => own_type hV6.out.outer hs6.out (by decide) (by rw [e]; rfl)
          have hlen6 : Hid (vs.length = n) := Lib.hid (by rw [hV6.out.len, hok6.out.1])
          have hbw6 := hB6.out.size
          have hgb : Hid (w.heap.size ≤ g ∧ g < W6.heap.size) := Lib.hid (by
            obtain ⟨g', c', e, h3, h4⟩ := hV6.out.outer.form (by rw [hok6.out.1]; omega)
            simp only [Value.slice.injEq, Option.some.injEq, Addr.mk.injEq, and_true] at e
            obtain ⟨rfl, -, -⟩ := e
            exact ⟨h3, h4⟩)
          have ho6 : Hid (W6.ownsRow w.heap.size 23 1 (.slice (some ⟨g, 0, none⟩) n C) n (cutP n vs 0)) := Lib.hid (by
            rw [cutP_zero]; have := hV6.out.outer; rwa [hok6.out.1] at this)
          clear hRS
          go_wp2
          obtain ⟨wo, rfl⟩ : ∃ wo : World, wo = wr := ⟨_, rfl⟩
          go_loopw [11, 55] (fun _ i wr => ∃ k : Nat, k ≤ n ∧ i = .int .i64 k ∧ Hid (Below w.heap.size w wr) ∧ Hid (W6.grownBy wr (some g)) ∧ Hid (wr.ownsRow w.heap.size 23 1 (.slice (some ⟨g, 0, none⟩) n C) n (cutP n vs k))) (fun _ i _ => n - (intOf i).toNat)
          case atStart => exact ⟨0, Nat.zero_le _, rfl, hB6, Lib.hid ⟨rfl, rfl, rfl, Nat.le_refl _, fun _ _ _ => rfl⟩, ho6⟩
          case round =>
            obtain ⟨k, hk, rfl, hB, hG, hO⟩ := hrel
            have hsy : wr.cell? ⟨sb, 0, none⟩ = some (.slice (some ⟨g, 0, none⟩) n C) := hG.out.cell hsys (by simpa using hsbg)
            by_cases hlt : k < n
            · have hrow : S.rows[k]? = some (S.rows.getD k []) := by rw [List.getD_eq_getElem?_getD, List.getElem?_eq_getElem (by rw [hok6.out.1]; exact hlt)]; rfl
              have hu : vs[k]? = some (vs.getD k undef) := by rw [List.getD_eq_getElem?_getD, List.getElem?_eq_getElem (by rw [hlen6.out]; exact hlt)]; rfl
              have hrl : (S.rows.getD k []).length = n + n := hok6.out.row hlt
              have hou := hV6.out.rows k _ _ hrow hu
              have hc1 := hO.out.cellAt k (by omega)
              rw [cutP_get n vs (by rw [hlen6.out]; exact hlt)] at hc1
              have hf1 := hO.out.frozenAt k
              have hst := (own_below hO.out (Below.refl _ _).drew).stored k (cutV n (vs.getD k undef))
              rw [cutP_set] at hst
              obtain ⟨hst1, hst2⟩ := hst
              unfold OwnI at hou
              rw [hrl] at hou
              obtain ⟨g1, c1, e1, hcp1⟩ : ∃ g1 c1, vs.getD k undef = .slice (some ⟨g1, 0, none⟩) (n + n) c1 ∧ n + n ≤ c1 := by
                rcases hou.2 with ⟨_, e2⟩ | ⟨g', cap, cur, e, _, _, h, _⟩
                · omega
                · exact ⟨g', cap, e, h⟩
              have ecut : cutV n (.slice (some ⟨g1, 0, none⟩) (n + n) c1) = .slice (some ⟨g1, n, none⟩) n (c1 - n) := by
                simp only [cutV, Nat.zero_add, Nat.add_sub_cancel]
              rw [e1] at hc1 hst1 hst2
              rw [ecut] at hst1 hst2
              have hst1' := Lib.hid hst1
              have hG2 : Hid (W6.grownBy (wr.drew.setCell ⟨g, k, none⟩ (.slice (some ⟨g1, n, none⟩) n (c1 - n))) (some g)) := Lib.hid
                ⟨hst2.os.trans hG.out.os, hst2.tape.trans hG.out.tape, hst2.output.trans hG.out.output, Nat.le_trans hG.out.size hst2.size, fun i hi hne => (hst2.block i (Nat.lt_of_lt_of_le hi hG.out.size) hne).trans (hG.out.block i hi hne)⟩
              have hB2 : Hid (Below w.heap.size w (wr.drew.setCell ⟨g, k, none⟩ (.slice (some ⟨g1, n, none⟩) n (c1 - n)))) := Lib.hid (hB.out.drew.setCell hgb.out.1 _)
              clear hou hst1 hst2 hu hrow hrl e1 ecut
              have k1 : (k : Int) < (n : Int) := by omega
              have k0 : (0 : Int) ≤ (k : Int) := by omega
              have k2 : c1 ≠ n := by omega
              have k3 : ¬ ((n : Int) + (n : Int) < (n : Int)) := by omega
              go_wp2
              go_still_tail 11, (by kernel_rfl)
              change wpList _ _ _ _ _ wr.drew
              go_wp2
              go_roundw
              case rel => exact ⟨k + 1, by omega, by go_num, hB2, hG2, hst1'⟩
              case measure => simp [intOf]; omega
            · obtain rfl : n = k := by omega
              have hO' : Hid (wr.ownsRow w.heap.size 23 1 (.slice (some ⟨g, 0, none⟩) n C) n (vs.map (cutV n))) := Lib.hid (by
                have := hO.out; rwa [← hlen6.out, cutP_end, hlen6.out] at this)
              have hfin := hV6.out.cut (n := n) hO'.out hG.out (by omega) (fun r hr => (hok6.out.2 r hr).1) (by omega) (by omega)
              replace hfin := Lib.hid hfin
              have hsz := hG.out.size
              go_wp2
              go_ret2
              rw [hr.out]
              exact ⟨_, rfl, hfin.out.1, by
                have := hfin.out.2.wider (Nat.le_refl _) hsz
                simpa using this, hB.out⟩
  · have hr : Hid (invMR rs = (squareM rs, [])) := Lib.hid (by rw [invMR, if_pos (by simpa using h0)])
    have hne : (squareM rs != 0) = true := by rw [bne_iff_ne]; exact h0
    have hca := squareM_cases rs
    generalize squareM rs = x at *
    clear h h0
    go_enter Tryd.func54, Tryd.ntmps54
    go_wp2_with fail
    refine hsq.out.mono ?_; rintro e W0 ⟨rfl, hB0⟩
    go_wp2
    go_ret2
    rw [hr.out]
    exact ⟨_, rfl, RdM_nil _, FreshV_nil _ _ _ _, hB0⟩
end Go.Proofs.YtfljkcmijnhgkaaDoor

namespace Go.Proofs.YtfljkcmijnhgkaaDoor
open Go.RowKit Go.Shelf
set_option linter.unusedSimpArgs false
theorem KeptBut.owns {vs : List Value} {w w' : World} (h : KeptBut vs w w') {base : Nat} {e : TypeId} {size : Nat} {v : Value} {n : Nat} {xs : List Value} (ho : w.ownsRow base e size v n xs) (hne : ∀ b, v.ownBlock = some b → ∀ u ∈ vs, u.ownBlock ≠ some b) : w'.ownsRow base e size v n xs := by
  refine ⟨ho.1, ?_⟩
  rcases ho.2 with hn | ⟨g, cap, cur, rfl, hb', hgg, rest⟩
  · exact .inl hn
  · exact .inr ⟨g, cap, cur, rfl, hb', (h.block g (Array.getElem?_eq_some_iff.1 hgg).1 (hne g rfl)).trans hgg, rest⟩
theorem okM_diag {M : List (List Int)} {n : Nat} (h : okM M n n) (c : Int) : okM (diagM M c n) n n :=
  okM_mat _ _ _ fun i j _ _ => by
    split
    · omega
    · exact h.num i j
theorem okM_chP {a : List (List Int)} {n : Nat} (h : okM a n n) (hn : 0 < n) (k : Nat) : okM (chP a n k).1 n n := by
  cases k with
  | zero => exact okM_id n
  | succ k => exact okM_diag (okM_prod h (okM_chP h hn k) hn) _
theorem chP_len (a : List (List Int)) (n k : Nat) : (chP a n k).2.length = k := by
  induction k with
  | zero => rfl
  | succ k ih => simp only [chP, List.length_append, ih, List.length_singleton]
/-- Rows before i have their diagonal's number. -/
def dgP (M : List (List Int)) (c : Int) (j : Nat) : List (List Int) := (List.range M.length).map fun i => if i < j then (M.getD i []).set i ((gM M i i + 65521 - c) % 65521) else M.getD i []
theorem dgP_zero (M : List (List Int)) (c : Int) : dgP M c 0 = M := by
  apply List.ext_getElem (by simp [dgP])
  intro j h1 h2
  simp [dgP, List.getD_eq_getElem?_getD, h2]
theorem dgP_get (M : List (List Int)) (c : Int) {i : Nat} (hi : i < M.length) : (dgP M c i)[i]? = some (M.getD i []) := by
  rw [dgP, List.getElem?_map, List.getElem?_range hi, Option.map_some, if_neg (by omega)]
theorem dgP_set (M : List (List Int)) (c : Int) (i : Nat) : (dgP M c i).set i ((M.getD i []).set i ((gM M i i + 65521 - c) % 65521)) = dgP M c (i + 1) := by
  apply List.ext_getElem (by simp [dgP])
  intro j h1 h2
  rw [List.getElem_set]
  simp only [dgP, List.getElem_map, List.getElem_range]
  by_cases e : i = j
  · subst e; rw [if_pos rfl, if_pos (by omega)]
  · rw [if_neg e]
    by_cases h : j < i
    · rw [if_pos h, if_pos (by omega)]
    · rw [if_neg h, if_neg (by omega)]
theorem dgP_end {M : List (List Int)} {n : Nat} (h : okM M n n) (c : Int) : dgP M c n = diagM M c n := by
  apply List.ext_getElem (by simp [dgP, diagM, mat, h.1])
  intro i h1 h2
  have hi : i < n := by simpa [dgP, h.1] using h1
  simp only [dgP, diagM, mat, List.getElem_map, List.getElem_range, if_pos hi]
  have hl := h.row hi
  apply List.ext_getElem (by simp; exact hl)
  intro j g1 g2
  have hj : j < n := by simpa using g2
  rw [List.getElem_set]
  simp only [List.getElem_map, List.getElem_range]
  by_cases e : i = j
  · rw [if_pos e, if_pos e]
  · rw [if_neg e, if_neg e]
    show _ = (M.getD i []).getD j 0
    rw [List.getD_eq_getElem?_getD (l := M.getD i []), List.getElem?_eq_getElem (by rw [hl]; exact hj)]; rfl
set_option maxRecDepth 100000 in
set_option maxHeartbeats 3200000 in
theorem Char_any (rs : List (List Int)) (v : Value) (w : World) (h : RdM w v rs) :
    Calls Tryd.prog 27 #[v] w (RowErr (charR rs) w) := by
  have hsq := Lib.hid (square_any rs v w h)
  by_cases h0 : squareM rs = 0
  · obtain ⟨hok, h1, h2⟩ := squareM_ok h0
    rw [h0] at hsq
    have hrd := Lib.hid (fun W (hW : Below w.heap.size w W) => h.below hW (Nat.le_refl _))
    obtain ⟨i0, hi0, hz0, hz1, hz2⟩ := info_parts infoI
    obtain ⟨A, c, rfl, l1, l2, -⟩ := h.open_
    have hr : Hid (charR rs = (0, (chP rs rs.length rs.length).2)) := Lib.hid (by rw [charR, if_neg (by simpa using h0)])
    clear h h0
    generalize hN : rs.length = n at hsq hok h1 h2 hrd l1 l2 hr ⊢
    replace hN := Lib.hid hN
    have hokc := Lib.hid (fun k => okM_chP hok h1 k)
    replace hok := Lib.hid hok
    go_enter Tryd.func27, Tryd.ntmps27
    go_wp2_with fail
    refine hsq.out.mono ?_; rintro e W0 ⟨rfl, hB0⟩
    clear hsq
    go_wp2_with fail
    refine (identity_any n W0 (by omega)).mono ?_; rintro e W1 ⟨⟨vI, rfl, hOI⟩, hB1⟩
    obtain ⟨GI, CI, rfl⟩ : ∃ G C, vI = .slice G n C := by obtain ⟨vs, h1, _⟩ := hOI; rw [(okM_id n).1] at h1; exact own_form h1
    have hB2 := Lib.hid (Below.then_ hB0 hB1)
    have hOI2 := Lib.hid (hOI.base hB0.size)
    clear hB0 hB1 hOI
    go_wp2
    go_loopw [6, 7, 8, 9, 10, 11, 12, 23] (fun o m _ _ _ _ _ i wr => ∃ k : Nat, k ≤ n ∧ i = .int .i64 k ∧ Hid (Below w.heap.size w wr) ∧ (∃ G C, m = .slice G n C ∧ Hid (OwnM wr w.heap.size (.slice G n C) (chP rs n k).1)) ∧ ∃ A c, o = .slice A k c ∧ Hid (OwnI wr w.heap.size (.slice A k c) (chP rs n k).2)) (fun _ _ _ _ _ _ _ i _ => n - (intOf i).toNat)
    case atStart => exact ⟨0, Nat.zero_le _, rfl, hB2, ⟨GI, CI, rfl, hOI2⟩, none, 0, rfl, Lib.hid (OwnI_nil _ _)⟩
    case round =>
      obtain ⟨k, hk, rfl, hB, ⟨G, C, rfl, hM⟩, A6, c6, rfl, hO⟩ := hrel
      by_cases hlt : k < n
      · have k1 : (k : Int) < (n : Int) := by omega
        have hpr := Lib.hid (product_any rs (chP rs n k).1 n n n (.slice A n c) (.slice G n C) wr hok.out (hokc.out k) (by omega) (by omega) (by omega) (by omega) (hrd.out wr hB.out) (hM.out.rdOk (hokc.out k) (by omega) (by omega)))
        have hokp := Lib.hid (okM_prod hok.out (hokc.out k) (show 0 < n by omega))
        have hst1 : Hid ((chP rs n (k + 1)).1 = diagM (prodM rs (chP rs n k).1) (chC (prodM rs (chP rs n k).1) n k) n) := Lib.hid rfl
        have hst2 : Hid ((chP rs n (k + 1)).2 = (chP rs n k).2 ++ [chC (prodM rs (chP rs n k).1) n k]) := Lib.hid rfl
        have hol : ((chP rs n k).2).length = k := chP_len _ _ _
        have hOx := hO.out
        unfold OwnI at hOx
        rw [hol] at hOx
        replace hOx := Lib.hid hOx
        replace hol := Lib.hid hol
        generalize prodM rs (chP rs n k).1 = M at hpr hokp hst1 hst2
        clear hM hO
        go_wp2_with fail
        refine hpr.out.mono ?_; rintro e W2 ⟨⟨vM, rfl, hOM⟩, hBP⟩
        obtain ⟨G, C, rfl⟩ : ∃ G C, vM = .slice G n C := by obtain ⟨vs, h1, _⟩ := hOM; rw [hokp.out.1] at h1; exact own_form h1
        obtain ⟨vs, hV⟩ := hOM.v
        obtain ⟨g, rfl⟩ : ∃ g, G = some ⟨g, 0, none⟩ := by
          obtain ⟨g, c', e, _, h4⟩ := hV.outer.form (by rw [hokp.out.1]; omega)
          simp only [Value.slice.injEq] at e
          exact ⟨g, e.1⟩
        have hBW := Lib.hid (Below.then_ hB.out hBP)
        have hOx2 := Lib.hid (own_below hOx.out hBP)
        have hob : Hid (∀ b, (Value.slice A6 k c6).ownBlock = some b → w.heap.size ≤ b ∧ b < wr.heap.size) := Lib.hid (fun b hb => hOx.out.lt b hb)
        have hwr : Hid (w.heap.size ≤ wr.heap.size ∧ wr.heap.size ≤ W2.heap.size) := Lib.hid ⟨hB.out.size, hBP.size⟩
        replace hV := Lib.hid hV
        clear hpr hOM hBP hOx
        have hbd := Lib.hid (fun q => psum_bd (f := fun i => gM M i i) (fun j => hokp.out.num j j) q)
        go_wp2
        go_loop [9, 10, 30] (fun t _ i => ∃ q : Nat, q ≤ n ∧ i = .int .i64 q ∧ t = .int .i64 (psum (fun i => gM M i i) q)) (fun _ _ i => n - (intOf i).toNat)
        case atStart => exact ⟨0, Nat.zero_le _, rfl, rfl⟩
        case round =>
          obtain ⟨q, hq, rfl, rfl⟩ := hrel
          have ⟨p1, p2⟩ := hbd.out q
          by_cases hql : q < n
          · have hrow : M[q]? = some (M.getD q []) := by rw [List.getD_eq_getElem?_getD, List.getElem?_eq_getElem (by rw [hokp.out.1]; exact hql)]; rfl
            obtain ⟨u, hu⟩ : ∃ u, vs[q]? = some u := ⟨_, List.getElem?_eq_getElem (by rw [hV.out.len, hokp.out.1]; exact hql)⟩
            obtain ⟨g', c', e, -, -, hc, -⟩ := hV.out.at_ hrow hu
            simp only [Value.slice.injEq, Option.some.injEq, Addr.mk.injEq, and_true] at e
            obtain ⟨rfl, -, -⟩ := e
            obtain ⟨g2, c2, rfl, -, -, hcn, -⟩ := hV.out.num hrow hu (k := q) (by rw [hokp.out.row hql]; exact hql)
            rw [hokp.out.row hql] at hc
            change W2.cell? _ = some (.int .i64 (gM M q q)) at hcn
            have hs : Hid (psum (fun i => gM M i i) (q + 1) = psum (fun i => gM M i i) q + gM M q q) := Lib.hid rfl
            have ⟨n1, n2⟩ := hokp.out.num q q
            clear hrow hu
            generalize psum (fun i => gM M i i) q = S at p1 p2 hs ⊢
            generalize gM M q q = x at n1 n2 hcn hs
            have q1 : (q : Int) < (n : Int) := by omega
            have q0 : (0 : Int) ≤ (q : Int) := by omega
            go_wp2
            go_round
            case rel => exact ⟨q + 1, by omega, by go_num, congrArg (Value.int .i64) hs.out.symm⟩
            case measure => simp [intOf]; omega
          · obtain rfl : q = n := by omega
            have htr : Hid (psum (fun i => gM M i i) q = traceM M q) := Lib.hid rfl
            have hiv := Lib.hid (fun W => inverse_any ((k : Int) + 1) W (by omega) (by omega))
            have ⟨v1, v2⟩ := invN_bd ((k : Int) + 1)
            have hcc : Hid (chC M q k = traceM M q % 65521 * invN ((k : Int) + 1) % 65521) := Lib.hid rfl
            generalize psum (fun i => gM M i i) q = S at p1 p2 htr ⊢
            rw [← htr.out] at hcc
            generalize invN ((k : Int) + 1) = iv at v1 v2 hiv hcc
            generalize chC M q k = cc at hcc hst1 hst2
            have ⟨m1, m2⟩ := mul_bd (a := S % 65521) (b := iv) (by omega) (by omega) v1 v2
            go_wp2_with fail
            refine (hiv.out _).mono ?_; rintro e W3 ⟨rfl, rfl⟩
            have hxv : S % 65521 * iv % 65521 = cc := hcc.out.symm
            have hbX : Below W2.heap.size W2 (W2.alloc (.cells #[.int .i64 cc] 3)) := (Below.refl _ _).alloc (Nat.le_refl _) _
            have hOx3 := Lib.hid (own_below hOx2.out hbX)
            obtain ⟨hw1, hw2⟩ := hwr.out
            clear hiv htr
            go_wp2_with (at_builtin; (refine wpList_append_lies _ rfl _ _ 23 rfl w.heap.size 3 i0 _ 1 8 Tryd.underlying23 hi0 hz0 hz1 hz2 rfl (by omega) (.slice A6 k c6) k (ints (chP rs q k).2) rfl hOx3.out ⟨W2.heap.size, 0, none⟩ 1 1 [.int .i64 cc] rfl rfl (World.news_of_block (cs := #[.int .i64 cc]) (t := 3) (fr := (0, 0)) (heap_alloc_new W2 _)) (by simp [Value.oneCell']) (by omega) (by unfold maxLen; omega) (by omega) (by simp; omega) (W2.heap.size + 1) (by simp) ?_); intro gg cap w3 hown3 hgrow hat hlt3)
            have hfin : Hid (OwnI w3 w.heap.size (.slice (some ⟨gg, 0, none⟩) (k + 1) cap) (chP rs q (k + 1)).2) := Lib.hid (by
              rw [hst2.out]; unfold OwnI; rw [List.length_append, hol.out]; simpa [ints] using hown3)
            have hV3 : Hid (OwnMv w3 wr.heap.size (.slice (some ⟨g, 0, none⟩) q C) M vs) := Lib.hid (by
              refine (hV.out.kept hbX).grownBy hgrow ?_ ?_
              · refine .inr fun e => ?_
                have h5 := (hob.out g (by rw [← e]; rfl)).2
                have h6 := (hV.out.outer.lt g rfl).1
                omega
              · intro u hu
                cases hb : u.ownBlock with
                | none => exact .inl rfl
                | some b =>
                  refine .inr fun e => ?_
                  have h5 := (hob.out b e.symm).2
                  have h6 := (hV.out.ge u hu b hb).1
                  omega)
            have hgg : Hid (∀ b, (Value.slice (some ⟨gg, 0, none⟩) (k + 1) cap).ownBlock = some b → ∀ u ∈ vs, u.ownBlock ≠ some b) := Lib.hid (by
              intro b hb u hu e
              have hb' : gg = b := by simpa [Value.ownBlock] using hb
              subst hb'
              have h6 := hV.out.ge u hu gg e
              rcases hat with h | h
              · have := (hob.out gg h).2; omega
              · omega)
            have hbf : Hid (Below w.heap.size w w3) := Lib.hid ((Below.then_ hBW.out hbX).grown hgrow (by simp; omega) (fun j hj => (hob.out j hj).1))
            have hvge : Hid (∀ u ∈ vs, ∀ b, u.ownBlock = some b → w.heap.size ≤ b) := Lib.hid (fun u hu b hb => by have := (hV.out.ge u hu b hb).1; omega)
            have ⟨cc1, cc2⟩ : 0 ≤ cc ∧ cc < 65521 := by rw [← hxv]; omega
            clear hown3 hgrow hat hlt3 hbX hOx3 hOx2 hxv hbd p1 p2 m1 m2 v1 v2 hcc hBW hV hob
            go_wp2
            obtain ⟨wo, rfl⟩ : ∃ wo : World, wo = wr := ⟨_, rfl⟩
            go_loopw [12, 55] (fun _ i wr => ∃ j : Nat, j ≤ q ∧ i = .int .i64 j ∧ Hid (KeptBut vs w3 wr) ∧ Hid (OwnMv wr wo.heap.size (.slice (some ⟨g, 0, none⟩) q C) (dgP M cc j) vs)) (fun _ i _ => q - (intOf i).toNat)
            case atStart => exact ⟨0, Nat.zero_le _, rfl, Lib.hid (KeptBut.refl _ _), Lib.hid (by rw [dgP_zero]; exact hV3.out)⟩
            case round =>
              obtain ⟨j, hj, rfl, hK, hV⟩ := hrel
              by_cases hjl : j < q
              · have hrow := dgP_get M cc (i := j) (by rw [hokp.out.1]; exact hjl)
                obtain ⟨u, hu⟩ : ∃ u, vs[j]? = some u := ⟨_, List.getElem?_eq_getElem (by rw [hV.out.len]; simp [dgP, hokp.out.1]; exact hjl)⟩
                obtain ⟨g', c', e, -, -, hc, -⟩ := hV.out.at_ hrow hu
                simp only [Value.slice.injEq, Option.some.injEq, Addr.mk.injEq, and_true] at e
                obtain ⟨rfl, -, -⟩ := e
                obtain ⟨g2, c2, rfl, -, -, hcn, hfn⟩ := hV.out.num hrow hu (k := j) (by rw [hokp.out.row hjl]; exact hjl)
                rw [hokp.out.row hjl] at hc hu
                change wr.cell? _ = some (.int .i64 (gM M j j)) at hcn
                have hput := (hV.out.kept (Below.refl _ _).drew).put (k := j) hrow hu ((gM M j j + 65521 - cc) % 65521)
                rw [dgP_set] at hput
                obtain ⟨hp1, hp2⟩ := hput
                have hp2' := Lib.hid (hK.out.drew.trans hp2)
                replace hp1 := Lib.hid hp1
                have ⟨n1, n2⟩ := hokp.out.num j j
                clear hrow hu hp2
                generalize gM M j j = x at n1 n2 hcn hp1 hp2'
                have j1 : (j : Int) < (q : Int) := by omega
                have j0 : (0 : Int) ≤ (j : Int) := by omega
                go_wp2
                go_still_tail 17, (by kernel_rfl)
                change wpList _ _ _ _ _ wr.drew
                go_wp2
                go_roundw
                case rel => exact ⟨j + 1, by omega, by go_num, hp2', hp1⟩
                case measure => simp [intOf]; omega
              · obtain rfl : j = q := by omega
                have hMf : Hid (OwnM wr w.heap.size (.slice (some ⟨g, 0, none⟩) j C) (chP rs j (k + 1)).1) := Lib.hid (by
                  have := hV.out.m.base hw1
                  rwa [dgP_end hokp.out, ← hst1.out] at this)
                have hOf : Hid (OwnI wr w.heap.size (.slice (some ⟨gg, 0, none⟩) (k + 1) cap) (chP rs j (k + 1)).2) := Lib.hid (hK.out.owns hfin.out hgg.out)
                have hBf : Hid (Below w.heap.size w wr) := Lib.hid (hbf.out.trans (hK.out.below hbf.out.size hvge.out))
                clear hV hK
                go_wp2
                go_roundw
                case rel => exact ⟨k + 1, by omega, by go_num, hBf, ⟨_, _, rfl, hMf⟩, _, _, rfl, hOf⟩
                case measure => simp [intOf]; omega
      · obtain rfl : k = n := by omega
        go_wp2
        go_ret2
        rw [hr.out]
        exact ⟨_, rfl, hO.out, hB.out⟩
  · have hr : Hid (charR rs = (squareM rs, [])) := Lib.hid (by rw [charR, if_pos (by simpa using h0)])
    have hne : (squareM rs != 0) = true := by rw [bne_iff_ne]; exact h0
    have hca := squareM_cases rs
    generalize squareM rs = x at *
    clear h h0
    go_enter Tryd.func27, Tryd.ntmps27
    go_wp2_with fail
    refine hsq.out.mono ?_; rintro e W0 ⟨rfl, hB0⟩
    go_wp2
    go_ret2
    rw [hr.out]
    exact ⟨_, rfl, OwnI_nil _ _, hB0⟩
end Go.Proofs.YtfljkcmijnhgkaaDoor
