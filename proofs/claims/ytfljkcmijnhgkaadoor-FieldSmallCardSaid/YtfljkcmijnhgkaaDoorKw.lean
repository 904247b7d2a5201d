/- The reference's fits: its contract. -/
import Derived.Test.YtfljkcmijnhgkaaDoorKu
import Derived.Test.YtfljkcmijnhgkaaDoorKj
namespace Go.Proofs.YtfljkcmijnhgkaaDoor
open Go.RowKit
set_option linter.unusedSimpArgs false
/-- Rows and numbers of the call's own, in blocks apart. -/
structure FitSt (base : Nat) (W : World) (rv bv : Value) (rs : List (List Int)) (bs : List Int) (vs : List Value) : Prop where
  m : OwnMv W base rv rs vs
  b : OwnI W base bv bs
  apart : ∀ u ∈ vs, u.ownBlock = none ∨ u.ownBlock ≠ bv.ownBlock
theorem FitSt.kept {base : Nat} {W W' : World} {rv bv : Value} {rs : List (List Int)} {bs : List Int} {vs : List Value} (h : FitSt base W rv bv rs bs vs) (hb : Below W.heap.size W W') : FitSt base W' rv bv rs bs vs :=
  ⟨h.m.kept hb, h.b.below hb, h.apart⟩
theorem FitSt.row {base lo n : Nat} {W W' : World} {rv rv' bv rowv : Value} {rs : List (List Int)} {r bs : List Int} {vs : List Value} (h : FitSt base W rv bv rs bs vs) (hr : OwnI W lo rowv r) (hlo : base ≤ lo)
    (hnew : ∀ q, rowv.ownBlock = some q → (∀ u ∈ vs, u.ownBlock ≠ some q) ∧ bv.ownBlock ≠ some q) (hn : n = rs.length + 1) (hown : W'.ownsRow base 23 1 rv' n (vs ++ [rowv])) (hg : W.grownBy W' rv.ownBlock) : FitSt base W' rv' bv (rs ++ [r]) bs (vs ++ [rowv]) := by
  refine ⟨h.m.snoc (hr.base hlo) (fun x hx => ?_) hown hn hg, OwnI.base (World.ownsRow.kept h.b hg (own_ne h.b h.m.outer (by decide))) (Nat.le_refl _), fun u hu => ?_⟩
  · rcases hq : rowv.ownBlock with _ | q
    · by_cases hx0 : x.ownBlock = none
      · exact .inl hx0
      · exact .inr hx0
    · exact .inr ((hnew q hq).1 x hx)
  · rcases List.mem_append.1 hu with hu | hu
    · exact h.apart u hu
    · obtain rfl : u = rowv := by simpa using hu
      rcases hq : u.ownBlock with _ | q
      · exact .inl rfl
      · exact .inr (fun e => (hnew q hq).2 e.symm)
theorem FitSt.num {base n g : Nat} {W W' : World} {rv bv bv' : Value} {rs : List (List Int)} {bs : List Int} {x : Int} {vs : List Value} (h : FitSt base W rv bv rs bs vs) (hn : n = bs.length + 1)
    (hown : W'.ownsRow base 3 1 bv' n (ints bs ++ [.int .i64 x])) (hg : W.grownBy W' bv.ownBlock) (hat : bv.ownBlock = some g ∨ g = W.heap.size) (hbv : bv'.ownBlock = some g) : FitSt base W' rv bv' rs (bs ++ [x]) vs := by
  refine ⟨h.m.grownBy hg (own_ne h.m.outer h.b (by decide)) h.apart, ?_, fun u hu => ?_⟩
  · unfold OwnI; rw [List.length_append, List.length_singleton, ints_append, ← hn]; exact hown
  · rcases hq : u.ownBlock with _ | q
    · exact .inl rfl
    · refine .inr fun e => ?_
      rw [hbv] at e
      rcases hat with hat | hat
      · rcases h.apart u hu with h2 | h2
        · rw [hq] at h2; cases h2
        · rw [hq, hat] at h2; exact h2 e
      · have := (h.m.ge u hu q hq).2
        simp only [Option.some.injEq] at e; omega
end Go.Proofs.YtfljkcmijnhgkaaDoor
