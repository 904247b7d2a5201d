/- FieldSmall: what the plain functions answer at the chapter's numbers, and the calls. -/
import Derived.Test.YtfljkcmijnhgkaaDoorKn
import Derived.Test.YtfljkcmijnhgkaaDoorKwe
import Derived.Test.YtfljkcmijnhgkaaDoorKg
import Derived.Test.YtfljkcmijnhgkaaDoorKm
import Derived.Test.YtfljkcmijnhgkaaDoorKwa
namespace Go.Proofs.YtfljkcmijnhgkaaDoor
open Go.RowKit Go.Shelf
set_option linter.unusedSimpArgs false
def f3R : Rule := ⟨[1, 1], [2, 3]⟩
def sumR : Rule := ⟨[3, 65519], [2, 3]⟩
def oth2R : Rule := ⟨[1, 2], [1, 1]⟩
theorem s_inv : invR 2 = (32761, 0) := by kernel_rfl
theorem s_inv0 : invR 0 = (0, 7) := by kernel_rfl
theorem s_invp : invR 65521 = (0, 3) := by kernel_rfl
theorem s_pow : powNR 2 16 = (15, 0) := by kernel_rfl
theorem s_pow1 : powNR 1 (-1) = (0, 3) := by kernel_rfl
theorem s_rank : rankR aA = (2, 0) := by kernel_rfl
theorem s_terms : termsR fibR 8 = (0, [0, 1, 1, 2, 3, 5, 8, 13]) := by kernel_rfl
theorem s_term : termR fibR 24 = (46368, 0) := by kernel_rfl
theorem s_from : frR fibR 3 = (0, f3R) := by kernel_rfl
theorem s_matrix : matR fibR = (0, aA) := by kernel_rfl
theorem s_l1 : leastR [1, 2, 4, 8, 16] = (⟨[2], [1]⟩, 0) := by kernel_rfl
theorem s_l2 : leastR [0, 0, 0] = (⟨[], []⟩, 0) := by kernel_rfl
theorem s_l3 : leastR [0, 0, 1] = (⟨[0, 0, 0], [0, 0, 1]⟩, 0) := by kernel_rfl
theorem s_l4 : leastR [5] = (⟨[0], [5]⟩, 0) := by kernel_rfl
theorem s_l5 : leastR [] = (⟨[], []⟩, 0) := by kernel_rfl
def nilR : Rule := ⟨[], []⟩
def t3R : Rule := ⟨[0, 0, 0], [0, 0, 1]⟩
def t4R : Rule := ⟨[0], [5]⟩
theorem t_l1 : leastR [1, 2, 4, 8, 16] = (twoR, 0) := s_l1
theorem t_l2 : leastR [0, 0, 0] = (nilR, 0) := s_l2
theorem t_l3 : leastR [0, 0, 1] = (t3R, 0) := s_l3
theorem t_l4 : leastR [5] = (t4R, 0) := s_l4
theorem t_l5 : leastR [] = (nilR, 0) := s_l5
theorem s_sum : joinR 0 oneR twoR = (sumR, 0) := by kernel_rfl
theorem s_times : joinR 1 oneR twoR = (twoR, 0) := by kernel_rfl
theorem s_apart : apartR twoR oth2R = (1, 0) := by kernel_rfl
theorem s_short : shortR othR = (twoR, 0) := by kernel_rfl
theorem s_mul : (mulR aA [[1]]).1 = 7 := by kernel_rfl
theorem s_pw1 : (powR [[1, 1]] (-1)).1 = 7 := by kernel_rfl
theorem s_pw2 : (powR aA (-1)).1 = 3 := by kernel_rfl
theorem s_sol : (solR [[1, 1], [2, 2]] [3, 7]).1 = 6 := by kernel_rfl
theorem s_sol2 : (solR aA [-1]).1 = 4 := by kernel_rfl
theorem s_invm : (invMR [[1, 1], [1, 1]]).1 = 6 := by kernel_rfl
theorem s_mat0 : (matR ⟨[], []⟩).1 = 6 := by kernel_rfl
def wideL : List Int := [0, 0, 0, 0, 0, 0, 0, 0, 0, 0, 0, 0, 1]
theorem s_wide : (leastR wideL).2 = 11 := by kernel_rfl
theorem s_many : (leastR (List.replicate 65 0)).2 = 2 := by kernel_rfl
theorem s_te65 : (termsR fibR 65).1 = 3 := by kernel_rfl
theorem s_c0 : checkM [] = 2 := by kernel_rfl
theorem s_c1 : checkM [[1], [1, 2]] = 4 := by kernel_rfl
theorem s_c2 : checkM [[65521]] = 3 := by kernel_rfl
theorem s_r1 : rightR ⟨wideL, wideL⟩ = 2 := by kernel_rfl
theorem s_r2 : rightR ⟨[1], []⟩ = 4 := by kernel_rfl
theorem s_r3 : rightR ⟨[1], [-1]⟩ = 3 := by kernel_rfl
theorem sm_inv {n r e : Int} (h : invR n = (r, e)) (W : World) : Calls Tryd.prog 70 #[.int .i64 n] W fun x w' => x = .returned (.tuple #[.int .i64 r, .int .i64 e]) ∧ Below W.heap.size W w' := by
  have := Inv_any n W; rw [h] at this; exact this
theorem sm_pow {n k r e : Int} (h : powNR n k = (r, e)) (hk : k ≤ 9223372036854775807) (W : World) : Calls Tryd.prog 71 #[.int .i64 n, .int .i64 k] W fun x w' => x = .returned (.tuple #[.int .i64 r, .int .i64 e]) ∧ Below W.heap.size W w' := by
  have := Pow_any n k W hk; rw [h] at this; exact this
theorem sm_rank {a : List (List Int)} {r e : Int} (h : rankR a = (r, e)) (v : Value) (W : World) (hv : RdM W v a) : Calls Tryd.prog 53 #[v] W fun x w' => x = .returned (.tuple #[.int .i64 r, .int .i64 e]) ∧ Below W.heap.size W w' := by
  have := Rank_any a v W hv; rw [h] at this; exact this
theorem sm_term {r : Rule} {n x e : Int} (h : termR r n = (x, e)) (hn : n ≤ 9223372036854775807) (v : Value) (W : World) (hv : RdR W v r) : Calls Tryd.prog 59 #[v, .int .i64 n] W fun y w' => y = .returned (.tuple #[.int .i64 x, .int .i64 e]) ∧ Below W.heap.size W w' := by
  have := Term_any r n v W hn hv; rw [h] at this; exact this
theorem sm_terms {r : Rule} {n e : Int} {l : List Int} (h : termsR r n = (e, l)) (hl : l.length ≤ 1000) (v : Value) (W : World) (hv : RdR W v r) : Calls Tryd.prog 83 #[v, .int .i64 n] W fun y w' => ∃ m, y = .returned (.tuple #[m, .int .i64 e]) ∧ RdI w' m l ∧ Below W.heap.size W w' := by
  refine (fieldTerms_any r n v W hv).mono ?_
  rintro y w' ⟨m, rfl, hO, hB⟩
  rw [h] at hO ⊢
  exact ⟨m, rfl, hO.rd (by show l.length ≤ _; omega), hB⟩
theorem sm_from {r q : Rule} {n e : Int} (h : frR r n = (e, q)) (hn : n ≤ 9223372036854775807) (h1 : q.by_.length ≤ 1000) (h2 : q.start.length ≤ 1000) (v : Value) (W : World) (hv : RdR W v r) : Calls Tryd.prog 74 #[v, .int .i64 n] W fun y w' => ∃ m, y = .returned (.tuple #[m, .int .i64 e]) ∧ RuleAt q w' m ∧ Below W.heap.size W w' := by
  refine (From_any r n v W hn hv).mono ?_
  rintro y w' ⟨m, rfl, hO, hB⟩
  rw [h] at hO ⊢
  exact ⟨m, rfl, hO.at_ h1 h2, hB⟩
theorem sm_matrix {r : Rule} {e : Int} {a : List (List Int)} (h : matR r = (e, a)) (h1 : a.length ≤ 1000) (h2 : ∀ x ∈ a, x.length ≤ 1000) (v : Value) (W : World) (hv : RdR W v r) : Calls Tryd.prog 75 #[v] W fun y w' => ∃ m, y = .returned (.tuple #[m, .int .i64 e]) ∧ RdM w' m a ∧ Below W.heap.size W w' := by
  refine (Matrix_any r v W hv).mono ?_
  rintro y w' ⟨m, rfl, hO, hB⟩
  rw [h] at hO ⊢
  exact ⟨m, rfl, hO.rd (by show a.length ≤ _; omega) (fun x hx => by have := h2 x hx; omega), hB⟩
theorem rule_at {x : Rule × Int} {q : Rule} {e : Int} {f : FuncId} {args : Array Value} {W : World} (h : x = (q, e)) (h1 : q.by_.length ≤ 1000) (h2 : q.start.length ≤ 1000) (hc : Calls Tryd.prog f args W (RuleOut x W)) : Calls Tryd.prog f args W fun y w' => ∃ m, y = .returned (.tuple #[m, .int .i64 e]) ∧ RuleAt q w' m ∧ Below W.heap.size W w' := by
  refine hc.mono ?_
  rintro y w' ⟨m, rfl, hO, hB⟩
  rw [h] at hO ⊢
  exact ⟨m, rfl, hO.at_ h1 h2, hB⟩
theorem mat_err {x : Int × List (List Int)} {e : Int} {f : FuncId} {args : Array Value} {W : World} (h : x.1 = e) (hc : Calls Tryd.prog f args W (MatErr x W)) : Calls Tryd.prog f args W fun y w' => (∃ m, y = .returned (.tuple #[m, .int .i64 e])) ∧ Below W.heap.size W w' := by
  refine hc.mono ?_
  rintro y w' ⟨m, rfl, hO, hB⟩
  exact ⟨⟨m, by rw [h]⟩, hB⟩
theorem row_err {x : Int × List Int} {e : Int} {f : FuncId} {args : Array Value} {W : World} (h : x.1 = e) (hc : Calls Tryd.prog f args W (RowErr x W)) : Calls Tryd.prog f args W fun y w' => (∃ m, y = .returned (.tuple #[m, .int .i64 e])) ∧ Below W.heap.size W w' := by
  refine hc.mono ?_
  rintro y w' ⟨m, rfl, hO, hB⟩
  exact ⟨⟨m, by rw [h]⟩, hB⟩
theorem fresh_err {x : Int × List (List Int)} {e : Int} {f : FuncId} {args : Array Value} {W : World} (h : x.1 = e) (hc : Calls Tryd.prog f args W (FreshRes x W)) : Calls Tryd.prog f args W fun y w' => (∃ m, y = .returned (.tuple #[m, .int .i64 e])) ∧ Below W.heap.size W w' := by
  refine hc.mono ?_
  rintro y w' ⟨m, rfl, -, -, hB⟩
  exact ⟨⟨m, by rw [h]⟩, hB⟩
theorem rule_err {x : Rule × Int} {e : Int} {f : FuncId} {args : Array Value} {W : World} (h : x.2 = e) (hc : Calls Tryd.prog f args W (RuleOut x W)) : Calls Tryd.prog f args W fun y w' => (∃ A n c B k d, y = .returned (.tuple #[.agg #[.slice A n c, .slice B k d], .int .i64 e])) ∧ Below W.heap.size W w' := by
  refine hc.mono ?_
  rintro y w' ⟨m, rfl, hO, hB⟩
  obtain ⟨A, n, c, B, k, d, rfl⟩ := OwnR.shape hO
  exact ⟨⟨A, n, c, B, k, d, by rw [h]⟩, hB⟩
theorem sm_apart {r s : Rule} {n e : Int} (h : apartR r s = (n, e)) (v u : Value) (W : World) (hv : RdR W v r) (hu : RdR W u s) : Calls Tryd.prog 39 #[v, u] W fun y w' => y = .returned (.tuple #[.int .i64 n, .int .i64 e]) ∧ Below W.heap.size W w' := by
  have := Apart_any r s v u W hv hu; rw [h] at this; exact this
theorem sm_check {a : List (List Int)} {e : Int} (h : checkM a = e) (v : Value) (W : World) (hv : RdM W v a) : Calls Tryd.prog 64 #[v] W fun y w' => y = .returned (.int .i64 e) ∧ Below W.heap.size W w' := by
  have := Check_any a v W hv; rw [h] at this; exact this
theorem sm_right {r : Rule} {e : Int} (h : rightR r = e) (v : Value) (W : World) (hv : RdR W v r) : Calls Tryd.prog 84 #[v] W fun y w' => y = .returned (.int .i64 e) ∧ Below W.heap.size W w' := by
  have := Right_any r v W hv; rw [h] at this; exact this
theorem RdI_nil (W : World) : RdI W (.slice none 0 0) [] := (OwnI_nil W W.heap.size).rd (by decide)
theorem RdM_lit1 {W : World} {b : Nat} {u0 : Value} {r0 : List Int} (hb : W.heap[b]? = some (.cells #[u0] 23 (0, 0))) (h0 : RdI W u0 r0) : RdM W (.slice (some ⟨b, 0, none⟩) 1 1) [r0] := by
  refine ⟨[u0], ⟨some ⟨b, 0, none⟩, 1, rfl, Nat.le_refl _, by simp, fun _ => ⟨b, 0, rfl, fun j u hj => ?_⟩⟩, rfl, fun j r u hr hu => ?_⟩
  · have hj0 : j = 0 := by have := (List.getElem?_eq_some_iff.1 hj).1; simp at this; omega
    subst hj0
    obtain rfl : u0 = u := by simpa using hj
    unfold World.cell?; rw [hb]; rfl
  · have hj0 : j = 0 := by have := (List.getElem?_eq_some_iff.1 hr).1; simp at this; omega
    subst hj0
    obtain rfl : r0 = r := by simpa using hr
    obtain rfl : u0 = u := by simpa using hu
    exact h0
theorem Bag.sub {W : World} {ms ms' : List (Value × List (List Int))} {is is' : List (Value × List Int)} {bs bs' : List (Nat × Obj)} (h : Bag W ms is bs) (h1 : ∀ p ∈ ms', p ∈ ms) (h2 : ∀ p ∈ is', p ∈ is) (h3 : ∀ p ∈ bs', p ∈ bs) : Bag W ms' is' bs' :=
  ⟨fun p hp => h.1 p (h1 p hp), fun p hp => h.2.1 p (h2 p hp), fun p hp => h.2.2 p (h3 p hp)⟩
theorem made65 : madeCells #[.int .i64 0] 65 = (ints (List.replicate 65 0)).toArray := by kernel_rfl
def smFrom (n : Nat) : Code → Option Code
  | .seq a b => match a with
    | .region k _ _ => if k == n then some (.seq a b) else smFrom n b
    | .seq (.region k _ _) _ => if k == n then some (.seq a b) else smFrom n b
    | _ => smFrom n b
  | .scope c => smFrom n c
  | .block _ c => smFrom n c
  | _ => none
noncomputable def smT (n : Nat) : Code := ((Tryd.f16).body.bind (smFrom n)).getD .skip
end Go.Proofs.YtfljkcmijnhgkaaDoor
