/- What solve does, round by round. -/
import Derived.Test.YtfljkcmijnhgkaaDoorClear
import Derived.Deep.LoopGhost
namespace Go.Proofs.YtfljkcmijnhgkaaDoor
open Go.RowKit
theorem infoP : (Tryd.prog.info? 132).map (fun i => (i.zero, i.size, i.bytes)) = some (some (.agg #[.int .i64 0, .int .i64 0]), 2, 16) := by kernel_rfl
def pivCells (l : List (Nat × Nat)) : List Value := l.flatMap fun p => [.int .i64 p.1, .int .i64 p.2]
theorem pivCells_snoc (l : List (Nat × Nat)) (p : Nat × Nat) : pivCells (l ++ [p]) = pivCells l ++ [.int .i64 p.1, .int .i64 p.2] := by simp [pivCells]

/-- The state between two columns. -/
structure SolveInv (w wr : World) (base sb cb n m : Nat) (v lv : Value) (s : Sys) : Prop where
  ok : okM s.rows n m
  few : s.piv.length ≤ n
  det : 0 ≤ s.det ∧ s.det < 65521
  mem : ∃ vs, OwnMv wr base v s.rows vs ∧ (∀ u ∈ vs, u.ownBlock ≠ some cb)
  sys : wr.heap[sb]? = some (.cells #[v, .bool s.turned] 123 (0, 0))
  piv : wr.ownsRow base 132 2 lv s.piv.length (pivCells s.piv)
  cols : wr.heap[cb]? = w.heap[cb]?
  below : Below base w wr

theorem own_form {w : World} {base n : Nat} {e : TypeId} {size : Nat} {v : Value} {xs : List Value} (h : w.ownsRow base e size v n xs) : ∃ A c, v = .slice A n c := by
  rcases h.2 with ⟨rfl, rfl⟩ | ⟨g, cap, cur, rfl, _⟩
  · exact ⟨none, 0, rfl⟩
  · exact ⟨_, cap, rfl⟩
theorem own_of_block {w w' : World} {base n : Nat} {e : TypeId} {size : Nat} {v : Value} {xs : List Value} (h : w.ownsRow base e size v n xs) (hb : ∀ g, v.ownBlock = some g → w'.heap[g]? = w.heap[g]?) : w'.ownsRow base e size v n xs := by
  refine ⟨h.1, ?_⟩
  rcases h.2 with h | ⟨g, cap, cur, rfl, h1, h2, h3⟩
  · exact .inl h
  · exact .inr ⟨g, cap, cur, rfl, h1, (hb g rfl).trans h2, h3⟩
theorem okM_swap {rs : List (List Int)} {n m i j : Nat} (h : okM rs n m) (hi : i < n) (hj : j < n) : okM (swapM rs i j) n m := by
  have g : ∀ k, k < n → rs.getD k [] ∈ rs := fun k hk => by
    rw [List.getD_eq_getElem?_getD, List.getElem?_eq_getElem (by rw [h.1]; exact hk)]
    exact List.getElem_mem _
  refine ⟨by simp [swapM, h.1], fun r hr => ?_⟩
  unfold swapM at hr
  rcases List.mem_or_eq_of_mem_set hr with hr | rfl
  · rcases List.mem_or_eq_of_mem_set hr with hr | rfl
    · exact h.2 r hr
    · exact h.2 _ (g j hj)
  · exact h.2 _ (g i hi)
theorem okM_clear {rs : List (List Int)} {n m row col : Nat} (h : okM rs n m) (hrow : row < n) : okM (clearM rs row col) n m := by
  refine ⟨by simp [clearM, h.1], fun r hr => ?_⟩
  obtain ⟨i, hi, rfl⟩ := List.mem_map.1 hr
  have hi' : i < n := by have := List.mem_range.1 hi; rw [h.1] at this; exact this
  split
  · refine ⟨by rw [ownR_len, h.row hrow], fun x hx => ?_⟩
    unfold ownR scaleR at hx
    obtain ⟨j, _, rfl⟩ := List.mem_map.1 hx
    exact ⟨Int.emod_nonneg _ (by decide), Int.emod_lt_of_pos _ (by decide)⟩
  · split
    · refine ⟨h.row hi', fun x hx => ?_⟩
      have : rs.getD i [] ∈ rs := by
        rw [List.getD_eq_getElem?_getD, List.getElem?_eq_getElem (by rw [h.1]; exact hi')]
        exact List.getElem_mem _
      exact (h.2 _ this).2 x hx
    · refine ⟨by rw [← h.row hi']; simp [subR], fun x hx => ?_⟩
      unfold subR at hx
      obtain ⟨j, _, rfl⟩ := List.mem_map.1 hx
      exact ⟨Int.emod_nonneg _ (by decide), Int.emod_lt_of_pos _ (by decide)⟩
theorem swap_self (rs : List (List Int)) (i : Nat) : swapM rs i i = rs := by
  apply List.ext_getElem?; intro j
  by_cases hi : i < rs.length
  · have e : rs[i]? = some (rs.getD i []) := by rw [List.getD_eq_getElem?_getD, List.getElem?_eq_getElem hi]; rfl
    rw [swapM, list_set_same e, list_set_same e]
  · rw [swapM, List.set_eq_of_length_le (by simp; omega), List.set_eq_of_length_le (by omega)]
/-- What a round that has found its pivot leaves. -/
theorem solve_fin {w W1 W2 W3 : World} {base sb cb n m i k L : Nat} {v lv lv' : Value} {s : Sys} {vs2 : List Value} {cs : Array Value} (hL : s.piv.length = L) (hok : okM s.rows n m)
    (hLi : L ≤ i) (hin : i < n) (hO : OwnMv W2 base v (clearM (swapM s.rows i L) L k) vs2) (hcb : ∀ u ∈ vs2, u.ownBlock ≠ some cb) (hsbv : ∀ u ∈ vs2, u.ownBlock ≠ some sb)
    (hs : W1.heap[sb]? = some (.cells #[v, .bool (if i = L then s.turned else !s.turned)] 123 (0, 0))) (hp : W1.ownsRow base 132 2 lv L (pivCells s.piv))
    (hdo : v.ownBlock = none ∨ v.ownBlock ≠ lv.ownBlock) (hdr : ∀ u ∈ vs2, u.ownBlock = none ∨ u.ownBlock ≠ lv.ownBlock)
    (hcc : W1.heap[cb]? = w.heap[cb]?) (hcw : w.heap[cb]? = some (.cells cs 3 (0, 0))) (hB : Below base w W1) (hBw : base ≤ w.heap.size) (hK : KeptBut vs2 W1 W2)
    (hg : (W2.alloc (.cells #[.int .i64 L, .int .i64 k] 132)).grownBy W3 lv.ownBlock) (ho : W3.ownsRow base 132 2 lv' (L + 1) (pivCells s.piv ++ [.int .i64 L, .int .i64 k])) :
    SolveInv w W3 base sb cb n m v lv' (pivS s k i) := by
  have hLn : L < n := by omega
  have hb1 : Below W2.heap.size W2 (W2.alloc (.cells #[.int .i64 L, .int .i64 k] 132)) := (Below.refl _ _).alloc (Nat.le_refl _) _
  have hvs : ∀ u ∈ vs2, ∀ g, u.ownBlock = some g → base ≤ g := fun u hu g e => (hO.ge u hu g e).1
  have hBB : Below base w W2 := hB.trans (hK.below (by have := hB.size; omega) hvs)
  have hlvb : ∀ b t cs', t ≠ 132 → W1.heap[b]? = some (.cells cs' t (0, 0)) → some b ≠ lv.ownBlock := by
    intro b t cs' ht hb e
    rcases hp.2 with ⟨e2, _⟩ | ⟨g, cap, cur, e2, _, hh, _⟩
    · rw [e2] at e; cases e
    · rw [e2] at e
      have : b = g := by simpa [Value.ownBlock] using e
      subst this
      rw [hb] at hh
      injection hh with hh
      injection hh with _ h2
      exact ht h2
  have hslt := lt_of_block hs
  have hclt := lt_of_block (hcc.trans hcw)
  have h3 : ∀ b, b < W1.heap.size → (∀ u ∈ vs2, u.ownBlock ≠ some b) → some b ≠ lv.ownBlock → W3.heap[b]? = W1.heap[b]? := fun b hb hn hne =>
    (hg.block b (by have := hK.size; simp; omega) hne).trans ((hb1.block b (by have := hK.size; omega)).trans (hK.block b hb hn))
  refine ⟨okM_clear (okM_swap hok hin (by rw [hL]; exact hLn)) (by rw [hL]; exact hLn), by simp only [pivS, List.length_append, List.length_singleton]; omega, ?_, ?_, ?_, ?_, ?_, ?_⟩
  · exact ⟨Int.emod_nonneg _ (by decide), Int.emod_lt_of_pos _ (by decide)⟩
  · refine ⟨vs2, ?_, hcb⟩
    simp only [pivS, hL]
    exact (hO.kept hb1).grownBy hg hdo hdr
  · simp only [pivS, hL]
    rw [h3 sb hslt hsbv (hlvb sb _ _ (by decide) hs)]
    exact hs
  · simp only [pivS, hL, List.length_append, List.length_singleton, pivCells_snoc]
    exact ho
  · rw [h3 cb hclt hcb (hlvb cb _ _ (by decide) (hcc.trans hcw))]
    exact hcc
  · exact (hBB.alloc (by have := hBB.size; omega) _).grown hg (by have := hBB.size; simp; omega) (fun j hj => (hp.lt j hj).1)
theorem findP_none {rs : List (List Int)} {k : Nat} : ∀ {f i : Nat}, (∀ j, i ≤ j → j < i + f → gM rs j k = 0) → findP rs k f i = none
  | 0, _, _ => rfl
  | f + 1, i, h => by rw [findP, if_pos (h i (Nat.le_refl _) (by omega))]; exact findP_none (fun j h1 h2 => h j (by omega) (by omega))
theorem findP_some {rs : List (List Int)} {k p : Nat} : ∀ {f i : Nat}, i ≤ p → p < i + f → (∀ j, i ≤ j → j < p → gM rs j k = 0) → gM rs p k ≠ 0 → findP rs k f i = some p
  | 0, _, h1, h2, _, _ => by omega
  | f + 1, i, h1, h2, h3, h4 => by
    by_cases e : i = p
    · subst e; rw [findP, if_neg h4]
    · rw [findP, if_pos (h3 i (Nat.le_refl _) (by omega))]
      exact findP_some (by omega) (by omega) (fun j a b => h3 j (by omega) b) h4
theorem swap_row {rs : List (List Int)} {i j : Nat} (hj : j < rs.length) : (swapM rs i j).getD j [] = rs.getD i [] := by
  rw [swapM, List.getD_eq_getElem?_getD, List.getElem?_set_self (by simpa using hj)]; rfl
theorem swap_get {rs : List (List Int)} {i j : Nat} (hj : j < rs.length) : (swapM rs i j)[j]? = some (rs.getD i []) := by
  rw [swapM, List.getElem?_set_self (by simpa using hj)]
theorem swap_fin {w W : World} {base g n C sb i L : Nat} {v u x : Value} {rs : List (List Int)} {vs : List Value} {t : Bool} (hO : OwnMv W base v rs vs) (hv : v = .slice (some ⟨g, 0, none⟩) n C) (hr : rs[i]? = some (rs.getD i [])) (hrL : rs[L]? = some (rs.getD L []))
    (hu : vs[i]? = some u) (hx : vs[L]? = some x) (hij : i ≠ L) (hs : W.heap[sb]? = some (.cells #[v, .bool t] 123 (0, 0))) (hsb : base ≤ sb) (hsg : sb ≠ g) (hg : base ≤ g) (hB : Below base w W) :
    OwnMv (((W.setCell ⟨g, i, none⟩ x).setCell ⟨g, L, none⟩ u).setCell ⟨sb, 1, none⟩ (.bool !t)).drew base v (swapM rs i L) ((vs.set i x).set L u) ∧
    (((W.setCell ⟨g, i, none⟩ x).setCell ⟨g, L, none⟩ u).setCell ⟨sb, 1, none⟩ (.bool !t)).drew.heap[sb]? = some (.cells #[v, .bool !t] 123 (0, 0)) ∧
    Below base w (((W.setCell ⟨g, i, none⟩ x).setCell ⟨g, L, none⟩ u).setCell ⟨sb, 1, none⟩ (.bool !t)).drew ∧
    (∀ b, b ≠ g → b ≠ sb → (((W.setCell ⟨g, i, none⟩ x).setCell ⟨g, L, none⟩ u).setCell ⟨sb, 1, none⟩ (.bool !t)).drew.heap[b]? = W.heap[b]?) := by
  have h1 := hO.swap hv hr hrL hu hx hij
  have hs2 : ((W.setCell ⟨g, i, none⟩ x).setCell ⟨g, L, none⟩ u).heap[sb]? = some (.cells #[v, .bool t] 123 (0, 0)) := by
    rw [Below.heap_setCell _ _ _ _ hsg, Below.heap_setCell _ _ _ _ hsg]; exact hs
  have hne := sys_ne h1 hs2
  have hg3 : ((W.setCell ⟨g, i, none⟩ x).setCell ⟨g, L, none⟩ u).grownBy (((W.setCell ⟨g, i, none⟩ x).setCell ⟨g, L, none⟩ u).setCell ⟨sb, 1, none⟩ (.bool !t)).drew (some sb) :=
    ⟨rfl, rfl, rfl, by simp, fun k _ hk => Below.heap_setCell _ _ _ _ (fun e => hk (by rw [e]))⟩
  refine ⟨h1.grownBy hg3 (.inr (by rw [hv]; simp [Value.ownBlock]; omega)) (fun y hy => .inr (hne y hy)), ?_, ?_, fun b h2 h3 => ?_⟩
  · have := heap_setCell_same ((W.setCell ⟨g, i, none⟩ x).setCell ⟨g, L, none⟩ u) sb 1 #[v, .bool t] 123 (.bool !t) hs2
    exact this
  · exact (((hB.setCell hg _).setCell hg _).setCell hsb _).drew
  · show (((W.setCell ⟨g, i, none⟩ x).setCell ⟨g, L, none⟩ u).setCell ⟨sb, 1, none⟩ (.bool !t)).heap[b]? = _
    rw [Below.heap_setCell _ _ _ _ h3, Below.heap_setCell _ _ _ _ h2, Below.heap_setCell _ _ _ _ h2]
/-- A block of one type is none of an own row's of another one. -/
theorem own_type {w : World} {base n b : Nat} {e t : TypeId} {size : Nat} {v : Value} {xs : List Value} {cs : Array Value} {fr : Nat × Nat} (h : w.ownsRow base e size v n xs) (hb : w.heap[b]? = some (.cells cs t fr)) (hne : t ≠ e) : v.ownBlock ≠ some b := by
  intro hk
  rcases h.2 with ⟨rfl, _⟩ | ⟨g, cap, cur, rfl, _, hh, _⟩
  · simp [Value.ownBlock] at hk
  · have : g = b := by simpa [Value.ownBlock] using hk
    subst this
    rw [hb] at hh
    injection hh with hh
    injection hh with _ ht
    exact hne ht
end Go.Proofs.YtfljkcmijnhgkaaDoor
