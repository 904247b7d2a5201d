/- Sequences: what lies in a space of sequences that is closed under shifts is a recurrence of at most as many terms as span it; so sums, products and folded products are. -/
import Derived.Test.YtfljkcmijnhgkaaDoorKwc
import Derived.Test.YtfljkcmijnhgkaaDoorKm
namespace Go.Proofs.YtfljkcmijnhgkaaDoor
theorem S_trunc {n k : Nat} {f : Nat → Fp} (hk : k ≤ n) (h : ∀ i, k ≤ i → i < n → f i = 0) : S n f = S k f := by
  obtain ⟨d, rfl⟩ := Nat.exists_eq_add_of_le hk
  rw [S_split, S_zero (n := d) (fun i hi => h _ (by omega) (by omega))]; grind
theorem S_turn (n : Nat) (f : Nat → Fp) : S n f = S n (fun i => f (n - 1 - i)) := by
  induction n with
  | zero => rfl
  | succ n ih =>
    rw [S, ih, S_first n (fun i => f (n + 1 - 1 - i)), S_congr (n := n) (f := fun i => f (n + 1 - 1 - (i + 1))) (g := fun i => f (n - 1 - i)) (fun i _ => by rw [show n + 1 - 1 - (i + 1) = n - 1 - i by omega])]
    simp only [Nat.add_sub_cancel, Nat.sub_zero]; grind
theorem greatest {x : Nat → Fp} : ∀ {n : Nat}, (∃ i, i < n ∧ x i ≠ 0) → ∃ k, k < n ∧ x k ≠ 0 ∧ ∀ i, k < i → i < n → x i = 0
  | 0, ⟨i, h, _⟩ => by omega
  | n + 1, ⟨i, h, hi⟩ => by
    by_cases hn : x n = 0
    · obtain ⟨k, h1, h2, h3⟩ := greatest (n := n) (x := x) ⟨i, by rcases Nat.lt_succ_iff_lt_or_eq.1 h with h | h; exact h; rw [h] at hi; exact absurd hn hi, hi⟩
      exact ⟨k, by omega, h2, fun j h4 h5 => by by_cases e : j = n; rw [e]; exact hn; exact h3 j h4 (by omega)⟩
    · exact ⟨n, by omega, hn, fun j h4 h5 => by omega⟩
theorem Sp.shift {N : Nat} {e : Mx} (hsh : ∀ j, j < N → Sp N e (fun t => e j (t + 1))) {u : Nat → Fp} (hu : Sp N e u) : Sp N e (fun t => u (t + 1)) := by
  obtain ⟨c, hc⟩ := hu
  have h : Sp N (fun j t => e j (t + 1)) (fun t => u (t + 1)) := ⟨c, fun t => hc (t + 1)⟩
  exact h.trans hsh
/-- A recurrence of at most N terms. -/
theorem shift_rec {N : Nat} {e : Mx} (hsh : ∀ j, j < N → Sp N e (fun t => e j (t + 1))) {s : Nat → Fp} (hs : Sp N e s) : ∃ k, k ≤ N ∧ ∃ c : Nat → Fp, ∀ t, s (t + k) = S k (fun i => c i * s (t + i)) := by
  obtain ⟨x, hx0, hx⟩ := depend (N + 1) (List.range N) (fun i j => e j i) (by simp)
  obtain ⟨k, hk, hxk, hgt⟩ := greatest hx0
  have hm := mul_inv hxk
  have h0 : ∀ j, j < N → e j k = S k (fun i => - x i * inv (x k) * e j i) := fun j hj => by
    have h := hx j (List.mem_range.2 hj)
    rw [S_trunc (k := k + 1) (by omega) (fun i h1 h2 => by rw [hgt i (by omega) h2]; grind), S] at h
    rw [S_congr (g := fun i => - inv (x k) * (x i * e j i)) (fun i _ => by grind), S_mul]
    generalize S k (fun i => x i * e j i) = T at *
    grind
  have hrec : ∀ t, ∀ j, j < N → e j (t + k) = S k (fun i => - x i * inv (x k) * e j (t + i)) := fun t => by
    induction t with
    | zero => intro j hj; simp only [Nat.zero_add]; exact h0 j hj
    | succ t ih =>
      intro j hj
      obtain ⟨M, hM⟩ := hsh j hj
      replace hM : ∀ t, e j (t + 1) = S N (fun i => M i * e i t) := hM
      rw [show t + 1 + k = (t + k) + 1 by omega, hM (t + k), S_congr (g := fun q => S k (fun i => - x i * inv (x k) * (M q * e q (t + i)))) (fun q hq => by rw [ih q hq, ← S_mul]; exact S_congr fun i _ => by grind), S_swap]
      refine S_congr fun i _ => ?_
      rw [S_mul, show t + 1 + i = (t + i) + 1 by omega, hM (t + i)]
  obtain ⟨l, hl⟩ := hs
  refine ⟨k, by omega, fun i => - x i * inv (x k), fun t => ?_⟩
  rw [hl, S_congr (g := fun q => S k (fun i => - x i * inv (x k) * (l q * e q (t + i)))) (fun q hq => by rw [hrec t q hq, ← S_mul]; exact S_congr fun i _ => by grind), S_swap]
  refine S_congr fun i _ => ?_
  rw [S_mul, hl]
/-- A rule fits a list of a sequence that is a recurrence. -/
theorem fit_of_rec {L : List Int} (hb : ∀ x ∈ L, 0 ≤ x ∧ x < 65521) {s : Nat → Fp} (hL : ∀ j, j < L.length → toF (L.getD j 0) = s j) {k : Nat} (hk : k ≤ L.length) {c : Nat → Fp} (hrec : ∀ t, s (t + k) = S k (fun i => c i * s (t + i))) : (fitO L k).isSome = true := by
  have hs := solvedM_complete (rs := rowsL L k) (b := L.drop k) (n := L.length - k) (m := k) (okM_rowsL hb k) (fun x hx => hb x (List.mem_of_mem_drop hx)) (by rw [List.length_drop]) (y := fun j => c (k - 1 - j)) (fun i hi => by
    have e1 : toF ((L.drop k).getD i 0) = s (i + k) := by
      rw [List.getD_eq_getElem?_getD, List.getElem?_drop, ← List.getD_eq_getElem?_getD, hL _ (by omega), Nat.add_comm]
    rw [e1, hrec i, S_turn k (fun q => c q * s (i + q))]
    refine S_congr fun j hj => ?_
    have e2 : G (rowsL L k) i j = s (i + (k - 1 - j)) := by
      show toF (gM _ i j) = _
      rw [rowsL, gM_mat _ hi hj, hL _ (by omega), show k + i - 1 - j = i + (k - 1 - j) by omega]
    rw [e2]; grind)
  rw [fitO, hs]; rfl
/-- A rule's sequence. -/
def seqF (r : Rule) (t : Nat) : Fp := toF (termK r t)
theorem firstL_get (r : Rule) : ∀ (N j : Nat), j < N → (firstL r N).getD j 0 = termK r j := fun N => by
  induction N with
  | zero => intro j hj; omega
  | succ N ih =>
    intro j hj
    rw [firstL_succ, List.getD_eq_getElem?_getD]
    by_cases e : j < N
    · rw [List.getElem?_append_left (by rw [firstL_len]; exact e), ← List.getD_eq_getElem?_getD]; exact ih j e
    · have : j = N := by omega
      subst this
      rw [List.getElem?_append_right (by rw [firstL_len]; exact Nat.le_refl _), firstL_len, Nat.sub_self]; rfl
theorem seq_rec {r : Rule} (h : r.start.length = r.by_.length) (t : Nat) : seqF r (t + r.by_.length) = S r.by_.length (fun i => toF (r.by_.getD (r.by_.length - 1 - i) 0) * seqF r (t + i)) := by
  unfold seqF
  rw [termK, if_neg (by omega), nextT, toF_emod, toF_psum, S_turn]
  refine S_congr fun i hi => ?_
  rw [toF_emod, toF_mul, firstL_len, firstL_get _ _ _ (by omega), show t + r.by_.length - 1 - (r.by_.length - 1 - i) = t + i by omega]
/-- The shifts of a sequence. -/
def shR (a : Nat → Fp) : Mx := fun j t => a (t + j)
theorem shR_row {a : Nat → Fp} {m : Nat} {c : Nat → Fp} (hr : ∀ t, a (t + m) = S m (fun i => c i * a (t + i))) : ∀ j, j < m → Sp m (shR a) (fun t => shR a j (t + 1)) := fun j hj => by
  by_cases e : j + 1 < m
  · have := Sp.row (shR a) e
    rwa [show shR a (j + 1) = fun t => shR a j (t + 1) from funext fun t => by show a _ = a _; congr 1; omega] at this
  · have e2 : j + 1 = m := by omega
    exact ⟨c, fun t => by show a (t + 1 + j) = _; rw [show t + 1 + j = t + m by omega, hr]; rfl⟩
theorem shR_all {a : Nat → Fp} {m : Nat} {c : Nat → Fp} (hr : ∀ t, a (t + m) = S m (fun i => c i * a (t + i))) : ∀ j, Sp m (shR a) (fun t => a (t + j)) := fun j => by
  induction j with
  | zero =>
    by_cases h : 0 < m
    · exact Sp.row (shR a) h
    · obtain rfl : m = 0 := by omega
      exact ⟨c, fun t => hr t⟩
  | succ j ih =>
    have := ih.shift (shR_row hr)
    rwa [show (fun t => a (t + 1 + j)) = fun t => a (t + (j + 1)) from funext fun t => by congr 1; omega] at this
variable {a b : Nat → Fp} {m n : Nat} {c d : Nat → Fp}
theorem Sp.eq {N : Nat} {e : Mx} {u v : Nat → Fp} (h : Sp N e u) (he : ∀ t, v t = u t) : Sp N e v := by
  rw [show v = u from funext he]; exact h
/-- Sums. -/
theorem sum_rec (ha : ∀ t, a (t + m) = S m (fun i => c i * a (t + i))) (hb : ∀ t, b (t + n) = S n (fun i => d i * b (t + i))) : ∃ k, k ≤ m + n ∧ ∃ f : Nat → Fp, ∀ t, a (t + k) + b (t + k) = S k (fun i => f i * (a (t + i) + b (t + i))) := by
  have ra : ∀ i, i < m → Sp (m + n) (fun j t => if j < m then a (t + j) else b (t + (j - m))) (shR a i) := fun i hi => (Sp.row _ (show i < m + n by omega)).eq fun t => by simp only [hi, if_true]; rfl
  have rb : ∀ i, i < n → Sp (m + n) (fun j t => if j < m then a (t + j) else b (t + (j - m))) (shR b i) := fun i hi => (Sp.row _ (show m + i < m + n by omega)).eq fun t => by
    simp only [show ¬ m + i < m by omega, if_false, Nat.add_sub_cancel_left]; rfl
  have sa : ∀ j, Sp (m + n) (fun j t => if j < m then a (t + j) else b (t + (j - m))) (fun t => a (t + j)) := fun j => (shR_all ha j).trans ra
  have sb : ∀ j, Sp (m + n) (fun j t => if j < m then a (t + j) else b (t + (j - m))) (fun t => b (t + j)) := fun j => (shR_all hb j).trans rb
  refine shift_rec (N := m + n) (s := fun t => a t + b t) (fun j hj => ?_) (((sa 0).add (sb 0) 1 1).eq fun t => by simp only [Nat.add_zero]; grind)
  by_cases h : j < m
  · exact (sa (j + 1)).eq fun t => by simp only [h, if_true]; congr 1; omega
  · exact (sb (j - m + 1)).eq fun t => by simp only [h, if_false]; congr 1; omega
/-- Products term by term. -/
theorem times_rec (ha : ∀ t, a (t + m) = S m (fun i => c i * a (t + i))) (hb : ∀ t, b (t + n) = S n (fun i => d i * b (t + i))) : ∃ k, k ≤ m * n ∧ ∃ f : Nat → Fp, ∀ t, a (t + k) * b (t + k) = S k (fun i => f i * (a (t + i) * b (t + i))) := by
  have row : ∀ p q, p < m → q < n → Sp (m * n) (fun j t => a (t + j / n) * b (t + j % n)) (fun t => a (t + p) * b (t + q)) := fun p q hp hq => by
    have hlt : p * n + q < m * n := by
      have : (p + 1) * n ≤ m * n := Nat.mul_le_mul_right n hp
      rw [Nat.add_mul] at this; omega
    refine (Sp.row _ hlt).eq fun t => ?_
    have h1 : (p * n + q) / n = p := by
      rw [Nat.mul_comm, Nat.mul_add_div (by omega), Nat.div_eq_of_lt hq]; omega
    have h2 : (p * n + q) % n = q := by rw [Nat.mul_comm, Nat.mul_add_mod, Nat.mod_eq_of_lt hq]
    rw [h1, h2]
  have all : ∀ p q, Sp (m * n) (fun j t => a (t + j / n) * b (t + j % n)) (fun t => a (t + p) * b (t + q)) := fun p q => by
    obtain ⟨α, hα⟩ := shR_all ha p
    obtain ⟨β, hβ⟩ := shR_all hb q
    have h1 : ∀ i, i < m → Sp (m * n) (fun j t => a (t + j / n) * b (t + j % n)) (fun t => a (t + i) * b (t + q)) := fun i hi => by
      have h2 : Sp n (fun k t => a (t + i) * b (t + k)) (fun t => a (t + i) * b (t + q)) := ⟨β, fun t => by
        show a (t + i) * (fun t => b (t + q)) t = _
        rw [hβ, ← S_mul]; exact S_congr fun k _ => by show _ * (_ * b (t + k)) = _; grind⟩
      exact h2.trans fun k hk => row i k hi hk
    have h3 : Sp m (fun i t => a (t + i) * b (t + q)) (fun t => a (t + p) * b (t + q)) := ⟨α, fun t => by
      show (fun t => a (t + p)) t * b (t + q) = _
      rw [hα, ← S_mul']; exact S_congr fun i _ => by show α i * a (t + i) * _ = _; grind⟩
    exact h3.trans h1
  exact shift_rec (N := m * n) (s := fun t => a t * b t) (fun j hj => (all (j / n + 1) (j % n + 1)).eq fun t => by
    rw [show t + 1 + j / n = t + (j / n + 1) by omega, show t + 1 + j % n = t + (j % n + 1) by omega]) ((all 0 0).eq fun t => rfl)
/-- Folded products, the second sequence shifted. -/
def fold (a b : Nat → Fp) (q t : Nat) : Fp := S (t + 1) (fun i => a i * b (t - i + q))
theorem fold_succ (a b : Nat → Fp) (q t : Nat) : fold a b q (t + 1) = fold a b (q + 1) t + b q * a (t + 1) := by
  unfold fold
  rw [S, S_congr (g := fun i => a i * b (t - i + (q + 1))) (fun i hi => by rw [show t + 1 - i + q = t - i + (q + 1) by omega]), Nat.sub_self, Nat.zero_add]; grind
theorem fold_rec (ha : ∀ t, a (t + m) = S m (fun i => c i * a (t + i))) (hb : ∀ t, b (t + n) = S n (fun i => d i * b (t + i))) : ∃ k, k ≤ m + n ∧ ∃ f : Nat → Fp, ∀ t, fold a b 0 (t + k) = S k (fun i => f i * fold a b 0 (t + i)) := by
  have ra : ∀ i, i < m → Sp (m + n) (fun j t => if j < m then a (t + j) else fold a b (j - m) t) (shR a i) := fun i hi => (Sp.row _ (show i < m + n by omega)).eq fun t => by simp only [hi, if_true]; rfl
  have sa : ∀ j, Sp (m + n) (fun j t => if j < m then a (t + j) else fold a b (j - m) t) (fun t => a (t + j)) := fun j => (shR_all ha j).trans ra
  have rf : ∀ q, q < n → Sp (m + n) (fun j t => if j < m then a (t + j) else fold a b (j - m) t) (fold a b q) := fun q hq => (Sp.row _ (show m + q < m + n by omega)).eq fun t => by
    simp only [show ¬ m + q < m by omega, if_false, Nat.add_sub_cancel_left]
  have rn : Sp (m + n) (fun j t => if j < m then a (t + j) else fold a b (j - m) t) (fold a b n) := by
    have h : Sp n (fun q => fold a b q) (fold a b n) := ⟨d, fun t => by
      unfold fold
      rw [S_congr (g := fun i => S n (fun q => d q * (a i * b (t - i + q)))) (fun i _ => by rw [hb, ← S_mul]; exact S_congr fun q _ => by grind), S_swap]
      exact S_congr fun q _ => by rw [S_mul]⟩
    exact h.trans rf
  have all : ∀ q, q ≤ n → Sp (m + n) (fun j t => if j < m then a (t + j) else fold a b (j - m) t) (fold a b q) := fun q hq => by
    by_cases e : q = n
    · rw [e]; exact rn
    · exact rf q (by omega)
  refine shift_rec (N := m + n) (s := fold a b 0) (fun j hj => ?_) (all 0 (by omega))
  by_cases h : j < m
  · exact (sa (j + 1)).eq fun t => by simp only [h, if_true]; congr 1; omega
  · exact ((all (j - m + 1) (by omega)).add (sa 1) 1 (b (j - m))).eq fun t => by simp only [h, if_false]; rw [fold_succ]; grind
/-- The sequence that two are put together to. -/
def joinF (h : Nat) (r s : Rule) (t : Nat) : Fp := match h with
  | 0 => seqF r t + seqF s t
  | 1 => seqF r t * seqF s t
  | _ => fold (seqF r) (seqF s) 0 t
theorem joinL_get (h : Nat) (r s : Rule) (j : Nat) (hj : j < (joinL h r s).length) : toF ((joinL h r s).getD j 0) = joinF h r s j := by
  rw [joinL_len] at hj
  have e : (joinL h r s).getD j 0 = joinT h (firstL r (2 * joinO h r.by_.length s.by_.length)) (firstL s (2 * joinO h r.by_.length s.by_.length)) j := by
    rw [joinL, List.getD_eq_getElem?_getD, List.getElem?_map, List.getElem?_range hj]; rfl
  rw [e]
  match h with
  | 0 => show toF ((_ + _) % 65521) = _; rw [toF_emod, toF_add, firstL_get _ _ _ hj, firstL_get _ _ _ hj]; rfl
  | 1 => show toF (_ * _ % 65521) = _; rw [toF_emod, toF_mul, firstL_get _ _ _ hj, firstL_get _ _ _ hj]; rfl
  | h + 2 =>
    show toF (psum _ _ % 65521) = _
    rw [toF_emod, toF_psum]
    show _ = fold (seqF r) (seqF s) 0 j
    unfold fold
    refine S_congr fun i hi => ?_
    rw [toF_emod, toF_mul, firstL_get _ _ _ (by omega), firstL_get _ _ _ (by omega), Nat.add_zero]; rfl
theorem joinF_rec {h : Nat} {r s : Rule} (hr : r.start.length = r.by_.length) (hs : s.start.length = s.by_.length) : ∃ k, k ≤ joinO h r.by_.length s.by_.length ∧ ∃ f : Nat → Fp, ∀ t, joinF h r s (t + k) = S k (fun i => f i * joinF h r s (t + i)) := by
  match h with
  | 0 => exact sum_rec (seq_rec hr) (seq_rec hs)
  | 1 => exact times_rec (seq_rec hr) (seq_rec hs)
  | h + 2 =>
    rw [show joinO (h + 2) r.by_.length s.by_.length = r.by_.length + s.by_.length from rfl]
    exact fold_rec (seq_rec hr) (seq_rec hs)
end Go.Proofs.YtfljkcmijnhgkaaDoor
